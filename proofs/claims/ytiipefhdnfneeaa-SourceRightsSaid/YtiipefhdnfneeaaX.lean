/- netlist.Of and what is told of a net. -/
import Derived.Test.YtiipefhdnfneeaaW
namespace Go.Proofs.Try
open Go.RowKit Go.Gw
set_option maxRecDepth 100000
set_option linter.unusedSimpArgs false
set_option linter.unusedVariables false

theorem grown_of_below {w w' : World} (h : Below w.heap.size w w') : w.grownBy w' none := ⟨h.os, h.tape, h.output, h.size, fun i hi _ => h.block i hi⟩
def NetEqs (v : NetVal) (es : List El) : Prop := v.L = es ∧ v.N = nodesOf es ∧ v.K = branchesOf es ∧ v.n1 = es.length ∧ v.n2 = (nodesOf es).length ∧ v.n3 = (branchesOf es).length ∧ v.f1 = placeIn (namesOf es) ∧ v.f2 = placeIn (nodesOf es) ∧ v.f3 = placeIn (branchesOf es)
theorem NetOwn.far {w w' : World} {B p : Nat} {v : NetVal} (h : NetOwn w B p v) {g : Nat} (hlt : g < B) (hg : w.grownBy w' (some g)) : NetOwn w' B p v := by
  have own : ∀ {e : TypeId} {size n : Nat} {u : Value} {xs : List Value}, w.ownsRow B e size u n xs → w'.ownsRow B e size u n xs := fun o =>
    own_other o hg (fun b hb e => by have := (own_lt o hb).1; have := Option.some.inj e; omega)
  have map : ∀ {m n : Nat} {f : ByteArray → Option Nat}, B ≤ m → SMap w m n f → SMap w' m n f := fun hm s => s.kept hg (by simp; omega)
  exact ⟨(grown_heap hg h.lt (by have := h.bp; simp; omega)).trans h.blk, h.bp, own h.l, own h.n, own h.b, map h.b1 h.s1, map h.b2 h.s2, map h.b3 h.s3, h.b1, h.b2, h.b3, h.n12, h.n13, h.n23, h.nb⟩
/-- Block p is the net of the elements es. -/
def NetIs (w : World) (p : Nat) (es : List El) : Prop :=
  ∃ B v, NetOwn w B p v ∧ NetEqs v es
theorem NetIs.below {w w' : World} {p : Nat} {es : List El} (h : NetIs w p es) (hb : Below w.heap.size w w') : NetIs w' p es := by
  obtain ⟨B, v, h1, h2⟩ := h
  exact ⟨B, v, h1.keep (grown_of_below hb), h2⟩
theorem NetIs.lt {w : World} {p : Nat} {es : List El} (h : NetIs w p es) : p < w.heap.size := by
  obtain ⟨B, v, h1, h2⟩ := h; exact h1.lt
theorem is_yes (w : World) (p : Nat) (h : w.cell? ⟨p, 0, none⟩ = some (.bool true)) : Calls Try.prog 124 #[.pointer (some ⟨p, 0, none⟩)] w (fun e w' => e = .returned (.bool true) ∧ w' = w) := by
  refine calls_post fun R hR => ?_
  go_enter Try.func124, Try.ntmps124
  go_wp2
theorem is_no (w : World) : Calls Try.prog 124 #[.pointer none] w (fun e w' => e = .returned (.bool false) ∧ w' = w) := by
  refine calls_post fun R hR => ?_
  go_enter Try.func124, Try.ntmps124
  go_wp2
theorem order_own (w : World) (B p : Nat) (v : NetVal) (h : NetOwn w B p v) (hs : v.N.length + v.K.length < 9223372036854775808) : Calls Try.prog 90 #[.pointer (some ⟨p, 0, none⟩)] w (fun e w' => e = .returned (.int .i64 ((v.N.length + v.K.length : Nat) : Int)) ∧ Below w.heap.size w w') := by
  refine calls_post fun R hR => ?_
  obtain ⟨c0, c1, c2, c3, c4, c5, c6, hf⟩ := seven_cells h.blk
  obtain ⟨na, nc, hnv⟩ := own_slice1 h.n
  obtain ⟨ba, bc, hbv⟩ := own_slice1 h.b
  simp only [hnv] at c3; simp only [hbv] at c5
  have hw : IntKind.i64.wrap ((v.N.length : Int) + (v.K.length : Int)) = (v.N.length : Int) + v.K.length := IntWalk.i64_in _ ⟨by omega, by omega⟩
  go_enter Try.func90, Try.ntmps90
  go_wp2_with (go_at_call 124; refine (is_yes _ _ c0).mono ?_; rintro e w1 ⟨rfl, rfl⟩)
  go_region_held3 (fun w' => w'.cell? ⟨p, 3, none⟩ = some (.slice na v.N.length nc) ∧ w'.cell? ⟨p, 5, none⟩ = some (.slice ba v.K.length bc))
    (first | exact ⟨c3, c5⟩ | go_keep)
    (first | fail)
  go_wp2
  exact ⟨by simp, (Below.refl _ _).drew⟩

theorem net_new (w : World) : NetOwn (((((w.alloc (.cells #[.int .i64 0, .int .i64 0] 44)).alloc (.map #[] 0)).alloc (.map #[] 0)).alloc (.map #[] 0)).alloc (.cells #[.bool true, .slice none 0 0, .map (some (w.heap.size + 1)), .slice none 0 0, .map (some (w.heap.size + 1 + 1)), .slice none 0 0, .map (some (w.heap.size + 1 + 1 + 1))] 117)) (w.heap.size + 1) (w.heap.size + 1 + 1 + 1 + 1)
        ⟨.slice none 0 0, .slice none 0 0, .slice none 0 0, w.heap.size + 1, w.heap.size + 1 + 1, w.heap.size + 1 + 1 + 1, [], [], [], 0, 0, 0, fun _ => none, fun _ => none, fun _ => none⟩ := by
  have z0 : ∀ (w : World) (o : Obj), (w.alloc o).heap.size = w.heap.size + 1 := fun w o => by simp
  have s1 := smap_made (w.alloc (.cells #[.int .i64 0, .int .i64 0] 44))
  have s2 := smap_made ((w.alloc (.cells #[.int .i64 0, .int .i64 0] 44)).alloc (.map #[] 0))
  have s3 := smap_made (((w.alloc (.cells #[.int .i64 0, .int .i64 0] 44)).alloc (.map #[] 0)).alloc (.map #[] 0))
  rw [z0] at s1
  rw [z0, z0] at s2
  rw [z0, z0, z0] at s3
  refine ⟨?_, by omega, World.ownsRow_nil _ _ _ _, World.ownsRow_nil _ _ _ _, World.ownsRow_nil _ _ _ _, ?_, ?_, ?_, by simp, by simp, by simp, by simp, by simp, by simp, fun g hg => by cases hg⟩
  · have := alloc_self ((((w.alloc (.cells #[.int .i64 0, .int .i64 0] 44)).alloc (.map #[] 0)).alloc (.map #[] 0)).alloc (.map #[] 0)) (.cells #[.bool true, .slice none 0 0, .map (some (w.heap.size + 1)), .slice none 0 0, .map (some (w.heap.size + 1 + 1)), .slice none 0 0, .map (some (w.heap.size + 1 + 1 + 1))] 117)
    rw [z0, z0, z0, z0] at this
    exact this
  · exact ((s1.kept (World.grownBy_alloc _ _ none) (by simp)).kept (World.grownBy_alloc _ _ none) (by simp)).kept (World.grownBy_alloc _ _ none) (by simp)
  · exact (s2.kept (World.grownBy_alloc _ _ none) (by simp)).kept (World.grownBy_alloc _ _ none) (by simp)
  · exact s3.kept (World.grownBy_alloc _ _ none) (by simp)
/-- What Of tells of these elements. -/
def NetRes (w' : World) (es : List El) (r : Value) : Prop :=
  (netFault es = (0, 0) ∧ ∃ p, r = .tuple #[.pointer (some ⟨p, 0, none⟩), .agg #[.int .i64 0, .int .i64 0]] ∧ NetIs w' p es)
  ∨ (netFault es ≠ (0, 0) ∧ r = .tuple #[.pointer none, .agg #[.int .i64 (netFault es).1, .int .i64 (netFault es).2]])
theorem faultFrom_step (done : List El) (e : El) (es : List El) : faultFrom done (e :: es) = if e.check ≠ 0 then some (e.check, (done.length : Int)) else if done.any (fun x => seq x.name e.name) then some (9, (done.length : Int)) else faultFrom (done ++ [e]) es := rfl
theorem drop_step {es : List El} {k : Nat} (h : k < es.length) : es.drop k = es.getD k el0 :: es.drop (k + 1) := by
  rw [List.drop_eq_getElem_cons h, List.getD_eq_getElem?_getD, List.getElem?_eq_getElem h]; rfl
theorem take_step {es : List El} {k : Nat} (h : k < es.length) : es.take (k + 1) = es.take k ++ [es.getD k el0] := by
  rw [List.take_succ_eq_append_getElem h, List.getD_eq_getElem?_getD, List.getElem?_eq_getElem h]; rfl
theorem check_sizes {e : El} (h : e.check = 0) : e.name.size ≤ 16 ∧ e.a.size ≤ 16 ∧ e.b.size ≤ 16 ∧ e.c.size ≤ 16 ∧ e.d.size ≤ 16 := by
  unfold El.check at h
  split at h
  · simp at h
  · rename_i hk
    split at h
    · simp at h
    · rename_i hn
      split at h
      · simp at h
      · rename_i hf
        simp only [Bool.not_eq_false] at hn hf
        simp only [El.named, Bool.and_eq_true, Bool.or_eq_true, Bool.not_eq_true', decide_eq_true_eq] at hn
        simp only [El.fits, Bool.and_eq_true, Bool.or_eq_true, Bool.not_eq_true'] at hf
        have node : ∀ s, nodeB s = true → s.size ≤ 16 := by
          intro s hs
          simp only [nodeB, Bool.and_eq_true, decide_eq_true_eq] at hs
          exact hs.1.2
        have emp : ∀ s, seq s ⟨#[]⟩ = true → s.size ≤ 16 := by
          intro s hs
          rw [seq_iff.1 hs]; decide
        obtain ⟨⟨⟨⟨h1, _⟩, h3⟩, h4⟩, h5⟩ := hn
        refine ⟨?_, node _ h3, node _ h4, ?_, ?_⟩
        · unfold nameOf at h1
          split at h1
          · rename_i hb
            simp only [nameB, Bool.and_eq_true, decide_eq_true_eq] at hb
            exact hb.1.2
          · exact absurd rfl h1
        · rcases h5 with h5 | h5
          · rcases hf.1.2 with h6 | h6
            · rw [h5] at h6; cases h6
            · exact emp _ h6.1
          · exact node _ h5.1
        · rcases h5 with h5 | h5
          · rcases hf.1.2 with h6 | h6
            · rw [h5] at h6; cases h6
            · exact emp _ h6.2
          · exact node _ h5.2
theorem nodesOf_len (es : List El) : (nodesOf es).length ≤ 4 * es.length := by
  have key : ∀ (es : List El) (ns : List ByteArray), (es.foldl addEl ns).length ≤ ns.length + 4 * es.length := by
    intro es
    induction es with
    | nil => intro ns; simp
    | cons e es ih => intro ns; have h1 := ih (addEl ns e); have h2 := addEl_length ns e; simp only [List.foldl_cons, List.length_cons]; omega
  have := key es []
  simpa [nodesOf] using this
theorem branchesOf_len (es : List El) : (branchesOf es).length ≤ es.length := by
  unfold branchesOf; rw [List.length_map]; exact List.length_filter_le _ _
theorem branch_any {es : List El} {s : ByteArray} (h : es.any (fun y => seq y.name s) = false) : (branchesOf es).any (fun y => seq y s) = false := by
  rw [List.any_eq_false] at h ⊢
  intro x hx
  simp only [branchesOf, List.mem_map, List.mem_filter] at hx
  obtain ⟨y, ⟨hy, _⟩, rfl⟩ := hx
  exact h y hy
theorem two_cells {w : World} {b : Nat} {v0 v1 : Value} {t : TypeId} (h : w.heap[b]? = some (.cells #[v0, v1] t)) : w.cell? ⟨b, 0, none⟩ = some v0 ∧ w.cell? ⟨b, 1, none⟩ = some v1 ∧ (∀ o, w.frozen? ⟨b, o, none⟩ = false) := by
  refine ⟨?_, ?_, ?_⟩
  all_goals first | (simp only [World.cell?, h]; rfl) | (intro o; simp [World.frozen?, h])
set_option maxHeartbeats 4000000 in
theorem of_net (a : Option Addr) (n c : Nat) (es : List El) (w : World) (h : Row w a (elCells es)) (l : es.length = n) (hv : ∀ e ∈ es, e.val < 2 ^ 64) :
    Calls Try.prog 32 #[.slice a n c] w (fun e w' => (∃ r, e = .returned r ∧ NetRes w' es r) ∧ Below w.heap.size w w') := by
  refine calls_post fun R hR => ?_
  have hmm := @run_makeMap Try.prog
  by_cases hn : n ≤ 256
  · go_enter Try.func32, Try.ntmps32
    go_wp2
    have hW0 : NetOwn (((((w.alloc (.cells #[.int .i64 0, .int .i64 0] 44)).alloc (.map #[] 0)).alloc (.map #[] 0)).alloc (.map #[] 0)).alloc (.cells #[.bool true, .slice none 0 0, .map (some (w.heap.size + 1)), .slice none 0 0, .map (some (w.heap.size + 1 + 1)), .slice none 0 0, .map (some (w.heap.size + 1 + 1 + 1))] 117)) (w.heap.size + 1) (w.heap.size + 1 + 1 + 1 + 1)
        ⟨.slice none 0 0, .slice none 0 0, .slice none 0 0, w.heap.size + 1, w.heap.size + 1 + 1, w.heap.size + 1 + 1 + 1, [], [], [], 0, 0, 0, fun _ => none, fun _ => none, fun _ => none⟩ := net_new w
    go_loopw [21] (fun i wr => ∃ k : Nat, k ≤ n ∧ i = .int .i64 k ∧ (∃ v, NetOwn wr (w.heap.size + 1) (w.heap.size + 1 + 1 + 1 + 1) v ∧ NetEqs v (es.take k)) ∧ Below (w.heap.size + 1) (w.alloc (.cells #[.int .i64 0, .int .i64 0] 44)) wr ∧ Hid (faultFrom [] es = faultFrom (es.take k) (es.drop k))) (fun i _ => n - (intOf i).toNat)
    case atStart => exact ⟨0, Nat.zero_le _, rfl, ⟨_, hW0, rfl, rfl, rfl, rfl, rfl, rfl, rfl, rfl, rfl⟩, (((((Below.refl _ _).alloc (by simp) _).alloc (by simp) _).alloc (by simp) _).alloc (by simp) _), Lib.hid rfl⟩
    case round =>
      obtain ⟨k, hk, rfl, ⟨v, p1, E⟩, hb, F⟩ := hrel
      have L := Lib.hid l; clear l
      by_cases hlt : k < n
      · have hlz : k < es.length := by have := L.out; omega
        obtain ⟨b, off, rfl⟩ := row_some h (j := k * 8) (by rw [elCells_length]; omega)
        have hh : Row wr (some ⟨b, off, none⟩) (elCells es) := h.below ((((Below.refl _ _).alloc (Nat.le_refl _) _)).trans (hb.mono (by omega)))
        obtain ⟨e0, e1, e2, e3, e4, e5, e6, e7⟩ := row_el hh hlz
        have hvz : (es.getD k el0).val < 2 ^ 64 := hv _ (by rw [List.getD_eq_getElem?_getD, List.getElem?_eq_getElem hlz]; exact List.getElem_mem hlz)
        have hF := F.out
        rw [drop_step hlz, faultFrom_step, ← take_step hlz] at hF
        have hlen : (es.take k).length = k := by simp; omega
        rw [hlen] at hF
        have HF := Lib.hid hF; clear hF F
        generalize hz : es.getD k el0 = z at e0 e1 e2 e3 e4 e5 e6 e7 hvz HF
        have HZ := Lib.hid hz; clear hz
        obtain ⟨kind, name, na, nb, nc, nd, val, ph⟩ := z
        have hB := hb.size
        simp at hB
        obtain ⟨c0, c1, c2, c3, c4, c5, c6, hf⟩ := seven_cells p1.blk
        have hpl := p1.lt
        by_cases hck : (⟨kind, name, na, nb, nc, nd, val, ph⟩ : El).check = 0
        · have hcb : ((⟨kind, name, na, nb, nc, nd, val, ph⟩ : El).check != 0) = false := by simpa using hck
          obtain ⟨z1, z2, z3, z4, z5⟩ := check_sizes hck
          simp only at z1 z2 z3 z4 z5
          have HCK := Lib.hid hck; clear hck
          have hrc : wr.heap[w.heap.size]? = _ := (hb.block w.heap.size (by omega)).trans (alloc_self _ _)
          have hrl : w.heap.size < wr.heap.size := (Array.getElem?_eq_some_iff.1 hrc).1
          go_upto_region 10 with (go_at_call 88; refine (check_any ⟨kind, name, na, nb, nc, nd, val, ph⟩ _ hvz).mono ?_; rintro e w1 ⟨rfl, hb1⟩; have hr1 : w1.heap[w.heap.size]? = _ := (hb1.block w.heap.size (by simp; omega)).trans ((Below.heap_alloc _ _ _ hrl).trans hrc); obtain ⟨t0, t1, tf⟩ := two_cells hr1)
          have p2 := (p1.alloc (boxOf kind name na nb nc nd val ph)).keep (grown_of_below hb1)
          have hx1 : w1.heap[wr.heap.size]? = some (boxOf kind name na nb nc nd val ph) := (hb1.block wr.heap.size (by simp)).trans (alloc_self _ _)
          obtain ⟨d0, d1, d2, d3, d4, d5, d6, d7⟩ := eight_cells hx1
          obtain ⟨k0, k1, k2, k3, k4, k5, k6, kf⟩ := seven_cells p2.blk
          have hB2 : Below (w.heap.size + 1) (w.alloc (.cells #[.int .i64 0, .int .i64 0] 44)) w1 := below_call (hb.alloc (by omega) _) hb1 (by simp; omega)
          have hlook := smap_run p2.drew.s1 (s := name) (by unfold maxLen; omega)
          have hany : (v.f1 name).isSome = (es.take k).any (fun x => seq x.name name) := by
            rw [E.2.2.2.2.2.2.1, placeIn_some, namesOf, List.any_map]; rfl
          cases x1 : (v.f1 name).isSome
          · rw [x1] at hlook hany
            have HN := Lib.hid hany; clear hany x1
            go_region_held3 (fun w' => w'.cell? ⟨w.heap.size + 1 + 1 + 1 + 1, 2, none⟩ = some (.map (some v.m1)) ∧ w'.cell? ⟨wr.heap.size, 1, none⟩ = some (.string name))
              (first | exact ⟨k2, d1⟩ | go_keep)
              (first | fail)
            have hE := E
            obtain ⟨a1, a2, a3, a4, a5, a6, a7, a8, a9⟩ := hE
            have hp := put_any (w.heap.size + 1) (w.heap.size + 1 + 1 + 1 + 1) v ⟨kind, name, na, nb, nc, nd, val, ph⟩ w1.drew p2.drew (by have := hB2.size; simp at this; exact this)
              (by rw [a1, hlen]; omega) (by rw [a1, a2]; exact nodesOf_len _) (by rw [a1, a3]; exact branchesOf_len _) (by rw [a4, a1]) (by rw [a5, a2]) (by rw [a6, a3]) (by unfold maxLen; simp only; omega) (by rw [a7, a1]) (by rw [a8, a2]) (by rw [a9, a3])
              (by rw [a1]; exact HN.out.symm) (by rw [a3]; exact branch_any HN.out.symm) (by unfold maxLen; simp only; omega)
            have HA := Lib.hid (And.intro a1 (And.intro a2 (And.intro a3 (And.intro a4 (And.intro a5 a6)))))
            clear a1 a2 a3 a4 a5 a6 a7 a8 a9
            go_wp2_with (go_at_call 89; refine hp.mono ?_; rintro e w2 ⟨rfl, ⟨v', q1, q2⟩, hb2⟩)
            obtain ⟨a1, a2, a3, a4, a5, a6⟩ := HA.out
            obtain ⟨b1, b2, b3, b4, b5, b6, b7, b8, b9⟩ := q2
            refine ⟨⟨k + 1, by omega, rfl, ⟨v', q1, ?_⟩, ?_, ?_⟩, by simp [intOf]; omega⟩
            · have ht : es.take (k + 1) = es.take k ++ [⟨kind, name, na, nb, nc, nd, val, ph⟩] := by rw [take_step hlz, HZ.out]
              have c1 : v'.L = es.take (k + 1) := by rw [b1, a1, ht]
              have c2 : v'.N = nodesOf (es.take (k + 1)) := by rw [b2, a2, ht, nodesOf_snoc]
              have c3 : v'.K = branchesOf (es.take (k + 1)) := by rw [b3, a3, ht, branchesOf_snoc]
              exact ⟨c1, c2, c3, by rw [b4, c1], by rw [b5, c2], by rw [b6, c3], by rw [b7, c1], by rw [b8, c2], by rw [b9, c3]⟩
            · exact hB2.drew.trans hb2
            · have h1 := HF.out
              have hne : ¬ ((⟨kind, name, na, nb, nc, nd, val, ph⟩ : El).check ≠ 0) := by rw [HCK.out]; simp
              rw [if_neg hne, if_neg (by rw [← HN.out]; simp)] at h1
              exact Lib.hid h1
          · rw [x1] at hlook hany
            have HN := Lib.hid hany; clear hany x1
            go_region_held3 (fun w' => w'.cell? ⟨w.heap.size + 1 + 1 + 1 + 1, 2, none⟩ = some (.map (some v.m1)) ∧ w'.cell? ⟨wr.heap.size, 1, none⟩ = some (.string name))
              (first | exact ⟨k2, d1⟩ | go_keep)
              (first | fail)
            go_wp2
            have hnf : netFault es = (9, (k : Int)) := by
              unfold netFault
              have hne : ¬ ((⟨kind, name, na, nb, nc, nd, val, ph⟩ : El).check ≠ 0) := by rw [HCK.out]; simp
              rw [if_neg (by have := L.out; omega), HF.out, if_neg hne, if_pos HN.out.symm]
            refine bodyPost_ret (v := .tuple #[.pointer none, .agg #[.int .i64 9, .int .i64 k]]) ?_ rfl (hR _ _ ⟨⟨_, rfl, Or.inr ⟨(by rw [hnf]; intro e; cases e), by rw [hnf]⟩⟩, ?_⟩)
            · simp [results, Try.results32, go_sem, World.cell?_setCell_same', t0, t1]
            · refine Below.drew ?_
              repeat' refine Below.setCell ?_ (by simp) _
              exact ((Below.refl _ _).alloc (Nat.le_refl _) _).trans (hB2.mono (by omega))
        · have hcb : ((⟨kind, name, na, nb, nc, nd, val, ph⟩ : El).check != 0) = true := by simpa using hck
          have HCK := Lib.hid hck; clear hck
          have hrc : wr.heap[w.heap.size]? = _ := (hb.block w.heap.size (by omega)).trans (alloc_self _ _)
          have hrl : w.heap.size < wr.heap.size := (Array.getElem?_eq_some_iff.1 hrc).1
          go_wp2_with (go_at_call 88; refine (check_any ⟨kind, name, na, nb, nc, nd, val, ph⟩ _ hvz).mono ?_; rintro e w1 ⟨rfl, hb1⟩; have hr1 : w1.heap[w.heap.size]? = _ := (hb1.block w.heap.size (by simp; omega)).trans ((Below.heap_alloc _ _ _ hrl).trans hrc); obtain ⟨t0, t1, tf⟩ := two_cells hr1)
          have hnf : netFault es = ((⟨kind, name, na, nb, nc, nd, val, ph⟩ : El).check, (k : Int)) := by
            unfold netFault
            rw [if_neg (by have := L.out; omega), HF.out, if_pos HCK.out]
          refine bodyPost_ret (v := .tuple #[.pointer none, .agg #[.int .i64 (⟨kind, name, na, nb, nc, nd, val, ph⟩ : El).check, .int .i64 k]]) ?_ rfl (hR _ _ ⟨⟨_, rfl, Or.inr ⟨by rw [hnf]; intro e; exact HCK.out (congrArg Prod.fst e), by rw [hnf]⟩⟩, ?_⟩)
          · simp [results, Try.results32, go_sem, World.cell?_setCell_same', t0, t1]
          · repeat' refine Below.setCell ?_ (by simp) _
            exact below_call ((((Below.refl _ _).alloc (Nat.le_refl _) _).trans (hb.mono (by omega))).alloc (by omega) _) hb1 (by simp; omega)
      · have hkn : k = n := by omega
        subst hkn
        have hle : es.length ≤ k := by have := L.out; omega
        rw [List.take_of_length_le hle] at E F
        have hF : faultFrom [] es = none := by rw [F.out, List.drop_eq_nil_of_le hle]; rfl
        clear F
        have hnl : v.N.length ≤ 1024 := by rw [E.2.1]; have := nodesOf_len es; omega
        have hkl : v.K.length ≤ 256 := by rw [E.2.2.1]; have := branchesOf_len es; omega
        have hcnt : (nodesOf es).length = v.N.length ∧ (branchesOf es).length = v.K.length := by rw [E.2.1, E.2.2.1]; exact ⟨rfl, rfl⟩
        have hnf : netFault es = if 32 < v.N.length ∨ 64 < v.N.length + v.K.length then (3, -1) else (0, 0) := by
          unfold netFault
          rw [if_neg (by omega), hF, hcnt.1, hcnt.2]
        have HE := Lib.hid E; clear E hcnt
        have HF := Lib.hid hF; clear hF
        obtain ⟨c0, c1, c2, c3, c4, c5, c6, hf⟩ := seven_cells p1.blk
        obtain ⟨na, nc, hnv⟩ := own_slice1 p1.n
        simp only [hnv] at c3
        have hrc : wr.heap[w.heap.size]? = _ := (hb.block w.heap.size (by omega)).trans (alloc_self _ _)
        obtain ⟨t0, t1, tf⟩ := two_cells hrc
        have hBw : Below w.heap.size w wr := ((Below.refl _ _).alloc (Nat.le_refl _) _).trans (hb.mono (by omega))
        by_cases h32 : 32 < v.N.length
        · rw [if_pos (Or.inl h32)] at hnf
          have HNF := Lib.hid hnf; clear hnf
          go_wp2
          refine bodyPost_ret (v := .tuple #[.pointer none, .agg #[.int .i64 3, .int .i64 (-1)]]) ?_ rfl (hR _ _ ⟨⟨_, rfl, Or.inr ⟨(by rw [HNF.out]; decide), by rw [HNF.out]⟩⟩, ?_⟩)
          · simp [results, Try.results32, go_sem, World.cell?_setCell_same', t0, t1]
          · repeat' refine Below.setCell ?_ (by simp) _
            exact hBw
        · by_cases h64 : 64 < v.N.length + v.K.length
          · rw [if_pos (Or.inr h64)] at hnf
            have HNF := Lib.hid hnf; clear hnf
            go_wp2_with (go_at_call 90; refine (order_own _ _ _ _ p1 (by omega)).mono ?_; rintro e w1 ⟨rfl, hb1⟩; have hr1 : w1.heap[w.heap.size]? = _ := (hb1.block w.heap.size (Array.getElem?_eq_some_iff.1 hrc).1).trans hrc; obtain ⟨t0, t1, tf⟩ := two_cells hr1)
            refine bodyPost_ret (v := .tuple #[.pointer none, .agg #[.int .i64 3, .int .i64 (-1)]]) ?_ rfl (hR _ _ ⟨⟨_, rfl, Or.inr ⟨(by rw [HNF.out]; decide), by rw [HNF.out]⟩⟩, ?_⟩)
            · simp [results, Try.results32, go_sem, World.cell?_setCell_same', t0, t1]
            · repeat' refine Below.setCell ?_ (by simp) _
              exact below_call hBw hb1 hBw.size
          · rw [if_neg (by omega)] at hnf
            have HNF := Lib.hid hnf; clear hnf
            go_wp2_with (go_at_call 90; refine (order_own _ _ _ _ p1 (by omega)).mono ?_; rintro e w1 ⟨rfl, hb1⟩; have hr1 : w1.heap[w.heap.size]? = _ := (hb1.block w.heap.size (Array.getElem?_eq_some_iff.1 hrc).1).trans hrc; obtain ⟨t0, t1, tf⟩ := two_cells hr1)
            have hBf : Below w.heap.size w w1 := below_call hBw hb1 hBw.size
            refine bodyPost_ret (v := .tuple #[.pointer (some ⟨w.heap.size + 1 + 1 + 1 + 1, 0, none⟩), .agg #[.int .i64 0, .int .i64 0]]) ?_ rfl (hR _ _ ⟨⟨_, rfl, Or.inl ⟨HNF.out, _, rfl, ?_⟩⟩, ?_⟩)
            · simp [results, Try.results32, go_sem, World.cell?_setCell_same', t0, t1]
            · exact ⟨_, v, ((p1.keep (grown_of_below hb1)).far (by omega) (grown_set w1 w.heap.size 0 _)).far (by omega) (grown_set _ w.heap.size 1 _), HE.out⟩
            · repeat' refine Below.setCell ?_ (by simp) _
              exact hBf
  · have hf : netFault es = (3, -1) := by unfold netFault; rw [if_pos (by omega)]
    go_enter Try.func32, Try.ntmps32
    go_wp2
    refine bodyPost_ret (v := .tuple #[.pointer none, .agg #[.int .i64 3, .int .i64 (-1)]]) ?_ rfl (hR _ _ ⟨⟨_, rfl, Or.inr ⟨by rw [hf]; decide, by rw [hf]⟩⟩, ?_⟩)
    · simp [results, Try.results32, go_sem, World.cell?_setCell_same']
    · repeat' refine Below.setCell ?_ (by simp) _
      exact (Below.refl _ _).alloc (Nat.le_refl _) _
end Go.Proofs.Try
