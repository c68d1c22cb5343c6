/- The document's nets: Find, Of. -/
import Derived.Test.YtiipefhdnfneeaaRB
namespace Go.Proofs.Try
open Go.RowKit Go.Gw
set_option maxRecDepth 100000
set_option linter.unusedSimpArgs false
set_option linter.unusedVariables false

theorem namesOf_take (es : List El) (k : Nat) : namesOf (es.take k) = (namesOf es).take k := by simp [namesOf, List.map_take]
theorem namesOf_at {es : List El} {k : Nat} (hk : k < es.length) : (namesOf es).getD k ⟨#[]⟩ = (es.getD k el0).name := by
  simp [namesOf, List.getD_eq_getElem?_getD, List.getElem?_eq_getElem hk]
theorem namesOf_length (es : List El) : (namesOf es).length = es.length := by simp [namesOf]
theorem names_hit {es : List El} {s : ByteArray} {k : Nat} (h : ((es.take k).any fun x => seq x.name s) = false) (hk : k < es.length) (hq : seq (es.getD k el0).name s = true) : placeIn (namesOf es) s = some k := by
  refine placeIn_hit ?_ (by rw [namesOf_length]; exact hk) (by rw [namesOf_at hk]; exact hq)
  rw [← namesOf_take, namesOf, List.any_map]; exact h
theorem names_none {es : List El} {s : ByteArray} (h : (es.any fun x => seq x.name s) = false) : placeIn (namesOf es) s = none := by
  refine placeIn_take_none ?_
  rw [namesOf, List.any_map]; exact h
theorem rfind_net (w : World) (p : Nat) (es : List El) (s : ByteArray) (h : RNetIs w p es) (hn : es.length ≤ 1000) :
    Calls Try.prog 106 #[.pointer (some ⟨p, 0, none⟩), .string s] w (fun e w' => e = .returned (findVal es s) ∧ Below w.heap.size w w') := by
  refine calls_post fun R hR => ?_
  go_enter Try.func106, Try.ntmps106
  go_wp2_with fail
  refine (relements_net _ _ _ (h.below ((Below.refl _ _).alloc (Nat.le_refl _) _)) (by omega)).mono ?_
  rintro e w1 ⟨v, rfl, o1, b1⟩
  obtain ⟨a, c, rfl, hrow, _, _, _⟩ := ownsRow_rows o1
  have hr1 : w1.heap[w.heap.size]? = some (boxOf 0 ⟨#[]⟩ ⟨#[]⟩ ⟨#[]⟩ ⟨#[]⟩ ⟨#[]⟩ 0 0) := (b1.block w.heap.size (by simp)).trans (alloc_self _ _)
  have B1 : Below w.heap.size w w1 := below_call ((Below.refl _ _).alloc (Nat.le_refl _) _) b1 (by simp)
  go_wp2
  generalize hes : es.length = n at hn
  have L := Lib.hid hes; clear hes
  go_loopw [7] (fun i wr => ∃ k : Nat, k ≤ n ∧ i = .int .i64 k ∧ wr = w1 ∧ Hid (((es.take k).any fun x => seq x.name s) = false)) (fun i _ => n - (intOf i).toNat)
  case atStart => exact ⟨0, Nat.zero_le _, rfl, rfl, Lib.hid rfl⟩
  case round =>
    obtain ⟨k, hk, rfl, rfl, H⟩ := hrel
    obtain ⟨t0, t1, t2, t3, t4, t5, t6, t7⟩ := eight_cells hr1
    have tf : ∀ o, wr.frozen? ⟨w.heap.size, o, none⟩ = false := by intro o; simp [World.frozen?, hr1]
    by_cases hlt : k < n
    · have hlz : k < es.length := by have := L.out; omega
      obtain ⟨b, off, rfl⟩ := row_some hrow (j := k * 8) (by rw [elCells_length]; omega)
      obtain ⟨e0, e1, e2, e3, e4, e5, e6, e7⟩ := row_el hrow hlz
      have hs := Lib.hid (any_take_succ (fun x : El => seq x.name s) hlz el0)
      have hh : seq (es.getD k el0).name s = true → placeIn (namesOf es) s = some k := names_hit H.out hlz
      have hz : findVal es s = .tuple #[(match placeIn (namesOf es) s with | some i => es.getD i el0 | none => el0).value, .bool (placeIn (namesOf es) s).isSome] := rfl
      have hh2 : seq (es.getD k el0).name s = true → findVal es s = .tuple #[(es.getD k el0).value, .bool true] := fun hq => by rw [hz, hh hq]; rfl
      clear hz hh
      have HH := Lib.hid hh2; clear hh2
      generalize es.getD k el0 = z at e0 e1 e2 e3 e4 e5 e6 e7 hs HH
      obtain ⟨kind, name, na, nb, nc, nd, val, ph⟩ := z
      simp only at e0 e1 e2 e3 e4 e5 e6 e7 hs
      cases hq : seq name s
      · go_wp2
        go_roundw
        case rel => exact ⟨k + 1, by omega, by go_num, trivial, Lib.hid (by rw [hs.out, H.out, hq]; rfl)⟩
        case measure => simp [intOf]; omega
      · have hp := HH.out hq
        rw [hp] at hR
        clear hp HH hs
        simp only [El.value, El.row] at hR
        go_wp2
        refine bodyPost_ret (v := .tuple #[.agg #[.int .u8 kind, .string name, .string na, .string nb, .string nc, .string nd, .float .f64 val, .int .i64 ph], .bool true]) ?_ rfl (hR _ _ ⟨rfl, ?_⟩)
        · simp [results, Try.results106, go_sem, World.cell?_setCell_same', t0, t1, t2, t3, t4, t5, t6, t7]
        · repeat' refine Below.setCell ?_ (by simp) _
          exact B1
    · have hk' : k = n := by omega
      subst hk'
      have hp : placeIn (namesOf es) s = none := names_none (by have := H.out; rw [List.take_of_length_le (by have := L.out; omega)] at this; exact this)
      have e : findVal es s = .tuple #[.agg #[.int .u8 0, .string ⟨#[]⟩, .string ⟨#[]⟩, .string ⟨#[]⟩, .string ⟨#[]⟩, .string ⟨#[]⟩, .float .f64 0, .int .i64 0], .bool false] := by unfold findVal findEl; rw [hp]; rfl
      rw [e] at hR
      clear hp e
      go_wp2
      refine bodyPost_ret (v := .tuple #[.agg #[.int .u8 0, .string ⟨#[]⟩, .string ⟨#[]⟩, .string ⟨#[]⟩, .string ⟨#[]⟩, .string ⟨#[]⟩, .float .f64 0, .int .i64 0], .bool false]) ?_ rfl (hR _ _ ⟨rfl, ?_⟩)
      · simp [results, Try.results106, go_sem, World.cell?_setCell_same', t0, t1, t2, t3, t4, t5, t6, t7]
      · repeat' refine Below.setCell ?_ (by simp) _
        exact B1
/-- What the document's Of tells of these elements. -/
def RNetRes (w' : World) (es : List El) (r : Value) : Prop :=
  (netFault es = (0, 0) ∧ ∃ p, r = .tuple #[.pointer (some ⟨p, 0, none⟩), .agg #[.int .i64 0, .int .i64 0]] ∧ RNetIs w' p es)
  ∨ (netFault es ≠ (0, 0) ∧ r = .tuple #[.pointer none, .agg #[.int .i64 (netFault es).1, .int .i64 (netFault es).2]])
theorem rnet_new {w : World} {B : Nat} {lv : Value} {es : List El} {k : Nat} (h : w.ownsRow B 81 8 lv k (elCells es)) (hl : es.length = k) :
    RNetIs (w.alloc (.cells #[lv, .bool true] 126)) w.heap.size es := by
  subst hl
  exact ⟨B, lv, alloc_self _ _, h.alloc _⟩
theorem RNetIs.set {w : World} {p g : Nat} {es : List El} {cs : Array Value} {t : TypeId} (h : RNetIs w p es) (hg : w.heap[g]? = some (.cells cs t)) (h1 : t ≠ 126) (h2 : t ≠ 81) (i : Nat) (u : Value) : RNetIs (w.setCell ⟨g, i, none⟩ u) p es := by
  obtain ⟨B, lv, c1, c2⟩ := h
  have hp : p ≠ g := by rintro rfl; rw [hg] at c1; cases c1; exact h1 rfl
  refine ⟨B, lv, (Below.heap_setCell w ⟨g, i, none⟩ u p hp).trans c1, own_other c2 (grown_set w g i u) (fun b hb e => ?_)⟩
  obtain ⟨cur, hc⟩ := own_blk c2 hb
  rw [← Option.some.inj e, hg] at hc; cases hc; exact h2 rfl
theorem size_alloc (w : World) (o : Obj) : (w.alloc o).heap.size = w.heap.size + 1 := by simp
set_option maxHeartbeats 4000000 in
theorem rof_net (a : Option Addr) (n c : Nat) (es : List El) (w : World) (h : Row w a (elCells es)) (l : es.length = n) (hv : ∀ e ∈ es, e.val < 2 ^ 64) :
    Calls Try.prog 34 #[.slice a n c] w (fun e w' => (∃ r, e = .returned r ∧ RNetRes w' es r) ∧ Below w.heap.size w w') := by
  refine calls_post fun R hR => ?_
  by_cases hn : n ≤ 256
  · go_enter Try.func34, Try.ntmps34
    go_wp2
    go_loopw [4, 5, 6] (fun i _ _ wr => ∃ k : Nat, k ≤ n ∧ i = .int .i64 k ∧ Below (w.heap.size + 1) (w.alloc (.cells #[.int .i64 0, .int .i64 0] 44)) wr ∧ Hid (faultFrom [] es = faultFrom (es.take k) (es.drop k))) (fun i _ _ _ => n - (intOf i).toNat)
    case atStart => exact ⟨0, Nat.zero_le _, rfl, Below.refl _ _, Lib.hid rfl⟩
    case round =>
      obtain ⟨k, hk, rfl, hb, F⟩ := hrel
      obtain ⟨wo, rfl⟩ : ∃ wo : World, wo = wr := ⟨_, rfl⟩
      have L := Lib.hid l; clear l
      have hrc : wo.heap[w.heap.size]? = _ := (hb.block w.heap.size (by omega)).trans (alloc_self _ _)
      have hrl : w.heap.size < wo.heap.size := (Array.getElem?_eq_some_iff.1 hrc).1
      have hBw : Below w.heap.size w wo := ((Below.refl _ _).alloc (Nat.le_refl _) _).trans (hb.mono (by omega))
      by_cases hlt : k < n
      · have hlz : k < es.length := by have := L.out; omega
        obtain ⟨b, off, rfl⟩ := row_some h (j := k * 8) (by rw [elCells_length]; omega)
        have hh : Row wo (some ⟨b, off, none⟩) (elCells es) := h.below hBw
        obtain ⟨e0, e1, e2, e3, e4, e5, e6, e7⟩ := row_el hh hlz
        have hvz : (es.getD k el0).val < 2 ^ 64 := hv _ (by rw [List.getD_eq_getElem?_getD, List.getElem?_eq_getElem hlz]; exact List.getElem_mem hlz)
        have hF := F.out
        rw [drop_step hlz, faultFrom_step, ← take_step hlz] at hF
        have hlen : (es.take k).length = k := by simp; omega
        rw [hlen] at hF
        have HF := Lib.hid hF; clear hF F
        generalize hz : es.getD k el0 = z at e0 e1 e2 e3 e4 e5 e6 e7 hvz HF
        have HZ := Lib.hid hz; clear hz
        obtain ⟨kind, name, na, nb, nc, nd, val, ph⟩ := z
        simp only at e0 e1 e2 e3 e4 e5 e6 e7
        by_cases hck : (⟨kind, name, na, nb, nc, nd, val, ph⟩ : El).check = 0
        · have hcb : ((⟨kind, name, na, nb, nc, nd, val, ph⟩ : El).check != 0) = false := by simpa using hck
          have HCK := Lib.hid hck; clear hck
          go_wp2_with (go_at_call 92; refine (rcheck_any ⟨kind, name, na, nb, nc, nd, val, ph⟩ _ hvz).mono ?_; rintro e w1 ⟨rfl, hb1⟩)
          have hh1 := hh.below hb1
          have hb1s := hb1.size
          have hB2 : Below (w.heap.size + 1) (w.alloc (.cells #[.int .i64 0, .int .i64 0] 44)) w1 := below_call hb hb1 (by omega)
          have hB2w : Below w.heap.size w w1 := below_call hBw hb1 (by omega)
          have hr1 : w1.heap[w.heap.size]? = _ := (hb1.block w.heap.size (by omega)).trans hrc
          go_loopw [6] (fun i wr => ∃ j : Nat, j ≤ k ∧ i = .int .i64 j ∧ Drew w1 wr ∧ Hid (((es.take j).any fun x => seq x.name name) = false)) (fun i _ => k - (intOf i).toNat)
          case atStart => exact ⟨0, Nat.zero_le _, rfl, Drew.refl _, Lib.hid rfl⟩
          case round =>
            obtain ⟨j, hj, rfl, hd, H⟩ := hrel
            have hh2 := hh1.below (hd.below _)
            have hr2 : wr.heap[w.heap.size]? = _ := ((hd.below _).block w.heap.size (by omega : w.heap.size < w1.heap.size)).trans hr1
            obtain ⟨t0, t1, tf⟩ := two_cells hr2
            obtain ⟨f0, f1, f2, f3, f4, f5, f6, f7⟩ := row_el hh2 hlz
            rw [HZ.out] at f1
            simp only at f1
            clear f0 f2 f3 f4 f5 f6 f7
            by_cases hlt2 : j < k
            · have hjz : j < es.length := by omega
              obtain ⟨g0, g1, g2, g3, g4, g5, g6, g7⟩ := row_el hh2 hjz
              clear g0 g2 g3 g4 g5 g6 g7
              have hs := Lib.hid (any_take_succ (fun x : El => seq x.name name) hjz el0)
              generalize (es.getD j el0).name = s at g1 hs
              cases hq : seq s name
              · go_wp2
                go_quiet (fail)
                go_wp2
                go_roundw
                case rel => exact ⟨j + 1, by omega, by go_num, hd.drewN _, Lib.hid (by rw [hs.out, H.out, hq]; rfl)⟩
                case measure => simp [intOf]; omega
              · have hany : ((es.take k).any fun x => seq x.name name) = true := by
                  have h1 : ((es.take (j + 1)).any fun x => seq x.name name) = true := by rw [hs.out, H.out, hq]; rfl
                  rw [List.any_eq_true] at h1 ⊢
                  obtain ⟨x, hx, hx2⟩ := h1
                  exact ⟨x, (List.take_subset_take_left es (by omega : j + 1 ≤ k)) hx, hx2⟩
                have hnf : netFault es = (9, (k : Int)) := by
                  unfold netFault
                  have hne : ¬ ((⟨kind, name, na, nb, nc, nd, val, ph⟩ : El).check ≠ 0) := by rw [HCK.out]; simp
                  rw [if_neg (by have := L.out; omega), HF.out, if_neg hne, if_pos hany]
                have HNF := Lib.hid hnf; clear hnf hany
                go_wp2
                go_quiet (fail)
                go_wp2
                refine bodyPost_ret (v := .tuple #[.pointer none, .agg #[.int .i64 9, .int .i64 k]]) ?_ rfl (hR _ _ ⟨⟨_, rfl, Or.inr ⟨(by rw [HNF.out]; intro e; cases e), by rw [HNF.out]⟩⟩, ?_⟩)
                · simp [results, Try.results34, go_sem, World.cell?_setCell_same', t0, t1]
                · repeat' refine Below.setCell ?_ (by simp) _
                  exact hB2w.trans ((hd.drewN _).below _)
            · have hj' : j = k := by omega
              subst hj'
              go_wp2
              go_roundw
              case rel =>
                refine ⟨j + 1, by omega, by go_num, hB2.trans (hd.below _), Lib.hid ?_⟩
                have h1 := HF.out
                have hne : ¬ ((⟨kind, name, na, nb, nc, nd, val, ph⟩ : El).check ≠ 0) := by rw [HCK.out]; simp
                rw [if_neg hne, if_neg (by rw [H.out]; simp)] at h1
                exact h1
              case measure => simp [intOf]; omega
        · have hcb : ((⟨kind, name, na, nb, nc, nd, val, ph⟩ : El).check != 0) = true := by simpa using hck
          have HCK := Lib.hid hck; clear hck
          go_wp2_with (go_at_call 92; refine (rcheck_any ⟨kind, name, na, nb, nc, nd, val, ph⟩ _ hvz).mono ?_; rintro e w1 ⟨rfl, hb1⟩; have hr1 : w1.heap[w.heap.size]? = _ := (hb1.block w.heap.size (by omega)).trans hrc; obtain ⟨t0, t1, tf⟩ := two_cells hr1)
          have hnf : netFault es = ((⟨kind, name, na, nb, nc, nd, val, ph⟩ : El).check, (k : Int)) := by
            unfold netFault
            rw [if_neg (by have := L.out; omega), HF.out, if_pos HCK.out]
          refine bodyPost_ret (v := .tuple #[.pointer none, .agg #[.int .i64 (⟨kind, name, na, nb, nc, nd, val, ph⟩ : El).check, .int .i64 k]]) ?_ rfl (hR _ _ ⟨⟨_, rfl, Or.inr ⟨by rw [hnf]; intro e; exact HCK.out (congrArg Prod.fst e), by rw [hnf]⟩⟩, ?_⟩)
          · simp [results, Try.results34, go_sem, World.cell?_setCell_same', t0, t1]
          · repeat' refine Below.setCell ?_ (by simp) _
            exact below_call hBw hb1 (by omega)
      · have hkn : k = n := by omega
        subst hkn
        have hle : es.length ≤ k := by have := L.out; omega
        rw [List.take_of_length_le hle] at F
        have hF : faultFrom [] es = none := by rw [F.out, List.drop_eq_nil_of_le hle]; rfl
        clear F
        have hnl : (nodesOf es).length ≤ 1024 := by have := nodesOf_len es; omega
        have hkl : (branchesOf es).length ≤ 256 := by have := branchesOf_len es; omega
        have hnf : netFault es = if 32 < (nodesOf es).length ∨ 64 < (nodesOf es).length + (branchesOf es).length then (3, -1) else (0, 0) := by
          unfold netFault
          rw [if_neg (by omega), hF]
        have HF := Lib.hid hF; clear hF
        have hrow := h.below hBw
        have hoo := hBw.size
        go_wp2_with (at_builtin; refine wpList_app rfl (.tmp 47) (.tmp 48) rfl elem_el (World.ownsRow_nil _ _ _ _) rfl rfl hrow (by rw [elCells_length, L.out]) (oneCell_els es) (by omega) (Nat.le_refl _) ?_; intro v' w2 hown hg; obtain ⟨va, vc, rfl⟩ := own_slice1 hown)
        simp only [Nat.zero_add, List.nil_append] at hown
        have hg2 := hg.size
        have hR2 : RNetIs (w2.alloc (.cells #[.slice va k vc, .bool true] 126)) w2.heap.size es := rnet_new hown L.out
        have hr2 : w2.heap[w.heap.size]? = _ := (grown_heap hg hrl (by simp [Value.ownBlock])).trans hrc
        have hr3 : (w2.alloc (.cells #[.slice va k vc, .bool true] 126)).heap[w.heap.size]? = _ := (Below.heap_alloc _ _ _ (by omega)).trans hr2
        have hB3 : Below w.heap.size w (w2.alloc (.cells #[.slice va k vc, .bool true] 126)) := (below_call hBw (below_grown hg) (by omega)).alloc (by omega) _
        refine (rnodes_net _ _ _ hR2 (by have := L.out; omega)).mono ?_
        rintro e w4 ⟨v4, rfl, o4, b4⟩
        have hB4 := below_call hB3 b4 (by simp; omega)
        have hR4 := hR2.below b4
        have hr4 : w4.heap[w.heap.size]? = _ := (b4.block w.heap.size (by simp; omega)).trans hr3
        obtain ⟨va4, vc4, rfl⟩ := own_slice1 o4
        have hb4s := b4.size
        rw [size_alloc] at hb4s
        by_cases h32 : 32 < (nodesOf es).length
        · rw [if_pos (Or.inl h32)] at hnf
          have HNF := Lib.hid hnf; clear hnf
          obtain ⟨t0, t1, tf⟩ := two_cells hr4
          go_wp2
          refine bodyPost_ret (v := .tuple #[.pointer none, .agg #[.int .i64 3, .int .i64 (-1)]]) ?_ rfl (hR _ _ ⟨⟨_, rfl, Or.inr ⟨(by rw [HNF.out]; decide), by rw [HNF.out]⟩⟩, ?_⟩)
          · simp [results, Try.results34, go_sem, World.cell?_setCell_same', t0, t1]
          · repeat' refine Below.setCell ?_ (by simp) _
            exact hB4
        · have hw4 := hB4.size
          go_wp2_with fail
          refine (rorder_net _ _ _ hR4 (by have := L.out; omega)).mono ?_
          rintro e w5 ⟨rfl, b5⟩
          have hB5 := below_call hB4 b5 (by omega)
          have hR5 := hR4.below b5
          have hr5 : w5.heap[w.heap.size]? = _ := (b5.block w.heap.size (by omega)).trans hr4
          obtain ⟨t0, t1, tf⟩ := two_cells hr5
          by_cases h64 : 64 < (nodesOf es).length + (branchesOf es).length
          · rw [if_pos (Or.inr h64)] at hnf
            have HNF := Lib.hid hnf; clear hnf
            go_wp2
            refine bodyPost_ret (v := .tuple #[.pointer none, .agg #[.int .i64 3, .int .i64 (-1)]]) ?_ rfl (hR _ _ ⟨⟨_, rfl, Or.inr ⟨(by rw [HNF.out]; decide), by rw [HNF.out]⟩⟩, ?_⟩)
            · simp [results, Try.results34, go_sem, World.cell?_setCell_same', t0, t1]
            · repeat' refine Below.setCell ?_ (by simp) _
              exact hB5
          · rw [if_neg (by omega)] at hnf
            have HNF := Lib.hid hnf; clear hnf
            go_wp2
            refine bodyPost_ret (v := .tuple #[.pointer (some ⟨w2.heap.size, 0, none⟩), .agg #[.int .i64 0, .int .i64 0]]) ?_ rfl (hR _ _ ⟨⟨_, rfl, Or.inl ⟨HNF.out, _, rfl, ?_⟩⟩, ?_⟩)
            · simp [results, Try.results34, go_sem, World.cell?_setCell_same', t0, t1]
            · exact (hR5.set hr5 (by decide) (by decide) _ _).set (heap_set hr5 _ _) (by decide) (by decide) _ _
            · repeat' refine Below.setCell ?_ (by simp) _
              exact hB5
  · have hf : netFault es = (3, -1) := by unfold netFault; rw [if_pos (by omega)]
    go_enter Try.func34, Try.ntmps34
    go_wp2
    refine bodyPost_ret (v := .tuple #[.pointer none, .agg #[.int .i64 3, .int .i64 (-1)]]) ?_ rfl (hR _ _ ⟨⟨_, rfl, Or.inr ⟨by rw [hf]; decide, by rw [hf]⟩⟩, ?_⟩)
    · simp [results, Try.results34, go_sem, World.cell?_setCell_same']
    · repeat' refine Below.setCell ?_ (by simp) _
      exact (Below.refl _ _).alloc (Nat.le_refl _) _
end Go.Proofs.Try
