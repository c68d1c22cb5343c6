/- netlist.put. -/
import Derived.Test.YtiipefhdnfneeaaU
import Derived.Deep.RegionLaw
import Derived.Deep.CutRange
namespace Go.Proofs.Try
open Go.RowKit Go.Gw
set_option maxRecDepth 100000
set_option linter.unusedSimpArgs false
set_option linter.unusedVariables false

theorem placeIn_some (l : List ByteArray) (s : ByteArray) : (placeIn l s).isSome = l.any (fun x => seq x s) := by
  unfold placeIn; exact List.findIdx?_isSome
theorem placeIn_snoc {l : List ByteArray} {s : ByteArray} (h : l.any (fun x => seq x s) = false) : (fun x => if seq s x then some l.length else placeIn l x) = placeIn (l ++ [s]) := by
  funext x
  cases hq : seq s x
  · simp [placeIn, List.findIdx?_append, hq]
  · have := seq_iff.1 hq
    subst this
    have hn : placeIn l s = none := by
      have := placeIn_some l s; rw [h] at this
      cases hp : placeIn l s
      · rfl
      · rw [hp] at this; cases this
    unfold placeIn at hn
    simp [placeIn, List.findIdx?_append, hn, hq]

theorem own_slice1 {w : World} {B : Nat} {e : TypeId} {size n : Nat} {v : Value} {xs : List Value} (h : w.ownsRow B e size v n xs) : ∃ a c, v = .slice a n c := by
  rcases h.2 with ⟨rfl, rfl⟩ | ⟨g, cap, cur, rfl, _⟩
  · exact ⟨none, 0, rfl⟩
  · exact ⟨_, cap, rfl⟩
theorem step_appS {P : Program} {w : World} {ops : Array Oper} {o : Oper} {a : Act} {K : Act → World → Prop} {Q : Exit → Act → World → Prop} {F : Prop} (hgd : o.guard = none) (s x : Operand) {t : TypeId}
    (ho : o.op = .call { callee := .builtin .append, args := #[s, x], argTypes := #[t, t] })
    {base : Nat} {e : TypeId} {z : Value} {size bytes : Nat} (E : Elem P t e z size bytes)
    {v : Value} {n : Nat} {xs : List Value} (hown : w.ownsRow base e size v n xs) (hs : a.eval s = v)
    {ad : Addr} {m c : Nat} {news : List Value} (hx : a.eval x = .slice (some ad) m c) (hnews : ∀ j u, news[j]? = some u → w.cell? (ad.add j) = some u) (hl : news.length = m * size) (h1 : ∀ u ∈ news, u.oneCell' = true)
    (hb : (n + m) * bytes ≤ 140737488355328) (hbase : base ≤ w.heap.size) (hm : m ≠ 0)
    (h : ∀ v' w', AppOut w w' base e size n v v' xs m news → K (a.put o.dst v') w') :
    if Region.wanted o (yielded ops a.tmps) = true then Oper.wp P o a w K Q else F := by
  have hw : Region.wanted o (yielded ops a.tmps) = true := by simp [Region.wanted, hgd]
  rw [if_pos hw]
  obtain ⟨v', w', hr, h2⟩ := run_appS (ty := o.type) E hown hnews hl h1 hb hbase hm
  unfold Oper.wp execOp
  simp only [ho, resolve, invoke, builtin, Sem.run_bind, Sem.run_pure, Result.andThen_ok, List.map_toArray, List.map_cons, List.map_nil, hs, hx]
  rw [hr]
  exact h v' w' h2
theorem news_at {w : World} {b : Nat} {cs : Array Value} {e : TypeId} (h : w.heap[b]? = some (.cells cs e)) : ∀ j u, cs.toList[j]? = some u → w.cell? ((⟨b, 0, none⟩ : Addr).add j) = some u := by
  intro j u hj
  rw [Addr.add_lit, Nat.zero_add, World.cell?, h]
  simp only [Option.isSome_none, Bool.false_eq_true, if_false]
  rw [Array.getElem?_toList] at hj
  exact hj
theorem elem_s : Elem Try.prog 62 9 (.string ⟨#[]⟩) 1 16 := ⟨by kernel_rfl, by kernel_rfl, rfl, by decide, by decide⟩
abbrev boxOf (kind : Int) (name a b c d : ByteArray) (val : Nat) (ph : Int) : Obj := .cells #[.int .u8 kind, .string name, .string a, .string b, .string c, .string d, .float .f64 val, .int .i64 ph] 81
theorem names_snoc {L : List El} {x : El} (h : L.any (fun y => seq y.name x.name) = false) : (fun z => if seq x.name z then some L.length else placeIn (namesOf L) z) = placeIn (namesOf (L ++ [x])) := by
  have e : namesOf (L ++ [x]) = namesOf L ++ [x.name] := by simp [namesOf]
  have h2 : (namesOf L).any (fun y => seq y x.name) = false := by rw [namesOf, List.any_map]; exact h
  have h3 := placeIn_snoc h2
  rw [e, ← h3]
  simp [namesOf]
/-- The nodes behind k of an element's four texts. -/
def fourTxt (x : El) : List ByteArray := [x.a, x.b, x.c, x.d]
def addTo (N : List ByteArray) (x : El) (k : Nat) : List ByteArray := ((fourTxt x).take k).foldl addNode N
theorem addTo_succ (N : List ByteArray) (x : El) {k : Nat} (h : k < 4) : addTo N x (k + 1) = addNode (addTo N x k) ((fourTxt x).getD k ⟨#[]⟩) := by
  unfold addTo
  rw [List.take_succ_eq_append_getElem (by simpa [fourTxt] using h), List.foldl_append, List.getD_eq_getElem?_getD, List.getElem?_eq_getElem (by simpa [fourTxt] using h)]
  rfl
theorem addTo_length (N : List ByteArray) (x : El) : ∀ k, (addTo N x k).length ≤ N.length + k
  | 0 => by simp [addTo]
  | k + 1 => by
    by_cases h : k < 4
    · rw [addTo_succ N x h]
      have h1 := addNode_length (addTo N x k) ((fourTxt x).getD k ⟨#[]⟩)
      have h2 := addTo_length N x k
      omega
    · have h2 := addTo_length N x k
      have e : addTo N x (k + 1) = addTo N x k := by
        unfold addTo
        rw [List.take_of_length_le (by simp [fourTxt]; omega), List.take_of_length_le (by simp [fourTxt]; omega)]
      rw [e]; omega
theorem four_cell {w : World} {g : Nat} {x : El} {t : TypeId} (h : w.heap[g]? = some (.cells #[.string x.a, .string x.b, .string x.c, .string x.d] t)) {k : Nat} (hk : k < 4) : w.cell? ⟨g, k, none⟩ = some (.string ((fourTxt x).getD k ⟨#[]⟩)) := by
  have hc : k = 0 ∨ k = 1 ∨ k = 2 ∨ k = 3 := by omega
  rcases hc with rfl | rfl | rfl | rfl <;> (simp only [World.cell?, h]; rfl)
/-- Amid put: the element is in, N and K stand so far. -/
def PutMid (B p : Nat) (v : NetVal) (x : El) (N K : List ByteArray) (w wx : World) (g : Option Nat) : Prop :=
  ∃ v', NetOwn wx B p v' ∧ Hid (v'.L = v.L ++ [x] ∧ v'.N = N ∧ v'.K = K ∧ v'.n1 = v'.L.length ∧ v'.n2 = v'.N.length ∧ v'.n3 = v'.K.length ∧ v'.f1 = placeIn (namesOf v'.L) ∧ v'.f2 = placeIn v'.N ∧ v'.f3 = placeIn v'.K)
    ∧ wx.heap[w.heap.size]? = some (.cells x.row 81) ∧ Below B w wx ∧ (∀ j, g = some j → v'.nv.ownBlock ≠ some j)
set_option maxHeartbeats 4000000 in
theorem put_any (B p : Nat) (v : NetVal) (x : El) (w : World) (h : NetOwn w B p v) (hB : B ≤ w.heap.size) (hes : v.L.length < 256) (hN : v.N.length ≤ 4 * v.L.length) (hK : v.K.length ≤ v.L.length) (hn1 : v.n1 = v.L.length) (hn2 : v.n2 = v.N.length) (hn3 : v.n3 = v.K.length)
    (hns : x.name.size ≤ maxLen) (h1 : v.f1 = placeIn (namesOf v.L)) (h2 : v.f2 = placeIn v.N) (h3 : v.f3 = placeIn v.K) (hfr : v.L.any (fun y => seq y.name x.name) = false) (hfk : v.K.any (fun y => seq y x.name) = false)
    (hsz : x.a.size ≤ maxLen ∧ x.b.size ≤ maxLen ∧ x.c.size ≤ maxLen ∧ x.d.size ≤ maxLen) :
    Calls Try.prog 89 #[.pointer (some ⟨p, 0, none⟩), x.value] w (fun e w' => e = .returned (.tuple #[]) ∧ (∃ v', NetOwn w' B p v' ∧ v'.L = v.L ++ [x] ∧ v'.N = addEl v.N x ∧ v'.K = (if isBranch x then v.K ++ [x.name] else v.K)
      ∧ v'.n1 = v'.L.length ∧ v'.n2 = v'.N.length ∧ v'.n3 = v'.K.length ∧ v'.f1 = placeIn (namesOf v'.L) ∧ v'.f2 = placeIn v'.N ∧ v'.f3 = placeIn v'.K) ∧ Below B w w') := by
  refine calls_post fun R hR => ?_
  obtain ⟨kind, name, a, b, c, d, val, ph⟩ := x
  simp only [El.value, El.row] at hns hfr hfk hsz ⊢
  go_enter Try.func89, Try.ntmps89
  go_wp2
  have hpl := h.lt
  have g1 : NetOwn (w.alloc (boxOf kind name a b c d val ph)).drew B p v := (h.alloc _).drew
  obtain ⟨w1, hrun1, hs1, hg1⟩ := smap_put g1.s1 (by unfold maxLen; omega) (s := name) hns (v := v.L.length) (by omega)
  have g2 := g1.map1 hg1 hs1
  have hpm1 : p ≠ v.m1 := h.pm h.s1
  have hm1l : v.m1 < w.heap.size := h.s1.lt
  have hbox : w1.heap[w.heap.size]? = some (boxOf kind name a b c d val ph) := (hg1.block w.heap.size (by simp) (by simp; omega)).trans (alloc_self _ _)
  obtain ⟨la, lc, hlv⟩ := own_slice1 h.l
  obtain ⟨c0, c1, c2, c3, c4, c5, c6, hf⟩ := seven_cells h.blk
  obtain ⟨k0, k1, k2, k3, k4, k5, k6, kf⟩ := seven_cells g2.blk
  obtain ⟨d0, d1, d2, d3, d4, d5, d6, d7⟩ := eight_cells hbox
  simp only [hlv] at c1 k1
  go_region_held3 (fun w' => w'.cell? ⟨p, 1, none⟩ = some (.slice la v.L.length lc) ∧ w'.cell? ⟨p, 2, none⟩ = some (.map (some v.m1)) ∧ w'.cell? ⟨w.heap.size, 1, none⟩ = some (.string name))
    (first | exact ⟨k1, k2, d1⟩ | go_keep)
    (first | fail)
  go_wp2
  have hbb : Below B w w1 := ((Below.refl B w).alloc hB _).drew.grown hg1 (by simp; omega) (fun k hk => by cases hk; exact h.b1)
  go_cut [] from 19 to 28 (fun wx => PutMid B p v ⟨kind, name, a, b, c, d, val, ph⟩ v.N v.K w wx none)
  case first =>
    have g3 : NetOwn (w1.alloc (boxOf kind name a b c d val ph)).drew B p { v with n1 := v.n1 + 1, f1 := fun x => if seq name x then some v.L.length else v.f1 x } := (g2.alloc _).drew
    have hnew : (w1.alloc (boxOf kind name a b c d val ph)).drew.heap[w1.heap.size]? = some (boxOf kind name a b c d val ph) := alloc_self _ _
    have hB1 : B ≤ w1.heap.size := by have := hg1.size; simp at this; omega
    have hpl1 : p < w1.heap.size := g2.lt
    have hxl1 : w.heap.size < w1.heap.size := by have := hg1.size; simp at this; omega
    have hne1 : p ≠ w1.heap.size := by omega
    have hne2 : w.heap.size ≠ w1.heap.size := by omega
    have g3l := g3.l
    simp only [hlv] at g3l
    go_region_law (first | (refine step_appS rfl (.tmp 23) (.tmp 25) rfl elem_el g3l rfl rfl (news_at hnew) rfl (oneCell_el ⟨kind, name, a, b, c, d, val, ph⟩) (by omega) (by simp; omega) (by decide) ?_; intro lv' w2 o2; obtain ⟨la', lc', rfl⟩ := own_slice1 o2.own; have g4 := g3.put1 (x := ⟨kind, name, a, b, c, d, val, ph⟩) (by rw [hlv]; exact o2) (by simp) rfl; have hb2 := (grown_heap o2.grown g3.lt (g3.pl g3l (by decide))).trans g3.blk; obtain ⟨q0, q1, q2, q3, q4, q5, q6, qf⟩ := seven_cells hb2))
    all_goals
      go_wp2
      go_meet
      case rel =>
        refine ⟨_, g4, Lib.hid ⟨rfl, rfl, rfl, by simp [hn1], hn2, hn3, ?_, h2, h3⟩, ?_, ?_, fun j hj => by cases hj⟩
        · rw [h1]; exact names_snoc (x := ⟨kind, name, a, b, c, d, val, ph⟩) hfr
        · have e1 : (w.heap.size : Nat) ≠ p := by omega
          rw [Below.heap_setCell _ _ _ _ e1, grown_heap o2.grown (by simp; omega) (fun e => by have := (own_lt h.l (hlv ▸ e)).2; omega)]
          exact (Below.heap_alloc _ _ _ hxl1).trans hbox
        · exact ((hbb.alloc hB1 _).drew.grown o2.grown (by simp; omega) (fun k hk => (own_lt h.l (hlv ▸ hk)).1)).setCell h.bp _
  case rest =>
    obtain ⟨v2, p2, e1, e10, e11, _⟩ := hcut
    clear h1 h2 h3 hn1 hn2 hn3 h
    obtain ⟨d0, d1, d2, d3, d4, d5, d6, d7⟩ := eight_cells e10
    clear g1 hrun1 hs1 hg1 g2 hbox k0 k1 k2 k3 k4 k5 k6 kf c0 c1 c2 c3 c4 c5 c6 hf hlv
    go_wp2
    have hw4 : B ≤ wc.heap.size := Nat.le_trans hB e11.size
    go_loopw [39] (fun i wr => ∃ k : Nat, k ≤ 4 ∧ i = .int .i64 k ∧ PutMid B p v ⟨kind, name, a, b, c, d, val, ph⟩ (addTo v.N ⟨kind, name, a, b, c, d, val, ph⟩ k) v.K w wr (some wc.heap.size) ∧ wr.heap[wc.heap.size]? = some (.cells #[.string a, .string b, .string c, .string d] 9)) (fun i _ => 4 - (intOf i).toNat)
    case atStart => exact ⟨0, by omega, rfl, ⟨v2, p2.alloc _, e1, (Below.heap_alloc _ _ _ (Array.getElem?_eq_some_iff.1 e10).1).trans e10, e11.alloc hw4 _, fun j hj hn => by cases hj; have := (own_lt p2.n hn).2; omega⟩, alloc_self _ _⟩
    case round =>
      obtain ⟨k, hk, rfl, ⟨v3, p3, G, g10, g11, g12⟩, hfour⟩ := hrel
      by_cases hk4 : k < 4
      · have hcell := four_cell (x := ⟨kind, name, a, b, c, d, val, ph⟩) hfour hk4
        have hsucc := addTo_succ v.N ⟨kind, name, a, b, c, d, val, ph⟩ hk4
        have hs : ((fourTxt ⟨kind, name, a, b, c, d, val, ph⟩).getD k ⟨#[]⟩).size ≤ maxLen := by
          have hc : k = 0 ∨ k = 1 ∨ k = 2 ∨ k = 3 := by omega
          rcases hc with rfl | rfl | rfl | rfl
          · exact hsz.1
          · exact hsz.2.1
          · exact hsz.2.2.1
          · exact hsz.2.2.2
        generalize (fourTxt ⟨kind, name, a, b, c, d, val, ph⟩).getD k ⟨#[]⟩ = s at hcell hsucc hs
        have hlook := smap_run p3.s2 hs
        obtain ⟨c0, c1, c2, c3, c4, c5, c6, hf⟩ := seven_cells p3.blk
        have hany : (v3.f2 s).isSome = (addTo v.N ⟨kind, name, a, b, c, d, val, ph⟩ k).any (fun y => seq y s) := by
          obtain ⟨_, g2, _, _, _, _, _, g8, _⟩ := G.out
          rw [g8, placeIn_some, g2]
        generalize hN' : addTo v.N ⟨kind, name, a, b, c, d, val, ph⟩ (k + 1) = N' at hsucc
        have hNl := addTo_length v.N ⟨kind, name, a, b, c, d, val, ph⟩ k
        generalize addTo v.N ⟨kind, name, a, b, c, d, val, ph⟩ k = N at hsucc hany G hNl
        have H1 := Lib.hid hsucc; have H2 := Lib.hid hany; have H3 := Lib.hid hN'
        clear hsucc hany hN'
        have hskip : (N.any (fun y => seq y s) = true ∨ seq s ⟨#[]⟩ = true ∨ seq s zeroTxt = true) → N' = N := by
          intro h
          rw [H1.out, addNode]
          rcases h with h | h | h <;> simp [h]
        cases x1 : (v3.f2 s).isSome
        · rw [x1] at hlook
          cases x2 : seq s ⟨#[]⟩
          · cases x3 : seq s ⟨#[48]⟩
            · have hput : N' = N ++ [s] := by
                have := H2.out
                rw [H1.out, addNode, x2, zeroTxt, x3, ← this, x1]; rfl
              have HP := Lib.hid hput; clear hput hskip
              have q1 : NetOwn wr.drew B p v3 := p3.drew
              have hNl2 : v3.N.length < 2000 := by rw [G.out.2.1]; omega
              obtain ⟨w4, hrun4, hs4, hg4⟩ := smap_put q1.s2 (by have := G.out.2.2.2.2.1; unfold maxLen; omega) (s := s) hs (v := v3.N.length) (by omega)
              have q2 := q1.map2 hg4 hs4
              obtain ⟨k0, k1, k2, k3, k4, k5, k6, kf⟩ := seven_cells q2.blk
              obtain ⟨na, nc, hnv⟩ := own_slice1 p3.n
              simp only [hnv] at k3 c3
              go_upto_region 8 with fail
              go_region_held3 (fun w' => w'.cell? ⟨p, 3, none⟩ = some (.slice na v3.N.length nc) ∧ w'.cell? ⟨p, 4, none⟩ = some (.map (some v3.m2)))
                (first | exact ⟨k3, k4⟩ | go_keep)
                (first | fail)
              have hpl4 : p < w4.heap.size := q2.lt
              have hne4 : p ≠ w4.heap.size := by omega
              have hg4s : wr.heap.size ≤ w4.heap.size := hg4.size
              have hxl : w.heap.size < wr.heap.size := (Array.getElem?_eq_some_iff.1 g10).1
              have hwl : wc.heap.size < wr.heap.size := (Array.getElem?_eq_some_iff.1 hfour).1
              have hxp : w.heap.size ≠ p := by omega
              have hwp : wc.heap.size ≠ p := by intro e; have h1 := p3.blk; rw [← e, hfour] at h1; cases h1
              have hxn : (Value.slice na v3.N.length nc).ownBlock ≠ some w.heap.size := fun e => by obtain ⟨cur, hc⟩ := own_blk p3.n (hnv ▸ e); rw [g10] at hc; cases hc
              have hwn : (Value.slice na v3.N.length nc).ownBlock ≠ some wc.heap.size := fun e => g12 _ rfl (hnv ▸ e)
              have hxm : some v3.m2 ≠ some w.heap.size := fun e => by obtain ⟨es, c, hc⟩ := smap_blk p3.s2; rw [Option.some.inj e, g10] at hc; cases hc
              have hwm : some v3.m2 ≠ some wc.heap.size := fun e => by obtain ⟨es, c, hc⟩ := smap_blk p3.s2; rw [Option.some.inj e, hfour] at hc; cases hc
              have hB4 : B ≤ w4.heap.size := by have := hg4.size; have := g11.size; simp at *; omega
              have q3 : NetOwn (w4.alloc (.cells #[.string s] 9)) B p { v3 with n2 := v3.n2 + 1, f2 := fun x => if seq s x then some v3.N.length else v3.f2 x } := q2.alloc _
              have q3n := q3.n
              simp only [hnv] at q3n
              go_wp2_with (at_builtin; refine wpList_appS rfl (.tmp 76) (.tmp 78) rfl elem_s q3n rfl rfl (news_new _ _ _) rfl (one1 rfl) (by omega) (by simp; omega) (by decide) ?_; intro nv' w5 o5; obtain ⟨na', nc', rfl⟩ := own_slice1 o5.own; have q4 := q3.put3 (x := s) (by rw [hnv]; exact o5) (by simp) rfl; have hb5 := (grown_heap o5.grown q3.lt (q3.pl q3n (by decide))).trans q3.blk; obtain ⟨r0, r1, r2, r3, r4, r5, r6, rf⟩ := seven_cells hb5)
              refine ⟨⟨k + 1, by omega, rfl, ?_, ?_⟩, by simp [intOf]; omega⟩
              · rw [H3.out, HP.out]
                obtain ⟨a1, a2, a3, a4, a5, a6, a7, a8, a9⟩ := G.out
                refine ⟨_, q4, Lib.hid ⟨a1, by rw [← a2], a3, a4, by simp [a5], a6, a7, ?_, a9⟩, ?_, ?_, ?_⟩
                · have h0 : v3.N.any (fun y => seq y s) = false := by rw [a2, ← H2.out, x1]
                  rw [a8]; exact placeIn_snoc h0
                · rw [Below.heap_setCell _ _ _ _ hxp, grown_heap o5.grown (by simp; omega) hxn, Below.heap_alloc _ _ _ (by omega), grown_heap hg4 (by simp; omega) hxm]; exact g10
                · exact (((g11.drew.grown hg4 (by simp; omega) (fun k hk => by cases hk; exact p3.b2)).alloc hB4 _).grown o5.grown (by simp; omega) (fun k hk => (own_lt p3.n (hnv ▸ hk)).1)).setCell p3.bp _
                · intro j hj hn
                  cases hj
                  rcases o5.blk with e | ⟨g', e, hge⟩
                  · exact g12 _ rfl (hnv ▸ (e ▸ hn))
                  · have h2 : g' = wc.heap.size := Option.some.inj (e.symm.trans hn)
                    simp at hge
                    omega
              · rw [Below.heap_setCell _ _ _ _ hwp, grown_heap o5.grown (by simp; omega) hwn, Below.heap_alloc _ _ _ (by omega), grown_heap hg4 (by simp; omega) hwm]; exact hfour
            · have hs0 := hskip (Or.inr (Or.inr x3))
              go_wp2
              exact ⟨⟨k + 1, by omega, rfl, by rw [H3.out, hs0]; exact ⟨v3, p3, G, g10, g11, g12⟩, hfour⟩, by simp [intOf]; omega⟩
          · have hs0 := hskip (Or.inr (Or.inl x2))
            go_wp2
            exact ⟨⟨k + 1, by omega, rfl, by rw [H3.out, hs0]; exact ⟨v3, p3, G, g10, g11, g12⟩, hfour⟩, by simp [intOf]; omega⟩
        · have hs0 := hskip (Or.inl (by rw [← H2.out]; exact x1))
          rw [x1] at hlook
          go_wp2
          exact ⟨⟨k + 1, by omega, rfl, by rw [H3.out, hs0]; exact ⟨v3, p3, G, g10, g11, g12⟩, hfour⟩, by simp [intOf]; omega⟩
      · have : k = 4 := by omega
        subst this
        obtain ⟨d0, d1, d2, d3, d4, d5, d6, d7⟩ := eight_cells g10
        cases y1 : (kind == 5) || (kind == 7)
        · have y2 : (kind == 5) = false ∧ (kind == 7) = false := by simpa using y1
          obtain ⟨y3, y4⟩ := y2
          have Y := Lib.hid y1; clear y1
          go_wp2
          go_end0
          obtain ⟨a1, a2, a3, a4, a5, a6, a7, a8, a9⟩ := G.out
          have hb : isBranch ⟨kind, name, a, b, c, d, val, ph⟩ = false := Y.out
          exact hR _ _ ⟨rfl, ⟨v3, p3, a1, by rw [a2]; rfl, by rw [a3, hb]; rfl, a4, a5, a6, a7, a8, a9⟩, g11⟩
        · have hb : isBranch ⟨kind, name, a, b, c, d, val, ph⟩ = true := y1
          have HB := Lib.hid hb; clear hb
          obtain ⟨c0, c1, c2, c3, c4, c5, c6, hf⟩ := seven_cells p3.blk
          have q1 : NetOwn wr.drew B p v3 := p3.drew
          have hKl : v3.K.length ≤ 255 := by rw [G.out.2.2.1]; omega
          obtain ⟨w4, hrun4, hs4, hg4⟩ := smap_put q1.s3 (by have := G.out.2.2.2.2.2.1; unfold maxLen; omega) (s := name) hns (v := v3.K.length) (by omega)
          have q2 := q1.map3 hg4 hs4
          obtain ⟨k0, k1, k2, k3, k4, k5, k6, kf⟩ := seven_cells q2.blk
          obtain ⟨ba, bc, hbv⟩ := own_slice1 p3.b
          simp only [hbv] at k5 c5
          have hxm : some v3.m3 ≠ some w.heap.size := fun e => by obtain ⟨es, c, hc⟩ := smap_blk p3.s3; rw [Option.some.inj e, g10] at hc; cases hc
          have hxl : w.heap.size < wr.heap.size := (Array.getElem?_eq_some_iff.1 g10).1
          have hbox4 : w4.heap[w.heap.size]? = _ := (grown_heap hg4 (by simp; omega) hxm).trans g10
          obtain ⟨f0, f1, f2, f3, f4, f5, f6, f7⟩ := eight_cells hbox4
          have hg4s : wr.heap.size ≤ w4.heap.size := hg4.size
          have hpl4 : p < w4.heap.size := q2.lt
          have hne4 : p ≠ w4.heap.size := by omega
          have hne5 : w.heap.size ≠ w4.heap.size := by omega
          have hB4 : B ≤ w4.heap.size := by have := g11.size; omega
          have q3 : NetOwn (w4.alloc (.cells #[.string name] 9)).drew B p { v3 with n3 := v3.n3 + 1, f3 := fun x => if seq name x then some v3.K.length else v3.f3 x } := (q2.alloc _).drew
          have q3b := q3.b
          simp only [hbv] at q3b
          have hnew4 : (w4.alloc (.cells #[.string name] 9)).drew.heap[w4.heap.size]? = some (.cells #[.string name] 9) := alloc_self _ _
          have y3 : kind = 5 ∨ ((kind == 5) = false ∧ kind = 7) := by
            cases hq : kind == 5
            · rw [hq] at y1; exact Or.inr ⟨rfl, by simpa using y1⟩
            · exact Or.inl (by simpa using hq)
          clear y1
          have y4 : ((kind == 5) = true ∨ ((kind == 5) = false ∧ (kind == 7) = true)) := by
            rcases y3 with h | ⟨h1, h2⟩
            · exact Or.inl (by simp [h])
            · exact Or.inr ⟨h1, by simp [h2]⟩
          have Y3 := Lib.hid y3; clear y3
          rcases y4 with y | ⟨y, y'⟩
          all_goals
            go_upto_region 12 with fail
            go_region_held3 (fun w' => w'.cell? ⟨p, 5, none⟩ = some (.slice ba v3.K.length bc) ∧ w'.cell? ⟨p, 6, none⟩ = some (.map (some v3.m3)) ∧ w'.cell? ⟨w.heap.size, 1, none⟩ = some (.string name))
              (first | exact ⟨k5, k6, f1⟩ | go_keep)
              (first | fail)
            go_wp2
            go_region_law (first | (refine step_appS rfl (.tmp 106) (.tmp 109) rfl elem_s q3b rfl rfl (news_at hnew4) rfl (one1 rfl) (by omega) (by simp; omega) (by decide) ?_; intro bv' w5 o5; obtain ⟨ba', bc', rfl⟩ := own_slice1 o5.own; have q4 := q3.put5 (x := name) (by rw [hbv]; exact o5) (by simp) rfl; have hb5 := (grown_heap o5.grown q3.lt (q3.pl q3b (by decide))).trans q3.blk; obtain ⟨r0, r1, r2, r3, r4, r5, r6, rf⟩ := seven_cells hb5))
            all_goals
              go_wp2
              go_end0
              obtain ⟨a1, a2, a3, a4, a5, a6, a7, a8, a9⟩ := G.out
              refine hR _ _ ⟨rfl, ⟨_, q4, a1, by rw [a2]; rfl, by rw [HB.out, if_pos rfl, ← a3], a4, a5, by simp [a6], a7, a8, ?_⟩, ?_⟩
              · have h0 : v3.K.any (fun y => seq y name) = false := by rw [a3]; exact hfk
                rw [a9]; exact placeIn_snoc h0
              · exact (((g11.drew.grown hg4 (by simp; omega) (fun k hk => by cases hk; exact p3.b3)).alloc hB4 _).drew.grown o5.grown (by simp; omega) (fun k hk => (own_lt p3.b (hbv ▸ hk)).1)).setCell p3.bp _
end Go.Proofs.Try
