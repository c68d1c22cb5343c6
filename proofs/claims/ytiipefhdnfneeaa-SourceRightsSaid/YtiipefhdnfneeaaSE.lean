/- The document's right sides. -/
import Derived.Test.YtiipefhdnfneeaaSD
import Derived.Deep.CutRange
namespace Go.Proofs.Try
open Go.RowKit Go.Gw
set_option maxRecDepth 100000
set_option linter.unusedSimpArgs false
set_option linter.unusedVariables false

theorem r19none_no (w : World) (p : Nat) (es : List El) (h : RNetIs w p es) : Calls Try.prog 100 #[.pointer (some ⟨p, 0, none⟩)] w (fun e w' => e = .returned (.bool false) ∧ w' = w) := by
  refine calls_post fun R hR => ?_
  obtain ⟨a, c, c0, c1, _⟩ := h.cells
  go_enter Try.func100, Try.ntmps100
  go_wp2
theorem r19none_nil (w : World) : Calls Try.prog 100 #[.pointer none] w (fun e w' => e = .returned (.bool true) ∧ w' = w) := by
  refine calls_post fun R hR => ?_
  go_enter Try.func100, Try.ntmps100
  go_wp2
def Blank (es : List El) (w : World) (e : Ending) (w' : World) : Prop :=
  ∃ g m xs, e = .returned (.slice (some ⟨g, 0, none⟩) m m) ∧ (nodesOf es).length + (branchesOf es).length = m ∧ w'.ownsRow w.heap.size 29 1 (.slice (some ⟨g, 0, none⟩) m m) m xs ∧ Nums xs ∧ xs.map numOf = zeros es ∧ Below w.heap.size w w'
theorem blank_net (w : World) (p : Nat) (es : List El) (h : RNetIs w p es) (hk : NetOk es) : Calls Try.prog 101 #[.pointer (some ⟨p, 0, none⟩)] w (Blank es w) := by
  refine calls_post fun R hR => ?_
  have hl := hk.len
  have hor := hk.order
  go_enter Try.func101, Try.ntmps101
  go_wp2_with fail
  refine (rnodes_net _ _ _ h (by omega)).mono ?_
  rintro e w1 ⟨v, rfl, o1, b1⟩
  obtain ⟨a1, c1, rfl⟩ := own_slice1 o1
  go_wp2_with fail
  refine (rbranches_net _ _ _ (h.below b1) (by omega)).mono ?_
  rintro e w2 ⟨v, rfl, o2, b2⟩
  obtain ⟨a2, c2, rfl⟩ := own_slice1 o2
  have B2 := below_call b1 b2 b1.size
  have s2 := B2.size
  go_wp2_with (at_make; refine wpList_mk (n := (nodesOf es).length + (branchesOf es).length) rfl (.tmp 9) (.tmp 9) rfl elem_c (by rfl) (by rfl) (by omega) (Nat.le_refl _) ?_; intro w3 o3 g3)
  exact ⟨_, _, _, rfl, rfl, own_base o3 s2, nums_made _, made_nums _, below_call B2 (below_grown g3) s2⟩
theorem RNetIs.other {w w' : World} {p g : Nat} {es : List El} {cs : Array Value} {t : TypeId} (h : RNetIs w p es) (hg : w.heap[g]? = some (.cells cs t)) (h1 : t ≠ 126) (h2 : t ≠ 81) (hb : w.grownBy w' (some g)) : RNetIs w' p es := by
  have hl := h.lt
  obtain ⟨B, lv, c1, c2⟩ := h
  have hp : p ≠ g := by rintro rfl; rw [hg] at c1; cases c1; exact h1 rfl
  refine ⟨B, lv, (grown_heap hb hl (fun e => hp (Option.some.inj e).symm)).trans c1, own_other c2 hb (fun b hb' e => ?_)⟩
  obtain ⟨cur, hc⟩ := own_blk c2 hb'
  rw [← Option.some.inj e, hg] at hc; cases hc; exact h2 rfl
/-- The state of the document's Right. -/
structure RRS (w wr : World) (p : Nat) (es : List El) (g m : Nat) (ev : Value) (xs : List Value) : Prop where
  net : RNetIs wr p es
  own : wr.ownsRow w.heap.size 29 1 (.slice (some ⟨g, 0, none⟩) m m) m xs
  els : wr.ownsRow w.heap.size 81 8 ev es.length (elCells es)
  res : wr.heap[w.heap.size]? = some (.cells #[.int .i64 0, .int .i64 0] 44)
  bel : Below w.heap.size w wr
section
variable {w wr w' : World} {p g m : Nat} {es : List El} {ev : Value} {xs : List Value}
theorem RRS.lt (h : RRS w wr p es g m ev xs) : w.heap.size < wr.heap.size := (Array.getElem?_eq_some_iff.1 h.res).1
theorem RRS.below (h : RRS w wr p es g m ev xs) (hb : Below wr.heap.size wr w') : RRS w w' p es g m ev xs :=
  ⟨h.net.below hb, ownsRow_below h.own hb, ownsRow_below h.els hb, (hb.block _ h.lt).trans h.res, below_call h.bel hb h.bel.size⟩
theorem RRS.blk (h : RRS w wr p es g m ev xs) : ∃ cs, wr.heap[g]? = some (.cells cs 29) := own_blk h.own rfl
theorem RRS.grown {ys : List Value} (h : RRS w wr p es g m ev xs) (hg : wr.grownBy w' (some g)) (ho : w'.ownsRow w.heap.size 29 1 (.slice (some ⟨g, 0, none⟩) m m) m ys) : RRS w w' p es g m ev ys := by
  obtain ⟨cs, hc⟩ := h.blk
  refine ⟨h.net.other hc (by decide) (by decide) hg, ho, own_other h.els hg (fun b hb e => ?_), ?_, ?_⟩
  · obtain ⟨cur, hc2⟩ := own_blk h.els hb
    rw [← Option.some.inj e, hc] at hc2; cases hc2
  · refine (grown_heap hg h.lt (fun e => ?_)).trans h.res
    have := h.res
    rw [← Option.some.inj e, hc] at this; cases this
  · exact h.bel.grown hg h.bel.size (fun k hk => by cases hk; exact (own_lt h.own rfl).1)
theorem RRS.set (h : RRS w wr p es g m ev xs) {i : Nat} (hi : i < m) (u : Value) : RRS w (wr.setCell ⟨g, i, none⟩ u) p es g m ev (xs.set i u) :=
  h.grown (grown_set wr g i u) (ownsRow_setCell h.own hi u)
theorem RRS.cell (h : RRS w wr p es g m ev xs) {i : Nat} (hi : i < m) : wr.cell? ⟨g, i, none⟩ = some (xs.getD i undef) := by
  obtain ⟨a, c, e, hr, _, _, hl⟩ := ownsRow_row h.own
  cases e
  have := hr.at (j := i) (by omega)
  rwa [Nat.zero_add] at this
end
theorem all_take_succ {l : List (Nat × Nat)} {j : Nat} (hj : j < l.length) : (l.take (j + 1)).all cfin = ((l.take j).all cfin && cfin (l.getD j (0, 0))) := by
  rw [List.take_succ_eq_append_getElem hj, List.all_append, List.getD_eq_getElem?_getD, List.getElem?_eq_getElem hj]; simp
theorem all_false_of {l : List (Nat × Nat)} {j : Nat} (hj : j < l.length) (h : cfin (l.getD j (0, 0)) = false) : l.all cfin = false := by
  rw [List.all_eq_false]
  refine ⟨l[j], List.getElem_mem hj, ?_⟩
  rw [List.getD_eq_getElem?_getD, List.getElem?_eq_getElem hj] at h
  simpa using h
theorem int_eq {a b : Int} (h : a = b) : Value.int .i64 a = .int .i64 b := by rw [h]
theorem step_set {xs : List Value} {i x y r1 s1 : Nat} {f : Nat × Nat → Nat × Nat} (hi : i < xs.length) (hv : xs.getD i undef = .complex .f64 x y) (h : (cn r1, cn s1) = f (cn x, cn y)) :
    (xs.set i (.complex .f64 r1 s1)).map numOf = stepAt (xs.map numOf) (some i) f := by
  rw [map_set_num, h]
  show _ = (xs.map numOf).set i (f ((xs.map numOf).getD i (0, 0)))
  rw [numOf_at hi, hv]
  rfl
theorem RRS.cellOther {w wr : World} {p : Nat} {es : List El} {g m b o : Nat} {ev : Value} {xs : List Value} {v : Value} (h : RRS w wr p es g m ev xs) (hne : b ≠ g) (hc : wr.cell? ⟨b, o, none⟩ = some v) (i : Nat) (u : Value) : (wr.setCell ⟨g, i, none⟩ u).cell? ⟨b, o, none⟩ = some v := by
  rw [← hc]
  simp only [World.cell?]
  rw [Below.heap_setCell wr ⟨g, i, none⟩ u b hne]
theorem els_block {w : World} {B n c : Nat} {b off : Nat} {es : List El} (h : w.ownsRow B 81 8 (.slice (some ⟨b, off, none⟩) n c) es.length (elCells es)) (hn : 0 < es.length) : (Value.slice (some ⟨b, off, none⟩) n c).ownBlock = some b := by
  rcases h.2 with ⟨h1, _⟩ | ⟨g, cap, cur, h1, _⟩
  · cases h1
  · cases h1; rfl
set_option maxHeartbeats 4000000 in
theorem rright_net (w : World) (p : Nat) (es : List El) (h : RNetIs w p es) (hk : NetOk es) (hv : ∀ e ∈ es, e.val < 2 ^ 64) :
    Calls Try.prog 36 #[.pointer (some ⟨p, 0, none⟩)] w (ListF (rightOf es).1 (rightOf es).2 w) := by
  refine calls_post fun R hR => ?_
  have hl := hk.len
  have hno := hk.nodes
  have hor := hk.order
  have b0 : Below w.heap.size w (w.alloc (.cells #[.int .i64 0, .int .i64 0] 44)) := (Below.refl _ _).alloc (Nat.le_refl _) _
  have r0 := alloc_self w (.cells #[.int .i64 0, .int .i64 0] 44)
  have h0 := h.below b0
  go_enter Try.func36, Try.ntmps36
  go_wp2_with (go_at_call 100; refine (r19none_no _ _ _ h0).mono ?_; rintro e w1 ⟨rfl, rfl⟩)
  refine (blank_net _ _ _ h0 hk).mono ?_
  rintro e w1 ⟨g, m, x0, rfl, hm, o1, hnum, hmade, b1⟩
  have HM := Lib.hid hm; clear hm
  have B1 := below_call b0 b1 (by simp)
  have s1 := b1.size
  rw [size_alloc] at s1 o1
  have r1 := (b1.block w.heap.size (by simp)).trans r0
  have h1 := h0.below b1
  go_wp2_with fail
  refine (rnodes_net _ _ _ h1 (by omega)).mono ?_
  rintro e w2 ⟨nv, rfl, o2, b2⟩
  obtain ⟨na0, nc0, rfl⟩ := own_slice1 o2
  have B2 := below_call B1 b2 (by omega)
  have s2 := b2.size
  have r2 := (b2.block w.heap.size (by omega)).trans r1
  have h2 := h1.below b2
  go_wp2_with fail
  refine (relements_net _ _ _ h2 (by omega)).mono ?_
  rintro e w3 ⟨ev, rfl, o3, b3⟩
  have rs : RRS w w3 p es g m ev x0 := ⟨h2.below b3, own_base (ownsRow_below (ownsRow_below o1 b2) b3) (by omega), own_base o3 (by omega), (b3.block w.heap.size (by omega)).trans r2, below_call B2 b3 (by omega)⟩
  obtain ⟨a, c, rfl, hrow, _, _, _⟩ := ownsRow_rows o3
  clear o1 o2 o3 h1 h2 r1 r2 B1 B2 b0 b1 b2 b3 s1 s2 h0 r0
  have HMA := Lib.hid hmade; clear hmade
  have hgw := rs.lt
  have hmm : m ≤ 64 := by have := HM.out; omega
  generalize hes : es.length = n at hl
  have L := Lib.hid hes; clear hes
  have hbl0 := branchesOf_len es
  go_wp2
  go_loopw [5, 7, 14] (fun bn i _ wr => ∃ k : Nat, k ≤ n ∧ i = .int .i64 k ∧ (∃ j : Nat, bn = .int .i64 j ∧ Hid (j = (nodesOf es).length + (branchesOf (es.take k)).length)) ∧ ∃ xs, RRS w wr p es g m (.slice a n c) xs ∧ Nums xs ∧ Hid ((xs.map numOf).all cfin = true) ∧ Hid (rightOf es = rightFrom (nodesOf es) (branchesOf es) (xs.map numOf) k (es.drop k))) (fun _ i _ _ => n - (intOf i).toNat)
  case atStart =>
    refine ⟨0, Nat.zero_le _, rfl, ⟨_, rfl, Lib.hid (by simp [branchesOf])⟩, x0, by rw [← L.out]; exact rs, hnum, Lib.hid ?_, Lib.hid ?_⟩
    · rw [HMA.out, zeros, List.all_replicate, show cfin (0, 0) = true from by decide +kernel]; simp
    · rw [HMA.out, rightOf, zeros]; rfl
  case round =>
    obtain ⟨k, hkn, rfl, ⟨j, rfl, hj⟩, xs, rs, hx, hF, hrt⟩ := hrel
    obtain ⟨wo, rfl⟩ : ∃ wo : World, wo = wr := ⟨_, rfl⟩
    by_cases hlt : k < n
    · have hlz : k < es.length := by have := L.out; omega
      obtain ⟨a', c', ea, hrow, _, _, _⟩ := ownsRow_rows rs.els
      rw [L.out] at ea
      cases ea
      obtain ⟨b, off, rfl⟩ := row_some hrow (j := k * 8) (by rw [elCells_length]; omega)
      obtain ⟨e0, e1, e2, e3, e4, e5, e6, e7⟩ := row_el hrow hlz
      have hvz : (es.getD k el0).val < 2 ^ 64 := hv _ (by rw [List.getD_eq_getElem?_getD, List.getElem?_eq_getElem hlz]; exact List.getElem_mem hlz)
      have hck := hk.check k hlz
      have hbp := fun h => branch_place hk hlz h
      have hbl := fun h => branch_lt hk hlz h
      have hF2 := hrt.out
      rw [drop_step hlz] at hF2
      have hbs := branchesOf_snoc (es.take k) (es.getD k el0)
      rw [← take_step hlz] at hbs
      generalize es.getD k el0 = z at e0 e1 e2 e3 e4 e5 e6 e7 hvz hck hbp hbl hF2 hbs
      have HF2 := Lib.hid hF2; clear hF2 hrt
      have HCK := Lib.hid hck; clear hck
      have HBS := Lib.hid hbs; clear hbs
      obtain ⟨kind, name, na, nb, nc, nd, val, ph⟩ := z
      simp only at e0 e1 e2 e3 e4 e5 e6 e7 hbp hbl
      have hxl : xs.length = m := by have := rs.own.1; omega
      have HXL := Lib.hid hxl; clear hxl
      have hwr := rs.lt
      have hjb : j < 1000 := by have := hj.out; have := branchesOf_len (es.take k); have := List.length_take_le k es; omega
      have hpa : ∀ i, placeIn (nodesOf es) na = some i → i < m := fun i hi => by have := placeIn_lt hi; have := HM.out; omega
      have hpb : ∀ i, placeIn (nodesOf es) nb = some i → i < m := fun i hi => by have := placeIn_lt hi; have := HM.out; omega
      cases hsrc : isSrc ⟨kind, name, na, nb, nc, nd, val, ph⟩
      · have HS := Lib.hid hsrc; clear hsrc
        have hk4 : (kind == 4) = false ∧ (kind == 5) = false := by
          have := HS.out; simp only [isSrc, Bool.or_eq_false_iff] at this; exact this
        obtain ⟨k4, k5⟩ := hk4
        go_wp2_with fail
        refine (rsphasor_no ⟨kind, name, na, nb, nc, nd, val, ph⟩ _ hvz HCK.out HS.out).mono ?_
        rintro e w1 ⟨rfl, b1⟩
        have rs1 := rs.below b1
        replace e2 := cell_kept b1 e2
        replace e3 := cell_kept b1 e3
        replace e0 := cell_kept b1 e0
        clear e1 e4 e5 e6 e7
        have hP := rplace_net w1 p es na rs1.net (by have := L.out; omega)
        unfold placeVal at hP
        generalize hpae : placeIn (nodesOf es) na = pa at hP hpa
        have HPA := Lib.hid hpae; clear hpae
        go_wp2_with fail
        refine hP.mono ?_
        rintro e w2 ⟨rfl, b2⟩
        clear hP
        have rs2 := rs1.below b2
        replace e3 := cell_kept b2 e3
        replace e0 := cell_kept b2 e0
        have hP := rplace_net w2 p es nb rs2.net (by have := L.out; omega)
        unfold placeVal at hP
        generalize hpbe : placeIn (nodesOf es) nb = pb at hP hpb
        have HPB := Lib.hid hpbe; clear hpbe
        go_wp2_with fail
        refine hP.mono ?_
        rintro e w3 ⟨rfl, b3⟩
        clear hP
        have rs3 := rs2.below b3
        replace e0 := cell_kept b3 e0
        go_upto_region 12 with (fail)
        cases k7 : (kind == 7)
        · have hib : isBranch ⟨kind, name, na, nb, nc, nd, val, ph⟩ = false := by simp [isBranch, k5, k7]
          have hbq : j = (nodesOf es).length + (branchesOf (es.take (k + 1))).length := by
            have hb := HBS.out; rw [hib] at hb; rw [hb]; exact hj.out
          have HQ := Lib.hid hbq
          clear hib hbq
          go_wp2
          obtain ⟨ys, hyse⟩ : ∃ ys, ys = xs := ⟨_, rfl⟩
          have rsY := rs3
          have hys := hx
          have HY := Lib.hid (rightStep_no (N := nodesOf es) (K := branchesOf es) (l := xs.map numOf) HS.out).symm
          rw [← hyse] at rsY hys
          have HY : Hid (ys.map numOf = rightStep (nodesOf es) (branchesOf es) (xs.map numOf) ⟨kind, name, na, nb, nc, nd, val, ph⟩) := Lib.hid (by rw [hyse]; exact HY.out)
          clear hyse
          have hyl : ys.length = m := by have := rsY.own.1; omega
          have HYL := Lib.hid hyl; clear hyl
          have hgood : (ys.map numOf).all cfin = true → rightOf es = rightFrom (nodesOf es) (branchesOf es) (ys.map numOf) (k + 1) (es.drop (k + 1)) := fun h => by
            have := HF2.out; rw [rightFrom, ← HY.out, if_pos h] at this; exact this
          have hbad : (ys.map numOf).all cfin = false → rightOf es = ([], 6, (k : Int)) := fun h => by
            have := HF2.out; rw [rightFrom, ← HY.out, if_neg (by rw [h]; decide)] at this; exact this
          have HG := Lib.hid hgood; have HB := Lib.hid hbad; clear hgood hbad
          obtain ⟨wz, hwz⟩ : ∃ z : World, z = w3 := ⟨_, rfl⟩
          rw [← hwz] at rsY ⊢
          clear hwz
          go_loopw [14] (fun i wr => ∃ t : Nat, t ≤ m ∧ i = .int .i64 t ∧ Drew wz wr ∧ Hid (((ys.map numOf).take t).all cfin = true)) (fun i _ => m - (intOf i).toNat)
          case atStart => exact ⟨0, Nat.zero_le _, rfl, Drew.refl _, Lib.hid rfl⟩
          case round =>
            obtain ⟨t, ht, rfl, hd, hall⟩ := hrel
            have rsT := rsY.below (hd.below _)
            by_cases hlt2 : t < m
            · have hcell := rsT.cell hlt2
              obtain ⟨x1, y1, hv1, _, _⟩ := nums_at hys (j := t) (by have := HYL.out; omega)
              rw [hv1] at hcell
              have hnum : (ys.map numOf).getD t (0, 0) = (cn x1, cn y1) := by rw [numOf_at (by have := HYL.out; omega), hv1]; rfl
              have HN := Lib.hid hnum; clear hnum hv1
              have hlwT := rsT.lt
              obtain ⟨t0, t1, tf⟩ := two_cells rsT.res
              cases hfin : cfin (cn x1, cn y1)
              · have hb := HB.out (all_false_of (j := t) (by rw [List.length_map, HYL.out]; exact hlt2) (by rw [HN.out, hfin]))
                rw [hb] at hR
                have HFI := Lib.hid hfin; clear hb hfin
                go_wp2_with (go_at_call 105; refine (rfinite_any _ _ _).mono ?_; rintro e w9 ⟨rfl, hd9⟩; rw [HFI.out]; have rsU := rsT.below (hd9.below _); obtain ⟨t0, t1, tf⟩ := two_cells rsU.res; have hlwU := rsU.lt)
                refine bodyPost_ret (v := .tuple #[.slice none 0 0, .agg #[.int .i64 6, .int .i64 k]]) ?_ rfl (hR _ _ ⟨_, [], rfl, by simp [Nums], rfl, World.ownsRow_nil _ _ _ _, ?_⟩)
                · simp [results, Try.results36, go_sem, World.cell?_setCell_same', t0, t1]
                · exact (rsU.bel.setCell (Nat.le_refl _) _).setCell (Nat.le_refl _) _
              · have HFI := Lib.hid hfin; clear hfin
                go_wp2_with (go_at_call 105; refine (rfinite_any _ _ _).mono ?_; rintro e w9 ⟨rfl, hd9⟩; rw [HFI.out])
                go_roundw
                case rel => exact ⟨t + 1, by omega, by go_num, hd.trans hd9, Lib.hid (by rw [all_take_succ (by rw [List.length_map, HYL.out]; exact hlt2), hall.out, HN.out, HFI.out]; rfl)⟩
                case measure => simp [intOf]; omega
            · have ht' : t = m := by omega
              subst ht'
              have h1 : (ys.map numOf).all cfin = true := by have := hall.out; rwa [List.take_of_length_le (by rw [List.length_map, HYL.out]; omega)] at this
              have H1 := Lib.hid h1; clear h1
              go_wp2
              go_roundw
              case rel => exact ⟨k + 1, by omega, by go_num, ⟨j, by first | rfl | go_num, HQ⟩, ys, rsT, hys, H1, Lib.hid (HG.out H1.out)⟩
              case measure => simp [intOf]; omega
        · have hib : isBranch ⟨kind, name, na, nb, nc, nd, val, ph⟩ = true := by simp [isBranch, k5, k7]
          have hbq : j + 1 = (nodesOf es).length + (branchesOf (es.take (k + 1))).length := by
            have hb := HBS.out; rw [hib] at hb; rw [hb, hj.out]; simp; omega
          have HQ := Lib.hid hbq
          clear hib hbq
          go_wp2
          obtain ⟨ys, hyse⟩ : ∃ ys, ys = xs := ⟨_, rfl⟩
          have rsY := rs3
          have hys := hx
          have HY := Lib.hid (rightStep_no (N := nodesOf es) (K := branchesOf es) (l := xs.map numOf) HS.out).symm
          rw [← hyse] at rsY hys
          have HY : Hid (ys.map numOf = rightStep (nodesOf es) (branchesOf es) (xs.map numOf) ⟨kind, name, na, nb, nc, nd, val, ph⟩) := Lib.hid (by rw [hyse]; exact HY.out)
          clear hyse
          have hyl : ys.length = m := by have := rsY.own.1; omega
          have HYL := Lib.hid hyl; clear hyl
          have hgood : (ys.map numOf).all cfin = true → rightOf es = rightFrom (nodesOf es) (branchesOf es) (ys.map numOf) (k + 1) (es.drop (k + 1)) := fun h => by
            have := HF2.out; rw [rightFrom, ← HY.out, if_pos h] at this; exact this
          have hbad : (ys.map numOf).all cfin = false → rightOf es = ([], 6, (k : Int)) := fun h => by
            have := HF2.out; rw [rightFrom, ← HY.out, if_neg (by rw [h]; decide)] at this; exact this
          have HG := Lib.hid hgood; have HB := Lib.hid hbad; clear hgood hbad
          obtain ⟨wz, hwz⟩ : ∃ z : World, z = w3 := ⟨_, rfl⟩
          rw [← hwz] at rsY ⊢
          clear hwz
          go_loopw [14] (fun i wr => ∃ t : Nat, t ≤ m ∧ i = .int .i64 t ∧ Drew wz wr ∧ Hid (((ys.map numOf).take t).all cfin = true)) (fun i _ => m - (intOf i).toNat)
          case atStart => exact ⟨0, Nat.zero_le _, rfl, Drew.refl _, Lib.hid rfl⟩
          case round =>
            obtain ⟨t, ht, rfl, hd, hall⟩ := hrel
            have rsT := rsY.below (hd.below _)
            by_cases hlt2 : t < m
            · have hcell := rsT.cell hlt2
              obtain ⟨x1, y1, hv1, _, _⟩ := nums_at hys (j := t) (by have := HYL.out; omega)
              rw [hv1] at hcell
              have hnum : (ys.map numOf).getD t (0, 0) = (cn x1, cn y1) := by rw [numOf_at (by have := HYL.out; omega), hv1]; rfl
              have HN := Lib.hid hnum; clear hnum hv1
              have hlwT := rsT.lt
              obtain ⟨t0, t1, tf⟩ := two_cells rsT.res
              cases hfin : cfin (cn x1, cn y1)
              · have hb := HB.out (all_false_of (j := t) (by rw [List.length_map, HYL.out]; exact hlt2) (by rw [HN.out, hfin]))
                rw [hb] at hR
                have HFI := Lib.hid hfin; clear hb hfin
                go_wp2_with (go_at_call 105; refine (rfinite_any _ _ _).mono ?_; rintro e w9 ⟨rfl, hd9⟩; rw [HFI.out]; have rsU := rsT.below (hd9.below _); obtain ⟨t0, t1, tf⟩ := two_cells rsU.res; have hlwU := rsU.lt)
                refine bodyPost_ret (v := .tuple #[.slice none 0 0, .agg #[.int .i64 6, .int .i64 k]]) ?_ rfl (hR _ _ ⟨_, [], rfl, by simp [Nums], rfl, World.ownsRow_nil _ _ _ _, ?_⟩)
                · simp [results, Try.results36, go_sem, World.cell?_setCell_same', t0, t1]
                · exact (rsU.bel.setCell (Nat.le_refl _) _).setCell (Nat.le_refl _) _
              · have HFI := Lib.hid hfin; clear hfin
                go_wp2_with (go_at_call 105; refine (rfinite_any _ _ _).mono ?_; rintro e w9 ⟨rfl, hd9⟩; rw [HFI.out])
                go_roundw
                case rel => exact ⟨t + 1, by omega, by go_num, hd.trans hd9, Lib.hid (by rw [all_take_succ (by rw [List.length_map, HYL.out]; exact hlt2), hall.out, HN.out, HFI.out]; rfl)⟩
                case measure => simp [intOf]; omega
            · have ht' : t = m := by omega
              subst ht'
              have h1 : (ys.map numOf).all cfin = true := by have := hall.out; rwa [List.take_of_length_le (by rw [List.length_map, HYL.out]; omega)] at this
              have H1 := Lib.hid h1; clear h1
              go_wp2
              go_roundw
              case rel => exact ⟨k + 1, by omega, by go_num, ⟨j + 1, by first | rfl | go_num, HQ⟩, ys, rsT, hys, H1, Lib.hid (HG.out H1.out)⟩
              case measure => simp [intOf]; omega
      · have HS := Lib.hid hsrc; clear hsrc
        go_wp2_with fail
        refine (rsphasor_src ⟨kind, name, na, nb, nc, nd, val, ph⟩ _ hvz HCK.out HS.out).mono ?_
        rintro e w1 ⟨r, q, rfl, hr, hq, b1⟩
        have rs1 := rs.below b1
        replace e2 := cell_kept b1 e2
        replace e3 := cell_kept b1 e3
        replace e0 := cell_kept b1 e0
        clear e1 e4 e5 e6 e7
        have hP := rplace_net w1 p es na rs1.net (by have := L.out; omega)
        unfold placeVal at hP
        generalize hpae : placeIn (nodesOf es) na = pa at hP hpa
        have HPA := Lib.hid hpae; clear hpae
        go_wp2_with fail
        refine hP.mono ?_
        rintro e w2 ⟨rfl, b2⟩
        clear hP
        have rs2 := rs1.below b2
        replace e3 := cell_kept b2 e3
        replace e0 := cell_kept b2 e0
        have hP := rplace_net w2 p es nb rs2.net (by have := L.out; omega)
        unfold placeVal at hP
        generalize hpbe : placeIn (nodesOf es) nb = pb at hP hpb
        have HPB := Lib.hid hpbe; clear hpbe
        go_wp2_with fail
        refine hP.mono ?_
        rintro e w3 ⟨rfl, b3⟩
        clear hP
        have rs3 := rs2.below b3
        replace e0 := cell_kept b3 e0
        go_upto_region 12 with (fail)
        have hph : (cn r, cn q) = phasorOf ⟨kind, name, na, nb, nc, nd, val, ph⟩ := by rw [hr.2, hq.2]
        have HPH := Lib.hid hph; clear hph
        have hk45 : (kind == 5) = true ∨ ((kind == 5) = false ∧ kind = 4) := by
          have := HS.out
          simp only [isSrc, Bool.or_eq_true, beq_iff_eq] at this
          rcases this with rfl | rfl
          · right; exact ⟨rfl, rfl⟩
          · left; rfl
        rcases hk45 with h5 | ⟨h5, h4⟩
        · have H5 : kind = 5 := by simpa using h5
          have h4 : (kind == 4) = false := by rw [H5]; rfl
          have hib : isBranch ⟨kind, name, na, nb, nc, nd, val, ph⟩ = true := by simp [isBranch, h5]
          have hb1 := hbp hib
          have hjm : j < m := by have := hbl hib; have := hj.out; have := HM.out; omega
          have hbq : j + 1 = (nodesOf es).length + (branchesOf (es.take (k + 1))).length := by
            have hb := HBS.out; rw [hib] at hb; rw [hb, hj.out]; simp; omega
          have HQ := Lib.hid hbq
          have hst := rightStep_5 (N := nodesOf es) (K := branchesOf es) (l := xs.map numOf) (e := ⟨kind, name, na, nb, nc, nd, val, ph⟩) H5
          simp only at hst
          rw [hb1] at hst
          simp only [Option.getD_some] at hst
          rw [← hj.out, ← HPH.out, ← map_set_num] at hst
          have HY : Hid ((xs.set j (.complex .f64 r q)).map numOf = rightStep (nodesOf es) (branchesOf es) (xs.map numOf) ⟨kind, name, na, nb, nc, nd, val, ph⟩) := Lib.hid hst.symm
          clear hst hbq hb1 hib hbl hbp H5
          obtain ⟨u0, hcell⟩ := own_cell rs3.own hjm
          have hfz := frozen_own rs3.own j
          have rsY := rs3.set hjm (.complex .f64 r q)
          have hys := nums_setAll (k := j) hx ⟨r, q, rfl, hr.1, hq.1⟩
          have hbg : b ≠ g := by
            rintro rfl
            obtain ⟨cs, hc⟩ := rs3.blk
            have hrow3 := (ownsRow_rows rs3.els)
            obtain ⟨cur, hc2⟩ := own_blk rs3.els (els_block rs3.els (by have := L.out; omega))
            rw [hc] at hc2; cases hc2
          have hgb := hbg.symm
          go_wp2
          generalize xs.set j (.complex .f64 r q) = ys at rsY hys HY
          have hyl : ys.length = m := by have := rsY.own.1; omega
          have HYL := Lib.hid hyl; clear hyl
          have hgood : (ys.map numOf).all cfin = true → rightOf es = rightFrom (nodesOf es) (branchesOf es) (ys.map numOf) (k + 1) (es.drop (k + 1)) := fun h => by
            have := HF2.out; rw [rightFrom, ← HY.out, if_pos h] at this; exact this
          have hbad : (ys.map numOf).all cfin = false → rightOf es = ([], 6, (k : Int)) := fun h => by
            have := HF2.out; rw [rightFrom, ← HY.out, if_neg (by rw [h]; decide)] at this; exact this
          have HG := Lib.hid hgood; have HB := Lib.hid hbad; clear hgood hbad
          obtain ⟨wz, hwz⟩ : ∃ z : World, z = w3.setCell ⟨g, j, none⟩ (.complex .f64 r q) := ⟨_, rfl⟩
          rw [← hwz] at rsY ⊢
          clear hwz
          go_loopw [14] (fun i wr => ∃ t : Nat, t ≤ m ∧ i = .int .i64 t ∧ Drew wz wr ∧ Hid (((ys.map numOf).take t).all cfin = true)) (fun i _ => m - (intOf i).toNat)
          case atStart => exact ⟨0, Nat.zero_le _, rfl, Drew.refl _, Lib.hid rfl⟩
          case round =>
            obtain ⟨t, ht, rfl, hd, hall⟩ := hrel
            have rsT := rsY.below (hd.below _)
            by_cases hlt2 : t < m
            · have hcell := rsT.cell hlt2
              obtain ⟨x1, y1, hv1, _, _⟩ := nums_at hys (j := t) (by have := HYL.out; omega)
              rw [hv1] at hcell
              have hnum : (ys.map numOf).getD t (0, 0) = (cn x1, cn y1) := by rw [numOf_at (by have := HYL.out; omega), hv1]; rfl
              have HN := Lib.hid hnum; clear hnum hv1
              have hlwT := rsT.lt
              obtain ⟨t0, t1, tf⟩ := two_cells rsT.res
              cases hfin : cfin (cn x1, cn y1)
              · have hb := HB.out (all_false_of (j := t) (by rw [List.length_map, HYL.out]; exact hlt2) (by rw [HN.out, hfin]))
                rw [hb] at hR
                have HFI := Lib.hid hfin; clear hb hfin
                go_wp2_with (go_at_call 105; refine (rfinite_any _ _ _).mono ?_; rintro e w9 ⟨rfl, hd9⟩; rw [HFI.out]; have rsU := rsT.below (hd9.below _); obtain ⟨t0, t1, tf⟩ := two_cells rsU.res; have hlwU := rsU.lt)
                refine bodyPost_ret (v := .tuple #[.slice none 0 0, .agg #[.int .i64 6, .int .i64 k]]) ?_ rfl (hR _ _ ⟨_, [], rfl, by simp [Nums], rfl, World.ownsRow_nil _ _ _ _, ?_⟩)
                · simp [results, Try.results36, go_sem, World.cell?_setCell_same', t0, t1]
                · exact (rsU.bel.setCell (Nat.le_refl _) _).setCell (Nat.le_refl _) _
              · have HFI := Lib.hid hfin; clear hfin
                go_wp2_with (go_at_call 105; refine (rfinite_any _ _ _).mono ?_; rintro e w9 ⟨rfl, hd9⟩; rw [HFI.out])
                go_roundw
                case rel => exact ⟨t + 1, by omega, by go_num, hd.trans hd9, Lib.hid (by rw [all_take_succ (by rw [List.length_map, HYL.out]; exact hlt2), hall.out, HN.out, HFI.out]; rfl)⟩
                case measure => simp [intOf]; omega
            · have ht' : t = m := by omega
              subst ht'
              have h1 : (ys.map numOf).all cfin = true := by have := hall.out; rwa [List.take_of_length_le (by rw [List.length_map, HYL.out]; omega)] at this
              have H1 := Lib.hid h1; clear h1
              go_wp2
              go_roundw
              case rel => exact ⟨k + 1, by omega, by go_num, ⟨j + 1, by first | rfl | go_num, HQ⟩, ys, rsT, hys, H1, Lib.hid (HG.out H1.out)⟩
              case measure => simp [intOf]; omega
        · have H4 := Lib.hid h4
          have h4b : (kind == 4) = true := by simp [h4]
          have hib : isBranch ⟨kind, name, na, nb, nc, nd, val, ph⟩ = false := by simp [isBranch, h4]
          have hbq : j = (nodesOf es).length + (branchesOf (es.take (k + 1))).length := by
            have hb := HBS.out; rw [hib] at hb; rw [hb]; exact hj.out
          have HQ := Lib.hid hbq
          have hst := rightStep_4 (N := nodesOf es) (K := branchesOf es) (l := xs.map numOf) (e := ⟨kind, name, na, nb, nc, nd, val, ph⟩) h4
          simp only at hst
          rw [HPA.out, HPB.out, ← HPH.out] at hst
          have HST := Lib.hid hst
          have h7b : (kind == 7) = false := by simp [h4]
          have hbg : b ≠ g := by
            rintro rfl
            obtain ⟨cs, hc⟩ := rs3.blk
            obtain ⟨cur, hc2⟩ := own_blk rs3.els (els_block rs3.els (by have := L.out; omega))
            rw [hc] at hc2; cases hc2
          have hgb := hbg.symm
          clear hst hbq hib hbl hbp h4
          go_upto_if 68 with fail
          go_cut [] from 25 to 132 (fun wx => ∃ ys, RRS w wx p es g m (.slice (some ⟨b, off, none⟩) n c) ys ∧ Nums ys ∧ Hid (ys.map numOf = stepAt (stepAt (xs.map numOf) pa (fun z => csubN z (cn r, cn q))) pb (fun z => caddN z (cn r, cn q))) ∧ wx.cell? ⟨b, off + k * 8, none⟩ = some (.int .u8 kind))
          case first =>
            rcases pa with _ | i
            · rcases pb with _ | t
              · go_wp2
                go_meet
                case rel => exact ⟨xs, rs3, hx, Lib.hid rfl, e0⟩
              · have ht := hpb t rfl
                obtain ⟨x2, y2, hv2, _, _⟩ := nums_at hx (j := t) (by have := HXL.out; omega)
                have hcell2 := rs3.cell ht
                rw [hv2] at hcell2
                have hfz2 := frozen_own rs3.own t
                have HV2 := Lib.hid hv2; clear hv2
                go_wp2_with fail
                refine (refadd_any _ _ _ _ _).mono ?_
                rintro e w5 ⟨r2, s2, rfl, h5, h6, h5d⟩
                have rs5 := (rs3.below (h5d.below _)).set ht (.complex .f64 r2 s2)
                obtain ⟨u5, hc5⟩ := own_cell (rs3.below (h5d.below _)).own ht
                have hf5 := frozen_own (rs3.below (h5d.below _)).own t
                have e5 := RRS.cellOther (rs3.below (h5d.below _)) hbg (cell_kept (h5d.below _) e0) t (.complex .f64 r2 s2)
                have hst2 : (xs.set t (.complex .f64 r2 s2)).map numOf = stepAt (xs.map numOf) (some t) (fun z => caddN z (cn r, cn q)) := step_set (by have := HXL.out; omega) HV2.out (by rw [h5.2, h6.2]; rfl)
                have HS2 := Lib.hid hst2; clear hst2
                have hx5 := nums_setAll (k := t) hx ⟨r2, s2, rfl, h5.1, h6.1⟩
                go_wp2
                go_meet
                case rel => exact ⟨_, rs5, hx5, HS2, e5⟩
            · have hi := hpa i rfl
              obtain ⟨x1, y1, hv1, _, _⟩ := nums_at hx (j := i) (by have := HXL.out; omega)
              have hcell := rs3.cell hi
              rw [hv1] at hcell
              have hfz := frozen_own rs3.own i
              have HV1 := Lib.hid hv1; clear hv1
              go_wp2_with fail
              refine (refsub_any _ _ _ _ _).mono ?_
              rintro e w4 ⟨r1, s1, rfl, h1, h2, h4d⟩
              have rs4 := (rs3.below (h4d.below _)).set hi (.complex .f64 r1 s1)
              obtain ⟨u4, hc4⟩ := own_cell (rs3.below (h4d.below _)).own hi
              have hf4 := frozen_own (rs3.below (h4d.below _)).own i
              have e4 := RRS.cellOther (rs3.below (h4d.below _)) hbg (cell_kept (h4d.below _) e0) i (.complex .f64 r1 s1)
              have hx4 := nums_setAll (k := i) hx ⟨r1, s1, rfl, h1.1, h2.1⟩
              have hst1 : (xs.set i (.complex .f64 r1 s1)).map numOf = stepAt (xs.map numOf) (some i) (fun z => csubN z (cn r, cn q)) := step_set (by have := HXL.out; omega) HV1.out (by rw [h1.2, h2.2]; rfl)
              have HS1 := Lib.hid hst1; clear hst1
              have hxl4 : (xs.set i (.complex .f64 r1 s1)).length = m := by rw [List.length_set]; exact HXL.out
              have HX4 := Lib.hid hxl4; clear hxl4
              rcases pb with _ | t
              · go_wp2
                go_meet
                case rel => exact ⟨_, rs4, hx4, HS1, e4⟩
              · have ht := hpb t rfl
                obtain ⟨x2, y2, hv2, _, _⟩ := nums_at hx4 (j := t) (by have := HX4.out; omega)
                have hcell2 := rs4.cell ht
                rw [hv2] at hcell2
                have hfz2 := frozen_own rs4.own t
                have HV2 := Lib.hid hv2; clear hv2
                go_wp2_with fail
                refine (refadd_any _ _ _ _ _).mono ?_
                rintro e w5 ⟨r2, s2, rfl, h5, h6, h5d⟩
                have rs5 := (rs4.below (h5d.below _)).set ht (.complex .f64 r2 s2)
                obtain ⟨u5, hc5⟩ := own_cell (rs4.below (h5d.below _)).own ht
                have hf5 := frozen_own (rs4.below (h5d.below _)).own t
                have e5 := RRS.cellOther (rs4.below (h5d.below _)) hbg (cell_kept (h5d.below _) e4) t (.complex .f64 r2 s2)
                have hst2 : ((xs.set i (.complex .f64 r1 s1)).set t (.complex .f64 r2 s2)).map numOf = stepAt ((xs.set i (.complex .f64 r1 s1)).map numOf) (some t) (fun z => caddN z (cn r, cn q)) := step_set (by have := HX4.out; omega) HV2.out (by rw [h5.2, h6.2]; rfl)
                have HS2 := Lib.hid hst2; clear hst2
                have hx5 := nums_setAll (k := t) hx4 ⟨r2, s2, rfl, h5.1, h6.1⟩
                go_wp2
                go_meet
                case rel => exact ⟨_, rs5, hx5, Lib.hid (by rw [HS2.out, HS1.out]), e5⟩
          case rest =>
            obtain ⟨ys, rsY, hys, hm2, e0⟩ := hcut
            have HY : Hid (ys.map numOf = rightStep (nodesOf es) (branchesOf es) (xs.map numOf) ⟨kind, name, na, nb, nc, nd, val, ph⟩) := Lib.hid (by rw [HST.out, hm2.out])
            go_wp2
            have hyl : ys.length = m := by have := rsY.own.1; omega
            have HYL := Lib.hid hyl; clear hyl
            have hgood : (ys.map numOf).all cfin = true → rightOf es = rightFrom (nodesOf es) (branchesOf es) (ys.map numOf) (k + 1) (es.drop (k + 1)) := fun h => by
              have := HF2.out; rw [rightFrom, ← HY.out, if_pos h] at this; exact this
            have hbad : (ys.map numOf).all cfin = false → rightOf es = ([], 6, (k : Int)) := fun h => by
              have := HF2.out; rw [rightFrom, ← HY.out, if_neg (by rw [h]; decide)] at this; exact this
            have HG := Lib.hid hgood; have HB := Lib.hid hbad; clear hgood hbad
            obtain ⟨wz, hwz⟩ : ∃ z : World, z = wc := ⟨_, rfl⟩
            rw [← hwz] at rsY ⊢
            clear hwz
            go_loopw [14] (fun i wr => ∃ t : Nat, t ≤ m ∧ i = .int .i64 t ∧ Drew wz wr ∧ Hid (((ys.map numOf).take t).all cfin = true)) (fun i _ => m - (intOf i).toNat)
            case atStart => exact ⟨0, Nat.zero_le _, rfl, Drew.refl _, Lib.hid rfl⟩
            case round =>
              obtain ⟨t, ht, rfl, hd, hall⟩ := hrel
              have rsT := rsY.below (hd.below _)
              by_cases hlt2 : t < m
              · have hcell := rsT.cell hlt2
                obtain ⟨x1, y1, hv1, _, _⟩ := nums_at hys (j := t) (by have := HYL.out; omega)
                rw [hv1] at hcell
                have hnum : (ys.map numOf).getD t (0, 0) = (cn x1, cn y1) := by rw [numOf_at (by have := HYL.out; omega), hv1]; rfl
                have HN := Lib.hid hnum; clear hnum hv1
                have hlwT := rsT.lt
                obtain ⟨t0, t1, tf⟩ := two_cells rsT.res
                cases hfin : cfin (cn x1, cn y1)
                · have hb := HB.out (all_false_of (j := t) (by rw [List.length_map, HYL.out]; exact hlt2) (by rw [HN.out, hfin]))
                  rw [hb] at hR
                  have HFI := Lib.hid hfin; clear hb hfin
                  go_wp2_with (go_at_call 105; refine (rfinite_any _ _ _).mono ?_; rintro e w9 ⟨rfl, hd9⟩; rw [HFI.out]; have rsU := rsT.below (hd9.below _); obtain ⟨t0, t1, tf⟩ := two_cells rsU.res; have hlwU := rsU.lt)
                  refine bodyPost_ret (v := .tuple #[.slice none 0 0, .agg #[.int .i64 6, .int .i64 k]]) ?_ rfl (hR _ _ ⟨_, [], rfl, by simp [Nums], rfl, World.ownsRow_nil _ _ _ _, ?_⟩)
                  · simp [results, Try.results36, go_sem, World.cell?_setCell_same', t0, t1]
                  · exact (rsU.bel.setCell (Nat.le_refl _) _).setCell (Nat.le_refl _) _
                · have HFI := Lib.hid hfin; clear hfin
                  go_wp2_with (go_at_call 105; refine (rfinite_any _ _ _).mono ?_; rintro e w9 ⟨rfl, hd9⟩; rw [HFI.out])
                  go_roundw
                  case rel => exact ⟨t + 1, by omega, by go_num, hd.trans hd9, Lib.hid (by rw [all_take_succ (by rw [List.length_map, HYL.out]; exact hlt2), hall.out, HN.out, HFI.out]; rfl)⟩
                  case measure => simp [intOf]; omega
              · have ht' : t = m := by omega
                subst ht'
                have h1 : (ys.map numOf).all cfin = true := by have := hall.out; rwa [List.take_of_length_le (by rw [List.length_map, HYL.out]; omega)] at this
                have H1 := Lib.hid h1; clear h1
                go_wp2
                go_roundw
                case rel => exact ⟨k + 1, by omega, by go_num, ⟨j, by first | rfl | go_num, HQ⟩, ys, rsT, hys, H1, Lib.hid (HG.out H1.out)⟩
                case measure => simp [intOf]; omega
    · have hk' : k = n := by omega
      subst hk'
      obtain ⟨t0, t1, tf⟩ := two_cells rs.res
      have hr2 : rightOf es = (xs.map numOf, 0, 0) := by rw [hrt.out, List.drop_eq_nil_of_le (by have := L.out; omega)]; rfl
      rw [hr2] at hR
      have hlw := rs.lt
      clear hr2
      go_wp2
      have hgn : g ≠ w.heap.size := by
        rintro rfl
        obtain ⟨cs, hc⟩ := rs.blk
        rw [rs.res] at hc; cases hc
      refine bodyPost_ret (v := .tuple #[.slice (some ⟨g, 0, none⟩) m m, .agg #[.int .i64 0, .int .i64 0]]) ?_ rfl (hR _ _ ⟨_, xs, rfl, hx, rfl, ?_, ?_⟩)
      · simp [results, Try.results36, go_sem, World.cell?_setCell_same', t0, t1]
      · have hxl : xs.length = m := by have := rs.own.1; omega
        rw [hxl]
        exact own_other (own_other rs.own (grown_set _ w.heap.size 0 _) (fun b hb e => by cases hb; exact hgn (Option.some.inj e).symm)) (grown_set _ w.heap.size 1 _) (fun b hb e => by cases hb; exact hgn (Option.some.inj e).symm)
      · exact (rs.bel.setCell (Nat.le_refl _) _).setCell (Nat.le_refl _) _
end Go.Proofs.Try
