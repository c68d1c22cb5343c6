/- The document's Driven. -/
import Derived.Test.YtiipefhdnfneeaaSE
namespace Go.Proofs.Try
open Go.RowKit Go.Gw
set_option maxRecDepth 100000
set_option linter.unusedSimpArgs false
set_option linter.unusedVariables false

structure DS (w wr : World) (g m : Nat) (xs : List Value) : Prop where
  own : wr.ownsRow w.heap.size 29 1 (.slice (some ⟨g, 0, none⟩) m m) m xs
  res : wr.heap[w.heap.size]? = some (.cells #[.int .i64 0, .int .i64 0] 44)
  bel : Below w.heap.size w wr
section
variable {w wr w' : World} {g m : Nat} {xs : List Value}
theorem DS.lt (h : DS w wr g m xs) : w.heap.size < wr.heap.size := (Array.getElem?_eq_some_iff.1 h.res).1
theorem DS.below (h : DS w wr g m xs) (hb : Below wr.heap.size wr w') : DS w w' g m xs :=
  ⟨ownsRow_below h.own hb, (hb.block _ h.lt).trans h.res, below_call h.bel hb h.bel.size⟩
theorem DS.ne (h : DS w wr g m xs) : g ≠ w.heap.size := by
  rintro rfl
  obtain ⟨cs, hc⟩ := own_blk h.own rfl
  rw [h.res] at hc; cases hc
theorem DS.set (h : DS w wr g m xs) {i : Nat} (hi : i < m) (u : Value) : DS w (wr.setCell ⟨g, i, none⟩ u) g m (xs.set i u) :=
  ⟨ownsRow_setCell h.own hi u, (grown_heap (grown_set wr g i u) h.lt (fun e => h.ne (Option.some.inj e))).trans h.res, h.bel.setCell (show w.heap.size ≤ (⟨g, i, none⟩ : Addr).block from (own_lt h.own rfl).1) _⟩
theorem DS.cell (h : DS w wr g m xs) {i : Nat} (hi : i < m) : wr.cell? ⟨g, i, none⟩ = some (xs.getD i undef) := by
  obtain ⟨a, c, e, hr, _, _, hl⟩ := ownsRow_row h.own
  cases e
  have := hr.at (j := i) (by omega)
  rwa [Nat.zero_add] at this
end
set_option maxHeartbeats 4000000 in
theorem rdriven_net (w : World) (p : Nat) (es : List El) (port : ByteArray) (h : RNetIs w p es) (hk : NetOk es) :
    Calls Try.prog 38 #[.pointer (some ⟨p, 0, none⟩), .string port] w (ListF (drivenOf es port).1 (drivenOf es port).2 w) := by
  refine calls_post fun R hR => ?_
  have hl := hk.len
  have hno := hk.nodes
  have hor := hk.order
  have b0 : Below w.heap.size w (w.alloc (.cells #[.int .i64 0, .int .i64 0] 44)) := (Below.refl _ _).alloc (Nat.le_refl _) _
  have r0 := alloc_self w (.cells #[.int .i64 0, .int .i64 0] 44)
  have h0 := h.below b0
  go_enter Try.func38, Try.ntmps38
  go_wp2_with (go_at_call 100; refine (r19none_no _ _ _ h0).mono ?_; rintro e w1 ⟨rfl, rfl⟩)
  refine (rfind_net _ _ _ _ h0 (by omega)).mono ?_
  rintro e w2 ⟨rfl, b2⟩
  have B2 := below_call b0 b2 (by simp)
  have s2 := b2.size
  rw [size_alloc] at s2
  have r2 := (b2.block w.heap.size (by simp)).trans r0
  have h2 := h0.below b2
  unfold findVal
  have hdr : drivenOf es port = if (placeIn (namesOf es) port).isSome && (findEl es port).kind == 8 then
    (stepAt (stepAt (zeros es) (placeIn (nodesOf es) (findEl es port).a) (fun z => caddN z one1c)) (placeIn (nodesOf es) (findEl es port).b) (fun z => csubN z one1c), 0, 0)
  else ([], 10, -1) := rfl
  generalize findEl es port = z at hdr
  obtain ⟨kind, name, na, nb, nc, nd, val, ph⟩ := z
  simp only [El.value, El.row] at hdr ⊢
  have r3 := (Below.heap_alloc w2 (boxOf kind name na nb nc nd val ph) w.heap.size (by omega)).trans r2
  have B3 := B2.alloc B2.size (boxOf kind name na nb nc nd val ph)
  have h3 := h2.below ((Below.refl _ _).alloc (Nat.le_refl _) (boxOf kind name na nb nc nd val ph))
  have hbx := alloc_self w2 (boxOf kind name na nb nc nd val ph)
  cases hfound : (placeIn (namesOf es) port).isSome
  · rw [hfound] at hdr
    simp only [Bool.false_and, Bool.false_eq_true, if_false] at hdr
    rw [hdr] at hR
    clear hdr hfound
    obtain ⟨t0, t1, tf⟩ := two_cells r3
    go_wp2
    refine bodyPost_ret (v := .tuple #[.slice none 0 0, .agg #[.int .i64 10, .int .i64 (-1)]]) ?_ rfl (hR _ _ ⟨_, [], rfl, by simp [Nums], rfl, World.ownsRow_nil _ _ _ _, ?_⟩)
    · simp [results, Try.results38, go_sem, World.cell?_setCell_same', t0, t1]
    · exact ((B3.setCell (Nat.le_refl _) _).setCell (Nat.le_refl _) _)
  · rw [hfound] at hdr
    simp only [Bool.true_and] at hdr
    cases hk8 : (kind == 8)
    · rw [hk8] at hdr
      simp only [Bool.false_eq_true, if_false] at hdr
      rw [hdr] at hR
      have hk9 : (kind != 8) = true := by simp [bne, hk8]
      clear hdr hfound hk8
      obtain ⟨t0, t1, tf⟩ := two_cells r3
      go_wp2
      refine bodyPost_ret (v := .tuple #[.slice none 0 0, .agg #[.int .i64 10, .int .i64 (-1)]]) ?_ rfl (hR _ _ ⟨_, [], rfl, by simp [Nums], rfl, World.ownsRow_nil _ _ _ _, ?_⟩)
      · simp [results, Try.results38, go_sem, World.cell?_setCell_same', t0, t1]
      · exact ((B3.setCell (Nat.le_refl _) _).setCell (Nat.le_refl _) _)
    · rw [hk8] at hdr
      simp only [if_true] at hdr
      have hk9 : (kind != 8) = false := by simp [bne, hk8]
      clear hfound hk8
      have hpaN : ∀ i, placeIn (nodesOf es) na = some i → i < (nodesOf es).length := fun i hi => placeIn_lt hi
      have hpbN : ∀ i, placeIn (nodesOf es) nb = some i → i < (nodesOf es).length := fun i hi => placeIn_lt hi
      go_wp2_with fail
      refine (blank_net _ _ _ h3 hk).mono ?_
      rintro e w4 ⟨g, m, x0, rfl, hm, o4, hx, hmade, b4⟩
      have HM := Lib.hid hm; clear hm
      have B4 := below_call B3 b4 (by simp; omega)
      have s4 := b4.size
      rw [size_alloc] at s4 o4
      have r4 := (b4.block w.heap.size (by simp; omega)).trans r3
      have hbx4 := (b4.block w2.heap.size (by simp)).trans hbx
      have h4 := h3.below b4
      have hgl := own_lt o4 rfl
      have hmb : m ≤ 64 := by have := HM.out; omega
      obtain ⟨d0, d1, d2, d3, d4, d5, d6, d7⟩ := eight_cells hbx4
      have hP := rplace_net w4 p es na h4 (by omega)
      unfold placeVal at hP
      generalize placeIn (nodesOf es) na = pa at hP hpaN hdr
      go_wp2_with fail
      refine hP.mono ?_
      rintro e w5 ⟨rfl, b5⟩
      clear hP
      have B5 := below_call B4 b5 B4.size
      have r5 := (b5.block w.heap.size (by omega)).trans r4
      have hbx5 := (b5.block w2.heap.size (by omega)).trans hbx4
      have h5 := h4.below b5
      have o5 := ownsRow_below o4 b5
      have s5 := b5.size
      clear d0 d1 d2 d3 d4 d5 d6 d7
      obtain ⟨d0, d1, d2, d3, d4, d5, d6, d7⟩ := eight_cells hbx5
      have hP := rplace_net w5 p es nb h5 (by omega)
      unfold placeVal at hP
      generalize placeIn (nodesOf es) nb = pb at hP hpbN hdr
      go_wp2_with fail
      refine hP.mono ?_
      rintro e w6 ⟨rfl, b6⟩
      clear hP
      have B6 := below_call B5 b6 B5.size
      have r6 := (b6.block w.heap.size (by omega)).trans r5
      have o6 := ownsRow_below o5 b6
      have s6 := b6.size
      rw [← hmade] at hdr
      have HD := Lib.hid hdr
      clear d0 d1 d2 d3 d4 d5 d6 d7 hdr hmade o4 o5 h2 h3 h4 h5 r2 r3 r4 r5 hbx hbx4 hbx5 B2 B3 B4 B5
      have hmN : (nodesOf es).length ≤ m := by have := HM.out; omega
      have rs0 : DS w w6 g m x0 := ⟨own_base o6 (by omega), r6, B6⟩
      rcases pa with _ | i
      · rcases pb with _ | t
        · skip
          obtain ⟨t0, t1, tf⟩ := two_cells rs0.res
          have hlw := rs0.lt
          have hd : drivenOf es port = ((x0).map numOf, 0, 0) := by
            rw [HD.out]
            rfl
          rw [hd] at hR
          clear hd
          go_wp2
          refine bodyPost_ret (v := .tuple #[.slice (some ⟨g, 0, none⟩) m m, .agg #[.int .i64 0, .int .i64 0]]) ?_ rfl (hR _ _ ⟨_, x0, rfl, hx, rfl, ?_, ?_⟩)
          · simp [results, Try.results38, go_sem, World.cell?_setCell_same', t0, t1]
          · have hxl : (x0).length = m := by have := rs0.own.1; omega
            rw [hxl]
            exact own_other (own_other rs0.own (grown_set _ w.heap.size 0 _) (fun b hb e => by cases hb; exact rs0.ne (Option.some.inj e).symm)) (grown_set _ w.heap.size 1 _) (fun b hb e => by cases hb; exact rs0.ne (Option.some.inj e).symm)
          · exact (rs0.bel.setCell (Nat.le_refl _) _).setCell (Nat.le_refl _) _
        · have ht : t < m := by have := hpbN t rfl; omega
          obtain ⟨x5, y5, hv5, _, _⟩ := nums_at hx (j := t) (by have := rs0.own.1; omega)
          have hcell5 := rs0.cell ht
          rw [hv5] at hcell5
          have HV5 := Lib.hid hv5; clear hv5
          go_wp2_with fail
          refine (refsub_any _ _ _ _ _).mono ?_
          rintro e v5 ⟨r5, s5, rfl, ha5, hb5, hd5⟩
          have rs5 := (rs0.below (hd5.below _)).set ht (.complex .f64 r5 s5)
          obtain ⟨u5, hc5⟩ := own_cell (rs0.below (hd5.below _)).own ht
          have hf5 := frozen_own (rs0.below (hd5.below _)).own t
          have hst5 : (x0.set t (.complex .f64 r5 s5)).map numOf = stepAt (x0.map numOf) (some t) (fun z => csubN z one1c) := step_set (by have := rs0.own.1; omega) HV5.out (by rw [ha5.2, hb5.2, one_cn.1, one_cn.2]; rfl)
          have HST5 := Lib.hid hst5; clear hst5
          have hx5 := nums_setAll (k := t) hx ⟨r5, s5, rfl, ha5.1, hb5.1⟩
          obtain ⟨t0, t1, tf⟩ := two_cells rs5.res
          have hlw := rs5.lt
          have hd : drivenOf es port = (((x0.set t (.complex .f64 r5 s5))).map numOf, 0, 0) := by
            rw [HD.out]
            rw [HST5.out]; rfl
          rw [hd] at hR
          clear hd
          go_wp2
          refine bodyPost_ret (v := .tuple #[.slice (some ⟨g, 0, none⟩) m m, .agg #[.int .i64 0, .int .i64 0]]) ?_ rfl (hR _ _ ⟨_, (x0.set t (.complex .f64 r5 s5)), rfl, hx5, rfl, ?_, ?_⟩)
          · simp [results, Try.results38, go_sem, World.cell?_setCell_same', t0, t1]
          · have hxl : ((x0.set t (.complex .f64 r5 s5))).length = m := by have := rs5.own.1; omega
            rw [hxl]
            exact own_other (own_other rs5.own (grown_set _ w.heap.size 0 _) (fun b hb e => by cases hb; exact rs5.ne (Option.some.inj e).symm)) (grown_set _ w.heap.size 1 _) (fun b hb e => by cases hb; exact rs5.ne (Option.some.inj e).symm)
          · exact (rs5.bel.setCell (Nat.le_refl _) _).setCell (Nat.le_refl _) _
      · have hi : i < m := by have := hpaN i rfl; omega
        obtain ⟨x4, y4, hv4, _, _⟩ := nums_at hx (j := i) (by have := rs0.own.1; omega)
        have hcell4 := rs0.cell hi
        rw [hv4] at hcell4
        have HV4 := Lib.hid hv4; clear hv4
        go_wp2_with fail
        refine (refadd_any _ _ _ _ _).mono ?_
        rintro e v4 ⟨r4, s4, rfl, ha4, hb4, hd4⟩
        have rs4 := (rs0.below (hd4.below _)).set hi (.complex .f64 r4 s4)
        obtain ⟨u4, hc4⟩ := own_cell (rs0.below (hd4.below _)).own hi
        have hf4 := frozen_own (rs0.below (hd4.below _)).own i
        have hst4 : (x0.set i (.complex .f64 r4 s4)).map numOf = stepAt (x0.map numOf) (some i) (fun z => caddN z one1c) := step_set (by have := rs0.own.1; omega) HV4.out (by rw [ha4.2, hb4.2, one_cn.1, one_cn.2]; rfl)
        have HST4 := Lib.hid hst4; clear hst4
        have hx4 := nums_setAll (k := i) hx ⟨r4, s4, rfl, ha4.1, hb4.1⟩
        rcases pb with _ | t
        · skip
          obtain ⟨t0, t1, tf⟩ := two_cells rs4.res
          have hlw := rs4.lt
          have hd : drivenOf es port = (((x0.set i (.complex .f64 r4 s4))).map numOf, 0, 0) := by
            rw [HD.out]
            rw [HST4.out]; rfl
          rw [hd] at hR
          clear hd
          go_wp2
          refine bodyPost_ret (v := .tuple #[.slice (some ⟨g, 0, none⟩) m m, .agg #[.int .i64 0, .int .i64 0]]) ?_ rfl (hR _ _ ⟨_, (x0.set i (.complex .f64 r4 s4)), rfl, hx4, rfl, ?_, ?_⟩)
          · simp [results, Try.results38, go_sem, World.cell?_setCell_same', t0, t1]
          · have hxl : ((x0.set i (.complex .f64 r4 s4))).length = m := by have := rs4.own.1; omega
            rw [hxl]
            exact own_other (own_other rs4.own (grown_set _ w.heap.size 0 _) (fun b hb e => by cases hb; exact rs4.ne (Option.some.inj e).symm)) (grown_set _ w.heap.size 1 _) (fun b hb e => by cases hb; exact rs4.ne (Option.some.inj e).symm)
          · exact (rs4.bel.setCell (Nat.le_refl _) _).setCell (Nat.le_refl _) _
        · have ht : t < m := by have := hpbN t rfl; omega
          obtain ⟨x5, y5, hv5, _, _⟩ := nums_at hx4 (j := t) (by have := rs4.own.1; omega)
          have hcell5 := rs4.cell ht
          rw [hv5] at hcell5
          have HV5 := Lib.hid hv5; clear hv5
          go_wp2_with fail
          refine (refsub_any _ _ _ _ _).mono ?_
          rintro e v5 ⟨r5, s5, rfl, ha5, hb5, hd5⟩
          have rs5 := (rs4.below (hd5.below _)).set ht (.complex .f64 r5 s5)
          obtain ⟨u5, hc5⟩ := own_cell (rs4.below (hd5.below _)).own ht
          have hf5 := frozen_own (rs4.below (hd5.below _)).own t
          have hst5 : ((x0.set i (.complex .f64 r4 s4)).set t (.complex .f64 r5 s5)).map numOf = stepAt ((x0.set i (.complex .f64 r4 s4)).map numOf) (some t) (fun z => csubN z one1c) := step_set (by have := rs4.own.1; omega) HV5.out (by rw [ha5.2, hb5.2, one_cn.1, one_cn.2]; rfl)
          have HST5 := Lib.hid hst5; clear hst5
          have hx5 := nums_setAll (k := t) hx4 ⟨r5, s5, rfl, ha5.1, hb5.1⟩
          obtain ⟨t0, t1, tf⟩ := two_cells rs5.res
          have hlw := rs5.lt
          have hd : drivenOf es port = ((((x0.set i (.complex .f64 r4 s4)).set t (.complex .f64 r5 s5))).map numOf, 0, 0) := by
            rw [HD.out]
            rw [HST5.out, HST4.out]
          rw [hd] at hR
          clear hd
          go_wp2
          refine bodyPost_ret (v := .tuple #[.slice (some ⟨g, 0, none⟩) m m, .agg #[.int .i64 0, .int .i64 0]]) ?_ rfl (hR _ _ ⟨_, ((x0.set i (.complex .f64 r4 s4)).set t (.complex .f64 r5 s5)), rfl, hx5, rfl, ?_, ?_⟩)
          · simp [results, Try.results38, go_sem, World.cell?_setCell_same', t0, t1]
          · have hxl : (((x0.set i (.complex .f64 r4 s4)).set t (.complex .f64 r5 s5))).length = m := by have := rs5.own.1; omega
            rw [hxl]
            exact own_other (own_other rs5.own (grown_set _ w.heap.size 0 _) (fun b hb e => by cases hb; exact rs5.ne (Option.some.inj e).symm)) (grown_set _ w.heap.size 1 _) (fun b hb e => by cases hb; exact rs5.ne (Option.some.inj e).symm)
          · exact (rs5.bel.setCell (Nat.le_refl _) _).setCell (Nat.le_refl _) _
end Go.Proofs.Try
