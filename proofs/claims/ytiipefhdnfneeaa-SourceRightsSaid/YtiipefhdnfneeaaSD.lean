/- What drives a net: Driven; the document's blank and Driven. -/
import Derived.Test.YtiipefhdnfneeaaSR
namespace Go.Proofs.Try
open Go.RowKit Go.Gw
set_option maxRecDepth 100000
set_option linter.unusedSimpArgs false
set_option linter.unusedVariables false

def one1c : Nat × Nat := (4607182418800017408, 0)
def zeros (es : List El) : List (Nat × Nat) := List.replicate ((nodesOf es).length + (branchesOf es).length) (0, 0)
def drivenOf (es : List El) (port : ByteArray) : List (Nat × Nat) × Int × Int :=
  if (placeIn (namesOf es) port).isSome && (findEl es port).kind == 8 then
    (stepAt (stepAt (zeros es) (placeIn (nodesOf es) (findEl es port).a) (fun z => caddN z one1c)) (placeIn (nodesOf es) (findEl es port).b) (fun z => csubN z one1c), 0, 0)
  else ([], 10, -1)
theorem findEl_mem {es : List El} {s : ByteArray} (h : (placeIn (namesOf es) s).isSome = true) : findEl es s ∈ es := by
  unfold findEl
  cases hq : placeIn (namesOf es) s with
  | none => rw [hq] at h; cases h
  | some i =>
    have hi : i < es.length := by have := placeIn_lt hq; rwa [namesOf_length] at this
    simp only
    rw [List.getD_eq_getElem?_getD, List.getElem?_eq_getElem hi]
    exact List.getElem_mem hi
theorem one_cn : cn 4607182418800017408 = 4607182418800017408 ∧ cn 0 = 0 := by decide +kernel
set_option maxHeartbeats 2000000 in
theorem driven_net (w : World) (p : Nat) (es : List El) (port : ByteArray) (h : NetIs w p es) (hk : NetOk es) (hv : ∀ e ∈ es, e.val < 2 ^ 64) (hs : port.size ≤ maxLen) :
    Calls Try.prog 37 #[.pointer (some ⟨p, 0, none⟩), .string port] w (ListF (drivenOf es port).1 (drivenOf es port).2 w) := by
  refine calls_post fun R hR => ?_
  have hl := hk.len
  have hno := hk.nodes
  have hor := hk.order
  have b0 : Below w.heap.size w (w.alloc (.cells #[.int .i64 0, .int .i64 0] 44)) := (Below.refl _ _).alloc (Nat.le_refl _) _
  go_enter Try.func37, Try.ntmps37
  go_wp2_with fail
  refine (snone_no _ _ _ (h.below b0) (by omega) hv).mono ?_
  rintro e w1 ⟨rfl, b1⟩
  have B1 := below_call b0 b1 (by simp)
  have s1 := b1.size
  rw [size_alloc] at s1
  have r1 := (b1.block w.heap.size (by simp)).trans (alloc_self w (.cells #[.int .i64 0, .int .i64 0] 44))
  have h1 := h.below B1
  go_wp2_with fail
  refine (find_net _ _ _ _ h1 hs).mono ?_
  rintro e w2 ⟨rfl, b2⟩
  have B2 := below_call B1 b2 (by omega)
  have s2 := b2.size
  have r2 := (b2.block w.heap.size (by omega)).trans r1
  have h2 := h1.below b2
  unfold findVal
  have hdr : drivenOf es port = if (placeIn (namesOf es) port).isSome && (findEl es port).kind == 8 then
    (stepAt (stepAt (zeros es) (placeIn (nodesOf es) (findEl es port).a) (fun z => caddN z one1c)) (placeIn (nodesOf es) (findEl es port).b) (fun z => csubN z one1c), 0, 0)
  else ([], 10, -1) := rfl
  have hmem := fun h => findEl_mem (es := es) (s := port) h
  generalize findEl es port = z at hdr hmem
  obtain ⟨kind, name, na, nb, nc, nd, val, ph⟩ := z
  simp only [El.value, El.row] at hdr ⊢
  cases hfound : (placeIn (namesOf es) port).isSome
  · rw [hfound] at hdr
    simp only [Bool.false_and, Bool.false_eq_true, if_false] at hdr
    rw [hdr] at hR
    clear hdr hmem hfound
    have r3 := (Below.heap_alloc w2 (boxOf kind name na nb nc nd val ph) w.heap.size (by omega)).trans r2
    obtain ⟨t0, t1, tf⟩ := two_cells r3
    go_wp2
    refine bodyPost_ret (v := .tuple #[.slice none 0 0, .agg #[.int .i64 10, .int .i64 (-1)]]) ?_ rfl (hR _ _ ⟨_, [], rfl, by simp [Nums], rfl, World.ownsRow_nil _ _ _ _, ?_⟩)
    · simp [results, Try.results37, go_sem, World.cell?_setCell_same', t0, t1]
    · exact (((B2.alloc B2.size _).setCell (Nat.le_refl _) _).setCell (Nat.le_refl _) _)
  · rw [hfound] at hdr
    simp only [Bool.true_and] at hdr
    cases hk8 : (kind == 8)
    · rw [hk8] at hdr
      simp only [Bool.false_eq_true, if_false] at hdr
      rw [hdr] at hR
      have hk9 : (kind != 8) = true := by simp [bne, hk8]
      clear hdr hmem hfound hk8
      have r3 := (Below.heap_alloc w2 (boxOf kind name na nb nc nd val ph) w.heap.size (by omega)).trans r2
      obtain ⟨t0, t1, tf⟩ := two_cells r3
      go_wp2
      refine bodyPost_ret (v := .tuple #[.slice none 0 0, .agg #[.int .i64 10, .int .i64 (-1)]]) ?_ rfl (hR _ _ ⟨_, [], rfl, by simp [Nums], rfl, World.ownsRow_nil _ _ _ _, ?_⟩)
      · simp [results, Try.results37, go_sem, World.cell?_setCell_same', t0, t1]
      · exact (((B2.alloc B2.size _).setCell (Nat.le_refl _) _).setCell (Nat.le_refl _) _)
    · rw [hk8] at hdr
      simp only [if_true] at hdr
      have hk9 : (kind != 8) = false := by simp [bne, hk8]
      have hck := hk.mem (hmem hfound)
      obtain ⟨z1, z2, z3, z4, z5⟩ := check_sizes hck
      simp only at z2 z3
      have HD := Lib.hid hdr
      clear hdr hmem hfound hk8 hck z1 z4 z5
      have h3 := h2.below ((Below.refl _ _).alloc (Nat.le_refl _) (boxOf kind name na nb nc nd val ph))
      have r3 := (Below.heap_alloc w2 (boxOf kind name na nb nc nd val ph) w.heap.size (by omega)).trans r2
      have B3 := B2.alloc B2.size (boxOf kind name na nb nc nd val ph)
      have hbx := alloc_self w2 (boxOf kind name na nb nc nd val ph)
      go_wp2_with fail
      refine (order_net _ _ _ h3 (by omega)).mono ?_
      rintro e w4 ⟨rfl, b4⟩
      have B4 := below_call B3 b4 (by simp; omega)
      have s4 := b4.size
      rw [size_alloc] at s4
      have r4 := (b4.block w.heap.size (by simp; omega)).trans r3
      have hbx4 := (b4.block w2.heap.size (by simp)).trans hbx
      have h4 := h3.below b4
      generalize hm : (nodesOf es).length + (branchesOf es).length = m at hor
      have HM := Lib.hid hm; clear hm
      go_upto_region 7 with (at_make; refine wpList_mk rfl (.tmp 27) (.tmp 27) rfl elem_c rfl rfl (by omega) (Nat.le_refl _) ?_; intro w5 o5 g5)
      have b5 := below_grown g5
      have h5 := h4.below b5
      have r5 := (b5.block w.heap.size (by omega)).trans r4
      have hbx5 := (b5.block w2.heap.size (by omega)).trans hbx4
      have B5 := below_call B4 b5 (by omega)
      have hnum := nums_made m
      have hmade := Lib.hid (made_nums m)
      generalize (madeCells (Value.complex .f64 0 0).cells (m * 1)).toList = x0 at o5 hnum hmade
      have s5 := b5.size
      have hgl := (own_lt o5 rfl).2
      generalize w4.heap.size = g at o5 s4 s5 hgl
      obtain ⟨d0, d1, d2, d3, d4, d5, d6, d7⟩ := eight_cells hbx5
      replace o5 := own_base o5 (show w.heap.size ≤ g by omega)
      go_wp2_with fail
      refine (put_add _ _ es na _ _ _ x0 _ _ h5 (by unfold maxLen; omega) o5 hnum (by have := HM.out; omega) (by decide) (by decide) (by omega)).mono ?_
      rintro e w6 ⟨x1, rfl, hx1, hm1, ho1, hg1⟩
      obtain ⟨cs5, hc5⟩ := own_blk o5 rfl
      have h6 := h5.other hc5 (by decide) (by decide) (by decide) hg1
      have ne1 : some g ≠ some w.heap.size := by intro e; rw [Option.some.inj e, r5] at hc5; cases hc5
      have ne2 : some g ≠ some w2.heap.size := by intro e; rw [Option.some.inj e, hbx5] at hc5; cases hc5
      have r6 := (grown_heap hg1 (by omega) ne1).trans r5
      have hbx6 := (grown_heap hg1 (by omega) ne2).trans hbx5
      have B6 := B5.grown hg1 B5.size (fun k hk => by cases hk; omega)
      have HM1 := Lib.hid hm1; clear hm1 d0 d1 d2 d3 d4 d5 d6 d7
      obtain ⟨d0, d1, d2, d3, d4, d5, d6, d7⟩ := eight_cells hbx6
      have s6 := hg1.size
      generalize finAt (x1.map numOf) (placeIn (nodesOf es) na) = ok1
      go_wp2_with fail
      refine (put_sub _ _ es nb _ _ _ x1 _ _ h6 (by unfold maxLen; omega) ho1 hx1 (by have := HM.out; omega) (by decide) (by decide) (by omega)).mono ?_
      rintro e w7 ⟨x2, rfl, hx2, hm2, ho2, hg2⟩
      generalize finAt (x2.map numOf) (placeIn (nodesOf es) nb) = ok2
      have r7 := (grown_heap hg2 (by omega) ne1).trans r6
      have B7 := B6.grown hg2 B6.size (fun k hk => by cases hk; omega)
      have HM2 := Lib.hid hm2; clear hm2
      have s7 := hg2.size
      obtain ⟨t0, t1, tf⟩ := two_cells r7
      have hd : drivenOf es port = (x2.map numOf, 0, 0) := by
        rw [HD.out, HM2.out, HM1.out, hmade.out, zeros, HM.out, one_cn.1, one_cn.2]; rfl
      rw [hd] at hR
      clear hd
      go_wp2
      refine bodyPost_ret (v := .tuple #[.slice (some ⟨g, 0, none⟩) m m, .agg #[.int .i64 0, .int .i64 0]]) ?_ rfl (hR _ _ ⟨_, x2, rfl, hx2, rfl, ?_, ?_⟩)
      · simp [results, Try.results37, go_sem, World.cell?_setCell_same', t0, t1]
      · have hxl : x2.length = m := by have := ho2.1; omega
        rw [hxl]
        exact own_other (own_other ho2 (grown_set _ w.heap.size 0 _) (fun b hb e => by cases hb; exact ne1 e.symm)) (grown_set _ w.heap.size 1 _) (fun b hb e => by cases hb; exact ne1 e.symm)
      · exact (B7.setCell (Nat.le_refl _) _).setCell (Nat.le_refl _) _
end Go.Proofs.Try
