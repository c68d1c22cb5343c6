/- What drives a net: Right. -/
import Derived.Test.YtiipefhdnfneeaaPL
namespace Go.Proofs.Try
open Go.RowKit Go.Gw
set_option maxRecDepth 100000
set_option linter.unusedSimpArgs false
set_option linter.unusedVariables false

theorem order_net (w : World) (p : Nat) (es : List El) (h : NetIs w p es) (hn : es.length ≤ 1000) : Calls Try.prog 90 #[.pointer (some ⟨p, 0, none⟩)] w (fun e w' => e = .returned (.int .i64 (((nodesOf es).length + (branchesOf es).length : Nat) : Int)) ∧ Below w.heap.size w w') := by
  obtain ⟨B, v, p1, E⟩ := h
  have h1 : v.N = nodesOf es := E.2.1
  have h2 : v.K = branchesOf es := E.2.2.1
  have l1 := nodesOf_len es
  have l2 := branchesOf_len es
  have := order_own w B p v p1 (by rw [h1, h2]; omega)
  rwa [h1, h2] at this
theorem NetIs.other {w w' : World} {p g : Nat} {es : List El} {cs : Array Value} {t : TypeId} (h : NetIs w p es) (hg : w.heap[g]? = some (.cells cs t)) (h1 : t ≠ 117) (h2 : t ≠ 81) (h3 : t ≠ 9) (hb : w.grownBy w' (some g)) : NetIs w' p es := by
  obtain ⟨B, v, n, E⟩ := h
  refine ⟨B, v, ?_, E⟩
  have hp : p ≠ g := by intro e; have := n.blk; rw [e, hg] at this; cases this; exact h1 rfl
  have own : ∀ {e : TypeId} {size k : Nat} {u : Value} {xs : List Value}, t ≠ e → w.ownsRow B e size u k xs → w'.ownsRow B e size u k xs := fun ne o =>
    own_other o hb (fun b hb' e => by
      obtain ⟨cur, hc⟩ := own_blk o hb'
      rw [← Option.some.inj e, hg] at hc; cases hc; exact ne rfl)
  have map : ∀ {m k : Nat} {f : ByteArray → Option Nat}, SMap w m k f → SMap w' m k f := fun s => s.kept hb (fun e => by
    obtain ⟨es, c, hm⟩ := smap_blk s
    rw [Option.some.inj e, hg] at hm; cases hm)
  exact ⟨(grown_heap hb n.lt (fun e => hp (Option.some.inj e).symm)).trans n.blk, n.bp, own h2 n.l, own h3 n.n, own h3 n.b, map n.s1, map n.s2, map n.s3, n.b1, n.b2, n.b3, n.n12, n.n13, n.n23, n.nb⟩
/-- The state of Right: the net, the list that is written, the elements, the result's cells. -/
structure RS (w wr : World) (p : Nat) (es : List El) (g m : Nat) (ev : Value) (xs : List Value) : Prop where
  net : NetIs wr p es
  own : wr.ownsRow w.heap.size 29 1 (.slice (some ⟨g, 0, none⟩) m m) m xs
  els : wr.ownsRow w.heap.size 81 8 ev es.length (elCells es)
  res : wr.heap[w.heap.size]? = some (.cells #[.int .i64 0, .int .i64 0] 44)
  bel : Below w.heap.size w wr
section
variable {w wr w' : World} {p g m : Nat} {es : List El} {ev : Value} {xs : List Value}
theorem RS.lt (h : RS w wr p es g m ev xs) : w.heap.size < wr.heap.size := (Array.getElem?_eq_some_iff.1 h.res).1
theorem RS.below (h : RS w wr p es g m ev xs) (hb : Below wr.heap.size wr w') : RS w w' p es g m ev xs :=
  ⟨h.net.below hb, ownsRow_below h.own hb, ownsRow_below h.els hb, (hb.block _ h.lt).trans h.res, below_call h.bel hb h.bel.size⟩
theorem RS.blk (h : RS w wr p es g m ev xs) : ∃ cs, wr.heap[g]? = some (.cells cs 29) := own_blk h.own rfl
theorem RS.grown {ys : List Value} (h : RS w wr p es g m ev xs) (hg : wr.grownBy w' (some g)) (ho : w'.ownsRow w.heap.size 29 1 (.slice (some ⟨g, 0, none⟩) m m) m ys) : RS w w' p es g m ev ys := by
  obtain ⟨cs, hc⟩ := h.blk
  refine ⟨h.net.other hc (by decide) (by decide) (by decide) hg, ho, own_other h.els hg (fun b hb e => ?_), ?_, ?_⟩
  · obtain ⟨cur, hc2⟩ := own_blk h.els hb
    rw [← Option.some.inj e, hc] at hc2; cases hc2
  · refine (grown_heap hg h.lt (fun e => ?_)).trans h.res
    have := h.res
    rw [← Option.some.inj e, hc] at this; cases this
  · exact h.bel.grown hg h.bel.size (fun k hk => by cases hk; exact (own_lt h.own rfl).1)
end
/-- A list of numbers and a fault, in new memory. -/
def ListF (zs : List (Nat × Nat)) (f : Int × Int) (w : World) (e : Ending) (w' : World) : Prop :=
  ∃ v xs, e = .returned (.tuple #[v, .agg #[.int .i64 f.1, .int .i64 f.2]]) ∧ Nums xs ∧ xs.map numOf = zs ∧ w'.ownsRow w.heap.size 29 1 v xs.length xs ∧ Below w.heap.size w w'
theorem made_nums (n : Nat) : ((madeCells (Value.complex .f64 0 0).cells (n * 1)).toList).map numOf = List.replicate n (0, 0) := by
  have h0 : cn 0 = 0 := by decide +kernel
  apply List.ext_getElem
  · simp [madeCells]
  · intro i h1 h2
    have hn := nums_made n
    simp only [madeCells, Value.cells] at *
    simp [numOf, h0, Nat.mod_one]
set_option maxHeartbeats 4000000 in
theorem right_net (w : World) (p : Nat) (es : List El) (h : NetIs w p es) (hk : NetOk es) (hv : ∀ e ∈ es, e.val < 2 ^ 64) :
    Calls Try.prog 35 #[.pointer (some ⟨p, 0, none⟩)] w (ListF (rightOf es).1 (rightOf es).2 w) := by
  refine calls_post fun R hR => ?_
  have hl := hk.len
  have hno := hk.nodes
  have hor := hk.order
  have b0 : Below w.heap.size w (w.alloc (.cells #[.int .i64 0, .int .i64 0] 44)) := (Below.refl _ _).alloc (Nat.le_refl _) _
  go_enter Try.func35, Try.ntmps35
  go_wp2_with fail
  refine (snone_no _ _ _ (h.below b0) (by omega) hv).mono ?_
  rintro e w1 ⟨rfl, b1⟩
  have B1 := below_call b0 b1 (by simp)
  have s1 := b1.size
  rw [size_alloc] at s1
  have r1 := (b1.block w.heap.size (by simp)).trans (alloc_self w (.cells #[.int .i64 0, .int .i64 0] 44))
  have h1 := h.below B1
  go_wp2_with fail
  refine (order_net _ _ _ h1 (by omega)).mono ?_
  rintro e w2 ⟨rfl, b2⟩
  have B2 := below_call B1 b2 (by omega)
  have s2 := b2.size
  have r2 := (b2.block w.heap.size (by omega)).trans r1
  have h2 := h1.below b2
  generalize hm : (nodesOf es).length + (branchesOf es).length = m at hor
  have HM := Lib.hid hm; clear hm
  go_wp2_with (at_make; refine wpList_mk rfl (.tmp 16) (.tmp 16) rfl elem_c rfl rfl (by omega) (Nat.le_refl _) ?_; intro w3 o3 g3)
  have b3 := below_grown g3
  have B3 := below_call B2 b3 (by omega)
  have s3 := b3.size
  have r3 := (b3.block w.heap.size (by omega)).trans r2
  have h3 := h2.below b3
  refine (elements_net _ _ _ h3 (by omega)).mono ?_
  rintro e w4 ⟨ev, rfl, o4, b4⟩
  have rs : RS w w4 p es w2.heap.size m ev (madeCells (Value.complex .f64 0 0).cells (m * 1)).toList := ⟨h3.below b4, own_base (ownsRow_below o3 b4) (by omega), own_base o4 (by omega), (b4.block w.heap.size (by omega)).trans r3, below_call B3 b4 (by omega)⟩
  obtain ⟨a, c, rfl, hrow, _, _, _⟩ := ownsRow_rows o4
  have hnum := nums_made m
  have hmade := Lib.hid (made_nums m)
  have hlen0 := Lib.hid (show (madeCells (Value.complex .f64 0 0).cells (m * 1)).toList.length = m from by have := rs.own.1; omega)
  generalize (madeCells (Value.complex .f64 0 0).cells (m * 1)).toList = x0 at rs hnum hmade hlen0
  clear o3 o4 h1 h2 h3 r1 r2 r3 B1 B2 B3 b0 b1 b2 g3 b3 b4 s1 s2 s3
  have hgw := rs.lt
  generalize w2.heap.size = g at rs
  generalize hes : es.length = n at hl
  have L := Lib.hid hes; clear hes
  go_wp2
  go_loopw [21] (fun i wr => ∃ k : Nat, k ≤ n ∧ i = .int .i64 k ∧ ∃ xs, RS w wr p es g m (.slice a n c) xs ∧ Nums xs ∧ Hid ((xs.map numOf).all cfin = true) ∧ Hid (rightOf es = rightFrom (nodesOf es) (branchesOf es) (xs.map numOf) k (es.drop k))) (fun i _ => n - (intOf i).toNat)
  case atStart =>
    refine ⟨0, Nat.zero_le _, rfl, x0, by rw [← L.out]; exact rs, hnum, Lib.hid ?_, Lib.hid ?_⟩
    · rw [hmade.out, List.all_replicate]; rw [show cfin (0, 0) = true from by decide +kernel]; simp
    · rw [hmade.out, rightOf, HM.out]; rfl
  case round =>
    obtain ⟨k, hkn, rfl, xs, rs, hx, hF, hrt⟩ := hrel
    by_cases hlt : k < n
    · have hlz : k < es.length := by have := L.out; omega
      obtain ⟨a', c', ea, hrow, _, _, _⟩ := ownsRow_rows rs.els
      rw [L.out] at ea
      cases ea
      obtain ⟨b, off, rfl⟩ := row_some hrow (j := k * 8) (by rw [elCells_length]; omega)
      obtain ⟨e0, e1, e2, e3, e4, e5, e6, e7⟩ := row_el hrow hlz
      have hvz : (es.getD k el0).val < 2 ^ 64 := hv _ (by rw [List.getD_eq_getElem?_getD, List.getElem?_eq_getElem hlz]; exact List.getElem_mem hlz)
      have hck := hk.check k hlz
      have hbp := fun h => branch_place hk hlz h
      have hbl := fun h => branch_lt hk hlz h
      have hF2 := hrt.out
      rw [drop_step hlz] at hF2
      generalize es.getD k el0 = z at e0 e1 e2 e3 e4 e5 e6 e7 hvz hck hbp hbl hF2
      have HF2 := Lib.hid hF2; clear hF2 hrt
      have HCK := Lib.hid hck; clear hck
      obtain ⟨kind, name, na, nb, nc, nd, val, ph⟩ := z
      simp only at e0 e1 e2 e3 e4 e5 e6 e7 hbp hbl
      obtain ⟨z1, z2, z3, z4, z5⟩ := check_sizes HCK.out
      simp only at z1 z2 z3
      have hxl : xs.length = m := by have := rs.own.1; omega
      have HXL := Lib.hid hxl; clear hxl
      have hwr := rs.lt
      have hphs := sphasor_src ⟨kind, name, na, nb, nc, nd, val, ph⟩
      cases hsrc : isSrc ⟨kind, name, na, nb, nc, nd, val, ph⟩
      · have HS := Lib.hid hsrc; clear hsrc
        go_wp2_with (go_at_call 96; refine (sphasor_no ⟨kind, name, na, nb, nc, nd, val, ph⟩ _ hvz HCK.out HS.out).mono ?_; rintro e w1 ⟨rfl, b1⟩)
        go_roundw
        case rel =>
          refine ⟨k + 1, by omega, by go_num, xs, rs.below (below_call ((Below.refl _ _).alloc (Nat.le_refl _) _) b1 (by simp)), hx, hF, ?_⟩
          have := HF2.out
          rw [rightFrom, rightStep_no HS.out, if_pos hF.out] at this
          exact Lib.hid this
        case measure => simp [intOf]; omega
      · have HS := Lib.hid hsrc; clear hsrc
        have hk45 : (kind == 5) = true ∨ ((kind == 5) = false ∧ kind = 4) := by
          have := HS.out
          simp only [isSrc, Bool.or_eq_true, beq_iff_eq] at this
          rcases this with rfl | rfl
          · right; exact ⟨rfl, rfl⟩
          · left; rfl
        rcases hk45 with h5 | ⟨h5, h4⟩
        · have H5 : kind = 5 := by simpa using h5
          have hib : isBranch ⟨kind, name, na, nb, nc, nd, val, ph⟩ = true := by simp [isBranch, h5]
          have hb1 := hbp hib
          have hb2 := hbl hib
          have HI := Lib.hid hb1
          generalize (branchesOf (es.take k)).length = j at hb1 hb2 HI
          clear hib hb1 hbp hbl
          have HK5 := Lib.hid H5; clear H5
          have hjm : (nodesOf es).length + j < m := by have := HM.out; omega
          have hw : IntKind.i64.wrap (((nodesOf es).length : Int) + (j : Int)) = ((nodesOf es).length : Int) + (j : Int) := IntWalk.i64_in _ ⟨by omega, by omega⟩
          have hpl : (placeIn (branchesOf es) name).getD 0 = j := by rw [HI.out]; rfl
          have hfin := fin_5 (N := nodesOf es) (K := branchesOf es) (l := xs.map numOf) (e := ⟨kind, name, na, nb, nc, nd, val, ph⟩) HK5.out hF.out (by rw [List.length_map, HXL.out]; rw [hpl]; exact hjm)
          have hst := rightStep_5 (N := nodesOf es) (K := branchesOf es) (l := xs.map numOf) (e := ⟨kind, name, na, nb, nc, nd, val, ph⟩) HK5.out
          rw [hpl] at hst
          have HFIN := Lib.hid hfin; have HST := Lib.hid hst; clear hfin hst hpl
          go_upto_region 11 with (go_at_call 96; refine (sphasor_src ⟨kind, name, na, nb, nc, nd, val, ph⟩ _ hvz HCK.out HS.out).mono ?_; rintro e w1 ⟨r, q, rfl, hr, hq, b1⟩; have hbx := (b1.block wr.heap.size (by simp)).trans (alloc_self _ (boxOf kind name na nb nc nd val ph)); obtain ⟨d0, d1, d2, d3, d4, d5, d6, d7⟩ := eight_cells hbx)
          have rs1 := rs.below (below_call ((Below.refl _ _).alloc (Nat.le_refl _) _) b1 (by simp))
          have hbr := branch_net w1 p es name rs1.net (by unfold maxLen; omega)
          unfold placeVal at hbr
          have hpl2 := HI.out
          rw [hpl2] at hbr
          clear hpl2
          go_wp2_with fail
          refine hbr.mono ?_
          rintro e w2 ⟨rfl, b2⟩
          clear hbr
          have rs2 := rs1.below b2
          simp only [Option.getD_some, Option.isSome_some]
          go_wp2_with fail
          refine (nodes_net _ _ _ rs2.net (by omega)).mono ?_
          rintro e w3 ⟨nv, rfl, o3, b3⟩
          obtain ⟨na3, nc3, rfl⟩ := own_slice1 o3
          have rs3 := rs2.below b3
          obtain ⟨u0, hcell⟩ := own_cell rs3.own hjm
          have hfz := frozen_own rs3.own ((nodesOf es).length + j)
          have ho4 := ownsRow_setCell rs3.own hjm (.complex .f64 r q)
          have rs4 := rs3.grown (grown_set w3 g ((nodesOf es).length + j) (.complex .f64 r q)) ho4
          have hx4 := nums_setAll (k := (nodesOf es).length + j) hx ⟨r, q, rfl, hr.1, hq.1⟩
          have hph : (cn r, cn q) = phasorOf ⟨kind, name, na, nb, nc, nd, val, ph⟩ := by rw [hr.2, hq.2]
          have hm4 : (xs.set ((nodesOf es).length + j) (.complex .f64 r q)).map numOf = rightStep (nodesOf es) (branchesOf es) (xs.map numOf) ⟨kind, name, na, nb, nc, nd, val, ph⟩ := by
            rw [map_set_num, hph, HST.out]
          have HX3 := Lib.hid hm4
          have hoke : ((xs.set ((nodesOf es).length + j) (.complex .f64 r q)).map numOf).all cfin = cfin (cn r, cn q) := by rw [hm4, HFIN.out, hph]
          have HOK := Lib.hid hoke
          clear hph hm4 hoke
          go_wp2_with fail
          refine (finite_any _ _ _).mono ?_
          rintro e w5 ⟨rfl, h5d⟩
          have rs5 := rs4.below (h5d.below _)
          generalize xs.set ((nodesOf es).length + j) (.complex .f64 r q) = x3 at *
          have hgood : (x3.map numOf).all cfin = true → rightOf es = rightFrom (nodesOf es) (branchesOf es) (x3.map numOf) (k + 1) (es.drop (k + 1)) := fun h => by
            have := HF2.out; rw [rightFrom, ← HX3.out, if_pos h] at this; exact this
          have hbad : (x3.map numOf).all cfin = false → rightOf es = ([], 6, (k : Int)) := fun h => by
            have := HF2.out; rw [rightFrom, ← HX3.out, if_neg (by rw [h]; decide)] at this; exact this
          have HG := Lib.hid hgood; have HB := Lib.hid hbad; clear hgood hbad
          have hlw3 := rs5.lt
          obtain ⟨t0, t1, tf⟩ := two_cells rs5.res
          cases hok : cfin (cn r, cn q)
          · have hbad := HB.out (by rw [HOK.out, hok])
            rw [hbad] at hR
            clear hbad
            go_wp2
            refine bodyPost_ret (v := .tuple #[.slice none 0 0, .agg #[.int .i64 6, .int .i64 k]]) ?_ rfl (hR _ _ ⟨_, [], rfl, by simp [Nums], rfl, World.ownsRow_nil _ _ _ _, ?_⟩)
            · simp [results, Try.results35, go_sem, World.cell?_setCell_same', t0, t1]
            · exact (rs5.bel.setCell (Nat.le_refl _) _).setCell (Nat.le_refl _) _
          · go_wp2
            go_roundw
            case rel =>
              have h1 : (x3.map numOf).all cfin = true := by rw [HOK.out, hok]
              exact ⟨k + 1, by omega, by go_num, x3, rs5, hx4, Lib.hid h1, Lib.hid (HG.out h1)⟩
            case measure => simp [intOf]; omega
        · have H4 := Lib.hid h4; clear h4 hbp hbl
          have hfin := fin_4 (N := nodesOf es) (K := branchesOf es) (l := xs.map numOf) (e := ⟨kind, name, na, nb, nc, nd, val, ph⟩) H4.out HCK.out hF.out (by rw [List.length_map, HXL.out]; have := HM.out; omega)
          have hst := rightStep_4 (N := nodesOf es) (K := branchesOf es) (l := xs.map numOf) (e := ⟨kind, name, na, nb, nc, nd, val, ph⟩) H4.out
          have HFIN := Lib.hid hfin; have HST := Lib.hid hst; clear hfin hst
          go_upto_region 14 with (go_at_call 96; refine (sphasor_src ⟨kind, name, na, nb, nc, nd, val, ph⟩ _ hvz HCK.out HS.out).mono ?_; rintro e w1 ⟨r, q, rfl, hr, hq, b1⟩; have hbx := (b1.block wr.heap.size (by simp)).trans (alloc_self _ (boxOf kind name na nb nc nd val ph)); obtain ⟨d0, d1, d2, d3, d4, d5, d6, d7⟩ := eight_cells hbx)
          have rs1 := rs.below (below_call ((Below.refl _ _).alloc (Nat.le_refl _) _) b1 (by simp))
          have s1 := b1.size
          rw [size_alloc] at s1
          go_wp2_with fail
          refine (put_sub _ _ es na _ _ _ xs _ _ rs1.net (by unfold maxLen; omega) rs1.own hx (by have := HM.out; omega) hr.1 hq.1 (by omega)).mono ?_
          rintro e w2 ⟨x2, rfl, hx2, hm2, ho2, hg2⟩
          have rs2 := rs1.grown hg2 ho2
          have hgb : some g ≠ some wr.heap.size := by
            intro e
            obtain ⟨cs, hc⟩ := rs1.blk
            rw [Option.some.inj e, hbx] at hc; cases hc
          have hbx2 := (grown_heap hg2 (by omega) hgb).trans hbx
          obtain ⟨f0, f1, f2, f3, f4, f5, f6, f7⟩ := eight_cells hbx2
          have HM2 := Lib.hid hm2; clear hm2
          generalize hok1 : finAt (x2.map numOf) (placeIn (nodesOf es) na) = ok1
          have HO1 := Lib.hid hok1; clear hok1
          go_wp2_with fail
          refine (put_add _ _ es nb _ _ _ x2 _ _ rs2.net (by unfold maxLen; omega) rs2.own hx2 (by have := HM.out; omega) hr.1 hq.1 (by omega)).mono ?_
          rintro e w3 ⟨x3, rfl, hx3, hm3, ho3, hg3⟩
          have rs3 := rs2.grown hg3 ho3
          have HM3 := Lib.hid hm3; clear hm3
          generalize hok2 : finAt (x3.map numOf) (placeIn (nodesOf es) nb) = ok2
          have HO2 := Lib.hid hok2; clear hok2
          have hph : (cn r, cn q) = phasorOf ⟨kind, name, na, nb, nc, nd, val, ph⟩ := by rw [hr.2, hq.2]
          have hx3e : x3.map numOf = rightStep (nodesOf es) (branchesOf es) (xs.map numOf) ⟨kind, name, na, nb, nc, nd, val, ph⟩ := by
            rw [HM3.out, HM2.out, hph, HST.out]
          have hoke : ((x3.map numOf).all cfin) = (ok2 && ok1) := by
            rw [hx3e, HFIN.out, ← HST.out, ← hx3e, HO2.out, ← HO1.out, HM2.out, hph]
          have HX3 := Lib.hid hx3e; have HOK := Lib.hid hoke
          clear hx3e hoke hph
          have hgood : (x3.map numOf).all cfin = true → rightOf es = rightFrom (nodesOf es) (branchesOf es) (x3.map numOf) (k + 1) (es.drop (k + 1)) := fun h => by
            have := HF2.out; rw [rightFrom, ← HX3.out, if_pos h] at this; exact this
          have hbad : (x3.map numOf).all cfin = false → rightOf es = ([], 6, (k : Int)) := fun h => by
            have := HF2.out; rw [rightFrom, ← HX3.out, if_neg (by rw [h]; decide)] at this; exact this
          have HG := Lib.hid hgood; have HB := Lib.hid hbad; clear hgood hbad
          have hlw3 := rs3.lt
          obtain ⟨t0, t1, tf⟩ := two_cells rs3.res
          cases ok2
          all_goals cases ok1
          case true.true =>
            go_wp2
            go_roundw
            case rel =>
              have h1 : (x3.map numOf).all cfin = true := by rw [HOK.out]; rfl
              exact ⟨k + 1, by omega, by go_num, x3, rs3, hx3, Lib.hid h1, Lib.hid (HG.out h1)⟩
            case measure => simp [intOf]; omega
          all_goals
            have hbad := HB.out (by rw [HOK.out]; rfl)
            rw [hbad] at hR
            clear hbad
            go_wp2
            refine bodyPost_ret (v := .tuple #[.slice none 0 0, .agg #[.int .i64 6, .int .i64 k]]) ?_ rfl (hR _ _ ⟨_, [], rfl, by simp [Nums], rfl, World.ownsRow_nil _ _ _ _, ?_⟩)
            · simp [results, Try.results35, go_sem, World.cell?_setCell_same', t0, t1]
            · exact (rs3.bel.setCell (Nat.le_refl _) _).setCell (Nat.le_refl _) _
    · have hk' : k = n := by omega
      subst hk'
      obtain ⟨t0, t1, tf⟩ := two_cells rs.res
      have hr2 : rightOf es = (xs.map numOf, 0, 0) := by rw [hrt.out, List.drop_eq_nil_of_le (by have := L.out; omega)]; rfl
      rw [hr2] at hR
      have hlw := rs.lt
      clear hr2
      go_wp2
      have hgn : g ≠ w.heap.size := by
        rintro rfl
        obtain ⟨cs, hc⟩ := rs.blk
        rw [rs.res] at hc; cases hc
      refine bodyPost_ret (v := .tuple #[.slice (some ⟨g, 0, none⟩) m m, .agg #[.int .i64 0, .int .i64 0]]) ?_ rfl (hR _ _ ⟨_, xs, rfl, hx, rfl, ?_, ?_⟩)
      · simp [results, Try.results35, go_sem, World.cell?_setCell_same', t0, t1]
      · have hxl : xs.length = m := by have := rs.own.1; omega
        rw [hxl]
        exact own_other (own_other rs.own (grown_set _ w.heap.size 0 _) (fun b hb e => by cases hb; exact hgn (Option.some.inj e).symm)) (grown_set _ w.heap.size 1 _) (fun b hb e => by cases hb; exact hgn (Option.some.inj e).symm)
      · exact (rs.bel.setCell (Nat.le_refl _) _).setCell (Nat.le_refl _) _
end Go.Proofs.Try
