/- The walk of VectorPairs. -/
import Derived.Test.YtiipefhdnfneeaaG
import Derived.Test.YtiipefhdnfneeaaH
namespace Go.Proofs.Try
open Go.RowKit Go.Gw
set_option maxRecDepth 100000
set_option linter.unusedSimpArgs false
set_option linter.unusedVariables false
theorem nums_cx {zs : List (Nat × Nat)} (h : ∀ z ∈ zs, z.1 < 2 ^ 64 ∧ z.2 < 2 ^ 64) : Nums (zs.map cxOf) := by
  intro v hv
  obtain ⟨z, hz, rfl⟩ := List.mem_map.1 hv
  exact ⟨z.1, z.2, rfl, (h z hz).1, (h z hz).2⟩
set_option maxHeartbeats 4000000 in
theorem vp_walk (a1 a2 : Option Addr) (n1 n2 c1 c2 : Nat) (zs ms : List (Nat × Nat)) (w : World) (h1 : Pairs w a1 zs) (h2 : Pairs w a2 ms) (l1 : zs.length = n1) (l2 : ms.length = n2)
    (k1 : ∀ z ∈ zs, z.1 < 2 ^ 64 ∧ z.2 < 2 ^ 64) (k2 : ∀ z ∈ ms, z.1 < 2 ^ 64 ∧ z.2 < 2 ^ 64) (m1 : n1 * 16 ≤ 140737488351232) (m2 : n2 * 16 ≤ 140737488351232) :
    Calls Try.prog 3 #[.slice a1 n1 c1, .slice a2 n2 c2] w (fun e w' => e = .returned (.bool true) ∧ Below w.heap.size w w') := by
  refine calls_post fun R hR => ?_
  have nx := nums_cx k1
  have ny := nums_cx k2
  have lx : (zs.map cxOf).length = n1 := by simpa using l1
  have ly : (ms.map cxOf).length = n2 := by simpa using l2
  have L1 := Lib.hid l1; have L2 := Lib.hid l2; clear l1 l2
  have LX := Lib.hid lx; have LY := Lib.hid ly; clear lx ly
  generalize hA : zs.map cxOf = A at nx LX
  generalize hB : ms.map cxOf = Bv at ny LY
  have HA := Lib.hid hA; have HB := Lib.hid hB; clear hA hB
  clear k1 k2
  go_enter Try.func3, Try.ntmps3
  go_wp2_with fail
  refine (numbers_any _ _ _ zs _ h1 L1.out (by omega)).mono ?_
  rintro e w1 ⟨va, rfl, oa, b1⟩
  rw [HA.out] at oa
  obtain ⟨aa, ca, rfl, ra, _, _, _⟩ := ownsRow_row oa
  have ia := own_in oa
  go_wp2_with fail
  refine (numbers_any _ _ _ ms _ (h2.below b1) L2.out (by omega)).mono ?_
  rintro e w2 ⟨vb, rfl, ob, b2⟩
  rw [HB.out] at ob
  obtain ⟨ab, cb, rfl, rb, _, _, _⟩ := ownsRow_row ob
  replace ra := ra.below b2
  replace oa := ownsRow_below oa b2
  have B2 := b1.trans (b2.mono b1.size)
  go_wp2_with fail
  refine (lent_any _ _ _ _ _ ra LX.out nx (by omega)).mono ?_
  rintro e w3 ⟨vx, rfl, ox, b3⟩
  obtain ⟨gx, cx, rfl, kx⟩ := own_slice ox (by omega)
  have ix := own_in ox
  replace ra := ra.below b3
  replace rb := rb.below b3
  replace oa := ownsRow_below oa b3
  have B3 := B2.trans (b3.mono B2.size)
  go_wp2_with fail
  refine (lent_any _ _ _ _ _ rb LY.out ny (by omega)).mono ?_
  rintro e w4 ⟨vy, rfl, oy, b4⟩
  obtain ⟨gy, cy, rfl, ky⟩ := own_slice oy (by omega)
  have iy := own_in oy
  replace ra := ra.below b4
  replace rb := rb.below b4
  replace ox := ownsRow_below ox b4
  replace oa := ownsRow_below oa b4
  have B4 := B3.trans (b4.mono B3.size)
  have q1 : (n1 : Int) ≤ (cx : Int) := by omega
  have q2 : (n2 : Int) ≤ (cy : Int) := by omega
  have q3 : (0 : Int) ≤ (n1 : Int) := by omega
  have q4 : (0 : Int) ≤ (n2 : Int) := by omega
  go_wp2_with fail
  go_quiet (fail)
  obtain ⟨w5, hw5, b5⟩ : ∃ w5, w4.drewN nq = w5 ∧ Below w4.heap.size w4 w5 := ⟨_, rfl, (Drew.below ⟨nq, rfl⟩ _)⟩
  rw [hw5]
  clear hw5
  obtain ⟨_, _, hgx, rx, _, _, lx6⟩ := ownsRow_row ox
  obtain ⟨_, _, hgy, ry, _, _, ly6⟩ := ownsRow_row oy
  cases hgx
  cases hgy
  have rp := rx.take n1
  have rq := ry.take n2
  rw [List.take_left' LX.out] at rp
  rw [List.take_left' LY.out] at rq
  clear rx ry
  have LX6 := Lib.hid lx6; have LY6 := Lib.hid ly6; clear lx6 ly6
  replace ra := ra.below b5
  replace rb := rb.below b5
  replace rp := rp.below b5
  replace rq := rq.below b5
  replace oa := ownsRow_below oa b5
  replace ox := ownsRow_below ox b5
  replace oy := ownsRow_below oy b5
  have B5 := B4.trans (b5.mono B4.size)
  go_wp2_with fail
  refine (vadd_any _ _ _ _ _ _ A Bv _ rp rq LX.out LY.out nx ny).mono ?_
  rintro e w6 ⟨v6, y6, rfl, n6, z6, o6, b6⟩
  replace ra := ra.below b6
  replace rb := rb.below b6
  replace rp := rp.below b6
  replace rq := rq.below b6
  replace oa := ownsRow_below oa b6
  replace ox := ownsRow_below ox b6
  replace oy := ownsRow_below oy b6
  have B6 := B5.trans (b6.mono B5.size)
  have Z6 := Lib.hid z6; clear z6
  have i6 := own_in o6
  go_wp2_with fail
  refine (vsub_any _ _ _ _ _ _ A Bv _ rp rq LX.out LY.out nx ny).mono ?_
  rintro e w7 ⟨v7, y7, rfl, n7, z7, o7, b7⟩
  replace ra := ra.below b7
  replace rb := rb.below b7
  replace rp := rp.below b7
  replace rq := rq.below b7
  replace oa := ownsRow_below oa b7
  replace ox := ownsRow_below ox b7
  replace oy := ownsRow_below oy b7
  replace o6 := ownsRow_below o6 b7
  have B7 := B6.trans (b7.mono B6.size)
  have Z7 := Lib.hid z7; clear z7
  have i7 := own_in o7
  go_wp2_with fail
  refine (dot_any _ _ _ _ _ _ A Bv _ rp rq LX.out LY.out nx ny).mono ?_
  rintro e w8 ⟨r8, s8, rfl, hr8, hs8, b8⟩
  replace ra := ra.below b8
  replace rb := rb.below b8
  replace rp := rp.below b8
  replace rq := rq.below b8
  replace oa := ownsRow_below oa b8
  replace ox := ownsRow_below ox b8
  replace oy := ownsRow_below oy b8
  replace o6 := ownsRow_below o6 b8
  replace o7 := ownsRow_below o7 b8
  have B8 := B7.trans (b8.mono B7.size)
  go_wp2_with fail
  refine (inner_any _ _ _ _ _ _ A Bv _ rp rq LX.out LY.out nx ny).mono ?_
  rintro e w9 ⟨r9, s9, rfl, hr9, hs9, b9⟩
  replace ra := ra.below b9
  replace rb := rb.below b9
  replace rp := rp.below b9
  replace rq := rq.below b9
  replace oa := ownsRow_below oa b9
  replace ox := ownsRow_below ox b9
  replace oy := ownsRow_below oy b9
  replace o6 := ownsRow_below o6 b9
  replace o7 := ownsRow_below o7 b9
  have B9 := B8.trans (b9.mono B8.size)
  go_wp2_with fail
  refine (vconj_any _ _ _ A _ rp LX.out nx (by omega)).mono ?_
  rintro e w10 ⟨v10, y10, rfl, n10, z10, o10, b10⟩
  replace ra := ra.below b10
  replace rb := rb.below b10
  replace rp := rp.below b10
  replace rq := rq.below b10
  replace oa := ownsRow_below oa b10
  replace ox := ownsRow_below ox b10
  replace oy := ownsRow_below oy b10
  replace o6 := ownsRow_below o6 b10
  replace o7 := ownsRow_below o7 b10
  have B10 := B9.trans (b10.mono B9.size)
  have Z10 := Lib.hid z10; clear z10
  have i10 := own_in o10
  go_wp2_with fail
  refine (rvadd_any _ _ _ _ _ _ A Bv _ ra rb LX.out LY.out nx ny (by omega)).mono ?_
  rintro e w11 ⟨v11, y11, rfl, n11, z11, o11, b11⟩
  replace ra := ra.below b11
  replace rb := rb.below b11
  replace rp := rp.below b11
  replace rq := rq.below b11
  replace oa := ownsRow_below oa b11
  replace ox := ownsRow_below ox b11
  replace oy := ownsRow_below oy b11
  replace o6 := ownsRow_below o6 b11
  replace o7 := ownsRow_below o7 b11
  replace o10 := ownsRow_below o10 b11
  have B11 := B10.trans (b11.mono B10.size)
  have Z11 := Lib.hid z11; clear z11
  obtain ⟨a11, c11, hv11, r11, _, _, _⟩ := ownsRow_row o11
  subst hv11
  have i11 := own_in o11
  go_wp2_with fail
  refine (rvsub_any _ _ _ _ _ _ A Bv _ ra rb LX.out LY.out nx ny (by omega)).mono ?_
  rintro e w12 ⟨v12, y12, rfl, n12, z12, o12, b12⟩
  replace ra := ra.below b12
  replace rb := rb.below b12
  replace rp := rp.below b12
  replace rq := rq.below b12
  replace oa := ownsRow_below oa b12
  replace ox := ownsRow_below ox b12
  replace oy := ownsRow_below oy b12
  replace o6 := ownsRow_below o6 b12
  replace o7 := ownsRow_below o7 b12
  replace o10 := ownsRow_below o10 b12
  replace o11 := ownsRow_below o11 b12
  have B12 := B11.trans (b12.mono B11.size)
  have Z12 := Lib.hid z12; clear z12
  obtain ⟨a12, c12, hv12, r12, _, _, _⟩ := ownsRow_row o12
  subst hv12
  have i12 := own_in o12
  go_wp2_with fail
  refine (rdot_any _ _ _ _ _ _ A Bv _ ra rb LX.out LY.out nx ny).mono ?_
  rintro e w13 ⟨r13, s13, rfl, hr13, hs13, b13⟩
  replace ra := ra.below b13
  replace rb := rb.below b13
  replace rp := rp.below b13
  replace rq := rq.below b13
  replace oa := ownsRow_below oa b13
  replace ox := ownsRow_below ox b13
  replace oy := ownsRow_below oy b13
  replace o6 := ownsRow_below o6 b13
  replace o7 := ownsRow_below o7 b13
  replace o10 := ownsRow_below o10 b13
  replace o11 := ownsRow_below o11 b13
  replace o12 := ownsRow_below o12 b13
  have B13 := B12.trans (b13.mono B12.size)
  go_wp2_with fail
  refine (rinner_any _ _ _ _ _ _ A Bv _ ra rb LX.out LY.out nx ny).mono ?_
  rintro e w14 ⟨r14, s14, rfl, hr14, hs14, b14⟩
  replace ra := ra.below b14
  replace rb := rb.below b14
  replace rp := rp.below b14
  replace rq := rq.below b14
  replace oa := ownsRow_below oa b14
  replace ox := ownsRow_below ox b14
  replace oy := ownsRow_below oy b14
  replace o6 := ownsRow_below o6 b14
  replace o7 := ownsRow_below o7 b14
  replace o10 := ownsRow_below o10 b14
  replace o11 := ownsRow_below o11 b14
  replace o12 := ownsRow_below o12 b14
  have B14 := B13.trans (b14.mono B13.size)
  generalize errOf n1 n2 = er
  have t1 : (cn r8 == cn r13 && cn s8 == cn s13) = true := by rw [hr8.2, hr13.2, hs8.2, hs13.2]; simp
  have t2 : (cn r9 == cn r14 && cn s9 == cn s14) = true := by rw [hr9.2, hr14.2, hs9.2, hs14.2]; simp
  have T1 := Lib.hid t1; have T2 := Lib.hid t2; clear t1 t2
  go_wp2_with fail
  refine (samenumber_any _ _ _ _ _).mono ?_
  rintro e w15 ⟨rfl, d15⟩
  rw [T1.out]
  have b15 := d15.below w14.heap.size
  replace ra := ra.below b15
  replace rb := rb.below b15
  replace rp := rp.below b15
  replace rq := rq.below b15
  replace oa := ownsRow_below oa b15
  replace ox := ownsRow_below ox b15
  replace oy := ownsRow_below oy b15
  replace o6 := ownsRow_below o6 b15
  replace o7 := ownsRow_below o7 b15
  replace o10 := ownsRow_below o10 b15
  replace o11 := ownsRow_below o11 b15
  replace o12 := ownsRow_below o12 b15
  have B15 := B14.trans (b15.mono B14.size)
  go_wp2_with fail
  refine (samenumber_any _ _ _ _ _).mono ?_
  rintro e w16 ⟨rfl, d16⟩
  rw [T2.out]
  have b16 := d16.below w15.heap.size
  replace ra := ra.below b16
  replace rb := rb.below b16
  replace rp := rp.below b16
  replace rq := rq.below b16
  replace oa := ownsRow_below oa b16
  replace ox := ownsRow_below ox b16
  replace oy := ownsRow_below oy b16
  replace o6 := ownsRow_below o6 b16
  replace o7 := ownsRow_below o7 b16
  replace o10 := ownsRow_below o10 b16
  replace o11 := ownsRow_below o11 b16
  replace o12 := ownsRow_below o12 b16
  have B16 := B15.trans (b16.mono B15.size)
  go_wp2_with fail
  refine (norm1_any _ _ _ A _ rp LX.out nx (by omega)).mono ?_
  rintro e w17 ⟨r17, rfl, hr17, d17⟩
  have b17 := d17.below w16.heap.size
  replace ra := ra.below b17
  replace rb := rb.below b17
  replace rp := rp.below b17
  replace rq := rq.below b17
  replace oa := ownsRow_below oa b17
  replace ox := ownsRow_below ox b17
  replace oy := ownsRow_below oy b17
  replace o6 := ownsRow_below o6 b17
  replace o7 := ownsRow_below o7 b17
  replace o10 := ownsRow_below o10 b17
  replace o11 := ownsRow_below o11 b17
  replace o12 := ownsRow_below o12 b17
  have B17 := B16.trans (b17.mono B16.size)
  go_wp2_with fail
  refine (rnorm1_any _ _ _ A _ ra LX.out nx (by omega)).mono ?_
  rintro e w18 ⟨r18, rfl, hr18, d18⟩
  have b18 := d18.below w17.heap.size
  replace ra := ra.below b18
  replace rb := rb.below b18
  replace rp := rp.below b18
  replace rq := rq.below b18
  replace oa := ownsRow_below oa b18
  replace ox := ownsRow_below ox b18
  replace oy := ownsRow_below oy b18
  replace o6 := ownsRow_below o6 b18
  replace o7 := ownsRow_below o7 b18
  replace o10 := ownsRow_below o10 b18
  replace o11 := ownsRow_below o11 b18
  replace o12 := ownsRow_below o12 b18
  have B18 := B17.trans (b18.mono B17.size)
  go_wp2_with fail
  refine (samereal_any _ _ _).mono ?_
  rintro e w19 ⟨rfl, d19⟩
  rw [show (cn r17 == cn r18) = true by rw [hr17.2, hr18.2]; simp]
  have b19 := d19.below w18.heap.size
  replace ra := ra.below b19
  replace rb := rb.below b19
  replace rp := rp.below b19
  replace rq := rq.below b19
  replace oa := ownsRow_below oa b19
  replace ox := ownsRow_below ox b19
  replace oy := ownsRow_below oy b19
  replace o6 := ownsRow_below o6 b19
  replace o7 := ownsRow_below o7 b19
  replace o10 := ownsRow_below o10 b19
  replace o11 := ownsRow_below o11 b19
  replace o12 := ownsRow_below o12 b19
  have B19 := B18.trans (b19.mono B18.size)
  go_wp2_with fail
  refine (normmax_any _ _ _ A _ rp LX.out nx (by omega)).mono ?_
  rintro e w20 ⟨r20, rfl, hr20, d20⟩
  have b20 := d20.below w19.heap.size
  replace ra := ra.below b20
  replace rb := rb.below b20
  replace rp := rp.below b20
  replace rq := rq.below b20
  replace oa := ownsRow_below oa b20
  replace ox := ownsRow_below ox b20
  replace oy := ownsRow_below oy b20
  replace o6 := ownsRow_below o6 b20
  replace o7 := ownsRow_below o7 b20
  replace o10 := ownsRow_below o10 b20
  replace o11 := ownsRow_below o11 b20
  replace o12 := ownsRow_below o12 b20
  have B20 := B19.trans (b20.mono B19.size)
  go_wp2_with fail
  refine (rnormmax_any _ _ _ A _ ra LX.out nx (by omega)).mono ?_
  rintro e w21 ⟨r21, rfl, hr21, d21⟩
  have b21 := d21.below w20.heap.size
  replace ra := ra.below b21
  replace rb := rb.below b21
  replace rp := rp.below b21
  replace rq := rq.below b21
  replace oa := ownsRow_below oa b21
  replace ox := ownsRow_below ox b21
  replace oy := ownsRow_below oy b21
  replace o6 := ownsRow_below o6 b21
  replace o7 := ownsRow_below o7 b21
  replace o10 := ownsRow_below o10 b21
  replace o11 := ownsRow_below o11 b21
  replace o12 := ownsRow_below o12 b21
  have B21 := B20.trans (b21.mono B20.size)
  go_wp2_with fail
  refine (samereal_any _ _ _).mono ?_
  rintro e w22 ⟨rfl, d22⟩
  rw [show (cn r20 == cn r21) = true by rw [hr20.2, hr21.2]; simp]
  have b22 := d22.below w21.heap.size
  replace ra := ra.below b22
  replace rb := rb.below b22
  replace rp := rp.below b22
  replace rq := rq.below b22
  replace oa := ownsRow_below oa b22
  replace ox := ownsRow_below ox b22
  replace oy := ownsRow_below oy b22
  replace o6 := ownsRow_below o6 b22
  replace o7 := ownsRow_below o7 b22
  replace o10 := ownsRow_below o10 b22
  replace o11 := ownsRow_below o11 b22
  replace o12 := ownsRow_below o12 b22
  have B22 := B21.trans (b22.mono B21.size)
  obtain ⟨_, _, hgx, rx, _, _, _⟩ := ownsRow_row ox
  cases hgx
  go_wp2_with fail
  refine (kept_any _ _ _ _ _ _ (A ++ marks7) A _ rx ra LX6.out LX.out (nums_append nx nums_marks7) nx (by omega) (by omega)).mono ?_
  rintro e w23 ⟨rfl, b23⟩
  rw [decide_eq_true rfl]
  replace ra := ra.below b23
  replace rb := rb.below b23
  replace rp := rp.below b23
  replace rq := rq.below b23
  replace rx := rx.below b23
  replace oa := ownsRow_below oa b23
  replace ox := ownsRow_below ox b23
  replace oy := ownsRow_below oy b23
  replace o6 := ownsRow_below o6 b23
  replace o7 := ownsRow_below o7 b23
  replace o10 := ownsRow_below o10 b23
  replace o11 := ownsRow_below o11 b23
  replace o12 := ownsRow_below o12 b23
  have B23 := B22.trans (b23.mono B22.size)
  clear rx
  obtain ⟨_, _, hgy, ry, _, _, _⟩ := ownsRow_row oy
  cases hgy
  go_wp2_with fail
  refine (kept_any _ _ _ _ _ _ (Bv ++ marks7) Bv _ ry rb LY6.out LY.out (nums_append ny nums_marks7) ny (by omega) (by omega)).mono ?_
  rintro e w24 ⟨rfl, b24⟩
  rw [decide_eq_true rfl]
  replace ra := ra.below b24
  replace rb := rb.below b24
  replace rp := rp.below b24
  replace rq := rq.below b24
  replace ry := ry.below b24
  replace oa := ownsRow_below oa b24
  replace ox := ownsRow_below ox b24
  replace oy := ownsRow_below oy b24
  replace o6 := ownsRow_below o6 b24
  replace o7 := ownsRow_below o7 b24
  replace o10 := ownsRow_below o10 b24
  replace o11 := ownsRow_below o11 b24
  replace o12 := ownsRow_below o12 b24
  have B24 := B23.trans (b24.mono B23.size)
  clear ry rp rq ra rb r11 r12
  have s1 := b1.size
  have s2 := b2.size
  have s3 := b3.size
  have s4 := b4.size
  have s5 := b5.size
  have s6 := b6.size
  have s7 := b7.size
  have s8 := b8.size
  have s9 := b9.size
  have s10 := b10.size
  have s11 := b11.size
  have s12 := b12.size
  have s13 := b13.size
  have s14 := b14.size
  have s15 := b15.size
  have s16 := b16.size
  have s17 := b17.size
  have s18 := b18.size
  have s19 := b19.size
  have s20 := b20.size
  have s21 := b21.size
  have s22 := b22.size
  have s23 := b23.size
  have s24 := b24.size
  go_wp2_with fail
  refine (over_any _ _ _ _ _ _ ox (by omega)).mono ?_
  rintro e w25 ⟨rfl, ⟨yx, nyx, ox'⟩, g25⟩
  have iB := own_base ox (B' := w.heap.size) (by omega)
  have hgx := (own_lt iB (b := gx) rfl).1
  clear iB
  replace ox := ox'
  clear ox'
  replace oa := own_other oa g25 (in_apart ia ix (by omega))
  replace oy := own_other oy g25 (in_apart iy ix (by omega))
  replace o6 := own_other o6 g25 (in_apart i6 ix (by omega))
  replace o7 := own_other o7 g25 (in_apart i7 ix (by omega))
  replace o10 := own_other o10 g25 (in_apart i10 ix (by omega))
  replace o11 := own_other o11 g25 (in_apart i11 ix (by omega))
  replace o12 := own_other o12 g25 (in_apart i12 ix (by omega))
  have B25 := B24.grown g25 B24.size (fun k hk => by cases hk; exact hgx)
  have s25 := g25.size
  go_wp2_with fail
  refine (over_any _ _ _ _ _ _ oy (by omega)).mono ?_
  rintro e w26 ⟨rfl, ⟨yy, nyy, oy'⟩, g26⟩
  have iB := own_base oy (B' := w.heap.size) (by omega)
  have hgy := (own_lt iB (b := gy) rfl).1
  clear iB
  replace oy := oy'
  clear oy'
  replace oa := own_other oa g26 (in_apart ia iy (by omega))
  replace ox := own_other ox g26 (in_apart ix iy (by omega))
  replace o6 := own_other o6 g26 (in_apart i6 iy (by omega))
  replace o7 := own_other o7 g26 (in_apart i7 iy (by omega))
  replace o10 := own_other o10 g26 (in_apart i10 iy (by omega))
  replace o11 := own_other o11 g26 (in_apart i11 iy (by omega))
  replace o12 := own_other o12 g26 (in_apart i12 iy (by omega))
  have B26 := B25.grown g26 B25.size (fun k hk => by cases hk; exact hgy)
  have s26 := g26.size
  have hm5 : (maxLen : Nat) = 9223372036854775807 := rfl
  obtain ⟨a6, c6, hv6, r6, u6, u6', _⟩ := ownsRow_row o6
  obtain ⟨a7, c7, hv7, r7, u7, u7', _⟩ := ownsRow_row o7
  obtain ⟨a10, c10, hv10, r10, u10, u10', _⟩ := ownsRow_row o10
  obtain ⟨_, _, hv11, r11, u11, u11', _⟩ := ownsRow_row o11
  obtain ⟨_, _, hv12, r12, u12, u12', _⟩ := ownsRow_row o12
  obtain ⟨_, _, hva, ra, _, _, _⟩ := ownsRow_row oa
  cases hv11
  cases hv12
  cases hva
  subst hv6
  subst hv7
  subst hv10
  rw [hm5] at u6' u7' u10' u11' u12'
  have v6 : y6.length ≤ 9223372036854775807 := Nat.le_trans u6 u6'
  have v7 : y7.length ≤ 9223372036854775807 := Nat.le_trans u7 u7'
  have v10 : A.length ≤ 9223372036854775807 := Nat.le_trans u10 u10'
  have v11 : y11.length ≤ 9223372036854775807 := Nat.le_trans u11 u11'
  have v12 : y12.length ≤ 9223372036854775807 := Nat.le_trans u12 u12'
  clear u6 u6' u7 u7' u10 u10' u11 u11' u12 u12' hm5
  go_wp2_with fail
  refine (samenumbers_any _ _ _ _ _ _ y6 y11 _ r6 r11 rfl rfl n6 n11 v6 v11).mono ?_
  rintro e w27 ⟨rfl, d27⟩
  rw [decide_eq_true (Z6.out.trans Z11.out.symm)]
  have b27 := d27.below w26.heap.size
  replace r7 := r7.below b27
  replace r12 := r12.below b27
  replace r10 := r10.below b27
  replace ra := ra.below b27
  replace ox := ownsRow_below ox b27
  replace oy := ownsRow_below oy b27
  replace o6 := ownsRow_below o6 b27
  replace o7 := ownsRow_below o7 b27
  replace o10 := ownsRow_below o10 b27
  have B27 := B26.trans (b27.mono B26.size)
  have s27 := b27.size
  go_wp2_with fail
  refine (samenumbers_any _ _ _ _ _ _ y7 y12 _ r7 r12 rfl rfl n7 n12 v7 v12).mono ?_
  rintro e w28 ⟨rfl, d28⟩
  rw [decide_eq_true (Z7.out.trans Z12.out.symm)]
  have b28 := d28.below w27.heap.size
  replace r10 := r10.below b28
  replace ra := ra.below b28
  replace ox := ownsRow_below ox b28
  replace oy := ownsRow_below oy b28
  replace o6 := ownsRow_below o6 b28
  replace o7 := ownsRow_below o7 b28
  replace o10 := ownsRow_below o10 b28
  have B28 := B27.trans (b28.mono B27.size)
  have s28 := b28.size
  go_wp2_with fail
  refine (rvconj_any _ _ _ A _ ra LX.out nx (by omega)).mono ?_
  rintro e w29 ⟨v29, y29, rfl, n29, z29, o29, b29⟩
  obtain ⟨a29, c29, hv29, r29, _, _, l29⟩ := ownsRow_row o29
  subst hv29
  have Z29 := Lib.hid z29; clear z29
  have l10 := o10.1
  rw [Nat.mul_one] at l10
  have L10 := Lib.hid (l10.trans LX.out); have L29 := Lib.hid (l29.trans LX.out); clear l10 l29
  replace r10 := r10.below b29
  replace ox := ownsRow_below ox b29
  replace oy := ownsRow_below oy b29
  replace o6 := ownsRow_below o6 b29
  replace o7 := ownsRow_below o7 b29
  replace o10 := ownsRow_below o10 b29
  have B29 := B28.trans (b29.mono B28.size)
  have s29 := b29.size
  go_wp2_with fail
  refine (samenumbers_any _ _ _ _ _ _ y10 y29 _ r10 r29 L10.out L29.out n10 n29 (by omega) (by omega)).mono ?_
  rintro e w30 ⟨rfl, d30⟩
  rw [decide_eq_true (Z10.out.trans Z29.out.symm)]
  have b30 := d30.below w29.heap.size
  replace ox := ownsRow_below ox b30
  replace oy := ownsRow_below oy b30
  replace o6 := ownsRow_below o6 b30
  replace o7 := ownsRow_below o7 b30
  replace o10 := ownsRow_below o10 b30
  have B30 := B29.trans (b30.mono B29.size)
  have s30 := b30.size
  go_wp2_with fail
  have p6 : y6.length ≤ n1 := by have := congrArg List.length Z6.out; rw [List.length_map] at this; have h := @vecRes_length zadd A Bv; rw [LX.out] at h; omega
  have p7 : y7.length ≤ n1 := by have := congrArg List.length Z7.out; rw [List.length_map] at this; have h := @vecRes_length zsub A Bv; rw [LX.out] at h; omega
  rw [LX.out] at o10 i10
  refine (apartnumbers_any _ w.heap.size w30.heap.size 5 5 (five (.slice (some ⟨gx, 0, none⟩) (n1 + 6) cx) (.slice (some ⟨gy, 0, none⟩) (n2 + 6) cy) (.slice a6 y6.length c6) (.slice a7 y7.length c7) (.slice a10 n1 c10)) (five' (n1 + 6) (n2 + 6) y6.length y7.length n1) (five' yx yy y6 y7 y10) ?_ ?_ ?_ ?_ (by omega) ?_).mono ?_
  · exact row_alloc w30 [.slice (some ⟨gx, 0, none⟩) (n1 + 6) cx, .slice (some ⟨gy, 0, none⟩) (n2 + 6) cy, .slice a6 y6.length c6, .slice a7 y7.length c7, .slice a10 n1 c10] 23
  · intro j hj
    rcases lt5 hj with rfl | rfl | rfl | rfl | rfl
    · exact own_base (ox.alloc _) (by omega)
    · exact own_base (oy.alloc _) (by omega)
    · exact own_base (o6.alloc _) (by omega)
    · exact own_base (o7.alloc _) (by omega)
    · exact own_base (o10.alloc _) (by omega)
  · constructor
    · intro j hj e
      rcases lt5 hj with rfl | rfl | rfl | rfl | rfl
      · have := ix _ e; omega
      · have := iy _ e; omega
      · have := i6 _ e; omega
      · have := i7 _ e; omega
      · have := i10 _ e; omega
    · intro i j hi hj hij
      rcases lt5 hi with rfl | rfl | rfl | rfl | rfl <;> rcases lt5 hj with rfl | rfl | rfl | rfl | rfl
      all_goals first | exact absurd rfl hij | exact in_apart ix iy (by omega) | exact in_apart ix i6 (by omega) | exact in_apart ix i7 (by omega) | exact in_apart ix i10 (by omega) | exact in_apart iy ix (by omega) | exact in_apart iy i6 (by omega) | exact in_apart iy i7 (by omega) | exact in_apart iy i10 (by omega) | exact in_apart i6 ix (by omega) | exact in_apart i6 iy (by omega) | exact in_apart i6 i7 (by omega) | exact in_apart i6 i10 (by omega) | exact in_apart i7 ix (by omega) | exact in_apart i7 iy (by omega) | exact in_apart i7 i6 (by omega) | exact in_apart i7 i10 (by omega) | exact in_apart i10 ix (by omega) | exact in_apart i10 iy (by omega) | exact in_apart i10 i6 (by omega) | exact in_apart i10 i7 (by omega)
  · intro j hj
    rcases lt5 hj with rfl | rfl | rfl | rfl | rfl
    · show (n1 + 6 + 6) * 16 ≤ _; omega
    · show (n2 + 6 + 6) * 16 ≤ _; omega
    · show (y6.length + 6) * 16 ≤ _; omega
    · show (y7.length + 6) * 16 ≤ _; omega
    · show (n1 + 6) * 16 ≤ _; omega
  · simp; omega
  rintro e w31 ⟨rfl, b31⟩
  have B31 := (B30.alloc (by omega) _).trans b31
  go_wp2_with fail
  exact ⟨rfl, B31⟩
end Go.Proofs.Try
