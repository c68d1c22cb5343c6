/- The walk of SourceRights. -/
import Derived.Test.YtiipefhdnfneeaaSG
namespace Go.Proofs.Try
open Go.RowKit Go.Gw
set_option maxRecDepth 100000
set_option linter.unusedSimpArgs false
set_option linter.unusedVariables false
set_option maxHeartbeats 4000000 in
theorem sr_walk (a : Option Addr) (n c : Nat) (es : List El) (port : ByteArray) (w : World) (h : Row w a (rawCells es)) (l : es.length = n) (hv : ∀ e ∈ es, e.val < 2 ^ 64) (hs : port.size ≤ maxLen) (hno : n ≤ 9223372036854775807) :
    Calls Try.prog 4 #[.slice a n c, .string port] w (fun e w' => e = .returned (.bool true) ∧ Below w.heap.size w w') := by
  refine calls_post fun R hR => ?_
  by_cases hbig : 300 < n
  · go_enter Try.func4, Try.ntmps4
    go_wp2
    exact ⟨rfl, Below.refl _ _⟩
  have L := Lib.hid l; clear l
  generalize hf : netFault es = f
  have HF := Lib.hid hf; clear hf
  go_enter Try.func4, Try.ntmps4

  go_wp2_with fail
  refine (elements_any _ _ _ es _ h L.out (by omega)).mono ?_
  rintro e w1 ⟨v1, rfl, o1, b1⟩
  replace h := h.below b1
  have B1 := b1
  have s1 := B1.size
  have t1 := b1.size
  obtain ⟨a1, c1, rfl, r1, _, _, _⟩ := ownsRow_rows o1
  go_wp2_with fail
  refine (of_net _ _ _ es _ r1 L.out hv).mono ?_
  rintro e w2 ⟨⟨r2, rfl, n2⟩, b2⟩
  replace h := h.below b2
  have B2 := below_call B1 b2 B1.size
  have s2 := B2.size
  have t2 := b2.size
  obtain ⟨q, rfl, np⟩ := netPtr_of n2
  rw [HF.out]
  clear n2 o1 r1
  have b3 := below_alloc w2 (.cells #[.int .i64 f.1, .int .i64 f.2] 44)
  replace h := h.below b3
  replace np := np.below b3
  have B3 := below_call B2 b3 B2.size
  have s3 := B3.size
  have t3 := b3.size
  have q3 := fcell_new w2 f
  go_wp2_with fail
  refine (elements_any _ _ _ es _ h L.out (by omega)).mono ?_
  rintro e w4 ⟨v4, rfl, o4, b4⟩
  replace h := h.below b4
  replace np := np.below b4
  replace q3 := q3.below b4
  have B4 := below_call B3 b4 B3.size
  have s4 := B4.size
  have t4 := b4.size
  obtain ⟨a4, c4, rfl, r4, _, _, _⟩ := ownsRow_rows o4
  go_wp2_with fail
  refine (rof_net _ _ _ es _ r4 L.out hv).mono ?_
  rintro e w5 ⟨⟨r5, rfl, n5⟩, b5⟩
  replace h := h.below b5
  replace np := np.below b5
  replace q3 := q3.below b5
  have B5 := below_call B4 b5 B4.size
  have s5 := B5.size
  have t5 := b5.size
  obtain ⟨q', rfl, rp⟩ := rnetPtr_of n5
  rw [HF.out]
  clear n5 o4 r4
  have b6 := below_alloc w5 (.cells #[.int .i64 f.1, .int .i64 f.2] 44)
  replace h := h.below b6
  replace np := np.below b6
  replace q3 := q3.below b6
  replace rp := rp.below b6
  have B6 := below_call B5 b6 B5.size
  have s6 := B6.size
  have t6 := b6.size
  have q6 := fcell_new w5 f
  have hboth := ptr_both np rp
  obtain ⟨x3, y3⟩ := q3.cells
  obtain ⟨x6, y6⟩ := q6.cells
  rcases hboth with ⟨p1, p2, rfl, rfl⟩ | ⟨rfl, rfl⟩
  all_goals
    go_wp2_with fail
    refine (right_ptr _ es _ port np hv hs).mono ?_
    rintro e w7 ⟨v7, z7, rfl, n7, m7, o7, b7⟩
    replace h := h.below b7
    replace np := np.below b7
    replace q3 := q3.below b7
    replace rp := rp.below b7
    replace q6 := q6.below b7
    have B7 := below_call B6 b7 B6.size
    have s7 := B7.size
    have t7 := b7.size
    obtain ⟨a7, c7, rfl, r7, _, _, _⟩ := ownsRow_row o7
    have i7 := own_in o7
    generalize hg7 : orNil es (rightOf es) = g7 at m7 ⊢
    have HG7 := Lib.hid hg7; clear hg7
    have M7 := Lib.hid m7; clear m7
    have b8 := below_alloc w7 (.cells #[.int .i64 g7.2.1, .int .i64 g7.2.2] 44)
    replace h := h.below b8
    replace np := np.below b8
    replace q3 := q3.below b8
    replace rp := rp.below b8
    replace q6 := q6.below b8
    replace o7 := ownsRow_below o7 b8
    replace r7 := r7.below b8
    have B8 := below_call B7 b8 B7.size
    have s8 := B8.size
    have t8 := b8.size
    have q8 := fcell_new w7 g7.2
    go_wp2_with fail
    refine (right_ptr _ es _ port np hv hs).mono ?_
    rintro e w9 ⟨v9, z9, rfl, n9, m9, o9, b9⟩
    replace h := h.below b9
    replace np := np.below b9
    replace q3 := q3.below b9
    replace rp := rp.below b9
    replace q6 := q6.below b9
    replace o7 := ownsRow_below o7 b9
    replace r7 := r7.below b9
    replace q8 := q8.below b9
    have B9 := below_call B8 b9 B8.size
    have s9 := B9.size
    have t9 := b9.size
    obtain ⟨a9, c9, rfl, r9, _, _, _⟩ := ownsRow_row o9
    have i9 := own_in o9
    rw [HG7.out] at m9 ⊢
    have M9 := Lib.hid m9; clear m9
    have b10 := below_alloc w9 (.cells #[.int .i64 g7.2.1, .int .i64 g7.2.2] 44)
    replace h := h.below b10
    replace np := np.below b10
    replace q3 := q3.below b10
    replace rp := rp.below b10
    replace q6 := q6.below b10
    replace o7 := ownsRow_below o7 b10
    replace r7 := r7.below b10
    replace q8 := q8.below b10
    replace o9 := ownsRow_below o9 b10
    replace r9 := r9.below b10
    have B10 := below_call B9 b10 B9.size
    have s10 := B10.size
    have t10 := b10.size
    have q10 := fcell_new w9 g7.2
    go_wp2_with fail
    refine (rright_ptr _ es _ port rp hv hs).mono ?_
    rintro e w11 ⟨v11, z11, rfl, n11, m11, o11, b11⟩
    replace h := h.below b11
    replace np := np.below b11
    replace q3 := q3.below b11
    replace rp := rp.below b11
    replace q6 := q6.below b11
    replace o7 := ownsRow_below o7 b11
    replace r7 := r7.below b11
    replace q8 := q8.below b11
    replace o9 := ownsRow_below o9 b11
    replace r9 := r9.below b11
    replace q10 := q10.below b11
    have B11 := below_call B10 b11 B10.size
    have s11 := B11.size
    have t11 := b11.size
    obtain ⟨a11, c11, rfl, r11, _, _, _⟩ := ownsRow_row o11
    have i11 := own_in o11
    rw [HG7.out] at m11 ⊢
    have M11 := Lib.hid m11; clear m11
    have b12 := below_alloc w11 (.cells #[.int .i64 g7.2.1, .int .i64 g7.2.2] 44)
    replace h := h.below b12
    replace np := np.below b12
    replace q3 := q3.below b12
    replace rp := rp.below b12
    replace q6 := q6.below b12
    replace o7 := ownsRow_below o7 b12
    replace r7 := r7.below b12
    replace q8 := q8.below b12
    replace o9 := ownsRow_below o9 b12
    replace r9 := r9.below b12
    replace q10 := q10.below b12
    replace o11 := ownsRow_below o11 b12
    replace r11 := r11.below b12
    have B12 := below_call B11 b12 B11.size
    have s12 := B12.size
    have t12 := b12.size
    have q12 := fcell_new w11 g7.2
    go_wp2_with fail
    refine (driven_ptr _ es _ port np hv hs).mono ?_
    rintro e w13 ⟨v13, z13, rfl, n13, m13, o13, b13⟩
    replace h := h.below b13
    replace np := np.below b13
    replace q3 := q3.below b13
    replace rp := rp.below b13
    replace q6 := q6.below b13
    replace o7 := ownsRow_below o7 b13
    replace r7 := r7.below b13
    replace q8 := q8.below b13
    replace o9 := ownsRow_below o9 b13
    replace r9 := r9.below b13
    replace q10 := q10.below b13
    replace o11 := ownsRow_below o11 b13
    replace r11 := r11.below b13
    replace q12 := q12.below b13
    have B13 := below_call B12 b13 B12.size
    have s13 := B13.size
    have t13 := b13.size
    obtain ⟨a13, c13, rfl, r13, _, _, _⟩ := ownsRow_row o13
    have i13 := own_in o13
    generalize hg13 : orNil es (drivenOf es port) = g13 at m13 ⊢
    have HG13 := Lib.hid hg13; clear hg13
    have M13 := Lib.hid m13; clear m13
    have b14 := below_alloc w13 (.cells #[.int .i64 g13.2.1, .int .i64 g13.2.2] 44)
    replace h := h.below b14
    replace np := np.below b14
    replace q3 := q3.below b14
    replace rp := rp.below b14
    replace q6 := q6.below b14
    replace o7 := ownsRow_below o7 b14
    replace r7 := r7.below b14
    replace q8 := q8.below b14
    replace o9 := ownsRow_below o9 b14
    replace r9 := r9.below b14
    replace q10 := q10.below b14
    replace o11 := ownsRow_below o11 b14
    replace r11 := r11.below b14
    replace q12 := q12.below b14
    replace o13 := ownsRow_below o13 b14
    replace r13 := r13.below b14
    have B14 := below_call B13 b14 B13.size
    have s14 := B14.size
    have t14 := b14.size
    have q14 := fcell_new w13 g13.2
    go_wp2_with fail
    refine (rdriven_ptr _ es _ port rp hv hs).mono ?_
    rintro e w15 ⟨v15, z15, rfl, n15, m15, o15, b15⟩
    replace h := h.below b15
    replace np := np.below b15
    replace q3 := q3.below b15
    replace rp := rp.below b15
    replace q6 := q6.below b15
    replace o7 := ownsRow_below o7 b15
    replace r7 := r7.below b15
    replace q8 := q8.below b15
    replace o9 := ownsRow_below o9 b15
    replace r9 := r9.below b15
    replace q10 := q10.below b15
    replace o11 := ownsRow_below o11 b15
    replace r11 := r11.below b15
    replace q12 := q12.below b15
    replace o13 := ownsRow_below o13 b15
    replace r13 := r13.below b15
    replace q14 := q14.below b15
    have B15 := below_call B14 b15 B14.size
    have s15 := B15.size
    have t15 := b15.size
    obtain ⟨a15, c15, rfl, r15, _, _, _⟩ := ownsRow_row o15
    have i15 := own_in o15
    rw [HG13.out] at m15 ⊢
    have M15 := Lib.hid m15; clear m15
    have b16 := below_alloc w15 (.cells #[.int .i64 g13.2.1, .int .i64 g13.2.2] 44)
    replace h := h.below b16
    replace np := np.below b16
    replace q3 := q3.below b16
    replace rp := rp.below b16
    replace q6 := q6.below b16
    replace o7 := ownsRow_below o7 b16
    replace r7 := r7.below b16
    replace q8 := q8.below b16
    replace o9 := ownsRow_below o9 b16
    replace r9 := r9.below b16
    replace q10 := q10.below b16
    replace o11 := ownsRow_below o11 b16
    replace r11 := r11.below b16
    replace q12 := q12.below b16
    replace o13 := ownsRow_below o13 b16
    replace r13 := r13.below b16
    replace q14 := q14.below b16
    replace o15 := ownsRow_below o15 b16
    replace r15 := r15.below b16
    have B16 := below_call B15 b16 B15.size
    have s16 := B16.size
    have t16 := b16.size
    have q16 := fcell_new w15 g13.2
    have hl7 : z7.length ≤ 1000 := by rw [← List.length_map (f := numOf), M7.out, ← HG7.out]; exact orNil_right es
    have hl13 : z13.length ≤ 1000 := by rw [← List.length_map (f := numOf), M13.out, ← HG13.out]; exact orNil_driven es port
    have e9 : z9.length ≤ 1000 := by rw [← List.length_map (f := numOf), M9.out, ← M7.out, List.length_map]; exact hl7
    have e11 : z11.length ≤ 1000 := by rw [← List.length_map (f := numOf), M11.out, ← M7.out, List.length_map]; exact hl7
    have e15 : z15.length ≤ 1000 := by rw [← List.length_map (f := numOf), M15.out, ← M13.out, List.length_map]; exact hl13
    obtain ⟨x8, y8⟩ := q8.cells
    obtain ⟨x10, y10⟩ := q10.cells
    obtain ⟨x12, y12⟩ := q12.cells
    obtain ⟨x14, y14⟩ := q14.cells
    obtain ⟨x16, y16⟩ := q16.cells
  
    go_wp2_with fail
    refine (samenumbers_any _ _ _ _ _ _ z7 z11 _ r7 r11 rfl rfl n7 n11 (by omega) (by omega)).mono ?_
    rintro e w17 ⟨rfl, d17⟩
    rw [decide_eq_true (M7.out.trans M11.out.symm)]
    have b17 := drew_below d17
    replace o7 := ownsRow_below o7 b17
    replace r7 := r7.below b17
    replace o9 := ownsRow_below o9 b17
    replace r9 := r9.below b17
    replace o11 := ownsRow_below o11 b17
    replace r11 := r11.below b17
    replace o13 := ownsRow_below o13 b17
    replace r13 := r13.below b17
    replace o15 := ownsRow_below o15 b17
    replace r15 := r15.below b17
    have B17 := below_call B16 b17 B16.size
    have s17 := B17.size
    have t17 := b17.size
    go_wp2_with fail
    refine (samenumbers_any _ _ _ _ _ _ z9 z11 _ r9 r11 rfl rfl n9 n11 (by omega) (by omega)).mono ?_
    rintro e w18 ⟨rfl, d18⟩
    rw [decide_eq_true (M9.out.trans M11.out.symm)]
    have b18 := drew_below d18
    replace o7 := ownsRow_below o7 b18
    replace r7 := r7.below b18
    replace o9 := ownsRow_below o9 b18
    replace r9 := r9.below b18
    replace o11 := ownsRow_below o11 b18
    replace r11 := r11.below b18
    replace o13 := ownsRow_below o13 b18
    replace r13 := r13.below b18
    replace o15 := ownsRow_below o15 b18
    replace r15 := r15.below b18
    have B18 := below_call B17 b18 B17.size
    have s18 := B18.size
    have t18 := b18.size
    go_wp2_with fail
    refine (samenumbers_any _ _ _ _ _ _ z13 z15 _ r13 r15 rfl rfl n13 n15 (by omega) (by omega)).mono ?_
    rintro e w19 ⟨rfl, d19⟩
    rw [decide_eq_true (M13.out.trans M15.out.symm)]
    have b19 := drew_below d19
    replace o7 := ownsRow_below o7 b19
    replace r7 := r7.below b19
    replace o9 := ownsRow_below o9 b19
    replace r9 := r9.below b19
    replace o11 := ownsRow_below o11 b19
    replace r11 := r11.below b19
    replace o13 := ownsRow_below o13 b19
    replace r13 := r13.below b19
    replace o15 := ownsRow_below o15 b19
    replace r15 := r15.below b19
    have B19 := below_call B18 b19 B18.size
    have s19 := B19.size
    have t19 := b19.size
    go_wp2_with fail
    refine (apartnumbers_any _ w.heap.size w19.heap.size 3 3 (three (.slice a7 z7.length c7) (.slice a9 z9.length c9) (.slice a13 z13.length c13)) (three' z7.length z9.length z13.length) (three' z7 z9 z13) ?_ ?_ ?_ ?_ (by omega) ?_).mono ?_
    · exact row_alloc w19 [.slice a7 z7.length c7, .slice a9 z9.length c9, .slice a13 z13.length c13] 23
    · intro j hj
      rcases lt3 hj with rfl | rfl | rfl
      · exact own_base (o7.alloc _) (by omega)
      · exact own_base (o9.alloc _) (by omega)
      · exact own_base (o13.alloc _) (by omega)
    · constructor
      · intro j hj e
        rcases lt3 hj with rfl | rfl | rfl
        · have := i7 _ e; omega
        · have := i9 _ e; omega
        · have := i13 _ e; omega
      · intro i j hi hj hij
        rcases lt3 hi with rfl | rfl | rfl <;> rcases lt3 hj with rfl | rfl | rfl
        all_goals first | exact absurd rfl hij | exact in_apart i7 i9 (by omega) | exact in_apart i7 i13 (by omega) | exact in_apart i9 i7 (by omega) | exact in_apart i9 i13 (by omega) | exact in_apart i13 i7 (by omega) | exact in_apart i13 i9 (by omega)
    · intro j hj
      rcases lt3 hj with rfl | rfl | rfl
      · show (z7.length + 6) * 16 ≤ _; omega
      · show (z9.length + 6) * 16 ≤ _; omega
      · show (z13.length + 6) * 16 ≤ _; omega
    · simp; omega
    rintro e w20 ⟨rfl, b20⟩
    go_wp2_with fail
    exact ⟨rfl, (B19.alloc (by omega) _).trans b20⟩
end Go.Proofs.Try
