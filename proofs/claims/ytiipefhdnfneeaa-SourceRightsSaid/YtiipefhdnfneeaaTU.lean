/- Finite numbers; turns; phasors: both sides. -/
import Derived.Test.YtiipefhdnfneeaaQ
namespace Go.Proofs.Try
open Go.RowKit Go.Gw
set_option maxRecDepth 100000
set_option linter.unusedSimpArgs false
set_option linter.unusedVariables false

/-! ### Finite -/
def finB (x : Nat) : Bool := feq (fsub x x) 0
def cfin (z : Nat × Nat) : Bool := finB z.1 && finB z.2
theorem feq_of {x y X Y : Nat} (hx : cn x = X) (hy : cn y = Y) : feq x y = feq X Y := by unfold feq; rw [order_of hx hy]
theorem fin_res (a : Nat) (w : World) : feq (fres .sub a a w) 0 = finB (cn a) := by
  unfold finB
  exact feq_of (cn_fres_sub w a a) (by decide +kernel)
theorem finite_any (a b : Nat) (w : World) : Calls Try.prog 98 #[.complex .f64 a b] w (BoolC (cfin (cn a, cn b)) w) := by
  refine calls_post fun R hR => ?_
  cases h : feq (fres .sub a a w) 0
  · have e : cfin (cn a, cn b) = false := by unfold cfin; rw [← fin_res a w, h]; rfl
    rw [e] at hR
    go_enter Try.func98, Try.ntmps98
    go_wp2
    exact ⟨rfl, _, rfl⟩
  · have e : cfin (cn a, cn b) = finB (cn b) := by unfold cfin; simp only; rw [← fin_res a w, h]; rfl
    rw [e] at hR
    go_enter Try.func98, Try.ntmps98
    go_wp2
    refine ⟨?_, _, rfl⟩
    rw [fin_res]; rfl
theorem finreal_any (a : Nat) (w : World) : Calls Try.prog 160 #[.float .f64 a] w (BoolC (finB (cn a)) w) := by
  refine calls_post fun R hR => ?_
  go_enter Try.func160, Try.ntmps160
  go_wp2
  exact ⟨by rw [fin_res]; rfl, _, rfl⟩
theorem rfinite_any (a b : Nat) (w : World) : Calls Try.prog 105 #[.complex .f64 a b] w (BoolC (cfin (cn a, cn b)) w) := by
  refine calls_post fun R hR => ?_
  cases h : finB (cn a)
  all_goals
    have e : cfin (cn a, cn b) = (finB (cn a) && finB (cn b)) := rfl
    rw [e, h] at hR
    have H := Lib.hid h; clear h e
    simp only [Bool.false_and, Bool.true_and] at hR
    go_enter Try.func105, Try.ntmps105
    go_wp2_with fail
    refine (finreal_any _ _).mono ?_
    rintro e w1 ⟨rfl, h1⟩
    rw [H.out]
  · go_wp2
    exact ⟨rfl, h1⟩
  · go_wp2_with (go_at_call 160; refine (finreal_any _ _).mono ?_; rintro e w2 ⟨rfl, h2⟩)
    exact ⟨rfl, h1.trans h2⟩

/-! ### Turns -/
def cosC (k : Int) : Nat :=
  if k = 0 then 4607182418800017408 else if k = 1 then 4606875505927962389 else if k = 2 then 4605975682916830378 else if k = 3 then 4604544271217802189 else if k = 4 then 4602678819172646912 else if k = 5 then 4598334089338226320 else 0
theorem constant_any (k : Int) (w : World) : Calls Try.prog 190 #[.int .i64 k] w (fun e w' => e = .returned (.float .f64 (cosC k)) ∧ w = w') := by
  refine calls_post fun R hR => ?_
  have hk : k = 0 ∨ k = 1 ∨ k = 2 ∨ k = 3 ∨ k = 4 ∨ k = 5 ∨ (k ≠ 0 ∧ k ≠ 1 ∧ k ≠ 2 ∧ k ≠ 3 ∧ k ≠ 4 ∧ k ≠ 5) := by omega
  rcases hk with rfl | rfl | rfl | rfl | rfl | rfl | ⟨h0, h1, h2, h3, h4, h5⟩
  case' inr.inr.inr.inr.inr.inr =>
    have e : cosC k = 0 := by unfold cosC; rw [if_neg h0, if_neg h1, if_neg h2, if_neg h3, if_neg h4, if_neg h5]
    rw [e] at hR
    clear e
    have b0 : (k == 0) = false := by simpa using h0
    have b1 : (k == 1) = false := by simpa using h1
    have b2 : (k == 2) = false := by simpa using h2
    have b3 : (k == 3) = false := by simpa using h3
    have b4 : (k == 4) = false := by simpa using h4
    have b5 : (k == 5) = false := by simpa using h5
  all_goals
    go_enter Try.func190, Try.ntmps190
    go_wp2
    first | done | exact rfl
def fnegW (x : Nat) : Nat := x ^^^ 2 ^ 63
@[go_sem] theorem run_neg_real (b : Nat) : Op.unary .neg (.float .f64 b) = pure (.float .f64 (fnegW b)) := rfl
def cosT (k : Int) : Nat := if 17 < k then cosC (24 - k) else if 12 < k then fnegW (cosC (k - 12)) else if 6 < k then fnegW (cosC (12 - k)) else cosC k
theorem cosT_1 {k : Int} (h : 17 < k) : cosT k = cosC (24 - k) := by unfold cosT; rw [if_pos h]
theorem cosT_2 {k : Int} (h : 12 < k) (h2 : k ≤ 17) : cosT k = fnegW (cosC (k - 12)) := by unfold cosT; rw [if_neg (by omega), if_pos h]
theorem cosT_3 {k : Int} (h : 6 < k) (h2 : k ≤ 12) : cosT k = fnegW (cosC (12 - k)) := by unfold cosT; rw [if_neg (by omega), if_neg (by omega), if_pos h]
theorem cosT_4 {k : Int} (h : k ≤ 6) : cosT k = cosC k := by unfold cosT; rw [if_neg (by omega), if_neg (by omega), if_neg (by omega)]
theorem cosine_any (k : Int) (w : World) (h0 : 0 ≤ k) (h1 : k ≤ 24) : Calls Try.prog 187 #[.int .i64 k] w (fun e w' => e = .returned (.float .f64 (cosT k)) ∧ w = w') := by
  refine calls_post fun R hR => ?_
  by_cases h : 17 < k
  · rw [cosT_1 h] at hR
    go_enter Try.func187, Try.ntmps187
    go_wp2_with (go_at_call 190; refine (constant_any _ _).mono ?_; rintro e w' ⟨rfl, rfl⟩)
  · by_cases h2 : 12 < k
    · rw [cosT_2 h2 (by omega)] at hR
      go_enter Try.func187, Try.ntmps187
      go_wp2_with (go_at_call 190; refine (constant_any _ _).mono ?_; rintro e w' ⟨rfl, rfl⟩)
    · by_cases h3 : 6 < k
      · rw [cosT_3 h3 (by omega)] at hR
        go_enter Try.func187, Try.ntmps187
        go_wp2_with (go_at_call 190; refine (constant_any _ _).mono ?_; rintro e w' ⟨rfl, rfl⟩)
      · rw [cosT_4 (by omega)] at hR
        go_enter Try.func187, Try.ntmps187
        go_wp2_with (go_at_call 190; refine (constant_any _ _).mono ?_; rintro e w' ⟨rfl, rfl⟩)
theorem rconstant_any (k : Int) (w : World) (h0 : 0 ≤ k) (h1 : k ≤ 6) : Calls Try.prog 191 #[.int .i64 k] w (fun e w' => e = .returned (.float .f64 (cosC k)) ∧ Below w.heap.size w w') := by
  refine calls_post fun R hR => ?_
  have hk : k = 0 ∨ k = 1 ∨ k = 2 ∨ k = 3 ∨ k = 4 ∨ k = 5 ∨ k = 6 := by omega
  rcases hk with rfl | rfl | rfl | rfl | rfl | rfl | rfl
  all_goals
    go_enter Try.func191, Try.ntmps191
    go_wp2
    exact ⟨rfl, (Below.refl _ _).alloc (Nat.le_refl _) _⟩
theorem tmod24 (k : Int) : ∃ r, k.tmod 24 = r ∧ -24 < r ∧ r < 24 ∧ ((0 ≤ r ∧ k % 24 = r) ∨ (r < 0 ∧ k % 24 = r + 24)) := by
  have h1 := Int.mul_tdiv_add_tmod k 24
  have h2 := Int.tmod_lt_of_pos k (show (0 : Int) < 24 by decide)
  have h3 : -24 < k.tmod 24 := by
    have := Int.lt_tmod_of_pos k (show (0 : Int) < 24 by decide)
    omega
  exact ⟨_, rfl, h3, h2, by omega⟩
theorem cosT_ref (k : Int) (w : World) (h0 : 0 ≤ k) (h1 : k < 24) : cosT k = if k = 6 ∨ k = 18 then 0 else if k < 6 then cosC k else if k ≤ 12 then fnegW (cosC (12 - k)) else if k < 18 then fnegW (cosC (k - 12)) else cosC (24 - k) := by
  have key : ∀ j : Fin 24, cosT (j.val : Int) = if (j.val : Int) = 6 ∨ (j.val : Int) = 18 then 0 else if (j.val : Int) < 6 then cosC j.val else if (j.val : Int) ≤ 12 then fnegW (cosC (12 - j.val)) else if (j.val : Int) < 18 then fnegW (cosC (j.val - 12)) else cosC (24 - j.val) := by decide +kernel
  have := key ⟨k.toNat, by omega⟩
  rwa [show ((⟨k.toNat, by omega⟩ : Fin 24).val : Int) = k by simp; omega] at this
/-- The reference's cosine, of a step from 0 to 23. -/
theorem rcosine_mod (m k : Int) (w : World) (hk : k % 24 = m) : Calls Try.prog 188 #[.int .i64 k] w (fun e w' => e = .returned (.float .f64 (cosT m)) ∧ Below w.heap.size w w') := by
  refine calls_post fun R hR => ?_
  have hm0 : 0 ≤ m := by omega
  have hm1 : m < 24 := by omega
  obtain ⟨r, hr, hr0, hr1, hr2⟩ := tmod24 k
  rw [hk] at hr2
  clear hk
  rw [cosT_ref m w hm0 hm1] at hR
  have hc : m = 6 ∨ m = 18 ∨ m < 6 ∨ (6 < m ∧ m ≤ 12) ∨ (12 < m ∧ m < 18) ∨ 18 < m := by omega
  have hm : 0 ≤ r ∧ m = r ∨ r < 0 ∧ m = r + 24 := hr2
  clear hr2
  rcases hm with ⟨h1, rfl⟩ | ⟨h1, rfl⟩
  · rcases hc with c | c | c | c | c | c
    · rw [if_pos (Or.inl c)] at hR
      go_enter Try.func188, Try.ntmps188
      go_wp2_with (go_at_call 191; refine (rconstant_any _ _ (by omega) (by omega)).mono ?_; rintro e w' ⟨rfl, hb⟩)
      first | done | exact ⟨rfl, by first | assumption | exact Below.refl _ _⟩
    · rw [if_pos (Or.inr c)] at hR
      go_enter Try.func188, Try.ntmps188
      go_wp2_with (go_at_call 191; refine (rconstant_any _ _ (by omega) (by omega)).mono ?_; rintro e w' ⟨rfl, hb⟩)
      first | done | exact ⟨rfl, by first | assumption | exact Below.refl _ _⟩
    · rw [if_neg (by omega), if_pos c] at hR
      have b6 : (m == 6) = false := beq_eq_false_iff_ne.2 (by omega)
      have b18 : (m == 18) = false := beq_eq_false_iff_ne.2 (by omega)
      go_enter Try.func188, Try.ntmps188
      go_wp2_with (go_at_call 191; refine (rconstant_any _ _ (by omega) (by omega)).mono ?_; rintro e w' ⟨rfl, hb⟩)
      first | done | exact ⟨rfl, by first | assumption | exact Below.refl _ _⟩
    · rw [if_neg (by omega), if_neg (by omega), if_pos c.2] at hR
      have b6 : (m == 6) = false := beq_eq_false_iff_ne.2 (by omega)
      have b18 : (m == 18) = false := beq_eq_false_iff_ne.2 (by omega)
      go_enter Try.func188, Try.ntmps188
      go_wp2_with (go_at_call 191; refine (rconstant_any _ _ (by omega) (by omega)).mono ?_; rintro e w' ⟨rfl, hb⟩)
      first | done | exact ⟨rfl, by first | assumption | exact Below.refl _ _⟩
    · rw [if_neg (by omega), if_neg (by omega), if_neg (by omega), if_pos c.2] at hR
      have b6 : (m == 6) = false := beq_eq_false_iff_ne.2 (by omega)
      have b18 : (m == 18) = false := beq_eq_false_iff_ne.2 (by omega)
      go_enter Try.func188, Try.ntmps188
      go_wp2_with (go_at_call 191; refine (rconstant_any _ _ (by omega) (by omega)).mono ?_; rintro e w' ⟨rfl, hb⟩)
      first | done | exact ⟨rfl, by first | assumption | exact Below.refl _ _⟩
    · rw [if_neg (by omega), if_neg (by omega), if_neg (by omega), if_neg (by omega)] at hR
      have b6 : (m == 6) = false := beq_eq_false_iff_ne.2 (by omega)
      have b18 : (m == 18) = false := beq_eq_false_iff_ne.2 (by omega)
      go_enter Try.func188, Try.ntmps188
      go_wp2_with (go_at_call 191; refine (rconstant_any _ _ (by omega) (by omega)).mono ?_; rintro e w' ⟨rfl, hb⟩)
      first | done | exact ⟨rfl, by first | assumption | exact Below.refl _ _⟩
  · rcases hc with c | c | c | c | c | c
    · rw [if_pos (Or.inl c)] at hR
      go_enter Try.func188, Try.ntmps188
      go_wp2_with (go_at_call 191; refine (rconstant_any _ _ (by omega) (by omega)).mono ?_; rintro e w' ⟨rfl, hb⟩)
      first | done | exact ⟨rfl, by first | assumption | exact Below.refl _ _⟩
    · rw [if_pos (Or.inr c)] at hR
      go_enter Try.func188, Try.ntmps188
      go_wp2_with (go_at_call 191; refine (rconstant_any _ _ (by omega) (by omega)).mono ?_; rintro e w' ⟨rfl, hb⟩)
      first | done | exact ⟨rfl, by first | assumption | exact Below.refl _ _⟩
    · rw [if_neg (by omega), if_pos c] at hR
      have b6 : ((r + 24) == 6) = false := beq_eq_false_iff_ne.2 (by omega)
      have b18 : ((r + 24) == 18) = false := beq_eq_false_iff_ne.2 (by omega)
      go_enter Try.func188, Try.ntmps188
      go_wp2_with (go_at_call 191; refine (rconstant_any _ _ (by omega) (by omega)).mono ?_; rintro e w' ⟨rfl, hb⟩)
      first | done | exact ⟨rfl, by first | assumption | exact Below.refl _ _⟩
    · rw [if_neg (by omega), if_neg (by omega), if_pos c.2] at hR
      have b6 : ((r + 24) == 6) = false := beq_eq_false_iff_ne.2 (by omega)
      have b18 : ((r + 24) == 18) = false := beq_eq_false_iff_ne.2 (by omega)
      go_enter Try.func188, Try.ntmps188
      go_wp2_with (go_at_call 191; refine (rconstant_any _ _ (by omega) (by omega)).mono ?_; rintro e w' ⟨rfl, hb⟩)
      first | done | exact ⟨rfl, by first | assumption | exact Below.refl _ _⟩
    · rw [if_neg (by omega), if_neg (by omega), if_neg (by omega), if_pos c.2] at hR
      have b6 : ((r + 24) == 6) = false := beq_eq_false_iff_ne.2 (by omega)
      have b18 : ((r + 24) == 18) = false := beq_eq_false_iff_ne.2 (by omega)
      go_enter Try.func188, Try.ntmps188
      go_wp2_with (go_at_call 191; refine (rconstant_any _ _ (by omega) (by omega)).mono ?_; rintro e w' ⟨rfl, hb⟩)
      first | done | exact ⟨rfl, by first | assumption | exact Below.refl _ _⟩
    · rw [if_neg (by omega), if_neg (by omega), if_neg (by omega), if_neg (by omega)] at hR
      have b6 : ((r + 24) == 6) = false := beq_eq_false_iff_ne.2 (by omega)
      have b18 : ((r + 24) == 18) = false := beq_eq_false_iff_ne.2 (by omega)
      go_enter Try.func188, Try.ntmps188
      go_wp2_with (go_at_call 191; refine (rconstant_any _ _ (by omega) (by omega)).mono ?_; rintro e w' ⟨rfl, hb⟩)
      first | done | exact ⟨rfl, by first | assumption | exact Below.refl _ _⟩
theorem cn_cosT (k : Int) (h0 : 0 ≤ k) (h1 : k < 24) : cn (cosT k) = cosT k ∧ cosT k < 2 ^ 64 := by
  have key : ∀ j : Fin 24, cn (cosT (j.val : Int)) = cosT (j.val : Int) ∧ cosT (j.val : Int) < 2 ^ 64 := by decide +kernel
  have := key ⟨k.toNat, by omega⟩
  rwa [show ((⟨k.toNat, by omega⟩ : Fin 24).val : Int) = k by simp; omega] at this
def rootT (k : Int) : Nat × Nat := (cosT (k % 24), cosT ((k + 18) % 24))
def rootV (k : Int) : Value := .complex .f64 (rootT k).1 (rootT k).2
theorem root_any (k : Int) (w : World) : Calls Try.prog 181 #[.int .i64 k] w (fun e w' => e = .returned (rootV k) ∧ w = w') := by
  refine calls_post fun R hR => ?_
  obtain ⟨r, hr, hr0, hr1, hr2⟩ := tmod24 k
  have hm : k % 24 = (r + 24) % 24 := by omega
  have hm2 : (k + 18) % 24 = ((r + 24) % 24 + 18) % 24 := by omega
  unfold rootV rootT at hR
  rw [hm, hm2] at hR
  clear hm hm2 hr2
  go_enter Try.func181, Try.ntmps181
  go_wp2_with (go_at_call 187; refine (cosine_any _ _ (by omega) (by omega)).mono ?_; rintro e w' ⟨rfl, rfl⟩)
theorem rroot_any (k : Int) (w : World) : Calls Try.prog 182 #[.int .i64 k] w (fun e w' => e = .returned (rootV k) ∧ Below w.heap.size w w') := by
  refine calls_post fun R hR => ?_
  obtain ⟨r, hr, hr0, hr1, hr2⟩ := tmod24 k
  have h1 : r % 24 = k % 24 := by omega
  have h2 : (r - 6) % 24 = (k + 18) % 24 := by omega
  have H1 := Lib.hid h1; have H2 := Lib.hid h2
  clear h1 h2 hr2
  go_enter Try.func182, Try.ntmps182
  go_wp2_with fail
  refine (rcosine_mod _ _ _ H1.out).mono ?_
  rintro e w1 ⟨rfl, b1⟩
  go_wp2_with fail
  refine (rcosine_mod _ _ _ H2.out).mono ?_
  rintro e w2 ⟨rfl, b2⟩
  go_wp2
  exact ⟨rfl, below_call b1 b2 b1.size⟩
def phasorT (x : Nat) (k : Int) : Nat × Nat := (fmul x (rootT k).1, fmul x (rootT k).2)
theorem scale_any (x a b : Nat) (w : World) : Calls Try.prog 168 #[.float .f64 x, .complex .f64 a b] w (NumC (fmul (cn x) (cn a)) (fmul (cn x) (cn b)) w) := by
  refine calls_post fun R hR => ?_
  go_enter Try.func168, Try.ntmps168
  go_wp2
  exact ⟨_, _, rfl, fres_mul _ _ _ rfl rfl, fres_mul _ _ _ rfl rfl, _, rfl⟩
theorem rootT_cn (k : Int) : cn (rootT k).1 = (rootT k).1 ∧ cn (rootT k).2 = (rootT k).2 :=
  ⟨(cn_cosT _ (by omega) (by omega)).1, (cn_cosT _ (by omega) (by omega)).1⟩
/-- A number, up to NaNs, and new memory at most. -/
def NumB (x y : Nat) (w : World) (e : Ending) (w' : World) : Prop := ∃ r s, e = .returned (.complex .f64 r s) ∧ Is r x ∧ Is s y ∧ Below w.heap.size w w'
theorem tphasor_any (x : Nat) (k : Int) (w : World) : Calls Try.prog 155 #[.float .f64 x, .int .i64 k] w (NumC (phasorT (cn x) k).1 (phasorT (cn x) k).2 w) := by
  refine calls_post fun R hR => ?_
  go_enter Try.func155, Try.ntmps155
  go_wp2_with (first | (go_at_call 181; refine (root_any _ _).mono ?_; rintro e w' ⟨rfl, rfl⟩; unfold rootV) | (go_at_call 168; refine (scale_any _ _ _ _).mono ?_; rintro e w1 ⟨r, s, rfl, h1, h2, h3⟩))
  rw [(rootT_cn k).1] at h1
  rw [(rootT_cn k).2] at h2
  exact ⟨r, s, rfl, h1, h2, h3⟩
theorem rphasor_any (x : Nat) (k : Int) (w : World) : Calls Try.prog 158 #[.float .f64 x, .int .i64 k] w (NumB (phasorT (cn x) k).1 (phasorT (cn x) k).2 w) := by
  refine calls_post fun R hR => ?_
  go_enter Try.func158, Try.ntmps158
  go_wp2_with fail
  refine (rroot_any _ _).mono ?_
  rintro e w1 ⟨rfl, b1⟩
  unfold rootV
  go_wp2
  exact ⟨_, _, rfl, fres_mul _ _ _ rfl (rootT_cn k).1, fres_mul _ _ _ rfl (rootT_cn k).2, b1.trans (Drew.below ⟨_, rfl⟩ _)⟩
end Go.Proofs.Try
