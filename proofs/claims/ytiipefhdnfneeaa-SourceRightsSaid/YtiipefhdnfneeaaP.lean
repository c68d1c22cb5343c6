/- Contracts of package value, and of its reference: Name, the kinds of reals, Check. -/
import Derived.Test.YtiipefhdnfneeaaN
import Derived.Deep.Cut
namespace Go.Proofs.Try
open Go.RowKit Go.Gw
set_option maxRecDepth 100000
set_option linter.unusedSimpArgs false
set_option linter.unusedVariables false

theorem name_any (s : ByteArray) (w : World) : Calls Try.prog 146 #[.string s] w (fun e w' => e = .returned (nameVal s) ∧ Below w.heap.size w w') := by
  refine calls_post fun R hR => ?_
  by_cases h1 : 2 ≤ s.size
  · by_cases h2 : s.size ≤ 16
    · cases h3 : smallB (s.extract 1 s.size)
      · have e : nameVal s = .tuple #[.int .u8 0, .bool false] := by simp [nameVal, nameOf, nameB, h3]
        rw [e] at hR
        go_enter Try.func146, Try.ntmps146
        go_wp2_with (go_at_call 176; refine (small_any _ _).mono ?_; rintro e w1 ⟨rfl, hb⟩; simp only [h3])
        all_goals exact ⟨rfl, by first | exact hb | (subst hb; exact Below.refl _ _)⟩
      · have h0 : 0 < s.size := by omega
        have e : nameOf s = ofLetter ((s[0]'h0).toNat : Int) := by rw [← firstB_at h0]; simp [nameOf, nameB, h1, h2, h3]
        rw [nameVal, e] at hR
        go_enter Try.func146, Try.ntmps146
        go_wp2_with (first | (go_at_call 176; refine (small_any _ _).mono ?_; rintro e w1 ⟨rfl, hb⟩; simp only [h3]) | (go_at_call 177; refine (of_any _ _).mono ?_; rintro e w2 ⟨rfl, hc⟩; unfold ofVal))
        exact ⟨by simp, by first | exact below_call hb hc hb.size | (subst hb; exact hc)⟩
    · have e : nameVal s = .tuple #[.int .u8 0, .bool false] := by simp [nameVal, nameOf, nameB, h2]
      rw [e] at hR
      go_enter Try.func146, Try.ntmps146
      go_wp2
      all_goals first | exact Below.refl _ _ | exact ⟨rfl, Below.refl _ _⟩
  · have e : nameVal s = .tuple #[.int .u8 0, .bool false] := by simp [nameVal, nameOf, nameB, h1]
    rw [e] at hR
    go_enter Try.func146, Try.ntmps146
    go_wp2
    all_goals first | exact Below.refl _ _ | exact ⟨rfl, Below.refl _ _⟩
theorem rname_any (s : ByteArray) (w : World) : Calls Try.prog 150 #[.string s] w (fun e w' => e = .returned (nameVal s) ∧ Below w.heap.size w w') := by
  refine calls_post fun R hR => ?_
  by_cases h1 : 2 ≤ s.size
  · by_cases h2 : s.size ≤ 16
    · cases h3 : smallB (s.extract 1 s.size)
      · have e : nameVal s = .tuple #[.int .u8 0, .bool false] := by simp [nameVal, nameOf, nameB, h3]
        rw [e] at hR
        go_enter Try.func150, Try.ntmps150
        go_wp2_with (go_at_call 179; refine (bytes_any _ _ (by rw [ByteArray.size_extract]; omega)).mono ?_; rintro e w1 ⟨rfl, hb⟩; simp only [h3])
        all_goals exact ⟨rfl, by first | exact hb | (subst hb; exact Below.refl _ _)⟩
      · have h0 : 0 < s.size := by omega
        have e : nameOf s = ofLetter ((s[0]'h0).toNat : Int) := by rw [← firstB_at h0]; simp [nameOf, nameB, h1, h2, h3]
        rw [nameVal, e] at hR
        go_enter Try.func150, Try.ntmps150
        go_wp2_with (first | (go_at_call 179; refine (bytes_any _ _ (by rw [ByteArray.size_extract]; omega)).mono ?_; rintro e w1 ⟨rfl, hb⟩; simp only [h3]) | (go_at_call 180; refine (rof_any _ _).mono ?_; rintro e w2 ⟨rfl, hc⟩; unfold ofVal))
        exact ⟨by simp, by first | exact below_call hb hc hb.size | (subst hb; exact hc)⟩
    · have e : nameVal s = .tuple #[.int .u8 0, .bool false] := by simp [nameVal, nameOf, nameB, h2]
      rw [e] at hR
      go_enter Try.func150, Try.ntmps150
      go_wp2
      all_goals first | exact Below.refl _ _ | exact ⟨rfl, Below.refl _ _⟩
  · have e : nameVal s = .tuple #[.int .u8 0, .bool false] := by simp [nameVal, nameOf, nameB, h1]
    rw [e] at hR
    go_enter Try.func150, Try.ntmps150
    go_wp2
    all_goals first | exact Below.refl _ _ | exact ⟨rfl, Below.refl _ _⟩

/-- What a real is: 0, small, whole, infinite, none. -/
def realKind (x : Nat) : Int := if x % 2 ^ 63 = 0 then 0 else if x % 2 ^ 63 < 4503599627370496 then 1 else if x % 2 ^ 63 < 9218868437227405312 then 2 else if x % 2 ^ 63 = 9218868437227405312 then 3 else 4
@[go_sem] theorem rem_top (x : Nat) : Op.intDiv .rem .u64 (x : Int) 9223372036854775808 = pure (.int .u64 ((x % 9223372036854775808 : Nat) : Int)) := by
  have h : ¬ ((9223372036854775808 : Int) = 0) := by decide
  have e : ((x : Int)).tmod 9223372036854775808 = ((x % 9223372036854775808 : Nat) : Int) := by
    rw [Int.tmod_eq_emod_of_nonneg (by omega)]; rfl
  unfold Op.intDiv
  rw [if_neg h, e]
def rk63 (y : Nat) : Int := if y = 0 then 0 else if y < 4503599627370496 then 1 else if y < 9218868437227405312 then 2 else if y = 9218868437227405312 then 3 else 4
theorem rkind_any (x : Nat) (w : World) (hx : x < 2 ^ 64) : Calls Try.prog 152 #[.float .f64 x] w (fun e w' => e = .returned (.int .i64 (realKind x)) ∧ w' = w) := by
  refine calls_post fun R hR => ?_
  go_enter Try.func152, Try.ntmps152
  go_upto_region 2 with fail
  obtain ⟨y, hy, hy2⟩ : ∃ y : Nat, ((x : Int) % 9223372036854775808) = y ∧ x % 9223372036854775808 = y := ⟨x % 9223372036854775808, by omega, rfl⟩
  rw [hy]
  have hk : realKind x = rk63 y := by
    unfold realKind rk63
    rw [show (2 : Nat) ^ 63 = 9223372036854775808 from rfl, hy2]
  rw [hk] at hR
  clear hk hy hy2
  have hc : ((((y : Int) == 0) = true ∧ rk63 y = 0) ∨ (((y : Int) == 0) = false ∧ decide ((y : Int) < 4503599627370496) = true ∧ rk63 y = 1)
      ∨ (((y : Int) == 0) = false ∧ decide ((y : Int) < 4503599627370496) = false ∧ decide ((y : Int) < 9218868437227405312) = true ∧ rk63 y = 2)
      ∨ (((y : Int) == 0) = false ∧ decide ((y : Int) < 4503599627370496) = false ∧ decide ((y : Int) < 9218868437227405312) = false ∧ ((y : Int) == 9218868437227405312) = true ∧ rk63 y = 3)
      ∨ (((y : Int) == 0) = false ∧ decide ((y : Int) < 4503599627370496) = false ∧ decide ((y : Int) < 9218868437227405312) = false ∧ ((y : Int) == 9218868437227405312) = false ∧ rk63 y = 4)) := by
    unfold rk63
    by_cases a1 : y = 0
    · left; subst a1; exact ⟨rfl, rfl⟩
    have b1 : ((y : Int) == 0) = false := beq_eq_false_iff_ne.2 (by omega)
    by_cases a2 : y < 4503599627370496
    · right; left; exact ⟨b1, decide_eq_true (by omega), by rw [if_neg a1, if_pos a2]⟩
    have b2 : decide ((y : Int) < 4503599627370496) = false := decide_eq_false (by omega)
    by_cases a3 : y < 9218868437227405312
    · right; right; left; exact ⟨b1, b2, decide_eq_true (by omega), by rw [if_neg a1, if_neg a2, if_pos a3]⟩
    have b3 : decide ((y : Int) < 9218868437227405312) = false := decide_eq_false (by omega)
    by_cases a4 : y = 9218868437227405312
    · right; right; right; left; exact ⟨b1, b2, b3, beq_iff_eq.2 (by omega), by rw [if_neg a1, if_neg a2, if_neg a3, if_pos a4]⟩
    · right; right; right; right; exact ⟨b1, b2, b3, beq_eq_false_iff_ne.2 (by omega), by rw [if_neg a1, if_neg a2, if_neg a3, if_neg a4]⟩
  rcases hc with ⟨e1, h⟩ | ⟨e1, e2, h⟩ | ⟨e1, e2, e3, h⟩ | ⟨e1, e2, e3, e4, h⟩ | ⟨e1, e2, e3, e4, h⟩
  all_goals
    rw [h] at hR
    clear h
    go_wp2
def rk52 (u v : Nat) : Int := if u = 0 ∧ v = 0 then 0 else if u = 0 then 1 else if u < 2047 then 2 else if v = 0 then 3 else 4
theorem rk52_is {x u v : Nat} (hx : x < 2 ^ 64) (hu : x / 4503599627370496 % 2048 = u) (hv : x * 4096 % 18446744073709551616 = v) : realKind x = rk52 u v := by
  unfold realKind rk52
  rw [show (2 : Nat) ^ 63 = 9223372036854775808 from rfl]
  split <;> split <;> (try split) <;> (try split) <;> (try split) <;> (try split) <;> omega
theorem kind_any (x : Nat) (w : World) (hx : x < 2 ^ 64) : Calls Try.prog 148 #[.float .f64 x] w (fun e w' => e = .returned (.int .i64 (realKind x)) ∧ w' = w) := by
  refine calls_post fun R hR => ?_
  have e1 : bits BinOp.and IntKind.u64 ((x : Int) / 4503599627370496) 2047 = ((x / 4503599627370496 % 2048 : Nat) : Int) := by
    have h := bits_and_u64_nat (x / 4503599627370496) 2047 (by omega) (by omega)
    have h2 : x / 4503599627370496 &&& 2047 = x / 4503599627370496 % 2048 := Nat.and_two_pow_sub_one_eq_mod _ 11
    rw [h2] at h
    exact h
  have e2 : IntKind.u64.wrap ((x : Int) * 4096) = ((x * 4096 % 18446744073709551616 : Nat) : Int) := by
    rw [IntKind.wrap_u64]; omega
  go_enter Try.func148, Try.ntmps148
  go_upto_region 3 with fail
  obtain ⟨u, hu, hu2⟩ : ∃ u : Nat, x / 4503599627370496 % 2048 = u ∧ ((x : Int) / 4503599627370496 % 2048) = u := ⟨_, rfl, by omega⟩
  obtain ⟨v, hv, hv2⟩ : ∃ v : Nat, x * 4096 % 18446744073709551616 = v ∧ (x : Int) * 4096 % 18446744073709551616 = v := ⟨_, rfl, by omega⟩
  rw [hu2, hv2]
  rw [rk52_is hx hu hv] at hR
  clear e1 e2 hu hv hu2 hv2
  go_wp2
  all_goals (unfold rk52; simp_all; try (intros; omega))
end Go.Proofs.Try
