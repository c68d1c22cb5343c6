/- Contracts of package value, and of its reference: kinds, names, nodes. -/
import Derived.Test.YtiipefhdnfneeaaA
import Derived.Test.YtiipefhdnfneeaaMem
namespace Go.Proofs.Try
open Go.RowKit Go.Gw
set_option maxRecDepth 100000
set_option linter.unusedSimpArgs false
set_option linter.unusedVariables false

/-- What the table tells of a kind. -/
def letterOf (k : Int) : Int := if k = 1 then 82 else if k = 2 then 76 else if k = 3 then 67 else if k = 4 then 73 else if k = 5 then 86 else if k = 6 then 71 else if k = 7 then 69 else if k = 8 then 80 else 0
def aboveOf (k : Int) : Bool := decide (k = 1 ∨ k = 2 ∨ k = 3 ∨ k = 8)
def fourOf (k : Int) : Bool := decide (k = 6 ∨ k = 7)
def phaseOf (k : Int) : Bool := decide (k = 4 ∨ k = 5)
def unitOf (k : Int) : ByteArray := if k = 1 then ⟨#[111, 104, 109]⟩ else if k = 2 then ⟨#[104, 101, 110, 114, 121]⟩ else if k = 3 then ⟨#[102, 97, 114, 97, 100]⟩ else if k = 4 then ⟨#[97, 109, 112, 101, 114, 101]⟩ else if k = 5 then ⟨#[118, 111, 108, 116]⟩ else if k = 6 then ⟨#[115, 105, 101, 109, 101, 110, 115]⟩ else if k = 7 then ⟨#[]⟩ else if k = 8 then ⟨#[111, 104, 109]⟩ else ⟨#[]⟩
def kindOk (k : Int) : Bool := decide (1 ≤ k ∧ k ≤ 8)
def rowVal (k : Int) : Value := .tuple #[.agg #[.int .u8 (letterOf k), .string (unitOf k), .bool (aboveOf k), .bool (fourOf k), .bool (phaseOf k)], .bool (kindOk k)]
theorem kinds (k : Int) : k = 1 ∨ k = 2 ∨ k = 3 ∨ k = 4 ∨ k = 5 ∨ k = 6 ∨ k = 7 ∨ k = 8 ∨ (k < 1 ∨ 8 < k) := by omega
theorem rowVal_no {k : Int} (h : k < 1 ∨ 8 < k) : rowVal k = .tuple #[.agg #[.int .u8 0, .string ⟨#[]⟩, .bool false, .bool false, .bool false], .bool false] := by
  have e : ∀ j : Int, 1 ≤ j → j ≤ 8 → k ≠ j := fun j _ _ => by omega
  have h1 := e 1 (by omega) (by omega)
  have h2 := e 2 (by omega) (by omega)
  have h3 := e 3 (by omega) (by omega)
  have h4 := e 4 (by omega) (by omega)
  have h5 := e 5 (by omega) (by omega)
  have h6 := e 6 (by omega) (by omega)
  have h7 := e 7 (by omega) (by omega)
  have h8 := e 8 (by omega) (by omega)
  have h9 : ¬ (1 ≤ k ∧ k ≤ 8) := by omega
  simp [rowVal, letterOf, unitOf, aboveOf, fourOf, phaseOf, kindOk, h1, h2, h3, h4, h5, h6, h7, h8, h9]
theorem rowof_any (k : Int) (w : World) : Calls Try.prog 145 #[.int .u8 k] w (fun e w' => e = .returned (rowVal k) ∧ Below w.heap.size w w') := by
  rcases kinds k with rfl | rfl | rfl | rfl | rfl | rfl | rfl | rfl | h
  case inr.inr.inr.inr.inr.inr.inr.inr =>
    rw [rowVal_no h]
    refine calls_post fun R hR => ?_
    have e : ∀ j : Int, 1 ≤ j → j ≤ 8 → (k == j) = false := fun j _ _ => by simp; omega
    have h1 := e 1 (by omega) (by omega)
    have h2 := e 2 (by omega) (by omega)
    have h3 := e 3 (by omega) (by omega)
    have h4 := e 4 (by omega) (by omega)
    have h5 := e 5 (by omega) (by omega)
    have h6 := e 6 (by omega) (by omega)
    have h7 := e 7 (by omega) (by omega)
    have h8 := e 8 (by omega) (by omega)
    clear e h
    go_enter Try.func145, Try.ntmps145
    go_wp2
    exact bodyPost_ret (v := .tuple #[.agg #[.int .u8 0, .string ⟨#[]⟩, .bool false, .bool false, .bool false], .bool false]) (by simp [results, Try.results145, go_sem]) rfl (hR _ _ ⟨rfl, (Below.refl _ _).alloc (Nat.le_refl _) _⟩)
  all_goals
    refine calls_post fun R hR => ?_
    simp only [rowVal, letterOf, unitOf, aboveOf, fourOf, phaseOf, kindOk] at hR
    simp at hR
    go_enter Try.func145, Try.ntmps145
    go_wp2
    exact bodyPost_ret (by simp [results, Try.results145, go_sem]) rfl (hR _ _ rfl ((Below.refl _ _).alloc (Nat.le_refl _) _))

/-- The kind of a letter: 0 where there is none. -/
def ofLetter (l : Int) : Int := if l = 82 then 1 else if l = 76 then 2 else if l = 67 then 3 else if l = 73 then 4 else if l = 86 then 5 else if l = 71 then 6 else if l = 69 then 7 else if l = 80 then 8 else 0
def ofVal (l : Int) : Value := .tuple #[.int .u8 (ofLetter l), .bool (decide (ofLetter l ≠ 0))]
theorem letters (l : Int) : l = 82 ∨ l = 76 ∨ l = 67 ∨ l = 73 ∨ l = 86 ∨ l = 71 ∨ l = 69 ∨ l = 80 ∨ (l ≠ 82 ∧ l ≠ 76 ∧ l ≠ 67 ∧ l ≠ 73 ∧ l ≠ 86 ∧ l ≠ 71 ∧ l ≠ 69 ∧ l ≠ 80) := by omega
theorem letter_of (k l : Int) (h1 : 1 ≤ k) (h2 : k ≤ 8) : (letterOf k = l) ↔ ofLetter l = k := by
  have hk : k = 1 ∨ k = 2 ∨ k = 3 ∨ k = 4 ∨ k = 5 ∨ k = 6 ∨ k = 7 ∨ k = 8 := by omega
  rcases letters l with rfl | rfl | rfl | rfl | rfl | rfl | rfl | rfl | ⟨a1, a2, a3, a4, a5, a6, a7, a8⟩
  case inr.inr.inr.inr.inr.inr.inr.inr =>
    have e : ofLetter l = 0 := by simp [ofLetter, a1, a2, a3, a4, a5, a6, a7, a8]
    rw [e]
    rcases hk with rfl | rfl | rfl | rfl | rfl | rfl | rfl | rfl
    all_goals
      constructor
      · intro h; simp [letterOf] at h; omega
      · intro h; omega
  all_goals (rcases hk with rfl | rfl | rfl | rfl | rfl | rfl | rfl | rfl <;> decide)
theorem ofLetter_range (l : Int) : 0 ≤ ofLetter l ∧ ofLetter l ≤ 8 := by
  rcases letters l with rfl | rfl | rfl | rfl | rfl | rfl | rfl | rfl | ⟨a1, a2, a3, a4, a5, a6, a7, a8⟩
  case inr.inr.inr.inr.inr.inr.inr.inr =>
    have e : ofLetter l = 0 := by simp [ofLetter, a1, a2, a3, a4, a5, a6, a7, a8]
    rw [e]; omega
  all_goals decide
theorem of_any (l : Int) (w : World) : Calls Try.prog 177 #[.int .u8 l] w (fun e w' => e = .returned (ofVal l) ∧ Below w.heap.size w w') := by
  refine calls_post fun R hR => ?_
  have hr := ofLetter_range l
  go_enter Try.func177, Try.ntmps177
  go_wp2
  go_loopw [4] (fun v wr => ∃ k : Int, 1 ≤ k ∧ k ≤ 9 ∧ v = .int .u8 k ∧ (ofLetter l = 0 ∨ k ≤ ofLetter l) ∧ Below w.heap.size w wr) (fun v _ => (9 - intOf v).toNat)
  case atStart => exact ⟨1, by omega, by omega, rfl, by omega, Below.refl _ _⟩
  case round =>
    obtain ⟨k, k1, k2, rfl, hk, hb⟩ := hrel
    by_cases h9 : k ≤ 8
    · have hl := letter_of k l k1 h9
      cases hq : decide (letterOf k = l)
      all_goals
        have hq' : (letterOf k == l) = decide (letterOf k = l) := rfl
        rw [hq] at hq'
        have HQ := Lib.hid hq; clear hq
        have HL := Lib.hid hl; clear hl
        go_wp2_with (go_at_call 145; refine (rowof_any _ _).mono ?_; rintro e w1 ⟨rfl, hb1⟩; unfold rowVal)
      case roundEnd =>
        have h1 : ¬ letterOf k = l := of_decide_eq_false HQ.out
        rw [HL.out] at h1
        exact ⟨⟨k + 1, by omega, by omega, rfl, by omega, (below_call hb hb1 hb.size).alloc (by have := hb.size; have := hb1.size; omega) _⟩, by simp [intOf]; omega⟩
      all_goals
        have h1 : letterOf k = l := of_decide_eq_true HQ.out
        rw [HL.out] at h1
        refine ⟨?_, (below_call hb hb1 hb.size).alloc (by have := hb.size; have := hb1.size; omega) _⟩
        have h0 : k ≠ 0 := by omega
        simp [ofVal, h1, h0]
    · have hk9 : k = 9 := by omega
      subst hk9
      have h0 : ofLetter l = 0 := by omega
      go_wp2
      simp [ofVal, h0]
end Go.Proofs.Try
