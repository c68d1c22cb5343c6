/- Contracts of the reference of package value: the table. -/
import Derived.Test.YtiipefhdnfneeaaL
namespace Go.Proofs.Try
open Go.RowKit Go.Gw
set_option maxRecDepth 100000
set_option linter.unusedSimpArgs false
set_option linter.unusedVariables false

/-- A row of the reference's table. -/
def tabRow (k : Int) : Array Value := #[.int .u8 k, .int .u8 (letterOf k), .string (unitOf k), .bool (aboveOf k), .bool (phaseOf k), .bool (fourOf k)]
def tabCells : Array Value := tabRow 1 ++ tabRow 2 ++ tabRow 3 ++ tabRow 4 ++ tabRow 5 ++ tabRow 6 ++ tabRow 7 ++ tabRow 8
theorem alloc_self (w : World) (o : Obj) : (w.alloc o).heap[w.heap.size]? = some o := by
  show (w.heap.push o)[w.heap.size]? = _
  simp
/-- The table lies in block b. -/
def Tab (w : World) (b : Nat) : Prop := ∀ k : Nat, k < 8 → ∀ j : Nat, j < 6 → w.cell? ⟨b, k * 6 + j, none⟩ = some ((tabRow ((k : Int) + 1)).getD j undef)
theorem tabCells_at (k : Nat) (hk : k < 8) (j : Nat) (hj : j < 6) : tabCells[k * 6 + j]? = some ((tabRow ((k : Int) + 1)).getD j undef) := by
  have hc : k = 0 ∨ k = 1 ∨ k = 2 ∨ k = 3 ∨ k = 4 ∨ k = 5 ∨ k = 6 ∨ k = 7 := by omega
  have hd : j = 0 ∨ j = 1 ∨ j = 2 ∨ j = 3 ∨ j = 4 ∨ j = 5 := by omega
  rcases hc with rfl | rfl | rfl | rfl | rfl | rfl | rfl | rfl <;> rcases hd with rfl | rfl | rfl | rfl | rfl | rfl <;> rfl
theorem tab_new (w : World) (t : TypeId) : Tab (w.alloc (.cells tabCells t)) w.heap.size := by
  intro k hk j hj
  have h := tabCells_at k hk j hj
  generalize (tabRow ((k : Int) + 1)).getD j undef = v at h ⊢
  generalize tabCells = c at h ⊢
  generalize k * 6 + j = i at h ⊢
  have e := alloc_self w (.cells c t)
  rw [World.cell?, e]
  simp only [Option.isSome_none, Bool.false_eq_true, if_false]
  exact h
set_option maxHeartbeats 2000000 in
theorem rows_any (w : World) : Calls Try.prog 178 #[] w (fun e w' => ∃ b, e = .returned (.slice (some ⟨b, 0, none⟩) 8 8) ∧ Tab w' b ∧ b < w'.heap.size ∧ Below w.heap.size w w') := by
  refine calls_post fun R hR => ?_
  go_enter Try.func178, Try.ntmps178
  go_wp2
  exact ⟨_, rfl, tab_new w _, by simp, (Below.refl _ _).alloc (Nat.le_refl _) _⟩

def tabVal (k : Int) : Value := .tuple #[.agg (if kindOk k then tabRow k else #[.int .u8 0, .int .u8 0, .string ⟨#[]⟩, .bool false, .bool false, .bool false]), .bool (kindOk k)]
theorem tabVal_no {k : Int} (h : ¬ (1 ≤ k ∧ k ≤ 8)) : tabVal k = .tuple #[.agg #[.int .u8 0, .int .u8 0, .string ⟨#[]⟩, .bool false, .bool false, .bool false], .bool false] := by
  simp only [tabVal, kindOk, decide_eq_false h, Bool.false_eq_true, if_false]
theorem tabVal_yes {k : Int} (h1 : 1 ≤ k) (h2 : k ≤ 8) : tabVal k = .tuple #[.agg #[.int .u8 k, .int .u8 (letterOf k), .string (unitOf k), .bool (aboveOf k), .bool (phaseOf k), .bool (fourOf k)], .bool true] := by
  simp only [tabVal, kindOk, decide_eq_true (And.intro h1 h2), if_true, tabRow]
theorem six_cells {w : World} {b : Nat} {v0 v1 v2 v3 v4 v5 : Value} {t : TypeId} (h : w.heap[b]? = some (.cells #[v0, v1, v2, v3, v4, v5] t)) :
    w.cell? ⟨b, 0, none⟩ = some v0 ∧ w.cell? ⟨b, 1, none⟩ = some v1 ∧ w.cell? ⟨b, 2, none⟩ = some v2 ∧ w.cell? ⟨b, 3, none⟩ = some v3 ∧ w.cell? ⟨b, 4, none⟩ = some v4 ∧ w.cell? ⟨b, 5, none⟩ = some v5 ∧ (∀ o, w.frozen? ⟨b, o, none⟩ = false) := by
  refine ⟨?_, ?_, ?_, ?_, ?_, ?_, ?_⟩
  all_goals first | (simp only [World.cell?, h]; rfl) | (intro o; simp [World.frozen?, h])
theorem row_any (q : Int) (w : World) : Calls Try.prog 149 #[.int .u8 q] w (fun e w' => e = .returned (tabVal q) ∧ Below w.heap.size w w') := by
  refine calls_post fun R hR => ?_
  go_enter Try.func149, Try.ntmps149
  go_wp2_with (go_at_call 178; refine (rows_any _).mono ?_; rintro e w1 ⟨b, rfl, ht, hlt, hb⟩)
  go_loopw [5] (fun v w' => ∃ k : Nat, k ≤ 8 ∧ v = .int .i64 k ∧ w' = w1 ∧ (1 ≤ q → (k : Int) < q)) (fun v w' => 8 - (intOf v).toNat)
  case atStart => exact ⟨0, by omega, rfl, rfl, by omega⟩
  case round =>
    obtain ⟨k, hle, rfl, rfl, hk⟩ := hrel
    have hblk := hb.block w.heap.size (by simp)
    rw [alloc_self] at hblk
    obtain ⟨d0, d1, d2, d3, d4, d5, dz⟩ := six_cells hblk
    by_cases hlt8 : k < 8
    · have c0 := ht k hlt8 0 (by omega)
      have c1 := ht k hlt8 1 (by omega)
      have c2 := ht k hlt8 2 (by omega)
      have c3 := ht k hlt8 3 (by omega)
      have c4 := ht k hlt8 4 (by omega)
      have c5 := ht k hlt8 5 (by omega)
      simp only [tabRow, Nat.add_zero] at c0 c1 c2 c3 c4 c5
      by_cases hq : (k : Int) + 1 = q
      · have hq' : ((k : Int) + 1 == q) = true := by simp [hq]
        rw [tabVal_yes (by omega) (by omega)] at hR
        go_wp2
        refine bodyPost_ret (v := .tuple #[.agg #[.int .u8 q, .int .u8 (letterOf q), .string (unitOf q), .bool (aboveOf q), .bool (phaseOf q), .bool (fourOf q)], .bool true]) ?_ rfl (hR _ _ ⟨rfl, ?_⟩)
        · simp [results, Try.results149, go_sem, World.cell?_setCell_same', d0, d1, d2, d3, d4, d5]
        · have hB : Below w.heap.size w wr := ((Below.refl w.heap.size w).alloc (Nat.le_refl _) _).trans (hb.mono (by simp))
          repeat' refine Below.setCell ?_ (by simp) _
          exact hB
      · have hq' : ((k : Int) + 1 == q) = false := by simp [hq]
        go_wp2
        exact ⟨⟨k + 1, by omega, rfl, trivial, by omega⟩, by simp [intOf]; omega⟩
    · have h8 : k = 8 := by omega
      subst h8
      rw [tabVal_no (by omega)] at hR
      go_wp2
      refine bodyPost_ret (v := .tuple #[.agg #[.int .u8 0, .int .u8 0, .string ⟨#[]⟩, .bool false, .bool false, .bool false], .bool false]) ?_ rfl (hR _ _ ⟨rfl, ?_⟩)
      · simp [results, Try.results149, go_sem, World.cell?_setCell_same', d0, d1, d2, d3, d4, d5]
      · have hB : Below w.heap.size w wr := ((Below.refl w.heap.size w).alloc (Nat.le_refl _) _).trans (hb.mono (by simp))
        repeat' refine Below.setCell ?_ (by simp) _
        exact hB
theorem rof_any (l : Int) (w : World) : Calls Try.prog 180 #[.int .u8 l] w (fun e w' => e = .returned (ofVal l) ∧ Below w.heap.size w w') := by
  refine calls_post fun R hR => ?_
  go_enter Try.func180, Try.ntmps180
  go_wp2_with (go_at_call 178; refine (rows_any _).mono ?_; rintro e w1 ⟨b, rfl, ht, hlt, hb⟩)
  go_loopw [5] (fun v w' => ∃ k : Nat, k ≤ 8 ∧ v = .int .i64 k ∧ w' = w1 ∧ (ofLetter l = 0 ∨ (k : Int) < ofLetter l)) (fun v w' => 8 - (intOf v).toNat)
  case atStart => exact ⟨0, by omega, rfl, rfl, by have := ofLetter_range l; omega⟩
  case round =>
    obtain ⟨k, hle, rfl, rfl, hk⟩ := hrel
    by_cases hlt8 : k < 8
    · have c0 := ht k hlt8 0 (by omega)
      have c1 := ht k hlt8 1 (by omega)
      simp only [tabRow, Nat.add_zero] at c0 c1
      have hl := letter_of (k + 1) l (by omega) (by omega)
      cases hq : decide (letterOf (k + 1) = l)
      all_goals
        have hq' : (letterOf (k + 1) == l) = decide (letterOf (k + 1) = l) := rfl
        rw [hq] at hq'
        have HQ := Lib.hid hq; clear hq
        have HL := Lib.hid hl; clear hl
        go_wp2
      case roundEnd =>
        have h1 : ¬ letterOf (k + 1) = l := of_decide_eq_false HQ.out
        rw [HL.out] at h1
        exact ⟨⟨k + 1, by omega, rfl, trivial, by omega⟩, by simp [intOf]; omega⟩
      all_goals
        have h1 : letterOf (k + 1) = l := of_decide_eq_true HQ.out
        rw [HL.out] at h1
        refine ⟨?_, hb⟩
        have h0 : (k : Int) + 1 ≠ 0 := by omega
        simp [ofVal, h1, h0]
    · have h8 : k = 8 := by omega
      have h0 : ofLetter l = 0 := by have := ofLetter_range l; omega
      subst h8
      go_wp2
      refine ⟨?_, hb⟩
      simp [ofVal, h0]
end Go.Proofs.Try
