/- Contracts of package value, and of its reference: names, nodes. -/
import Derived.Test.YtiipefhdnfneeaaK
import Derived.Laws.RangeAny
namespace Go.Proofs.Try
open Go.RowKit Go.Gw
set_option maxRecDepth 100000
set_option linter.unusedSimpArgs false
set_option linter.unusedVariables false

/-- A byte that a name may have. -/
def okB (b : Nat) : Bool := decide ((97 ≤ b ∧ b ≤ 122) ∨ (48 ≤ b ∧ b ≤ 57) ∨ b = 95)
def okTo (s : ByteArray) (n : Nat) : Prop := ∀ j (h : j < s.size), j < n → okB (s[j]'h).toNat = true
def smallB (s : ByteArray) : Bool := s.data.all fun b => okB b.toNat
theorem smallB_iff (s : ByteArray) : smallB s = true ↔ okTo s s.size := by
  unfold smallB okTo
  rw [Array.all_eq_true]
  constructor
  · intro h j hj _; exact h j hj
  · intro h i hi; exact h i hi hi
theorem smallB_no {s : ByteArray} {j : Nat} (h : j < s.size) (hb : okB (s[j]'h).toNat = false) : smallB s = false := by
  cases hs : smallB s
  · rfl
  · have := (smallB_iff s).1 hs j h h; rw [hb] at this; cases this
theorem okTo_succ {s : ByteArray} {n : Nat} (h : okTo s n) (hn : n < s.size) (hb : okB (s[n]'hn).toNat = true) : okTo s (n + 1) := by
  intro j hj hlt
  by_cases he : j = n
  · subst he; exact hb
  · exact h j hj (by omega)
theorem dec_ok {s : ByteArray} {pos : Nat} (h : pos < s.size) : okB (Utf8.decode s pos).1 = okB (s[pos]'h).toNat ∧ (okB (s[pos]'h).toNat = true → (Utf8.decode s pos).2 = 1) := by
  by_cases ha : (s[pos]'h).toNat < 128
  · rw [decode_ascii s pos h ha]; exact ⟨rfl, fun _ => rfl⟩
  · have hd := (decode_high s pos h (by omega)).1
    have e1 : okB (Utf8.decode s pos).1 = false := by simp [okB]; omega
    have e2 : okB (s[pos]'h).toNat = false := by simp [okB]; omega
    rw [e1, e2]; exact ⟨rfl, fun h => by cases h⟩
theorem decode_width (s : ByteArray) (pos : Nat) (h : pos < s.size) : 1 ≤ (Utf8.decode s pos).2 := by
  by_cases ha : (s[pos]'h).toNat < 128
  · rw [decode_ascii s pos h ha]; exact Nat.le_refl _
  · exact (decode_high s pos h (by omega)).2
theorem below_iter {B : Nat} {w w' : World} (h : Below B w w') (hB : B ≤ w'.heap.size) (s : ByteArray) (pos : Nat) : Below B w (w'.iter s pos) := h.alloc hB _

theorem small_any (s : ByteArray) (w : World) : Calls Try.prog 176 #[.string s] w (fun e w' => e = .returned (.bool (smallB s)) ∧ Below w.heap.size w w') := by
  refine calls_post fun R hR => ?_
  go_enter Try.func176, Try.ntmps176
  go_wp2
  go_loopw [] (fun w' => ∃ pos, pos ≤ s.size ∧ w' = w.iter s pos ∧ okTo s pos) (fun w' => s.size - w'.iterPos w.heap.size)
  case atStart => exact ⟨0, Nat.zero_le _, rfl, fun j _ h => by omega⟩
  case round =>
    obtain ⟨pos, hle, rfl, hok⟩ := hrel
    by_cases hp : pos < s.size
    · have hnx : ∀ ty, (Instr.next (.pointer (some ⟨w.heap.size, 0, none⟩)) true ty).run Try.prog (w.iter s pos) = _ := fun ty => run_next_any w s pos ty hp
      have hd := dec_ok hp
      have hwd := (decode_width s pos hp)
      generalize (Utf8.decode s pos).1 = c at hnx hd
      generalize (Utf8.decode s pos).2 = wd at hnx hd hwd
      have hd1 : okB c = true ∨ okB c = false := by cases okB c <;> simp
      simp only [okB, decide_eq_false_iff_not, decide_eq_true_eq] at hd1
      have HD := Lib.hid hd; clear hd
      have h95 : ((c : Int) != 95) = false ∧ c = 95 ∨ ((c : Int) != 95) = true ∧ c ≠ 95 := by
        by_cases h : c = 95
        · exact Or.inl ⟨by simp [h], h⟩
        · exact Or.inr ⟨by simp; omega, h⟩
      rcases h95 with ⟨g1, g2⟩ | ⟨g1, g2⟩
      all_goals go_wp2
      all_goals
        first
          | (have hc : okB c = true := by simp only [okB, decide_eq_true_eq]; omega
             obtain ⟨hd2, hd3⟩ := HD.out
             rw [hc] at hd2
             have hw1 := hd3 hd2.symm
             subst hw1
             exact ⟨⟨pos + 1, by omega, rfl, okTo_succ hok hp hd2.symm⟩, by simp; omega⟩)
          | (have hc : okB c = false := by simp only [okB, decide_eq_false_iff_not]; omega
             obtain ⟨hd2, hd3⟩ := HD.out
             rw [hc] at hd2
             refine ⟨?_, below_iter (Below.refl _ _) (Nat.le_refl _) _ _⟩
             rw [smallB_no hp hd2.symm]
             try rfl)
    · have hnx : ∀ ty, (Instr.next (.pointer (some ⟨w.heap.size, 0, none⟩)) true ty).run Try.prog (w.iter s pos) = _ := fun ty => run_next_end w s pos ty hp
      have hs : smallB s = true := (smallB_iff s).2 (fun j hj _ => hok j hj (by omega))
      go_wp2
      rw [hs]
      exact ⟨rfl, below_iter (Below.refl _ _) (Nat.le_refl _) _ _⟩
theorem bytes_any (s : ByteArray) (w : World) (hs : s.size ≤ 9223372036854775807) : Calls Try.prog 179 #[.string s] w (fun e w' => e = .returned (.bool (smallB s)) ∧ w' = w) := by
  refine calls_post fun R hR => ?_
  go_enter Try.func179, Try.ntmps179
  go_wp2
  go_loopw [3] (fun v w' => ∃ k : Nat, k ≤ s.size ∧ v = .int .i64 k ∧ w' = w ∧ okTo s k) (fun v w' => s.size - (intOf v).toNat)
  case atStart => exact ⟨0, Nat.zero_le _, rfl, rfl, fun j _ h => by omega⟩
  case round =>
    obtain ⟨k, hle, rfl, rfl, hok⟩ := hrel
    by_cases hp : k < s.size
    · have h95 : (((s[k]'hp).toNat : Int) == 95) = true ∧ (s[k]'hp).toNat = 95 ∨ (((s[k]'hp).toNat : Int) == 95) = false ∧ (s[k]'hp).toNat ≠ 95 := by
        by_cases h : (s[k]'hp).toNat = 95
        · exact Or.inl ⟨by simp [h], h⟩
        · exact Or.inr ⟨by simp; omega, h⟩
      rcases h95 with ⟨g1, g2⟩ | ⟨g1, g2⟩
      all_goals go_wp2
      all_goals
        first
          | (have hc : okB (s[k]'hp).toNat = true := by
               simp only [okB, decide_eq_true_eq]
               try simp only [Bool.not_eq_eq_eq_not, Bool.not_false, decide_eq_true_eq] at *
               omega
             refine ⟨⟨k + 1, by omega, rfl, trivial, okTo_succ hok hp hc⟩, ?_⟩
             show s.size - ((k : Int) + 1).toNat < s.size - (k : Int).toNat
             omega)
          | (have hc : okB (s[k]'hp).toNat = false := by simp only [okB, decide_eq_false_iff_not]; omega
             rw [smallB_no hp hc]
             try rfl)
    · have hk : k = s.size := by omega
      subst hk
      have hs := (smallB_iff s).2 hok
      go_wp2
/-- Is a text a node? -/
def nodeB (s : ByteArray) : Bool := decide (1 ≤ s.size) && decide (s.size ≤ 16) && smallB s
/-- Is a text an element's name? Of which kind? -/
def nameB (s : ByteArray) : Bool := decide (2 ≤ s.size) && decide (s.size ≤ 16) && smallB (s.extract 1 s.size)
def firstB (s : ByteArray) : Int := ((s.data.getD 0 0).toNat : Int)
def nameOf (s : ByteArray) : Int := if nameB s then ofLetter (firstB s) else 0
def nameVal (s : ByteArray) : Value := .tuple #[.int .u8 (nameOf s), .bool (decide (nameOf s ≠ 0))]
theorem node_any (s : ByteArray) (w : World) : Calls Try.prog 147 #[.string s] w (fun e w' => e = .returned (.bool (nodeB s)) ∧ Below w.heap.size w w') := by
  refine calls_post fun R hR => ?_
  by_cases h1 : 1 ≤ s.size
  · by_cases h2 : s.size ≤ 16
    · have e : nodeB s = smallB s := by simp [nodeB, h1, h2]
      rw [e] at hR
      go_enter Try.func147, Try.ntmps147
      go_wp2_with (go_at_call 176; refine (small_any _ _).mono ?_; rintro e w1 ⟨rfl, hb⟩)
      exact ⟨rfl, by first | exact hb | (subst hb; exact Below.refl _ _)⟩
    · have e : nodeB s = false := by simp [nodeB, h2]
      rw [e] at hR
      go_enter Try.func147, Try.ntmps147
      go_wp2
      all_goals first | exact Below.refl _ _ | exact ⟨rfl, Below.refl _ _⟩
  · have e : nodeB s = false := by simp [nodeB, h1]
    rw [e] at hR
    go_enter Try.func147, Try.ntmps147
    go_wp2
    all_goals first | exact Below.refl _ _ | exact ⟨rfl, Below.refl _ _⟩
theorem rnode_any (s : ByteArray) (w : World) : Calls Try.prog 151 #[.string s] w (fun e w' => e = .returned (.bool (nodeB s)) ∧ Below w.heap.size w w') := by
  refine calls_post fun R hR => ?_
  by_cases h1 : 1 ≤ s.size
  · by_cases h2 : s.size ≤ 16
    · have e : nodeB s = smallB s := by simp [nodeB, h1, h2]
      rw [e] at hR
      go_enter Try.func151, Try.ntmps151
      go_wp2_with (go_at_call 179; refine (bytes_any _ _ (by omega)).mono ?_; rintro e w1 ⟨rfl, hb⟩)
      exact ⟨rfl, by first | exact hb | (subst hb; exact Below.refl _ _)⟩
    · have e : nodeB s = false := by simp [nodeB, h2]
      rw [e] at hR
      go_enter Try.func151, Try.ntmps151
      go_wp2
      all_goals first | exact Below.refl _ _ | exact ⟨rfl, Below.refl _ _⟩
  · have e : nodeB s = false := by simp [nodeB, h1]
    rw [e] at hR
    go_enter Try.func151, Try.ntmps151
    go_wp2
    all_goals first | exact Below.refl _ _ | exact ⟨rfl, Below.refl _ _⟩
theorem firstB_at {s : ByteArray} (h : 0 < s.size) : firstB s = ((s[0]'h).toNat : Int) := by
  unfold firstB
  congr 2
  show s.data.getD 0 0 = s.data[0]'h
  simp [Array.getD, h]
end Go.Proofs.Try
