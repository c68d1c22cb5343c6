/- Contracts: lists of numbers made, lent, kept, written over. -/
import Derived.Test.YtiipefhdnfneeaaB
import Derived.OwnWalk
namespace Go.Proofs.Try
open Go.RowKit Go.Gw
set_option maxRecDepth 100000
set_option linter.unusedSimpArgs false
set_option linter.unusedVariables false

theorem mark_any (k i : Int) (w : World) : Calls Try.prog 73 #[.int .i64 k, .int .i64 i] w (fun e w' => e = .returned (.complex .f64 (markRe k i) (floatOfInt .f64 k)) ∧ w = w') := by
  refine calls_post fun R hR => ?_
  go_enter Try.func73, Try.ntmps73
  go_wp2
  rw [fres_mark, fdr_mark]
  exact ⟨rfl, rfl⟩
theorem elem_c : Elem Try.prog 23 29 (.complex .f64 0 0) 1 16 := ⟨by kernel_rfl, by kernel_rfl, rfl, by decide, by decide⟩
theorem copy_any (a : Option Addr) (n c : Nat) (xs : List Value) (w : World) (h : Row w a xs) (l : xs.length = n) (hx : Nums xs) (hn : n * 16 ≤ 140737488355328) :
    Calls Try.prog 72 #[.slice a n c] w (fun e w' => ∃ v, e = .returned v ∧ w'.ownsRow w.heap.size 29 1 v n xs ∧ Below w.heap.size w w') := by
  refine calls_post fun R hR => ?_
  go_enter Try.func72, Try.ntmps72
  go_wp2_with (at_builtin; refine wpList_app rfl (.tmp 4) (.tmp 5) rfl elem_c (World.ownsRow_nil _ _ _ _) rfl rfl h (by omega) (fun u hu => oneCell_num (hx u hu)) (by omega) (Nat.le_refl _) ?_; intro v w1 hown hg)
  exact ⟨v, rfl, by simpa using hown, below_grown hg⟩
theorem numbers_any (a : Option Addr) (n c : Nat) (zs : List (Nat × Nat)) (w : World) (h : Pairs w a zs) (l : zs.length = n) (hn : n * 16 ≤ 140737488355328) :
    Calls Try.prog 10 #[.slice a n c] w (fun e w' => ∃ v, e = .returned v ∧ w'.ownsRow w.heap.size 29 1 v n (zs.map cxOf) ∧ Below w.heap.size w w') := by
  refine calls_post fun R hR => ?_
  go_enter Try.func10, Try.ntmps10
  go_wp2
  go_loopw [3, 4] (fun v i wr => ∃ k : Nat, k ≤ n ∧ i = .int .i64 k ∧ wr.ownsRow w.heap.size 29 1 v k ((zs.take k).map cxOf) ∧ Below w.heap.size w wr) (fun _ i _ => n - (intOf i).toNat)
  case atStart => exact ⟨0, Nat.zero_le _, rfl, World.ownsRow_nil _ _ _ _, Below.refl _ _⟩
  case round =>
    obtain ⟨k, hk, rfl, hown, hb⟩ := hrel
    have L := Lib.hid l; clear l
    by_cases hlt : k < n
    · have hlz : k < zs.length := by have := L.out; omega
      obtain ⟨b, off, rfl⟩ := pairs_some h hlz
      obtain ⟨e1, e2⟩ := (h.below hb).at hlz
      have ht := Lib.hid (take_map_succ cxOf hlz (0, 0))
      generalize zs.getD k (0, 0) = z at e1 e2 ht
      obtain ⟨z1, z2⟩ := z
      go_wp2_with (first | (go_at_call 71; refine (number_any _ _ _).mono ?_; rintro e w1 ⟨rfl, hb1⟩) | (at_builtin; refine wpList_app rfl (.tmp 11) (.tmp 17) rfl elem_c ((ownsRow_below hown hb1).alloc _) rfl rfl (row_new _ _ _) rfl (one1 rfl) (by omega) (by have := hb.size; have := hb1.size; simp; omega) ?_; intro v' w2 hown2 hg2))
      have hB := hb.size
      have hB1 := hb1.size
      go_roundw
      case rel =>
        refine ⟨k + 1, by omega, by go_num, ?_, ?_⟩
        · rw [← ht.out]; exact hown2
        · exact below_app ((below_call hb hb1 hB).alloc (by omega) _) ((ownsRow_below hown hb1).alloc _) hg2 (by simp; omega)
      case measure => simp [intOf]; omega
    · have hk' : k = n := by omega
      subst hk'
      go_wp2
      have := L.out
      rw [List.take_of_length_le (by omega)] at hown
      exact ⟨_, rfl, hown, hb⟩
/-- The marks of list 7. -/
def marks7 : List Value := [markC 7 0, markC 7 1, markC 7 2, markC 7 3, markC 7 4, markC 7 5]
theorem marks7_succ {k : Nat} (h : k < 6) : marks7.take k ++ [markC 7 k] = marks7.take (k + 1) := by
  have : k = 0 ∨ k = 1 ∨ k = 2 ∨ k = 3 ∨ k = 4 ∨ k = 5 := by omega
  rcases this with rfl | rfl | rfl | rfl | rfl | rfl <;> rfl
theorem lent_any (a : Option Addr) (n c : Nat) (xs : List Value) (w : World) (h : Row w a xs) (l : xs.length = n) (hx : Nums xs) (hn : n * 16 + 96 ≤ 140737488355328) :
    Calls Try.prog 11 #[.slice a n c] w (fun e w' => ∃ v, e = .returned v ∧ w'.ownsRow w.heap.size 29 1 v (n + 6) (xs ++ marks7) ∧ Below w.heap.size w w') := by
  refine calls_post fun R hR => ?_
  go_enter Try.func11, Try.ntmps11
  go_wp2_with (go_at_call 72; refine (copy_any _ _ _ _ _ h l hx (by omega)).mono ?_; rintro e w1 ⟨v, rfl, hown1, hb1⟩)
  go_loopw [3, 4] (fun v i wr => ∃ k : Nat, k ≤ 6 ∧ i = .int .i64 k ∧ wr.ownsRow w.heap.size 29 1 v (n + k) (xs ++ marks7.take k) ∧ Below w.heap.size w wr) (fun _ i _ => 6 - (intOf i).toNat)
  case atStart => exact ⟨0, Nat.zero_le _, rfl, by simpa using hown1, hb1⟩
  case round =>
    obtain ⟨k, hk, rfl, hown, hb⟩ := hrel
    clear hown1 hb1
    have L := Lib.hid l; clear l
    by_cases hlt : k < 6
    · have ht := Lib.hid (marks7_succ hlt)
      go_wp2_with (first | (go_at_call 73; refine (mark_any _ _ _).mono ?_; rintro e w1 ⟨rfl, rfl⟩) | (at_builtin; refine wpList_app rfl (.tmp 11) (.tmp 14) rfl elem_c (hown.alloc _) rfl rfl (row_new _ _ _) rfl (one1 rfl) (by omega) (by have := hb.size; simp; omega) ?_; intro v' w2 hown2 hg2))
      have hB := hb.size
      go_roundw
      case rel =>
        refine ⟨k + 1, by omega, by go_num, ?_, ?_⟩
        · rw [← ht.out, ← List.append_assoc]; exact hown2
        · exact below_app (hb.alloc (by omega) _) (hown.alloc _) hg2 (by simp; omega)
      case measure => simp [intOf]; omega
    · have hk' : k = 6 := by omega
      subst hk'
      go_wp2
      exact ⟨_, rfl, hown, hb⟩
theorem nums_marks7 : Nums marks7 := by
  intro v hv
  simp only [marks7, List.mem_cons, List.not_mem_nil, or_false] at hv
  rcases hv with rfl | rfl | rfl | rfl | rfl | rfl <;> exact isNum_mark _ _
theorem nums_append {xs ys : List Value} (hx : Nums xs) (hy : Nums ys) : Nums (xs ++ ys) := by
  intro v hv
  rcases List.mem_append.1 hv with h | h
  · exact hx v h
  · exact hy v h
theorem nums1 {u : Value} (h : IsNum u) : Nums [u] := by
  intro x hx; rw [List.mem_singleton.1 hx]; exact h
theorem kept_any (a1 a2 : Option Addr) (n1 n2 c1 c2 : Nat) (xs ys : List Value) (w : World) (h1 : Row w a1 xs) (h2 : Row w a2 ys) (l1 : xs.length = n1) (l2 : ys.length = n2)
    (hx : Nums xs) (hy : Nums ys) (m1 : n1 ≤ 9223372036854775807) (hn : n2 * 16 + 96 ≤ 140737488355328) :
    Calls Try.prog 27 #[.slice a1 n1 c1, .slice a2 n2 c2] w (fun e w' => e = .returned (.bool (decide (xs.map numOf = (ys ++ marks7).map numOf))) ∧ Below w.heap.size w w') := by
  refine calls_post fun R hR => ?_
  go_enter Try.func27, Try.ntmps27
  have L1 := Lib.hid l1; have L2 := Lib.hid l2; clear l1 l2
  go_wp2_with (first | (go_at_call 11; refine (lent_any _ _ _ _ _ h2 L2.out hy hn).mono ?_; rintro e w1 ⟨v, rfl, hown1, hb1⟩; obtain ⟨a3, c3, rfl, h3, _, _, l3⟩ := ownsRow_row hown1; have L3 := Lib.hid l3; clear l3) | (go_at_call 29; refine (samenumbers_any _ _ _ _ _ _ _ _ _ (h1.below hb1) h3 L1.out L3.out hx (nums_append hy nums_marks7) m1 (by omega)).mono ?_; rintro e w2 ⟨rfl, hd⟩))
  exact ⟨by simp, below_call hb1 (hd.below _) hb1.size⟩
theorem over_any (g n c : Nat) (B : Nat) (xs : List Value) (w : World) (h : w.ownsRow B 29 1 (.slice (some ⟨g, 0, none⟩) n c) n xs) (m1 : n ≤ 9223372036854775807) :
    Calls Try.prog 28 #[.slice (some ⟨g, 0, none⟩) n c] w (fun e w' => e = .returned (.tuple #[]) ∧ (∃ ys, Nums ys ∧ w'.ownsRow B 29 1 (.slice (some ⟨g, 0, none⟩) n c) n ys) ∧ w.grownBy w' (some g)) := by
  refine calls_post fun R hR => ?_
  go_enter Try.func28, Try.ntmps28
  go_wp2
  go_loopw [2] (fun i wr => ∃ k : Nat, k ≤ n ∧ i = .int .i64 k ∧ (∃ ys, Nums (ys.take k) ∧ wr.ownsRow B 29 1 (.slice (some ⟨g, 0, none⟩) n c) n ys) ∧ w.grownBy wr (some g)) (fun i _ => n - (intOf i).toNat)
  case atStart => exact ⟨0, Nat.zero_le _, rfl, ⟨xs, by simp [Nums], h⟩, World.grownBy.refl _ _⟩
  case round =>
    obtain ⟨k, hk, rfl, ⟨ys, hy, hown⟩, hg⟩ := hrel
    by_cases hlt : k < n
    · have hf := frozen_own hown k
      obtain ⟨a3, c3, hv, h3, _, _, l3⟩ := ownsRow_row hown
      have hc := h3
      cases hv
      have hc := h3.at (j := k) (by omega)
      rw [Nat.zero_add] at hc
      have L3 := Lib.hid l3; clear l3 h3
      go_wp2_with (go_at_call 73; refine (mark_any _ _ _).mono ?_; rintro e w1 ⟨rfl, rfl⟩)
      go_roundw
      case rel =>
        refine ⟨k + 1, by omega, by go_num, ⟨_, ?_, ownsRow_setCell hown hlt _⟩, grown_setCell hg _ rfl _⟩
        exact nums_set hy (by have := L3.out; omega) (isNum_mark 9 k)
      case measure => simp [intOf]; omega
    · have hk' : k = n := by omega
      subst hk'
      have hl : ys.length = k := by have := hown.1; omega
      rw [List.take_of_length_le (by omega)] at hy
      go_wp2
      go_end0
      exact hR _ _ ⟨rfl, ⟨ys, hy, hown⟩, hg⟩
end Go.Proofs.Try
