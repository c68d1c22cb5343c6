/- Contracts: lists of numbers, lent, kept, written over. -/
import Derived.Test.YtiipefhdnfneeaaA
import Derived.Test.YtiipefhdnfneeaaMem
import Derived.Deep.QuietTactic
import Derived.BigQuiet
import Derived.Lib.Hide
namespace Go.Proofs.Try
open Go.RowKit Go.Gw
set_option maxRecDepth 100000
set_option linter.unusedSimpArgs false
set_option linter.unusedVariables false

theorem boolC_quiet {f : FuncId} {args : Array Value} {W : World} {n : Nat} {b v : Bool} (h : Calls Try.prog f args (W.drewN n) (BoolC b (W.drewN n))) (hb : b = v) :
    Calls Try.prog f args (W.drewN n) fun e w'' => e = .returned (.bool v) ∧ ∃ m, w'' = W.drewN m :=
  h.mono fun _ _ ⟨he, k, hw⟩ => ⟨by rw [he, hb], n + k, by rw [← hw, World.drewN_drewN]⟩

theorem samenumbers_any (a1 a2 : Option Addr) (n1 n2 c1 c2 : Nat) (xs ys : List Value) (w : World) (h1 : Row w a1 xs) (h2 : Row w a2 ys) (l1 : xs.length = n1) (l2 : ys.length = n2)
    (hx : Nums xs) (hy : Nums ys) (m1 : n1 ≤ 9223372036854775807) (m2 : n2 ≤ 9223372036854775807) :
    Calls Try.prog 29 #[.slice a1 n1 c1, .slice a2 n2 c2] w (BoolC (decide (xs.map numOf = ys.map numOf)) w) := by
  refine calls_post fun R hR => ?_
  by_cases hn : n1 = n2
  · subst hn
    go_enter Try.func29, Try.ntmps29
    go_wp2
    go_loopw [5] (fun i wr => ∃ k : Nat, k ≤ n1 ∧ i = .int .i64 k ∧ Hid (sameTo xs ys k) ∧ Drew w wr) (fun i _ => n1 - (intOf i).toNat)
    case atStart => exact ⟨0, Nat.zero_le _, rfl, rfl, Drew.refl _⟩
    case round =>
      obtain ⟨k, hk, rfl, hs, hw⟩ := hrel
      by_cases hlt : k < n1
      · obtain ⟨b1, o1, rfl⟩ := row_some h1 (j := k) (by omega)
        obtain ⟨b2, o2, rfl⟩ := row_some h2 (j := k) (by omega)
        have e1 := (h1.below (hw.below _)).at (j := k) (by omega)
        have e2 := (h2.below (hw.below _)).at (j := k) (by omega)
        obtain ⟨p1, q1, v1, _, _⟩ := nums_at hx (j := k) (by omega)
        obtain ⟨p2, q2, v2, _, _⟩ := nums_at hy (j := k) (by omega)
        have V1 := Lib.hid v1; have V2 := Lib.hid v2
        rw [v1] at e1; rw [v2] at e2
        clear v1 v2
        have L1 := Lib.hid l1; have L2 := Lib.hid l2; clear l1 l2
        cases hb : (cn p1 == cn p2 && cn q1 == cn q2)
        all_goals
          have HB := Lib.hid hb; clear hb
          go_wp2
          go_quiet ((go_at_call 21; exact boolC_quiet (samenumber_any _ _ _ _ _) HB.out))
          go_wp2
        · refine ⟨?_, hw.drewN _⟩
          have hd : decide (xs.map numOf = ys.map numOf) = false := by
            have hl1 := L1.out; have hl2 := L2.out
            refine decide_eq_false (not_same (k := k) (by omega) (by omega) ?_)
            rw [V1.out, V2.out]
            intro h
            simp only [numOf, Prod.mk.injEq] at h
            have := HB.out
            simp [h.1, h.2] at this
          rw [hd]; rfl
        · go_roundw
          case rel =>
            have hl1 := L1.out; have hl2 := L2.out
            refine ⟨k + 1, by omega, by go_num, sameTo_succ hs (by omega) (by omega) ?_, hw.drewN _⟩
            rw [V1.out, V2.out]
            have := HB.out
            simp only [Bool.and_eq_true, beq_iff_eq] at this
            simp [numOf, this.1, this.2]
          case measure => simp [intOf]; omega
      · have hk' : k = n1 := by omega
        subst hk'
        go_wp2
        refine ⟨?_, hw⟩
        have hd : decide (xs.map numOf = ys.map numOf) = true := by
          have := hs.out
          unfold sameTo at this
          rw [List.take_of_length_le (by omega), List.take_of_length_le (by omega)] at this
          exact decide_eq_true this
        rw [hd]; rfl
  · have hne : ((n1 : Int) != (n2 : Int)) = true := by simp; omega
    have hd : decide (xs.map numOf = ys.map numOf) = false := by
      simp only [decide_eq_false_iff_not]; intro h; have := congrArg List.length h; simp at this; omega
    rw [hd] at hR
    go_enter Try.func29, Try.ntmps29
    go_wp2
    exact ⟨rfl, Drew.refl _⟩
end Go.Proofs.Try
