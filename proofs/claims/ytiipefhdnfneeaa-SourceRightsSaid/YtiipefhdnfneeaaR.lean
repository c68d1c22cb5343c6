/- Contracts of the reference of package value: Check. -/
import Derived.Test.YtiipefhdnfneeaaQ
namespace Go.Proofs.Try
open Go.RowKit Go.Gw
set_option maxRecDepth 100000
set_option linter.unusedSimpArgs false
set_option linter.unusedVariables false

theorem isNan_iff (x : Nat) : isNan x = decide (9218868437227405312 < x % 9223372036854775808) := by
  unfold isNan Ieee.Format.read
  rw [double_sign, double_inf]
  dsimp only
  split
  · rename_i h; rw [decide_eq_false]; · rfl
    have := double_binade; omega
  · split
    · rename_i h; rw [decide_eq_false (by omega)]; rfl
    · split
      · rename_i h; rw [decide_eq_false (by omega)]; rfl
      · rw [decide_eq_true (by omega)]; rfl
theorem kind_fin {x : Nat} (h : realKind x ≤ 2) : isNan x = false := by
  rw [isNan_iff, decide_eq_false]
  unfold realKind at h
  rw [show (2 : Nat) ^ 63 = 9223372036854775808 from rfl] at h
  intro hlt
  rw [if_neg (by omega), if_neg (by omega), if_neg (by omega), if_neg (by omega)] at h
  omega
theorem order_some {x y : Nat} (hx : isNan x = false) (hy : isNan y = false) : ∃ o, Ieee.double.order x y = some o := by
  unfold isNan at hx hy
  unfold Ieee.Format.order
  cases h1 : Ieee.double.read x <;> cases h2 : Ieee.double.read y <;> simp_all [Ieee.Datum.isNaN, Ieee.Datum.order]
theorem gt_not_le {x : Nat} (hx : isNan x = false) : fgt x 0 = !fle x 0 := by
  obtain ⟨o, ho⟩ := order_some hx (y := 0) (by decide +kernel)
  simp only [fgt, fle, ho]
  cases o <;> rfl
set_option maxHeartbeats 2000000 in
theorem rcheck_any (x : El) (w : World) (hx : x.val < 2 ^ 64) : Calls Try.prog 92 #[x.value] w (fun e w' => e = .returned (.int .i64 x.check) ∧ Below w.heap.size w w') := by
  refine calls_post fun R hR => ?_
  obtain ⟨kind, name, a, b, c, d, val, ph⟩ := x
  simp only [El.value, El.row]
  cases hk : kindOk kind
  · have e : El.check ⟨kind, name, a, b, c, d, val, ph⟩ = 2 := by simp [El.check, hk]
    rw [e] at hR
    go_enter Try.func92, Try.ntmps92
    go_wp2_with (go_at_call 149; refine (row_any _ _).mono ?_; rintro e w1 ⟨rfl, hb1⟩; rw [tabVal_no (of_decide_eq_false hk)])
    exact ⟨rfl, (below_call ((Below.refl _ _).alloc (Nat.le_refl _) _) hb1 (by simp)).alloc (by have := hb1.size; simp at this; omega) _⟩
  · obtain ⟨nz, hz⟩ : ∃ z, z = decide (nameOf name ≠ 0) := ⟨_, rfl⟩
    obtain ⟨f, hf⟩ : ∃ z, z = fourOf kind := ⟨_, rfl⟩
    obtain ⟨p, hp⟩ : ∃ z, z = phaseOf kind := ⟨_, rfl⟩
    obtain ⟨ab, ha⟩ : ∃ z, z = aboveOf kind := ⟨_, rfl⟩
    have hnm : El.named ⟨kind, name, a, b, c, d, val, ph⟩ = (nz && (!(nameOf name != kind) && (nodeB a && (nodeB b && (!f || (nodeB c && nodeB d)))))) := by
      rw [hz, hf]
      have : decide (nameOf name = kind) = !(nameOf name != kind) := by rw [bne, Bool.not_not]; rfl
      simp only [El.named, this, Bool.and_assoc]
    have hft : El.fits ⟨kind, name, a, b, c, d, val, ph⟩ = (!(seq a b) && ((f || (seq c ⟨#[]⟩ && seq d ⟨#[]⟩)) && (p || !(ph != 0)))) := by
      rw [hp, hf]
      have : decide (ph = 0) = !(ph != 0) := by rw [bne, Bool.not_not]; rfl
      simp only [El.fits, this, Bool.and_assoc]
    have HNM := Lib.hid hnm; have HFT := Lib.hid hft; clear hnm hft
    have HZ := Lib.hid hz; have HF := Lib.hid hf; have HP := Lib.hid hp; have HA := Lib.hid ha; have HK := Lib.hid hk
    clear hz hf hp ha hk
    go_enter Try.func92, Try.ntmps92
    go_upto_region 5 with (first | (go_at_call 149; refine (row_any _ _).mono ?_; rintro e w1 ⟨rfl, hb1⟩; rw [tabVal_yes (of_decide_eq_true HK.out).1 (of_decide_eq_true HK.out).2, ← HF.out, ← HP.out, ← HA.out]; have hE := hb1.block w.heap.size (by simp); rw [alloc_self] at hE; obtain ⟨d0, d1, d2, d3, d4, d5, d6, d7⟩ := eight_cells hE; have hlt1 : w.heap.size < w1.heap.size := by have := hb1.size; simp at this; omega) | (go_at_call 150; refine (rname_any _ _).mono ?_; rintro e w2 ⟨rfl, hb2⟩; unfold nameVal; rw [← HZ.out]))
    have hlt2 : w1.heap.size < w2.heap.size := by have := hb2.size; simp at this; omega
    have hB2 : Below w.heap.size w w2 := below_call ((below_call ((Below.refl _ _).alloc (Nat.le_refl _) _) hb1 (by simp)).alloc (by omega) _) hb2 (by simp; omega)
    have hR1 := hb2.block w1.heap.size (by simp)
    rw [alloc_self] at hR1
    obtain ⟨r0, q1, r1, r2, r4, r3, _⟩ := six_cells hR1
    have hE2 : w2.heap[w.heap.size]? = _ := (hb2.block w.heap.size (by simp; omega)).trans ((Below.heap_alloc _ _ _ hlt1).trans hE)
    obtain ⟨d0, d1, d2, d3, d4, d5, d6, d7⟩ := eight_cells hE2
    have HE := Lib.hid hE2
    have HR1 := Lib.hid hR1
    clear hE hE2 hR1
    go_cut [56] from 21 to 56 (fun v wx => v = .bool (!(El.named ⟨kind, name, a, b, c, d, val, ph⟩)) ∧ Below w2.heap.size w2 wx)
    case first =>
      clear HZ HF
      rcases seven (!nz) (nameOf name != kind) (nodeB a) (nodeB b) f (nodeB c) (nodeB d) with n1 | ⟨n1, n2⟩ | ⟨n1, n2, n3⟩ | ⟨n1, n2, n3, n4⟩ | ⟨n1, n2, n3, n4, n5⟩ | ⟨n1, n2, n3, n4, n5, n6⟩ | ⟨n1, n2, n3, n4, n5, n6⟩
      all_goals
        have n1 := Bool.not_eq_eq_eq_not.1 n1
        simp only [Bool.not_true, Bool.not_false] at n1
        subst n1
        try subst n5
        have hW := Below.refl w2.heap.size w2
        go_wp2_with (first | (go_at_call 151; refine (rnode_any _ _).mono ?_; rintro e w3 ⟨rfl, hb3⟩; obtain ⟨⟨d0, d2, d3, d4, d5, r3⟩, hW⟩ := keep6 hb3 ⟨⟨d0, d2, d3, d4, d5, r3⟩, hW⟩ hW.size))
        go_meet
        case rel =>
          refine ⟨?_, hW⟩
          rw [HNM.out]
          (try rw [n2]) <;> (try rw [n3]) <;> (try rw [n4]) <;> (try rw [n6]) <;> rfl
    case rest =>
      obtain ⟨hv, hW⟩ := hcut
      have hE3 := (hW.block w.heap.size (by omega)).trans HE.out
      have hR3 := (hW.block w1.heap.size (by omega)).trans HR1.out
      obtain ⟨d0, d1, d2, d3, d4, d5, d6, d7⟩ := eight_cells hE3
      obtain ⟨r0, q1, r1, r2, r4, r3, _⟩ := six_cells hR3
      clear hE3 hR3
      cases hn : El.named ⟨kind, name, a, b, c, d, val, ph⟩
      · have e : El.check ⟨kind, name, a, b, c, d, val, ph⟩ = 8 := by simp [El.check, HK.out, hn]
        rw [e] at hR
        rw [hn] at hv
        subst hv
        go_wp2
        exact ⟨rfl, below_call hB2 hW hB2.size⟩
      · rw [hn] at hv
        subst hv
        go_upto_region 7 with fail
        go_cut [86] from 57 to 86 (fun v wy => v = .bool (!(El.fits ⟨kind, name, a, b, c, d, val, ph⟩)) ∧ wy = wc)
        case first =>
          clear HF HP HA HNM
          rcases seven2 (seq a b) f (!seq c ⟨#[]⟩) (!seq d ⟨#[]⟩) p (ph != 0) with x1 | ⟨x1, hf, hp⟩ | ⟨x1, hf, hp, x4⟩ | ⟨x1, hf, hp, x4⟩ | ⟨x1, hf, x2⟩ | ⟨x1, hf, x2, x3⟩ | ⟨x1, hf, x2, x3, hp⟩ | ⟨x1, hf, x2, x3, hp, x4⟩ | ⟨x1, hf, x2, x3, hp, x4⟩
          all_goals
            try subst hf
            try subst hp
            (try have x2 := bnot_of x2) <;> (try have x3 := bnot_of x3)
            go_wp2
            go_meet
            case rel =>
              refine ⟨?_, rfl⟩
              rw [HFT.out]
              (try rw [x1]) <;> (try rw [x2]) <;> (try rw [x3]) <;> (try rw [x4]) <;> rfl
        case rest =>
          obtain ⟨hv, rfl⟩ := hcut
          cases hn2 : El.fits ⟨kind, name, a, b, c, d, val, ph⟩
          · have e : El.check ⟨kind, name, a, b, c, d, val, ph⟩ = 2 := by simp [El.check, HK.out, hn, hn2]
            rw [e] at hR
            rw [hn2] at hv
            subst hv
            go_wp2
            exact ⟨rfl, below_call hB2 hW hB2.size⟩
          · rw [hn2] at hv
            subst hv
            have e : El.check ⟨kind, name, a, b, c, d, val, ph⟩ = if 2 < realKind val then 5 else if ab = true ∧ fle val 0 = true then 2 else 0 := by rw [HA.out]; simp [El.check, HK.out, hn, hn2]
            cases hk2 : decide (2 < realKind val)
            · have h2 := of_decide_eq_false hk2
              rw [if_neg h2] at e
              rw [e] at hR
              clear e hk2
              have hgl := gt_not_le (x := val) (kind_fin (by omega))
              cases ab <;> cases hl : fle val 0
              all_goals
                rw [hl] at hgl
                simp only [hl, Bool.false_eq_true, false_and, and_false, and_self, if_true, if_false] at hR
                go_wp2_with (go_at_call 152; refine (rkind_any _ _ hx).mono ?_; rintro e w3 ⟨rfl, rfl⟩)
                exact ⟨rfl, below_call hB2 hW hB2.size⟩
            · have h2 := of_decide_eq_true hk2
              rw [if_pos h2] at e
              rw [e] at hR
              clear e hk2
              go_wp2_with (go_at_call 152; refine (rkind_any _ _ hx).mono ?_; rintro e w3 ⟨rfl, rfl⟩)
              exact ⟨rfl, below_call hB2 hW hB2.size⟩
end Go.Proofs.Try
