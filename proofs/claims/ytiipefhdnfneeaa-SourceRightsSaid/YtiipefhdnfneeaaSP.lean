/- What drives a net: none, Phasor, both sides. -/
import Derived.Test.YtiipefhdnfneeaaSO
namespace Go.Proofs.Try
open Go.RowKit Go.Gw
set_option maxRecDepth 100000
set_option linter.unusedSimpArgs false
set_option linter.unusedVariables false

theorem check_cases (e : El) : e.check = 2 ∨ e.check = 8 ∨ e.check = 5 ∨ e.check = 0 := by
  unfold El.check
  split
  · simp
  · split
    · simp
    · split
      · simp
      · split
        · simp
        · split <;> simp
theorem faultFrom_ne1 (es : List El) : ∀ (done : List El) f, faultFrom done es = some f → f.1 ≠ 1 ∧ f.1 ≠ 0 := by
  induction es with
  | nil => intro done f h; cases h
  | cons e es ih =>
    intro done f h
    rw [faultFrom_step] at h
    split at h
    · rename_i hc
      have := check_cases e
      cases h
      simp only
      omega
    · split at h
      · cases h; simp
      · exact ih _ _ h
theorem netFault_ne1 (es : List El) : (netFault es).1 ≠ 1 := by
  unfold netFault
  split
  · simp
  · split
    · rename_i f hf; exact (faultFrom_ne1 _ _ _ hf).1
    · split <;> simp
theorem snone_no (w : World) (p : Nat) (es : List El) (h : NetIs w p es) (hn : es.length ≤ 1000) (hv : ∀ e ∈ es, e.val < 2 ^ 64) : Calls Try.prog 95 #[.pointer (some ⟨p, 0, none⟩)] w (fun e w' => e = .returned (.bool false) ∧ Below w.heap.size w w') := by
  refine calls_post fun R hR => ?_
  have h1 := netFault_ne1 (es ++ [el0])
  generalize hf : netFault (es ++ [el0]) = f at h1
  have HF := Lib.hid hf; clear hf
  have hb : (f.1 == 1) = false := by simpa using h1
  have hw := with_net w p es el0 h hn (by decide) hv
  rw [HF.out] at hw
  go_enter Try.func95, Try.ntmps95
  go_wp2_with fail
  refine hw.mono ?_
  rintro e w1 ⟨⟨q, rfl⟩, b1⟩
  clear hw
  go_wp2
  exact ⟨rfl, b1.alloc b1.size _⟩
theorem snone_nil (w : World) : Calls Try.prog 95 #[.pointer none] w (fun e w' => e = .returned (.bool true) ∧ Below w.heap.size w w') := by
  refine calls_post fun R hR => ?_
  go_enter Try.func95, Try.ntmps95
  go_wp2
  exact ⟨rfl, Below.refl _ _⟩
def isSrc (e : El) : Bool := e.kind == 4 || e.kind == 5
/-- A source's phasor. -/
def phasorOf (e : El) : Nat × Nat := phasorT (cn e.val) e.ph
theorem sphasor_src (x : El) (w : World) (hx : x.val < 2 ^ 64) (hc : x.check = 0) (hk : isSrc x = true) : Calls Try.prog 96 #[x.value] w (fun e w' => ∃ r s, e = .returned (.tuple #[.complex .f64 r s, .int .i64 0]) ∧ Is r (phasorOf x).1 ∧ Is s (phasorOf x).2 ∧ Below w.heap.size w w') := by
  refine calls_post fun R hR => ?_
  obtain ⟨kind, name, a, b, c, d, val, ph⟩ := x
  have hck := check_any ⟨kind, name, a, b, c, d, val, ph⟩ (w.alloc (boxOf kind name a b c d val ph)) hx
  rw [hc] at hck
  have HC := Lib.hid hc; clear hc
  have hk2 : (kind != 4) = false ∨ ((kind != 4) = true ∧ (kind != 5) = false) := by
    simp only [isSrc, Bool.or_eq_true, beq_iff_eq] at hk
    rcases hk with rfl | rfl
    · left; rfl
    · right; exact ⟨rfl, rfl⟩
  clear hk
  simp only [El.value, El.row] at hck ⊢
  rcases hk2 with h1 | ⟨h1, h2⟩
  all_goals
    go_enter Try.func96, Try.ntmps96
    go_wp2_with (first | (go_at_call 88; refine hck.mono ?_; rintro e w1 ⟨rfl, hb1⟩; have hE := (hb1.block w.heap.size (by simp)).trans (alloc_self _ _); obtain ⟨d0, d1, d2, d3, d4, d5, d6, d7⟩ := eight_cells hE) | (go_at_call 155; refine (tphasor_any _ _ _).mono ?_; rintro e w2 ⟨r, s, rfl, h1, h2, h3⟩))
    refine ⟨r, s, rfl, h1, h2, ?_⟩
    exact below_call (below_call ((Below.refl _ _).alloc (Nat.le_refl _) _) hb1 (by simp)) (h3.below _) (by have := hb1.size; simp at this; omega)
theorem sphasor_no (x : El) (w : World) (hx : x.val < 2 ^ 64) (hc : x.check = 0) (hk : isSrc x = false) : Calls Try.prog 96 #[x.value] w (fun e w' => e = .returned (.tuple #[.complex .f64 0 0, .int .i64 2]) ∧ Below w.heap.size w w') := by
  refine calls_post fun R hR => ?_
  obtain ⟨kind, name, a, b, c, d, val, ph⟩ := x
  have hck := check_any ⟨kind, name, a, b, c, d, val, ph⟩ (w.alloc (boxOf kind name a b c d val ph)) hx
  rw [hc] at hck
  have HC := Lib.hid hc; clear hc
  have hk2 : (kind != 4) = true ∧ (kind != 5) = true := by
    simp only [isSrc, Bool.or_eq_false_iff, beq_eq_false_iff_ne] at hk
    simpa using hk
  clear hk
  obtain ⟨h1, h2⟩ := hk2
  simp only [El.value, El.row] at hck ⊢
  go_enter Try.func96, Try.ntmps96
  go_wp2_with (first | (go_at_call 88; refine hck.mono ?_; rintro e w1 ⟨rfl, hb1⟩; have hE := (hb1.block w.heap.size (by simp)).trans (alloc_self _ _); obtain ⟨d0, d1, d2, d3, d4, d5, d6, d7⟩ := eight_cells hE))
  exact ⟨rfl, below_call ((Below.refl _ _).alloc (Nat.le_refl _) _) hb1 (by simp)⟩
theorem rsphasor_src (x : El) (w : World) (hx : x.val < 2 ^ 64) (hc : x.check = 0) (hk : isSrc x = true) : Calls Try.prog 103 #[x.value] w (fun e w' => ∃ r s, e = .returned (.tuple #[.complex .f64 r s, .int .i64 0]) ∧ Is r (phasorOf x).1 ∧ Is s (phasorOf x).2 ∧ Below w.heap.size w w') := by
  refine calls_post fun R hR => ?_
  obtain ⟨kind, name, a, b, c, d, val, ph⟩ := x
  have hck := rcheck_any ⟨kind, name, a, b, c, d, val, ph⟩ (w.alloc (boxOf kind name a b c d val ph)) hx
  rw [hc] at hck
  have HC := Lib.hid hc; clear hc
  have hk2 : (kind != 4) = false ∨ ((kind != 4) = true ∧ (kind != 5) = false) := by
    simp only [isSrc, Bool.or_eq_true, beq_iff_eq] at hk
    rcases hk with rfl | rfl
    · left; rfl
    · right; exact ⟨rfl, rfl⟩
  clear hk
  simp only [El.value, El.row] at hck ⊢
  rcases hk2 with h1 | ⟨h1, h2⟩
  all_goals
    go_enter Try.func103, Try.ntmps103
    go_wp2_with (first | (go_at_call 92; refine hck.mono ?_; rintro e w1 ⟨rfl, hb1⟩; have hE := (hb1.block w.heap.size (by simp)).trans (alloc_self _ _); obtain ⟨d0, d1, d2, d3, d4, d5, d6, d7⟩ := eight_cells hE) | (go_at_call 158; refine (rphasor_any _ _ _).mono ?_; rintro e w2 ⟨r, s, rfl, h1, h2, h3⟩))
    refine ⟨r, s, rfl, h1, h2, ?_⟩
    exact below_call (below_call ((Below.refl _ _).alloc (Nat.le_refl _) _) hb1 (by simp)) (h3) (by have := hb1.size; simp at this; omega)
theorem rsphasor_no (x : El) (w : World) (hx : x.val < 2 ^ 64) (hc : x.check = 0) (hk : isSrc x = false) : Calls Try.prog 103 #[x.value] w (fun e w' => e = .returned (.tuple #[.complex .f64 0 0, .int .i64 2]) ∧ Below w.heap.size w w') := by
  refine calls_post fun R hR => ?_
  obtain ⟨kind, name, a, b, c, d, val, ph⟩ := x
  have hck := rcheck_any ⟨kind, name, a, b, c, d, val, ph⟩ (w.alloc (boxOf kind name a b c d val ph)) hx
  rw [hc] at hck
  have HC := Lib.hid hc; clear hc
  have hk2 : (kind != 4) = true ∧ (kind != 5) = true := by
    simp only [isSrc, Bool.or_eq_false_iff, beq_eq_false_iff_ne] at hk
    simpa using hk
  clear hk
  obtain ⟨h1, h2⟩ := hk2
  simp only [El.value, El.row] at hck ⊢
  go_enter Try.func103, Try.ntmps103
  go_wp2_with (first | (go_at_call 92; refine hck.mono ?_; rintro e w1 ⟨rfl, hb1⟩; have hE := (hb1.block w.heap.size (by simp)).trans (alloc_self _ _); obtain ⟨d0, d1, d2, d3, d4, d5, d6, d7⟩ := eight_cells hE))
  exact ⟨rfl, below_call ((Below.refl _ _).alloc (Nat.le_refl _) _) hb1 (by simp)⟩
end Go.Proofs.Try
