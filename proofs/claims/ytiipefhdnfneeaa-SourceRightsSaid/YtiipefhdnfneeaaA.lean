/- Contracts of the reals and numbers, part by part. -/
import Derived.Test.YtiipefhdnfneeaaProg
import Derived.Test.YtiipefhdnfneeaaFl
import Derived.Outline
import Derived.Lib.Hide
import Derived.Deep.RegionHeld3
import Derived.Deep.DeepCutAuto
namespace Go.Proofs.Try
open Go.RowKit Go.Gw
set_option maxRecDepth 100000
set_option linter.unusedSimpArgs false
set_option linter.unusedVariables false

theorem calls_post {P : Program} {f : FuncId} {args : Array Value} {w : World} {R : Ending → World → Prop}
    (h : ∀ R' : Ending → World → Prop, (∀ e w', R e w' → R' e w') → Calls P f args w R') : Calls P f args w R := h R fun _ _ => id

@[go_sem] theorem call_bits (b : Nat) (w : World) : (callFunc 85 #[.float .f64 b]).run Try.prog w = .ok (.value (.int .u64 b)) w := by kernel_rfl
@[go_sem] theorem call_from (n : Int) (w : World) : (callFunc 127 #[.int .u64 n]).run Try.prog w = .ok (.value (.float .f64 n.toNat)) w := by kernel_rfl

/-- A call that answers a real and draws at most. -/
def RealC (x : Nat) (w : World) (e : Ending) (w' : World) : Prop := ∃ r, e = .returned (.float .f64 r) ∧ Is r x ∧ Drew w w'
/-- A call that answers a number and draws at most. -/
def NumC (x y : Nat) (w : World) (e : Ending) (w' : World) : Prop := ∃ r s, e = .returned (.complex .f64 r s) ∧ Is r x ∧ Is s y ∧ Drew w w'
/-- A call that answers a bool and draws at most. -/
def BoolC (b : Bool) (w : World) (e : Ending) (w' : World) : Prop := e = .returned (.bool b) ∧ Drew w w'

theorem is_turn {a : Nat} (ha : a < 2 ^ 64) : Is (bits .xor .u64 (a : Int) 9223372036854775808).toNat (fneg (cn a)) := by
  rw [bits_turn ha]; exact ⟨neg_lt ha, cn_neg a⟩
theorem is_size {a : Nat} (ha : a < 2 ^ 64) : Is (bits .andNot .u64 (a : Int) 9223372036854775808).toNat (fabs (cn a)) := by
  rw [bits_size ha]; exact ⟨Nat.lt_of_lt_of_le (Nat.mod_lt _ (by decide)) (by decide), cn_abs a⟩

section
variable (a b c d : Nat) (w : World)
theorem add_any : Calls Try.prog 75 #[.complex .f64 a b, .complex .f64 c d] w (NumC (fadd (cn a) (cn c)) (fadd (cn b) (cn d)) w) := by
  refine calls_post fun R hR => ?_
  go_enter Try.func75, Try.ntmps75
  go_wp2
  exact ⟨_, _, rfl, fres_add _ _ _ rfl rfl, fres_add _ _ _ rfl rfl, _, rfl⟩
theorem sub_any : Calls Try.prog 76 #[.complex .f64 a b, .complex .f64 c d] w (NumC (fsub (cn a) (cn c)) (fsub (cn b) (cn d)) w) := by
  refine calls_post fun R hR => ?_
  go_enter Try.func76, Try.ntmps76
  go_wp2
  exact ⟨_, _, rfl, fres_sub _ _ _ rfl rfl, fres_sub _ _ _ rfl rfl, _, rfl⟩
theorem mul_any : Calls Try.prog 78 #[.complex .f64 a b, .complex .f64 c d] w (NumC (fsub (fmul (cn a) (cn c)) (fmul (cn b) (cn d))) (fadd (fmul (cn a) (cn d)) (fmul (cn b) (cn c))) w) := by
  refine calls_post fun R hR => ?_
  go_enter Try.func78, Try.ntmps78
  go_wp2
  exact ⟨_, _, rfl, fres_sub _ _ _ (by simp) (by simp), fres_add _ _ _ (by simp) (by simp), _, rfl⟩
theorem turned_any (ha : a < 2 ^ 64) : Calls Try.prog 140 #[.float .f64 a] w (RealC (fneg (cn a)) w) := by
  refine calls_post fun R hR => ?_
  go_enter Try.func140, Try.ntmps140
  go_wp2
  exact ⟨_, rfl, is_turn ha, Drew.refl _⟩
theorem size_any (ha : a < 2 ^ 64) : Calls Try.prog 143 #[.float .f64 a] w (RealC (fabs (cn a)) w) := by
  refine calls_post fun R hR => ?_
  go_enter Try.func143, Try.ntmps143
  go_wp2
  exact ⟨_, rfl, is_size ha, Drew.refl _⟩
theorem conj_any (ha : a < 2 ^ 64) (hb : b < 2 ^ 64) : Calls Try.prog 79 #[.complex .f64 a b] w (NumC (cn a) (fneg (cn b)) w) := by
  refine calls_post fun R hR => ?_
  go_enter Try.func79, Try.ntmps79
  go_wp2_with (go_at_call 140; refine (turned_any _ _ hb).mono ?_; rintro e w' ⟨r, rfl, hr, n, rfl⟩)
  exact ⟨_, _, rfl, ⟨ha, rfl⟩, hr, _, rfl⟩
theorem size1_any (ha : a < 2 ^ 64) (hb : b < 2 ^ 64) : Calls Try.prog 86 #[.complex .f64 a b] w (RealC (fadd (fabs (cn a)) (fabs (cn b))) w) := by
  refine calls_post fun R hR => ?_
  go_enter Try.func86, Try.ntmps86
  go_wp2_with (go_at_call 143; refine (size_any _ _ (by assumption)).mono ?_; rintro e w' ⟨r, rfl, hr, n, rfl⟩)
  rename_i r1 hr1 n1
  exact ⟨_, rfl, fres_add _ _ _ hr1.2 hr.2, _, rfl⟩
theorem samereal_any : Calls Try.prog 22 #[.float .f64 a, .float .f64 b] w (BoolC (cn a == cn b) w) := by
  rw [← same_bool]
  refine calls_post fun R hR => ?_
  go_enter Try.func22, Try.ntmps22
  go_wp2
  all_goals (refine ⟨?_, Drew.refl _⟩; simp [*, ← format_f64]; done)
theorem samenumber_any : Calls Try.prog 21 #[.complex .f64 a b, .complex .f64 c d] w (BoolC (cn a == cn c && cn b == cn d) w) := by
  cases h1 : cn a == cn c <;> cases h2 : cn b == cn d
  all_goals
    refine calls_post fun R hR => ?_
    go_enter Try.func21, Try.ntmps21
    go_wp2_with (go_at_call 22; refine (samereal_any _ _ _).mono ?_; rintro e w' ⟨rfl, n, rfl⟩)
    exact ⟨by simp [*], _, rfl⟩
theorem refof_any : Calls Try.prog 141 #[.float .f64 a, .float .f64 b] w fun e w' => e = .returned (.complex .f64 a b) ∧ w = w' := by
  refine calls_post fun R hR => ?_
  go_enter Try.func141, Try.ntmps141
  go_wp2
theorem refadd_any : Calls Try.prog 81 #[.complex .f64 a b, .complex .f64 c d] w (NumC (fadd (cn a) (cn c)) (fadd (cn b) (cn d)) w) := by
  refine calls_post fun R hR => ?_
  go_enter Try.func81, Try.ntmps81
  go_wp2
  exact ⟨_, _, rfl, fres_add _ _ _ rfl rfl, fres_add _ _ _ rfl rfl, _, rfl⟩
theorem refsub_any : Calls Try.prog 82 #[.complex .f64 a b, .complex .f64 c d] w (NumC (fsub (cn a) (cn c)) (fsub (cn b) (cn d)) w) := by
  refine calls_post fun R hR => ?_
  go_enter Try.func82, Try.ntmps82
  go_wp2
  exact ⟨_, _, rfl, fres_sub _ _ _ rfl rfl, fres_sub _ _ _ rfl rfl, _, rfl⟩
theorem refmul_any : Calls Try.prog 83 #[.complex .f64 a b, .complex .f64 c d] w (NumC (fsub (fmul (cn a) (cn c)) (fmul (cn b) (cn d))) (fadd (fmul (cn a) (cn d)) (fmul (cn b) (cn c))) w) := by
  refine calls_post fun R hR => ?_
  go_enter Try.func83, Try.ntmps83
  go_wp2
  exact ⟨_, _, rfl, fres_sub _ _ _ (by simp) (by simp), fres_add _ _ _ (by simp) (by simp), _, rfl⟩
theorem refturned_any (ha : a < 2 ^ 64) : Calls Try.prog 142 #[.float .f64 a] w (RealC (fneg (cn a)) w) := by
  refine calls_post fun R hR => ?_
  go_enter Try.func142, Try.ntmps142
  go_wp2
  exact ⟨_, rfl, is_turn ha, Drew.refl _⟩
theorem refsize_any (ha : a < 2 ^ 64) : Calls Try.prog 144 #[.float .f64 a] w (RealC (fabs (cn a)) w) := by
  refine calls_post fun R hR => ?_
  go_enter Try.func144, Try.ntmps144
  go_wp2
  exact ⟨_, rfl, is_size ha, Drew.refl _⟩
theorem refconj_any (ha : a < 2 ^ 64) (hb : b < 2 ^ 64) : Calls Try.prog 84 #[.complex .f64 a b] w (NumC (cn a) (fneg (cn b)) w) := by
  refine calls_post fun R hR => ?_
  go_enter Try.func84, Try.ntmps84
  go_wp2_with (first | (go_at_call 142; refine (refturned_any _ _ hb).mono ?_; rintro e w' ⟨r, rfl, hr, n, rfl⟩) | (go_at_call 141; refine (refof_any _ _ _).mono ?_; rintro e w' ⟨rfl, rfl⟩))
  exact ⟨_, _, rfl, ⟨ha, rfl⟩, hr, _, rfl⟩
theorem refsize1_any (ha : a < 2 ^ 64) (hb : b < 2 ^ 64) : Calls Try.prog 87 #[.complex .f64 a b] w (RealC (fadd (fabs (cn a)) (fabs (cn b))) w) := by
  refine calls_post fun R hR => ?_
  go_enter Try.func87, Try.ntmps87
  go_wp2_with (go_at_call 144; refine (refsize_any _ _ (by assumption)).mono ?_; rintro e w' ⟨r, rfl, hr, n, rfl⟩)
  rename_i r1 hr1 n1
  exact ⟨_, rfl, fres_add _ _ _ hr1.2 hr.2, _, rfl⟩
theorem number_any (x y : Nat) : Calls Try.prog 71 #[.agg #[.int .u64 x, .int .u64 y]] w (fun e w' => e = .returned (.complex .f64 x y) ∧ Below w.heap.size w w') := by
  refine calls_post fun R hR => ?_
  go_enter Try.func71, Try.ntmps71
  go_wp2
  go_region_held3 (fun w' => w'.cell? ⟨w.heap.size, 0, none⟩ = some (.int .u64 x) ∧ w'.cell? ⟨w.heap.size, 1, none⟩ = some (.int .u64 y)) (go_keep) (fail)
  go_wp2
  exact ⟨rfl, ((Below.refl _ _).alloc (Nat.le_refl _) _).drew⟩
end
end Go.Proofs.Try
