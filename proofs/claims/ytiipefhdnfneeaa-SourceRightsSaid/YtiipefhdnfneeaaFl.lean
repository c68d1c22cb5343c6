/-
  Floats up to NaN: canonical words, the operations as plain functions, and what one step of the model does.
-/
import Derived.WalkKit
import Derived.WalkLawsBesides
import Derived.WalkSpells
import Derived.Laws.BitsAllLaws
import Derived.Below
import Derived.Laws.Entries
set_option linter.unusedSimpArgs false
set_option linter.unusedVariables false
namespace Go.Gw
open Ieee

/-- Is a word a NaN's? -/
def isNan (b : Nat) : Bool := (Ieee.double.read b).isNaN
/-- The one word that stands for all NaNs. -/
def nan0 : Nat := 0x7ff8000000000001
/-- A word, all NaNs made one. -/
def cn (b : Nat) : Nat := if isNan b then nan0 else b

def fadd (x y : Nat) : Nat := (Ieee.double.add x y).getD nan0
def fsub (x y : Nat) : Nat := (Ieee.double.sub x y).getD nan0
def fmul (x y : Nat) : Nat := (Ieee.double.mul x y).getD nan0
def fdiv (x y : Nat) : Nat := (Ieee.double.div x y).getD nan0
def ffma (x y z : Nat) : Nat := (Ieee.double.fma x y z).getD nan0
def fsqrt (x : Nat) : Nat := (Ieee.double.sqrt x).getD nan0
def fneg (x : Nat) : Nat := cn (x ^^^ 2 ^ 63)
def feq (x y : Nat) : Bool := Ieee.double.order x y == some .eq
def flt (x y : Nat) : Bool := Ieee.double.order x y == some .lt
def fle (x y : Nat) : Bool := Ieee.double.order x y == some .lt || Ieee.double.order x y == some .eq
def fop (op : BinOp) (x y : Nat) : Nat :=
  match op with
  | .add => fadd x y | .sub => fsub x y | .mul => fmul x y | .quo => fdiv x y | _ => 0

theorem isNan_nan0 : isNan nan0 = true := by decide +kernel
theorem cn_of_nan {b : Nat} (h : isNan b = true) : cn b = nan0 := by simp [cn, h]
theorem cn_of_not {b : Nat} (h : isNan b = false) : cn b = b := by simp [cn, h]
theorem isNan_cn (b : Nat) : isNan (cn b) = isNan b := by
  cases h : isNan b
  · rw [cn_of_not h, h]
  · rw [cn_of_nan h, isNan_nan0]
theorem cn_cn (b : Nat) : cn (cn b) = cn b := by
  cases h : isNan b
  · rw [cn_of_not h, cn_of_not h]
  · rw [cn_of_nan h, cn_of_nan isNan_nan0]
theorem cn_nan0 : cn nan0 = nan0 := cn_of_nan isNan_nan0

theorem sum_nan_left {d e : Datum} (h : d.isNaN = true) : d.sum e = none := by
  cases d <;> simp [Datum.isNaN] at h <;> rfl
theorem sum_nan_right {d e : Datum} (h : e.isNaN = true) : d.sum e = none := by
  cases e <;> simp [Datum.isNaN] at h; cases d <;> rfl
theorem product_nan_left {d e : Datum} (h : d.isNaN = true) : d.product e = none := by
  cases d <;> simp [Datum.isNaN] at h <;> rfl
theorem product_nan_right {d e : Datum} (h : e.isNaN = true) : d.product e = none := by
  cases e <;> simp [Datum.isNaN] at h; cases d <;> rfl
theorem quotient_nan_left {k : Nat} {d e : Datum} (h : d.isNaN = true) : d.quotient k e = none := by
  cases d <;> simp [Datum.isNaN] at h <;> rfl
theorem quotient_nan_right {k : Nat} {d e : Datum} (h : e.isNaN = true) : d.quotient k e = none := by
  cases e <;> simp [Datum.isNaN] at h; cases d <;> rfl
theorem order_nan_left {d e : Datum} (h : d.isNaN = true) : d.order e = none := by
  cases d <;> simp [Datum.isNaN] at h <;> rfl
theorem order_nan_right {d e : Datum} (h : e.isNaN = true) : d.order e = none := by
  cases e <;> simp [Datum.isNaN] at h; cases d <;> rfl
theorem root_nan {k : Nat} {d : Datum} (h : d.isNaN = true) : d.root k = none := by
  cases d <;> simp [Datum.isNaN] at h <;> rfl
theorem opposite_isNaN (d : Datum) : d.opposite.isNaN = d.isNaN := by cases d <;> rfl

theorem add_nan_left {x y : Nat} (h : isNan x = true) : Ieee.double.add x y = none := by
  unfold Format.add; rw [sum_nan_left h]; rfl
theorem add_nan_right {x y : Nat} (h : isNan y = true) : Ieee.double.add x y = none := by
  unfold Format.add; rw [sum_nan_right h]; rfl
theorem sub_nan_left {x y : Nat} (h : isNan x = true) : Ieee.double.sub x y = none := by
  unfold Format.sub; rw [sum_nan_left h]; rfl
theorem sub_nan_right {x y : Nat} (h : isNan y = true) : Ieee.double.sub x y = none := by
  unfold Format.sub; rw [sum_nan_right (by rw [opposite_isNaN]; exact h)]; rfl
theorem mul_nan_left {x y : Nat} (h : isNan x = true) : Ieee.double.mul x y = none := by
  unfold Format.mul; rw [product_nan_left h]; rfl
theorem mul_nan_right {x y : Nat} (h : isNan y = true) : Ieee.double.mul x y = none := by
  unfold Format.mul; rw [product_nan_right h]; rfl
theorem div_nan_left {x y : Nat} (h : isNan x = true) : Ieee.double.div x y = none := by
  unfold Format.div; rw [quotient_nan_left h]; rfl
theorem div_nan_right {x y : Nat} (h : isNan y = true) : Ieee.double.div x y = none := by
  unfold Format.div; rw [quotient_nan_right h]; rfl
theorem ord_nan_left {x y : Nat} (h : isNan x = true) : Ieee.double.order x y = none := order_nan_left h
theorem ord_nan_right {x y : Nat} (h : isNan y = true) : Ieee.double.order x y = none := order_nan_right h
theorem sqrt_nan {x : Nat} (h : isNan x = true) : Ieee.double.sqrt x = none := by
  unfold Format.sqrt; rw [root_nan h]; rfl
theorem fma_nan_1 {x y z : Nat} (h : isNan x = true) : Ieee.double.fma x y z = none := by
  unfold Format.fma; rw [product_nan_left h]; rfl
theorem fma_nan_2 {x y z : Nat} (h : isNan y = true) : Ieee.double.fma x y z = none := by
  unfold Format.fma; rw [product_nan_right h]; rfl
theorem fma_nan_3 {x y z : Nat} (h : isNan z = true) : Ieee.double.fma x y z = none := by
  unfold Format.fma
  cases (double.read x).product (double.read y) with
  | none => rfl
  | some d => simp only [Option.bind_some]; rw [sum_nan_right h]; rfl

theorem cn_both (f : Nat → Nat → Option Nat) (hl : ∀ {x y}, isNan x = true → f x y = none) (hr : ∀ {x y}, isNan y = true → f x y = none) (x y : Nat) :
    f (cn x) (cn y) = f x y := by
  cases hx : isNan x
  · rw [cn_of_not hx]
    cases hy : isNan y
    · rw [cn_of_not hy]
    · rw [cn_of_nan hy, hr hy, hr isNan_nan0]
  · rw [cn_of_nan hx, hl hx, hl isNan_nan0]

theorem add_cn (x y : Nat) : Ieee.double.add (cn x) (cn y) = Ieee.double.add x y := cn_both _ add_nan_left add_nan_right x y
theorem sub_cn (x y : Nat) : Ieee.double.sub (cn x) (cn y) = Ieee.double.sub x y := cn_both _ sub_nan_left sub_nan_right x y
theorem mul_cn (x y : Nat) : Ieee.double.mul (cn x) (cn y) = Ieee.double.mul x y := cn_both _ mul_nan_left mul_nan_right x y
theorem div_cn (x y : Nat) : Ieee.double.div (cn x) (cn y) = Ieee.double.div x y := cn_both _ div_nan_left div_nan_right x y
theorem order_cn (x y : Nat) : Ieee.double.order (cn x) (cn y) = Ieee.double.order x y := by
  cases hx : isNan x
  · rw [cn_of_not hx]
    cases hy : isNan y
    · rw [cn_of_not hy]
    · rw [cn_of_nan hy, ord_nan_right hy, ord_nan_right isNan_nan0]
  · rw [cn_of_nan hx, ord_nan_left hx, ord_nan_left isNan_nan0]
theorem sqrt_cn (x : Nat) : Ieee.double.sqrt (cn x) = Ieee.double.sqrt x := by
  cases hx : isNan x
  · rw [cn_of_not hx]
  · rw [cn_of_nan hx, sqrt_nan hx, sqrt_nan isNan_nan0]
theorem fma_cn (x y z : Nat) : Ieee.double.fma (cn x) (cn y) (cn z) = Ieee.double.fma x y z := by
  cases hx : isNan x
  · rw [cn_of_not hx]
    cases hy : isNan y
    · rw [cn_of_not hy]
      cases hz : isNan z
      · rw [cn_of_not hz]
      · rw [cn_of_nan hz, fma_nan_3 hz, fma_nan_3 isNan_nan0]
    · rw [cn_of_nan hy, fma_nan_2 hy, fma_nan_2 isNan_nan0]
  · rw [cn_of_nan hx, fma_nan_1 hx, fma_nan_1 isNan_nan0]

/-! ### What is written is no NaN -/
theorem double_sign : double.signWeight = 9223372036854775808 := by decide +kernel
theorem double_inf : double.infRung = 9218868437227405312 := by decide +kernel
theorem double_binade : double.binade = 4503599627370496 := by decide +kernel

theorem isNan_word (s : Bool) (r : Nat) (h : r ≤ double.infRung) : isNan (double.word s r) = false := by
  have hs := double_sign
  have hi := double_inf
  have hm : double.word s r % double.signWeight = r := by
    unfold Format.word
    rw [hs]; rw [hi] at h
    cases s
    · simp only [Bool.false_eq_true, if_false]; omega
    · simp only [if_true]; omega
  unfold isNan Format.read
  rw [hm]
  dsimp only
  split
  · rfl
  · split
    · rfl
    · split
      · rfl
      · omega

theorem isNan_write {d : Datum} (h : d.isNaN = false) : isNan (double.write d) = false := by
  cases d with
  | number s m p =>
    simp only [Format.write, Format.nearest]
    split
    · exact isNan_word _ _ (Nat.zero_le _)
    · exact isNan_word _ _ (Nat.min_le_right _ _)
  | infinity s => exact isNan_word _ _ (Nat.le_refl _)
  | nan s f => cases h

theorem sum_not_nan {d e r : Datum} (h : d.sum e = some r) : r.isNaN = false := by
  cases d <;> cases e <;> simp [Datum.sum] at h
  all_goals first | (subst h; rfl) | (obtain ⟨_, h⟩ := h; subst h; rfl)
theorem product_not_nan {d e r : Datum} (h : d.product e = some r) : r.isNaN = false := by
  cases d <;> cases e <;> simp [Datum.product] at h
  all_goals first | (subst h; rfl) | (obtain ⟨_, h⟩ := h; subst h; rfl)
theorem quotient_not_nan {k : Nat} {d e r : Datum} (h : d.quotient k e = some r) : r.isNaN = false := by
  cases d <;> cases e <;> simp [Datum.quotient] at h
  · split at h
    · split at h
      · cases h
      · cases h; rfl
    · cases h; rfl
  all_goals subst h; rfl
theorem root_not_nan {k : Nat} {d r : Datum} (h : d.root k = some r) : r.isNaN = false := by
  cases d <;> simp [Datum.root] at h
  · split at h
    · cases h; rfl
    · split at h
      · cases h
      · cases h; rfl
  · obtain ⟨_, h⟩ := h; subst h; rfl

theorem lt64 {r : Nat} (h : r < 2 ^ double.width) : r < 2 ^ 64 := h

theorem isNan_add {x y r : Nat} (h : double.add x y = some r) : isNan r = false := by
  unfold Format.add at h
  cases hd : (double.read x).sum (double.read y) with
  | none => rw [hd] at h; cases h
  | some d => rw [hd] at h; cases h; exact isNan_write (sum_not_nan hd)
theorem isNan_sub {x y r : Nat} (h : double.sub x y = some r) : isNan r = false := by
  unfold Format.sub at h
  cases hd : (double.read x).sum (double.read y).opposite with
  | none => rw [hd] at h; cases h
  | some d => rw [hd] at h; cases h; exact isNan_write (sum_not_nan hd)
theorem isNan_mul {x y r : Nat} (h : double.mul x y = some r) : isNan r = false := by
  unfold Format.mul at h
  cases hd : (double.read x).product (double.read y) with
  | none => rw [hd] at h; cases h
  | some d => rw [hd] at h; cases h; exact isNan_write (product_not_nan hd)
theorem isNan_div {x y r : Nat} (h : double.div x y = some r) : isNan r = false := by
  unfold Format.div at h
  cases hd : (double.read x).quotient (double.fractionBits + 2) (double.read y) with
  | none => rw [hd] at h; cases h
  | some d => rw [hd] at h; cases h; exact isNan_write (quotient_not_nan hd)
theorem isNan_sqrt {x r : Nat} (h : double.sqrt x = some r) : isNan r = false := by
  unfold Format.sqrt at h
  cases hd : (double.read x).root (double.fractionBits + 2) with
  | none => rw [hd] at h; cases h
  | some d => rw [hd] at h; cases h; exact isNan_write (root_not_nan hd)
theorem isNan_fma {x y z r : Nat} (h : double.fma x y z = some r) : isNan r = false := by
  unfold Format.fma at h
  cases hd : ((double.read x).product (double.read y)).bind (·.sum (double.read z)) with
  | none => rw [hd] at h; cases h
  | some d =>
    rw [hd] at h; cases h
    cases hp : (double.read x).product (double.read y) with
    | none => rw [hp] at hd; cases hd
    | some e => rw [hp] at hd; exact isNan_write (sum_not_nan hd)

/-- The NaN that the tape gives is a NaN. -/
theorem isNan_cut (x y t : Nat) : isNan ((Question.nanBits .f64 x y).cut t) = true ∧ (Question.nanBits .f64 x y).cut t < 2 ^ 64 := by
  have hs := double_sign
  have hi := double_inf
  have hb := double_binade
  simp only [Question.cut]
  have h1 : (t / 2) % (2 ^ 52 - 1) < 2 ^ 52 - 1 := Nat.mod_lt _ (by decide)
  have h2 : t % 2 < 2 := Nat.mod_lt _ (by decide)
  generalize (t / 2) % (2 ^ 52 - 1) = u at h1
  generalize t % 2 = v at h2
  constructor
  · unfold isNan Format.read
    rw [hs, hi, hb]
    have hm : (v * 2 ^ 63 + 9218868437227405312 + 1 + u) % 9223372036854775808 = 9218868437227405312 + 1 + u := by omega
    have e : v * 2 ^ 63 + 0x7ff0000000000000 + 1 + u = v * 2 ^ 63 + 9218868437227405312 + 1 + u := by omega
    rw [e, hm]
    dsimp only
    rw [if_neg (by omega), if_neg (by omega), if_neg (by omega)]
    rfl
  · omega

/-- What an operation on two reals answers: 'r' stands for the plain function's word. -/
def Is (r x : Nat) : Prop := r < 2 ^ 64 ∧ cn r = x

theorem floatArith_spec (op : BinOp) (hop : op = .add ∨ op = .sub ∨ op = .mul ∨ op = .quo) (x y : Nat) (P : Program) (w : World) :
    ∃ r n, (Op.floatArith op .f64 x y).run P w = .ok (.float .f64 r) (w.drewN n) ∧ Is r (fop op (cn x) (cn y)) := by
  have key : ∀ (o : Option Nat), (∀ r, o = some r → isNan r = false ∧ r < 2 ^ 64) → 
      ∃ r n, ((match o with
        | some r => pure (.float .f64 r)
        | none => do pure (Value.float .f64 (← choose (.nanBits .f64 x y))) : Sem Value)).run P w = .ok (.float .f64 r) (w.drewN n) ∧ Is r (o.getD nan0) := by
    intro o ho
    cases o with
    | some r => exact ⟨r, 0, by simp [World.drewN], (ho r rfl).2, cn_of_not (ho r rfl).1⟩
    | none =>
      refine ⟨(Question.nanBits .f64 x y).cut (w.tape w.drawn (.nanBits .f64 x y)), 1, ?_, ?_⟩
      · simp [choose, Sem.run, Question.forced, World.drewN]
      · exact ⟨(isNan_cut _ _ _).2, cn_of_nan (isNan_cut _ _ _).1⟩
  rcases hop with rfl | rfl | rfl | rfl
  · simp only [fop, fadd, add_cn]
    exact key (double.add x y) (fun r h => ⟨isNan_add h, lt64 (double.add_lt h)⟩)
  · simp only [fop, fsub, sub_cn]
    exact key (double.sub x y) (fun r h => ⟨isNan_sub h, lt64 (double.sub_lt h)⟩)
  · simp only [fop, fmul, mul_cn]
    exact key (double.mul x y) (fun r h => ⟨isNan_mul h, lt64 (double.mul_lt h)⟩)
  · simp only [fop, fdiv, div_cn]
    exact key (double.div x y) (fun r h => ⟨isNan_div h, lt64 (double.div_lt h)⟩)

@[go_sem] theorem run_store_real (P : Program) (w : World) (a : Addr) (m : Mode) (k : FloatKind) (b : Nat) : (store a (.float k b) m).run P w = stored P w a (.float k b) m := run_store P w a _ m rfl
@[go_sem] theorem run_store_number (P : Program) (w : World) (a : Addr) (m : Mode) (k : FloatKind) (x y : Nat) : (store a (.complex k x y) m).run P w = stored P w a (.complex k x y) m := run_store P w a _ m rfl
theorem one1 {u : Value} (h : u.oneCell' = true) : ∀ x ∈ [u], x.oneCell' = true := by
  intro x hx; rw [List.mem_singleton.1 hx]; exact h

/-- The word that an operation answers in a world. -/
def fres (op : BinOp) (x y : Nat) (w : World) : Nat :=
  let c := (Question.nanBits .f64 x y).cut (w.tape w.drawn (.nanBits .f64 x y))
  match op with
  | .add => (double.add x y).getD c | .sub => (double.sub x y).getD c | .mul => (double.mul x y).getD c | .quo => (double.div x y).getD c
  | _ => 0
/-- How many answers it draws. -/
def fdr (op : BinOp) (x y : Nat) : Nat :=
  match op with
  | .add => if (double.add x y).isSome then 0 else 1 | .sub => if (double.sub x y).isSome then 0 else 1
  | .mul => if (double.mul x y).isSome then 0 else 1 | .quo => if (double.div x y).isSome then 0 else 1
  | _ => 0

section
variable {P : Program} (w : World) (x y : Nat) (t : TypeId)
theorem run_choose_nan : (choose (.nanBits .f64 x y) : Sem Nat).run P w = .ok ((Question.nanBits .f64 x y).cut (w.tape w.drawn (.nanBits .f64 x y))) (w.drewN 1) := rfl
@[go_sem] theorem run_fadd : (binOp .add t (.float .f64 x) (.float .f64 y)).run P w = .ok (.float .f64 (fres .add x y w)) (w.drewN (fdr .add x y)) := by
  have e : FloatKind.f64.format = double := rfl
  cases h : double.add x y
  · simp [binOp, Op.floatArith, fres, fdr, e, h]; rfl
  · simp [binOp, Op.floatArith, fres, fdr, e, h]; rfl
@[go_sem] theorem run_fsub : (binOp .sub t (.float .f64 x) (.float .f64 y)).run P w = .ok (.float .f64 (fres .sub x y w)) (w.drewN (fdr .sub x y)) := by
  have e : FloatKind.f64.format = double := rfl
  cases h : double.sub x y
  · simp [binOp, Op.floatArith, fres, fdr, e, h]; rfl
  · simp [binOp, Op.floatArith, fres, fdr, e, h]; rfl
@[go_sem] theorem run_fmul : (binOp .mul t (.float .f64 x) (.float .f64 y)).run P w = .ok (.float .f64 (fres .mul x y w)) (w.drewN (fdr .mul x y)) := by
  have e : FloatKind.f64.format = double := rfl
  cases h : double.mul x y
  · simp [binOp, Op.floatArith, fres, fdr, e, h]; rfl
  · simp [binOp, Op.floatArith, fres, fdr, e, h]; rfl
@[go_sem] theorem run_fdiv : (binOp .quo t (.float .f64 x) (.float .f64 y)).run P w = .ok (.float .f64 (fres .quo x y w)) (w.drewN (fdr .quo x y)) := by
  have e : FloatKind.f64.format = double := rfl
  cases h : double.div x y
  · simp [binOp, Op.floatArith, fres, fdr, e, h]; rfl
  · simp [binOp, Op.floatArith, fres, fdr, e, h]; rfl

theorem getD_is (o : Option Nat) (c z : Nat) (ho : ∀ r, o = some r → isNan r = false ∧ r < 2 ^ 64) (hc : isNan c = true ∧ c < 2 ^ 64) (hz : o.getD nan0 = z) : Is (o.getD c) z := by
  subst hz
  cases o with
  | some r => exact ⟨(ho r rfl).2, cn_of_not (ho r rfl).1⟩
  | none => exact ⟨hc.2, cn_of_nan hc.1⟩
theorem fres_add {X Y : Nat} (hx : cn x = X) (hy : cn y = Y) : Is (fres .add x y w) (fadd X Y) := by
  subst hx; subst hy
  exact getD_is _ _ _ (fun r h => ⟨isNan_add h, lt64 (double.add_lt h)⟩) (isNan_cut _ _ _) (by rw [fadd, add_cn])
theorem fres_sub {X Y : Nat} (hx : cn x = X) (hy : cn y = Y) : Is (fres .sub x y w) (fsub X Y) := by
  subst hx; subst hy
  exact getD_is _ _ _ (fun r h => ⟨isNan_sub h, lt64 (double.sub_lt h)⟩) (isNan_cut _ _ _) (by rw [fsub, sub_cn])
theorem fres_mul {X Y : Nat} (hx : cn x = X) (hy : cn y = Y) : Is (fres .mul x y w) (fmul X Y) := by
  subst hx; subst hy
  exact getD_is _ _ _ (fun r h => ⟨isNan_mul h, lt64 (double.mul_lt h)⟩) (isNan_cut _ _ _) (by rw [fmul, mul_cn])
theorem fres_div {X Y : Nat} (hx : cn x = X) (hy : cn y = Y) : Is (fres .quo x y w) (fdiv X Y) := by
  subst hx; subst hy
  exact getD_is _ _ _ (fun r h => ⟨isNan_div h, lt64 (double.div_lt h)⟩) (isNan_cut _ _ _) (by rw [fdiv, div_cn])
@[simp] theorem cn_fres_add : cn (fres .add x y w) = fadd (cn x) (cn y) := (fres_add w x y rfl rfl).2
@[simp] theorem cn_fres_sub : cn (fres .sub x y w) = fsub (cn x) (cn y) := (fres_sub w x y rfl rfl).2
@[simp] theorem cn_fres_mul : cn (fres .mul x y w) = fmul (cn x) (cn y) := (fres_mul w x y rfl rfl).2
@[simp] theorem cn_fres_div : cn (fres .quo x y w) = fdiv (cn x) (cn y) := (fres_div w x y rfl rfl).2
@[simp] theorem fres_add_lt : fres .add x y w < 2 ^ 64 := (fres_add w x y rfl rfl).1
@[simp] theorem fres_sub_lt : fres .sub x y w < 2 ^ 64 := (fres_sub w x y rfl rfl).1
@[simp] theorem fres_mul_lt : fres .mul x y w < 2 ^ 64 := (fres_mul w x y rfl rfl).1
@[simp] theorem fres_div_lt : fres .quo x y w < 2 ^ 64 := (fres_div w x y rfl rfl).1
end

/-- The world has drawn, no more. -/
def Drew (w w' : World) : Prop := ∃ n, w.drewN n = w'
theorem Drew.refl (w : World) : Drew w w := ⟨0, rfl⟩
theorem Drew.trans {a b c : World} (h : Drew a b) (k : Drew b c) : Drew a c := by
  obtain ⟨n, rfl⟩ := h; obtain ⟨m, rfl⟩ := k; exact ⟨n + m, (World.drewN_drewN _ _ _).symm⟩
theorem Drew.drewN {a b : World} (h : Drew a b) (n : Nat) : Drew a (b.drewN n) := h.trans ⟨n, rfl⟩
theorem Drew.drew {a b : World} (h : Drew a b) : Drew a b.drew := h.trans ⟨1, rfl⟩
theorem Drew.below {a b : World} (h : Drew a b) (B : Nat) : RowKit.Below B a b := by
  obtain ⟨n, rfl⟩ := h; exact ⟨rfl, rfl, rfl, Nat.le_refl _, fun _ _ => rfl⟩
theorem Drew.heap {a b : World} (h : Drew a b) : b.heap = a.heap := by
  obtain ⟨n, rfl⟩ := h; rfl

/-! ### Bits of a word -/
theorem isNan_mod {a b : Nat} (h : a % double.signWeight = b % double.signWeight) : isNan a = isNan b := by
  unfold isNan Format.read
  rw [h]
  dsimp only
  split
  · rfl
  · split
    · rfl
    · split <;> rfl
theorem xor_sign_mod (b : Nat) : (b ^^^ 2 ^ 63) % double.signWeight = b % double.signWeight := by
  rw [double_sign]
  show (b ^^^ 2 ^ 63) % 2 ^ 63 = b % 2 ^ 63
  rw [Nat.xor_mod_two_pow]; simp
theorem isNan_neg (b : Nat) : isNan (b ^^^ 2 ^ 63) = isNan b := isNan_mod (xor_sign_mod b)
theorem cn_neg (b : Nat) : cn (b ^^^ 2 ^ 63) = fneg (cn b) := by
  unfold fneg
  cases h : isNan b
  · rw [cn_of_not h]
  · rw [cn_of_nan h, cn_of_nan (by rw [isNan_neg]; exact h), cn_of_nan (by rw [isNan_neg]; exact isNan_nan0)]
theorem neg_lt {b : Nat} (h : b < 2 ^ 64) : b ^^^ 2 ^ 63 < 2 ^ 64 := Nat.xor_lt_two_pow h (by decide)

/-- A real without its sign. -/
def fabs (x : Nat) : Nat := cn (x % 2 ^ 63)
theorem isNan_abs (b : Nat) : isNan (b % 2 ^ 63) = isNan b := isNan_mod (by rw [double_sign]; show b % 2 ^ 63 % 2 ^ 63 = b % 2 ^ 63; omega)
theorem cn_abs (b : Nat) : cn (b % 2 ^ 63) = fabs (cn b) := by
  unfold fabs
  cases h : isNan b
  · rw [cn_of_not h]
  · rw [cn_of_nan h, cn_of_nan (by rw [isNan_abs]; exact h), cn_of_nan (by rw [isNan_abs]; exact isNan_nan0)]

theorem order_of {x y X Y : Nat} (hx : cn x = X) (hy : cn y = Y) : double.order x y = double.order X Y := by
  rw [← hx, ← hy, order_cn]

theorem order_self (d : Datum) : d.order d = if d.isNaN then none else some .eq := by
  cases d with
  | number s m e => simp [Datum.order, Datum.isNaN]
  | infinity s => cases s <;> rfl
  | nan s f => rfl
theorem ord_self (a : Nat) : double.order a a = if isNan a then none else some .eq := order_self _
theorem neq_self (a : Nat) : (double.order a a != some .eq) = isNan a := by
  rw [ord_self]; cases isNan a <;> rfl
theorem bits_turn {a : Nat} (h : a < 2 ^ 64) : bits .xor .u64 (a : Int) 9223372036854775808 = ((a ^^^ 2 ^ 63 : Nat) : Int) :=
  u64_xor_nat a 9223372036854775808 h (by decide)
theorem bits_size {a : Nat} (h : a < 2 ^ 64) : bits .andNot .u64 (a : Int) 9223372036854775808 = ((a % 2 ^ 63 : Nat) : Int) := by
  rw [← Nat.and_two_pow_sub_one_eq_mod a 63]
  exact u64_andNot_nat a 9223372036854775808 h (by decide)

theorem format_f64 : FloatKind.f64.format = double := rfl
theorem same_bool (a b : Nat) : (((a : Int) == (b : Int)) || (double.order a a != some .eq && double.order b b != some .eq)) = (cn a == cn b) := by
  rw [neq_self, neq_self]
  have e : ((a : Int) == (b : Int)) = (a == b) := by
    by_cases h : a = b
    · subst h; simp
    · rw [beq_eq_false_iff_ne.2 h]; exact beq_eq_false_iff_ne.2 (by omega)
  rw [e]
  cases ha : isNan a
  · rw [cn_of_not ha]
    cases hb : isNan b
    · rw [cn_of_not hb]; simp
    · rw [cn_of_nan hb]
      have h1 : a ≠ b := by rintro rfl; rw [ha] at hb; cases hb
      have h2 : a ≠ nan0 := by rintro rfl; rw [isNan_nan0] at ha; cases ha
      rw [beq_eq_false_iff_ne.2 h1, beq_eq_false_iff_ne.2 h2]; simp
  · rw [cn_of_nan ha]
    cases hb : isNan b
    · rw [cn_of_not hb]
      have h1 : a ≠ b := by rintro rfl; rw [ha] at hb; cases hb
      have h2 : nan0 ≠ b := by rintro rfl; rw [isNan_nan0] at hb; cases hb
      rw [beq_eq_false_iff_ne.2 h1, beq_eq_false_iff_ne.2 h2]; simp
    · rw [cn_of_nan hb]; simp
theorem same_bits {a b : Nat} : (a = b ∨ isNan a = true ∧ isNan b = true) ↔ cn a = cn b := by
  constructor
  · rintro (rfl | ⟨h1, h2⟩)
    · rfl
    · rw [cn_of_nan h1, cn_of_nan h2]
  · intro h
    cases ha : isNan a
    · cases hb : isNan b
      · rw [cn_of_not ha, cn_of_not hb] at h; exact .inl h
      · have := congrArg isNan h; rw [isNan_cn, isNan_cn, ha, hb] at this; cases this
    · cases hb : isNan b
      · have := congrArg isNan h; rw [isNan_cn, isNan_cn, ha, hb] at this; cases this
      · exact .inr ⟨rfl, rfl⟩

end Go.Gw
