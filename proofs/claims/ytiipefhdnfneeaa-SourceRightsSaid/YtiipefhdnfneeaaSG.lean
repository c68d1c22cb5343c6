/- What drives no net; the law's pieces. -/
import Derived.Test.YtiipefhdnfneeaaSF
import Derived.Test.YtiipefhdnfneeaaB
import Derived.Test.YtiipefhdnfneeaaH
namespace Go.Proofs.Try
open Go.RowKit Go.Gw
set_option maxRecDepth 100000
set_option linter.unusedSimpArgs false
set_option linter.unusedVariables false

theorem right_nil (w : World) (s : ByteArray) : Calls Try.prog 35 #[.pointer none] w (ListF [] (1, -1) w) := by
  refine calls_post fun R hR => ?_
  have b0 : Below w.heap.size w (w.alloc (.cells #[.int .i64 0, .int .i64 0] 44)) := (Below.refl _ _).alloc (Nat.le_refl _) _
  have r0 := alloc_self w (.cells #[.int .i64 0, .int .i64 0] 44)
  have hn : Calls Try.prog 95 #[.pointer none] (w.alloc (.cells #[.int .i64 0, .int .i64 0] 44)) (fun e w' => e = .returned (.bool true) ∧ Below (w.alloc (.cells #[.int .i64 0, .int .i64 0] 44)).heap.size (w.alloc (.cells #[.int .i64 0, .int .i64 0] 44)) w') := (snone_nil _).mono (fun e w' ⟨he, hb⟩ => ⟨he, by first | exact hb | (rw [hb]; exact Below.refl _ _)⟩)
  go_enter Try.func35, Try.ntmps35
  go_wp2_with fail
  refine hn.mono ?_
  rintro e w1 ⟨rfl, b1⟩
  clear hn
  have r1 := (b1.block w.heap.size (by simp)).trans r0
  obtain ⟨t0, t1, tf⟩ := two_cells r1
  have B1 := below_call b0 b1 (by simp)
  have hlt : w.heap.size < w1.heap.size := (Array.getElem?_eq_some_iff.1 r1).1
  go_wp2
  refine bodyPost_ret (v := .tuple #[.slice none 0 0, .agg #[.int .i64 1, .int .i64 (-1)]]) ?_ rfl (hR _ _ ⟨_, [], rfl, by simp [Nums], rfl, World.ownsRow_nil _ _ _ _, ?_⟩)
  · simp [results, Try.results35, go_sem, World.cell?_setCell_same', t0, t1]
  · exact (B1.setCell (Nat.le_refl _) _).setCell (Nat.le_refl _) _
theorem driven_nil (w : World) (s : ByteArray) : Calls Try.prog 37 #[.pointer none, .string s] w (ListF [] (1, -1) w) := by
  refine calls_post fun R hR => ?_
  have b0 : Below w.heap.size w (w.alloc (.cells #[.int .i64 0, .int .i64 0] 44)) := (Below.refl _ _).alloc (Nat.le_refl _) _
  have r0 := alloc_self w (.cells #[.int .i64 0, .int .i64 0] 44)
  have hn : Calls Try.prog 95 #[.pointer none] (w.alloc (.cells #[.int .i64 0, .int .i64 0] 44)) (fun e w' => e = .returned (.bool true) ∧ Below (w.alloc (.cells #[.int .i64 0, .int .i64 0] 44)).heap.size (w.alloc (.cells #[.int .i64 0, .int .i64 0] 44)) w') := (snone_nil _).mono (fun e w' ⟨he, hb⟩ => ⟨he, by first | exact hb | (rw [hb]; exact Below.refl _ _)⟩)
  go_enter Try.func37, Try.ntmps37
  go_wp2_with fail
  refine hn.mono ?_
  rintro e w1 ⟨rfl, b1⟩
  clear hn
  have r1 := (b1.block w.heap.size (by simp)).trans r0
  obtain ⟨t0, t1, tf⟩ := two_cells r1
  have B1 := below_call b0 b1 (by simp)
  have hlt : w.heap.size < w1.heap.size := (Array.getElem?_eq_some_iff.1 r1).1
  go_wp2
  refine bodyPost_ret (v := .tuple #[.slice none 0 0, .agg #[.int .i64 1, .int .i64 (-1)]]) ?_ rfl (hR _ _ ⟨_, [], rfl, by simp [Nums], rfl, World.ownsRow_nil _ _ _ _, ?_⟩)
  · simp [results, Try.results37, go_sem, World.cell?_setCell_same', t0, t1]
  · exact (B1.setCell (Nat.le_refl _) _).setCell (Nat.le_refl _) _
theorem rright_nil (w : World) (s : ByteArray) : Calls Try.prog 36 #[.pointer none] w (ListF [] (1, -1) w) := by
  refine calls_post fun R hR => ?_
  have b0 : Below w.heap.size w (w.alloc (.cells #[.int .i64 0, .int .i64 0] 44)) := (Below.refl _ _).alloc (Nat.le_refl _) _
  have r0 := alloc_self w (.cells #[.int .i64 0, .int .i64 0] 44)
  have hn : Calls Try.prog 100 #[.pointer none] (w.alloc (.cells #[.int .i64 0, .int .i64 0] 44)) (fun e w' => e = .returned (.bool true) ∧ Below (w.alloc (.cells #[.int .i64 0, .int .i64 0] 44)).heap.size (w.alloc (.cells #[.int .i64 0, .int .i64 0] 44)) w') := (r19none_nil _).mono (fun e w' ⟨he, hb⟩ => ⟨he, by first | exact hb | (rw [hb]; exact Below.refl _ _)⟩)
  go_enter Try.func36, Try.ntmps36
  go_wp2_with fail
  refine hn.mono ?_
  rintro e w1 ⟨rfl, b1⟩
  clear hn
  have r1 := (b1.block w.heap.size (by simp)).trans r0
  obtain ⟨t0, t1, tf⟩ := two_cells r1
  have B1 := below_call b0 b1 (by simp)
  have hlt : w.heap.size < w1.heap.size := (Array.getElem?_eq_some_iff.1 r1).1
  go_wp2
  refine bodyPost_ret (v := .tuple #[.slice none 0 0, .agg #[.int .i64 1, .int .i64 (-1)]]) ?_ rfl (hR _ _ ⟨_, [], rfl, by simp [Nums], rfl, World.ownsRow_nil _ _ _ _, ?_⟩)
  · simp [results, Try.results36, go_sem, World.cell?_setCell_same', t0, t1]
  · exact (B1.setCell (Nat.le_refl _) _).setCell (Nat.le_refl _) _
theorem rdriven_nil (w : World) (s : ByteArray) : Calls Try.prog 38 #[.pointer none, .string s] w (ListF [] (1, -1) w) := by
  refine calls_post fun R hR => ?_
  have b0 : Below w.heap.size w (w.alloc (.cells #[.int .i64 0, .int .i64 0] 44)) := (Below.refl _ _).alloc (Nat.le_refl _) _
  have r0 := alloc_self w (.cells #[.int .i64 0, .int .i64 0] 44)
  have hn : Calls Try.prog 100 #[.pointer none] (w.alloc (.cells #[.int .i64 0, .int .i64 0] 44)) (fun e w' => e = .returned (.bool true) ∧ Below (w.alloc (.cells #[.int .i64 0, .int .i64 0] 44)).heap.size (w.alloc (.cells #[.int .i64 0, .int .i64 0] 44)) w') := (r19none_nil _).mono (fun e w' ⟨he, hb⟩ => ⟨he, by first | exact hb | (rw [hb]; exact Below.refl _ _)⟩)
  go_enter Try.func38, Try.ntmps38
  go_wp2_with fail
  refine hn.mono ?_
  rintro e w1 ⟨rfl, b1⟩
  clear hn
  have r1 := (b1.block w.heap.size (by simp)).trans r0
  obtain ⟨t0, t1, tf⟩ := two_cells r1
  have B1 := below_call b0 b1 (by simp)
  have hlt : w.heap.size < w1.heap.size := (Array.getElem?_eq_some_iff.1 r1).1
  go_wp2
  refine bodyPost_ret (v := .tuple #[.slice none 0 0, .agg #[.int .i64 1, .int .i64 (-1)]]) ?_ rfl (hR _ _ ⟨_, [], rfl, by simp [Nums], rfl, World.ownsRow_nil _ _ _ _, ?_⟩)
  · simp [results, Try.results38, go_sem, World.cell?_setCell_same', t0, t1]
  · exact (B1.setCell (Nat.le_refl _) _).setCell (Nat.le_refl _) _
/-- Where a net's pointer leads. -/
def NetPtr (w : World) (es : List El) (q : Option Addr) : Prop := (netFault es = (0, 0) ∧ ∃ p, q = some ⟨p, 0, none⟩ ∧ NetIs w p es) ∨ (netFault es ≠ (0, 0) ∧ q = none)
def RNetPtr (w : World) (es : List El) (q : Option Addr) : Prop := (netFault es = (0, 0) ∧ ∃ p, q = some ⟨p, 0, none⟩ ∧ RNetIs w p es) ∨ (netFault es ≠ (0, 0) ∧ q = none)
theorem NetPtr.below {w w' : World} {es : List El} {q : Option Addr} (h : NetPtr w es q) (hb : Below w.heap.size w w') : NetPtr w' es q := by
  rcases h with ⟨h1, p, h2, h3⟩ | h
  · exact Or.inl ⟨h1, p, h2, h3.below hb⟩
  · exact Or.inr h
theorem RNetPtr.below {w w' : World} {es : List El} {q : Option Addr} (h : RNetPtr w es q) (hb : Below w.heap.size w w') : RNetPtr w' es q := by
  rcases h with ⟨h1, p, h2, h3⟩ | h
  · exact Or.inl ⟨h1, p, h2, h3.below hb⟩
  · exact Or.inr h
theorem netPtr_of {w : World} {es : List El} {r : Value} (h : NetRes w es r) : ∃ q, r = .tuple #[.pointer q, .agg #[.int .i64 (netFault es).1, .int .i64 (netFault es).2]] ∧ NetPtr w es q := by
  rcases h with ⟨h1, p, rfl, h3⟩ | ⟨h1, rfl⟩
  · exact ⟨_, by rw [h1], Or.inl ⟨h1, p, rfl, h3⟩⟩
  · exact ⟨_, rfl, Or.inr ⟨h1, rfl⟩⟩
theorem rnetPtr_of {w : World} {es : List El} {r : Value} (h : RNetRes w es r) : ∃ q, r = .tuple #[.pointer q, .agg #[.int .i64 (netFault es).1, .int .i64 (netFault es).2]] ∧ RNetPtr w es q := by
  rcases h with ⟨h1, p, rfl, h3⟩ | ⟨h1, rfl⟩
  · exact ⟨_, by rw [h1], Or.inl ⟨h1, p, rfl, h3⟩⟩
  · exact ⟨_, rfl, Or.inr ⟨h1, rfl⟩⟩
/-- A net's pointer is nil just where the document's is. -/
theorem ptr_both {w w' : World} {es : List El} {q q' : Option Addr} (h : NetPtr w es q) (h' : RNetPtr w' es q') : (∃ p p', q = some ⟨p, 0, none⟩ ∧ q' = some ⟨p', 0, none⟩) ∨ (q = none ∧ q' = none) := by
  rcases h with ⟨h1, p, rfl, _⟩ | ⟨h1, rfl⟩ <;> rcases h' with ⟨h2, p', rfl, _⟩ | ⟨h2, rfl⟩
  · exact Or.inl ⟨p, p', rfl, rfl⟩
  · exact absurd h1 h2
  · exact absurd h2 h1
  · exact Or.inr ⟨rfl, rfl⟩
def orNil (es : List El) (x : List (Nat × Nat) × Int × Int) : List (Nat × Nat) × Int × Int := if netFault es = (0, 0) then x else ([], 1, -1)
theorem right_ptr (w : World) (es : List El) (q : Option Addr) (s : ByteArray) (h : NetPtr w es q) (hv : ∀ e ∈ es, e.val < 2 ^ 64) (hs : s.size ≤ maxLen) : Calls Try.prog 35 #[.pointer q] w (ListF (orNil es (rightOf es)).1 (orNil es (rightOf es)).2 w) := by
  rcases h with ⟨h0, p, rfl, h⟩ | ⟨h0, rfl⟩
  · unfold orNil; rw [if_pos h0]; exact right_net _ _ _ h (netOk h0) hv
  · unfold orNil; rw [if_neg h0]; exact right_nil _ ⟨#[]⟩
theorem rright_ptr (w : World) (es : List El) (q : Option Addr) (s : ByteArray) (h : RNetPtr w es q) (hv : ∀ e ∈ es, e.val < 2 ^ 64) (hs : s.size ≤ maxLen) : Calls Try.prog 36 #[.pointer q] w (ListF (orNil es (rightOf es)).1 (orNil es (rightOf es)).2 w) := by
  rcases h with ⟨h0, p, rfl, h⟩ | ⟨h0, rfl⟩
  · unfold orNil; rw [if_pos h0]; exact rright_net _ _ _ h (netOk h0) hv
  · unfold orNil; rw [if_neg h0]; exact rright_nil _ ⟨#[]⟩
theorem driven_ptr (w : World) (es : List El) (q : Option Addr) (s : ByteArray) (h : NetPtr w es q) (hv : ∀ e ∈ es, e.val < 2 ^ 64) (hs : s.size ≤ maxLen) : Calls Try.prog 37 #[.pointer q, .string s] w (ListF (orNil es (drivenOf es s)).1 (orNil es (drivenOf es s)).2 w) := by
  rcases h with ⟨h0, p, rfl, h⟩ | ⟨h0, rfl⟩
  · unfold orNil; rw [if_pos h0]; exact driven_net _ _ _ _ h (netOk h0) hv hs
  · unfold orNil; rw [if_neg h0]; exact driven_nil _ _
theorem rdriven_ptr (w : World) (es : List El) (q : Option Addr) (s : ByteArray) (h : RNetPtr w es q) (hv : ∀ e ∈ es, e.val < 2 ^ 64) (hs : s.size ≤ maxLen) : Calls Try.prog 38 #[.pointer q, .string s] w (ListF (orNil es (drivenOf es s)).1 (orNil es (drivenOf es s)).2 w) := by
  rcases h with ⟨h0, p, rfl, h⟩ | ⟨h0, rfl⟩
  · unfold orNil; rw [if_pos h0]; exact rdriven_net _ _ _ _ h (netOk h0)
  · unfold orNil; rw [if_neg h0]; exact rdriven_nil _ _
theorem rightFrom_length (N K : List ByteArray) : ∀ (es : List El) (l : List (Nat × Nat)) (k : Nat), (rightFrom N K l k es).1.length ≤ l.length := by
  intro es
  induction es with
  | nil => intro l k; exact Nat.le_refl _
  | cons e es ih =>
    intro l k
    rw [rightFrom]
    split
    · have := ih (rightStep N K l e) (k + 1)
      rwa [rightStep_length] at this
    · simp
theorem orNil_right (es : List El) : (orNil es (rightOf es)).1.length ≤ 1000 := by
  unfold orNil
  split
  · rename_i h
    have hk := netOk h
    have h1 := rightFrom_length (nodesOf es) (branchesOf es) es (List.replicate ((nodesOf es).length + (branchesOf es).length) (0, 0)) 0
    have h2 := hk.order
    rw [List.length_replicate] at h1
    unfold rightOf; omega
  · simp
theorem orNil_driven (es : List El) (s : ByteArray) : (orNil es (drivenOf es s)).1.length ≤ 1000 := by
  unfold orNil
  split
  · rename_i h
    have hk := netOk h
    have h2 := hk.order
    unfold drivenOf
    split
    · simp only [stepAt_length, zeros, List.length_replicate]; omega
    · simp
  · simp
/-- A fault's two cells. -/
def FCell (w : World) (b : Nat) (f : Int × Int) : Prop := w.heap[b]? = some (.cells #[.int .i64 f.1, .int .i64 f.2] 44)
theorem FCell.below {w w' : World} {b : Nat} {f : Int × Int} (h : FCell w b f) (hb : Below w.heap.size w w') : FCell w' b f := (hb.block _ (Array.getElem?_eq_some_iff.1 h).1).trans h
theorem FCell.cells {w : World} {b : Nat} {f : Int × Int} (h : FCell w b f) : w.cell? ⟨b, 0, none⟩ = some (.int .i64 f.1) ∧ w.cell? ⟨b, 1, none⟩ = some (.int .i64 f.2) := by
  obtain ⟨h1, h2, _⟩ := two_cells h; exact ⟨h1, h2⟩
theorem fcell_new (w : World) (f : Int × Int) : FCell (w.alloc (.cells #[.int .i64 f.1, .int .i64 f.2] 44)) w.heap.size f := alloc_self _ _
theorem below_alloc (w : World) (o : Obj) : Below w.heap.size w (w.alloc o) := (Below.refl _ _).alloc (Nat.le_refl _) _
theorem drew_below {a b : World} (h : Drew a b) : Below a.heap.size a b := h.below _
def three (a b c : Value) (j : Nat) : Value := match j with | 0 => a | 1 => b | _ => c
def three' {α : Type} (a b c : α) (j : Nat) : α := match j with | 0 => a | 1 => b | _ => c
theorem lt3 {j : Nat} (h : j < 3) : j = 0 ∨ j = 1 ∨ j = 2 := by omega
end Go.Proofs.Try
