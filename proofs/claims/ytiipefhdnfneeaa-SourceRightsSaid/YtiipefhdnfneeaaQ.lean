/- Contracts of package value, and of its reference: Check. -/
import Derived.Test.YtiipefhdnfneeaaP
import Derived.Deep.CutRange
import Derived.Deep.RegionHeld3
namespace Go.Proofs.Try
open Go.RowKit Go.Gw
set_option maxRecDepth 100000
set_option linter.unusedSimpArgs false
set_option linter.unusedVariables false

/-- Are two texts the same? -/
def seq (a b : ByteArray) : Bool := a == b
theorem seq_iff {a b : ByteArray} : seq a b = true ↔ a = b := by
  unfold seq
  rw [beq_toListBytes, ByteArray.toList_eq, ByteArray.toList_eq, beq_iff_eq]
  obtain ⟨⟨x⟩⟩ := a
  obtain ⟨⟨y⟩⟩ := b
  simp
theorem seq_no {a b : ByteArray} : seq a b = false ↔ a ≠ b := by
  rw [← Bool.not_eq_true, ne_eq, seq_iff]
@[go_sem high] theorem string_eql (t : TypeId) (a b : ByteArray) : binOp .eql t (.string a) (.string b) = pure (.bool (seq a b)) := by rw [binOp_string_eql, seq, beq_toListBytes]
@[go_sem high] theorem string_neq (t : TypeId) (a b : ByteArray) : binOp .neq t (.string a) (.string b) = pure (.bool !(seq a b)) := by rw [binOp_string_neq, seq, beq_toListBytes]

def fgt (x y : Nat) : Bool := Ieee.double.order x y == some .gt
def fge (x y : Nat) : Bool := Ieee.double.order x y == some .gt || Ieee.double.order x y == some .eq
@[go_sem high] theorem float_eql (t : TypeId) (a b : Nat) : binOp .eql t (.float .f64 a) (.float .f64 b) = pure (.bool (feq a b)) := binOp_float_cmp_eql t .f64 a b
@[go_sem high] theorem float_neq (t : TypeId) (a b : Nat) : binOp .neq t (.float .f64 a) (.float .f64 b) = pure (.bool !(feq a b)) := binOp_float_cmp_neq t .f64 a b
@[go_sem high] theorem float_lss (t : TypeId) (a b : Nat) : binOp .lss t (.float .f64 a) (.float .f64 b) = pure (.bool (flt a b)) := binOp_float_cmp_lss t .f64 a b
@[go_sem high] theorem float_leq (t : TypeId) (a b : Nat) : binOp .leq t (.float .f64 a) (.float .f64 b) = pure (.bool (fle a b)) := binOp_float_cmp_leq t .f64 a b
@[go_sem high] theorem float_gtr (t : TypeId) (a b : Nat) : binOp .gtr t (.float .f64 a) (.float .f64 b) = pure (.bool (fgt a b)) := binOp_float_cmp_gtr t .f64 a b
@[go_sem high] theorem float_geq (t : TypeId) (a b : Nat) : binOp .geq t (.float .f64 a) (.float .f64 b) = pure (.bool (fge a b)) := binOp_float_cmp_geq t .f64 a b

/-- An element. -/
structure El where
  kind : Int
  name : ByteArray
  a : ByteArray
  b : ByteArray
  c : ByteArray
  d : ByteArray
  val : Nat
  ph : Int
def El.row (e : El) : Array Value := #[.int .u8 e.kind, .string e.name, .string e.a, .string e.b, .string e.c, .string e.d, .float .f64 e.val, .int .i64 e.ph]
def El.value (e : El) : Value := .agg e.row
/-- Are its names such as may be? -/
def El.named (e : El) : Bool := decide (nameOf e.name ≠ 0) && decide (nameOf e.name = e.kind) && nodeB e.a && nodeB e.b && (!fourOf e.kind || (nodeB e.c && nodeB e.d))
/-- Are its nodes two, is nothing used that is not? -/
def El.fits (e : El) : Bool := !(seq e.a e.b) && (fourOf e.kind || (seq e.c ⟨#[]⟩ && seq e.d ⟨#[]⟩)) && (phaseOf e.kind || decide (e.ph = 0))
def El.check (e : El) : Int :=
  if kindOk e.kind = false then 2 else if e.named = false then 8 else if e.fits = false then 2 else if 2 < realKind e.val then 5 else if aboveOf e.kind = true ∧ fle e.val 0 = true then 2 else 0

theorem cell_kept {w w' : World} {p : Addr} {v : Value} (hb : Below w.heap.size w w') (h : w.cell? p = some v) : w'.cell? p = some v := by
  have hlt : p.block < w.heap.size := by
    rcases Nat.lt_or_ge p.block w.heap.size with h' | h'
    · exact h'
    · exfalso
      have : w.heap[p.block]? = none := Array.getElem?_eq_none h'
      simp [World.cell?, this] at h
  rw [hb.cell hlt]; exact h
theorem keep6 {w w' : World} {p0 p1 p2 p3 p4 p5 : Addr} {v0 v1 v2 v3 v4 v5 : Value} {B : Nat} {W : World} (hb : Below w.heap.size w w')
    (h : (w.cell? p0 = some v0 ∧ w.cell? p1 = some v1 ∧ w.cell? p2 = some v2 ∧ w.cell? p3 = some v3 ∧ w.cell? p4 = some v4 ∧ w.cell? p5 = some v5) ∧ Below B W w) (hB : B ≤ w.heap.size) :
    (w'.cell? p0 = some v0 ∧ w'.cell? p1 = some v1 ∧ w'.cell? p2 = some v2 ∧ w'.cell? p3 = some v3 ∧ w'.cell? p4 = some v4 ∧ w'.cell? p5 = some v5) ∧ Below B W w' := by
  obtain ⟨⟨h0, h1, h2, h3, h4, h5⟩, h6⟩ := h
  exact ⟨⟨cell_kept hb h0, cell_kept hb h1, cell_kept hb h2, cell_kept hb h3, cell_kept hb h4, cell_kept hb h5⟩, below_call h6 hb hB⟩
theorem eight_cells {w : World} {b : Nat} {v0 v1 v2 v3 v4 v5 v6 v7 : Value} {t : TypeId} (h : w.heap[b]? = some (.cells #[v0, v1, v2, v3, v4, v5, v6, v7] t)) :
    w.cell? ⟨b, 0, none⟩ = some v0 ∧ w.cell? ⟨b, 1, none⟩ = some v1 ∧ w.cell? ⟨b, 2, none⟩ = some v2 ∧ w.cell? ⟨b, 3, none⟩ = some v3 ∧ w.cell? ⟨b, 4, none⟩ = some v4 ∧ w.cell? ⟨b, 5, none⟩ = some v5 ∧ w.cell? ⟨b, 6, none⟩ = some v6 ∧ w.cell? ⟨b, 7, none⟩ = some v7 := by
  refine ⟨?_, ?_, ?_, ?_, ?_, ?_, ?_, ?_⟩
  all_goals (simp only [World.cell?, h]; rfl)
theorem five_cells {w : World} {b : Nat} {v0 v1 v2 v3 v4 : Value} {t : TypeId} (h : w.heap[b]? = some (.cells #[v0, v1, v2, v3, v4] t)) :
    w.cell? ⟨b, 0, none⟩ = some v0 ∧ w.cell? ⟨b, 1, none⟩ = some v1 ∧ w.cell? ⟨b, 2, none⟩ = some v2 ∧ w.cell? ⟨b, 3, none⟩ = some v3 ∧ w.cell? ⟨b, 4, none⟩ = some v4 := by
  refine ⟨?_, ?_, ?_, ?_, ?_⟩
  all_goals (simp only [World.cell?, h]; rfl)

theorem seven (b1 b2 b3 b4 b5 b6 b7 : Bool) : b1 = true ∨ (b1 = false ∧ b2 = true) ∨ (b1 = false ∧ b2 = false ∧ b3 = false) ∨ (b1 = false ∧ b2 = false ∧ b3 = true ∧ b4 = false) ∨ (b1 = false ∧ b2 = false ∧ b3 = true ∧ b4 = true ∧ b5 = false)
    ∨ (b1 = false ∧ b2 = false ∧ b3 = true ∧ b4 = true ∧ b5 = true ∧ b6 = false) ∨ (b1 = false ∧ b2 = false ∧ b3 = true ∧ b4 = true ∧ b5 = true ∧ b6 = true) := by
  cases b1 <;> cases b2 <;> cases b3 <;> cases b4 <;> cases b5 <;> cases b6 <;> simp
theorem seven2 (b1 f b2 b3 p h : Bool) : b1 = true ∨ (b1 = false ∧ f = true ∧ p = true) ∨ (b1 = false ∧ f = true ∧ p = false ∧ h = true) ∨ (b1 = false ∧ f = true ∧ p = false ∧ h = false) ∨ (b1 = false ∧ f = false ∧ b2 = true) ∨ (b1 = false ∧ f = false ∧ b2 = false ∧ b3 = true)
    ∨ (b1 = false ∧ f = false ∧ b2 = false ∧ b3 = false ∧ p = true) ∨ (b1 = false ∧ f = false ∧ b2 = false ∧ b3 = false ∧ p = false ∧ h = true) ∨ (b1 = false ∧ f = false ∧ b2 = false ∧ b3 = false ∧ p = false ∧ h = false) := by
  cases b1 <;> cases b2 <;> cases b3 <;> cases f <;> cases p <;> cases h <;> simp
theorem bnot_of {b c : Bool} (h : (!b) = c) : b = !c := by cases b <;> cases c <;> simp_all
set_option maxHeartbeats 2000000 in
theorem check_any (x : El) (w : World) (hx : x.val < 2 ^ 64) : Calls Try.prog 88 #[x.value] w (fun e w' => e = .returned (.int .i64 x.check) ∧ Below w.heap.size w w') := by
  refine calls_post fun R hR => ?_
  obtain ⟨kind, name, a, b, c, d, val, ph⟩ := x
  simp only [El.value, El.row]
  cases hk : kindOk kind
  · have e : El.check ⟨kind, name, a, b, c, d, val, ph⟩ = 2 := by simp [El.check, hk]
    rw [e] at hR
    go_enter Try.func88, Try.ntmps88
    go_wp2_with (go_at_call 145; refine (rowof_any _ _).mono ?_; rintro e w1 ⟨rfl, hb1⟩; unfold rowVal; rw [hk])
    exact ⟨rfl, (below_call ((Below.refl _ _).alloc (Nat.le_refl _) _) hb1 (by simp)).alloc (by have := hb1.size; simp at this; omega) _⟩
  · obtain ⟨nz, hz⟩ : ∃ z, z = decide (nameOf name ≠ 0) := ⟨_, rfl⟩
    obtain ⟨f, hf⟩ : ∃ z, z = fourOf kind := ⟨_, rfl⟩
    obtain ⟨p, hp⟩ : ∃ z, z = phaseOf kind := ⟨_, rfl⟩
    obtain ⟨ab, ha⟩ : ∃ z, z = aboveOf kind := ⟨_, rfl⟩
    have hnm : El.named ⟨kind, name, a, b, c, d, val, ph⟩ = (nz && (!(nameOf name != kind) && (nodeB a && (nodeB b && (!f || (nodeB c && nodeB d)))))) := by
      rw [hz, hf]
      have : decide (nameOf name = kind) = !(nameOf name != kind) := by rw [bne, Bool.not_not]; rfl
      simp only [El.named, this, Bool.and_assoc]
    have hft : El.fits ⟨kind, name, a, b, c, d, val, ph⟩ = (!(seq a b) && ((f || (seq c ⟨#[]⟩ && seq d ⟨#[]⟩)) && (p || !(ph != 0)))) := by
      rw [hp, hf]
      have : decide (ph = 0) = !(ph != 0) := by rw [bne, Bool.not_not]; rfl
      simp only [El.fits, this, Bool.and_assoc]
    have HNM := Lib.hid hnm; have HFT := Lib.hid hft; clear hnm hft
    have HZ := Lib.hid hz; have HF := Lib.hid hf; have HP := Lib.hid hp; have HA := Lib.hid ha; have HK := Lib.hid hk
    clear hz hf hp ha hk
    go_enter Try.func88, Try.ntmps88
    go_upto_region 5 with (first | (go_at_call 145; refine (rowof_any _ _).mono ?_; rintro e w1 ⟨rfl, hb1⟩; unfold rowVal; rw [HK.out, ← HF.out, ← HP.out, ← HA.out]; have hE := hb1.block w.heap.size (by simp); rw [alloc_self] at hE; obtain ⟨d0, d1, d2, d3, d4, d5, d6, d7⟩ := eight_cells hE; have hlt1 : w.heap.size < w1.heap.size := by have := hb1.size; simp at this; omega) | (go_at_call 146; refine (name_any _ _).mono ?_; rintro e w2 ⟨rfl, hb2⟩; unfold nameVal; rw [← HZ.out]))
    have hlt2 : w1.heap.size < w2.heap.size := by have := hb2.size; simp at this; omega
    have hB2 : Below w.heap.size w w2 := below_call ((below_call ((Below.refl _ _).alloc (Nat.le_refl _) _) hb1 (by simp)).alloc (by omega) _) hb2 (by simp; omega)
    have hR1 := hb2.block w1.heap.size (by simp)
    rw [alloc_self] at hR1
    obtain ⟨r0, r1, r2, r3, r4⟩ := five_cells hR1
    have hE2 : w2.heap[w.heap.size]? = _ := (hb2.block w.heap.size (by simp; omega)).trans ((Below.heap_alloc _ _ _ hlt1).trans hE)
    obtain ⟨d0, d1, d2, d3, d4, d5, d6, d7⟩ := eight_cells hE2
    have HE := Lib.hid hE2
    have HR1 := Lib.hid hR1
    clear hE hE2 hR1
    go_cut [56] from 21 to 56 (fun v wx => v = .bool (!(El.named ⟨kind, name, a, b, c, d, val, ph⟩)) ∧ Below w2.heap.size w2 wx)
    case first =>
      clear HZ HF
      rcases seven (!nz) (nameOf name != kind) (nodeB a) (nodeB b) f (nodeB c) (nodeB d) with n1 | ⟨n1, n2⟩ | ⟨n1, n2, n3⟩ | ⟨n1, n2, n3, n4⟩ | ⟨n1, n2, n3, n4, n5⟩ | ⟨n1, n2, n3, n4, n5, n6⟩ | ⟨n1, n2, n3, n4, n5, n6⟩
      all_goals
        have n1 := Bool.not_eq_eq_eq_not.1 n1
        simp only [Bool.not_true, Bool.not_false] at n1
        subst n1
        try subst n5
        have hW := Below.refl w2.heap.size w2
        go_wp2_with (first | (go_at_call 147; refine (node_any _ _).mono ?_; rintro e w3 ⟨rfl, hb3⟩; obtain ⟨⟨d0, d2, d3, d4, d5, r3⟩, hW⟩ := keep6 hb3 ⟨⟨d0, d2, d3, d4, d5, r3⟩, hW⟩ hW.size))
        go_meet
        case rel =>
          refine ⟨?_, hW⟩
          rw [HNM.out]
          (try rw [n2]) <;> (try rw [n3]) <;> (try rw [n4]) <;> (try rw [n6]) <;> rfl
    case rest =>
      obtain ⟨hv, hW⟩ := hcut
      have hE3 := (hW.block w.heap.size (by omega)).trans HE.out
      have hR3 := (hW.block w1.heap.size (by omega)).trans HR1.out
      obtain ⟨d0, d1, d2, d3, d4, d5, d6, d7⟩ := eight_cells hE3
      obtain ⟨r0, r1, r2, r3, r4⟩ := five_cells hR3
      clear hE3 hR3
      cases hn : El.named ⟨kind, name, a, b, c, d, val, ph⟩
      · have e : El.check ⟨kind, name, a, b, c, d, val, ph⟩ = 8 := by simp [El.check, HK.out, hn]
        rw [e] at hR
        rw [hn] at hv
        subst hv
        go_wp2
        exact ⟨rfl, below_call hB2 hW hB2.size⟩
      · rw [hn] at hv
        subst hv
        go_upto_region 7 with fail
        go_cut [86] from 57 to 86 (fun v wy => v = .bool (!(El.fits ⟨kind, name, a, b, c, d, val, ph⟩)) ∧ wy = wc)
        case first =>
          clear HF HP HA HNM
          rcases seven2 (seq a b) f (!seq c ⟨#[]⟩) (!seq d ⟨#[]⟩) p (ph != 0) with x1 | ⟨x1, hf, hp⟩ | ⟨x1, hf, hp, x4⟩ | ⟨x1, hf, hp, x4⟩ | ⟨x1, hf, x2⟩ | ⟨x1, hf, x2, x3⟩ | ⟨x1, hf, x2, x3, hp⟩ | ⟨x1, hf, x2, x3, hp, x4⟩ | ⟨x1, hf, x2, x3, hp, x4⟩
          all_goals
            try subst hf
            try subst hp
            (try have x2 := bnot_of x2) <;> (try have x3 := bnot_of x3)
            go_wp2
            go_meet
            case rel =>
              refine ⟨?_, rfl⟩
              rw [HFT.out]
              (try rw [x1]) <;> (try rw [x2]) <;> (try rw [x3]) <;> (try rw [x4]) <;> rfl
        case rest =>
          obtain ⟨hv, rfl⟩ := hcut
          cases hn2 : El.fits ⟨kind, name, a, b, c, d, val, ph⟩
          · have e : El.check ⟨kind, name, a, b, c, d, val, ph⟩ = 2 := by simp [El.check, HK.out, hn, hn2]
            rw [e] at hR
            rw [hn2] at hv
            subst hv
            go_wp2
            exact ⟨rfl, below_call hB2 hW hB2.size⟩
          · rw [hn2] at hv
            subst hv
            have e : El.check ⟨kind, name, a, b, c, d, val, ph⟩ = if 2 < realKind val then 5 else if ab = true ∧ fle val 0 = true then 2 else 0 := by rw [HA.out]; simp [El.check, HK.out, hn, hn2]
            cases hk2 : decide (2 < realKind val)
            · have h2 := of_decide_eq_false hk2
              rw [if_neg h2] at e
              rw [e] at hR
              clear e hk2
              cases ab <;> cases hl : fle val 0
              all_goals
                simp only [hl, Bool.false_eq_true, false_and, and_false, and_self, if_true, if_false] at hR
                go_wp2_with (go_at_call 148; refine (kind_any _ _ hx).mono ?_; rintro e w3 ⟨rfl, rfl⟩)
                exact ⟨rfl, below_call hB2 hW hB2.size⟩
            · have h2 := of_decide_eq_true hk2
              rw [if_pos h2] at e
              rw [e] at hR
              clear e hk2
              go_wp2_with (go_at_call 148; refine (kind_any _ _ hx).mono ?_; rintro e w3 ⟨rfl, rfl⟩)
              exact ⟨rfl, below_call hB2 hW hB2.size⟩
end Go.Proofs.Try
