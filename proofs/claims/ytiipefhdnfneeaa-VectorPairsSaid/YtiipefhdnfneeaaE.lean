/- Contracts of package vector, of its reference: sums and differences. -/
import Derived.Test.YtiipefhdnfneeaaD
namespace Go.Proofs.Try
open Go.RowKit Go.Gw
set_option maxRecDepth 100000
set_option linter.unusedSimpArgs false
set_option linter.unusedVariables false

theorem vadd_any (a b : Option Addr) (la ca lb cb : Nat) (xs bs : List Value) (w : World) (h1 : Row w a xs) (h2 : Row w b bs) (l1 : xs.length = la) (l2 : bs.length = lb) (hx : Nums xs) (hb : Nums bs) :
    Calls Try.prog 12 #[.slice a la ca, .slice b lb cb] w (ListC (vecRes zadd xs bs) (errOf la lb) w) := by
  refine calls_post fun R hR => ?_
  have L1 := Lib.hid l1; have L2 := Lib.hid l2; clear l1 l2
  go_enter Try.func12, Try.ntmps12
  go_wp2_with (go_at_call 74; refine (both_add _ _ _ _ _ _ _ _ _ h1 h2 L1.out L2.out hx hb).mono ?_; rintro e w1 ⟨v, ys, rfl, hy, hz, hown, hb1⟩; have HZ := Lib.hid hz; clear hz)
  exact ⟨_, ys, rfl, hy, HZ.out, hown, hb1⟩
theorem vsub_any (a b : Option Addr) (la ca lb cb : Nat) (xs bs : List Value) (w : World) (h1 : Row w a xs) (h2 : Row w b bs) (l1 : xs.length = la) (l2 : bs.length = lb) (hx : Nums xs) (hb : Nums bs) :
    Calls Try.prog 13 #[.slice a la ca, .slice b lb cb] w (ListC (vecRes zsub xs bs) (errOf la lb) w) := by
  refine calls_post fun R hR => ?_
  have L1 := Lib.hid l1; have L2 := Lib.hid l2; clear l1 l2
  go_enter Try.func13, Try.ntmps13
  go_wp2_with (go_at_call 74; refine (both_sub _ _ _ _ _ _ _ _ _ h1 h2 L1.out L2.out hx hb).mono ?_; rintro e w1 ⟨v, ys, rfl, hy, hz, hown, hb1⟩; have HZ := Lib.hid hz; clear hz)
  exact ⟨_, ys, rfl, hy, HZ.out, hown, hb1⟩
theorem rvadd_any (a b : Option Addr) (la ca lb cb : Nat) (xs bs : List Value) (w : World) (h1 : Row w a xs) (h2 : Row w b bs) (l1 : xs.length = la) (l2 : bs.length = lb) (hx : Nums xs) (hb : Nums bs) (m1 : la ≤ 9223372036854775807) :
    Calls Try.prog 17 #[.slice a la ca, .slice b lb cb] w (ListC (vecRes zadd xs bs) (errOf la lb) w) := by
  refine calls_post fun R hR => ?_
  by_cases he : errOf la lb = 0
  · obtain ⟨rfl, hle⟩ := errOf_ok he
    rw [vecRes_ok l1 l2 he, he] at hR
    have HE := Lib.hid he; clear he
    have L1 := Lib.hid l1; have L2 := Lib.hid l2; clear l1 l2
    go_enter Try.func17, Try.ntmps17
    go_wp2_with (go_at_call 80; refine (wrong_any _ _ _ _ _ _ _).mono ?_; rintro e w1 ⟨rfl, rfl⟩; rw [HE.out])
    go_loopw [7, 8] (fun v i wr => ∃ k : Nat, k ≤ la ∧ i = .int .i64 k ∧ (∃ ys, Nums ys ∧ Hid (zipTo zadd xs bs ys k) ∧ wr.ownsRow w.heap.size 29 1 v k ys) ∧ Below w.heap.size w wr) (fun _ i _ => la - (intOf i).toNat)
    case atStart => exact ⟨0, Nat.zero_le _, rfl, ⟨[], by simp [Nums], rfl, World.ownsRow_nil _ _ _ _⟩, Below.refl _ _⟩
    case round =>
      obtain ⟨k, hk, rfl, ⟨ys, hy, hz, hown⟩, hbl⟩ := hrel
      by_cases hlt : k < la
      · obtain ⟨b1, o1, rfl⟩ := row_some h1 (j := k) (by have := L1.out; omega)
        obtain ⟨b2, o2, rfl⟩ := row_some h2 (j := k) (by have := L2.out; omega)
        have e1 := (h1.below hbl).at (j := k) (by have := L1.out; omega)
        have e2 := (h2.below hbl).at (j := k) (by have := L2.out; omega)
        have lt1 := h1.lt (by have := L1.out; omega)
        have lt2 := h2.lt (by have := L2.out; omega)
        obtain ⟨p1, q1, v1, _, _⟩ := nums_at hx (j := k) (by have := L1.out; omega)
        obtain ⟨p2, q2, v2, _, _⟩ := nums_at hb (j := k) (by have := L2.out; omega)
        have V1 := Lib.hid v1; have V2 := Lib.hid v2
        rw [v1] at e1; rw [v2] at e2
        clear v1 v2
        have hB := hbl.size
        go_wp2
        go_region_held3 (fun w' => w'.cell? ⟨b1, o1 + k, none⟩ = some (.complex .f64 p1 q1) ∧ w'.cell? ⟨b2, o2 + k, none⟩ = some (.complex .f64 p2 q2)) (first | go_keep | exact ⟨f1, f2⟩)
          (first | (go_at_call 81; refine (refadd_any _ _ _ _ _).mono ?_; rintro e w2 ⟨r, s, rfl, hr, hs, nd, rfl⟩) | (refine step_app rfl (.tmp 22) (.tmp 32) rfl elem_c (hown.alloc _) rfl rfl (row_new _ _ _) rfl (one1 rfl) (by omega) (by simp; omega) ?_; intro v' w2 hown2 hg2; have hx9 := below_app ((below_drewN hbl (1 + nd)).alloc (by simp; omega) _) (hown.alloc _) hg2 (by simp; omega); have f1 := keep_cell hbl hx9 lt1 e1; have f2 := keep_cell hbl hx9 lt2 e2))
        go_wp2
        go_roundw
        case rel =>
          refine ⟨k + 1, by omega, by go_num, ⟨_, nums_append hy (nums1 ⟨_, _, rfl, hr.1, hs.1⟩), zipTo_snoc hz (by have := L1.out; omega) (by have := L2.out; omega) (by have := hown.1; omega) ?_, hown2⟩, hx9⟩
          rw [V1.out, V2.out]; simp only [numOf, zadd]; rw [hr.2, hs.2]
        case measure => simp [intOf]; omega
      · have hk' : k = la := by omega
        subst hk'
        have hl : ys.length = k := by have := hown.1; omega
        have hz' := hz.out
        unfold zipTo at hz'
        rw [List.take_of_length_le (by omega), List.take_of_length_le (by have := L1.out; omega), List.take_of_length_le (by have := L2.out; omega)] at hz'
        have HZ := Lib.hid hz'; clear hz'
        have HL := Lib.hid hl; clear hl
        go_wp2
        exact ⟨_, ys, rfl, hy, HZ.out, by rw [HL.out]; exact hown, hbl⟩
  · rw [vecRes_no l1 l2 he] at hR
    have hn : (errOf la lb == 0) = false := by simpa using he
    go_enter Try.func17, Try.ntmps17
    go_wp2_with (go_at_call 80; refine (wrong_any _ _ _ _ _ _ _).mono ?_; rintro e w1 ⟨rfl, rfl⟩)
    go_loopw [7, 8] (fun v i wr => v = .slice none 0 0 ∧ i = .int .i64 0 ∧ w = wr) (fun _ i _ => 0)
    case atStart => exact ⟨rfl, rfl, rfl⟩
    case round =>
      obtain ⟨rfl, rfl, rfl⟩ := hrel
      go_wp2
      exact ⟨_, [], rfl, by simp [Nums], rfl, World.ownsRow_nil _ _ _ _, Below.refl _ _⟩
theorem rvsub_any (a b : Option Addr) (la ca lb cb : Nat) (xs bs : List Value) (w : World) (h1 : Row w a xs) (h2 : Row w b bs) (l1 : xs.length = la) (l2 : bs.length = lb) (hx : Nums xs) (hb : Nums bs) (m1 : la ≤ 9223372036854775807) :
    Calls Try.prog 18 #[.slice a la ca, .slice b lb cb] w (ListC (vecRes zsub xs bs) (errOf la lb) w) := by
  refine calls_post fun R hR => ?_
  by_cases he : errOf la lb = 0
  · obtain ⟨rfl, hle⟩ := errOf_ok he
    rw [vecRes_ok l1 l2 he, he] at hR
    have HE := Lib.hid he; clear he
    have L1 := Lib.hid l1; have L2 := Lib.hid l2; clear l1 l2
    go_enter Try.func18, Try.ntmps18
    go_wp2_with (go_at_call 80; refine (wrong_any _ _ _ _ _ _ _).mono ?_; rintro e w1 ⟨rfl, rfl⟩; rw [HE.out])
    go_loopw [7, 8] (fun v i wr => ∃ k : Nat, k ≤ la ∧ i = .int .i64 k ∧ (∃ ys, Nums ys ∧ Hid (zipTo zsub xs bs ys k) ∧ wr.ownsRow w.heap.size 29 1 v k ys) ∧ Below w.heap.size w wr) (fun _ i _ => la - (intOf i).toNat)
    case atStart => exact ⟨0, Nat.zero_le _, rfl, ⟨[], by simp [Nums], rfl, World.ownsRow_nil _ _ _ _⟩, Below.refl _ _⟩
    case round =>
      obtain ⟨k, hk, rfl, ⟨ys, hy, hz, hown⟩, hbl⟩ := hrel
      by_cases hlt : k < la
      · obtain ⟨b1, o1, rfl⟩ := row_some h1 (j := k) (by have := L1.out; omega)
        obtain ⟨b2, o2, rfl⟩ := row_some h2 (j := k) (by have := L2.out; omega)
        have e1 := (h1.below hbl).at (j := k) (by have := L1.out; omega)
        have e2 := (h2.below hbl).at (j := k) (by have := L2.out; omega)
        have lt1 := h1.lt (by have := L1.out; omega)
        have lt2 := h2.lt (by have := L2.out; omega)
        obtain ⟨p1, q1, v1, _, _⟩ := nums_at hx (j := k) (by have := L1.out; omega)
        obtain ⟨p2, q2, v2, _, _⟩ := nums_at hb (j := k) (by have := L2.out; omega)
        have V1 := Lib.hid v1; have V2 := Lib.hid v2
        rw [v1] at e1; rw [v2] at e2
        clear v1 v2
        have hB := hbl.size
        go_wp2
        go_region_held3 (fun w' => w'.cell? ⟨b1, o1 + k, none⟩ = some (.complex .f64 p1 q1) ∧ w'.cell? ⟨b2, o2 + k, none⟩ = some (.complex .f64 p2 q2)) (first | go_keep | exact ⟨f1, f2⟩)
          (first | (go_at_call 82; refine (refsub_any _ _ _ _ _).mono ?_; rintro e w2 ⟨r, s, rfl, hr, hs, nd, rfl⟩) | (refine step_app rfl (.tmp 22) (.tmp 32) rfl elem_c (hown.alloc _) rfl rfl (row_new _ _ _) rfl (one1 rfl) (by omega) (by simp; omega) ?_; intro v' w2 hown2 hg2; have hx9 := below_app ((below_drewN hbl (1 + nd)).alloc (by simp; omega) _) (hown.alloc _) hg2 (by simp; omega); have f1 := keep_cell hbl hx9 lt1 e1; have f2 := keep_cell hbl hx9 lt2 e2))
        go_wp2
        go_roundw
        case rel =>
          refine ⟨k + 1, by omega, by go_num, ⟨_, nums_append hy (nums1 ⟨_, _, rfl, hr.1, hs.1⟩), zipTo_snoc hz (by have := L1.out; omega) (by have := L2.out; omega) (by have := hown.1; omega) ?_, hown2⟩, hx9⟩
          rw [V1.out, V2.out]; simp only [numOf, zsub]; rw [hr.2, hs.2]
        case measure => simp [intOf]; omega
      · have hk' : k = la := by omega
        subst hk'
        have hl : ys.length = k := by have := hown.1; omega
        have hz' := hz.out
        unfold zipTo at hz'
        rw [List.take_of_length_le (by omega), List.take_of_length_le (by have := L1.out; omega), List.take_of_length_le (by have := L2.out; omega)] at hz'
        have HZ := Lib.hid hz'; clear hz'
        have HL := Lib.hid hl; clear hl
        go_wp2
        exact ⟨_, ys, rfl, hy, HZ.out, by rw [HL.out]; exact hown, hbl⟩
  · rw [vecRes_no l1 l2 he] at hR
    have hn : (errOf la lb == 0) = false := by simpa using he
    go_enter Try.func18, Try.ntmps18
    go_wp2_with (go_at_call 80; refine (wrong_any _ _ _ _ _ _ _).mono ?_; rintro e w1 ⟨rfl, rfl⟩)
    go_loopw [7, 8] (fun v i wr => v = .slice none 0 0 ∧ i = .int .i64 0 ∧ w = wr) (fun _ i _ => 0)
    case atStart => exact ⟨rfl, rfl, rfl⟩
    case round =>
      obtain ⟨rfl, rfl, rfl⟩ := hrel
      go_wp2
      exact ⟨_, [], rfl, by simp [Nums], rfl, World.ownsRow_nil _ _ _ _, Below.refl _ _⟩
end Go.Proofs.Try
