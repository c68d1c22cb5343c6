/- Contracts of package vector, of its reference: products, conjugates, sizes. -/
import Derived.Test.YtiipefhdnfneeaaE
namespace Go.Proofs.Try
open Go.RowKit Go.Gw
set_option maxRecDepth 100000
set_option linter.unusedSimpArgs false
set_option linter.unusedVariables false

abbrev ZZ := Nat × Nat
/-- A fold over two lists' first k places. -/
def fold2 (f : ZZ → ZZ → ZZ → ZZ) (xs bs : List Value) (k : Nat) : ZZ := ((List.zip (xs.take k) (bs.take k)).foldl (fun s p => f s (numOf p.1) (numOf p.2)) (0, 0))
theorem fold2_succ {f : ZZ → ZZ → ZZ → ZZ} {xs bs : List Value} {k : Nat} (hx : k < xs.length) (hb : k < bs.length) : fold2 f xs bs (k + 1) = f (fold2 f xs bs k) (numOf (xs.getD k undef)) (numOf (bs.getD k undef)) := by
  unfold fold2
  rw [List.take_succ_eq_append_getElem hx, List.take_succ_eq_append_getElem hb, List.zip_append (by simp; omega), List.foldl_append, List.getD_eq_getElem?_getD, List.getElem?_eq_getElem hx, List.getD_eq_getElem?_getD, List.getElem?_eq_getElem hb]
  rfl
/-- A fold over one list's first k places. -/
def fold1 (f : Nat → ZZ → Nat) (xs : List Value) (k : Nat) : Nat := (xs.take k).foldl (fun s p => f s (numOf p)) 0
theorem fold1_succ {f : Nat → ZZ → Nat} {xs : List Value} {k : Nat} (hx : k < xs.length) : fold1 f xs (k + 1) = f (fold1 f xs k) (numOf (xs.getD k undef)) := by
  unfold fold1
  rw [List.take_succ_eq_append_getElem hx, List.foldl_append, List.getD_eq_getElem?_getD, List.getElem?_eq_getElem hx]
  rfl
def dotF (s x y : ZZ) : ZZ := zadd s (zmul x y)
def innerF (s x y : ZZ) : ZZ := zadd s (zmul (zconj x) y)
def sumRes (f : ZZ → ZZ → ZZ → ZZ) (xs bs : List Value) : ZZ := if errOf xs.length bs.length = 0 then fold2 f xs bs xs.length else (0, 0)
theorem sumRes_ok {f : ZZ → ZZ → ZZ → ZZ} {xs bs : List Value} {la lb : Nat} (l1 : xs.length = la) (l2 : bs.length = lb) (h : errOf la lb = 0) : sumRes f xs bs = fold2 f xs bs la := by
  unfold sumRes; rw [l1, l2, if_pos h]
theorem sumRes_no {f : ZZ → ZZ → ZZ → ZZ} {xs bs : List Value} {la lb : Nat} (l1 : xs.length = la) (l2 : bs.length = lb) (h : ¬ errOf la lb = 0) : sumRes f xs bs = (0, 0) := by
  unfold sumRes; rw [l1, l2, if_neg h]
/-- A call that answers a number and an error. -/
def NumE (z : ZZ) (er : Int) (w : World) (e : Ending) (w' : World) : Prop :=
  ∃ r s, e = .returned (.tuple #[.complex .f64 r s, .int .i64 er]) ∧ Is r z.1 ∧ Is s z.2 ∧ Below w.heap.size w w'
theorem is0 : Is 0 0 := ⟨by decide, cn_of_not (by decide +kernel)⟩
theorem drew_row {w w' : World} (h : Drew w w') {a : Option Addr} {xs : List Value} (hr : Row w a xs) : Row w' a xs := hr.below (h.below _)

theorem dot_any (a b : Option Addr) (la ca lb cb : Nat) (xs bs : List Value) (w : World) (h1 : Row w a xs) (h2 : Row w b bs) (l1 : xs.length = la) (l2 : bs.length = lb) (hx : Nums xs) (hb : Nums bs) :
    Calls Try.prog 14 #[.slice a la ca, .slice b lb cb] w (NumE (sumRes dotF xs bs) (errOf la lb) w) := by
  refine calls_post fun R hR => ?_
  by_cases he : errOf la lb = 0
  · rw [sumRes_ok l1 l2 he, he] at hR
    obtain ⟨rfl, hle⟩ := errOf_ok he
    have HE := Lib.hid he; clear he
    have L1 := Lib.hid l1; have L2 := Lib.hid l2; clear l1 l2
    go_enter Try.func14, Try.ntmps14
    go_wp2_with (go_at_call 77; refine (may_any _ _ _ _ _ _ _).mono ?_; rintro e w1 ⟨rfl, rfl⟩; rw [HE.out])
    go_loopw [7, 8, 9, 18] (fun v _ _ j wr => ∃ k : Nat, k ≤ la ∧ j = .int .i64 k ∧ (∃ r s, v = .complex .f64 r s ∧ Hid (Is r (fold2 dotF xs bs k).1 ∧ Is s (fold2 dotF xs bs k).2)) ∧ Drew w wr) (fun _ _ _ j _ => la - (intOf j).toNat)
    case atStart => exact ⟨0, Nat.zero_le _, rfl, ⟨0, 0, rfl, is0, is0⟩, Drew.refl _⟩
    case round =>
      obtain ⟨k, hk, rfl, ⟨r, s, rfl, hz⟩, hd⟩ := hrel
      by_cases hlt : k < la
      · obtain ⟨b1, o1, rfl⟩ := row_some h1 (j := k) (by have := L1.out; omega)
        obtain ⟨b2, o2, rfl⟩ := row_some h2 (j := k) (by have := L2.out; omega)
        have e1 := (drew_row hd h1).at (j := k) (by have := L1.out; omega)
        have e2 := (drew_row hd h2).at (j := k) (by have := L2.out; omega)
        obtain ⟨p1, q1, v1, _, _⟩ := nums_at hx (j := k) (by have := L1.out; omega)
        obtain ⟨p2, q2, v2, _, _⟩ := nums_at hb (j := k) (by have := L2.out; omega)
        have V1 := Lib.hid v1; have V2 := Lib.hid v2
        rw [v1] at e1; rw [v2] at e2
        clear v1 v2
        go_wp2_with (first | (go_at_call 78; refine (mul_any _ _ _ _ _).mono ?_; rintro e w2 ⟨r1, s1, rfl, hr1, hs1, nd1, rfl⟩) | (go_at_call 75; refine (add_any _ _ _ _ _).mono ?_; rintro e w2 ⟨r2, s2, rfl, hr2, hs2, nd2, rfl⟩))
        go_roundw
        case rel =>
          refine ⟨k + 1, by omega, by go_num, ⟨_, _, rfl, ?_⟩, hd.drewN _⟩
          have := hz.out
          rw [fold2_succ (by have := L1.out; omega) (by have := L2.out; omega), V1.out, V2.out]
          refine (show Is r2 _ ∧ Is s2 _ from ?_)
          simp only [dotF, zadd, zmul, numOf]
          rw [this.1.2, hr1.2] at hr2
          rw [this.2.2, hs1.2] at hs2
          exact ⟨hr2, hs2⟩
        case measure => simp [intOf]; omega
      · have hk' : k = la := by omega
        subst hk'
        go_wp2
        have := hz.out
        exact ⟨_, _, rfl, this.1, this.2, hd.below _⟩
  · rw [sumRes_no l1 l2 he] at hR
    have hn : (errOf la lb != 0) = true := by simpa using he
    go_enter Try.func14, Try.ntmps14
    go_wp2_with (go_at_call 77; refine (may_any _ _ _ _ _ _ _).mono ?_; rintro e w1 ⟨rfl, rfl⟩)
    exact ⟨_, _, rfl, is0, is0, Below.refl _ _⟩
/-- The conjugates. -/
def conjTo (xs ys : List Value) (k : Nat) : Prop := (ys.take k).map numOf = (xs.take k).map (fun v => zconj (numOf v))
theorem conjTo_set {xs ys : List Value} {k : Nat} (h : conjTo xs ys k) (hx : k < xs.length) (hy : k < ys.length) {u : Value} (hu : numOf u = zconj (numOf (xs.getD k undef))) : conjTo xs (ys.set k u) (k + 1) := by
  unfold conjTo at *
  rw [List.take_succ_eq_append_getElem (by simpa using hy), List.take_succ_eq_append_getElem hx, List.take_set_of_le (Nat.le_refl _), List.map_append, List.map_append, h]
  simp only [List.getElem_set_self, List.map_cons, List.map_nil, hu]
  rw [List.getD_eq_getElem?_getD, List.getElem?_eq_getElem hx]
  rfl
theorem conjTo_snoc {xs ys : List Value} {k : Nat} (h : conjTo xs ys k) (hx : k < xs.length) (hy : ys.length = k) {u : Value} (hu : numOf u = zconj (numOf (xs.getD k undef))) : conjTo xs (ys ++ [u]) (k + 1) := by
  unfold conjTo at *
  rw [List.take_of_length_le (by simp; omega), List.take_succ_eq_append_getElem hx, List.map_append, List.map_append, ← h, List.take_of_length_le (by omega)]
  simp only [List.map_cons, List.map_nil, hu]
  rw [List.getD_eq_getElem?_getD, List.getElem?_eq_getElem hx]
  rfl
def ConjC (xs : List Value) (w : World) (e : Ending) (w' : World) : Prop :=
  ∃ v ys, e = .returned v ∧ Nums ys ∧ ys.map numOf = xs.map (fun v => zconj (numOf v)) ∧ w'.ownsRow w.heap.size 29 1 v xs.length ys ∧ Below w.heap.size w w'
theorem vconj_any (a : Option Addr) (la ca : Nat) (xs : List Value) (w : World) (h1 : Row w a xs) (l1 : xs.length = la) (hx : Nums xs) (hn : la * 16 ≤ 281474976710656) :
    Calls Try.prog 16 #[.slice a la ca] w (ConjC xs w) := by
  refine calls_post fun R hR => ?_
  have L1 := Lib.hid l1; clear l1
  go_enter Try.func16, Try.ntmps16
  go_wp2_with (at_make; refine wpList_mk rfl (.tmp 7) (.tmp 7) rfl elem_c rfl rfl (by omega) (Nat.le_refl _) ?_; intro w1 hown1 hg1)
  go_loopw [4, 5, 11] (fun i x j wr => ∃ k : Nat, k ≤ la ∧ j = .int .i64 k ∧ (∃ ys, Nums ys ∧ Hid (conjTo xs ys k) ∧ wr.ownsRow w.heap.size 29 1 (.slice (some ⟨w.heap.size, 0, none⟩) la la) la ys) ∧ Below w.heap.size w wr) (fun _ _ j _ => la - (intOf j).toNat)
  case atStart => exact ⟨0, Nat.zero_le _, rfl, ⟨_, nums_made _, rfl, hown1⟩, below_grown hg1⟩
  case round =>
    obtain ⟨k, hk, rfl, ⟨ys, hy, hz, hown⟩, hbl⟩ := hrel
    clear hown1 hg1
    by_cases hlt : k < la
    · obtain ⟨b1, o1, rfl⟩ := row_some h1 (j := k) (by have := L1.out; omega)
      have e1 := (h1.below hbl).at (j := k) (by have := L1.out; omega)
      obtain ⟨p1, q1, v1, g1, g2⟩ := nums_at hx (j := k) (by have := L1.out; omega)
      have V1 := Lib.hid v1
      rw [v1] at e1
      clear v1
      obtain ⟨u0, e3⟩ := own_cell hown hlt
      have hf := frozen_own hown k
      go_wp2_with (go_at_call 79; refine (conj_any _ _ _ g1 g2).mono ?_; rintro e w2 ⟨r, s, rfl, hr, hs, nd, rfl⟩)
      go_roundw
      case rel =>
        refine ⟨k + 1, by omega, by go_num, ⟨_, nums_setAll hy ⟨_, _, rfl, hr.1, hs.1⟩, conjTo_set hz (by have := L1.out; omega) (by have := hown.1; omega) ?_, ownsRow_setCell (w := wr.drewN nd) hown hlt _⟩, ?_⟩
        · rw [V1.out]; simp only [numOf, zconj]; rw [hr.2, hs.2]
        · exact (below_drewN hbl nd).setCell (Nat.le_refl _) _
      case measure => simp [intOf]; omega
    · have hk' : k = la := by omega
      subst hk'
      have hl : ys.length = k := by have := hown.1; omega
      have hz' := hz.out
      unfold conjTo at hz'
      rw [List.take_of_length_le (by omega), List.take_of_length_le (by have := L1.out; omega)] at hz'
      have HZ := Lib.hid hz'; clear hz'
      have HL := Lib.hid hl; clear hl
      go_wp2
      exact ⟨_, ys, rfl, hy, HZ.out, by rw [L1.out]; exact hown, hbl⟩
theorem rvconj_any (a : Option Addr) (la ca : Nat) (xs : List Value) (w : World) (h1 : Row w a xs) (l1 : xs.length = la) (hx : Nums xs) (hn : la * 16 ≤ 140737488355328) :
    Calls Try.prog 30 #[.slice a la ca] w (ConjC xs w) := by
  refine calls_post fun R hR => ?_
  have L1 := Lib.hid l1; clear l1
  go_enter Try.func30, Try.ntmps30
  go_wp2
  go_loopw [3, 4] (fun v j wr => ∃ k : Nat, k ≤ la ∧ j = .int .i64 k ∧ (∃ ys, Nums ys ∧ Hid (conjTo xs ys k) ∧ wr.ownsRow w.heap.size 29 1 v k ys) ∧ Below w.heap.size w wr) (fun _ j _ => la - (intOf j).toNat)
  case atStart => exact ⟨0, Nat.zero_le _, rfl, ⟨[], by simp [Nums], rfl, World.ownsRow_nil _ _ _ _⟩, Below.refl _ _⟩
  case round =>
    obtain ⟨k, hk, rfl, ⟨ys, hy, hz, hown⟩, hbl⟩ := hrel
    by_cases hlt : k < la
    · obtain ⟨b1, o1, rfl⟩ := row_some h1 (j := k) (by have := L1.out; omega)
      have e1 := (h1.below hbl).at (j := k) (by have := L1.out; omega)
      obtain ⟨p1, q1, v1, g1, g2⟩ := nums_at hx (j := k) (by have := L1.out; omega)
      have V1 := Lib.hid v1
      rw [v1] at e1
      clear v1
      have hB := hbl.size
      go_wp2_with (first | (go_at_call 84; refine (refconj_any _ _ _ g1 g2).mono ?_; rintro e w2 ⟨r, s, rfl, hr, hs, nd, rfl⟩) | (at_builtin; refine wpList_app rfl (.tmp 11) (.tmp 17) rfl elem_c (hown.alloc _) rfl rfl (row_new _ _ _) rfl (one1 rfl) (by omega) (by simp; omega) ?_; intro v' w2 hown2 hg2; have hx9 := below_app ((below_drewN hbl nd).alloc (by simp; omega) _) (hown.alloc _) hg2 (by simp; omega)))
      go_roundw
      case rel =>
        refine ⟨k + 1, by omega, by go_num, ⟨_, nums_append hy (nums1 ⟨_, _, rfl, hr.1, hs.1⟩), conjTo_snoc hz (by have := L1.out; omega) (by have := hown.1; omega) ?_, hown2⟩, hx9⟩
        rw [V1.out]; simp only [numOf, zconj]; rw [hr.2, hs.2]
      case measure => simp [intOf]; omega
    · have hk' : k = la := by omega
      subst hk'
      have hl : ys.length = k := by have := hown.1; omega
      have hz' := hz.out
      unfold conjTo at hz'
      rw [List.take_of_length_le (by omega), List.take_of_length_le (by have := L1.out; omega)] at hz'
      have HZ := Lib.hid hz'; clear hz'
      have HL := Lib.hid hl; clear hl
      go_wp2
      exact ⟨_, ys, rfl, hy, HZ.out, by rw [L1.out]; exact hown, hbl⟩
end Go.Proofs.Try
