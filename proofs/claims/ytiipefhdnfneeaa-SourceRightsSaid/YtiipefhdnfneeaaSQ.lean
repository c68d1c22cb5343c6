/- What drives a net: put. -/
import Derived.Test.YtiipefhdnfneeaaSP
import Derived.Test.YtiipefhdnfneeaaC
namespace Go.Proofs.Try
open Go.RowKit Go.Gw
set_option maxRecDepth 100000
set_option linter.unusedSimpArgs false
set_option linter.unusedVariables false

/-- One place of a list is worked on. -/
def stepAt (l : List (Nat × Nat)) (o : Option Nat) (f : Nat × Nat → Nat × Nat) : List (Nat × Nat) := match o with | some i => l.set i (f (l.getD i (0, 0))) | none => l
def finAt (l : List (Nat × Nat)) (o : Option Nat) : Bool := match o with | some i => cfin (l.getD i (0, 0)) | none => true
def caddN (x y : Nat × Nat) : Nat × Nat := (fadd x.1 y.1, fadd x.2 y.2)
def csubN (x y : Nat × Nat) : Nat × Nat := (fsub x.1 y.1, fsub x.2 y.2)
theorem numOf_at {xs : List Value} {i : Nat} (h : i < xs.length) : (xs.map numOf).getD i (0, 0) = numOf (xs.getD i undef) := by
  simp [List.getD_eq_getElem?_getD, List.getElem?_eq_getElem h]
theorem nodes_place {es : List El} {s : ByteArray} {i : Nat} (h : placeIn (nodesOf es) s = some i) : i < (nodesOf es).length := placeIn_lt h
theorem map_set_num {xs : List Value} {i r q : Nat} : (xs.set i (.complex .f64 r q)).map numOf = (xs.map numOf).set i (cn r, cn q) := by
  rw [List.map_set]; rfl
theorem put_own {w w1 w3 : World} {B g m i n r q : Nat} {xs : List Value} (ho : w.ownsRow B 29 1 (.slice (some ⟨g, 0, none⟩) m m) m xs) (hb : Below w.heap.size w w1) (hi : i < m) (h3 : Drew ((w1.drewN n).setCell ⟨g, i, none⟩ (.complex .f64 r q)) w3) :
    w3.ownsRow B 29 1 (.slice (some ⟨g, 0, none⟩) m m) m (xs.set i (.complex .f64 r q)) ∧ w.grownBy w3 (some g) := by
  have h1 := ownsRow_below ho hb
  have h2 : (w1.drewN n).ownsRow B 29 1 (.slice (some ⟨g, 0, none⟩) m m) m xs := ownsRow_below h1 (Drew.below ⟨n, rfl⟩ _)
  refine ⟨ownsRow_below (ownsRow_setCell h2 hi _) (h3.below _), ?_⟩
  have g1 : w.grownBy (w1.drewN n) (some g) := grown_of_none (grown_of_below (hb.trans (Drew.below ⟨n, rfl⟩ _))) _
  exact grown_trans (grown_setCell g1 ⟨g, i, none⟩ rfl _) (grown_of_none (grown_of_below (h3.below _)) _)
theorem fin_set {xs : List Value} {i r q : Nat} (h : i < xs.length) : finAt ((xs.set i (.complex .f64 r q)).map numOf) (some i) = cfin (cn r, cn q) := by
  unfold finAt
  rw [map_set_num]
  simp [List.getD_eq_getElem?_getD, h]
set_option maxHeartbeats 1000000 in
theorem put_sub (w : World) (p : Nat) (es : List El) (s : ByteArray) (B g m : Nat) (xs : List Value) (a b : Nat) (h : NetIs w p es) (hs : s.size ≤ maxLen) (ho : w.ownsRow B 29 1 (.slice (some ⟨g, 0, none⟩) m m) m xs) (hx : Nums xs) (hm : (nodesOf es).length ≤ m) (ha : a < 2 ^ 64) (hb : b < 2 ^ 64) (hme : m ≤ 1000000) :
    Calls Try.prog 99 #[.pointer (some ⟨p, 0, none⟩), .slice (some ⟨g, 0, none⟩) m m, .agg #[.string s, .func (.func 76) #[] #[]], .complex .f64 a b] w (fun e w' => ∃ ys, e = .returned (.bool (finAt (ys.map numOf) (placeIn (nodesOf es) s))) ∧ Nums ys ∧ ys.map numOf = stepAt (xs.map numOf) (placeIn (nodesOf es) s) (fun z => csubN z (cn a, cn b)) ∧ w'.ownsRow B 29 1 (.slice (some ⟨g, 0, none⟩) m m) m ys ∧ w.grownBy w' (some g)) := by
  refine calls_post fun R hR => ?_
  have hp := fun i => @nodes_place es s i
  have hplace := place_net (w.alloc (.cells #[.string s, .func (.func 76) #[] #[]] 131)) p es s (h.below ((Below.refl _ _).alloc (Nat.le_refl _) _)) hs
  unfold placeVal at hplace
  have hgl : g < w.heap.size := (own_lt ho rfl).2
  cases hq : placeIn (nodesOf es) s with
  | none =>
    rw [hq] at hplace hR
    simp only [finAt, stepAt] at hR
    clear hq hp
    go_enter Try.func99, Try.ntmps99
    go_wp2_with (go_at_call 156; refine hplace.mono ?_; rintro e w1 ⟨rfl, b1⟩)
    have hb1 := below_call ((Below.refl _ _).alloc (Nat.le_refl _) _) b1 (by simp)
    exact ⟨xs, rfl, hx, rfl, ownsRow_below ho hb1, grown_of_none (grown_of_below hb1) _⟩
  | some i =>
    have hi := hp i hq
    rw [hq] at hplace hR
    simp only [finAt, stepAt] at hR
    clear hq hp
    have hxl : xs.length ≤ m ∧ m ≤ xs.length := by have := ho.1; omega
    have him : i < m := by omega
    obtain ⟨x0, y0, hv, hx0, hy0⟩ := nums_at hx (j := i) (by omega)
    rw [numOf_at (by omega), hv] at hR
    simp only [numOf, csubN] at hR
    have HV := Lib.hid hv
    go_enter Try.func99, Try.ntmps99
    go_wp2_with (go_at_call 156; refine hplace.mono ?_; rintro e w1 ⟨rfl, b1⟩)
    have hb1 := below_call ((Below.refl _ _).alloc (Nat.le_refl _) _) b1 (by simp)
    have hrow := ((ownsRow_row ho).choose_spec.choose_spec)
    have hcell : w1.cell? ⟨g, i, none⟩ = some (.complex .f64 x0 y0) := by
      obtain ⟨a', c', e, hr, _⟩ := ownsRow_row (ownsRow_below ho hb1)
      cases e
      have := hr.at (j := i) (by omega)
      rwa [Nat.zero_add, hv] at this
    have hfz := frozen_own (ownsRow_below ho hb1) i
    have hbox := (b1.block w.heap.size (by simp)).trans (alloc_self _ _)
    obtain ⟨k0, k1, kf⟩ := two_cells hbox
    have hlt := b1.size
    rw [size_alloc] at hlt
    clear hv hrow
    go_region_law (first | (go_simp; go_at_call 76; refine (sub_any _ _ _ _ _).mono ?_; rintro e w2 ⟨r, q, rfl, hr, hs2, nd, rfl⟩))
    all_goals
      go_wp2_with (go_at_call 98; refine (finite_any _ _ _).mono ?_; rintro e w3 ⟨rfl, h3⟩; rw [hr.2, hs2.2])
      obtain ⟨o3, g3⟩ := put_own ho hb1 him h3
      refine ⟨xs.set i (.complex .f64 r q), ?_, nums_setAll hx ⟨_, _, rfl, hr.1, hs2.1⟩, ?_, o3, g3⟩
      · have := fin_set (xs := xs) (r := r) (q := q) (by omega : i < xs.length)
        simp only [finAt] at this
        rw [this, hr.2, hs2.2]; rfl
      · rw [map_set_num, hr.2, hs2.2]
set_option maxHeartbeats 1000000 in
theorem put_add (w : World) (p : Nat) (es : List El) (s : ByteArray) (B g m : Nat) (xs : List Value) (a b : Nat) (h : NetIs w p es) (hs : s.size ≤ maxLen) (ho : w.ownsRow B 29 1 (.slice (some ⟨g, 0, none⟩) m m) m xs) (hx : Nums xs) (hm : (nodesOf es).length ≤ m) (ha : a < 2 ^ 64) (hb : b < 2 ^ 64) (hme : m ≤ 1000000) :
    Calls Try.prog 99 #[.pointer (some ⟨p, 0, none⟩), .slice (some ⟨g, 0, none⟩) m m, .agg #[.string s, .func (.func 75) #[] #[]], .complex .f64 a b] w (fun e w' => ∃ ys, e = .returned (.bool (finAt (ys.map numOf) (placeIn (nodesOf es) s))) ∧ Nums ys ∧ ys.map numOf = stepAt (xs.map numOf) (placeIn (nodesOf es) s) (fun z => caddN z (cn a, cn b)) ∧ w'.ownsRow B 29 1 (.slice (some ⟨g, 0, none⟩) m m) m ys ∧ w.grownBy w' (some g)) := by
  refine calls_post fun R hR => ?_
  have hp := fun i => @nodes_place es s i
  have hplace := place_net (w.alloc (.cells #[.string s, .func (.func 75) #[] #[]] 131)) p es s (h.below ((Below.refl _ _).alloc (Nat.le_refl _) _)) hs
  unfold placeVal at hplace
  have hgl : g < w.heap.size := (own_lt ho rfl).2
  cases hq : placeIn (nodesOf es) s with
  | none =>
    rw [hq] at hplace hR
    simp only [finAt, stepAt] at hR
    clear hq hp
    go_enter Try.func99, Try.ntmps99
    go_wp2_with (go_at_call 156; refine hplace.mono ?_; rintro e w1 ⟨rfl, b1⟩)
    have hb1 := below_call ((Below.refl _ _).alloc (Nat.le_refl _) _) b1 (by simp)
    exact ⟨xs, rfl, hx, rfl, ownsRow_below ho hb1, grown_of_none (grown_of_below hb1) _⟩
  | some i =>
    have hi := hp i hq
    rw [hq] at hplace hR
    simp only [finAt, stepAt] at hR
    clear hq hp
    have hxl : xs.length ≤ m ∧ m ≤ xs.length := by have := ho.1; omega
    have him : i < m := by omega
    obtain ⟨x0, y0, hv, hx0, hy0⟩ := nums_at hx (j := i) (by omega)
    rw [numOf_at (by omega), hv] at hR
    simp only [numOf, caddN] at hR
    have HV := Lib.hid hv
    go_enter Try.func99, Try.ntmps99
    go_wp2_with (go_at_call 156; refine hplace.mono ?_; rintro e w1 ⟨rfl, b1⟩)
    have hb1 := below_call ((Below.refl _ _).alloc (Nat.le_refl _) _) b1 (by simp)
    have hrow := ((ownsRow_row ho).choose_spec.choose_spec)
    have hcell : w1.cell? ⟨g, i, none⟩ = some (.complex .f64 x0 y0) := by
      obtain ⟨a', c', e, hr, _⟩ := ownsRow_row (ownsRow_below ho hb1)
      cases e
      have := hr.at (j := i) (by omega)
      rwa [Nat.zero_add, hv] at this
    have hfz := frozen_own (ownsRow_below ho hb1) i
    have hbox := (b1.block w.heap.size (by simp)).trans (alloc_self _ _)
    obtain ⟨k0, k1, kf⟩ := two_cells hbox
    have hlt := b1.size
    rw [size_alloc] at hlt
    clear hv hrow
    go_region_law (first | (go_simp; go_at_call 75; refine (add_any _ _ _ _ _).mono ?_; rintro e w2 ⟨r, q, rfl, hr, hs2, nd, rfl⟩))
    all_goals
      go_wp2_with (go_at_call 98; refine (finite_any _ _ _).mono ?_; rintro e w3 ⟨rfl, h3⟩; rw [hr.2, hs2.2])
      obtain ⟨o3, g3⟩ := put_own ho hb1 him h3
      refine ⟨xs.set i (.complex .f64 r q), ?_, nums_setAll hx ⟨_, _, rfl, hr.1, hs2.1⟩, ?_, o3, g3⟩
      · have := fin_set (xs := xs) (r := r) (q := q) (by omega : i < xs.length)
        simp only [finAt] at this
        rw [this, hr.2, hs2.2]; rfl
      · rw [map_set_num, hr.2, hs2.2]
end Go.Proofs.Try
