/- Contracts of package vector. -/
import Derived.Test.YtiipefhdnfneeaaC
namespace Go.Proofs.Try
open Go.RowKit Go.Gw
set_option maxRecDepth 100000
set_option linter.unusedSimpArgs false
set_option linter.unusedVariables false

/-- What is wrong with two vectors. -/
def errOf (la lb : Nat) : Int := if 65536 < la ∨ 65536 < lb then 3 else if la = lb then 0 else 4
theorem errOf_ok {la lb : Nat} (h : errOf la lb = 0) : la = lb ∧ la ≤ 65536 := by
  unfold errOf at h
  split at h
  · omega
  · split at h <;> omega
theorem may_any (a b : Option Addr) (la ca lb cb : Nat) (w : World) :
    Calls Try.prog 77 #[.slice a la ca, .slice b lb cb] w fun e w' => e = .returned (.int .i64 (errOf la lb)) ∧ w = w' := by
  refine calls_post fun R hR => ?_
  by_cases h1 : 65536 < la
  · have e1 : errOf la lb = 3 := by unfold errOf; rw [if_pos (Or.inl h1)]
    rw [e1] at hR
    go_enter Try.func77, Try.ntmps77
    go_wp2
  · by_cases h2 : 65536 < lb
    · have e1 : errOf la lb = 3 := by unfold errOf; rw [if_pos (Or.inr h2)]
      rw [e1] at hR
      go_enter Try.func77, Try.ntmps77
      go_wp2
    · by_cases h3 : la = lb
      · have e1 : errOf la lb = 0 := by unfold errOf; rw [if_neg (by omega), if_pos h3]
        rw [e1] at hR
        subst h3
        go_enter Try.func77, Try.ntmps77
        go_wp2
      · have e1 : errOf la lb = 4 := by unfold errOf; rw [if_neg (by omega), if_neg h3]
        rw [e1] at hR
        have h4 : ((la : Int) != (lb : Int)) = true := by simp; omega
        go_enter Try.func77, Try.ntmps77
        go_wp2
theorem wrong_any (a b : Option Addr) (la ca lb cb : Nat) (w : World) :
    Calls Try.prog 80 #[.slice a la ca, .slice b lb cb] w fun e w' => e = .returned (.int .i64 (errOf la lb)) ∧ w = w' := by
  refine calls_post fun R hR => ?_
  by_cases h1 : 65536 < la
  · have e1 : errOf la lb = 3 := by unfold errOf; rw [if_pos (Or.inl h1)]
    rw [e1] at hR
    go_enter Try.func80, Try.ntmps80
    go_wp2
  · by_cases h2 : 65536 < lb
    · have e1 : errOf la lb = 3 := by unfold errOf; rw [if_pos (Or.inr h2)]
      rw [e1] at hR
      go_enter Try.func80, Try.ntmps80
      go_wp2
    · by_cases h3 : la = lb
      · have e1 : errOf la lb = 0 := by unfold errOf; rw [if_neg (by omega), if_pos h3]
        rw [e1] at hR
        subst h3
        go_enter Try.func80, Try.ntmps80
        go_wp2
      · have e1 : errOf la lb = 4 := by unfold errOf; rw [if_neg (by omega), if_neg h3]
        rw [e1] at hR
        have h4 : ((la : Int) != (lb : Int)) = true := by simp; omega
        go_enter Try.func80, Try.ntmps80
        go_wp2
/-- Place by place. -/
def zipTo (g : Nat × Nat → Nat × Nat → Nat × Nat) (xs bs ys : List Value) (k : Nat) : Prop := (ys.take k).map numOf = List.zipWith g ((xs.take k).map numOf) ((bs.take k).map numOf)
theorem zipTo_set {g : Nat × Nat → Nat × Nat → Nat × Nat} {xs bs ys : List Value} {k : Nat} (h : zipTo g xs bs ys k) (hx : k < xs.length) (hb : k < bs.length) (hy : k < ys.length) {u : Value} (hu : numOf u = g (numOf (xs.getD k undef)) (numOf (bs.getD k undef))) :
    zipTo g xs bs (ys.set k u) (k + 1) := by
  unfold zipTo at *
  rw [List.take_succ_eq_append_getElem (by simpa using hy), List.take_succ_eq_append_getElem hx, List.take_succ_eq_append_getElem hb, List.take_set_of_le (Nat.le_refl _), List.map_append, List.map_append, List.map_append, h,
    List.zipWith_append (by simp; omega)]
  simp only [List.getElem_set_self, List.map_cons, List.map_nil, List.zipWith_cons_cons, List.zipWith_nil_left, hu]
  rw [List.getD_eq_getElem?_getD, List.getElem?_eq_getElem hx, List.getD_eq_getElem?_getD, List.getElem?_eq_getElem hb]
  rfl
theorem zipTo_snoc {g : Nat × Nat → Nat × Nat → Nat × Nat} {xs bs ys : List Value} {k : Nat} (h : zipTo g xs bs ys k) (hx : k < xs.length) (hb : k < bs.length) (hy : ys.length = k) {u : Value} (hu : numOf u = g (numOf (xs.getD k undef)) (numOf (bs.getD k undef))) :
    zipTo g xs bs (ys ++ [u]) (k + 1) := by
  unfold zipTo at *
  rw [List.take_of_length_le (by simp; omega), List.take_succ_eq_append_getElem hx, List.take_succ_eq_append_getElem hb, List.map_append, List.map_append, List.map_append,
    List.zipWith_append (by simp; omega), ← h, List.take_of_length_le (by omega)]
  simp only [List.map_cons, List.map_nil, List.zipWith_cons_cons, List.zipWith_nil_left, hu]
  rw [List.getD_eq_getElem?_getD, List.getElem?_eq_getElem hx, List.getD_eq_getElem?_getD, List.getElem?_eq_getElem hb]
  rfl
def zadd (x y : Nat × Nat) : Nat × Nat := (fadd x.1 y.1, fadd x.2 y.2)
def zsub (x y : Nat × Nat) : Nat × Nat := (fsub x.1 y.1, fsub x.2 y.2)
def zmul (x y : Nat × Nat) : Nat × Nat := (fsub (fmul x.1 y.1) (fmul x.2 y.2), fadd (fmul x.1 y.2) (fmul x.2 y.1))
def zconj (x : Nat × Nat) : Nat × Nat := (x.1, fneg x.2)
def zsize1 (x : Nat × Nat) : Nat := fadd (fabs x.1) (fabs x.2)
/-- What two vectors come to, place by place. -/
def vecRes (g : Nat × Nat → Nat × Nat → Nat × Nat) (xs bs : List Value) : List (Nat × Nat) := if errOf xs.length bs.length = 0 then List.zipWith g (xs.map numOf) (bs.map numOf) else []
theorem vecRes_ok {g : Nat × Nat → Nat × Nat → Nat × Nat} {xs bs : List Value} {la lb : Nat} (l1 : xs.length = la) (l2 : bs.length = lb) (h : errOf la lb = 0) : vecRes g xs bs = List.zipWith g (xs.map numOf) (bs.map numOf) := by
  unfold vecRes; rw [l1, l2, if_pos h]
theorem vecRes_no {g : Nat × Nat → Nat × Nat → Nat × Nat} {xs bs : List Value} {la lb : Nat} (l1 : xs.length = la) (l2 : bs.length = lb) (h : ¬ errOf la lb = 0) : vecRes g xs bs = [] := by
  unfold vecRes; rw [l1, l2, if_neg h]
theorem vecRes_length {g : Nat × Nat → Nat × Nat → Nat × Nat} {xs bs : List Value} : (vecRes g xs bs).length ≤ xs.length := by
  unfold vecRes
  split
  · simp; omega
  · simp
/-- A call that answers a list of numbers of its own, and an error. -/
def ListC (zs : List (Nat × Nat)) (er : Int) (w : World) (e : Ending) (w' : World) : Prop :=
  ∃ v ys, e = .returned (.tuple #[v, .int .i64 er]) ∧ Nums ys ∧ ys.map numOf = zs ∧ w'.ownsRow w.heap.size 29 1 v ys.length ys ∧ Below w.heap.size w w'
theorem both_add (a b : Option Addr) (la ca lb cb : Nat) (xs bs : List Value) (w : World) (h1 : Row w a xs) (h2 : Row w b bs) (l1 : xs.length = la) (l2 : bs.length = lb) (hx : Nums xs) (hb : Nums bs) :
    Calls Try.prog 74 #[.slice a la ca, .slice b lb cb, .func (.func 75) #[] #[]] w (ListC (vecRes zadd xs bs) (errOf la lb) w) := by
  refine calls_post fun R hR => ?_
  by_cases he : errOf la lb = 0
  · obtain ⟨rfl, hle⟩ := errOf_ok he
    rw [vecRes_ok l1 l2 he, he] at hR
    have HE := Lib.hid he; clear he
    have L1 := Lib.hid l1; have L2 := Lib.hid l2; clear l1 l2
    go_enter Try.func74, Try.ntmps74
    go_wp2_with (first | (go_at_call 77; refine (may_any _ _ _ _ _ _ _).mono ?_; rintro e w1 ⟨rfl, rfl⟩; rw [HE.out]) | (at_make; refine wpList_mk rfl (.tmp 19) (.tmp 19) rfl elem_c rfl rfl (by omega) (Nat.le_refl _) ?_; intro w1 hown1 hg1))
    go_loopw [10, 11, 23] (fun i x j wr => ∃ k : Nat, k ≤ la ∧ j = .int .i64 k ∧ (∃ ys, Nums ys ∧ Hid (zipTo zadd xs bs ys k) ∧ wr.ownsRow w.heap.size 29 1 (.slice (some ⟨w.heap.size, 0, none⟩) la la) la ys) ∧ Below w.heap.size w wr) (fun _ _ j _ => la - (intOf j).toNat)
    case atStart => exact ⟨0, Nat.zero_le _, rfl, ⟨_, nums_made _, rfl, hown1⟩, below_grown hg1⟩
    case round =>
      obtain ⟨k, hk, rfl, ⟨ys, hy, hz, hown⟩, hbl⟩ := hrel
      clear hown1 hg1
      by_cases hlt : k < la
      · obtain ⟨b1, o1, rfl⟩ := row_some h1 (j := k) (by have := L1.out; omega)
        obtain ⟨b2, o2, rfl⟩ := row_some h2 (j := k) (by have := L2.out; omega)
        have e1 := (h1.below hbl).at (j := k) (by have := L1.out; omega)
        have e2 := (h2.below hbl).at (j := k) (by have := L2.out; omega)
        obtain ⟨p1, q1, v1, _, _⟩ := nums_at hx (j := k) (by have := L1.out; omega)
        obtain ⟨p2, q2, v2, _, _⟩ := nums_at hb (j := k) (by have := L2.out; omega)
        have V1 := Lib.hid v1; have V2 := Lib.hid v2
        rw [v1] at e1; rw [v2] at e2
        clear v1 v2
        obtain ⟨u0, e3⟩ := own_cell hown hlt
        have hf := frozen_own hown k
        go_wp2_with (go_at_call 75; refine (add_any _ _ _ _ _).mono ?_; rintro e w2 ⟨r, s, rfl, hr, hs, nd, rfl⟩)
        have hB := hbl.size
        go_roundw
        case rel =>
          refine ⟨k + 1, by omega, by go_num, ⟨_, nums_setAll hy ⟨_, _, rfl, hr.1, hs.1⟩, zipTo_set hz (by have := L1.out; omega) (by have := L2.out; omega) (by have := hown.1; omega) ?_, ownsRow_setCell (w := wr.drewN nd) hown hlt _⟩, ?_⟩
          · rw [V1.out, V2.out]; simp only [numOf, zadd]; rw [hr.2, hs.2]
          · exact (below_drewN hbl nd).setCell (Nat.le_refl _) _
        case measure => simp [intOf]; omega
      · have hk' : k = la := by omega
        subst hk'
        have hl : ys.length = k := by have := hown.1; omega
        have hz' := hz.out
        unfold zipTo at hz'
        rw [List.take_of_length_le (by omega), List.take_of_length_le (by have := L1.out; omega), List.take_of_length_le (by have := L2.out; omega)] at hz'
        have HZ := Lib.hid hz'; clear hz'
        have HL := Lib.hid hl; clear hl
        go_wp2
        exact ⟨_, ys, rfl, hy, HZ.out, by rw [HL.out]; exact hown, hbl⟩
  · rw [vecRes_no l1 l2 he] at hR
    have hn : (errOf la lb != 0) = true := by simpa using he
    go_enter Try.func74, Try.ntmps74
    go_wp2_with (go_at_call 77; refine (may_any _ _ _ _ _ _ _).mono ?_; rintro e w1 ⟨rfl, rfl⟩)
    exact ⟨_, [], rfl, by simp [Nums], rfl, World.ownsRow_nil _ _ _ _, Below.refl _ _⟩
theorem both_sub (a b : Option Addr) (la ca lb cb : Nat) (xs bs : List Value) (w : World) (h1 : Row w a xs) (h2 : Row w b bs) (l1 : xs.length = la) (l2 : bs.length = lb) (hx : Nums xs) (hb : Nums bs) :
    Calls Try.prog 74 #[.slice a la ca, .slice b lb cb, .func (.func 76) #[] #[]] w (ListC (vecRes zsub xs bs) (errOf la lb) w) := by
  refine calls_post fun R hR => ?_
  by_cases he : errOf la lb = 0
  · obtain ⟨rfl, hle⟩ := errOf_ok he
    rw [vecRes_ok l1 l2 he, he] at hR
    have HE := Lib.hid he; clear he
    have L1 := Lib.hid l1; have L2 := Lib.hid l2; clear l1 l2
    go_enter Try.func74, Try.ntmps74
    go_wp2_with (first | (go_at_call 77; refine (may_any _ _ _ _ _ _ _).mono ?_; rintro e w1 ⟨rfl, rfl⟩; rw [HE.out]) | (at_make; refine wpList_mk rfl (.tmp 19) (.tmp 19) rfl elem_c rfl rfl (by omega) (Nat.le_refl _) ?_; intro w1 hown1 hg1))
    go_loopw [10, 11, 23] (fun i x j wr => ∃ k : Nat, k ≤ la ∧ j = .int .i64 k ∧ (∃ ys, Nums ys ∧ Hid (zipTo zsub xs bs ys k) ∧ wr.ownsRow w.heap.size 29 1 (.slice (some ⟨w.heap.size, 0, none⟩) la la) la ys) ∧ Below w.heap.size w wr) (fun _ _ j _ => la - (intOf j).toNat)
    case atStart => exact ⟨0, Nat.zero_le _, rfl, ⟨_, nums_made _, rfl, hown1⟩, below_grown hg1⟩
    case round =>
      obtain ⟨k, hk, rfl, ⟨ys, hy, hz, hown⟩, hbl⟩ := hrel
      clear hown1 hg1
      by_cases hlt : k < la
      · obtain ⟨b1, o1, rfl⟩ := row_some h1 (j := k) (by have := L1.out; omega)
        obtain ⟨b2, o2, rfl⟩ := row_some h2 (j := k) (by have := L2.out; omega)
        have e1 := (h1.below hbl).at (j := k) (by have := L1.out; omega)
        have e2 := (h2.below hbl).at (j := k) (by have := L2.out; omega)
        obtain ⟨p1, q1, v1, _, _⟩ := nums_at hx (j := k) (by have := L1.out; omega)
        obtain ⟨p2, q2, v2, _, _⟩ := nums_at hb (j := k) (by have := L2.out; omega)
        have V1 := Lib.hid v1; have V2 := Lib.hid v2
        rw [v1] at e1; rw [v2] at e2
        clear v1 v2
        obtain ⟨u0, e3⟩ := own_cell hown hlt
        have hf := frozen_own hown k
        go_wp2_with (go_at_call 76; refine (sub_any _ _ _ _ _).mono ?_; rintro e w2 ⟨r, s, rfl, hr, hs, nd, rfl⟩)
        have hB := hbl.size
        go_roundw
        case rel =>
          refine ⟨k + 1, by omega, by go_num, ⟨_, nums_setAll hy ⟨_, _, rfl, hr.1, hs.1⟩, zipTo_set hz (by have := L1.out; omega) (by have := L2.out; omega) (by have := hown.1; omega) ?_, ownsRow_setCell (w := wr.drewN nd) hown hlt _⟩, ?_⟩
          · rw [V1.out, V2.out]; simp only [numOf, zsub]; rw [hr.2, hs.2]
          · exact (below_drewN hbl nd).setCell (Nat.le_refl _) _
        case measure => simp [intOf]; omega
      · have hk' : k = la := by omega
        subst hk'
        have hl : ys.length = k := by have := hown.1; omega
        have hz' := hz.out
        unfold zipTo at hz'
        rw [List.take_of_length_le (by omega), List.take_of_length_le (by have := L1.out; omega), List.take_of_length_le (by have := L2.out; omega)] at hz'
        have HZ := Lib.hid hz'; clear hz'
        have HL := Lib.hid hl; clear hl
        go_wp2
        exact ⟨_, ys, rfl, hy, HZ.out, by rw [HL.out]; exact hown, hbl⟩
  · rw [vecRes_no l1 l2 he] at hR
    have hn : (errOf la lb != 0) = true := by simpa using he
    go_enter Try.func74, Try.ntmps74
    go_wp2_with (go_at_call 77; refine (may_any _ _ _ _ _ _ _).mono ?_; rintro e w1 ⟨rfl, rfl⟩)
    exact ⟨_, [], rfl, by simp [Nums], rfl, World.ownsRow_nil _ _ _ _, Below.refl _ _⟩
end Go.Proofs.Try
