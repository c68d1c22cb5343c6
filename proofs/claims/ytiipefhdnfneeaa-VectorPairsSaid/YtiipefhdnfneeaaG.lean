/- Contracts: inner products, norms; the reference's. -/
import Derived.Test.YtiipefhdnfneeaaF
namespace Go.Proofs.Try
open Go.RowKit Go.Gw
set_option maxRecDepth 100000
set_option linter.unusedSimpArgs false
set_option linter.unusedVariables false

theorem fold2_conj {xs ys bs : List Value} (h : ys.map numOf = xs.map (fun v => zconj (numOf v))) (k : Nat) : fold2 dotF ys bs k = fold2 innerF xs bs k := by
  unfold fold2
  have e1 : ∀ (l : List (Value × Value)) (s : ZZ), l.foldl (fun s p => dotF s (numOf p.1) (numOf p.2)) s = (l.map (fun p => (numOf p.1, p.2))).foldl (fun s p => dotF s p.1 (numOf p.2)) s := by
    intro l s; rw [List.foldl_map]
  have e2 : ∀ (l : List (Value × Value)) (s : ZZ), l.foldl (fun s p => innerF s (numOf p.1) (numOf p.2)) s = (l.map (fun p => (zconj (numOf p.1), p.2))).foldl (fun s p => dotF s p.1 (numOf p.2)) s := by
    intro l s; rw [List.foldl_map]; rfl
  rw [e1, e2]
  congr 1
  have m1 : (List.zip (ys.take k) (bs.take k)).map (fun p => (numOf p.1, p.2)) = List.zip ((ys.take k).map numOf) (bs.take k) := by
    rw [List.zip_map_left]; rfl
  have m2 : (List.zip (xs.take k) (bs.take k)).map (fun p => (zconj (numOf p.1), p.2)) = List.zip ((xs.take k).map (fun v => zconj (numOf v))) (bs.take k) := by
    rw [List.zip_map_left]; rfl
  rw [m1, m2, List.map_take, List.map_take, h]
theorem inner_any (a b : Option Addr) (la ca lb cb : Nat) (xs bs : List Value) (w : World) (h1 : Row w a xs) (h2 : Row w b bs) (l1 : xs.length = la) (l2 : bs.length = lb) (hx : Nums xs) (hb : Nums bs) :
    Calls Try.prog 15 #[.slice a la ca, .slice b lb cb] w (NumE (sumRes innerF xs bs) (errOf la lb) w) := by
  refine calls_post fun R hR => ?_
  by_cases he : errOf la lb = 0
  · rw [sumRes_ok l1 l2 he, he] at hR
    obtain ⟨rfl, hle⟩ := errOf_ok he
    have HE := Lib.hid he; clear he
    have L1 := Lib.hid l1; have L2 := Lib.hid l2; clear l1 l2
    go_enter Try.func15, Try.ntmps15
    go_wp2_with (first | (go_at_call 77; refine (may_any _ _ _ _ _ _ _).mono ?_; rintro e w1 ⟨rfl, rfl⟩; rw [HE.out]) | (go_at_call 16; refine (vconj_any _ _ _ _ _ h1 L1.out hx (by omega)).mono ?_; rintro e w1 ⟨v, ys, rfl, hy, hz, hown, hb1⟩; have HZ := Lib.hid hz; clear hz; obtain ⟨a3, c3, rfl, h3, _, _, l3⟩ := ownsRow_row hown; have L3 := Lib.hid l3; clear l3) | (go_at_call 14; refine (dot_any _ _ _ _ _ _ ys bs _ h3 (h2.below hb1) L3.out L2.out hy hb).mono ?_; rintro e w2 ⟨r, s, rfl, hr, hs, hb2⟩))
    have e0 : errOf xs.length la = 0 := by rw [L1.out]; exact HE.out
    have e1 : sumRes dotF ys bs = fold2 innerF xs bs la := by
      rw [sumRes_ok L3.out L2.out e0, fold2_conj HZ.out, L1.out]
    rw [e1] at hr hs
    exact ⟨r, s, by rw [e0]; rfl, hr, hs, below_call hb1 hb2 hb1.size⟩
  · rw [sumRes_no l1 l2 he] at hR
    have hn : (errOf la lb != 0) = true := by simpa using he
    go_enter Try.func15, Try.ntmps15
    go_wp2_with (go_at_call 77; refine (may_any _ _ _ _ _ _ _).mono ?_; rintro e w1 ⟨rfl, rfl⟩)
    exact ⟨_, _, rfl, is0, is0, Below.refl _ _⟩
theorem rdot_any (a b : Option Addr) (la ca lb cb : Nat) (xs bs : List Value) (w : World) (h1 : Row w a xs) (h2 : Row w b bs) (l1 : xs.length = la) (l2 : bs.length = lb) (hx : Nums xs) (hb : Nums bs) :
    Calls Try.prog 19 #[.slice a la ca, .slice b lb cb] w (NumE (sumRes dotF xs bs) (errOf la lb) w) := by
  refine calls_post fun R hR => ?_
  by_cases he : errOf la lb = 0
  · rw [sumRes_ok l1 l2 he, he] at hR
    obtain ⟨rfl, hle⟩ := errOf_ok he
    have HE := Lib.hid he; clear he
    have L1 := Lib.hid l1; have L2 := Lib.hid l2; clear l1 l2
    go_enter Try.func19, Try.ntmps19
    go_wp2_with (go_at_call 80; refine (wrong_any _ _ _ _ _ _ _).mono ?_; rintro e w1 ⟨rfl, rfl⟩; rw [HE.out])
    go_loopw [7, 8] (fun v j wr => ∃ k : Nat, k ≤ la ∧ j = .int .i64 k ∧ (∃ r s, v = .complex .f64 r s ∧ Hid (Is r (fold2 dotF xs bs k).1 ∧ Is s (fold2 dotF xs bs k).2)) ∧ Drew w wr) (fun _ j _ => la - (intOf j).toNat)
    case atStart => exact ⟨0, Nat.zero_le _, rfl, ⟨0, 0, rfl, is0, is0⟩, Drew.refl _⟩
    case round =>
      obtain ⟨k, hk, rfl, ⟨r, s, rfl, hz⟩, hd⟩ := hrel
      by_cases hlt : k < la
      · obtain ⟨b1, o1, rfl⟩ := row_some h1 (j := k) (by have := L1.out; omega)
        obtain ⟨b2, o2, rfl⟩ := row_some h2 (j := k) (by have := L2.out; omega)
        have e1 := (drew_row hd h1).at (j := k) (by have := L1.out; omega)
        have e2 := (drew_row hd h2).at (j := k) (by have := L2.out; omega)
        obtain ⟨p1, q1, v1, _, _⟩ := nums_at hx (j := k) (by have := L1.out; omega)
        obtain ⟨p2, q2, v2, _, _⟩ := nums_at hb (j := k) (by have := L2.out; omega)
        have V1 := Lib.hid v1; have V2 := Lib.hid v2
        rw [v1] at e1; rw [v2] at e2
        clear v1 v2
        go_wp2
        go_region_held3 (fun w' => w'.cell? ⟨b1, o1 + k, none⟩ = some (.complex .f64 p1 q1) ∧ w'.cell? ⟨b2, o2 + k, none⟩ = some (.complex .f64 p2 q2)) (go_keep)
          (first | (go_at_call 83; refine (refmul_any _ _ _ _ _).mono ?_; rintro e w2 ⟨r1, s1, rfl, hr1, hs1, nd1, rfl⟩) | (go_at_call 81; refine (refadd_any _ _ _ _ _).mono ?_; rintro e w2 ⟨r2, s2, rfl, hr2, hs2, nd2, rfl⟩))
        go_wp2
        go_roundw
        case rel =>
          refine ⟨k + 1, by omega, by go_num, ⟨_, _, rfl, ?_⟩, (hd.drewN _)⟩
          have := hz.out
          rw [fold2_succ (by have := L1.out; omega) (by have := L2.out; omega), V1.out, V2.out]
          refine (show Is r2 _ ∧ Is s2 _ from ?_)
          simp only [dotF, zadd, zmul, zconj, numOf]
          rw [this.1.2, hr1.2] at hr2
          rw [this.2.2, hs1.2] at hs2
          first | exact ⟨hr2, hs2⟩ | (rw [hr0.2, hs0.2] at hr2; rw [hr0.2, hs0.2] at hs2; exact ⟨hr2, hs2⟩)
        case measure => simp [intOf]; omega
      · have hk' : k = la := by omega
        subst hk'
        go_wp2
        have := hz.out
        exact ⟨_, _, rfl, this.1, this.2, hd.below _⟩
  · rw [sumRes_no l1 l2 he] at hR
    have hn : (errOf la lb == 0) = false := by simpa using he
    go_enter Try.func19, Try.ntmps19
    go_wp2_with (go_at_call 80; refine (wrong_any _ _ _ _ _ _ _).mono ?_; rintro e w1 ⟨rfl, rfl⟩)
    go_loopw [7, 8] (fun v i wr => v = .complex .f64 0 0 ∧ i = .int .i64 0 ∧ w = wr) (fun _ i _ => 0)
    case atStart => exact ⟨rfl, rfl, rfl⟩
    case round =>
      obtain ⟨rfl, rfl, rfl⟩ := hrel
      go_wp2
      exact ⟨_, _, rfl, is0, is0, Below.refl _ _⟩
theorem rinner_any (a b : Option Addr) (la ca lb cb : Nat) (xs bs : List Value) (w : World) (h1 : Row w a xs) (h2 : Row w b bs) (l1 : xs.length = la) (l2 : bs.length = lb) (hx : Nums xs) (hb : Nums bs) :
    Calls Try.prog 20 #[.slice a la ca, .slice b lb cb] w (NumE (sumRes innerF xs bs) (errOf la lb) w) := by
  refine calls_post fun R hR => ?_
  by_cases he : errOf la lb = 0
  · rw [sumRes_ok l1 l2 he, he] at hR
    obtain ⟨rfl, hle⟩ := errOf_ok he
    have HE := Lib.hid he; clear he
    have L1 := Lib.hid l1; have L2 := Lib.hid l2; clear l1 l2
    go_enter Try.func20, Try.ntmps20
    go_wp2_with (go_at_call 80; refine (wrong_any _ _ _ _ _ _ _).mono ?_; rintro e w1 ⟨rfl, rfl⟩; rw [HE.out])
    go_loopw [7, 8] (fun v j wr => ∃ k : Nat, k ≤ la ∧ j = .int .i64 k ∧ (∃ r s, v = .complex .f64 r s ∧ Hid (Is r (fold2 innerF xs bs k).1 ∧ Is s (fold2 innerF xs bs k).2)) ∧ Drew w wr) (fun _ j _ => la - (intOf j).toNat)
    case atStart => exact ⟨0, Nat.zero_le _, rfl, ⟨0, 0, rfl, is0, is0⟩, Drew.refl _⟩
    case round =>
      obtain ⟨k, hk, rfl, ⟨r, s, rfl, hz⟩, hd⟩ := hrel
      by_cases hlt : k < la
      · obtain ⟨b1, o1, rfl⟩ := row_some h1 (j := k) (by have := L1.out; omega)
        obtain ⟨b2, o2, rfl⟩ := row_some h2 (j := k) (by have := L2.out; omega)
        have e1 := (drew_row hd h1).at (j := k) (by have := L1.out; omega)
        have e2 := (drew_row hd h2).at (j := k) (by have := L2.out; omega)
        obtain ⟨p1, q1, v1, _, _⟩ := nums_at hx (j := k) (by have := L1.out; omega)
        obtain ⟨p2, q2, v2, _, _⟩ := nums_at hb (j := k) (by have := L2.out; omega)
        have V1 := Lib.hid v1; have V2 := Lib.hid v2
        rw [v1] at e1; rw [v2] at e2
        clear v1 v2
        go_wp2
        go_region_held3 (fun w' => w'.cell? ⟨b1, o1 + k, none⟩ = some (.complex .f64 p1 q1) ∧ w'.cell? ⟨b2, o2 + k, none⟩ = some (.complex .f64 p2 q2)) (go_keep)
          (first | (go_at_call 84; refine (refconj_any _ _ _ (by assumption) (by assumption)).mono ?_; rintro e w2 ⟨r0, s0, rfl, hr0, hs0, nd0, rfl⟩) |(go_at_call 83; refine (refmul_any _ _ _ _ _).mono ?_; rintro e w2 ⟨r1, s1, rfl, hr1, hs1, nd1, rfl⟩) | (go_at_call 81; refine (refadd_any _ _ _ _ _).mono ?_; rintro e w2 ⟨r2, s2, rfl, hr2, hs2, nd2, rfl⟩))
        go_wp2
        go_roundw
        case rel =>
          refine ⟨k + 1, by omega, by go_num, ⟨_, _, rfl, ?_⟩, (hd.drewN _)⟩
          have := hz.out
          rw [fold2_succ (by have := L1.out; omega) (by have := L2.out; omega), V1.out, V2.out]
          refine (show Is r2 _ ∧ Is s2 _ from ?_)
          simp only [innerF, zadd, zmul, zconj, numOf]
          rw [this.1.2, hr1.2] at hr2
          rw [this.2.2, hs1.2] at hs2
          first | exact ⟨hr2, hs2⟩ | (rw [hr0.2, hs0.2] at hr2; rw [hr0.2, hs0.2] at hs2; exact ⟨hr2, hs2⟩)
        case measure => simp [intOf]; omega
      · have hk' : k = la := by omega
        subst hk'
        go_wp2
        have := hz.out
        exact ⟨_, _, rfl, this.1, this.2, hd.below _⟩
  · rw [sumRes_no l1 l2 he] at hR
    have hn : (errOf la lb == 0) = false := by simpa using he
    go_enter Try.func20, Try.ntmps20
    go_wp2_with (go_at_call 80; refine (wrong_any _ _ _ _ _ _ _).mono ?_; rintro e w1 ⟨rfl, rfl⟩)
    go_loopw [7, 8] (fun v i wr => v = .complex .f64 0 0 ∧ i = .int .i64 0 ∧ w = wr) (fun _ i _ => 0)
    case atStart => exact ⟨rfl, rfl, rfl⟩
    case round =>
      obtain ⟨rfl, rfl, rfl⟩ := hrel
      go_wp2
      exact ⟨_, _, rfl, is0, is0, Below.refl _ _⟩
def norm1F (s : Nat) (z : ZZ) : Nat := fadd s (zsize1 z)
def fgt (x y : Nat) : Bool := Ieee.double.order x y == some .gt
def normMaxF (s : Nat) (z : ZZ) : Nat := if fgt (zsize1 z) s then zsize1 z else s
theorem norm1_any (a : Option Addr) (la ca : Nat) (xs : List Value) (w : World) (h1 : Row w a xs) (l1 : xs.length = la) (hx : Nums xs) (m1 : la ≤ 9223372036854775807) :
    Calls Try.prog 23 #[.slice a la ca] w (RealC (fold1 norm1F xs la) w) := by
  refine calls_post fun R hR => ?_
  have L1 := Lib.hid l1; clear l1
  go_enter Try.func23, Try.ntmps23
  go_wp2
  go_loopw [3, 5, 8] (fun v _ j wr => ∃ k : Nat, k ≤ la ∧ j = .int .i64 k ∧ (∃ r, v = .float .f64 r ∧ Hid (Is r (fold1 norm1F xs k))) ∧ Drew w wr) (fun v _ j _ => la - (intOf j).toNat)
  case atStart => exact ⟨0, Nat.zero_le _, rfl, ⟨0, rfl, is0⟩, Drew.refl _⟩
  case round =>
    obtain ⟨k, hk, rfl, ⟨r, rfl, hz⟩, hd⟩ := hrel
    by_cases hlt : k < la
    · obtain ⟨b1, o1, rfl⟩ := row_some h1 (j := k) (by have := L1.out; omega)
      have e1 := (drew_row hd h1).at (j := k) (by have := L1.out; omega)
      obtain ⟨p1, q1, v1, g1, g2⟩ := nums_at hx (j := k) (by have := L1.out; omega)
      have V1 := Lib.hid v1
      rw [v1] at e1
      clear v1
      go_wp2_with (go_at_call 86; refine (size1_any _ _ _ g1 g2).mono ?_; rintro e w2 ⟨r1, rfl, hr1, nd1, rfl⟩)
      go_roundw
      case rel =>
        refine ⟨k + 1, by omega, by go_num, ⟨_, rfl, ?_⟩, hd.trans ⟨_, rfl⟩⟩
        have := hz.out
        rw [fold1_succ (by have := L1.out; omega), V1.out]
        exact fres_add _ _ _ this.2 hr1.2
      case measure => simp [intOf]; omega
    · have hk' : k = la := by omega
      subst hk'
      go_wp2
      exact ⟨_, rfl, hz.out, hd⟩
theorem rnorm1_any (a : Option Addr) (la ca : Nat) (xs : List Value) (w : World) (h1 : Row w a xs) (l1 : xs.length = la) (hx : Nums xs) (m1 : la ≤ 9223372036854775807) :
    Calls Try.prog 24 #[.slice a la ca] w (RealC (fold1 norm1F xs la) w) := by
  refine calls_post fun R hR => ?_
  have L1 := Lib.hid l1; clear l1
  go_enter Try.func24, Try.ntmps24
  go_wp2
  go_loopw [3, 4] (fun v j wr => ∃ k : Nat, k ≤ la ∧ j = .int .i64 k ∧ (∃ r, v = .float .f64 r ∧ Hid (Is r (fold1 norm1F xs k))) ∧ Drew w wr) (fun v j _ => la - (intOf j).toNat)
  case atStart => exact ⟨0, Nat.zero_le _, rfl, ⟨0, rfl, is0⟩, Drew.refl _⟩
  case round =>
    obtain ⟨k, hk, rfl, ⟨r, rfl, hz⟩, hd⟩ := hrel
    by_cases hlt : k < la
    · obtain ⟨b1, o1, rfl⟩ := row_some h1 (j := k) (by have := L1.out; omega)
      have e1 := (drew_row hd h1).at (j := k) (by have := L1.out; omega)
      obtain ⟨p1, q1, v1, g1, g2⟩ := nums_at hx (j := k) (by have := L1.out; omega)
      have V1 := Lib.hid v1
      rw [v1] at e1
      clear v1
      go_wp2_with (go_at_call 87; refine (refsize1_any _ _ _ g1 g2).mono ?_; rintro e w2 ⟨r1, rfl, hr1, nd1, rfl⟩)
      go_roundw
      case rel =>
        refine ⟨k + 1, by omega, by go_num, ⟨_, rfl, ?_⟩, hd.trans ⟨_, rfl⟩⟩
        have := hz.out
        rw [fold1_succ (by have := L1.out; omega), V1.out]
        exact fres_add _ _ _ this.2 hr1.2
      case measure => simp [intOf]; omega
    · have hk' : k = la := by omega
      subst hk'
      go_wp2
      exact ⟨_, rfl, hz.out, hd⟩
theorem gt_cn {a b A B : Nat} (ha : Is a A) (hb : Is b B) : (FloatKind.f64.format.order a b == some .gt) = fgt A B := by
  rw [format_f64, order_of ha.2 hb.2]; rfl
theorem normmax_any (a : Option Addr) (la ca : Nat) (xs : List Value) (w : World) (h1 : Row w a xs) (l1 : xs.length = la) (hx : Nums xs) (m1 : la ≤ 9223372036854775807) :
    Calls Try.prog 25 #[.slice a la ca] w (RealC (fold1 normMaxF xs la) w) := by
  refine calls_post fun R hR => ?_
  have L1 := Lib.hid l1; clear l1
  go_enter Try.func25, Try.ntmps25
  go_wp2
  go_loopw [3, 5, 6, 9] (fun v _ _ j wr => ∃ k : Nat, k ≤ la ∧ j = .int .i64 k ∧ (∃ r, v = .float .f64 r ∧ Hid (Is r (fold1 normMaxF xs k))) ∧ Drew w wr) (fun v _ _ j _ => la - (intOf j).toNat)
  case atStart => exact ⟨0, Nat.zero_le _, rfl, ⟨0, rfl, is0⟩, Drew.refl _⟩
  case round =>
    obtain ⟨k, hk, rfl, ⟨r, rfl, hz⟩, hd⟩ := hrel
    by_cases hlt : k < la
    · obtain ⟨b1, o1, rfl⟩ := row_some h1 (j := k) (by have := L1.out; omega)
      have e1 := (drew_row hd h1).at (j := k) (by have := L1.out; omega)
      obtain ⟨p1, q1, v1, g1, g2⟩ := nums_at hx (j := k) (by have := L1.out; omega)
      have V1 := Lib.hid v1
      rw [v1] at e1
      clear v1
      have HS := Lib.hid (fold1_succ (f := normMaxF) (xs := xs) (k := k) (by have := L1.out; omega))
      cases hg : fgt (fadd (fabs (cn p1)) (fabs (cn q1))) (fold1 normMaxF xs k)
      all_goals
        have HG := Lib.hid hg; clear hg
        go_wp2_with (go_at_call 86; refine (size1_any _ _ _ g1 g2).mono ?_; rintro e w2 ⟨r1, rfl, hr1, nd1, rfl⟩; first | (have _t := tok1) | (have tok1 : True := trivial; have hgt := gt_cn hr1 hz.out; rw [HG.out] at hgt))
        go_roundw
        case rel =>
          refine ⟨k + 1, by omega, by go_num, ⟨_, rfl, ?_⟩, hd.trans ⟨_, rfl⟩⟩
          have := hz.out
          have hg := HG.out
          rw [HS.out, V1.out]
          simp only [normMaxF, numOf, zsize1, hg]
          first | exact this | exact hr1
        case measure => simp [intOf]; omega
    · have hk' : k = la := by omega
      subst hk'
      go_wp2
      exact ⟨_, rfl, hz.out, hd⟩
theorem rnormmax_any (a : Option Addr) (la ca : Nat) (xs : List Value) (w : World) (h1 : Row w a xs) (l1 : xs.length = la) (hx : Nums xs) (m1 : la ≤ 9223372036854775807) :
    Calls Try.prog 26 #[.slice a la ca] w (RealC (fold1 normMaxF xs la) w) := by
  refine calls_post fun R hR => ?_
  have L1 := Lib.hid l1; clear l1
  go_enter Try.func26, Try.ntmps26
  go_wp2
  go_loopw [3, 4] (fun v j wr => ∃ k : Nat, k ≤ la ∧ j = .int .i64 k ∧ (∃ r, v = .float .f64 r ∧ Hid (Is r (fold1 normMaxF xs k))) ∧ Drew w wr) (fun v j _ => la - (intOf j).toNat)
  case atStart => exact ⟨0, Nat.zero_le _, rfl, ⟨0, rfl, is0⟩, Drew.refl _⟩
  case round =>
    obtain ⟨k, hk, rfl, ⟨r, rfl, hz⟩, hd⟩ := hrel
    by_cases hlt : k < la
    · obtain ⟨b1, o1, rfl⟩ := row_some h1 (j := k) (by have := L1.out; omega)
      have e1 := (drew_row hd h1).at (j := k) (by have := L1.out; omega)
      obtain ⟨p1, q1, v1, g1, g2⟩ := nums_at hx (j := k) (by have := L1.out; omega)
      have V1 := Lib.hid v1
      rw [v1] at e1
      clear v1
      have HS := Lib.hid (fold1_succ (f := normMaxF) (xs := xs) (k := k) (by have := L1.out; omega))
      cases hg : fgt (fadd (fabs (cn p1)) (fabs (cn q1))) (fold1 normMaxF xs k)
      all_goals
        have HG := Lib.hid hg; clear hg
        go_wp2_with (go_at_call 87; refine (refsize1_any _ _ _ g1 g2).mono ?_; rintro e w2 ⟨r1, rfl, hr1, nd1, rfl⟩; first | (have _t := tok1) | (have tok1 : True := trivial; have hgt := gt_cn hr1 hz.out; rw [HG.out] at hgt))
        go_roundw
        case rel =>
          refine ⟨k + 1, by omega, by go_num, ⟨_, rfl, ?_⟩, hd.trans ⟨_, rfl⟩⟩
          have := hz.out
          have hg := HG.out
          rw [HS.out, V1.out]
          simp only [normMaxF, numOf, zsize1, hg]
          first | exact this | exact hr1
        case measure => simp [intOf]; omega
    · have hk' : k = la := by omega
      subst hk'
      go_wp2
      exact ⟨_, rfl, hz.out, hd⟩
end Go.Proofs.Try
