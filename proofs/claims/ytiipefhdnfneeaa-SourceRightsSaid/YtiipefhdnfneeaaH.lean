/- Contracts: lists that share no memory. -/
import Derived.Test.YtiipefhdnfneeaaApp
import Derived.Test.YtiipefhdnfneeaaC
import Derived.IntWalk
namespace Go.Proofs.Try
open Go.RowKit Go.Gw
set_option maxRecDepth 100000
set_option linter.unusedSimpArgs false
set_option linter.unusedVariables false
theorem elem_cc : Elem Try.prog 39 23 (.slice none 0 0) 1 24 := ⟨by kernel_rfl, by kernel_rfl, rfl, by decide, by decide⟩
theorem mark_quiet (k i : Int) (w : World) {n : Nat} : Calls Try.prog 73 #[.int .i64 k, .int .i64 i] (w.drewN n) (fun e w' => e = .returned (.complex .f64 (markRe k i) (floatOfInt .f64 k)) ∧ ∃ m, w' = w.drewN m) :=
  (mark_any k i _).mono fun _ _ ⟨he, hw⟩ => ⟨he, n, hw.symm⟩
theorem same_quiet (a b : Nat) (W : World) {n : Nat} : Calls Try.prog 21 #[.complex .f64 a b, .complex .f64 a b] (W.drewN n) (fun e w' => e = .returned (.bool true) ∧ ∃ m, w' = W.drewN m) :=
  boolC_quiet (samenumber_any a b a b _) (by simp)
def mkC (j i : Nat) : Value := .complex .f64 (markRe ((j : Int) + 10) i) (floatOfInt .f64 ((j : Int) + 10))
set_option maxHeartbeats 4000000 in
theorem apartnumbers_any (w : World) (B L m c : Nat) (v : Nat → Value) (n : Nat → Nat) (xs : Nat → List Value)
    (hL : Row w (some ⟨L, 0, none⟩) ((List.range m).map v)) (hown : ∀ j, j < m → w.ownsRow B 29 1 (v j) (n j) (xs j)) (M : Many L m v)
    (hn : ∀ j, j < m → (n j + 6) * 16 ≤ 140737488355328) (hm : m ≤ 1000000) (hB : B ≤ w.heap.size) :
    Calls Try.prog 31 #[.slice (some ⟨L, 0, none⟩) m c] w (fun e w' => e = .returned (.bool true) ∧ Below B w w') := by
  refine calls_post fun R hR => ?_
  go_enter Try.func31, Try.ntmps31
  have hS : St1 mkC 29 w B L m v n 0 0 w := ⟨xs, hown, fun j hj => by omega, by simp [mks], hL, Below.refl _ _⟩
  have hLlt : 0 < m → L < w.heap.size := fun h0 => hL.lt (by simpa using h0)
  clear hown hL
  go_wp2
  go_loopw [3] (fun kk wr => ∃ k : Nat, k ≤ m ∧ kk = .int .i64 k ∧ St1 mkC 29 w B L m v n k 0 wr) (fun kk _ => m - (intOf kk).toNat)
  case atStart => exact ⟨0, Nat.zero_le _, rfl, hS⟩
  case round =>
    obtain ⟨k, hk, rfl, hs⟩ := hrel
    clear hS
    by_cases hlt : k < m
--{1
    · have hnk := hn k hlt
      go_wp2
      obtain ⟨wo, hwo⟩ : ∃ wo : World, wo = wr := ⟨_, rfl⟩
      rw [← hwo] at hs ⊢
      clear hwo
      go_loopw [4] (fun ii wq => ∃ i : Nat, i ≤ n k ∧ ii = .int .i64 i ∧ St1 mkC 29 w B L m v n k i wq) (fun ii _ => n k - (intOf ii).toNat)
      case atStart => exact ⟨0, Nat.zero_le _, rfl, hs⟩
      case round =>
        clear hs
        obtain ⟨i, hi, rfl, hs⟩ := hrel
        have hc := hs.cell hlt
        by_cases hli : i < n k
        · obtain ⟨b, cc, hv, ⟨u, hu⟩, hf⟩ := hs.at hlt hli
          rw [hv] at hc
          have hLb : b ≠ L := fun e => M.notL k hlt (by rw [hv, e]; rfl)
          have hk3 : ∀ x, (wr.setCell ⟨b, i, none⟩ x).cell? ⟨L, k, none⟩ = some (.slice (some ⟨b, 0, none⟩) (n k) cc) := fun x => by
            rw [← hc]; exact World.cell?_of_block (Below.heap_setCell _ _ _ _ (fun e => hLb e.symm))
          have HV := Lib.hid hv; clear hv
          have hw10 : IntKind.i64.wrap ((k : Int) + 10) = (k : Int) + 10 := IntWalk.i64_in _ (by omega)
          go_wp2
          go_region_held3 (fun w' => w'.cell? ⟨L, k, none⟩ = some (.slice (some ⟨b, 0, none⟩) (n k) cc)) (first | go_keep | exact hk3 _)
            ((go_at_call 73; refine (mark_any _ _ _).mono ?_; rintro e w2 ⟨rfl, rfl⟩))
          go_wp2
          go_roundw
          case rel => exact ⟨i + 1, by omega, by go_num, (hs.step M hlt hli HV.out).drew⟩
          case measure => simp [intOf]; omega
        · have hi' : i = n k := by omega
          subst hi'
          obtain ⟨a1, c1, hv⟩ := hs.shape hlt
          rw [hv] at hc
          clear hv
          go_wp2
          go_roundw
          case rel => exact ⟨k + 1, by omega, by go_num, hs.next hlt⟩
          case measure => simp [intOf]; omega
--}1
    · have hk' : k = m := by omega
      subst hk'
      have hS2 := hs.done (t2 := 23) (fun _ => undef)
      have hLs : 0 < k → L < w.heap.size := fun h0 => hLlt h0
      clear hs
      go_wp2
      obtain ⟨w3, hw3⟩ : ∃ w3 : World, w3 = wr := ⟨_, rfl⟩
      rw [← hw3] at hS2 ⊢
      clear hw3
      go_loopw [5, 6] (fun gsv kk wr => ∃ q : Nat, q ≤ k ∧ kk = .int .i64 q ∧ ∃ G, St2 mkC 29 23 w B L k v n q gsv G wr) (fun _ kk _ => k - (intOf kk).toNat)
      case atStart => exact ⟨0, Nat.zero_le _, rfl, _, hS2⟩
      case round =>
        clear hS2
        obtain ⟨q, hq, rfl, G, hs⟩ := hrel
        by_cases hlt : q < k
--{2
        · have hnq := hn q hlt
          have hc := hs.cell hlt
          obtain ⟨a1, c1, hv, _⟩ := ownsRow_row (hs.vown q hlt)
          have hcur := hs.start M hlt
          rw [hv] at hc hcur
          have HV := Lib.hid hv; clear hv
          go_wp2
          obtain ⟨wo, hwo⟩ : ∃ wo : World, wo = wr := ⟨_, rfl⟩
          rw [← hwo] at hs hc hcur ⊢
          clear hwo hc
          go_loopw [7, 8] (fun g ii wr => ∃ i : Nat, i ≤ 6 ∧ ii = .int .i64 i ∧ St2 mkC 29 23 w B L k v n q u5 G wr ∧ Cur mkC 29 B L k v n q u5 G g i wr) (fun _ ii _ => 6 - (intOf ii).toNat)
          case atStart => exact ⟨0, by omega, rfl, hs, hcur⟩
          case round =>
            clear hs hcur
            obtain ⟨i, hi, rfl, hs, hcur⟩ := hrel
            have hBr : B ≤ wr.heap.size := Nat.le_trans hB hs.below.size
            have hLr : L < wr.heap.size := Nat.lt_of_lt_of_le (hLs (by omega)) hs.below.size
            by_cases hli : i < 6
            · have hc := hs.cell hlt
              rw [HV.out] at hc
              have hk6 : k ≤ 1000000 := hm
              have hn6 : n q ≤ 140737488355328 := by omega
              go_wp2_with (first | ((go_at_call 73; refine (mark_any _ _ _).mono ?_; rintro e w2 ⟨rfl, rfl⟩)) | (at_builtin; refine wpList_appS rfl (.tmp 50) (.tmp 61) rfl elem_c (hcur.own.alloc _) rfl rfl (news_new _ _ _) rfl (one1 rfl) (by omega) (by simp; omega) (by decide) ?_; intro g' w2 hout))
              have e1 : Value.complex .f64 (markRe ((q : Int) + 10) ((n q : Int) + (i : Int))) (floatOfInt .f64 ((q : Int) + 10)) = mkC q (n q + i) := by simp [mkC]
              rw [e1] at hout
              have hR2 := (hs.alloc hBr _).app (hcur.alloc _) hlt (by simp; omega) (by simp; omega) hout
              go_roundw
              case rel => exact ⟨i + 1, by omega, by go_num, hR2⟩
              case measure => simp [intOf]; omega
            · have hi' : i = 6 := by omega
              subst hi'
              obtain ⟨a6, c6, hv6, _⟩ := ownsRow_row hcur.own
              subst hv6
              go_wp2_with (at_builtin; refine wpList_appS rfl (.tmp 63) (.tmp 65) rfl elem_cc (hs.gs.alloc _) rfl rfl (news_new _ _ _) rfl (one1 rfl) (by omega) (by simp; omega) (by decide) ?_; intro g' w2 hout)
              have hR2 := (hs.alloc hBr _).push (hcur.alloc _) hlt (by simp; omega) (by simp; omega) hout
              go_roundw
              case rel => exact ⟨q + 1, by omega, by go_num, _, hR2⟩
              case measure => simp [intOf]; omega
--}2
        · have hq' : q = k := by omega
          subst hq'
          go_wp2
          obtain ⟨w4, hw4⟩ : ∃ w4 : World, w4 = wr := ⟨_, rfl⟩
          rw [← hw4] at hs ⊢
          clear hw4
          go_loopw [9] (fun kk wr => ∃ p : Nat, p ≤ q ∧ kk = .int .i64 p ∧ Drew w4 wr) (fun kk _ => q - (intOf kk).toNat)
          case atStart => exact ⟨0, Nat.zero_le _, rfl, Drew.refl _⟩
          case round =>
            obtain ⟨p, hp, rfl, hd⟩ := hrel
            obtain ⟨ag, cg, hgv, _⟩ := ownsRow_row hs.gs
            by_cases hlt : p < q
            · have hnp := hn p hlt
              go_wp2
              obtain ⟨wo, hwo⟩ : ∃ wo : World, wo = wr := ⟨_, rfl⟩
              rw [← hwo] at hd ⊢
              clear hwo
              go_loopw [10] (fun ii wr => ∃ i : Nat, i ≤ n p + 6 ∧ ii = .int .i64 i ∧ Drew w4 wr) (fun ii _ => n p + 6 - (intOf ii).toNat)
              case atStart => exact ⟨0, by omega, rfl, hd⟩
              case round =>
                clear hd
                obtain ⟨i, hi, rfl, hd⟩ := hrel
                have hs2 := hs.drw hd
                obtain ⟨gb, cg, hgs, hgc⟩ := own_at hs2.gs (i := p) hlt
                have hGp : ((List.range q).map G).getD p undef = G p := by simp [List.getD_eq_getElem?_getD, hlt]
                rw [hGp] at hgc
                have hvc := hs2.cell hlt
                by_cases hli : i < n p + 6
                · obtain ⟨b1, c1, hG, hGc⟩ := own_at (hs2.gown p hlt) (i := i) hli
                  rw [mks_getD _ _ _ hli] at hGc
                  rw [hG] at hgc
                  clear hGp
                  have HG := Lib.hid hG; clear hG
                  have HV := Lib.hid hgs
                  subst hgs
                  have hw10 : IntKind.i64.wrap ((p : Int) + 10) = (p : Int) + 10 := IntWalk.i64_in _ (by omega)
                  by_cases hlv : i < n p
                  · obtain ⟨b2, c2, hv2, hv2c⟩ := own_at (hs2.vown p hlt) (i := i) hlv
                    rw [mks_getD _ _ _ hlv] at hv2c
                    rw [hv2] at hvc
                    clear hv2
                    simp only [mkC] at hGc hv2c
                    have d1 : decide ((i : Int) < (n p : Int)) = true := by simp; omega
                    have d2 : decide ((i : Int) < (n p : Int) + 6) = true := by simp; omega
                    go_wp2
                    go_quiet ((first | (go_at_call 73; exact mark_quiet _ _ _) | (go_at_call 21; exact same_quiet _ _ _)))
                    go_wp2
                    go_roundw
                    case rel => exact ⟨i + 1, by omega, by go_num, hd.drewN _⟩
                    case measure => simp [intOf]; omega
                  · obtain ⟨a2, c2, hv2, _⟩ := ownsRow_row (hs2.vown p hlt)
                    rw [hv2] at hvc
                    clear hv2
                    simp only [mkC] at hGc
                    have d1 : decide ((i : Int) < (n p : Int)) = false := by simp; omega
                    have d2 : decide ((i : Int) < (n p : Int) + 6) = true := by simp; omega
                    go_wp2
                    go_quiet ((first | (go_at_call 73; exact mark_quiet _ _ _) | (go_at_call 21; exact same_quiet _ _ _)))
                    go_wp2
                    go_roundw
                    case rel => exact ⟨i + 1, by omega, by go_num, hd.drewN _⟩
                    case measure => simp [intOf]; omega
                · have hi' : i = n p + 6 := by omega
                  subst hi'
                  obtain ⟨a1, c1, hG, _⟩ := ownsRow_row (hs2.gown p hlt)
                  rw [hG] at hgc
                  clear hGp hG
                  have HV := Lib.hid hgs
                  subst hgs
                  go_wp2
                  go_roundw
                  case rel => exact ⟨p + 1, by omega, by go_num, hd⟩
                  case measure => simp [intOf]; omega
            · have hp' : p = q := by omega
              subst hp'
              have hfin := Lib.hid (hs.drw hd).below
              subst hgv
              go_wp2
              exact ⟨rfl, hfin.out⟩
end Go.Proofs.Try
