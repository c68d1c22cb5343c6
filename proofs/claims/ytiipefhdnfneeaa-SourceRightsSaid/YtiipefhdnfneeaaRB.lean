/- The document's nets: nodes, places. -/
import Derived.Test.YtiipefhdnfneeaaRA
import Derived.Deep.QuietTactic
import Derived.BigQuiet
namespace Go.Proofs.Try
open Go.RowKit Go.Gw
set_option maxRecDepth 100000
set_option linter.unusedSimpArgs false
set_option linter.unusedVariables false

def anyIs (l : List ByteArray) (s : ByteArray) : Bool := l.any fun x => seq x s
def oldNode (N : List ByteArray) (s : ByteArray) (i : Nat) : Bool := seq s ⟨#[]⟩ || seq s zeroTxt || anyIs (N.take i) s
theorem oldNode_succ {N : List ByteArray} {s : ByteArray} {i : Nat} (h : i < N.length) : oldNode N s (i + 1) = (oldNode N s i || seq (N.getD i ⟨#[]⟩) s) := by
  unfold oldNode anyIs; rw [any_take_succ _ h ⟨#[]⟩, Bool.or_assoc, Bool.or_assoc, Bool.or_assoc]
theorem addNode_old {N : List ByteArray} {s : ByteArray} : addNode N s = if oldNode N s N.length then N else N ++ [s] := by
  unfold addNode oldNode anyIs; rw [List.take_length]
theorem addTo_four (N : List ByteArray) (x : El) : addTo N x 4 = addEl N x := by rfl
set_option maxHeartbeats 2000000 in
theorem rnodes_net (w : World) (p : Nat) (es : List El) (h : RNetIs w p es) (hn : es.length ≤ 1000) :
    Calls Try.prog 93 #[.pointer (some ⟨p, 0, none⟩)] w (fun e w' => ∃ v, e = .returned v ∧ w'.ownsRow w.heap.size 9 1 v (nodesOf es).length (txts (nodesOf es)) ∧ Below w.heap.size w w') := by
  refine calls_post fun R hR => ?_
  go_enter Try.func93, Try.ntmps93
  go_wp2_with fail
  refine (relements_net _ _ _ h (by omega)).mono ?_
  rintro e w1 ⟨v, rfl, o1, b1⟩
  obtain ⟨a, c, rfl, hrow, _, _, _⟩ := ownsRow_rows o1
  go_wp2
  generalize hes : es.length = n at hn
  have L := Lib.hid hes; clear hes
  go_loopw [3, 5, 6, 7, 8, 9] (fun v i _ _ _ _ wr => ∃ k : Nat, k ≤ n ∧ i = .int .i64 k ∧ wr.ownsRow w1.heap.size 9 1 v (nodesOf (es.take k)).length (txts (nodesOf (es.take k))) ∧ Below w1.heap.size w1 wr) (fun _ i _ _ _ _ _ => n - (intOf i).toNat)
  case atStart => exact ⟨0, Nat.zero_le _, rfl, World.ownsRow_nil _ _ _ _, Below.refl _ _⟩
  case round =>
    obtain ⟨k, hk, rfl, hown, hb⟩ := hrel
    obtain ⟨wo, rfl⟩ : ∃ wo : World, wo = wr := ⟨_, rfl⟩
    by_cases hlt : k < n
    · have hlz : k < es.length := by have := L.out; omega
      obtain ⟨b, off, rfl⟩ := row_some hrow (j := k * 8) (by rw [elCells_length]; omega)
      have hrow' := hrow.below hb
      obtain ⟨e0, e1, e2, e3, e4, e5, e6, e7⟩ := row_el hrow' hlz
      have ht := Lib.hid (take_step hlz)
      have hlen := nodesOf_len (es.take k)
      have hlt' : (es.take k).length ≤ k := List.length_take_le _ _
      have hbl : b < wo.heap.size := hrow'.lt (by rw [elCells_length]; omega)
      generalize es.getD k el0 = z at e0 e1 e2 e3 e4 e5 e6 e7 ht
      obtain ⟨kind, name, na, nb, nc, nd, val, ph⟩ := z
      simp only at e0 e1 e2 e3 e4 e5 e6 e7
      have hs1 := b1.size
      have hs2 := hb.size
      generalize hN : nodesOf (es.take k) = N at hown hlen
      have HN := Lib.hid hN; clear hN
      go_wp2
      go_region_held3 (fun w' => w'.cell? ⟨b, off + k * 8 + 2, none⟩ = some (.string na) ∧ w'.cell? ⟨b, off + k * 8 + 3, none⟩ = some (.string nb) ∧ w'.cell? ⟨b, off + k * 8 + 4, none⟩ = some (.string nc) ∧ w'.cell? ⟨b, off + k * 8 + 5, none⟩ = some (.string nd))
        (first | exact ⟨e2, e3, e4, e5⟩ | go_keep)
        (first | fail)
      go_wp2
      have hfour0 : (wo.alloc (.cells #[.string na, .string nb, .string nc, .string nd] 9)).heap[wo.heap.size]? = some (.cells #[.string na, .string nb, .string nc, .string nd] 9) := alloc_self _ _
      go_loopw [3, 7, 8, 9] (fun v j _ _ wr => ∃ q : Nat, q ≤ 4 ∧ j = .int .i64 q ∧ wr.ownsRow w1.heap.size 9 1 v (addTo N ⟨kind, name, na, nb, nc, nd, val, ph⟩ q).length (txts (addTo N ⟨kind, name, na, nb, nc, nd, val, ph⟩ q)) ∧ Below w1.heap.size w1 wr ∧ wr.heap[wo.heap.size]? = some (.cells #[.string na, .string nb, .string nc, .string nd] 9) ∧ v.ownBlock ≠ some wo.heap.size) (fun _ j _ _ _ => 4 - (intOf j).toNat)
      case atStart =>
        refine ⟨0, by omega, rfl, (ownsRow_below hown ⟨rfl, rfl, rfl, Nat.le_refl _, fun _ _ => rfl⟩).alloc _, ?_, alloc_self _ _, fun e => ?_⟩
        · exact (hb.alloc hs2 _).drew
        · have := (own_lt hown e).2; simp at this
      case round =>
        obtain ⟨q, hq, rfl, hown2, hb2, hfour, hne⟩ := hrel
        obtain ⟨wi, rfl⟩ : ∃ wi : World, wi = wr := ⟨_, rfl⟩
        by_cases hq4 : q < 4
        · have hcell := four_cell (x := ⟨kind, name, na, nb, nc, nd, val, ph⟩) hfour hq4
          have hsucc := addTo_succ N ⟨kind, name, na, nb, nc, nd, val, ph⟩ hq4
          have hNl := addTo_length N ⟨kind, name, na, nb, nc, nd, val, ph⟩ q
          generalize (fourTxt ⟨kind, name, na, nb, nc, nd, val, ph⟩).getD q ⟨#[]⟩ = s at hcell hsucc
          generalize hN2 : addTo N ⟨kind, name, na, nb, nc, nd, val, ph⟩ (q + 1) = N2 at hsucc
          generalize hN1 : addTo N ⟨kind, name, na, nb, nc, nd, val, ph⟩ q = N1 at hown2 hNl hsucc
          have H1 := Lib.hid hsucc; have H2 := Lib.hid hN2; have H3 := Lib.hid hN1
          clear hsucc hN1 hN2
          obtain ⟨va, vc, rfl, hrow2, _, _, _⟩ := ownsRow_rows hown2
          cases x2 : seq s ⟨#[]⟩
          all_goals
            have h0 : oldNode N1 s 0 = (seq s ⟨#[]⟩ || seq s ⟨#[48]⟩) := by simp [oldNode, anyIs, zeroTxt]
            rw [x2] at h0
            simp only [Bool.true_or, Bool.false_or] at h0
            have H0 := Lib.hid h0; clear h0
            go_wp2
            generalize hM : N1.length = m at hNl
            have HM := Lib.hid hM; clear hM
            go_loopw [8, 9] (fun t j wr => ∃ i : Nat, i ≤ m ∧ j = .int .i64 i ∧ t = .bool (oldNode N1 s i) ∧ Drew wi wr) (fun _ j _ => m - (intOf j).toNat)
            case atStart => exact ⟨0, Nat.zero_le _, rfl, by rw [H0.out], Drew.refl _⟩
            case round =>
              obtain ⟨i, hi, rfl, rfl, hd⟩ := hrel
              have hsz2 : Below wi.heap.size wi wr := hd.below _
              have hfour3 : wr.heap[wo.heap.size]? = _ := (hsz2.block wo.heap.size (Array.getElem?_eq_some_iff.1 hfour).1).trans hfour
              have hcell3 : wr.cell? ⟨wo.heap.size, q, none⟩ = some (.string s) := by rw [hsz2.cell (p := ⟨wo.heap.size, q, none⟩) (Array.getElem?_eq_some_iff.1 hfour).1]; exact hcell
              by_cases hlt2 : i < m
              · have hil : i < N1.length := by have := HM.out; omega
                obtain ⟨b', off', rfl⟩ := row_some hrow2 (j := i) (by rw [txts_length]; omega)
                have e := (hrow2.below hsz2).at (j := i) (by rw [txts_length]; omega)
                rw [txts_at hil] at e
                have HO := Lib.hid (oldNode_succ (s := s) hil)
                generalize N1.getD i ⟨#[]⟩ = x at e HO
                cases hold : oldNode N1 s i
                · go_wp2
                  go_quiet (fail)
                  go_wp2
                  go_roundw
                  case rel => exact ⟨i + 1, by omega, by go_num, by rw [HO.out, hold]; rfl, hd.drewN _⟩
                  case measure => simp [intOf]; omega
                · go_wp2
                  go_quiet (fail)
                  go_wp2
                  go_roundw
                  case rel => exact ⟨i + 1, by omega, by go_num, by rw [HO.out, hold]; rfl, hd.drewN _⟩
                  case measure => simp [intOf]; omega
              · have hk' : i = m := by omega
                subst hk'
                have hd2 : oldNode N1 s i = oldNode N1 s N1.length := by rw [HM.out]
                have hadd : N2 = if oldNode N1 s i then N1 else N1 ++ [s] := by rw [H1.out, addNode_old, hd2]
                have hblk : (Value.slice va i vc).ownBlock ≠ some wo.heap.size := by rw [← HM.out]; exact hne
                have hs3 := hb2.size
                have hwl : wo.heap.size < wi.heap.size := (Array.getElem?_eq_some_iff.1 hfour).1
                clear hd2
                cases hold : oldNode N1 s i
                · rw [hold] at hadd
                  have HA := Lib.hid hadd; clear hadd hold
                  have hown3 := ownsRow_below hown2 hsz2
                  rw [HM.out] at hown3
                  have hs4 := hsz2.size
                  go_wp2_with (at_builtin; refine wpList_appS rfl (.tmp 75) (.tmp 80) rfl elem_s (hown3.alloc _) rfl rfl (news_new _ (.string s) _) rfl (one1 (u := .string s) rfl) (by omega) (by simp; omega) (by decide) ?_; intro v2 w2 o2)
                  go_roundw
                  case rel =>
                    refine ⟨q + 1, by omega, by go_num, ?_, ?_, ?_, ?_⟩
                    · rw [H2.out, HA.out]
                      have := o2.own
                      simp only [Bool.false_eq_true, if_false, List.length_append, HM.out]
                      simpa [txts] using this
                    · exact ((hb2.trans (hd.below _)).alloc (by omega) _).grown o2.grown (by simp; omega) (fun g hg => (own_lt hown3 hg).1)
                    · rw [grown_heap o2.grown (by simp; omega) hblk, Below.heap_alloc _ _ _ (by omega)]; exact hfour3
                    · rcases o2.blk with e | ⟨g', e, hge⟩
                      · rw [e]; exact hblk
                      · rw [e]; simp at hge; intro e2; have := Option.some.inj e2; omega
                  case measure => simp [intOf]; omega
                · rw [hold] at hadd
                  have HA := Lib.hid hadd; clear hadd hold
                  have hown3 := ownsRow_below hown2 hsz2
                  rw [HM.out] at hown3
                  go_wp2
                  go_roundw
                  case rel =>
                    refine ⟨q + 1, by omega, by go_num, ?_, hb2.trans (hd.below _), hfour3, hblk⟩
                    rw [H2.out, HA.out]
                    simp only [if_true, HM.out]
                    exact hown3
                  case measure => simp [intOf]; omega
        · have hk' : q = 4 := by omega
          subst hk'
          go_wp2
          go_roundw
          case rel =>
            refine ⟨k + 1, by omega, by go_num, ?_, hb2⟩
            rw [ht.out, nodesOf_snoc, HN.out, ← addTo_four]
            exact hown2
          case measure => simp [intOf]; omega
    · have hk' : k = n := by omega
      subst hk'
      go_wp2
      have := L.out
      rw [List.take_of_length_le (by omega)] at hown
      exact ⟨_, rfl, own_base hown b1.size, below_call b1 hb b1.size⟩
theorem rorder_net (w : World) (p : Nat) (es : List El) (h : RNetIs w p es) (hn : es.length ≤ 1000) :
    Calls Try.prog 94 #[.pointer (some ⟨p, 0, none⟩)] w (fun e w' => e = .returned (.int .i64 (((nodesOf es).length + (branchesOf es).length : Nat) : Int)) ∧ Below w.heap.size w w') := by
  refine calls_post fun R hR => ?_
  have l1 := nodesOf_len es
  have l2 := branchesOf_len es
  go_enter Try.func94, Try.ntmps94
  go_wp2_with fail
  refine (rnodes_net _ _ _ h hn).mono ?_
  rintro e w1 ⟨v, rfl, o1, b1⟩
  obtain ⟨a, c, rfl, hrow, _, _, _⟩ := ownsRow_rows o1
  go_wp2_with fail
  refine (rbranches_net _ _ _ (h.below b1) hn).mono ?_
  rintro e w2 ⟨v, rfl, o2, b2⟩
  obtain ⟨a2, c2, rfl, hrow2, _, _, _⟩ := ownsRow_rows o2
  have hw : IntKind.i64.wrap (((nodesOf es).length : Int) + ((branchesOf es).length : Int)) = ((nodesOf es).length : Int) + (branchesOf es).length := IntWalk.i64_in _ ⟨by omega, by omega⟩
  go_wp2
  exact ⟨by simp, below_call b1 b2 b1.size⟩
theorem rplace_net (w : World) (p : Nat) (es : List El) (s : ByteArray) (h : RNetIs w p es) (hn : es.length ≤ 1000) :
    Calls Try.prog 104 #[.pointer (some ⟨p, 0, none⟩), .string s] w (fun e w' => e = .returned (placeVal (nodesOf es) s) ∧ Below w.heap.size w w') := by
  refine calls_post fun R hR => ?_
  have l1 := nodesOf_len es
  unfold placeVal at hR
  go_enter Try.func104, Try.ntmps104
  go_wp2_with fail
  refine (rnodes_net _ _ _ h hn).mono ?_
  rintro e w1 ⟨v, rfl, o1, b1⟩
  obtain ⟨a, c, rfl, hrow, _, _, _⟩ := ownsRow_rows o1
  go_wp2_with fail
  refine (rplace_any _ _ _ _ _ _ hrow rfl (by omega)).mono ?_
  rintro e w2 ⟨rfl, b2⟩
  unfold placeVal
  go_wp2
  exact ⟨rfl, below_call b1 b2 b1.size⟩
end Go.Proofs.Try
