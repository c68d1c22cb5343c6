/- The document's nets: what they tell. -/
import Derived.Test.YtiipefhdnfneeaaY
namespace Go.Proofs.Try
open Go.RowKit Go.Gw
set_option maxRecDepth 100000
set_option linter.unusedSimpArgs false
set_option linter.unusedVariables false

/-- Block p is the document's net of the elements es. -/
def RNetIs (w : World) (p : Nat) (es : List El) : Prop :=
  ∃ B lv, w.heap[p]? = some (.cells #[lv, .bool true] 126) ∧ w.ownsRow B 81 8 lv es.length (elCells es)
theorem RNetIs.lt {w : World} {p : Nat} {es : List El} (h : RNetIs w p es) : p < w.heap.size := by
  obtain ⟨B, lv, h1, h2⟩ := h; exact (Array.getElem?_eq_some_iff.1 h1).1
theorem RNetIs.below {w w' : World} {p : Nat} {es : List El} (h : RNetIs w p es) (hb : Below w.heap.size w w') : RNetIs w' p es := by
  have hl := h.lt
  obtain ⟨B, lv, h1, h2⟩ := h
  exact ⟨B, lv, (hb.block p hl).trans h1, ownsRow_below h2 hb⟩
theorem RNetIs.cells {w : World} {p : Nat} {es : List El} (h : RNetIs w p es) : ∃ a c, w.cell? ⟨p, 0, none⟩ = some (.slice a es.length c) ∧ w.cell? ⟨p, 1, none⟩ = some (.bool true) ∧ Row w a (elCells es) := by
  obtain ⟨B, lv, h1, h2⟩ := h
  obtain ⟨c0, c1, _⟩ := two_cells h1
  obtain ⟨a, c, rfl, hrow, _⟩ := ownsRow_rows h2
  exact ⟨a, c, c0, c1, hrow⟩
theorem rnone_no (w : World) (p : Nat) (h : w.cell? ⟨p, 1, none⟩ = some (.bool true)) : Calls Try.prog 157 #[.pointer (some ⟨p, 0, none⟩)] w (fun e w' => e = .returned (.bool false) ∧ w' = w) := by
  refine calls_post fun R hR => ?_
  go_enter Try.func157, Try.ntmps157
  go_wp2
theorem relements_net (w : World) (p : Nat) (es : List El) (h : RNetIs w p es) (hn : es.length * 104 ≤ 140737488355328) :
    Calls Try.prog 102 #[.pointer (some ⟨p, 0, none⟩)] w (fun e w' => ∃ v, e = .returned v ∧ w'.ownsRow w.heap.size 81 8 v es.length (elCells es) ∧ Below w.heap.size w w') := by
  refine calls_post fun R hR => ?_
  obtain ⟨a, c, c0, c1, hrow⟩ := h.cells
  go_enter Try.func102, Try.ntmps102
  go_wp2_with (first | (go_at_call 157; refine (rnone_no _ _ c1).mono ?_; rintro e w1 ⟨rfl, rfl⟩) | (at_builtin; refine wpList_app rfl (.tmp 6) (.tmp 10) rfl elem_el (World.ownsRow_nil _ _ _ _) rfl rfl hrow (elCells_length es) (oneCell_els es) (by omega) (Nat.le_refl _) ?_; intro v' w2 hown hg))
  exact ⟨v', rfl, by simpa using hown, below_grown hg⟩
theorem rbranches_net (w : World) (p : Nat) (es : List El) (h : RNetIs w p es) (hn : es.length ≤ 1000) :
    Calls Try.prog 153 #[.pointer (some ⟨p, 0, none⟩)] w (fun e w' => ∃ v, e = .returned v ∧ w'.ownsRow w.heap.size 9 1 v (branchesOf es).length (txts (branchesOf es)) ∧ Below w.heap.size w w') := by
  refine calls_post fun R hR => ?_
  go_enter Try.func153, Try.ntmps153
  go_wp2_with fail
  refine (relements_net _ _ _ h (by omega)).mono ?_
  rintro e w1 ⟨v, rfl, o1, b1⟩
  obtain ⟨a, c, rfl, hrow, _, _, _⟩ := ownsRow_rows o1
  go_wp2
  generalize hes : es.length = n at hn
  have L := Lib.hid hes; clear hes
  go_loopw [3, 5] (fun v i wr => ∃ k : Nat, k ≤ n ∧ i = .int .i64 k ∧ wr.ownsRow w1.heap.size 9 1 v (branchesOf (es.take k)).length (txts (branchesOf (es.take k))) ∧ Below w1.heap.size w1 wr) (fun _ i _ => n - (intOf i).toNat)
  case atStart => exact ⟨0, Nat.zero_le _, rfl, World.ownsRow_nil _ _ _ _, Below.refl _ _⟩
  case round =>
    obtain ⟨k, hk, rfl, hown, hb⟩ := hrel
    by_cases hlt : k < n
    · have hlz : k < es.length := by have := L.out; omega
      obtain ⟨b, off, rfl⟩ := row_some hrow (j := k * 8) (by rw [elCells_length]; omega)
      obtain ⟨e0, e1, e2, e3, e4, e5, e6, e7⟩ := row_el (hrow.below hb) hlz
      have ht := Lib.hid (take_step hlz)
      have hlen := branchesOf_len (es.take k)
      have hlt' : (es.take k).length ≤ k := List.length_take_le _ _
      generalize es.getD k el0 = z at e0 e1 e2 e3 e4 e5 e6 e7 ht
      obtain ⟨kind, name, na, nb, nc, nd, val, ph⟩ := z
      simp only at e0 e1 e2 e3 e4 e5 e6 e7
      have hs1 := b1.size
      have hs2 := hb.size
      cases y1 : (kind == 5) || (kind == 7)
      · have y2 : (kind == 5) = false ∧ (kind == 7) = false := by simpa using y1
        obtain ⟨y3, y4⟩ := y2
        have Y := Lib.hid y1; clear y1
        go_wp2
        go_roundw
        case rel =>
          refine ⟨k + 1, by omega, by go_num, ?_, hb⟩
          have hbr : isBranch ⟨kind, name, na, nb, nc, nd, val, ph⟩ = false := Y.out
          rw [ht.out, branchesOf_snoc, hbr]; exact hown
        case measure => simp [intOf]; omega
      · have Y := Lib.hid y1; clear y1
        have y5 : (kind == 5) = true ∨ ((kind == 5) = false ∧ (kind == 7) = true) := by
          have := Y.out; cases h5 : (kind == 5) <;> simp_all
        rcases y5 with y5 | ⟨y5, y6⟩
        all_goals
          go_wp2_with (at_builtin; refine wpList_appS rfl (.tmp 28) (.tmp 34) rfl elem_s (hown.alloc _) rfl rfl (news_new _ _ _) rfl (one1 rfl) (by omega) (by simp; omega) (by decide) ?_; intro v2 w2 o2)
          go_roundw
          case rel =>
            refine ⟨k + 1, by omega, by go_num, ?_, ?_⟩
            · have hbr : isBranch ⟨kind, name, na, nb, nc, nd, val, ph⟩ = true := Y.out
              rw [ht.out, branchesOf_snoc, hbr]
              have := o2.own
              simpa [txts] using this
            · exact (hb.alloc (by omega) _).grown o2.grown (by simp; omega) (fun g hg => (own_lt hown hg).1)
          case measure => simp [intOf]; omega
    · have hk' : k = n := by omega
      subst hk'
      go_wp2
      have := L.out
      rw [List.take_of_length_le (by omega)] at hown
      exact ⟨_, rfl, own_base hown b1.size, below_call b1 hb b1.size⟩
theorem placeIn_take_none {l : List ByteArray} {s : ByteArray} (h : (l.any fun x => seq x s) = false) : placeIn l s = none := by
  have := placeIn_some l s; rw [h] at this
  cases hp : placeIn l s
  · rfl
  · rw [hp] at this; cases this
theorem placeIn_hit {l : List ByteArray} {s : ByteArray} {k : Nat} (h : ((l.take k).any fun x => seq x s) = false) (hk : k < l.length) (hq : seq (l.getD k ⟨#[]⟩) s = true) : placeIn l s = some k := by
  unfold placeIn
  rw [List.findIdx?_eq_some_iff_getElem]
  refine ⟨hk, ?_, ?_⟩
  · rw [List.getD_eq_getElem?_getD, List.getElem?_eq_getElem hk] at hq; exact hq
  · intro j hj
    rw [List.any_eq_false] at h
    have hjl : j < l.length := by omega
    have := h (l[j]) (by rw [List.mem_take_iff_getElem]; exact ⟨j, by omega, rfl⟩)
    simpa using this
theorem any_take_succ {α : Type} (f : α → Bool) {l : List α} {k : Nat} (hk : k < l.length) (d : α) : (l.take (k + 1)).any f = ((l.take k).any f || f (l.getD k d)) := by
  rw [List.take_succ_eq_append_getElem hk, List.any_append, List.getD_eq_getElem?_getD, List.getElem?_eq_getElem hk]; simp
theorem txts_at {l : List ByteArray} {k : Nat} (hk : k < l.length) : (txts l).getD k undef = .string (l.getD k ⟨#[]⟩) := by
  simp [txts, List.getD_eq_getElem?_getD, List.getElem?_eq_getElem hk]
theorem txts_length (l : List ByteArray) : (txts l).length = l.length := by simp [txts]
theorem rplace_any (w : World) (a : Option Addr) (n c : Nat) (l : List ByteArray) (s : ByteArray) (h : Row w a (txts l)) (hl : l.length = n) (hn : n ≤ 1000000) :
    Calls Try.prog 159 #[.slice a n c, .string s] w (fun e w' => e = .returned (placeVal l s) ∧ Below w.heap.size w w') := by
  refine calls_post fun R hR => ?_
  unfold placeVal at hR
  go_enter Try.func159, Try.ntmps159
  go_wp2
  go_loopw [6] (fun i wr => ∃ k : Nat, k ≤ n ∧ i = .int .i64 k ∧ wr = w ∧ Hid (((l.take k).any fun x => seq x s) = false)) (fun i _ => n - (intOf i).toNat)
  case atStart => exact ⟨0, Nat.zero_le _, rfl, rfl, Lib.hid rfl⟩
  case round =>
    obtain ⟨k, hk, rfl, rfl, H⟩ := hrel
    have L := Lib.hid hl; clear hl
    by_cases hlt : k < n
    · have hkl : k < l.length := by have := L.out; omega
      obtain ⟨b, off, rfl⟩ := row_some h (j := k) (by rw [txts_length]; omega)
      have e := h.at (j := k) (by rw [txts_length]; omega)
      rw [txts_at hkl] at e
      have hs := Lib.hid (any_take_succ (fun x => seq x s) hkl ⟨#[]⟩)
      have hh : seq (l.getD k ⟨#[]⟩) s = true → placeIn l s = some k := placeIn_hit H.out hkl
      have HH := Lib.hid hh; clear hh
      generalize l.getD k ⟨#[]⟩ = x at e hs HH
      cases hq : seq x s
      · go_wp2
        go_roundw
        case rel => exact ⟨k + 1, by omega, by go_num, trivial, Lib.hid (by rw [hs.out, H.out, hq]; rfl)⟩
        case measure => simp [intOf]; omega
      · have hp := HH.out hq
        rw [hp] at hR
        clear hp
        go_wp2
        exact ⟨rfl, Below.refl _ _⟩
    · have hk' : k = n := by omega
      subst hk'
      have hp : placeIn l s = none := placeIn_take_none (by have := H.out; rw [List.take_of_length_le (by have := L.out; omega)] at this; exact this)
      rw [hp] at hR
      clear hp
      go_wp2
      exact ⟨rfl, Below.refl _ _⟩
end Go.Proofs.Try
