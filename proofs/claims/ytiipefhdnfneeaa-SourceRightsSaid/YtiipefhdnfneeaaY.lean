/- What a net tells: Elements, Nodes, Branches, Place, Branch, Find, With. -/
import Derived.Test.YtiipefhdnfneeaaX
namespace Go.Proofs.Try
open Go.RowKit Go.Gw
set_option maxRecDepth 100000
set_option linter.unusedSimpArgs false
set_option linter.unusedVariables false

theorem ownsRow_rows {w : World} {base : Nat} {e : TypeId} {size : Nat} {v : Value} {n : Nat} {cs : List Value} (h : w.ownsRow base e size v n cs) :
    ∃ a cap, v = .slice a n cap ∧ Row w a cs ∧ n ≤ cap ∧ cap ≤ maxLen ∧ cs.length = n * size := by
  obtain ⟨h1, h2⟩ := h
  rcases h2 with ⟨rfl, rfl⟩ | ⟨g, cap, cur, rfl, hb, hg, hnc, hm, hs, ht⟩
  · have : cs = [] := List.eq_nil_of_length_eq_zero (by simpa using h1)
    subst this
    exact ⟨none, 0, rfl, Row.nil _ _, Nat.le_refl _, Nat.zero_le _, h1⟩
  · refine ⟨some ⟨g, 0, none⟩, cap, rfl, ?_, hnc, hm, h1⟩
    intro j hj
    refine ⟨g, 0, rfl, (Array.getElem?_eq_some_iff.1 hg).1, ?_⟩
    rw [Nat.zero_add, World.cell?, hg]
    simp only [Option.isSome_none, Bool.false_eq_true, if_false]
    rw [← Array.getElem?_toList]
    rw [← ht] at hj ⊢
    rw [List.getD_eq_getElem?_getD]
    have hj' : j < n * size ∧ j < cur.size := by simp at hj; omega
    simp [List.getElem?_take, hj'.1, hj'.2]
theorem oneCell_txts (l : List ByteArray) : ∀ u ∈ txts l, u.oneCell' = true := by
  intro u hu
  simp only [txts, List.mem_map] at hu
  obtain ⟨s, _, rfl⟩ := hu; rfl
theorem elements_net (w : World) (p : Nat) (es : List El) (h : NetIs w p es) (hn : es.length * 104 ≤ 140737488355328) :
    Calls Try.prog 56 #[.pointer (some ⟨p, 0, none⟩)] w (fun e w' => ∃ v, e = .returned v ∧ w'.ownsRow w.heap.size 81 8 v es.length (elCells es) ∧ Below w.heap.size w w') := by
  refine calls_post fun R hR => ?_
  obtain ⟨B, v, p1, E⟩ := h
  obtain ⟨c0, c1, c2, c3, c4, c5, c6, hf⟩ := seven_cells p1.blk
  obtain ⟨a, c, hv, hrow, _, _, hl⟩ := ownsRow_rows p1.l
  simp only [hv] at c1
  have hL : v.L = es := E.1
  rw [hL] at hrow hl c1
  go_enter Try.func56, Try.ntmps56
  go_wp2_with (first | (go_at_call 124; refine (is_yes _ _ c0).mono ?_; rintro e w1 ⟨rfl, rfl⟩) | (at_builtin; refine wpList_app rfl (.const (.slice none 0 0)) (.tmp 9) rfl elem_el (World.ownsRow_nil _ _ _ _) rfl rfl hrow hl (oneCell_els es) (by omega) (Nat.le_refl _) ?_; intro v' w2 hown hg))
  exact ⟨v', rfl, by simpa using hown, below_grown hg⟩
theorem nodes_net (w : World) (p : Nat) (es : List El) (h : NetIs w p es) (hn : (nodesOf es).length * 16 ≤ 140737488355328) :
    Calls Try.prog 54 #[.pointer (some ⟨p, 0, none⟩)] w (fun e w' => ∃ v, e = .returned v ∧ w'.ownsRow w.heap.size 9 1 v (nodesOf es).length (txts (nodesOf es)) ∧ Below w.heap.size w w') := by
  refine calls_post fun R hR => ?_
  obtain ⟨B, v, p1, E⟩ := h
  obtain ⟨c0, c1, c2, c3, c4, c5, c6, hf⟩ := seven_cells p1.blk
  obtain ⟨a, c, hv, hrow, _, _, hl⟩ := ownsRow_rows p1.n
  simp only [hv] at c3
  have hL : v.N = nodesOf es := E.2.1
  rw [hL] at hrow hl c3
  go_enter Try.func54, Try.ntmps54
  go_wp2_with (first | (go_at_call 124; refine (is_yes _ _ c0).mono ?_; rintro e w1 ⟨rfl, rfl⟩) | (at_builtin; refine wpList_app rfl (.const (.slice none 0 0)) (.tmp 9) rfl elem_s (World.ownsRow_nil _ _ _ _) rfl rfl hrow hl (oneCell_txts _) (by omega) (Nat.le_refl _) ?_; intro v' w2 hown hg))
  exact ⟨v', rfl, by simpa using hown, below_grown hg⟩
theorem branches_net (w : World) (p : Nat) (es : List El) (h : NetIs w p es) (hn : (branchesOf es).length * 16 ≤ 140737488355328) :
    Calls Try.prog 184 #[.pointer (some ⟨p, 0, none⟩)] w (fun e w' => ∃ v, e = .returned v ∧ w'.ownsRow w.heap.size 9 1 v (branchesOf es).length (txts (branchesOf es)) ∧ Below w.heap.size w w') := by
  refine calls_post fun R hR => ?_
  obtain ⟨B, v, p1, E⟩ := h
  obtain ⟨c0, c1, c2, c3, c4, c5, c6, hf⟩ := seven_cells p1.blk
  obtain ⟨a, c, hv, hrow, _, _, hl⟩ := ownsRow_rows p1.b
  simp only [hv] at c5
  have hL : v.K = branchesOf es := E.2.2.1
  rw [hL] at hrow hl c5
  go_enter Try.func184, Try.ntmps184
  go_wp2_with (first | (go_at_call 124; refine (is_yes _ _ c0).mono ?_; rintro e w1 ⟨rfl, rfl⟩) | (at_builtin; refine wpList_app rfl (.const (.slice none 0 0)) (.tmp 9) rfl elem_s (World.ownsRow_nil _ _ _ _) rfl rfl hrow hl (oneCell_txts _) (by omega) (Nat.le_refl _) ?_; intro v' w2 hown hg))
  exact ⟨v', rfl, by simpa using hown, below_grown hg⟩
def placeVal (l : List ByteArray) (s : ByteArray) : Value := .tuple #[.int .i64 (((placeIn l s).getD 0 : Nat) : Int), .bool (placeIn l s).isSome]
theorem place_net (w : World) (p : Nat) (es : List El) (s : ByteArray) (h : NetIs w p es) (hs : s.size ≤ maxLen) :
    Calls Try.prog 156 #[.pointer (some ⟨p, 0, none⟩), .string s] w (fun e w' => e = .returned (placeVal (nodesOf es) s) ∧ Below w.heap.size w w') := by
  refine calls_post fun R hR => ?_
  obtain ⟨B, v, p1, E⟩ := h
  obtain ⟨c0, c1, c2, c3, c4, c5, c6, hf⟩ := seven_cells p1.blk
  have hlook := smap_run p1.s2 hs
  rw [E.2.2.2.2.2.2.2.1] at hlook
  unfold placeVal at hR
  go_enter Try.func156, Try.ntmps156
  go_wp2_with (go_at_call 124; refine (is_yes _ _ c0).mono ?_; rintro e w1 ⟨rfl, rfl⟩)
  exact ⟨rfl, Below.refl _ _⟩
theorem branch_net (w : World) (p : Nat) (es : List El) (s : ByteArray) (h : NetIs w p es) (hs : s.size ≤ maxLen) :
    Calls Try.prog 97 #[.pointer (some ⟨p, 0, none⟩), .string s] w (fun e w' => e = .returned (placeVal (branchesOf es) s) ∧ Below w.heap.size w w') := by
  refine calls_post fun R hR => ?_
  obtain ⟨B, v, p1, E⟩ := h
  obtain ⟨c0, c1, c2, c3, c4, c5, c6, hf⟩ := seven_cells p1.blk
  have hlook := smap_run p1.s3 hs
  rw [E.2.2.2.2.2.2.2.2] at hlook
  unfold placeVal at hR
  go_enter Try.func97, Try.ntmps97
  go_wp2_with (go_at_call 124; refine (is_yes _ _ c0).mono ?_; rintro e w1 ⟨rfl, rfl⟩)
  exact ⟨rfl, Below.refl _ _⟩
def findEl (es : List El) (s : ByteArray) : El := match placeIn (namesOf es) s with | some i => es.getD i el0 | none => el0
def findVal (es : List El) (s : ByteArray) : Value := .tuple #[(findEl es s).value, .bool (placeIn (namesOf es) s).isSome]
theorem placeIn_lt {l : List ByteArray} {s : ByteArray} {i : Nat} (h : placeIn l s = some i) : i < l.length := by
  unfold placeIn at h
  rw [List.findIdx?_eq_some_iff_getElem] at h
  obtain ⟨h1, _⟩ := h
  exact h1
theorem find_net (w : World) (p : Nat) (es : List El) (s : ByteArray) (h : NetIs w p es) (hs : s.size ≤ maxLen) :
    Calls Try.prog 60 #[.pointer (some ⟨p, 0, none⟩), .string s] w (fun e w' => e = .returned (findVal es s) ∧ Below w.heap.size w w') := by
  refine calls_post fun R hR => ?_
  have hlt := h.lt
  obtain ⟨B, v, p1, E⟩ := h
  have p2 := p1.alloc (boxOf 0 ⟨#[]⟩ ⟨#[]⟩ ⟨#[]⟩ ⟨#[]⟩ ⟨#[]⟩ 0 0)
  obtain ⟨c0, c1, c2, c3, c4, c5, c6, hf⟩ := seven_cells p2.blk
  have hlook := smap_run p2.s1 hs
  have hf1 : v.f1 = placeIn (namesOf es) := E.2.2.2.2.2.2.1
  rw [hf1] at hlook
  obtain ⟨a, c, hv, hrow, _, _, hl⟩ := ownsRow_rows p2.l
  simp only [hv] at c1
  have hL : v.L = es := E.1
  rw [hL] at hrow hl c1
  clear E hL hf1
  cases hq : placeIn (namesOf es) s with
  | none =>
    have e : findVal es s = .tuple #[.agg #[.int .u8 0, .string ⟨#[]⟩, .string ⟨#[]⟩, .string ⟨#[]⟩, .string ⟨#[]⟩, .string ⟨#[]⟩, .float .f64 0, .int .i64 0], .bool false] := by unfold findVal findEl; rw [hq]; rfl
    rw [e] at hR
    rw [hq] at hlook
    clear e hq
    go_enter Try.func60, Try.ntmps60
    go_wp2_with (go_at_call 124; refine (is_yes _ _ c0).mono ?_; rintro e w1 ⟨rfl, rfl⟩)
    refine bodyPost_ret (v := .tuple #[.agg #[.int .u8 0, .string ⟨#[]⟩, .string ⟨#[]⟩, .string ⟨#[]⟩, .string ⟨#[]⟩, .string ⟨#[]⟩, .float .f64 0, .int .i64 0], .bool false]) ?_ rfl (hR _ _ ⟨rfl, ?_⟩)
    · simp [results, Try.results60, go_sem, World.cell?_setCell_same']
    · repeat' refine Below.setCell ?_ (by simp) _
      exact (Below.refl _ _).alloc (Nat.le_refl _) _
  | some i =>
    have hi : i < es.length := by have := placeIn_lt hq; simpa [namesOf] using this
    have e : findVal es s = .tuple #[(es.getD i el0).value, .bool true] := by unfold findVal findEl; rw [hq]; rfl
    rw [e] at hR
    rw [hq] at hlook
    clear e hq
    obtain ⟨b, off, rfl⟩ := row_some hrow (j := i * 8) (by rw [elCells_length]; omega)
    obtain ⟨e0, e1, e2, e3, e4, e5, e6, e7⟩ := row_el hrow hi
    generalize es.getD i el0 = z at e0 e1 e2 e3 e4 e5 e6 e7 hR
    obtain ⟨kind, name, na, nb, nc, nd, val, ph⟩ := z
    simp only [El.value, El.row] at hR
    go_enter Try.func60, Try.ntmps60
    go_wp2_with (go_at_call 124; refine (is_yes _ _ c0).mono ?_; rintro e w1 ⟨rfl, rfl⟩)
    refine bodyPost_ret (v := .tuple #[.agg #[.int .u8 kind, .string name, .string na, .string nb, .string nc, .string nd, .float .f64 val, .int .i64 ph], .bool true]) ?_ rfl (hR _ _ ⟨rfl, ?_⟩)
    · simp [results, Try.results60, go_sem, World.cell?_setCell_same']
    · repeat' refine Below.setCell ?_ (by simp) _
      exact (Below.refl _ _).alloc (Nat.le_refl _) _
end Go.Proofs.Try
