/- What drives a net: With, none, Phasor. -/
import Derived.Test.YtiipefhdnfneeaaTU
import Derived.Test.YtiipefhdnfneeaaRC
import Derived.Deep.RegionLaw
import Derived.Deep.RegionHeld3
namespace Go.Proofs.Try
open Go.RowKit Go.Gw
set_option maxRecDepth 100000
set_option linter.unusedSimpArgs false
set_option linter.unusedVariables false

theorem NetRes.set {w : World} {g : Nat} {es : List El} {r : Value} (h : NetRes w es r) {B : Nat} (hB : ∀ p, NetIs w p es → ∀ i u, NetIs (w.setCell ⟨g, i, none⟩ u) p es) (i : Nat) (u : Value) : NetRes (w.setCell ⟨g, i, none⟩ u) es r := by
  rcases h with ⟨h1, p, h2, h3⟩ | h
  · exact Or.inl ⟨h1, p, h2, hB p h3 i u⟩
  · exact Or.inr h
theorem netRes_fault {w : World} {es : List El} {r : Value} (h : NetRes w es r) : ∃ p, r = .tuple #[.pointer p, .agg #[.int .i64 (netFault es).1, .int .i64 (netFault es).2]] := by
  rcases h with ⟨h1, p, rfl, h3⟩ | ⟨h1, rfl⟩
  · exact ⟨_, by rw [h1]⟩
  · exact ⟨_, rfl⟩
theorem vals_snoc {es : List El} {x : El} (h : ∀ e ∈ es, e.val < 2 ^ 64) (hx : x.val < 2 ^ 64) : ∀ e ∈ es ++ [x], e.val < 2 ^ 64 := by
  intro z hz
  rcases List.mem_append.1 hz with h1 | h1
  · exact h z h1
  · rw [List.mem_singleton.1 h1]; exact hx
/-- The box and the result's cells of With. -/
def WithHeld (w : World) (x : El) (w' : World) : Prop := w'.heap[w.heap.size]? = some (.cells x.row 81) ∧ w'.heap[w.heap.size + 1]? = some (.cells #[.int .i64 0, .int .i64 0] 44)
theorem WithHeld.below {w : World} {x : El} {a b : World} (h : WithHeld w x a) (hb : Below a.heap.size a b) : WithHeld w x b :=
  ⟨(hb.block _ (Array.getElem?_eq_some_iff.1 h.1).1).trans h.1, (hb.block _ (Array.getElem?_eq_some_iff.1 h.2).1).trans h.2⟩
theorem WithHeld.app {w w1 w2 : World} {x : El} {B n m : Nat} {o : Obj} {e : TypeId} {size : Nat} {v v' : Value} {xs ys : List Value} (h : WithHeld w x w1) (a : AppOut (w1.alloc o) w2 B e size n v v' xs m ys) (hB : w.heap.size + 1 < B) (hown : w1.ownsRow B e size v n xs) : WithHeld w x w2 := by
  have l1 := (Array.getElem?_eq_some_iff.1 h.1).1
  have l2 := (Array.getElem?_eq_some_iff.1 h.2).1
  exact ⟨(grown_heap a.grown (by simp; omega) (fun e => by have := (own_lt hown e).1; omega)).trans ((Below.heap_alloc _ _ _ l1).trans h.1),
    (grown_heap a.grown (by simp; omega) (fun e => by have := (own_lt hown e).1; omega)).trans ((Below.heap_alloc _ _ _ l2).trans h.2)⟩
theorem WithHeld.app2 {w w1 w2 : World} {x : El} {B n m : Nat} {e : TypeId} {size : Nat} {v v' : Value} {xs ys : List Value} (h : WithHeld w x w1) (a : AppOut w1 w2 B e size n v v' xs m ys) (hB : w.heap.size + 1 < B) (hown : w1.ownsRow B e size v n xs) : WithHeld w x w2 := by
  have l1 := (Array.getElem?_eq_some_iff.1 h.1).1
  have l2 := (Array.getElem?_eq_some_iff.1 h.2).1
  exact ⟨(grown_heap a.grown l1 (fun e => by have := (own_lt hown e).1; omega)).trans h.1,
    (grown_heap a.grown l2 (fun e => by have := (own_lt hown e).1; omega)).trans h.2⟩
set_option maxHeartbeats 1000000 in
theorem with_net (w : World) (p : Nat) (es : List El) (x : El) (h : NetIs w p es) (hn : es.length ≤ 1000) (hx : x.val < 2 ^ 64) (hv : ∀ e ∈ es, e.val < 2 ^ 64) :
    Calls Try.prog 154 #[.pointer (some ⟨p, 0, none⟩), x.value] w (fun e w' => (∃ q, e = .returned (.tuple #[.pointer q, .agg #[.int .i64 (netFault (es ++ [x])).1, .int .i64 (netFault (es ++ [x])).2]])) ∧ Below w.heap.size w w') := by
  refine calls_post fun R hR => ?_
  obtain ⟨kind, name, a, b, c, d, val, ph⟩ := x
  simp only [El.value, El.row] at ⊢
  have h2 : NetIs ((w.alloc (boxOf kind name a b c d val ph)).alloc (.cells #[.int .i64 0, .int .i64 0] 44)) p es := h.below (((Below.refl _ _).alloc (Nat.le_refl _) _).alloc (by simp) _)
  have hc0 : ((w.alloc (boxOf kind name a b c d val ph)).alloc (.cells #[.int .i64 0, .int .i64 0] 44)).cell? ⟨p, 0, none⟩ = some (.bool true) := by
    obtain ⟨B, v, p1, E⟩ := h2; exact (seven_cells p1.blk).1
  have hB0 : Below w.heap.size w ((w.alloc (boxOf kind name a b c d val ph)).alloc (.cells #[.int .i64 0, .int .i64 0] 44)) := ((Below.refl _ _).alloc (Nat.le_refl _) _).alloc (by simp) _
  go_enter Try.func154, Try.ntmps154
  go_wp2_with (go_at_call 124; refine (is_yes _ _ hc0).mono ?_; rintro e w1 ⟨rfl, rfl⟩)
  have hh : WithHeld w ⟨kind, name, a, b, c, d, val, ph⟩ ((w.alloc (boxOf kind name a b c d val ph)).alloc (.cells #[.int .i64 0, .int .i64 0] 44)) := by
    refine ⟨(Below.heap_alloc _ _ _ (by simp)).trans (alloc_self _ _), ?_⟩
    have := alloc_self (w.alloc (boxOf kind name a b c d val ph)) (.cells #[.int .i64 0, .int .i64 0] 44)
    rwa [size_alloc] at this
  generalize hW : (w.alloc (boxOf kind name a b c d val ph)).alloc (.cells #[.int .i64 0, .int .i64 0] 44) = W at *
  clear hW hc0
  have h3 := h2.below (Below.refl _ _).drew
  have h4 := h2.below ((Below.refl _ _).alloc (Nat.le_refl _) (boxOf kind name a b c d val ph)).drew
  have hh0 := hh.below (Below.refl _ _).drew
  have hh4 := hh.below ((Below.refl _ _).alloc (Nat.le_refl _) (boxOf kind name a b c d val ph)).drew
  obtain ⟨d0, d1, d2, d3, d4, d5, d6, d7⟩ := eight_cells hh.1
  obtain ⟨e0, e1, e2, e3, e4, e5, e6, e7⟩ := eight_cells hh4.1
  obtain ⟨t0, t1, tf⟩ := two_cells hh.2
  have hsz := hB0.size
  have hlt := (Array.getElem?_eq_some_iff.1 hh.2).1
  go_region_held3 (fun w' => w'.cell? ⟨w.heap.size, 0, none⟩ = some (.int .u8 kind) ∧ w'.cell? ⟨w.heap.size, 1, none⟩ = some (.string name) ∧ w'.cell? ⟨w.heap.size, 2, none⟩ = some (.string a) ∧ w'.cell? ⟨w.heap.size, 3, none⟩ = some (.string b) ∧ w'.cell? ⟨w.heap.size, 4, none⟩ = some (.string c) ∧ w'.cell? ⟨w.heap.size, 5, none⟩ = some (.string d) ∧ w'.cell? ⟨w.heap.size, 6, none⟩ = some (.float .f64 val) ∧ w'.cell? ⟨w.heap.size, 7, none⟩ = some (.int .i64 ph))
    (first | exact ⟨d0, d1, d2, d3, d4, d5, d6, d7⟩ | exact ⟨e0, e1, e2, e3, e4, e5, e6, e7⟩ | go_keep)
    (first
      | (go_at_call 56; refine (elements_net _ _ _ h3 (by omega)).mono ?_; rintro e w1 ⟨v1, rfl, o1, b1⟩; have hh1 := hh0.below b1; have bs1 : W.heap.size ≤ w1.heap.size := b1.size; replace o1 : w1.ownsRow W.heap.size _ _ _ _ _ := o1; obtain ⟨va, vc, rfl⟩ := own_slice1 o1; obtain ⟨d0, d1, d2, d3, d4, d5, d6, d7⟩ := eight_cells hh1.1; have a1 := o1.alloc (boxOf kind name a b c d val ph); have hnw := alloc_self w1 (boxOf kind name a b c d val ph); have hhA := hh1.below ((Below.refl _ _).alloc (Nat.le_refl _) (boxOf kind name a b c d val ph)); obtain ⟨e0, e1, e2, e3, e4, e5, e6, e7⟩ := eight_cells hhA.1; have bA := (below_call (Below.refl _ _).drew b1 (Nat.le_refl _)).alloc bs1 (boxOf kind name a b c d val ph))
      | (go_at_call 56; refine (elements_net _ _ _ h4 (by omega)).mono ?_; rintro e w1 ⟨v1, rfl, o1, b1⟩; have hhA := hh4.below b1; have bs1 : W.heap.size + 1 ≤ w1.heap.size := by { have := b1.size; simp at this; omega }; have a1 := own_base o1 (show W.heap.size ≤ _ by simp); obtain ⟨va, vc, rfl⟩ := own_slice1 a1; obtain ⟨d0, d1, d2, d3, d4, d5, d6, d7⟩ := eight_cells hhA.1; have hnw : w1.heap[W.heap.size]? = _ := (b1.block W.heap.size (by simp)).trans (alloc_self W (boxOf kind name a b c d val ph)); have bA := below_call ((Below.refl _ _).alloc (Nat.le_refl _) (boxOf kind name a b c d val ph)).drew b1 (by simp))
      | (refine step_appS rfl (.tmp 11) (.tmp 13) rfl elem_el a1 rfl rfl (news_at hnw) rfl (oneCell_el ⟨kind, name, a, b, c, d, val, ph⟩) (by omega) bA.size (by decide) ?_; intro v2 w2 o2; have hh2 := hhA.app2 o2 (by omega) a1; obtain ⟨va2, vc2, rfl, hrow2, _, _, hl2⟩ := ownsRow_rows o2.own; have hb2 : Below W.heap.size W w2 := bA.grown o2.grown bA.size (fun g hg => (own_lt a1 hg).1); have hs2 := hb2.size; obtain ⟨d0, d1, d2, d3, d4, d5, d6, d7⟩ := eight_cells hh2.1)
      | (go_at_call 32; refine (of_net _ _ _ (es ++ [⟨kind, name, a, b, c, d, val, ph⟩]) _ (by rw [elCells_append]; exact hrow2) (by simp) (vals_snoc hv hx)).mono ?_; rintro e w3 ⟨⟨r, rfl, hres⟩, b3⟩; obtain ⟨q, rfl⟩ := netRes_fault hres; have hh3 := hh2.below b3; have hB3 := below_call hb2 b3 (by omega); obtain ⟨d0, d1, d2, d3, d4, d5, d6, d7⟩ := eight_cells hh3.1; obtain ⟨t0, t1, tf⟩ := two_cells hh3.2))
  all_goals
    go_wp2
    refine bodyPost_ret (v := .tuple #[.pointer q, .agg #[.int .i64 (netFault (es ++ [⟨kind, name, a, b, c, d, val, ph⟩])).1, .int .i64 (netFault (es ++ [⟨kind, name, a, b, c, d, val, ph⟩])).2]]) ?_ rfl (hR _ _ ⟨⟨_, rfl⟩, ?_⟩)
    · simp [results, Try.results154, go_sem, World.cell?_setCell_same', t0, t1]
    · repeat' refine Below.setCell ?_ (by simp) _
      exact below_call hB0 hB3 hsz
end Go.Proofs.Try
