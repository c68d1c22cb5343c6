/- Appending to what the call owns: all that is left behind it. And many rows, each in a block of its own. -/
import Derived.Test.YtiipefhdnfneeaaMem
set_option linter.unusedSimpArgs false
set_option linter.unusedVariables false
namespace Go.Gw
open Go.RowKit

/-- Behind an append of m elements to a slice v of n elements. -/
structure AppOut (w w' : World) (base : Nat) (e : TypeId) (size n : Nat) (v v' : Value) (xs : List Value) (m : Nat) (news : List Value) : Prop where
  own : w'.ownsRow base e size v' (n + m) (xs ++ news)
  old : w'.ownsRow base e size v n xs
  grown : w.grownBy w' v.ownBlock
  blk : v'.ownBlock = v.ownBlock ∨ (∃ g, v'.ownBlock = some g ∧ w.heap.size ≤ g)

theorem run_appS {P : Program} {w : World} {t ty e : TypeId} {z : Value} {size bytes base : Nat} (E : Elem P t e z size bytes) {v : Value} {n : Nat} {xs : List Value} (hown : w.ownsRow base e size v n xs)
    {ad : Addr} {m c : Nat} {news : List Value} (hnews : ∀ j u, news[j]? = some u → w.cell? (ad.add j) = some u) (hl : news.length = m * size) (h1 : ∀ u ∈ news, u.oneCell' = true)
    (hb : (n + m) * bytes ≤ 140737488355328) (hbase : base ≤ w.heap.size) (hm : m ≠ 0) :
    ∃ v' w', (Builtin.append_ #[t, t] ty #[v, .slice (some ad) m c]).run P w = .ok v' w' ∧ AppOut w w' base e size n v v' xs m news := by
  obtain ⟨i, hi, hz, rfl, rfl⟩ := info_parts E.info
  have h63 : n + m ≤ maxLen := by
    have : (n + m) * 1 ≤ (n + m) * i.bytes := Nat.mul_le_mul_left _ E.posb
    unfold maxLen; omega
  have hsmall : n + m ≤ 9223372036854775807 := by simp only [maxLen] at h63; omega
  have hlen : (xs ++ news).length = (n + m) * i.size := by rw [List.length_append, hown.1, hl, Nat.add_mul]
  have grown : ∀ (old : Nat), old < n + m →
      AppOut w (w.drew.alloc (.cells (xs.toArray ++ news.toArray ++ Builtin.zeroCells z.cells (grownCap w (n + m) old e - (n + m))) e)) base e i.size n v (.slice (some ⟨w.heap.size, 0, none⟩) (n + m) (grownCap w (n + m) old e)) xs m news := by
    intro old ho
    have hge := grownCap_ge w (n + m) old e
    have hcm : grownCap w (n + m) old e ≤ maxLen := grownCap_le_maxLen w (n + m) old e h63
    have hg : ∀ row, w.grownBy (w.drew.alloc (.cells (xs.toArray ++ news.toArray ++ Builtin.zeroCells z.cells (grownCap w (n + m) old e - (n + m))) e)) row := fun row =>
      ⟨rfl, rfl, rfl, by simp, fun k hk _ => RowKit.Below.heap_alloc w.drew _ k hk⟩
    refine ⟨⟨hlen, .inr ⟨w.heap.size, _, _, rfl, hbase, heap_alloc_new w.drew _, hge, hcm, ?_, ?_⟩⟩, hown.kept (hg none) (by cases hv : v.ownBlock <;> simp), hg _, .inr ⟨_, rfl, Nat.le_refl _⟩⟩
    · simp only [Array.size_append, List.size_toArray, size_zeroCells, E.cells, hown.1, hl, ← Nat.add_mul]
      congr 1
      omega
    · simp only [Array.toList_append, List.append_assoc]
      rw [← List.append_assoc, ← hlen]
      exact List.take_left
  rcases hown.2 with ⟨rfl, rfl⟩ | ⟨g, cap, cur, rfl, hbg, hg, hnc, hcm, hcs, htake⟩
  · have hx : xs = [] := List.eq_nil_of_length_eq_zero (by simpa using hown.1)
    subst hx
    have hr := run_append_nil (P := P) w t ty e i z E.under hi hz ad m c news hl hnews (by omega) (by omega) (by have hb' := hb; simp only [Nat.zero_add] at hb'; omega)
    have hgr := grown 0 (by omega)
    simp only [Nat.zero_add, List.nil_append, Array.empty_append] at hgr
    exact ⟨_, _, hr, hgr⟩
  · by_cases hroom : n + m ≤ cap
    · have hfit : n * i.size + news.length ≤ cur.size := by rw [hl, hcs, ← Nat.add_mul]; exact Nat.mul_le_mul_right _ hroom
      have hr := run_append_room (P := P) w t ty e i E.under hi g n cap cur hg ad m c news hl hnews h1 hroom hfit
      have hsz : (List.take (n * i.size) cur.toList ++ news ++ List.drop (n * i.size + news.length) cur.toList).toArray.size = cap * i.size := by
        simp only [List.size_toArray, List.length_append, List.length_take, List.length_drop, Array.length_toList]
        omega
      refine ⟨_, _, hr, ⟨⟨hlen, .inr ⟨g, cap, _, rfl, hbg, setRow_heap w g cur _ e _ hg, hroom, hcm, hsz, ?_⟩⟩, ⟨hown.1, .inr ⟨g, cap, _, rfl, hbg, setRow_heap w g cur _ e _ hg, hnc, hcm, hsz, ?_⟩⟩, ⟨rfl, rfl, rfl, by simp, fun k _ hk => setRow_other w g k _ (fun e => hk (by simp [Value.ownBlock, e]))⟩, .inl (by simp [Value.ownBlock])⟩⟩
      · rw [htake, ← hlen]
        exact List.take_left
      · rw [htake, List.append_assoc, ← hown.1]
        exact List.take_left
    · have holds : ∀ j u, xs[j]? = some u → w.cell? ((⟨g, 0, none⟩ : Addr).add j) = some u := hown.cells (g := g) rfl
      have hr := run_append_grow (P := P) w t ty e i z E.under hi hz ⟨g, 0, none⟩ n cap xs hown.1 holds ad m c news hl hnews (by omega) (by omega) (growslice_fits (by omega) hb)
      exact ⟨_, _, hr, grown cap (by omega)⟩

theorem wpList_appS {P : Program} {w : World} {ops : Array Oper} {rest : List Oper} {o : Oper} {a : Act} {Q : Exit → Act → World → Prop} (hgd : o.guard = none) (s x : Operand) {t : TypeId}
    (ho : o.op = .call { callee := .builtin .append, args := #[s, x], argTypes := #[t, t] })
    {base : Nat} {e : TypeId} {z : Value} {size bytes : Nat} (E : Elem P t e z size bytes)
    {v : Value} {n : Nat} {xs : List Value} (hown : w.ownsRow base e size v n xs) (hs : a.eval s = v)
    {ad : Addr} {m c : Nat} {news : List Value} (hx : a.eval x = .slice (some ad) m c) (hnews : ∀ j u, news[j]? = some u → w.cell? (ad.add j) = some u) (hl : news.length = m * size) (h1 : ∀ u ∈ news, u.oneCell' = true)
    (hb : (n + m) * bytes ≤ 140737488355328) (hbase : base ≤ w.heap.size) (hm : m ≠ 0)
    (h : ∀ v' w', AppOut w w' base e size n v v' xs m news → wpList P ops Q rest (a.put o.dst v') w') : wpList P ops Q (o :: rest) a w := by
  refine wpList_plain hgd fun K hK => ?_
  obtain ⟨v', w', hr, h2⟩ := run_appS (ty := o.type) E hown hnews hl h1 hb hbase hm
  unfold Oper.wp execOp
  simp only [ho, resolve, invoke, builtin, Sem.run_bind, Sem.run_pure, Result.andThen_ok, List.map_toArray, List.map_cons, List.map_nil, hs, hx]
  rw [hr]
  exact hK _ _ (h v' w' h2)
theorem news_new (w : World) (u : Value) (e : TypeId) : ∀ j x, [u][j]? = some x → (w.alloc (.cells #[u] e)).cell? ((⟨w.heap.size, 0, none⟩ : Addr).add j) = some x := by
  intro j x hj
  match j, hj with
  | 0, hj => simp at hj; subst hj; simp [Addr.add]

/-- A shorter slice over the same block. -/
theorem own_prefix {w w2 : World} {B : Nat} {e : TypeId} {v g : Value} {n N : Nat} {ys xs : List Value} {b : Nat} (hv : w.ownsRow B e 1 v n ys) (hg : w.ownsRow B e 1 g N xs) (h2 : w2.ownsRow B e 1 g N xs)
    (bv : v.ownBlock = some b) (bg : g.ownBlock = some b) (hn : n ≤ N) : w2.ownsRow B e 1 v n (xs.take n) := by
  obtain ⟨hv1, hv2⟩ := hv
  obtain ⟨hg1, hg2⟩ := hg
  obtain ⟨h21, h22⟩ := h2
  rcases hv2 with ⟨rfl, _⟩ | ⟨b1, c1, cur1, rfl, q1, q2, q3, q4, q5, q6⟩
  · cases bv
  cases bv
  rcases hg2 with ⟨rfl, _⟩ | ⟨b2, c2, cur2, rfl, r1, r2, r3, r4, r5, r6⟩
  · cases bg
  cases bg
  rw [q2] at r2; cases r2
  rcases h22 with ⟨hh, _⟩ | ⟨b3, c3, cur3, hh, s1, s2, s3, s4, s5, s6⟩
  · cases hh
  cases hh
  refine ⟨by simp; omega, .inr ⟨b1, c1, cur3, rfl, q1, s2, q3, q4, by omega, ?_⟩⟩
  rw [← s6, List.take_take]
  congr 1
  omega
/-- What lies in another block stays. -/
theorem own_other {w w' : World} {B : Nat} {e : TypeId} {size : Nat} {v : Value} {n : Nat} {xs : List Value} {row : Option Nat} (h : w.ownsRow B e size v n xs) (hg : w.grownBy w' row) (hne : ∀ b, v.ownBlock = some b → row ≠ some b) : w'.ownsRow B e size v n xs := by
  refine h.kept hg ?_
  cases hv : v.ownBlock with
  | none => exact .inl rfl
  | some b => exact .inr (fun e => hne b hv e.symm)
theorem grown_trans {a b c : World} {row : Option Nat} (h : a.grownBy b row) (k : b.grownBy c row) : a.grownBy c row :=
  ⟨k.os.trans h.os, k.tape.trans h.tape, k.output.trans h.output, Nat.le_trans h.size k.size, fun i hi hne => (k.block i (Nat.lt_of_lt_of_le hi h.size) hne).trans (h.block i hi hne)⟩
theorem grown_of_none {a b : World} (h : a.grownBy b none) (row : Option Nat) : a.grownBy b row := ⟨h.os, h.tape, h.output, h.size, fun i hi _ => h.block i hi (by simp)⟩
theorem own_lt {w : World} {B : Nat} {e : TypeId} {size : Nat} {v : Value} {n : Nat} {xs : List Value} (h : w.ownsRow B e size v n xs) {b : Nat} (hb : v.ownBlock = some b) : B ≤ b ∧ b < w.heap.size := h.lt b hb
end Go.Gw
namespace Go.Gw
open Go.RowKit

/-- The marks of list j: n of them, by 'mk'. -/
def mks (mk : Nat → Nat → Value) (j n : Nat) : List Value := (List.range n).map (mk j)
theorem mks_length (mk : Nat → Nat → Value) (j n : Nat) : (mks mk j n).length = n := by simp [mks]
theorem mks_succ (mk : Nat → Nat → Value) (j n : Nat) : mks mk j (n + 1) = mks mk j n ++ [mk j n] := by simp [mks, List.range_succ]
theorem mks_getD (mk : Nat → Nat → Value) (j n : Nat) {i : Nat} (h : i < n) : (mks mk j n).getD i undef = mk j i := by
  simp [mks, List.getD_eq_getElem?_getD, h]
theorem mks_take (mk : Nat → Nat → Value) (j n : Nat) {k : Nat} (h : k ≤ n) : (mks mk j n).take k = mks mk j k := by
  simp [mks, ← List.map_take, List.take_range, Nat.min_eq_left h]

/-- Many rows, each in a block of its own; none in block L, where their slices lie. -/
structure Many (L m : Nat) (v : Nat → Value) : Prop where
  notL : ∀ j, j < m → (v j).ownBlock ≠ some L
  apart : ∀ i j, i < m → j < m → i ≠ j → ∀ b, (v i).ownBlock = some b → (v j).ownBlock ≠ some b

/-- The first loop: the lists ahead of k are full of marks, of list k the first i. -/
def St1 (mk : Nat → Nat → Value) (e : TypeId) (w : World) (B L m : Nat) (v : Nat → Value) (n : Nat → Nat) (k i : Nat) (wr : World) : Prop :=
  ∃ cs : Nat → List Value, (∀ j, j < m → wr.ownsRow B e 1 (v j) (n j) (cs j)) ∧ (∀ j, j < k → cs j = mks mk j (n j)) ∧ (cs k).take i = mks mk k i ∧
    Row wr (some ⟨L, 0, none⟩) ((List.range m).map v) ∧ Below B w wr

theorem St1.cell {mk : Nat → Nat → Value} {e : TypeId} {w : World} {B L m : Nat} {v : Nat → Value} {n : Nat → Nat} {k i : Nat} {wr : World} (h : St1 mk e w B L m v n k i wr) {j : Nat} (hj : j < m) : wr.cell? ⟨L, j, none⟩ = some (v j) := by
  obtain ⟨cs, _, _, _, hr, _⟩ := h
  have := hr.at (j := j) (by simpa using hj)
  rw [Nat.zero_add] at this
  rw [this]; simp [List.getD_eq_getElem?_getD, hj]
theorem St1.shape {mk : Nat → Nat → Value} {e : TypeId} {w : World} {B L m : Nat} {v : Nat → Value} {n : Nat → Nat} {k i : Nat} {wr : World} (h : St1 mk e w B L m v n k i wr) {j : Nat} (hj : j < m) : ∃ a c, v j = .slice a (n j) c := by
  obtain ⟨cs, ho, _⟩ := h
  obtain ⟨a, c, hv, _⟩ := ownsRow_row (ho j hj)
  exact ⟨a, c, hv⟩
theorem St1.at {mk : Nat → Nat → Value} {e : TypeId} {w : World} {B L m : Nat} {v : Nat → Value} {n : Nat → Nat} {k i : Nat} {wr : World} (h : St1 mk e w B L m v n k i wr) (hk : k < m) (hi : i < n k) :
    ∃ b c, v k = .slice (some ⟨b, 0, none⟩) (n k) c ∧ (∃ u, wr.cell? ⟨b, i, none⟩ = some u) ∧ wr.frozen? ⟨b, i, none⟩ = false := by
  obtain ⟨cs, ho, _⟩ := h
  have h1 := ho k hk
  rcases h1.2 with ⟨hv, h0⟩ | ⟨b, c, cur, hv, _⟩
  · omega
  · rw [hv] at h1
    exact ⟨b, c, hv, own_cell h1 hi, frozen_own h1 i⟩
theorem St1.step {mk : Nat → Nat → Value} {e : TypeId} {w : World} {B L m : Nat} {v : Nat → Value} {n : Nat → Nat} {k i : Nat} {wr : World} (h : St1 mk e w B L m v n k i wr) (M : Many L m v) (hk : k < m) (hi : i < n k)
    {b c : Nat} (hv : v k = .slice (some ⟨b, 0, none⟩) (n k) c) : St1 mk e w B L m v n k (i + 1) (wr.setCell ⟨b, i, none⟩ (mk k i)) := by
  obtain ⟨cs, ho, hd, ht, hr, hb⟩ := h
  have hbk : (v k).ownBlock = some b := by rw [hv]; rfl
  have h1 := ho k hk
  have hg : wr.grownBy (wr.setCell ⟨b, i, none⟩ (mk k i)) (some b) := grown_setCell (World.grownBy.refl _ _) _ rfl _
  have hlb := own_lt h1 hbk
  refine ⟨fun j => if j = k then (cs k).set i (mk k i) else cs j, ?_, ?_, ?_, ?_, ?_⟩
  · intro j hj
    by_cases hjk : j = k
    · subst hjk
      simp only [if_true]
      rw [hv] at h1 ⊢
      exact ownsRow_setCell h1 hi _
    · simp only [hjk, if_false]
      exact own_other (ho j hj) hg (fun b' hb' e => by cases e; exact M.apart j k hj hk hjk b hb' hbk)
  · intro j hj
    have : j ≠ k := by omega
    simp only [this, if_false]
    exact hd j hj
  · simp only [if_true]
    have hl : (cs k).length = n k := by have := h1.1; omega
    rw [List.take_succ_eq_append_getElem (by simp; omega), List.take_set_of_le (Nat.le_refl _), ht, mks_succ]
    simp
  · intro j hj
    obtain ⟨b', off, ha, hlt, hc⟩ := hr j hj
    cases ha
    refine ⟨L, 0, rfl, by simpa [World.setCell] using hlt, ?_⟩
    rw [← hc]
    refine World.cell?_of_block (hg.block L hlt ?_)
    intro e; cases e; exact M.notL k hk hbk
  · exact hb.setCell (p := ⟨b, i, none⟩) hlb.1 _
theorem St1.drew {mk : Nat → Nat → Value} {e : TypeId} {w : World} {B L m : Nat} {v : Nat → Value} {n : Nat → Nat} {k i : Nat} {wr : World} (h : St1 mk e w B L m v n k i wr) : St1 mk e w B L m v n k i wr.drew := by
  obtain ⟨cs, ho, hd, ht, hr, hb⟩ := h
  exact ⟨cs, ho, hd, ht, hr, hb.drew⟩
theorem St1.next {mk : Nat → Nat → Value} {e : TypeId} {w : World} {B L m : Nat} {v : Nat → Value} {n : Nat → Nat} {k : Nat} {wr : World} (h : St1 mk e w B L m v n k (n k) wr) (hk : k < m) : St1 mk e w B L m v n (k + 1) 0 wr := by
  obtain ⟨cs, ho, hd, ht, hr, hb⟩ := h
  refine ⟨cs, ho, ?_, by simp [mks], hr, hb⟩
  intro j hj
  by_cases hjk : j = k
  · subst hjk
    have hl : (cs j).length = n j := by have := (ho j hk).1; omega
    rw [List.take_of_length_le (by omega)] at ht
    exact ht
  · exact hd j (by omega)
end Go.Gw
namespace Go.Gw
open Go.RowKit

/-- The second loop: of each list ahead of k there is one that goes on, in 'G'; 'gsv' holds them. -/
structure St2 (mk : Nat → Nat → Value) (e t2 : TypeId) (w : World) (B L m : Nat) (v : Nat → Value) (n : Nat → Nat) (k : Nat) (gsv : Value) (G : Nat → Value) (wr : World) : Prop where
  vown : ∀ j, j < m → wr.ownsRow B e 1 (v j) (n j) (mks mk j (n j))
  gown : ∀ j, j < k → wr.ownsRow B e 1 (G j) (n j + 6) (mks mk j (n j + 6))
  gs : wr.ownsRow B t2 1 gsv k ((List.range k).map G)
  gv : ∀ j i, j < k → i < m → i ≠ j → ∀ b, (G j).ownBlock = some b → (v i).ownBlock ≠ some b
  gL : ∀ j, j < k → (G j).ownBlock ≠ some L
  gsL : gsv.ownBlock ≠ some L
  gsV : ∀ j, j < m → ∀ b, gsv.ownBlock = some b → (v j).ownBlock ≠ some b
  gsG : ∀ j, j < k → ∀ b, gsv.ownBlock = some b → (G j).ownBlock ≠ some b
  row : Row wr (some ⟨L, 0, none⟩) ((List.range m).map v)
  below : Below B w wr
/-- Within its round: 'g' goes on with list k, i more. -/
structure Cur (mk : Nat → Nat → Value) (e : TypeId) (B L m : Nat) (v : Nat → Value) (n : Nat → Nat) (k : Nat) (gsv : Value) (G : Nat → Value) (g : Value) (i : Nat) (wr : World) : Prop where
  own : wr.ownsRow B e 1 g (n k + i) (mks mk k (n k + i))
  cv : ∀ j, j < m → j ≠ k → ∀ b, g.ownBlock = some b → (v j).ownBlock ≠ some b
  cg : ∀ j, j < k → ∀ b, g.ownBlock = some b → (G j).ownBlock ≠ some b
  cs : ∀ b, g.ownBlock = some b → gsv.ownBlock ≠ some b
  cL : g.ownBlock ≠ some L

theorem own_none {w w' : World} {B : Nat} {e : TypeId} {size : Nat} {v : Value} {n : Nat} {xs : List Value} (h : w.ownsRow B e size v n xs) (hn : v.ownBlock = none) : w'.ownsRow B e size v n xs := by
  obtain ⟨h1, h2⟩ := h
  refine ⟨h1, ?_⟩
  rcases h2 with h2 | ⟨g, c, cur, rfl, _⟩
  · exact .inl h2
  · cases hn
theorem row_grown {w w' : World} {L : Nat} {cs : List Value} {row : Option Nat} (h : Row w (some ⟨L, 0, none⟩) cs) (hg : w.grownBy w' row) (hne : row ≠ some L) : Row w' (some ⟨L, 0, none⟩) cs := by
  intro j hj
  obtain ⟨b', off, ha, hlt, hc⟩ := h j hj
  cases ha
  refine ⟨L, 0, rfl, Nat.lt_of_lt_of_le hlt hg.size, ?_⟩
  rw [← hc]
  exact World.cell?_of_block (hg.block L hlt (fun e => hne e.symm))

section
variable {mk : Nat → Nat → Value} {e t2 : TypeId} {w : World} {B L m : Nat} {v : Nat → Value} {n : Nat → Nat} {k : Nat} {gsv : Value} {G : Nat → Value} {wr : World}
theorem St1.done (h : St1 mk e w B L m v n m 0 wr) (G : Nat → Value) : St2 mk e t2 w B L m v n 0 (.slice none 0 0) G wr := by
  obtain ⟨cs, ho, hd, ht, hr, hb⟩ := h
  refine ⟨fun j hj => by rw [← hd j hj]; exact ho j hj, fun j hj => by omega, World.ownsRow_nil _ _ _ _, fun j i hj => by omega, fun j hj => by omega, by simp [Value.ownBlock], fun j _ b hb => by simp [Value.ownBlock] at hb, fun j hj => by omega, hr, hb⟩
theorem St2.alloc (h : St2 mk e t2 w B L m v n k gsv G wr) (hB : B ≤ wr.heap.size) (o : Obj) : St2 mk e t2 w B L m v n k gsv G (wr.alloc o) :=
  ⟨fun j hj => (h.vown j hj).alloc o, fun j hj => (h.gown j hj).alloc o, h.gs.alloc o, h.gv, h.gL, h.gsL, h.gsV, h.gsG, h.row.below ((Below.refl _ _).alloc (Nat.le_refl _) _), h.below.alloc hB _⟩
theorem Cur.alloc {g : Value} {i : Nat} (h : Cur mk e B L m v n k gsv G g i wr) (o : Obj) : Cur mk e B L m v n k gsv G g i (wr.alloc o) := ⟨h.own.alloc o, h.cv, h.cg, h.cs, h.cL⟩
theorem St2.drw {wr' : World} (h : St2 mk e t2 w B L m v n k gsv G wr) (hd : Drew wr wr') : St2 mk e t2 w B L m v n k gsv G wr' := by
  obtain ⟨q, rfl⟩ := hd
  exact ⟨h.vown, h.gown, h.gs, h.gv, h.gL, h.gsL, h.gsV, h.gsG, h.row, RowKit.Below.trans h.below ⟨rfl, rfl, rfl, Nat.le_refl _, fun _ _ => rfl⟩⟩
theorem own_at {w : World} {B : Nat} {e : TypeId} {v : Value} {n : Nat} {xs : List Value} (h : w.ownsRow B e 1 v n xs) {i : Nat} (hi : i < n) : ∃ b c, v = .slice (some ⟨b, 0, none⟩) n c ∧ w.cell? ⟨b, i, none⟩ = some (xs.getD i undef) := by
  obtain ⟨a, c, hv, hr, _, _, hl⟩ := ownsRow_row h
  obtain ⟨b, off, rfl⟩ := row_some hr (j := i) (by omega)
  have h0 : off = 0 := by
    rcases h.2 with ⟨h1, _⟩ | ⟨g, c', cur, h1, _⟩
    · rw [hv] at h1; cases h1
    · rw [hv] at h1; cases h1; rfl
  subst h0
  have := hr.at (j := i) (by omega)
  rw [Nat.zero_add] at this
  exact ⟨b, c, hv, this⟩
theorem St2.start (h : St2 mk e t2 w B L m v n k gsv G wr) (M : Many L m v) (hk : k < m) : Cur mk e B L m v n k gsv G (v k) 0 wr :=
  ⟨h.vown k hk, fun j hj hjk b hb => M.apart k j hk hj (Ne.symm hjk) b hb, fun j hj b hb hg => h.gv j k hj hk (by omega) b hg hb, fun b hb hg => h.gsV k hk b hg hb, M.notL k hk⟩
theorem St2.cell (h : St2 mk e t2 w B L m v n k gsv G wr) {j : Nat} (hj : j < m) : wr.cell? ⟨L, j, none⟩ = some (v j) := by
  have := h.row.at (j := j) (by simpa using hj)
  rw [Nat.zero_add] at this
  rw [this]; simp [List.getD_eq_getElem?_getD, hj]
theorem St2.app {g : Value} {i : Nat} (h : St2 mk e t2 w B L m v n k gsv G wr) (c : Cur mk e B L m v n k gsv G g i wr) (hk : k < m) (hL : L < wr.heap.size) (hB : B ≤ wr.heap.size) {w2 : World} {g' : Value}
    (o : AppOut wr w2 B e 1 (n k + i) g g' (mks mk k (n k + i)) 1 [mk k (n k + i)]) : St2 mk e t2 w B L m v n k gsv G w2 ∧ Cur mk e B L m v n k gsv G g' (i + 1) w2 := by
  have hg := o.grown
  refine ⟨⟨?_, ?_, ?_, h.gv, h.gL, h.gsL, h.gsV, h.gsG, row_grown h.row hg c.cL, below_app h.below c.own hg hB⟩, ?_⟩
  · intro j hj
    by_cases hjk : j = k
    · subst hjk
      cases hv : (v j).ownBlock with
      | none => exact own_none (h.vown j hj) hv
      | some b =>
        by_cases hgb : g.ownBlock = some b
        · have := own_prefix (h.vown j hj) c.own o.old hv hgb (by omega)
          rwa [mks_take _ _ _ (by omega)] at this
        · exact own_other (h.vown j hj) hg (fun b' hb' => by rw [hv] at hb'; cases hb'; exact hgb)
    · exact own_other (h.vown j hj) hg (fun b hb e => c.cv j hj hjk b e hb)
  · intro j hj
    exact own_other (h.gown j hj) hg (fun b hb e => c.cg j hj b e hb)
  · exact own_other h.gs hg (fun b hb e => c.cs b e hb)
  · have hnew : ∀ b, wr.heap.size ≤ b → (∀ j, j < m → (v j).ownBlock ≠ some b) ∧ (∀ j, j < k → (G j).ownBlock ≠ some b) ∧ gsv.ownBlock ≠ some b := fun b hb =>
      ⟨fun j hj e => by have := (own_lt (h.vown j hj) e).2; omega, fun j hj e => by have := (own_lt (h.gown j hj) e).2; omega, fun e => by have := (own_lt h.gs e).2; omega⟩
    refine ⟨?_, ?_, ?_, ?_, ?_⟩
    · have := o.own
      rw [← mks_succ] at this
      exact this
    · intro j hj hjk b hb
      rcases o.blk with hsame | ⟨q, hq, hle⟩
      · exact c.cv j hj hjk b (hsame ▸ hb)
      · rw [hq] at hb; cases hb; exact (hnew _ hle).1 j hj
    · intro j hj b hb
      rcases o.blk with hsame | ⟨q, hq, hle⟩
      · exact c.cg j hj b (hsame ▸ hb)
      · rw [hq] at hb; cases hb; exact (hnew _ hle).2.1 j hj
    · intro b hb
      rcases o.blk with hsame | ⟨q, hq, hle⟩
      · exact c.cs b (hsame ▸ hb)
      · rw [hq] at hb; cases hb; exact (hnew _ hle).2.2
    · rcases o.blk with hsame | ⟨q, hq, hle⟩
      · rw [hsame]; exact c.cL
      · rw [hq]; intro e; cases e; omega
theorem St2.push {g : Value} (h : St2 mk e t2 w B L m v n k gsv G wr) (c : Cur mk e B L m v n k gsv G g 6 wr) (hk : k < m) (hL : L < wr.heap.size) (hB : B ≤ wr.heap.size) {w2 : World} {gsv' : Value}
    (o : AppOut wr w2 B t2 1 k gsv gsv' ((List.range k).map G) 1 [g]) : St2 mk e t2 w B L m v n (k + 1) gsv' (fun j => if j = k then g else G j) w2 := by
  have hg := o.grown
  have hnew : ∀ b, wr.heap.size ≤ b → (∀ j, j < m → (v j).ownBlock ≠ some b) ∧ (∀ j, j < k → (G j).ownBlock ≠ some b) ∧ g.ownBlock ≠ some b := fun b hb =>
    ⟨fun j hj e => by have := (own_lt (h.vown j hj) e).2; omega, fun j hj e => by have := (own_lt (h.gown j hj) e).2; omega, fun e => by have := (own_lt c.own e).2; omega⟩
  refine ⟨?_, ?_, ?_, ?_, ?_, ?_, ?_, ?_, row_grown h.row hg h.gsL, below_app h.below h.gs hg hB⟩
  · intro j hj; exact own_other (h.vown j hj) hg (fun b hb e => h.gsV j hj b e hb)
  · intro j hj
    by_cases hjk : j = k
    · subst hjk; simp only [if_true]; exact own_other c.own hg (fun b hb e => c.cs b hb e)
    · simp only [hjk, if_false]; exact own_other (h.gown j (by omega)) hg (fun b hb e => h.gsG j (by omega) b e hb)
  · have := o.own
    rw [List.range_succ, List.map_append]
    have e1 : (List.range k).map (fun j => if j = k then g else G j) = (List.range k).map G := List.map_congr_left (fun j hj => by
      have : j ≠ k := by have := List.mem_range.1 hj; omega
      simp [this])
    rw [e1]; simpa using this
  · intro j i hj hi hij b hb
    by_cases hjk : j = k
    · subst hjk; simp only [if_true] at hb; exact c.cv i hi hij b hb
    · simp only [hjk, if_false] at hb; exact h.gv j i (by omega) hi hij b hb
  · intro j hj
    by_cases hjk : j = k
    · subst hjk; simp only [if_true]; exact c.cL
    · simp only [hjk, if_false]; exact h.gL j (by omega)
  · rcases o.blk with hsame | ⟨q, hq, hle⟩
    · rw [hsame]; exact h.gsL
    · rw [hq]; intro e; cases e; omega
  · intro j hj b hb
    rcases o.blk with hsame | ⟨q, hq, hle⟩
    · exact h.gsV j hj b (hsame ▸ hb)
    · rw [hq] at hb; cases hb; exact (hnew _ hle).1 j hj
  · intro j hj b hb
    by_cases hjk : j = k
    · subst hjk; simp only [if_true]
      rcases o.blk with hsame | ⟨q, hq, hle⟩
      · exact fun e => c.cs b e (hsame ▸ hb)
      · rw [hq] at hb; cases hb; exact (hnew _ hle).2.2
    · simp only [hjk, if_false]
      rcases o.blk with hsame | ⟨q, hq, hle⟩
      · exact h.gsG j (by omega) b (hsame ▸ hb)
      · rw [hq] at hb; cases hb; exact (hnew _ hle).2.1 j (by omega)
end
end Go.Gw
namespace Go.Gw
open Go.RowKit
theorem own_base {w : World} {B B' : Nat} {e : TypeId} {size : Nat} {v : Value} {n : Nat} {xs : List Value} (h : w.ownsRow B e size v n xs) (hB : B' ≤ B) : w.ownsRow B' e size v n xs := by
  obtain ⟨h1, h2⟩ := h
  refine ⟨h1, ?_⟩
  rcases h2 with h2 | ⟨g, c, cur, hv, hg, r⟩
  · exact .inl h2
  · exact .inr ⟨g, c, cur, hv, by omega, r⟩
/-- The block of a slice, if it has one, lies in this stretch of the heap. -/
def In (v : Value) (lo hi : Nat) : Prop := ∀ b, v.ownBlock = some b → lo ≤ b ∧ b < hi
theorem own_in {w : World} {B : Nat} {e : TypeId} {size : Nat} {v : Value} {n : Nat} {xs : List Value} (h : w.ownsRow B e size v n xs) : In v B w.heap.size := fun b hb => h.lt b hb
theorem in_apart {v u : Value} {l1 h1 l2 h2 : Nat} (hv : In v l1 h1) (hu : In u l2 h2) (h : h1 ≤ l2 ∨ h2 ≤ l1) : ∀ b, v.ownBlock = some b → u.ownBlock ≠ some b := by
  intro b hb hb'
  have := hv b hb
  have := hu b hb'
  omega
theorem own_slice {w : World} {B : Nat} {e : TypeId} {v : Value} {n : Nat} {xs : List Value} (h : w.ownsRow B e 1 v n xs) (hn : 0 < n) : ∃ g c, v = .slice (some ⟨g, 0, none⟩) n c ∧ n ≤ c := by
  rcases h.2 with ⟨_, h0⟩ | ⟨g, c, cur, hv, _, _, hc, _⟩
  · omega
  · exact ⟨g, c, hv, hc⟩
end Go.Gw
namespace Go.Gw
open Go.RowKit
theorem row_alloc (w : World) (cs : List Value) (e : TypeId) : Row (w.alloc (.cells cs.toArray e)) (some ⟨w.heap.size, 0, none⟩) cs := by
  intro j hj
  refine ⟨w.heap.size, 0, rfl, by simp, ?_⟩
  rw [Nat.zero_add, cell_of_row _ w.heap.size j cs.toArray e (0, 0) (heap_alloc_new w _)]
  simp [List.getD_eq_getElem?_getD, hj]
/-- Five slices. -/
def five (a b c d e : Value) (j : Nat) : Value := match j with | 0 => a | 1 => b | 2 => c | 3 => d | _ => e
def five' {α : Type} (a b c d e : α) (j : Nat) : α := match j with | 0 => a | 1 => b | 2 => c | 3 => d | _ => e
theorem lt5 {j : Nat} (h : j < 5) : j = 0 ∨ j = 1 ∨ j = 2 ∨ j = 3 ∨ j = 4 := by omega
end Go.Gw
