/- Rows of numbers in memory. -/
import Derived.Test.YtiipefhdnfneeaaFl
import Derived.Below
import Derived.Laws.AppendOwn
import Derived.Laws.OwnMore
import Derived.OwnWalk
import Derived.Deep.AppendSrc
import Derived.Deep.Upon
set_option linter.unusedSimpArgs false
set_option linter.unusedVariables false
namespace Go.Gw
open Go.RowKit

/-- The number that a cell holds, NaNs made one. -/
def numOf : Value → Nat × Nat
  | .complex .f64 p q => (cn p, cn q)
  | _ => (0, 0)
def IsNum (v : Value) : Prop := ∃ p q, v = .complex .f64 p q ∧ p < 2 ^ 64 ∧ q < 2 ^ 64
def Nums (cs : List Value) : Prop := ∀ v ∈ cs, IsNum v

/-- From 'a' on lie these cells. -/
def Row (w : World) (a : Option Addr) (cs : List Value) : Prop :=
  ∀ j, j < cs.length → ∃ b off, a = some ⟨b, off, none⟩ ∧ b < w.heap.size ∧ w.cell? ⟨b, off + j, none⟩ = some (cs.getD j undef)

theorem Row.below {w w' : World} {a : Option Addr} {cs : List Value} (h : Row w a cs) (hb : Below w.heap.size w w') : Row w' a cs := by
  intro j hj
  obtain ⟨b, off, ha, hlt, hc⟩ := h j hj
  exact ⟨b, off, ha, Nat.lt_of_lt_of_le hlt hb.size, by rw [hb.cell (p := ⟨b, off + j, none⟩) hlt]; exact hc⟩
theorem Row.nil (w : World) (a : Option Addr) : Row w a [] := fun j hj => by simp at hj
theorem Row.take {w : World} {a : Option Addr} {cs : List Value} (h : Row w a cs) (n : Nat) : Row w a (cs.take n) := by
  intro j hj
  have h1 : j < n ∧ j < cs.length := by simp at hj; omega
  obtain ⟨b, off, ha, hlt, hc⟩ := h j h1.2
  refine ⟨b, off, ha, hlt, ?_⟩
  rw [hc]
  simp [List.getD_eq_getElem?_getD, List.getElem?_take, h1.1]
theorem Row.at {w : World} {b off : Nat} {cs : List Value} (h : Row w (some ⟨b, off, none⟩) cs) {j : Nat} (hj : j < cs.length) : w.cell? ⟨b, off + j, none⟩ = some (cs.getD j undef) := by
  obtain ⟨b', off', ha, _, hc⟩ := h j hj
  cases ha; exact hc
theorem Row.lt {w : World} {b off : Nat} {cs : List Value} (h : Row w (some ⟨b, off, none⟩) cs) (hj : 0 < cs.length) : b < w.heap.size := by
  obtain ⟨b', off', ha, hlt, _⟩ := h 0 hj
  cases ha; exact hlt
/-- What is owned can be read. -/
theorem ownsRow_row {w : World} {base : Nat} {e : TypeId} {v : Value} {n : Nat} {cs : List Value} (h : w.ownsRow base e 1 v n cs) :
    ∃ a cap, v = .slice a n cap ∧ Row w a cs ∧ n ≤ cap ∧ cap ≤ maxLen ∧ cs.length = n := by
  obtain ⟨h1, h2⟩ := h
  rw [Nat.mul_one] at h1
  rcases h2 with ⟨rfl, rfl⟩ | ⟨g, cap, cur, rfl, hb, hg, hnc, hm, hs, ht⟩
  · have : cs = [] := List.eq_nil_of_length_eq_zero (by simpa using h1)
    subst this
    exact ⟨none, 0, rfl, Row.nil _ _, Nat.le_refl _, Nat.zero_le _, h1⟩
  · refine ⟨some ⟨g, 0, none⟩, cap, rfl, ?_, hnc, hm, h1⟩
    intro j hj
    refine ⟨g, 0, rfl, (Array.getElem?_eq_some_iff.1 hg).1, ?_⟩
    rw [Nat.zero_add, World.cell?, hg]
    simp only [Option.isSome_none, Bool.false_eq_true, if_false]
    rw [← Array.getElem?_toList]
    rw [← ht] at hj ⊢
    rw [List.getD_eq_getElem?_getD]
    have hj' : j < n ∧ j < cur.size := by simp at hj; omega
    simp [List.getElem?_take, hj'.1, hj'.2]

theorem nums_at {cs : List Value} (h : Nums cs) {j : Nat} (hj : j < cs.length) : ∃ p q, cs.getD j undef = .complex .f64 p q ∧ p < 2 ^ 64 ∧ q < 2 ^ 64 := by
  have : cs.getD j undef ∈ cs := by rw [List.getD_eq_getElem?_getD, List.getElem?_eq_getElem hj]; exact List.getElem_mem hj
  exact h _ this
theorem row_some {w : World} {a : Option Addr} {cs : List Value} (h : Row w a cs) {j : Nat} (hj : j < cs.length) : ∃ b off, a = some ⟨b, off, none⟩ := by
  obtain ⟨b, off, ha, _⟩ := h j hj
  exact ⟨b, off, ha⟩

/-- Are two rows' first k numbers the same? -/
def sameTo (xs ys : List Value) (k : Nat) : Prop := (xs.take k).map numOf = (ys.take k).map numOf
theorem sameTo_succ {xs ys : List Value} {k : Nat} (h : sameTo xs ys k) (hx : k < xs.length) (hy : k < ys.length) (he : numOf (xs.getD k undef) = numOf (ys.getD k undef)) : sameTo xs ys (k + 1) := by
  unfold sameTo at *
  rw [List.getD_eq_getElem?_getD, List.getElem?_eq_getElem hx, List.getD_eq_getElem?_getD, List.getElem?_eq_getElem hy] at he
  simp only [Option.getD_some] at he
  rw [List.take_succ_eq_append_getElem hx, List.take_succ_eq_append_getElem hy, List.map_append, List.map_append, h]
  simp [he]
theorem not_same {xs ys : List Value} {k : Nat} (hx : k < xs.length) (hy : k < ys.length) (he : numOf (xs.getD k undef) ≠ numOf (ys.getD k undef)) : xs.map numOf ≠ ys.map numOf := by
  intro h
  apply he
  have := congrArg (fun l => l[k]?) h
  simp only [List.getElem?_map] at this
  rw [List.getElem?_eq_getElem hx, List.getElem?_eq_getElem hy] at this
  rw [List.getD_eq_getElem?_getD, List.getElem?_eq_getElem hx, List.getD_eq_getElem?_getD, List.getElem?_eq_getElem hy]
  simpa using this
end Go.Gw
namespace Go.Gw
open Go.RowKit
def cxOf (z : Nat × Nat) : Value := .complex .f64 z.1 z.2
/-- Pairs of words from 'a' on. -/
def Pairs (w : World) (a : Option Addr) (zs : List (Nat × Nat)) : Prop :=
  ∀ j, j < zs.length → ∃ b off, a = some ⟨b, off, none⟩ ∧ b < w.heap.size ∧ w.cell? ⟨b, off + j * 2, none⟩ = some (.int .u64 (zs.getD j (0, 0)).1) ∧ w.cell? ⟨b, off + j * 2 + 1, none⟩ = some (.int .u64 (zs.getD j (0, 0)).2)
theorem Pairs.below {w w' : World} {a : Option Addr} {zs : List (Nat × Nat)} (h : Pairs w a zs) (hb : Below w.heap.size w w') : Pairs w' a zs := by
  intro j hj
  obtain ⟨b, off, ha, hlt, hc, hd⟩ := h j hj
  exact ⟨b, off, ha, Nat.lt_of_lt_of_le hlt hb.size, by rw [hb.cell (p := ⟨b, off + j * 2, none⟩) hlt]; exact hc, by rw [hb.cell (p := ⟨b, off + j * 2 + 1, none⟩) hlt]; exact hd⟩
theorem pairs_some {w : World} {a : Option Addr} {zs : List (Nat × Nat)} (h : Pairs w a zs) {j : Nat} (hj : j < zs.length) : ∃ b off, a = some ⟨b, off, none⟩ := by
  obtain ⟨b, off, ha, _⟩ := h j hj
  exact ⟨b, off, ha⟩
theorem Pairs.at {w : World} {b off : Nat} {zs : List (Nat × Nat)} (h : Pairs w (some ⟨b, off, none⟩) zs) {j : Nat} (hj : j < zs.length) :
    w.cell? ⟨b, off + j * 2, none⟩ = some (.int .u64 (zs.getD j (0, 0)).1) ∧ w.cell? ⟨b, off + j * 2 + 1, none⟩ = some (.int .u64 (zs.getD j (0, 0)).2) := by
  obtain ⟨b', off', ha, _, hc⟩ := h j hj
  cases ha; exact hc

/-- The real part of mark i of list k, and the mark. -/
def markRe (k i : Int) : Nat := fsub (floatOfInt .f64 (wrap64 (wrap64 (-1000 * k) - i))) 4620130267728707584
def markC (k i : Int) : Value := .complex .f64 (markRe k i) (floatOfInt .f64 k)

theorem ofInt_eq (n : Int) : floatOfInt .f64 n = Ieee.double.write (.number (decide (n < 0)) n.natAbs 0) := rfl
theorem isNan_ofInt (n : Int) : isNan (floatOfInt .f64 n) = false := by rw [ofInt_eq]; exact isNan_write rfl
theorem ofInt_lt (n : Int) : floatOfInt .f64 n < 2 ^ 64 := by rw [ofInt_eq]; exact lt64 (Ieee.Format.write_lt _ _)
theorem sum_some {d e : Ieee.Datum} (hd : d.isNaN = false) {s : Bool} {m : Nat} {p : Int} (he : e = .number s m p) : ∃ r, d.sum e = some r := by
  subst he
  cases d with
  | number s' m' p' => exact ⟨_, rfl⟩
  | infinity s' => exact ⟨_, rfl⟩
  | nan s' f => cases hd
theorem sub_const (n : Int) : ∃ r, Ieee.double.sub (floatOfInt .f64 n) 4620130267728707584 = some r := by
  obtain ⟨r, hr⟩ := sum_some (d := Ieee.double.read (floatOfInt .f64 n)) (e := (Ieee.double.read 4620130267728707584).opposite) (isNan_ofInt n)
    (s := true) (m := 8444249301319680) (p := -50) (by decide +kernel)
  exact ⟨Ieee.double.write r, by unfold Ieee.Format.sub; rw [hr]; rfl⟩
theorem fres_mark (n : Int) (w : World) : fres .sub (floatOfInt .f64 n) 4620130267728707584 w = fsub (floatOfInt .f64 n) 4620130267728707584 := by
  obtain ⟨r, hr⟩ := sub_const n
  simp [fres, fsub, hr]
theorem fdr_mark (n : Int) : fdr .sub (floatOfInt .f64 n) 4620130267728707584 = 0 := by
  obtain ⟨r, hr⟩ := sub_const n
  simp [fdr, hr]
theorem markRe_is (k i : Int) : markRe k i < 2 ^ 64 ∧ cn (markRe k i) = markRe k i := by
  unfold markRe
  obtain ⟨r, hr⟩ := sub_const (wrap64 (wrap64 (-1000 * k) - i))
  simp only [fsub, hr, Option.getD_some]
  exact ⟨lt64 (Ieee.Format.sub_lt _ hr), cn_of_not (isNan_sub hr)⟩
theorem isNum_mark (k i : Int) : IsNum (markC k i) := ⟨_, _, rfl, (markRe_is k i).1, ofInt_lt k⟩

/-- A slice type's element: its zero value, its cells, its bytes. -/
structure Elem (P : Program) (t e : TypeId) (z : Value) (size bytes : Nat) : Prop where
  under : P.underlying t = some (.slice e)
  info : (P.info? e).map (fun i => (i.zero, i.size, i.bytes)) = some (some z, size, bytes)
  cells : z.cells.size = size
  pos : 0 < size
  posb : 0 < bytes

theorem oneCell_num {v : Value} (h : IsNum v) : v.oneCell' = true := by
  obtain ⟨p, q, rfl, _⟩ := h; rfl

/-- 'append(own, src...)', whatever the source: nil, empty, anything that can be read. -/
theorem wp_app {P : Program} {w : World} {o : Oper} {a : Act} {K : Act → World → Prop} {Q : Exit → Act → World → Prop} (s x : Operand) {t : TypeId}
    (ho : o.op = .call { callee := .builtin .append, args := #[s, x], argTypes := #[t, t] })
    {base : Nat} {e : TypeId} {z : Value} {size bytes : Nat} (E : Elem P t e z size bytes)
    {v : Value} {n : Nat} {xs : List Value} (hown : w.ownsRow base e size v n xs) (hs : a.eval s = v)
    {xa : Option Addr} {m c : Nat} {news : List Value} (hx : a.eval x = .slice xa m c) (hrow : Row w xa news) (hl : news.length = m * size) (h1 : ∀ u ∈ news, u.oneCell' = true)
    (hb : (n + m) * bytes ≤ 140737488355328) (hbase : base ≤ w.heap.size)
    (h : ∀ v' w', w'.ownsRow base e size v' (n + m) (xs ++ news) → w.grownBy w' v.ownBlock → K (a.put o.dst v') w') : o.wp P a w K Q := by
  obtain ⟨i, hi, hz, hsi, hby⟩ := info_parts E.info
  by_cases hm : m = 0
  · subst hm
    have hn : news = [] := List.eq_nil_of_length_eq_zero (by simpa using hl)
    subst hn
    have hsrc : Src P i.size t (.slice xa 0 c) 0 [] w := by
      cases xa with
      | none => exact Src.ofNil w E.under c
      | some ad => exact Src.ofSlice w E.under ad 0 c [] (by simp) (by simp) (by simp)
    have hr : (Builtin.append_ #[t, t] o.type #[v, .slice xa 0 c]).run P w = .ok v w := by
      rcases hown.2 with ⟨rfl, rfl⟩ | ⟨g, cap, cur, rfl, _, _, hnc, _⟩
      · exact run_append_nothing w t t o.type e i E.under hi none 0 0 (Nat.le_refl _) _ hsrc
      · exact run_append_nothing w t t o.type e i E.under hi (some ⟨g, 0, none⟩) n cap hnc _ hsrc
    unfold Oper.wp execOp
    simp only [ho, resolve, invoke, builtin, Sem.run_bind, Sem.run_pure, Result.andThen_ok, List.map_toArray, List.map_cons, List.map_nil, hs, hx, hr]
    exact h v w (by simpa using hown) (World.grownBy.refl _ _)
  · have hp : 0 < news.length := by rw [hl]; exact Nat.mul_pos (by omega) E.pos
    obtain ⟨b, off, rfl, _, _⟩ := hrow 0 hp
    refine wp_append_own w s x t ho base e i z size bytes E.under hi hz hsi hby E.cells E.pos v n xs hs hown ⟨b, off, none⟩ m c news hx hl ?_ h1 ?_ hb hbase (fun v' w' h1 h2 _ => h v' w' h1 h2)
    · intro j u hj
      have hjl : j < news.length := by
        rcases Nat.lt_or_ge j news.length with h' | h'
        · exact h'
        · rw [List.getElem?_eq_none h'] at hj; cases hj
      rw [Addr.add_lit]
      rw [hrow.at hjl, List.getD_eq_getElem?_getD, hj]; rfl
    · have : (n + m) * 1 ≤ (n + m) * bytes := Nat.mul_le_mul_left _ E.posb
      unfold maxLen; omega
theorem wpList_app {P : Program} {w : World} {ops : Array Oper} {rest : List Oper} {o : Oper} {a : Act} {Q : Exit → Act → World → Prop} (hgd : o.guard = none) (s x : Operand) {t : TypeId}
    (ho : o.op = .call { callee := .builtin .append, args := #[s, x], argTypes := #[t, t] })
    {base : Nat} {e : TypeId} {z : Value} {size bytes : Nat} (E : Elem P t e z size bytes)
    {v : Value} {n : Nat} {xs : List Value} (hown : w.ownsRow base e size v n xs) (hs : a.eval s = v)
    {xa : Option Addr} {m c : Nat} {news : List Value} (hx : a.eval x = .slice xa m c) (hrow : Row w xa news) (hl : news.length = m * size) (h1 : ∀ u ∈ news, u.oneCell' = true)
    (hb : (n + m) * bytes ≤ 140737488355328) (hbase : base ≤ w.heap.size)
    (h : ∀ v' w', w'.ownsRow base e size v' (n + m) (xs ++ news) → w.grownBy w' v.ownBlock → wpList P ops Q rest (a.put o.dst v') w') : wpList P ops Q (o :: rest) a w :=
  wpList_plain hgd fun K hK => wp_app s x ho E hown hs hx hrow hl h1 hb hbase fun v' w' h1 h2 => hK _ _ (h v' w' h1 h2)
/-- The same inside a region that draws its order. -/
theorem step_app {P : Program} {w : World} {ops : Array Oper} {o : Oper} {a : Act} {K : Act → World → Prop} {Q : Exit → Act → World → Prop} {F : Prop} (hgd : o.guard = none) (s x : Operand) {t : TypeId}
    (ho : o.op = .call { callee := .builtin .append, args := #[s, x], argTypes := #[t, t] })
    {base : Nat} {e : TypeId} {z : Value} {size bytes : Nat} (E : Elem P t e z size bytes)
    {v : Value} {n : Nat} {xs : List Value} (hown : w.ownsRow base e size v n xs) (hs : a.eval s = v)
    {xa : Option Addr} {m c : Nat} {news : List Value} (hx : a.eval x = .slice xa m c) (hrow : Row w xa news) (hl : news.length = m * size) (h1 : ∀ u ∈ news, u.oneCell' = true)
    (hb : (n + m) * bytes ≤ 140737488355328) (hbase : base ≤ w.heap.size)
    (h : ∀ v' w', w'.ownsRow base e size v' (n + m) (xs ++ news) → w.grownBy w' v.ownBlock → K (a.put o.dst v') w') :
    if Region.wanted o (yielded ops a.tmps) = true then Oper.wp P o a w K Q else F := by
  have hw : Region.wanted o (yielded ops a.tmps) = true := by simp [Region.wanted, hgd]
  rw [if_pos hw]
  exact wp_app s x ho E hown hs hx hrow hl h1 hb hbase h
theorem keep_cell {B : Nat} {w w1 w2 : World} {b o : Nat} {v : Value} (h1 : Below B w w1) (h2 : Below B w w2) (hb : b < B) (h : w1.cell? ⟨b, o, none⟩ = some v) : w2.cell? ⟨b, o, none⟩ = some v := by
  rw [h2.cell (p := ⟨b, o, none⟩) hb, ← h1.cell (p := ⟨b, o, none⟩) hb]; exact h
theorem bcell {B : Nat} {W w1 : World} (hb : Below B W w1) : (∀ b o, b < B → w1.cell? ⟨b, o, none⟩ = W.cell? ⟨b, o, none⟩) ∧ (∀ b o, b < B → w1.frozen? ⟨b, o, none⟩ = W.frozen? ⟨b, o, none⟩) :=
  ⟨fun b o h => hb.cell (p := ⟨b, o, none⟩) h, fun b o h => hb.frozen (p := ⟨b, o, none⟩) h⟩

theorem below_grown {w w' : World} (h : w.grownBy w' none) : Below w.heap.size w w' := (Below.refl _ _).grown h (Nat.le_refl _) (fun k hk => by cases hk)
/-- Behind an append to what the call owns. -/
theorem below_app {B : Nat} {a w w' : World} {e : TypeId} {size n : Nat} {v : Value} {xs : List Value} (h : Below B a w) (hown : w.ownsRow B e size v n xs) (hg : w.grownBy w' v.ownBlock) (hB : B ≤ w.heap.size) : Below B a w' :=
  h.grown hg hB (fun k hk => (hown.lt k hk).1)
/-- What is owned stays owned behind a call that writes nothing that was there. -/
theorem ownsRow_below {w w' : World} {B : Nat} {e : TypeId} {size n : Nat} {v : Value} {xs : List Value} (h : w.ownsRow B e size v n xs) (hb : Below w.heap.size w w') : w'.ownsRow B e size v n xs := by
  obtain ⟨h1, h2⟩ := h
  refine ⟨h1, ?_⟩
  rcases h2 with h2 | ⟨g, cap, cur, hv, hg, hh, r⟩
  · exact Or.inl h2
  · exact Or.inr ⟨g, cap, cur, hv, hg, by rw [hb.block g (Array.getElem?_eq_some_iff.1 hh).1]; exact hh, r⟩
theorem below_call {B : Nat} {a w w1 : World} (h : Below B a w) (hb : Below w.heap.size w w1) (hB : B ≤ w.heap.size) : Below B a w1 := h.trans (hb.mono hB)
theorem take_map_succ {α : Type} (f : α → Value) {zs : List α} {k : Nat} (h : k < zs.length) (d : α) : (zs.take k).map f ++ [f (zs.getD k d)] = (zs.take (k + 1)).map f := by
  rw [List.take_succ_eq_append_getElem h, List.map_append, List.getD_eq_getElem?_getD, List.getElem?_eq_getElem h]; rfl

/-- The frame of what writes to one block. -/
theorem grown_setCell {w w1 : World} {g : Nat} (h : w.grownBy w1 (some g)) (p : Addr) (hp : p.block = g) (u : Value) : w.grownBy (w1.setCell p u) (some g) :=
  ⟨h.os, h.tape, h.output, by simpa [World.setCell] using h.size, fun i hi hne => (Below.heap_setCell w1 p u i (by rintro rfl; exact hne (by rw [hp]))).trans (h.block i hi hne)⟩
/-- One cell of what is owned is written. -/
theorem ownsRow_setCell {w : World} {B : Nat} {e : TypeId} {g n cap : Nat} {xs : List Value} (h : w.ownsRow B e 1 (.slice (some ⟨g, 0, none⟩) n cap) n xs) {k : Nat} (hk : k < n) (u : Value) :
    (w.setCell ⟨g, k, none⟩ u).ownsRow B e 1 (.slice (some ⟨g, 0, none⟩) n cap) n (xs.set k u) := by
  obtain ⟨h1, h2⟩ := h
  refine ⟨by simpa using h1, ?_⟩
  rcases h2 with ⟨hv, _⟩ | ⟨g', cap', cur, hv, hg, hh, hnc, hm, hs, ht⟩
  · cases hv
  · cases hv
    refine Or.inr ⟨g, cap, cur.setIfInBounds k u, rfl, hg, ?_, hnc, hm, by simpa using hs, ?_⟩
    · simp only [World.setCell, Array.getElem?_modify, if_true, hh, Option.map_some, Option.isSome_none, Bool.false_eq_true, if_false]
    · rw [Array.toList_setIfInBounds, ← ht, Nat.mul_one, List.take_set]
theorem own_cell {w : World} {B : Nat} {e : TypeId} {g n cap : Nat} {xs : List Value} (h : w.ownsRow B e 1 (.slice (some ⟨g, 0, none⟩) n cap) n xs) {k : Nat} (hk : k < n) : ∃ u, w.cell? ⟨g, k, none⟩ = some u := by
  obtain ⟨a, c, hv, hr, _, _, hl⟩ := ownsRow_row h
  cases hv
  have := hr.at (j := k) (by omega)
  rw [Nat.zero_add] at this
  exact ⟨_, this⟩
theorem nums_setAll {ys : List Value} {k : Nat} {u : Value} (h : Nums ys) (hu : IsNum u) : Nums (ys.set k u) := by
  intro v hv
  rcases List.mem_or_eq_of_mem_set hv with h' | h'
  · exact h v h'
  · rw [h']; exact hu
theorem frozen_own {w : World} {B : Nat} {e : TypeId} {size g n cap : Nat} {xs : List Value} (h : w.ownsRow B e size (.slice (some ⟨g, 0, none⟩) n cap) n xs) (k : Nat) : w.frozen? ⟨g, k, none⟩ = false := by
  obtain ⟨h1, h2⟩ := h
  rcases h2 with ⟨hv, _⟩ | ⟨g', cap', cur, hv, hg, hh, _⟩
  · cases hv
  · cases hv
    simp [World.frozen?, hh]

theorem nums_set {ys : List Value} {k : Nat} {u : Value} (h : Nums (ys.take k)) (hk : k < ys.length) (hu : IsNum u) : Nums ((ys.set k u).take (k + 1)) := by
  intro v hv
  rw [List.take_succ_eq_append_getElem (by simpa using hk)] at hv
  rcases List.mem_append.1 hv with h' | h'
  · rw [List.take_set_of_le (Nat.le_refl _)] at h'; exact h v h'
  · simp at h'; rw [h']; exact hu

/-- 'make([]T, n)': n zeros, owned. -/
theorem wpList_mk {P : Program} {w : World} {ops : Array Oper} {rest : List Oper} {o : Oper} {a : Act} {Q : Exit → Act → World → Prop} (hgd : o.guard = none) (l c : Operand) {t : TypeId} (ho : o.op = Op.makeSlice t l c)
    {base : Nat} {e : TypeId} {z : Value} {size bytes : Nat} (E : Elem P t e z size bytes) {kl kc : IntKind} {n : Nat} (hl : a.eval l = .int kl (n : Int)) (hc : a.eval c = .int kc (n : Int)) (hb : n * bytes ≤ 281474976710656) (hbase : base ≤ w.heap.size)
    (h : ∀ w', w'.ownsRow base e size (.slice (some ⟨w.heap.size, 0, none⟩) n n) n (madeCells z.cells (n * size)).toList → w.grownBy w' none → wpList P ops Q rest (a.put o.dst (.slice (some ⟨w.heap.size, 0, none⟩) n n)) w') : wpList P ops Q (o :: rest) a w := by
  obtain ⟨i, hi, hz, hsi, hby⟩ := info_parts E.info
  refine wpList_make_full w hgd l c t ho base e i z size E.under hi hz hsi kl kc _ _ n hl hc rfl rfl (by rw [hby, Nat.mul_comm]; exact hb) ?_ hbase h
  have : n * 1 ≤ n * bytes := Nat.mul_le_mul_left _ E.posb
  unfold maxLen; omega
theorem nums_made (n : Nat) : Nums (madeCells (Value.complex .f64 0 0).cells (n * 1)).toList := by
  intro v hv
  have : v = .complex .f64 0 0 := by
    simp only [madeCells, Value.cells] at hv
    simp at hv
    obtain ⟨_, _, rfl⟩ := hv
    rw [Nat.mod_one]; rfl
  exact ⟨0, 0, this, by decide, by decide⟩

/-- One new cell, as a row. -/
theorem row_new (w : World) (u : Value) (e : TypeId) : Row (w.alloc (.cells #[u] e)) (some ⟨w.heap.size, 0, none⟩) [u] := by
  intro j hj
  have : j = 0 := by simp at hj; omega
  subst this
  exact ⟨w.heap.size, 0, rfl, by simp, by simp⟩
end Go.Gw
