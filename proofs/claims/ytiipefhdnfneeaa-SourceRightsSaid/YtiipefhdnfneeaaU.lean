/- The net's own memory. -/
import Derived.Test.YtiipefhdnfneeaaT
namespace Go.Proofs.Try
open Go.RowKit Go.Gw
set_option maxRecDepth 100000
set_option linter.unusedSimpArgs false
set_option linter.unusedVariables false

def txts (l : List ByteArray) : List Value := l.map .string
/-- What a net's memory holds. -/
structure NetVal where
  lv : Value
  nv : Value
  bv : Value
  m1 : Nat
  m2 : Nat
  m3 : Nat
  L : List El
  N : List ByteArray
  K : List ByteArray
  n1 : Nat
  n2 : Nat
  n3 : Nat
  f1 : ByteArray → Option Nat
  f2 : ByteArray → Option Nat
  f3 : ByteArray → Option Nat
def NetVal.cells (v : NetVal) : Array Value := #[.bool true, v.lv, .map (some v.m1), v.nv, .map (some v.m2), v.bv, .map (some v.m3)]
/-- Block p is a net; all of it lies from block B on. -/
structure NetOwn (w : World) (B p : Nat) (v : NetVal) : Prop where
  blk : w.heap[p]? = some (.cells v.cells 117)
  bp : B ≤ p
  l : w.ownsRow B 81 8 v.lv v.L.length (elCells v.L)
  n : w.ownsRow B 9 1 v.nv v.N.length (txts v.N)
  b : w.ownsRow B 9 1 v.bv v.K.length (txts v.K)
  s1 : SMap w v.m1 v.n1 v.f1
  s2 : SMap w v.m2 v.n2 v.f2
  s3 : SMap w v.m3 v.n3 v.f3
  b1 : B ≤ v.m1
  b2 : B ≤ v.m2
  b3 : B ≤ v.m3
  n12 : v.m1 ≠ v.m2
  n13 : v.m1 ≠ v.m3
  n23 : v.m2 ≠ v.m3
  nb : ∀ g, v.nv.ownBlock = some g → v.bv.ownBlock ≠ some g
theorem seven_cells {w : World} {b : Nat} {v0 v1 v2 v3 v4 v5 v6 : Value} {t : TypeId} (h : w.heap[b]? = some (.cells #[v0, v1, v2, v3, v4, v5, v6] t)) :
    w.cell? ⟨b, 0, none⟩ = some v0 ∧ w.cell? ⟨b, 1, none⟩ = some v1 ∧ w.cell? ⟨b, 2, none⟩ = some v2 ∧ w.cell? ⟨b, 3, none⟩ = some v3 ∧ w.cell? ⟨b, 4, none⟩ = some v4 ∧ w.cell? ⟨b, 5, none⟩ = some v5 ∧ w.cell? ⟨b, 6, none⟩ = some v6 ∧ (∀ o, w.frozen? ⟨b, o, none⟩ = false) := by
  refine ⟨?_, ?_, ?_, ?_, ?_, ?_, ?_, ?_⟩
  all_goals first | (simp only [World.cell?, h]; rfl) | (intro o; simp [World.frozen?, h])
theorem own_blk {w : World} {B : Nat} {e : TypeId} {size n : Nat} {v : Value} {xs : List Value} (h : w.ownsRow B e size v n xs) {g : Nat} (hg : v.ownBlock = some g) : ∃ cur, w.heap[g]? = some (.cells cur e) := by
  rcases h.2 with ⟨rfl, rfl⟩ | ⟨g', cap, cur, rfl, _, hh, _⟩
  · cases hg
  · cases hg; exact ⟨_, hh⟩
theorem smap_blk {w : World} {b n : Nat} {f : ByteArray → Option Nat} (h : SMap w b n f) : ∃ es c, w.heap[b]? = some (.map es c) := by
  obtain ⟨D, ⟨es, clock, h1, _⟩, _⟩ := h
  exact ⟨es, clock, h1⟩
section
variable {w w' : World} {B p : Nat} {v : NetVal}
theorem NetOwn.pm (h : NetOwn w B p v) {m n : Nat} {f : ByteArray → Option Nat} (s : SMap w m n f) : p ≠ m := by
  intro e; obtain ⟨es, c, hm⟩ := smap_blk s; have := h.blk; rw [e, hm] at this; cases this
theorem own_ne_map {e : TypeId} {size n k m : Nat} {u : Value} {xs : List Value} {f : ByteArray → Option Nat} (h : w.ownsRow B e size u n xs) (s : SMap w m k f) : some m ≠ u.ownBlock := by
  intro e; obtain ⟨es, c, hm⟩ := smap_blk s; obtain ⟨cur, hc⟩ := own_blk h e.symm; rw [hm] at hc; cases hc
theorem own_ne_type {e e' : TypeId} {size size' n n' : Nat} {u u' : Value} {xs xs' : List Value} (h : w.ownsRow B e size u n xs) (h' : w.ownsRow B e' size' u' n' xs') (ne : e ≠ e') : ∀ g, u.ownBlock = some g → u'.ownBlock ≠ some g := by
  intro g hg hg'; obtain ⟨cur, hc⟩ := own_blk h hg; obtain ⟨cur', hc'⟩ := own_blk h' hg'; rw [hc] at hc'; cases hc'; exact ne rfl
theorem NetOwn.pl (h : NetOwn w B p v) {e : TypeId} {size n : Nat} {u : Value} {xs : List Value} (o : w.ownsRow B e size u n xs) (ne : e ≠ 117) : u.ownBlock ≠ some p := by
  intro hg; obtain ⟨cur, hc⟩ := own_blk o hg; have := h.blk; rw [hc] at this; cases this; exact ne rfl
theorem NetOwn.lt (h : NetOwn w B p v) : p < w.heap.size := (Array.getElem?_eq_some_iff.1 h.blk).1
theorem grown_heap {row : Option Nat} (hg : w.grownBy w' row) {i : Nat} (hi : i < w.heap.size) (hne : row ≠ some i) : w'.heap[i]? = w.heap[i]? := hg.block i hi (fun e => hne e.symm)
/-- Nothing that was there is written. -/
theorem NetOwn.keep (h : NetOwn w B p v) (hg : w.grownBy w' none) : NetOwn w' B p v :=
  ⟨(grown_heap hg h.lt (by simp)).trans h.blk, h.bp, own_other h.l hg (by simp), own_other h.n hg (by simp), own_other h.b hg (by simp), h.s1.kept hg (by simp), h.s2.kept hg (by simp), h.s3.kept hg (by simp), h.b1, h.b2, h.b3, h.n12, h.n13, h.n23, h.nb⟩
theorem NetOwn.alloc (h : NetOwn w B p v) (o : Obj) : NetOwn (w.alloc o) B p v := h.keep (World.grownBy_alloc w o _)
theorem NetOwn.drew (h : NetOwn w B p v) : NetOwn w.drew B p v := h.keep ⟨rfl, rfl, rfl, Nat.le_refl _, fun _ _ _ => rfl⟩
theorem NetOwn.map1 (h : NetOwn w B p v) {k : Nat} {f : ByteArray → Option Nat} (hg : w.grownBy w' (some v.m1)) (s : SMap w' v.m1 k f) : NetOwn w' B p { v with n1 := k, f1 := f } :=
  ⟨(grown_heap hg h.lt (by simpa using (h.pm h.s1).symm)).trans h.blk, h.bp, own_other h.l hg (fun b hb e => own_ne_map h.l h.s1 (e.trans hb.symm)), own_other h.n hg (fun b hb e => own_ne_map h.n h.s1 (e.trans hb.symm)), own_other h.b hg (fun b hb e => own_ne_map h.b h.s1 (e.trans hb.symm)),
    s, h.s2.kept hg (by simpa using h.n12.symm), h.s3.kept hg (by simpa using h.n13.symm), h.b1, h.b2, h.b3, h.n12, h.n13, h.n23, h.nb⟩
theorem NetOwn.map2 (h : NetOwn w B p v) {k : Nat} {f : ByteArray → Option Nat} (hg : w.grownBy w' (some v.m2)) (s : SMap w' v.m2 k f) : NetOwn w' B p { v with n2 := k, f2 := f } :=
  ⟨(grown_heap hg h.lt (by simpa using (h.pm h.s2).symm)).trans h.blk, h.bp, own_other h.l hg (fun b hb e => own_ne_map h.l h.s2 (e.trans hb.symm)), own_other h.n hg (fun b hb e => own_ne_map h.n h.s2 (e.trans hb.symm)), own_other h.b hg (fun b hb e => own_ne_map h.b h.s2 (e.trans hb.symm)),
    h.s1.kept hg (by simpa using h.n12), s, h.s3.kept hg (by simpa using h.n23.symm), h.b1, h.b2, h.b3, h.n12, h.n13, h.n23, h.nb⟩
theorem NetOwn.map3 (h : NetOwn w B p v) {k : Nat} {f : ByteArray → Option Nat} (hg : w.grownBy w' (some v.m3)) (s : SMap w' v.m3 k f) : NetOwn w' B p { v with n3 := k, f3 := f } :=
  ⟨(grown_heap hg h.lt (by simpa using (h.pm h.s3).symm)).trans h.blk, h.bp, own_other h.l hg (fun b hb e => own_ne_map h.l h.s3 (e.trans hb.symm)), own_other h.n hg (fun b hb e => own_ne_map h.n h.s3 (e.trans hb.symm)), own_other h.b hg (fun b hb e => own_ne_map h.b h.s3 (e.trans hb.symm)),
    h.s1.kept hg (by simpa using h.n13), h.s2.kept hg (by simpa using h.n23), s, h.b1, h.b2, h.b3, h.n12, h.n13, h.n23, h.nb⟩
theorem grown_set (w : World) (p i : Nat) (u : Value) : w.grownBy (w.setCell ⟨p, i, none⟩ u) (some p) := grown_setCell (World.grownBy.refl _ _) _ rfl u
theorem heap_set {cs : Array Value} {t : TypeId} (h : w.heap[p]? = some (.cells cs t)) (i : Nat) (u : Value) : (w.setCell ⟨p, i, none⟩ u).heap[p]? = some (.cells (cs.setIfInBounds i u) t) := by
  simp only [World.setCell, Array.getElem?_modify, if_true, h, Option.map_some, Option.isSome_none, Bool.false_eq_true, if_false]
/-- One field is written: what the others point to stays. -/
theorem NetOwn.put1 (h : NetOwn w B p v) {n m : Nat} {lv' : Value} {xs : List Value} {x : El} (o : AppOut w w' B 81 8 n v.lv lv' xs m x.row.toList) (hl : n + m = (v.L ++ [x]).length) (hx : xs = elCells v.L) :
    NetOwn (w'.setCell ⟨p, 1, none⟩ lv') B p { v with lv := lv', L := v.L ++ [x] } := by
  have hp := h.pl h.l (by decide)
  have hb := (grown_heap o.grown h.lt hp).trans h.blk
  have hs := grown_set w' p 1 lv'
  have k1 := h.s1.kept o.grown (own_ne_map h.l h.s1)
  have k2 := h.s2.kept o.grown (own_ne_map h.l h.s2)
  have k3 := h.s3.kept o.grown (own_ne_map h.l h.s3)
  have kn := own_other h.n o.grown (fun g hg e => own_ne_type h.n h.l (by decide) g hg e)
  have kb := own_other h.b o.grown (fun g hg e => own_ne_type h.b h.l (by decide) g hg e)
  refine ⟨heap_set hb 1 lv', h.bp, ?_, ?_, ?_, ?_, ?_, ?_, h.b1, h.b2, h.b3, h.n12, h.n13, h.n23, h.nb⟩
  · have := own_other o.own hs (fun g hg e => by
      obtain ⟨cur, hc⟩ := own_blk o.own hg
      cases e; rw [hb] at hc; cases hc)
    rw [hx] at this
    rw [← hl, elCells_append]
    have e1 : elCells [x] = x.row.toList := by simp [elCells]
    rw [e1]; exact this
  · exact own_other kn hs (fun g hg e => by cases e; exact h.pl h.n (by decide) hg)
  · exact own_other kb hs (fun g hg e => by cases e; exact h.pl h.b (by decide) hg)
  · exact k1.kept hs (by simpa using (h.pm h.s1).symm)
  · exact k2.kept hs (by simpa using (h.pm h.s2).symm)
  · exact k3.kept hs (by simpa using (h.pm h.s3).symm)
theorem NetOwn.put3 (h : NetOwn w B p v) {n m : Nat} {nv' : Value} {xs : List Value} {x : ByteArray} (o : AppOut w w' B 9 1 n v.nv nv' xs m [.string x]) (hl : n + m = (v.N ++ [x]).length) (hx : xs = txts v.N) :
    NetOwn (w'.setCell ⟨p, 3, none⟩ nv') B p { v with nv := nv', N := v.N ++ [x] } := by
  have hp := h.pl h.n (by decide)
  have hb := (grown_heap o.grown h.lt hp).trans h.blk
  have hs := grown_set w' p 3 nv'
  have k1 := h.s1.kept o.grown (own_ne_map h.n h.s1)
  have k2 := h.s2.kept o.grown (own_ne_map h.n h.s2)
  have k3 := h.s3.kept o.grown (own_ne_map h.n h.s3)
  have kl := own_other h.l o.grown (fun g hg e => own_ne_type h.l h.n (by decide) g hg e)
  have kb := own_other h.b o.grown (fun g hg e => h.nb g e hg)
  refine ⟨heap_set hb 3 nv', h.bp, ?_, ?_, ?_, ?_, ?_, ?_, h.b1, h.b2, h.b3, h.n12, h.n13, h.n23, ?_⟩
  · exact own_other kl hs (fun g hg e => by cases e; exact h.pl h.l (by decide) hg)
  · have := own_other o.own hs (fun g hg e => by
      obtain ⟨cur, hc⟩ := own_blk o.own hg
      cases e; rw [hb] at hc; cases hc)
    rw [hx] at this
    rw [← hl, show txts (v.N ++ [x]) = txts v.N ++ [.string x] by simp [txts]]
    exact this
  · exact own_other kb hs (fun g hg e => by cases e; exact h.pl h.b (by decide) hg)
  · exact k1.kept hs (by simpa using (h.pm h.s1).symm)
  · exact k2.kept hs (by simpa using (h.pm h.s2).symm)
  · exact k3.kept hs (by simpa using (h.pm h.s3).symm)
  · intro g hg hbg
    rcases o.blk with e | ⟨g', e, hge⟩
    · exact h.nb g (e ▸ hg) hbg
    · have h1 := (own_lt h.b hbg).2
      have h2 : g' = g := Option.some.inj (e.symm.trans hg)
      omega
theorem NetOwn.put5 (h : NetOwn w B p v) {n m : Nat} {bv' : Value} {xs : List Value} {x : ByteArray} (o : AppOut w w' B 9 1 n v.bv bv' xs m [.string x]) (hl : n + m = (v.K ++ [x]).length) (hx : xs = txts v.K) :
    NetOwn (w'.setCell ⟨p, 5, none⟩ bv') B p { v with bv := bv', K := v.K ++ [x] } := by
  have hp := h.pl h.b (by decide)
  have hb := (grown_heap o.grown h.lt hp).trans h.blk
  have hs := grown_set w' p 5 bv'
  have k1 := h.s1.kept o.grown (own_ne_map h.b h.s1)
  have k2 := h.s2.kept o.grown (own_ne_map h.b h.s2)
  have k3 := h.s3.kept o.grown (own_ne_map h.b h.s3)
  have kl := own_other h.l o.grown (fun g hg e => own_ne_type h.l h.b (by decide) g hg e)
  have kn := own_other h.n o.grown (fun g hg e => h.nb g hg e)
  refine ⟨heap_set hb 5 bv', h.bp, ?_, ?_, ?_, ?_, ?_, ?_, h.b1, h.b2, h.b3, h.n12, h.n13, h.n23, ?_⟩
  · exact own_other kl hs (fun g hg e => by cases e; exact h.pl h.l (by decide) hg)
  · exact own_other kn hs (fun g hg e => by cases e; exact h.pl h.n (by decide) hg)
  · have := own_other o.own hs (fun g hg e => by
      obtain ⟨cur, hc⟩ := own_blk o.own hg
      cases e; rw [hb] at hc; cases hc)
    rw [hx] at this
    rw [← hl, show txts (v.K ++ [x]) = txts v.K ++ [.string x] by simp [txts]]
    exact this
  · exact k1.kept hs (by simpa using (h.pm h.s1).symm)
  · exact k2.kept hs (by simpa using (h.pm h.s2).symm)
  · exact k3.kept hs (by simpa using (h.pm h.s3).symm)
  · intro g hg hbg
    rcases o.blk with e | ⟨g', e, hge⟩
    · exact h.nb g hg (e ▸ hbg)
    · have h1 := (own_lt h.n hg).2
      have h2 : g' = g := Option.some.inj (e.symm.trans hbg)
      omega
end
end Go.Proofs.Try
