/- Opening arguments: slices of structs as lists. -/
import Derived.Test.YtiipefhdnfneeaaMem
import Derived.Deep.Slices
import Derived.Deep.Fields
import Derived.ChangeSame
import Derived.SizedLaws
import Derived.ProofKit
set_option linter.unusedSimpArgs false
set_option linter.unusedVariables false
namespace Go.Gw
open Go.RowKit Go.ChangeShapes Go.WideShapes Go.Deep
section
variable {H : Type} {enc : TypeId × Value → H} {P : Program} {w : World} {base : Nat} {spare : Nat → Bool} {held : Bool}
/-- What is told here of a slice that came in with its spare room: nil; or at each place, up to the capacity, the cell of each field and what it reads as. -/
theorem open_records {t e : TypeId} {fs : Array Field} {fuel : Nat} {cs : List Value} {x : DataW H × List MemPlace} (ht : P.underlying t = some (.slice e)) (he : P.underlying e = some (.struct fs))
    (hone : oneCellFields P fs = true) (hC : P.cellsOf e = fs.size) (h : DataW.trod enc P w base (fun _ => true) held fuel t cs = some x) :
    (cs = [.slice none 0 0] ∧ x = (.nil, [])) ∨
    ∃ (a : Addr) (len cap : Nat) (els sp : List (DataW H)), cs = [.slice (some a) len cap] ∧ len ≤ cap ∧ cap ≤ maxLen ∧ x.1 = .slice els sp ∧ els.length + sp.length = cap ∧
      ∀ i, i < cap → ∀ (j : Nat) (f : Field), fs[j]? = some f → ∃ (n : Nat) (v : Value) (y : DataW H × List MemPlace), w.cell? (a.add (i * fs.size + j)) = some v ∧ DataW.trod enc P w base (fun _ => true) held n f.type [v] = some y := by
  rcases open_slice ht h with h0 | ⟨a, len, cap, m, n, D, Pl, hcs, _, hl, hm, hmm, hx, hi⟩
  · exact .inl h0
  have hmc : m = cap := by simpa using hmm
  subst hmc
  refine .inr ⟨a, len, m, _, _, hcs, hl, hm, by rw [hx], by simp; omega, fun i him j f hj => ?_⟩
  obtain ⟨cs', hc, ht'⟩ := hi i him
  rw [hC] at hc
  obtain ⟨ys, n', _, _, _, hyl, hf⟩ := DataW.trod_struct he ht'
  obtain ⟨_, hcl, hat⟩ := World.cells?_some hc
  obtain ⟨ho, hk⟩ := hone_of hone j f hj
  have hjl : j < fs.size := (Array.getElem?_eq_some_iff.1 hj).1
  have h1 := hf j f hj
  rw [ho, hk, List.drop_eq_getElem_cons (by omega), List.take_succ_cons, List.take_zero] at h1
  refine ⟨n', cs'[j]'(by omega), ys[j]'(by omega), ?_, h1.trans (List.getElem?_eq_getElem (by omega))⟩
  rw [← Go.Deep.add_add, hat j hjl, List.getElem?_eq_getElem (by omega)]
end
/-- Out of a choice at each place a list. -/
theorem list_of {α : Type} (d : α) {Q : Nat → α → Prop} : ∀ n : Nat, (∀ i, i < n → ∃ z, Q i z) → ∃ zs : List α, zs.length = n ∧ ∀ i, i < n → Q i (zs.getD i d)
  | 0, _ => ⟨[], rfl, fun i hi => by omega⟩
  | n + 1, h => by
    obtain ⟨zs, hl, hz⟩ := list_of d n (fun i hi => h i (by omega))
    obtain ⟨z, hq⟩ := h n (by omega)
    refine ⟨zs ++ [z], by simp [hl], fun i hi => ?_⟩
    by_cases hin : i < n
    · have := hz i hin
      rwa [List.getD_eq_getElem?_getD, List.getElem?_append_left (by omega), ← List.getD_eq_getElem?_getD]
    · have : i = n := by omega
      subst this
      rw [List.getD_eq_getElem?_getD, List.getElem?_append_right (by omega)]
      simpa [hl] using hq
theorem addr_plain {w : World} {a : Addr} {v : Value} (h : w.cell? (a.add 0) = some v) : ∃ b off, a = ⟨b, off, none⟩ := by
  obtain ⟨b, off, spot⟩ := a
  have hspot : spot = none := by simpa [Addr.add] using World.cell?_spot h
  subst hspot
  exact ⟨b, off, rfl⟩
theorem wf_u64 {n : Int} (h : (Lit.int .u64 n).wf = true) : ∃ k : Nat, n = k ∧ k < 2 ^ 64 := by
  have h1 : IntKind.u64.min = 0 := rfl
  have h2 : IntKind.u64.max = 18446744073709551615 := rfl
  simp only [Lit.wf, Bool.and_eq_true, decide_eq_true_eq, h1, h2] at h
  exact ⟨n.toNat, by omega, by omega⟩
section
variable {H : Type} {enc : TypeId × Value → H} {P : Program} {w : World} {base : Nat} {held : Bool}
/-- A slice of pairs of words that came in. -/
theorem open_pairs {t e : TypeId} {f0 f1 : Field} {a : Option Addr} {len cap : Nat} {d : DataW H} {p : List MemPlace} (ht : P.underlying t = some (.slice e)) (he : P.underlying e = some (.struct #[f0, f1]))
    (hone : oneCellFields P #[f0, f1] = true) (hC : P.cellsOf e = 2) (h0 : P.underlying f0.type = some (.int .u64)) (h1 : P.underlying f1.type = some (.int .u64)) (hB : P.bytesOf e = 16)
    (h : DataW.Trod enc P w base (fun _ => true) held t (.slice a len cap) d p) {ts : List TypeId} {ds : List (DataW H)} {j : Nat} (hj : ts[j]? = some t) (hd : ds[j]? = some d)
    (hz : (DataW.weightsEach P ts ds).all (· ≤ reachBytes) = true) (hlt : ∀ x ∈ p, x.block < w.heap.size) :
    ∃ zs : List (Nat × Nat), zs.length = len ∧ Pairs w a zs ∧ (∀ z ∈ zs, z.1 < 2 ^ 64 ∧ z.2 < 2 ^ 64) ∧ len * 16 ≤ 140737488351232 := by
  obtain ⟨fuel, hf⟩ := h
  rcases open_records ht he hone hC hf with ⟨hcs, hx⟩ | ⟨a', l', c', els, sp, hcs, hl, hm, hx, hx2, hi⟩
  · simp [Value.cells] at hcs
    obtain ⟨rfl, rfl, rfl⟩ := hcs
    exact ⟨[], rfl, fun j hj => by simp at hj, by simp, by omega⟩
  · simp [Value.cells] at hcs
    obtain ⟨rfl, rfl, rfl⟩ := hcs
    have hsz := sized_slice hz hj (by rw [hd]; exact congrArg some hx) ht
    simp only [hB, reachBytes] at hsz
    have key : ∀ i, i < len → ∃ z : Nat × Nat, w.cell? (a'.add (i * 2)) = some (.int .u64 z.1) ∧ w.cell? (a'.add (i * 2 + 1)) = some (.int .u64 z.2) ∧ z.1 < 2 ^ 64 ∧ z.2 < 2 ^ 64 := by
      intro i hil
      obtain ⟨_, v0, y0, c0, t0⟩ := hi i (by omega) 0 f0 rfl
      obtain ⟨_, v1, y1, c1, t1⟩ := hi i (by omega) 1 f1 rfl
      obtain ⟨z0, e0, _, w0⟩ := DataW.trod_int h0 t0
      obtain ⟨z1, e1, _, w1⟩ := DataW.trod_int h1 t1
      simp at e0 e1
      subst e0; subst e1
      obtain ⟨k0, rfl, b0⟩ := wf_u64 w0
      obtain ⟨k1, rfl, b1⟩ := wf_u64 w1
      exact ⟨(k0, k1), by simpa using c0, by simpa using c1, b0, b1⟩
    obtain ⟨zs, hl2, hzs⟩ := list_of (0, 0) len key
    refine ⟨zs, hl2, ?_, ?_, by omega⟩
    · intro i hil
      rw [hl2] at hil
      have hp0 := (hzs 0 (by omega)).1
      rw [Nat.zero_mul] at hp0
      obtain ⟨b, off, rfl⟩ := addr_plain hp0
      obtain ⟨q0, q1, _, _⟩ := hzs i hil
      rw [Addr.add_lit] at q0 q1
      refine ⟨b, off, rfl, ?_, q0, by rw [Nat.add_assoc]; exact q1⟩
      exact World.block_lt_of_cell? w _ q0
    · intro z hzm
      obtain ⟨i, hil, rfl⟩ := List.getElem_of_mem hzm
      have := hzs i (by omega)
      rw [List.getD_eq_getElem?_getD, List.getElem?_eq_getElem hil] at this
      exact ⟨this.2.2.1, this.2.2.2⟩
end
end Go.Gw
