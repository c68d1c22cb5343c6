/- Elements that come in. -/
import Derived.Test.YtiipefhdnfneeaaOpen
import Derived.Test.YtiipefhdnfneeaaS
import Derived.ChangeMaps5
namespace Go.Proofs.Try
open Go.RowKit Go.Gw Go.ChangeShapes Go.WideShapes Go.ChangeAt Go.Deep
set_option linter.unusedSimpArgs false
set_option linter.unusedVariables false
variable {H : Type} {enc : TypeId × Value → H} {P : Program} {w : World} {base : Nat} {held : Bool}
theorem row_of_cells {w : World} {b off : Nat} {es : List El} (h : ∀ i, i < es.length → ∀ j, j < 8 → w.cell? ⟨b, off + i * 8 + j, none⟩ = some ((es.getD i el0).raw.toList.getD j undef)) : Row w (some ⟨b, off, none⟩) (rawCells es) := by
  intro k hk
  rw [rawCells_length] at hk
  have h1 := h (k / 8) (by omega) (k % 8) (by omega)
  have e : off + k / 8 * 8 + k % 8 = off + k := by omega
  rw [e] at h1
  refine ⟨b, off, rfl, World.block_lt_of_cell? w _ h1, ?_⟩
  rw [h1]
  have := flat_at (fun e : El => e.raw.toList) 8 (fun _ => rfl) el0 es (k / 8) (by omega) (k % 8) (by omega)
  rw [show k / 8 * 8 + k % 8 = k by omega] at this
  exact congrArg some this.symm
/-- A slice of elements that came in. -/
theorem open_els {t e : TypeId} {f0 f1 f2 f3 f4 f5 f6 f7 : Field} {a : Option Addr} {len cap : Nat} {d : DataW H} {p : List MemPlace} (ht : P.underlying t = some (.slice e)) (he : P.underlying e = some (.struct #[f0, f1, f2, f3, f4, f5, f6, f7]))
    (hone : oneCellFields P #[f0, f1, f2, f3, f4, f5, f6, f7] = true) (hC : P.cellsOf e = 8) (h0 : P.underlying f0.type = some (.int .u8)) (h1 : P.underlying f1.type = some .string) (h2 : P.underlying f2.type = some .string) (h3 : P.underlying f3.type = some .string) (h4 : P.underlying f4.type = some .string) (h5 : P.underlying f5.type = some .string)
    (h6 : P.underlying f6.type = some (.int .u64)) (h7 : P.underlying f7.type = some (.int .i64)) (hB : P.bytesOf e = 104)
    (h : DataW.Trod enc P w base (fun _ => true) held t (.slice a len cap) d p) {ts : List TypeId} {ds : List (DataW H)} {j : Nat} (hj : ts[j]? = some t) (hd : ds[j]? = some d)
    (hz : (DataW.weightsEach P ts ds).all (· ≤ reachBytes) = true) (hlt : ∀ x ∈ p, x.block < w.heap.size) :
    ∃ es : List El, es.length = len ∧ Row w a (rawCells es) ∧ (∀ z ∈ es, z.val < 2 ^ 64) ∧ len * 104 ≤ 140737488351232 := by
  obtain ⟨fuel, hf⟩ := h
  rcases open_records ht he hone hC hf with ⟨hcs, hx⟩ | ⟨a', l', c', els, sp, hcs, hl, hm, hx, hx2, hi⟩
  · simp [Value.cells] at hcs
    obtain ⟨rfl, rfl, rfl⟩ := hcs
    exact ⟨[], rfl, fun j hj => by simp [rawCells] at hj, by simp, by omega⟩
  · simp [Value.cells] at hcs
    obtain ⟨rfl, rfl, rfl⟩ := hcs
    have hsz := sized_slice hz hj (by rw [hd]; exact congrArg some hx) ht
    simp only [hB, reachBytes] at hsz
    have key : ∀ i, i < len → ∃ z : El, (∀ j, j < 8 → w.cell? (a'.add (i * 8 + j)) = some (z.raw.toList.getD j undef)) ∧ z.val < 2 ^ 64 := by
      intro i hil
      obtain ⟨_, v0, y0, c0, t0⟩ := hi i (by omega) 0 f0 rfl
      obtain ⟨_, v1, y1, c1, t1⟩ := hi i (by omega) 1 f1 rfl
      obtain ⟨_, v2, y2, c2, t2⟩ := hi i (by omega) 2 f2 rfl
      obtain ⟨_, v3, y3, c3, t3⟩ := hi i (by omega) 3 f3 rfl
      obtain ⟨_, v4, y4, c4, t4⟩ := hi i (by omega) 4 f4 rfl
      obtain ⟨_, v5, y5, c5, t5⟩ := hi i (by omega) 5 f5 rfl
      obtain ⟨_, v6, y6, c6, t6⟩ := hi i (by omega) 6 f6 rfl
      obtain ⟨_, v7, y7, c7, t7⟩ := hi i (by omega) 7 f7 rfl
      obtain ⟨z0, e0, _, w0⟩ := DataW.trod_int h0 t0
      obtain ⟨z1, e1, _, _⟩ := DataW.trod_string h1 t1
      obtain ⟨z2, e2, _, _⟩ := DataW.trod_string h2 t2
      obtain ⟨z3, e3, _, _⟩ := DataW.trod_string h3 t3
      obtain ⟨z4, e4, _, _⟩ := DataW.trod_string h4 t4
      obtain ⟨z5, e5, _, _⟩ := DataW.trod_string h5 t5
      obtain ⟨z6, e6, _, w6⟩ := DataW.trod_int h6 t6
      obtain ⟨z7, e7, _, w7⟩ := DataW.trod_int h7 t7
      simp at e0 e1 e2 e3 e4 e5 e6 e7
      subst e0 e1 e2 e3 e4 e5 e6 e7
      obtain ⟨k6, rfl, b6⟩ := wf_u64 w6
      refine ⟨⟨z0, z1, z2, z3, z4, z5, k6, z7⟩, fun j hj => ?_, b6⟩
      have hc : j = 0 ∨ j = 1 ∨ j = 2 ∨ j = 3 ∨ j = 4 ∨ j = 5 ∨ j = 6 ∨ j = 7 := by omega
      rcases hc with rfl | rfl | rfl | rfl | rfl | rfl | rfl | rfl
      · exact c0
      · exact c1
      · exact c2
      · exact c3
      · exact c4
      · exact c5
      · exact c6
      · exact c7
    obtain ⟨es, hl2, hes⟩ := list_of el0 len key
    refine ⟨es, hl2, ?_, ?_, by omega⟩
    · intro i hil
      rw [rawCells_length, hl2] at hil
      have hp0 := (hes 0 (by omega)).1 0 (by omega)
      rw [Nat.zero_mul] at hp0
      obtain ⟨b, off, rfl⟩ := addr_plain hp0
      refine row_of_cells (b := b) (off := off) (fun i hi j hj => ?_) i (by rw [rawCells_length]; omega)
      have := (hes i (by omega)).1 j hj
      rw [Addr.add_lit] at this
      rw [Nat.add_assoc]; exact this
    · intro z hzm
      obtain ⟨i, hil, rfl⟩ := List.getElem_of_mem hzm
      have := (hes i (by omega)).2
      rwa [List.getD_eq_getElem?_getD, List.getElem?_eq_getElem hil] at this
end Go.Proofs.Try
