/- Elements: the kit's Element, ElementsOf. -/
import Derived.Test.YtiipefhdnfneeaaR
import Derived.Test.YtiipefhdnfneeaaApp
namespace Go.Proofs.Try
open Go.RowKit Go.Gw
set_option maxRecDepth 100000
set_option linter.unusedSimpArgs false
set_option linter.unusedVariables false

/-- An element as the statement's El. -/
def El.raw (e : El) : Array Value := #[.int .u8 e.kind, .string e.name, .string e.a, .string e.b, .string e.c, .string e.d, .int .u64 e.val, .int .i64 e.ph]
theorem element_any (x : El) (w : World) : Calls Try.prog 91 #[.agg x.raw] w (fun e w' => e = .returned x.value ∧ Below w.heap.size w w') := by
  refine calls_post fun R hR => ?_
  obtain ⟨kind, name, a, b, c, d, val, ph⟩ := x
  simp only [El.raw, El.value, El.row] at hR ⊢
  go_enter Try.func91, Try.ntmps91
  go_wp2
  go_region_held3 (fun w' => w'.cell? ⟨w.heap.size, 0, none⟩ = some (.int .u8 kind) ∧ w'.cell? ⟨w.heap.size, 1, none⟩ = some (.string name) ∧ w'.cell? ⟨w.heap.size, 2, none⟩ = some (.string a) ∧ w'.cell? ⟨w.heap.size, 3, none⟩ = some (.string b) ∧ w'.cell? ⟨w.heap.size, 4, none⟩ = some (.string c) ∧ w'.cell? ⟨w.heap.size, 5, none⟩ = some (.string d) ∧ w'.cell? ⟨w.heap.size, 6, none⟩ = some (.int .u64 val) ∧ w'.cell? ⟨w.heap.size, 7, none⟩ = some (.int .i64 ph))
    (first | go_keep)
    (first | fail)
  go_wp2
  refine bodyPost_ret (v := .agg #[.int .u8 kind, .string name, .string a, .string b, .string c, .string d, .float .f64 val, .int .i64 ph]) ?_ rfl (hR _ _ ⟨rfl, ?_⟩)
  · simp [results, Try.results91, go_sem, World.cell?_setCell_same']
  · repeat' refine Below.setCell ?_ (by simp) _
    exact (((Below.refl _ _).alloc (Nat.le_refl _) _).alloc (by simp) _).drew

/-! ### Lists of records, cell by cell -/
theorem flat_length {α : Type} (f : α → List Value) (s : Nat) (hs : ∀ x, (f x).length = s) : ∀ zs : List α, ((zs.map f).flatten).length = zs.length * s
  | [] => by simp
  | z :: zs => by simp only [List.map_cons, List.flatten_cons, List.length_append, List.length_cons, hs, flat_length f s hs zs]; rw [Nat.add_mul]; omega
theorem flat_at {α : Type} (f : α → List Value) (s : Nat) (hs : ∀ x, (f x).length = s) (d : α) : ∀ (zs : List α) (k : Nat), k < zs.length → ∀ j, j < s → ((zs.map f).flatten).getD (k * s + j) undef = (f (zs.getD k d)).getD j undef
  | [], k, h, j, _ => by simp at h
  | z :: zs, 0, _, j, hj => by
    rw [Nat.zero_mul, Nat.zero_add, List.map_cons, List.flatten_cons, List.getD_eq_getElem?_getD, List.getElem?_append_left (by rw [hs]; exact hj), ← List.getD_eq_getElem?_getD]; rfl
  | z :: zs, k + 1, h, j, hj => by
    have ih := flat_at f s hs d zs k (by simpa using h) j hj
    rw [List.map_cons, List.flatten_cons, List.getD_eq_getElem?_getD, List.getElem?_append_right (by rw [hs, Nat.add_mul]; omega), hs,
      show (k + 1) * s + j - s = k * s + j by rw [Nat.add_mul]; omega, ← List.getD_eq_getElem?_getD, ih]
    rfl
theorem flat_take {α : Type} (f : α → List Value) {zs : List α} {k : Nat} (h : k < zs.length) (d : α) : ((zs.take k).map f).flatten ++ f (zs.getD k d) = ((zs.take (k + 1)).map f).flatten := by
  rw [List.take_succ_eq_append_getElem h, List.map_append, List.flatten_append, List.getD_eq_getElem?_getD, List.getElem?_eq_getElem h]
  simp
def el0 : El := ⟨0, ⟨#[]⟩, ⟨#[]⟩, ⟨#[]⟩, ⟨#[]⟩, ⟨#[]⟩, 0, 0⟩
def elCells (zs : List El) : List Value := (zs.map fun e => e.row.toList).flatten
def rawCells (zs : List El) : List Value := (zs.map fun e => e.raw.toList).flatten
theorem elCells_length (zs : List El) : (elCells zs).length = zs.length * 8 := flat_length _ 8 (fun _ => rfl) zs
theorem rawCells_length (zs : List El) : (rawCells zs).length = zs.length * 8 := flat_length _ 8 (fun _ => rfl) zs
theorem elCells_append (xs ys : List El) : elCells (xs ++ ys) = elCells xs ++ elCells ys := by simp [elCells]
theorem oneCell_els (zs : List El) : ∀ u ∈ elCells zs, u.oneCell' = true := by
  intro u hu
  simp only [elCells, List.mem_flatten, List.mem_map] at hu
  obtain ⟨l, ⟨e, _, rfl⟩, hu⟩ := hu
  simp only [El.row] at hu
  simp at hu
  rcases hu with rfl | rfl | rfl | rfl | rfl | rfl | rfl | rfl <;> rfl
theorem oneCell_el (z : El) : ∀ u ∈ z.row.toList, u.oneCell' = true := by
  intro u hu
  have := oneCell_els [z] u (by simpa [elCells] using hu)
  exact this
theorem row_el {w : World} {b off : Nat} {zs : List El} (h : Row w (some ⟨b, off, none⟩) (elCells zs)) {k : Nat} (hk : k < zs.length) :
    w.cell? ⟨b, off + k * 8, none⟩ = some (.int .u8 (zs.getD k el0).kind) ∧ w.cell? ⟨b, off + k * 8 + 1, none⟩ = some (.string (zs.getD k el0).name) ∧ w.cell? ⟨b, off + k * 8 + 2, none⟩ = some (.string (zs.getD k el0).a)
    ∧ w.cell? ⟨b, off + k * 8 + 3, none⟩ = some (.string (zs.getD k el0).b) ∧ w.cell? ⟨b, off + k * 8 + 4, none⟩ = some (.string (zs.getD k el0).c) ∧ w.cell? ⟨b, off + k * 8 + 5, none⟩ = some (.string (zs.getD k el0).d)
    ∧ w.cell? ⟨b, off + k * 8 + 6, none⟩ = some (.float .f64 (zs.getD k el0).val) ∧ w.cell? ⟨b, off + k * 8 + 7, none⟩ = some (.int .i64 (zs.getD k el0).ph) := by
  have key : ∀ j, j < 8 → w.cell? ⟨b, off + (k * 8 + j), none⟩ = some ((zs.getD k el0).row.toList.getD j undef) := fun j hj => by
    rw [h.at (j := k * 8 + j) (by rw [elCells_length]; omega)]
    exact congrArg some (flat_at (fun e : El => e.row.toList) 8 (fun _ => rfl) el0 zs k hk j hj)
  exact ⟨key 0 (by omega), key 1 (by omega), key 2 (by omega), key 3 (by omega), key 4 (by omega), key 5 (by omega), key 6 (by omega), key 7 (by omega)⟩
theorem row_raw {w : World} {b off : Nat} {zs : List El} (h : Row w (some ⟨b, off, none⟩) (rawCells zs)) {k : Nat} (hk : k < zs.length) :
    w.cell? ⟨b, off + k * 8, none⟩ = some (.int .u8 (zs.getD k el0).kind) ∧ w.cell? ⟨b, off + k * 8 + 1, none⟩ = some (.string (zs.getD k el0).name) ∧ w.cell? ⟨b, off + k * 8 + 2, none⟩ = some (.string (zs.getD k el0).a)
    ∧ w.cell? ⟨b, off + k * 8 + 3, none⟩ = some (.string (zs.getD k el0).b) ∧ w.cell? ⟨b, off + k * 8 + 4, none⟩ = some (.string (zs.getD k el0).c) ∧ w.cell? ⟨b, off + k * 8 + 5, none⟩ = some (.string (zs.getD k el0).d)
    ∧ w.cell? ⟨b, off + k * 8 + 6, none⟩ = some (.int .u64 (zs.getD k el0).val) ∧ w.cell? ⟨b, off + k * 8 + 7, none⟩ = some (.int .i64 (zs.getD k el0).ph) := by
  have key : ∀ j, j < 8 → w.cell? ⟨b, off + (k * 8 + j), none⟩ = some ((zs.getD k el0).raw.toList.getD j undef) := fun j hj => by
    rw [h.at (j := k * 8 + j) (by rw [rawCells_length]; omega)]
    exact congrArg some (flat_at (fun e : El => e.raw.toList) 8 (fun _ => rfl) el0 zs k hk j hj)
  exact ⟨key 0 (by omega), key 1 (by omega), key 2 (by omega), key 3 (by omega), key 4 (by omega), key 5 (by omega), key 6 (by omega), key 7 (by omega)⟩
theorem row_news (w : World) (vs : Array Value) (e : TypeId) : Row (w.alloc (.cells vs e)) (some ⟨w.heap.size, 0, none⟩) vs.toList := by
  intro j hj
  refine ⟨w.heap.size, 0, rfl, by simp, ?_⟩
  rw [World.cell?, alloc_self]
  simp only [Option.isSome_none, Bool.false_eq_true, if_false, Nat.zero_add]
  rw [Array.getElem?_toList.symm, List.getD_eq_getElem?_getD]
  simp at hj
  simp [hj]
theorem elem_el : Elem Try.prog 47 81 (.agg #[.int .u8 0, .string ⟨#[]⟩, .string ⟨#[]⟩, .string ⟨#[]⟩, .string ⟨#[]⟩, .string ⟨#[]⟩, .float .f64 0, .int .i64 0]) 8 104 := ⟨by kernel_rfl, by kernel_rfl, by kernel_rfl, by decide, by decide⟩
theorem elements_any (a : Option Addr) (n c : Nat) (zs : List El) (w : World) (h : Row w a (rawCells zs)) (l : zs.length = n) (hn : n * 104 ≤ 140737488355328) :
    Calls Try.prog 33 #[.slice a n c] w (fun e w' => ∃ v, e = .returned v ∧ w'.ownsRow w.heap.size 81 8 v n (elCells zs) ∧ Below w.heap.size w w') := by
  refine calls_post fun R hR => ?_
  go_enter Try.func33, Try.ntmps33
  go_wp2
  go_loopw [3, 4] (fun v i wr => ∃ k : Nat, k ≤ n ∧ i = .int .i64 k ∧ wr.ownsRow w.heap.size 81 8 v k (elCells (zs.take k)) ∧ Below w.heap.size w wr) (fun _ i _ => n - (intOf i).toNat)
  case atStart => exact ⟨0, Nat.zero_le _, rfl, World.ownsRow_nil _ _ _ _, Below.refl _ _⟩
  case round =>
    obtain ⟨k, hk, rfl, hown, hb⟩ := hrel
    have L := Lib.hid l; clear l
    by_cases hlt : k < n
    · have hlz : k < zs.length := by have := L.out; omega
      obtain ⟨b, off, rfl⟩ := row_some h (j := k * 8) (by rw [rawCells_length]; omega)
      obtain ⟨e0, e1, e2, e3, e4, e5, e6, e7⟩ := row_raw (h.below hb) hlz
      have ht := Lib.hid (flat_take (fun e : El => e.row.toList) hlz el0)
      generalize zs.getD k el0 = z at e0 e1 e2 e3 e4 e5 e6 e7 ht
      go_wp2_with (first | (go_at_call 91; refine (element_any z _).mono ?_; rintro e w1 ⟨rfl, hb1⟩; unfold El.value El.row) | (at_builtin; refine wpList_app rfl (.tmp 11) (.tmp 17) rfl elem_el ((ownsRow_below hown hb1).alloc _) rfl rfl (row_news _ _ _) rfl (oneCell_el z) (by omega) (by have := hb.size; have := hb1.size; simp; omega) ?_; intro v' w2 hown2 hg2))
      have hB := hb.size
      have hB1 := hb1.size
      go_roundw
      case rel =>
        refine ⟨k + 1, by omega, by go_num, ?_, ?_⟩
        · rw [elCells, ← ht.out]; exact hown2
        · exact below_app ((below_call hb hb1 hB).alloc (by omega) _) ((ownsRow_below hown hb1).alloc _) hg2 (by simp; omega)
      case measure => simp [intOf]; omega
    · have hk' : k = n := by omega
      subst hk'
      go_wp2
      have := L.out
      rw [List.take_of_length_le (by omega)] at hown
      exact ⟨_, rfl, hown, hb⟩
end Go.Proofs.Try
