/- Nets and right sides, in plain Lean. -/
import Derived.Test.YtiipefhdnfneeaaSQ
namespace Go.Proofs.Try
open Go.RowKit Go.Gw
set_option linter.unusedSimpArgs false
set_option linter.unusedVariables false

theorem faultFrom_none {es : List El} : ∀ {done : List El}, faultFrom done es = none → ∀ k, k < es.length → (es.getD k el0).check = 0 ∧ (done.any fun x => seq x.name (es.getD k el0).name) = false ∧ ((es.take k).any fun x => seq x.name (es.getD k el0).name) = false := by
  induction es with
  | nil => intro done h k hk; simp at hk
  | cons e es ih =>
    intro done h k hk
    rw [faultFrom_step] at h
    split at h
    · cases h
    · rename_i hc
      split at h
      · cases h
      · rename_i hn
        cases k with
        | zero => exact ⟨by simpa using hc, by simpa using hn, rfl⟩
        | succ k =>
          have := ih h k (by simpa using hk)
          rw [List.any_append] at this
          obtain ⟨h1, h2, h3⟩ := this
          simp only [Bool.or_eq_false_iff, List.any_cons, List.any_nil, Bool.or_false] at h2
          refine ⟨h1, h2.1, ?_⟩
          simp only [List.take_succ_cons, List.any_cons, Bool.or_eq_false_iff]
          exact ⟨h2.2, h3⟩
/-- A net's elements are checked, and their names are their own. -/
structure NetOk (es : List El) : Prop where
  len : es.length ≤ 256
  check : ∀ k, k < es.length → (es.getD k el0).check = 0
  fresh : ∀ k, k < es.length → ((es.take k).any fun x => seq x.name (es.getD k el0).name) = false
  nodes : (nodesOf es).length ≤ 32
  order : (nodesOf es).length + (branchesOf es).length ≤ 64
theorem netOk {es : List El} (h : netFault es = (0, 0)) : NetOk es := by
  unfold netFault at h
  split at h
  · cases h
  · rename_i hl
    cases hf : faultFrom [] es with
    | some f =>
      rw [hf] at h
      have := faultFrom_ne1 _ _ _ hf
      simp only at h
      rw [h] at this
      simp at this
    | none =>
      rw [hf] at h
      have := faultFrom_none hf
      simp only at h
      split at h
      · cases h
      · rename_i ho
        exact ⟨by omega, fun k hk => (this k hk).1, fun k hk => (this k hk).2.2, by omega, by omega⟩
theorem NetOk.mem {es : List El} (h : NetOk es) {e : El} (he : e ∈ es) : e.check = 0 := by
  obtain ⟨k, hk, rfl⟩ := List.getElem_of_mem he
  have := h.check k hk
  rwa [List.getD_eq_getElem?_getD, List.getElem?_eq_getElem hk] at this
theorem check_ne {e : El} (h : e.check = 0) : seq e.a e.b = false ∧ kindOk e.kind = true ∧ e.named = true ∧ e.fits = true ∧ realKind e.val ≤ 2 := by
  unfold El.check at h
  split at h
  · simp at h
  · rename_i h1
    split at h
    · simp at h
    · rename_i h2
      split at h
      · simp at h
      · rename_i h3
        split at h
        · simp at h
        · rename_i h4
          simp only [Bool.not_eq_false] at h1 h2 h3
          refine ⟨?_, h1, h2, h3, by omega⟩
          simp only [El.fits, Bool.and_eq_true, Bool.not_eq_true'] at h3
          exact h3.1.1
theorem placeIn_get {l : List ByteArray} {s : ByteArray} {i : Nat} (h : placeIn l s = some i) : l.getD i ⟨#[]⟩ = s := by
  have hi := placeIn_lt h
  unfold placeIn at h
  rw [List.findIdx?_eq_some_iff_getElem] at h
  obtain ⟨h1, h2, _⟩ := h
  rw [List.getD_eq_getElem?_getD, List.getElem?_eq_getElem hi]
  exact seq_iff.1 h2
theorem placeIn_inj {l : List ByteArray} {s t : ByteArray} {i : Nat} (h : placeIn l s = some i) (k : placeIn l t = some i) : s = t := by
  rw [← placeIn_get h, placeIn_get k]
theorem placeIn_append {l m : List ByteArray} {s : ByteArray} (h : (l.any fun x => seq x s) = false) : placeIn (l ++ s :: m) s = some l.length := by
  refine placeIn_hit (by simp [h]) (by simp) ?_
  simp [List.getD_eq_getElem?_getD, seq_iff.2]
theorem branchesOf_append (a b : List El) : branchesOf (a ++ b) = branchesOf a ++ branchesOf b := by simp [branchesOf]
theorem branchesOf_cons {e : El} {es : List El} (h : isBranch e = true) : branchesOf (e :: es) = e.name :: branchesOf es := by simp [branchesOf, h]
/-- A branch's place is how many branches are ahead of it. -/
theorem branch_place {es : List El} (h : NetOk es) {k : Nat} (hk : k < es.length) (hb : isBranch (es.getD k el0) = true) : placeIn (branchesOf es) (es.getD k el0).name = some (branchesOf (es.take k)).length := by
  have e : es = es.take k ++ es.getD k el0 :: es.drop (k + 1) := by rw [← drop_step hk, List.take_append_drop]
  have hf := branch_any (h.fresh k hk)
  have e2 : branchesOf es = branchesOf (es.take k) ++ (es.getD k el0).name :: branchesOf (es.drop (k + 1)) := by
    conv => lhs; rw [e]
    rw [branchesOf_append]
    rw [branchesOf_cons hb]
  rw [e2]
  exact placeIn_append hf
theorem branch_lt {es : List El} (h : NetOk es) {k : Nat} (hk : k < es.length) (hb : isBranch (es.getD k el0) = true) : (branchesOf (es.take k)).length < (branchesOf es).length := placeIn_lt (branch_place h hk hb)

/-! ### The right side -/
def rightStep (N K : List ByteArray) (l : List (Nat × Nat)) (e : El) : List (Nat × Nat) :=
  if e.kind = 5 then l.set (N.length + (placeIn K e.name).getD 0) (phasorOf e)
  else if e.kind = 4 then stepAt (stepAt l (placeIn N e.a) (fun z => csubN z (phasorOf e))) (placeIn N e.b) (fun z => caddN z (phasorOf e))
  else l
def rightFrom (N K : List ByteArray) (l : List (Nat × Nat)) (k : Nat) : List El → List (Nat × Nat) × Int × Int
  | [] => (l, 0, 0)
  | e :: es => if (rightStep N K l e).all cfin then rightFrom N K (rightStep N K l e) (k + 1) es else ([], 6, k)
def rightOf (es : List El) : List (Nat × Nat) × Int × Int := rightFrom (nodesOf es) (branchesOf es) (List.replicate ((nodesOf es).length + (branchesOf es).length) (0, 0)) 0 es
theorem all_set {l : List (Nat × Nat)} {i : Nat} {v : Nat × Nat} (h : l.all cfin = true) (hi : i < l.length) : (l.set i v).all cfin = cfin v := by
  cases hv : cfin v
  · rw [List.all_eq_false]
    exact ⟨v, List.mem_set hi v, by simp [hv]⟩
  · rw [List.all_eq_true]
    intro x hx
    rcases List.mem_or_eq_of_mem_set hx with h' | h'
    · exact List.all_eq_true.1 h x h'
    · rw [h', hv]
theorem stepAt_length (l : List (Nat × Nat)) (o : Option Nat) (f : Nat × Nat → Nat × Nat) : (stepAt l o f).length = l.length := by
  unfold stepAt; split <;> simp
theorem all_step {l : List (Nat × Nat)} {o : Option Nat} {f : Nat × Nat → Nat × Nat} (h : l.all cfin = true) (ho : ∀ i, o = some i → i < l.length) : (stepAt l o f).all cfin = finAt (stepAt l o f) o := by
  cases o with
  | none => simp only [stepAt, finAt, h]
  | some i =>
    have hi := ho i rfl
    simp only [stepAt, finAt]
    rw [all_set h hi]
    simp [List.getD_eq_getElem?_getD, hi]
theorem all_step2 {l : List (Nat × Nat)} {o q : Option Nat} {f g : Nat × Nat → Nat × Nat} (h : l.all cfin = true) (ho : ∀ i, o = some i → i < l.length) (hq : ∀ i, q = some i → i < l.length) (hne : ∀ i, o = some i → q ≠ some i) :
    (stepAt (stepAt l o f) q g).all cfin = (finAt (stepAt (stepAt l o f) q g) q && finAt (stepAt l o f) o) := by
  have h1 := all_step (f := f) h ho
  cases hf : finAt (stepAt l o f) o
  · rw [Bool.and_false]
    cases o with
    | none => simp [finAt] at hf
    | some i =>
      have hi := ho i rfl
      rw [List.all_eq_false]
      cases q with
      | none =>
        simp only [stepAt, finAt] at hf ⊢
        simp only [List.getD_eq_getElem?_getD, List.getElem?_set, hi, if_true, Option.getD_some] at hf
        exact ⟨_, List.mem_set hi _, by simpa [List.getD_eq_getElem?_getD] using hf⟩
      | some j =>
        have hij : j ≠ i := fun e => hne i rfl (by rw [e])
        simp only [stepAt, finAt] at hf ⊢
        simp only [List.getD_eq_getElem?_getD, List.getElem?_set, hi, if_true, Option.getD_some] at hf
        rw [List.set_comm _ _ hij.symm]
        exact ⟨_, List.mem_set (by simpa using hi) _, by simpa [List.getD_eq_getElem?_getD] using hf⟩
  · rw [Bool.and_true]
    rw [hf] at h1
    exact all_step h1 (fun i hi => by rw [stepAt_length]; exact hq i hi)
theorem rightStep_length (N K : List ByteArray) (l : List (Nat × Nat)) (e : El) : (rightStep N K l e).length = l.length := by
  unfold rightStep
  split
  · simp
  · split
    · rw [stepAt_length, stepAt_length]
    · rfl
theorem rightStep_4 {N K : List ByteArray} {l : List (Nat × Nat)} {e : El} (h : e.kind = 4) : rightStep N K l e = stepAt (stepAt l (placeIn N e.a) (fun z => csubN z (phasorOf e))) (placeIn N e.b) (fun z => caddN z (phasorOf e)) := by
  unfold rightStep; rw [if_neg (by omega), if_pos h]
theorem rightStep_5 {N K : List ByteArray} {l : List (Nat × Nat)} {e : El} (h : e.kind = 5) : rightStep N K l e = l.set (N.length + (placeIn K e.name).getD 0) (phasorOf e) := by
  unfold rightStep; rw [if_pos h]
theorem rightStep_no {N K : List ByteArray} {l : List (Nat × Nat)} {e : El} (h : isSrc e = false) : rightStep N K l e = l := by
  simp only [isSrc, Bool.or_eq_false_iff, beq_eq_false_iff_ne] at h
  unfold rightStep; rw [if_neg h.2, if_neg h.1]
theorem fin_4 {N K : List ByteArray} {l : List (Nat × Nat)} {e : El} (h : e.kind = 4) (hc : e.check = 0) (hl : l.all cfin = true) (hN : N.length ≤ l.length) :
    (rightStep N K l e).all cfin = (finAt (stepAt (stepAt l (placeIn N e.a) (fun z => csubN z (phasorOf e))) (placeIn N e.b) (fun z => caddN z (phasorOf e))) (placeIn N e.b) && finAt (stepAt l (placeIn N e.a) (fun z => csubN z (phasorOf e))) (placeIn N e.a)) := by
  rw [rightStep_4 h]
  refine all_step2 hl (fun i hi => by have := placeIn_lt hi; omega) (fun i hi => by have := placeIn_lt hi; omega) (fun i hi hj => ?_)
  have := placeIn_inj hi hj
  exact seq_no.1 (check_ne hc).1 this
theorem fin_5 {N K : List ByteArray} {l : List (Nat × Nat)} {e : El} (h : e.kind = 5) (hl : l.all cfin = true) (hN : N.length + (placeIn K e.name).getD 0 < l.length) : (rightStep N K l e).all cfin = cfin (phasorOf e) := by
  rw [rightStep_5 h, all_set hl hN]
end Go.Proofs.Try
