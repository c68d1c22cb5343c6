/- Nets: what they tell, in plain Lean; maps of texts. -/
import Derived.Test.YtiipefhdnfneeaaS
import Derived.Maps.OwnSet
import Derived.Maps.Keyed
import Derived.StringKeys
namespace Go.Proofs.Try
open Go.RowKit Go.Gw Go.WideMaps
set_option maxRecDepth 100000
set_option linter.unusedSimpArgs false
set_option linter.unusedVariables false

/-! ### What is told of a net -/
def zeroTxt : ByteArray := ⟨#[48]⟩
def addNode (ns : List ByteArray) (s : ByteArray) : List ByteArray := if seq s ⟨#[]⟩ || seq s zeroTxt || ns.any (fun x => seq x s) then ns else ns ++ [s]
def addEl (ns : List ByteArray) (e : El) : List ByteArray := addNode (addNode (addNode (addNode ns e.a) e.b) e.c) e.d
def nodesOf (es : List El) : List ByteArray := es.foldl addEl []
def isBranch (e : El) : Bool := e.kind == 5 || e.kind == 7
def branchesOf (es : List El) : List ByteArray := (es.filter isBranch).map (·.name)
def namesOf (es : List El) : List ByteArray := es.map (·.name)
/-- The place of a text in a list. -/
def placeIn (l : List ByteArray) (s : ByteArray) : Option Nat := l.findIdx? (fun x => seq x s)
/-- The first fault of the elements es behind those done. -/
def faultFrom (done : List El) : List El → Option (Int × Int)
  | [] => none
  | e :: es => if e.check ≠ 0 then some (e.check, done.length) else if done.any (fun x => seq x.name e.name) then some (9, done.length) else faultFrom (done ++ [e]) es
def netFault (es : List El) : Int × Int :=
  if 256 < es.length then (3, -1) else match faultFrom [] es with
  | some f => f
  | none => if 32 < (nodesOf es).length ∨ 64 < (nodesOf es).length + (branchesOf es).length then (3, -1) else (0, 0)
theorem nodesOf_snoc (es : List El) (e : El) : nodesOf (es ++ [e]) = addEl (nodesOf es) e := by simp [nodesOf]
theorem branchesOf_snoc (es : List El) (e : El) : branchesOf (es ++ [e]) = if isBranch e then branchesOf es ++ [e.name] else branchesOf es := by
  unfold branchesOf; rw [List.filter_append, List.map_append]
  cases h : isBranch e <;> simp [h]
theorem addNode_length (ns : List ByteArray) (s : ByteArray) : (addNode ns s).length ≤ ns.length + 1 := by
  unfold addNode; split <;> simp
theorem addEl_length (ns : List ByteArray) (e : El) : (addEl ns e).length ≤ ns.length + 4 := by
  unfold addEl
  have h1 := addNode_length ns e.a
  have h2 := addNode_length (addNode ns e.a) e.b
  have h3 := addNode_length (addNode (addNode ns e.a) e.b) e.c
  have h4 := addNode_length (addNode (addNode (addNode ns e.a) e.b) e.c) e.d
  omega

/-! ### Maps of texts -/
abbrev kl (s : ByteArray) : Lit := .string s.data.toList
/-- Block b is a map of at most n texts; f tells what they come to. -/
def SMap (w : World) (b n : Nat) (f : ByteArray → Option Nat) : Prop :=
  ∃ D : DataW Unit, w.ownsMap Try.prog 9 (plainElem Try.prog 3) b n D ∧ Maps.IsMap D ∧ ∀ s : ByteArray, s.size ≤ maxLen → Maps.has D (kl s) = (f s).isSome ∧ D.atKey (kl s) (.lit (.int .i64 0)) = .lit (.int .i64 ((f s).getD 0 : Nat))
theorem under_string : Try.prog.underlying 9 = some .string := by kernel_rfl
theorem under_int : Try.prog.underlying 3 = some (.int .i64) := by kernel_rfl
theorem under_map : Try.prog.underlying 115 = some (.map 9 3) := by kernel_rfl
theorem keyed_string : Maps.Keyed Try.prog 9 := Maps.string_keyed under_string
theorem zero_int (w : World) : (zeroValue 3).run Try.prog w = .ok (.int .i64 0) w := by kernel_rfl
theorem smap_made (w : World) : SMap (w.alloc (.map #[] 0)) w.heap.size 0 (fun _ => none) := by
  refine ⟨.map [], World.ownsMap_made w _ _ _, ⟨[], rfl⟩, fun s _ => ⟨rfl, rfl⟩⟩
theorem smap_run {w : World} {b n : Nat} {f : ByteArray → Option Nat} (h : SMap w b n f) {s : ByteArray} (hs : s.size ≤ maxLen) :
    (Instr.lookup 115 (.map (some b)) (.string s) true).run Try.prog w = .ok (.tuple #[.int .i64 ((f s).getD 0 : Nat), .bool (f s).isSome]) w := by
  obtain ⟨D, hown, _, hD⟩ := h
  obtain ⟨v, ps, hrun, hv⟩ := hown.look_ok keyed_string under_map (zero_int w) (plainElem_int under_int (by decide)) (keyOf_string_mk under_string hs)
  obtain ⟨h1, h2⟩ := hD s hs
  obtain ⟨c, rfl, hc, _⟩ := plainElem_int_inv under_int hv
  have hc1 := congrArg Prod.fst hc
  simp only at hc1
  rw [h2] at hc1
  cases hc1
  rw [hrun, h1]
theorem kl_inj {s x : ByteArray} (h : kl s = kl x) : s = x := by
  obtain ⟨⟨a⟩⟩ := s; obtain ⟨⟨b⟩⟩ := x
  simp [kl] at h
  rw [h]
theorem smap_put {w : World} {b n : Nat} {f : ByteArray → Option Nat} (h : SMap w b n f) (hn : n < maxLen) {s : ByteArray} (hs : s.size ≤ maxLen) {v : Nat} (hv : v < 9223372036854775808) :
    ∃ w', (Instr.mapUpdate 115 (.map (some b)) (.string s) (.int .i64 v)).run Try.prog w = .ok () w' ∧ SMap w' b (n + 1) (fun x => if seq s x then some v else f x) ∧ w.grownBy w' (some b) := by
  obtain ⟨D, hown, hm, hD⟩ := h
  have hwf : (Lit.int .i64 (v : Int)).wf = true := by
    have h1 : IntKind.i64.min = -9223372036854775808 := rfl
    have h2 : IntKind.i64.max = 9223372036854775807 := rfl
    simp only [Lit.wf, Bool.and_eq_true, decide_eq_true_eq, h1, h2]
    omega
  obtain ⟨w', hrun, ho, hg⟩ := hown.update keyed_string under_map hn (keyOf_string_mk under_string hs) (plainElem_int (H := Unit) under_int hwf)
  refine ⟨w', hrun, ⟨_, ho, hm.put _ _, fun x hx => ?_⟩, hg⟩
  cases hq : seq s x
  · have hne : kl x ≠ kl s := fun e => seq_no.1 hq (kl_inj e).symm
    rw [Maps.has_put_other hne, Maps.atKey_put_other hne]
    simp only [hq, Bool.false_eq_true, if_false]
    exact hD x hx
  · have := seq_iff.1 hq
    subst this
    rw [Maps.has_put_same hm (by trivial), Maps.atKey_put_same hm (by trivial)]
    simp only [hq, if_true]
    exact ⟨rfl, rfl⟩
theorem SMap.kept {w w' : World} {b n : Nat} {f : ByteArray → Option Nat} {row : Option Nat} (h : SMap w b n f) (hg : w.grownBy w' row) (hne : some b ≠ row) : SMap w' b n f := by
  obtain ⟨D, hown, h2⟩ := h
  exact ⟨D, hown.kept hg hne, h2⟩
theorem SMap.lt {w : World} {b n : Nat} {f : ByteArray → Option Nat} (h : SMap w b n f) : b < w.heap.size := by
  obtain ⟨D, hown, h2⟩ := h
  exact hown.lt
theorem SMap.below {w w' : World} {b n B : Nat} {f : ByteArray → Option Nat} (h : SMap w b n f) (hb : Below B w w') (hlt : b < B) : SMap w' b n f := by
  obtain ⟨D, ⟨es, clock, h1, h2⟩, h3⟩ := h
  exact ⟨D, ⟨es, clock, by rw [hb.block b hlt]; exact h1, h2⟩, h3⟩
theorem SMap.setCell {w : World} {b n : Nat} {f : ByteArray → Option Nat} (h : SMap w b n f) {a : Addr} (ha : b ≠ a.block) (u : Value) : SMap (w.setCell a u) b n f := by
  obtain ⟨D, hown, h2⟩ := h
  exact ⟨D, hown.setCell ha u, h2⟩
end Go.Proofs.Try
