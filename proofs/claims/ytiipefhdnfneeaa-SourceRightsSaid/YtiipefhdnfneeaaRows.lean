/-
  No cell of these rows narrows 'for every input' (looked for: loops, veiled, ifaces, maps, wideKeys, modest, calm, conditions, laid).
  DERIVED. THE GIVEN ROWS OF THIS SEAT. 7 by the template 'for every input the law returns true; each argument reads behind the call as it read before'; 0 by the template 'total and deterministic' (their statements: YtiipefhdnfneeaaTotals.lean).
  GIVEN WITH THE SEED: the statements are not yours to turn. If you find one false, say at which input.
  Laid BY PROGRAM, IN A SANDBOX (cutbox-rows.mjs): the forced cells as the released guide's own fill.sh prints them over the translation 575067006dceb8b8… (all of the seat's roots in one cut). By AI agents, Wed Nov 11 2026. No macro, syntax, notation, axiom, sorry.
-/
import Derived.Test.YtiipefhdnfneeaaChecked
import GoSem.Claim
import GoSem.ClaimJoined
import GoSem.ClaimMapViews
import Derived.JoinedTies
import Derived.KernelRfl
namespace Go.Proofs.Ytiipefhdnfneeaa
/- THE CELL 'sum', in the pinned program and in every row, IS THE sha256 OF THE DUMP (.gsa) THAT YtiipefhdnfneeaaProg.lean LOADS. Nothing in Lean hashes anything: it is a label: what it is worth is what the hold of that sum in a sandbox is worth. -/
noncomputable def Try.pinned : Pinned := { name := "ytiipefhdnfneeaa", sum := "575067006dceb8b89619a43366332a544303b78b6ca71748ce176f8487065182", checked := Try.checked }
namespace Rows
def none {H : Type} : Left H := { results := [], args := [] }

/-- 'gridworklaw06.VectorPairs': WHATEVER THE INPUT: true; the input reads as it did. -/
def vectorPairsSpec : ChangeSpec := { name := "vectorPairs", fn := fun _ => fun
  | [d1, d2] => { results := [.lit (.bool true)], args := [d1, d2] }
  | _ => none }
def vectorPairsRow : OpenClaim := { program := "ytiipefhdnfneeaa", sum := "575067006dceb8b89619a43366332a544303b78b6ca71748ce176f8487065182", func := "gridwork/gridworklaw06.VectorPairs", spec := "vectorPairs", inPlace := ["math.Float64frombits", "math.Float64bits"], unfollowed := true, recurses := true, apart := false }
def VectorPairsSaid : Prop := vectorPairsRow.holds Try.pinned (OpenSpec.ofChange vectorPairsSpec)

/-- ITS FALSE NEIGHBOUR: 'it returns false'. Refute it at one input. -/
def vectorPairsWrong : ChangeSpec := { name := "vectorPairs", fn := fun _ => fun
  | [d1, d2] => { results := [.lit (.bool false)], args := [d1, d2] }
  | _ => none }
def VectorPairsWrongFalsely : Prop := vectorPairsRow.holds Try.pinned (OpenSpec.ofChange vectorPairsWrong)

/-- 'gridworklaw19.SourceRights': WHATEVER THE INPUT: true; the input reads as it did. -/
def sourceRightsSpec : ChangeSpec := { name := "sourceRights", fn := fun _ => fun
  | [d1, d2] => { results := [.lit (.bool true)], args := [d1, d2] }
  | _ => none }
def sourceRightsRow : OpenClaim := { program := "ytiipefhdnfneeaa", sum := "575067006dceb8b89619a43366332a544303b78b6ca71748ce176f8487065182", func := "gridwork/gridworklaw19.SourceRights", spec := "sourceRights", inPlace := ["math.Float64frombits", "math.Float64bits"], unfollowed := true, recurses := true, apart := false }
def SourceRightsSaid : Prop := sourceRightsRow.holds Try.pinned (OpenSpec.ofChange sourceRightsSpec)

/-- ITS FALSE NEIGHBOUR: 'it returns false'. Refute it at one input. -/
def sourceRightsWrong : ChangeSpec := { name := "sourceRights", fn := fun _ => fun
  | [d1, d2] => { results := [.lit (.bool false)], args := [d1, d2] }
  | _ => none }
def SourceRightsWrongFalsely : Prop := sourceRightsRow.holds Try.pinned (OpenSpec.ofChange sourceRightsWrong)

/-- 'gridworklaw16.GraphAll': WHATEVER THE INPUT: true; the input reads as it did. -/
def graphAllSpec : ChangeSpec := { name := "graphAll", fn := fun _ => fun
  | [d] => { results := [.lit (.bool true)], args := [d] }
  | _ => none }
def graphAllRow : OpenClaim := { program := "ytiipefhdnfneeaa", sum := "575067006dceb8b89619a43366332a544303b78b6ca71748ce176f8487065182", func := "gridwork/gridworklaw16.GraphAll", spec := "graphAll", inPlace := ["math.Float64frombits", "math.Float64bits"], unfollowed := true, recurses := true, apart := false }
def GraphAllSaid : Prop := graphAllRow.holds Try.pinned (OpenSpec.ofChange graphAllSpec)

/-- ITS FALSE NEIGHBOUR: 'it returns false'. Refute it at one input. -/
def graphAllWrong : ChangeSpec := { name := "graphAll", fn := fun _ => fun
  | [d] => { results := [.lit (.bool false)], args := [d] }
  | _ => none }
def GraphAllWrongFalsely : Prop := graphAllRow.holds Try.pinned (OpenSpec.ofChange graphAllWrong)

/-- 'gridworklaw16.GraphCounts': WHATEVER THE INPUT: true; the input reads as it did. -/
def graphCountsSpec : ChangeSpec := { name := "graphCounts", fn := fun _ => fun
  | [d] => { results := [.lit (.bool true)], args := [d] }
  | _ => none }
def graphCountsRow : OpenClaim := { program := "ytiipefhdnfneeaa", sum := "575067006dceb8b89619a43366332a544303b78b6ca71748ce176f8487065182", func := "gridwork/gridworklaw16.GraphCounts", spec := "graphCounts", inPlace := ["math.Float64bits", "math.Float64frombits"], unfollowed := true, recurses := true, apart := false }
def GraphCountsSaid : Prop := graphCountsRow.holds Try.pinned (OpenSpec.ofChange graphCountsSpec)

/-- ITS FALSE NEIGHBOUR: 'it returns false'. Refute it at one input. -/
def graphCountsWrong : ChangeSpec := { name := "graphCounts", fn := fun _ => fun
  | [d] => { results := [.lit (.bool false)], args := [d] }
  | _ => none }
def GraphCountsWrongFalsely : Prop := graphCountsRow.holds Try.pinned (OpenSpec.ofChange graphCountsWrong)

/-- 'gridworklaw16.GraphVolts': WHATEVER THE INPUT: true; the input reads as it did. -/
def graphVoltsSpec : ChangeSpec := { name := "graphVolts", fn := fun _ => fun
  | [d] => { results := [.lit (.bool true)], args := [d] }
  | _ => none }
def graphVoltsRow : OpenClaim := { program := "ytiipefhdnfneeaa", sum := "575067006dceb8b89619a43366332a544303b78b6ca71748ce176f8487065182", func := "gridwork/gridworklaw16.GraphVolts", spec := "graphVolts", inPlace := ["math.Float64bits", "math.Float64frombits"], unfollowed := true, recurses := true, apart := false }
def GraphVoltsSaid : Prop := graphVoltsRow.holds Try.pinned (OpenSpec.ofChange graphVoltsSpec)

/-- ITS FALSE NEIGHBOUR: 'it returns false'. Refute it at one input. -/
def graphVoltsWrong : ChangeSpec := { name := "graphVolts", fn := fun _ => fun
  | [d] => { results := [.lit (.bool false)], args := [d] }
  | _ => none }
def GraphVoltsWrongFalsely : Prop := graphVoltsRow.holds Try.pinned (OpenSpec.ofChange graphVoltsWrong)

/-- 'gridworklaw16.GraphRounds': WHATEVER THE INPUT: true; the input reads as it did. -/
def graphRoundsSpec : ChangeSpec := { name := "graphRounds", fn := fun _ => fun
  | [d] => { results := [.lit (.bool true)], args := [d] }
  | _ => none }
def graphRoundsRow : OpenClaim := { program := "ytiipefhdnfneeaa", sum := "575067006dceb8b89619a43366332a544303b78b6ca71748ce176f8487065182", func := "gridwork/gridworklaw16.GraphRounds", spec := "graphRounds", inPlace := ["math.Float64bits", "math.Float64frombits"], unfollowed := true, recurses := true, apart := false }
def GraphRoundsSaid : Prop := graphRoundsRow.holds Try.pinned (OpenSpec.ofChange graphRoundsSpec)

/-- ITS FALSE NEIGHBOUR: 'it returns false'. Refute it at one input. -/
def graphRoundsWrong : ChangeSpec := { name := "graphRounds", fn := fun _ => fun
  | [d] => { results := [.lit (.bool false)], args := [d] }
  | _ => none }
def GraphRoundsWrongFalsely : Prop := graphRoundsRow.holds Try.pinned (OpenSpec.ofChange graphRoundsWrong)

/-- 'gridworklaw22.PowerSums': WHATEVER THE INPUT: true; the input reads as it did. -/
def powerSumsSpec : ChangeSpec := { name := "powerSums", fn := fun _ => fun
  | [d1, d2] => { results := [.lit (.bool true)], args := [d1, d2] }
  | _ => none }
def powerSumsRow : OpenClaim := { program := "ytiipefhdnfneeaa", sum := "575067006dceb8b89619a43366332a544303b78b6ca71748ce176f8487065182", func := "gridwork/gridworklaw22.PowerSums", spec := "powerSums", inPlace := ["math.Float64bits", "math.Float64frombits"], unfollowed := true, recurses := true, apart := false }
def PowerSumsSaid : Prop := powerSumsRow.holds Try.pinned (OpenSpec.ofChange powerSumsSpec)

/-- ITS FALSE NEIGHBOUR: 'it returns false'. Refute it at one input. -/
def powerSumsWrong : ChangeSpec := { name := "powerSums", fn := fun _ => fun
  | [d1, d2] => { results := [.lit (.bool false)], args := [d1, d2] }
  | _ => none }
def PowerSumsWrongFalsely : Prop := powerSumsRow.holds Try.pinned (OpenSpec.ofChange powerSumsWrong)

/- THE SECOND FORM. 'bulk': how many values and letters a reading holds, each counted each time it is reached (what is shared counts as often as it is met; a slice's spare places count too). A statement '..UptoSaid' is the law's where the arguments, and the package variables that the reading takes, are together of bulk at most 1048576: NARROWER than '..Said'. Prove '..Said' where nothing that the law and all that it calls make is longer than what came in: it says more and counts as full. Else prove '..UptoSaid'. A law counts once. -/
mutual
def uptoBulk {H : Type} : DataW H → Nat
  | .lit (.string bytes) => bytes.length + 1
  | .lit _ => 1
  | .nil => 1
  | .ptr d => uptoBulk d + 1
  | .slice elems spare => uptoBulkAll elems + uptoBulkAll spare + 1
  | .agg parts => uptoBulkAll parts + 1
  | .iface _ d => uptoBulk d + 1
  | .map entries => uptoBulkEntries entries + 1
  | .held _ => 1
def uptoBulkAll {H : Type} : List (DataW H) → Nat
  | [] => 0
  | d :: r => uptoBulk d + uptoBulkAll r
def uptoBulkEntries {H : Type} : List (Lit × DataW H) → Nat
  | [] => 0
  | x :: r => uptoBulkEntry x + uptoBulkEntries r
def uptoBulkEntry {H : Type} : Lit × DataW H → Nat
  | (.string bytes, d) => bytes.length + uptoBulk d + 1
  | (_, d) => uptoBulk d + 1
 end
def uptoSmall : (H : Type) → List (DataW H) → Bool := fun _ ds => decide (uptoBulkAll ds ≤ 1048576)
def OpenSpec.upto (s : _root_.Go.ChangeSpec) : _root_.Go.OpenSpec := { _root_.Go.OpenSpec.ofChange s with cond := some uptoSmall }

/-- 'gridworklaw06.VectorPairs', WHERE WHAT IT READS IS OF BULK AT MOST 1048576: true; the input reads as it did. -/
def vectorPairsUptoRow : OpenClaim := { program := "ytiipefhdnfneeaa", sum := "575067006dceb8b89619a43366332a544303b78b6ca71748ce176f8487065182", func := "gridwork/gridworklaw06.VectorPairs", spec := "vectorPairs", inPlace := ["math.Float64frombits", "math.Float64bits"], unfollowed := true, recurses := true, apart := false, narrowed := true }
def VectorPairsUptoSaid : Prop := vectorPairsUptoRow.holds Try.pinned (OpenSpec.upto vectorPairsSpec)

/-- 'gridworklaw19.SourceRights', WHERE WHAT IT READS IS OF BULK AT MOST 1048576: true; the input reads as it did. -/
def sourceRightsUptoRow : OpenClaim := { program := "ytiipefhdnfneeaa", sum := "575067006dceb8b89619a43366332a544303b78b6ca71748ce176f8487065182", func := "gridwork/gridworklaw19.SourceRights", spec := "sourceRights", inPlace := ["math.Float64frombits", "math.Float64bits"], unfollowed := true, recurses := true, apart := false, narrowed := true }
def SourceRightsUptoSaid : Prop := sourceRightsUptoRow.holds Try.pinned (OpenSpec.upto sourceRightsSpec)

/-- 'gridworklaw16.GraphAll', WHERE WHAT IT READS IS OF BULK AT MOST 1048576: true; the input reads as it did. -/
def graphAllUptoRow : OpenClaim := { program := "ytiipefhdnfneeaa", sum := "575067006dceb8b89619a43366332a544303b78b6ca71748ce176f8487065182", func := "gridwork/gridworklaw16.GraphAll", spec := "graphAll", inPlace := ["math.Float64frombits", "math.Float64bits"], unfollowed := true, recurses := true, apart := false, narrowed := true }
def GraphAllUptoSaid : Prop := graphAllUptoRow.holds Try.pinned (OpenSpec.upto graphAllSpec)

/-- 'gridworklaw16.GraphCounts', WHERE WHAT IT READS IS OF BULK AT MOST 1048576: true; the input reads as it did. -/
def graphCountsUptoRow : OpenClaim := { program := "ytiipefhdnfneeaa", sum := "575067006dceb8b89619a43366332a544303b78b6ca71748ce176f8487065182", func := "gridwork/gridworklaw16.GraphCounts", spec := "graphCounts", inPlace := ["math.Float64bits", "math.Float64frombits"], unfollowed := true, recurses := true, apart := false, narrowed := true }
def GraphCountsUptoSaid : Prop := graphCountsUptoRow.holds Try.pinned (OpenSpec.upto graphCountsSpec)

/-- 'gridworklaw16.GraphVolts', WHERE WHAT IT READS IS OF BULK AT MOST 1048576: true; the input reads as it did. -/
def graphVoltsUptoRow : OpenClaim := { program := "ytiipefhdnfneeaa", sum := "575067006dceb8b89619a43366332a544303b78b6ca71748ce176f8487065182", func := "gridwork/gridworklaw16.GraphVolts", spec := "graphVolts", inPlace := ["math.Float64bits", "math.Float64frombits"], unfollowed := true, recurses := true, apart := false, narrowed := true }
def GraphVoltsUptoSaid : Prop := graphVoltsUptoRow.holds Try.pinned (OpenSpec.upto graphVoltsSpec)

/-- 'gridworklaw16.GraphRounds', WHERE WHAT IT READS IS OF BULK AT MOST 1048576: true; the input reads as it did. -/
def graphRoundsUptoRow : OpenClaim := { program := "ytiipefhdnfneeaa", sum := "575067006dceb8b89619a43366332a544303b78b6ca71748ce176f8487065182", func := "gridwork/gridworklaw16.GraphRounds", spec := "graphRounds", inPlace := ["math.Float64bits", "math.Float64frombits"], unfollowed := true, recurses := true, apart := false, narrowed := true }
def GraphRoundsUptoSaid : Prop := graphRoundsUptoRow.holds Try.pinned (OpenSpec.upto graphRoundsSpec)

/-- 'gridworklaw22.PowerSums', WHERE WHAT IT READS IS OF BULK AT MOST 1048576: true; the input reads as it did. -/
def powerSumsUptoRow : OpenClaim := { program := "ytiipefhdnfneeaa", sum := "575067006dceb8b89619a43366332a544303b78b6ca71748ce176f8487065182", func := "gridwork/gridworklaw22.PowerSums", spec := "powerSums", inPlace := ["math.Float64bits", "math.Float64frombits"], unfollowed := true, recurses := true, apart := false, narrowed := true }
def PowerSumsUptoSaid : Prop := powerSumsUptoRow.holds Try.pinned (OpenSpec.upto powerSumsSpec)

end Rows
end Go.Proofs.Ytiipefhdnfneeaa
