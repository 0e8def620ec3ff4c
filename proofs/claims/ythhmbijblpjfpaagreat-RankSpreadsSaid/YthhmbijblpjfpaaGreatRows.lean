/-
  No cell of these rows narrows 'for every input' (looked for: loops, veiled, ifaces, maps, wideKeys, modest, calm, conditions, laid).
  DERIVED. THE GIVEN ROWS OF THIS SEAT. 12 by the template 'for every input the law returns true; each argument reads behind the call as it read before'; 0 by the template 'total and deterministic' (their statements: YthhmbijblpjfpaaGreatTotals.lean).
  GIVEN WITH THE SEED: the statements are not yours to turn. If you find one false, say at which input.
  Laid BY PROGRAM, IN A SANDBOX (cutbox-rows.mjs): the forced cells as the released guide's own fill.sh prints them over the translation c22fa579c7cf5664… (all of the seat's roots in one cut). By AI agents, Wed Nov 11 2026. No macro, syntax, notation, axiom, sorry.
-/
import Derived.Test.YthhmbijblpjfpaaGreatChecked
import GoSem.Claim
import GoSem.ClaimJoined
import GoSem.ClaimMapViews
import Derived.JoinedTies
import Derived.KernelRfl
namespace Go.Proofs.YthhmbijblpjfpaaGreat
/- THE CELL 'sum', in the pinned program and in every row, IS THE sha256 OF THE DUMP (.gsa) THAT YthhmbijblpjfpaaGreatProg.lean LOADS. Nothing in Lean hashes anything: it is a label: what it is worth is what the hold of that sum in a sandbox is worth. -/
noncomputable def Tryz.pinned : Pinned := { name := "ythhmbijblpjfpaagreat", sum := "c22fa579c7cf5664f1b5e90114be86d4258ec46f2ae0771c4dbcc549458dc8d6", checked := Tryz.checked }
namespace Rows
def none {H : Type} : Left H := { results := [], args := [] }

/-- 'factotumlaw10.RankSpreads': WHATEVER THE INPUT: true; the input reads as it did. -/
def rankSpreadsSpec : ChangeSpec := { name := "rankSpreads", fn := fun _ => fun
  | [d1, d2, d3] => { results := [.lit (.bool true)], args := [d1, d2, d3] }
  | _ => none }
def rankSpreadsRow : OpenClaim := { program := "ythhmbijblpjfpaagreat", sum := "c22fa579c7cf5664f1b5e90114be86d4258ec46f2ae0771c4dbcc549458dc8d6", func := "factotum/factotumlaw10.RankSpreads", spec := "rankSpreads", inPlace := ["math.Float64bits", "math.Float64frombits"], unfollowed := true, recurses := true, plainKeys := false, apart := false }
def RankSpreadsSaid : Prop := rankSpreadsRow.holds Tryz.pinned (OpenSpec.ofChange rankSpreadsSpec)

/-- ITS FALSE NEIGHBOUR: 'it returns false'. Refute it at one input. -/
def rankSpreadsWrong : ChangeSpec := { name := "rankSpreads", fn := fun _ => fun
  | [d1, d2, d3] => { results := [.lit (.bool false)], args := [d1, d2, d3] }
  | _ => none }
def RankSpreadsWrongFalsely : Prop := rankSpreadsRow.holds Tryz.pinned (OpenSpec.ofChange rankSpreadsWrong)

/-- 'factotumlaw11.MutateRight': WHATEVER THE INPUT: true; the input reads as it did. -/
def mutateRightSpec : ChangeSpec := { name := "mutateRight", fn := fun _ => fun
  | [d1, d2] => { results := [.lit (.bool true)], args := [d1, d2] }
  | _ => none }
def mutateRightRow : OpenClaim := { program := "ythhmbijblpjfpaagreat", sum := "c22fa579c7cf5664f1b5e90114be86d4258ec46f2ae0771c4dbcc549458dc8d6", func := "factotum/factotumlaw11.MutateRight", spec := "mutateRight", inPlace := ["math.Float64bits", "math.Float64frombits", "slices.overlaps[string]"], unfollowed := true, recurses := true, plainKeys := false, apart := false }
def MutateRightSaid : Prop := mutateRightRow.holds Tryz.pinned (OpenSpec.ofChange mutateRightSpec)

/-- ITS FALSE NEIGHBOUR: 'it returns false'. Refute it at one input. -/
def mutateRightWrong : ChangeSpec := { name := "mutateRight", fn := fun _ => fun
  | [d1, d2] => { results := [.lit (.bool false)], args := [d1, d2] }
  | _ => none }
def MutateRightWrongFalsely : Prop := mutateRightRow.holds Tryz.pinned (OpenSpec.ofChange mutateRightWrong)

/-- 'factotumlaw11.MutateElse': WHATEVER THE INPUT: true; the input reads as it did. -/
def mutateElseSpec : ChangeSpec := { name := "mutateElse", fn := fun _ => fun
  | [d1, d2] => { results := [.lit (.bool true)], args := [d1, d2] }
  | _ => none }
def mutateElseRow : OpenClaim := { program := "ythhmbijblpjfpaagreat", sum := "c22fa579c7cf5664f1b5e90114be86d4258ec46f2ae0771c4dbcc549458dc8d6", func := "factotum/factotumlaw11.MutateElse", spec := "mutateElse", inPlace := ["math.Float64bits", "math.Float64frombits", "slices.overlaps[string]"], unfollowed := true, recurses := true, plainKeys := false, apart := false }
def MutateElseSaid : Prop := mutateElseRow.holds Tryz.pinned (OpenSpec.ofChange mutateElseSpec)

/-- ITS FALSE NEIGHBOUR: 'it returns false'. Refute it at one input. -/
def mutateElseWrong : ChangeSpec := { name := "mutateElse", fn := fun _ => fun
  | [d1, d2] => { results := [.lit (.bool false)], args := [d1, d2] }
  | _ => none }
def MutateElseWrongFalsely : Prop := mutateElseRow.holds Tryz.pinned (OpenSpec.ofChange mutateElseWrong)

/-- 'factotumlaw11.MutateApplies': WHATEVER THE INPUT: true; the input reads as it did. -/
def mutateAppliesSpec : ChangeSpec := { name := "mutateApplies", fn := fun _ => fun
  | [d1, d2] => { results := [.lit (.bool true)], args := [d1, d2] }
  | _ => none }
def mutateAppliesRow : OpenClaim := { program := "ythhmbijblpjfpaagreat", sum := "c22fa579c7cf5664f1b5e90114be86d4258ec46f2ae0771c4dbcc549458dc8d6", func := "factotum/factotumlaw11.MutateApplies", spec := "mutateApplies", inPlace := ["math.Float64bits", "math.Float64frombits", "slices.overlaps[string]"], unfollowed := true, recurses := true, plainKeys := false, apart := false }
def MutateAppliesSaid : Prop := mutateAppliesRow.holds Tryz.pinned (OpenSpec.ofChange mutateAppliesSpec)

/-- ITS FALSE NEIGHBOUR: 'it returns false'. Refute it at one input. -/
def mutateAppliesWrong : ChangeSpec := { name := "mutateApplies", fn := fun _ => fun
  | [d1, d2] => { results := [.lit (.bool false)], args := [d1, d2] }
  | _ => none }
def MutateAppliesWrongFalsely : Prop := mutateAppliesRow.holds Tryz.pinned (OpenSpec.ofChange mutateAppliesWrong)

/-- 'factotumlaw14.FoldAll': WHATEVER THE INPUT: true; the input reads as it did. -/
def foldAllSpec : ChangeSpec := { name := "foldAll", fn := fun _ => fun
  | [d1, d2] => { results := [.lit (.bool true)], args := [d1, d2] }
  | _ => none }
def foldAllRow : OpenClaim := { program := "ythhmbijblpjfpaagreat", sum := "c22fa579c7cf5664f1b5e90114be86d4258ec46f2ae0771c4dbcc549458dc8d6", func := "factotum/factotumlaw14.FoldAll", spec := "foldAll", inPlace := ["math.Float64bits", "math.Float64frombits", "slices.overlaps[string]"], unfollowed := true, recurses := true, plainKeys := false, apart := false }
def FoldAllSaid : Prop := foldAllRow.holds Tryz.pinned (OpenSpec.ofChange foldAllSpec)

/-- ITS FALSE NEIGHBOUR: 'it returns false'. Refute it at one input. -/
def foldAllWrong : ChangeSpec := { name := "foldAll", fn := fun _ => fun
  | [d1, d2] => { results := [.lit (.bool false)], args := [d1, d2] }
  | _ => none }
def FoldAllWrongFalsely : Prop := foldAllRow.holds Tryz.pinned (OpenSpec.ofChange foldAllWrong)

/-- 'factotumlaw14.FoldParts': WHATEVER THE INPUT: true; the input reads as it did. -/
def foldPartsSpec : ChangeSpec := { name := "foldParts", fn := fun _ => fun
  | [d1, d2, d3] => { results := [.lit (.bool true)], args := [d1, d2, d3] }
  | _ => none }
def foldPartsRow : OpenClaim := { program := "ythhmbijblpjfpaagreat", sum := "c22fa579c7cf5664f1b5e90114be86d4258ec46f2ae0771c4dbcc549458dc8d6", func := "factotum/factotumlaw14.FoldParts", spec := "foldParts", inPlace := ["math.Float64bits", "math.Float64frombits", "slices.overlaps[string]"], unfollowed := true, recurses := true, plainKeys := false, apart := false }
def FoldPartsSaid : Prop := foldPartsRow.holds Tryz.pinned (OpenSpec.ofChange foldPartsSpec)

/-- ITS FALSE NEIGHBOUR: 'it returns false'. Refute it at one input. -/
def foldPartsWrong : ChangeSpec := { name := "foldParts", fn := fun _ => fun
  | [d1, d2, d3] => { results := [.lit (.bool false)], args := [d1, d2, d3] }
  | _ => none }
def FoldPartsWrongFalsely : Prop := foldPartsRow.holds Tryz.pinned (OpenSpec.ofChange foldPartsWrong)

/-- 'factotumlaw14.FoldEach': WHATEVER THE INPUT: true; the input reads as it did. -/
def foldEachSpec : ChangeSpec := { name := "foldEach", fn := fun _ => fun
  | [d1, d2, d3] => { results := [.lit (.bool true)], args := [d1, d2, d3] }
  | _ => none }
def foldEachRow : OpenClaim := { program := "ythhmbijblpjfpaagreat", sum := "c22fa579c7cf5664f1b5e90114be86d4258ec46f2ae0771c4dbcc549458dc8d6", func := "factotum/factotumlaw14.FoldEach", spec := "foldEach", inPlace := ["math.Float64bits", "math.Float64frombits", "slices.overlaps[string]"], unfollowed := true, recurses := true, plainKeys := false, apart := false }
def FoldEachSaid : Prop := foldEachRow.holds Tryz.pinned (OpenSpec.ofChange foldEachSpec)

/-- ITS FALSE NEIGHBOUR: 'it returns false'. Refute it at one input. -/
def foldEachWrong : ChangeSpec := { name := "foldEach", fn := fun _ => fun
  | [d1, d2, d3] => { results := [.lit (.bool false)], args := [d1, d2, d3] }
  | _ => none }
def FoldEachWrongFalsely : Prop := foldEachRow.holds Tryz.pinned (OpenSpec.ofChange foldEachWrong)

/-- 'factotumlaw31.ClashLosses': WHATEVER THE INPUT: true; the input reads as it did. -/
def clashLossesSpec : ChangeSpec := { name := "clashLosses", fn := fun _ => fun
  | [d1, d2, d3] => { results := [.lit (.bool true)], args := [d1, d2, d3] }
  | _ => none }
def clashLossesRow : OpenClaim := { program := "ythhmbijblpjfpaagreat", sum := "c22fa579c7cf5664f1b5e90114be86d4258ec46f2ae0771c4dbcc549458dc8d6", func := "factotum/factotumlaw31.ClashLosses", spec := "clashLosses", inPlace := ["math.Float64bits", "math.Float64frombits", "slices.overlaps[string]"], unfollowed := true, recurses := true, plainKeys := false, apart := false }
def ClashLossesSaid : Prop := clashLossesRow.holds Tryz.pinned (OpenSpec.ofChange clashLossesSpec)

/-- ITS FALSE NEIGHBOUR: 'it returns false'. Refute it at one input. -/
def clashLossesWrong : ChangeSpec := { name := "clashLosses", fn := fun _ => fun
  | [d1, d2, d3] => { results := [.lit (.bool false)], args := [d1, d2, d3] }
  | _ => none }
def ClashLossesWrongFalsely : Prop := clashLossesRow.holds Tryz.pinned (OpenSpec.ofChange clashLossesWrong)

/-- 'factotumlaw31.ClashOnce': WHATEVER THE INPUT: true; the input reads as it did. -/
def clashOnceSpec : ChangeSpec := { name := "clashOnce", fn := fun _ => fun
  | [d1, d2] => { results := [.lit (.bool true)], args := [d1, d2] }
  | _ => none }
def clashOnceRow : OpenClaim := { program := "ythhmbijblpjfpaagreat", sum := "c22fa579c7cf5664f1b5e90114be86d4258ec46f2ae0771c4dbcc549458dc8d6", func := "factotum/factotumlaw31.ClashOnce", spec := "clashOnce", inPlace := ["math.Float64bits", "math.Float64frombits", "slices.overlaps[string]"], unfollowed := true, recurses := true, plainKeys := false, apart := false }
def ClashOnceSaid : Prop := clashOnceRow.holds Tryz.pinned (OpenSpec.ofChange clashOnceSpec)

/-- ITS FALSE NEIGHBOUR: 'it returns false'. Refute it at one input. -/
def clashOnceWrong : ChangeSpec := { name := "clashOnce", fn := fun _ => fun
  | [d1, d2] => { results := [.lit (.bool false)], args := [d1, d2] }
  | _ => none }
def ClashOnceWrongFalsely : Prop := clashOnceRow.holds Tryz.pinned (OpenSpec.ofChange clashOnceWrong)

/-- 'factotumlaw14.FoldLines': WHATEVER THE INPUT: true; the input reads as it did. -/
def foldLinesSpec : ChangeSpec := { name := "foldLines", fn := fun _ => fun
  | [d1, d2, d3, d4, d5] => { results := [.lit (.bool true)], args := [d1, d2, d3, d4, d5] }
  | _ => none }
def foldLinesRow : OpenClaim := { program := "ythhmbijblpjfpaagreat", sum := "c22fa579c7cf5664f1b5e90114be86d4258ec46f2ae0771c4dbcc549458dc8d6", func := "factotum/factotumlaw14.FoldLines", spec := "foldLines", inPlace := ["math.Float64bits", "math.Float64frombits", "slices.overlaps[string]"], unfollowed := true, recurses := true, plainKeys := false, apart := false }
def FoldLinesSaid : Prop := foldLinesRow.holds Tryz.pinned (OpenSpec.ofChange foldLinesSpec)

/-- ITS FALSE NEIGHBOUR: 'it returns false'. Refute it at one input. -/
def foldLinesWrong : ChangeSpec := { name := "foldLines", fn := fun _ => fun
  | [d1, d2, d3, d4, d5] => { results := [.lit (.bool false)], args := [d1, d2, d3, d4, d5] }
  | _ => none }
def FoldLinesWrongFalsely : Prop := foldLinesRow.holds Tryz.pinned (OpenSpec.ofChange foldLinesWrong)

/-- 'factotumlaw30.UndoInverse': WHATEVER THE INPUT: true; the input reads as it did. -/
def undoInverseSpec : ChangeSpec := { name := "undoInverse", fn := fun _ => fun
  | [d1, d2, d3] => { results := [.lit (.bool true)], args := [d1, d2, d3] }
  | _ => none }
def undoInverseRow : OpenClaim := { program := "ythhmbijblpjfpaagreat", sum := "c22fa579c7cf5664f1b5e90114be86d4258ec46f2ae0771c4dbcc549458dc8d6", func := "factotum/factotumlaw30.UndoInverse", spec := "undoInverse", inPlace := ["math.Float64bits", "math.Float64frombits", "slices.overlaps[string]"], unfollowed := true, recurses := true, plainKeys := false, apart := false }
def UndoInverseSaid : Prop := undoInverseRow.holds Tryz.pinned (OpenSpec.ofChange undoInverseSpec)

/-- ITS FALSE NEIGHBOUR: 'it returns false'. Refute it at one input. -/
def undoInverseWrong : ChangeSpec := { name := "undoInverse", fn := fun _ => fun
  | [d1, d2, d3] => { results := [.lit (.bool false)], args := [d1, d2, d3] }
  | _ => none }
def UndoInverseWrongFalsely : Prop := undoInverseRow.holds Tryz.pinned (OpenSpec.ofChange undoInverseWrong)

/-- 'factotumlaw30.UndoBack': WHATEVER THE INPUT: true; the input reads as it did. -/
def undoBackSpec : ChangeSpec := { name := "undoBack", fn := fun _ => fun
  | [d1, d2] => { results := [.lit (.bool true)], args := [d1, d2] }
  | _ => none }
def undoBackRow : OpenClaim := { program := "ythhmbijblpjfpaagreat", sum := "c22fa579c7cf5664f1b5e90114be86d4258ec46f2ae0771c4dbcc549458dc8d6", func := "factotum/factotumlaw30.UndoBack", spec := "undoBack", inPlace := ["math.Float64bits", "math.Float64frombits", "slices.overlaps[string]"], unfollowed := true, recurses := true, plainKeys := false, apart := false }
def UndoBackSaid : Prop := undoBackRow.holds Tryz.pinned (OpenSpec.ofChange undoBackSpec)

/-- ITS FALSE NEIGHBOUR: 'it returns false'. Refute it at one input. -/
def undoBackWrong : ChangeSpec := { name := "undoBack", fn := fun _ => fun
  | [d1, d2] => { results := [.lit (.bool false)], args := [d1, d2] }
  | _ => none }
def UndoBackWrongFalsely : Prop := undoBackRow.holds Tryz.pinned (OpenSpec.ofChange undoBackWrong)

/- THE SECOND FORM. 'bulk': how many values and letters a reading holds, each counted each time it is reached (what is shared counts as often as it is met; a slice's spare places count too). A statement '..UptoSaid' is the law's where the arguments, and the package variables that the reading takes, are together of bulk at most 1048576: NARROWER than '..Said'. Prove '..Said' where nothing that the law and all that it calls make is longer than what came in: it says more and counts as full. Else prove '..UptoSaid'. A law counts once. -/
mutual
def uptoBulk {H : Type} : DataW H → Nat
  | .lit (.string bytes) => bytes.length + 1
  | .lit _ => 1
  | .nil => 1
  | .ptr d => uptoBulk d + 1
  | .slice elems spare => uptoBulkAll elems + uptoBulkAll spare + 1
  | .agg parts => uptoBulkAll parts + 1
  | .iface _ d => uptoBulk d + 1
  | .map entries => uptoBulkEntries entries + 1
  | .held _ => 1
def uptoBulkAll {H : Type} : List (DataW H) → Nat
  | [] => 0
  | d :: r => uptoBulk d + uptoBulkAll r
def uptoBulkEntries {H : Type} : List (Lit × DataW H) → Nat
  | [] => 0
  | x :: r => uptoBulkEntry x + uptoBulkEntries r
def uptoBulkEntry {H : Type} : Lit × DataW H → Nat
  | (.string bytes, d) => bytes.length + uptoBulk d + 1
  | (_, d) => uptoBulk d + 1
 end
def uptoSmall : (H : Type) → List (DataW H) → Bool := fun _ ds => decide (uptoBulkAll ds ≤ 1048576)
def OpenSpec.upto (s : _root_.Go.ChangeSpec) : _root_.Go.OpenSpec := { _root_.Go.OpenSpec.ofChange s with cond := some uptoSmall }

/-- 'factotumlaw10.RankSpreads', WHERE WHAT IT READS IS OF BULK AT MOST 1048576: true; the input reads as it did. -/
def rankSpreadsUptoRow : OpenClaim := { program := "ythhmbijblpjfpaagreat", sum := "c22fa579c7cf5664f1b5e90114be86d4258ec46f2ae0771c4dbcc549458dc8d6", func := "factotum/factotumlaw10.RankSpreads", spec := "rankSpreads", inPlace := ["math.Float64bits", "math.Float64frombits"], unfollowed := true, recurses := true, plainKeys := false, apart := false, narrowed := true }
def RankSpreadsUptoSaid : Prop := rankSpreadsUptoRow.holds Tryz.pinned (OpenSpec.upto rankSpreadsSpec)

/-- 'factotumlaw11.MutateRight', WHERE WHAT IT READS IS OF BULK AT MOST 1048576: true; the input reads as it did. -/
def mutateRightUptoRow : OpenClaim := { program := "ythhmbijblpjfpaagreat", sum := "c22fa579c7cf5664f1b5e90114be86d4258ec46f2ae0771c4dbcc549458dc8d6", func := "factotum/factotumlaw11.MutateRight", spec := "mutateRight", inPlace := ["math.Float64bits", "math.Float64frombits", "slices.overlaps[string]"], unfollowed := true, recurses := true, plainKeys := false, apart := false, narrowed := true }
def MutateRightUptoSaid : Prop := mutateRightUptoRow.holds Tryz.pinned (OpenSpec.upto mutateRightSpec)

/-- 'factotumlaw11.MutateElse', WHERE WHAT IT READS IS OF BULK AT MOST 1048576: true; the input reads as it did. -/
def mutateElseUptoRow : OpenClaim := { program := "ythhmbijblpjfpaagreat", sum := "c22fa579c7cf5664f1b5e90114be86d4258ec46f2ae0771c4dbcc549458dc8d6", func := "factotum/factotumlaw11.MutateElse", spec := "mutateElse", inPlace := ["math.Float64bits", "math.Float64frombits", "slices.overlaps[string]"], unfollowed := true, recurses := true, plainKeys := false, apart := false, narrowed := true }
def MutateElseUptoSaid : Prop := mutateElseUptoRow.holds Tryz.pinned (OpenSpec.upto mutateElseSpec)

/-- 'factotumlaw11.MutateApplies', WHERE WHAT IT READS IS OF BULK AT MOST 1048576: true; the input reads as it did. -/
def mutateAppliesUptoRow : OpenClaim := { program := "ythhmbijblpjfpaagreat", sum := "c22fa579c7cf5664f1b5e90114be86d4258ec46f2ae0771c4dbcc549458dc8d6", func := "factotum/factotumlaw11.MutateApplies", spec := "mutateApplies", inPlace := ["math.Float64bits", "math.Float64frombits", "slices.overlaps[string]"], unfollowed := true, recurses := true, plainKeys := false, apart := false, narrowed := true }
def MutateAppliesUptoSaid : Prop := mutateAppliesUptoRow.holds Tryz.pinned (OpenSpec.upto mutateAppliesSpec)

/-- 'factotumlaw14.FoldAll', WHERE WHAT IT READS IS OF BULK AT MOST 1048576: true; the input reads as it did. -/
def foldAllUptoRow : OpenClaim := { program := "ythhmbijblpjfpaagreat", sum := "c22fa579c7cf5664f1b5e90114be86d4258ec46f2ae0771c4dbcc549458dc8d6", func := "factotum/factotumlaw14.FoldAll", spec := "foldAll", inPlace := ["math.Float64bits", "math.Float64frombits", "slices.overlaps[string]"], unfollowed := true, recurses := true, plainKeys := false, apart := false, narrowed := true }
def FoldAllUptoSaid : Prop := foldAllUptoRow.holds Tryz.pinned (OpenSpec.upto foldAllSpec)

/-- 'factotumlaw14.FoldParts', WHERE WHAT IT READS IS OF BULK AT MOST 1048576: true; the input reads as it did. -/
def foldPartsUptoRow : OpenClaim := { program := "ythhmbijblpjfpaagreat", sum := "c22fa579c7cf5664f1b5e90114be86d4258ec46f2ae0771c4dbcc549458dc8d6", func := "factotum/factotumlaw14.FoldParts", spec := "foldParts", inPlace := ["math.Float64bits", "math.Float64frombits", "slices.overlaps[string]"], unfollowed := true, recurses := true, plainKeys := false, apart := false, narrowed := true }
def FoldPartsUptoSaid : Prop := foldPartsUptoRow.holds Tryz.pinned (OpenSpec.upto foldPartsSpec)

/-- 'factotumlaw14.FoldEach', WHERE WHAT IT READS IS OF BULK AT MOST 1048576: true; the input reads as it did. -/
def foldEachUptoRow : OpenClaim := { program := "ythhmbijblpjfpaagreat", sum := "c22fa579c7cf5664f1b5e90114be86d4258ec46f2ae0771c4dbcc549458dc8d6", func := "factotum/factotumlaw14.FoldEach", spec := "foldEach", inPlace := ["math.Float64bits", "math.Float64frombits", "slices.overlaps[string]"], unfollowed := true, recurses := true, plainKeys := false, apart := false, narrowed := true }
def FoldEachUptoSaid : Prop := foldEachUptoRow.holds Tryz.pinned (OpenSpec.upto foldEachSpec)

/-- 'factotumlaw31.ClashLosses', WHERE WHAT IT READS IS OF BULK AT MOST 1048576: true; the input reads as it did. -/
def clashLossesUptoRow : OpenClaim := { program := "ythhmbijblpjfpaagreat", sum := "c22fa579c7cf5664f1b5e90114be86d4258ec46f2ae0771c4dbcc549458dc8d6", func := "factotum/factotumlaw31.ClashLosses", spec := "clashLosses", inPlace := ["math.Float64bits", "math.Float64frombits", "slices.overlaps[string]"], unfollowed := true, recurses := true, plainKeys := false, apart := false, narrowed := true }
def ClashLossesUptoSaid : Prop := clashLossesUptoRow.holds Tryz.pinned (OpenSpec.upto clashLossesSpec)

/-- 'factotumlaw31.ClashOnce', WHERE WHAT IT READS IS OF BULK AT MOST 1048576: true; the input reads as it did. -/
def clashOnceUptoRow : OpenClaim := { program := "ythhmbijblpjfpaagreat", sum := "c22fa579c7cf5664f1b5e90114be86d4258ec46f2ae0771c4dbcc549458dc8d6", func := "factotum/factotumlaw31.ClashOnce", spec := "clashOnce", inPlace := ["math.Float64bits", "math.Float64frombits", "slices.overlaps[string]"], unfollowed := true, recurses := true, plainKeys := false, apart := false, narrowed := true }
def ClashOnceUptoSaid : Prop := clashOnceUptoRow.holds Tryz.pinned (OpenSpec.upto clashOnceSpec)

/-- 'factotumlaw14.FoldLines', WHERE WHAT IT READS IS OF BULK AT MOST 1048576: true; the input reads as it did. -/
def foldLinesUptoRow : OpenClaim := { program := "ythhmbijblpjfpaagreat", sum := "c22fa579c7cf5664f1b5e90114be86d4258ec46f2ae0771c4dbcc549458dc8d6", func := "factotum/factotumlaw14.FoldLines", spec := "foldLines", inPlace := ["math.Float64bits", "math.Float64frombits", "slices.overlaps[string]"], unfollowed := true, recurses := true, plainKeys := false, apart := false, narrowed := true }
def FoldLinesUptoSaid : Prop := foldLinesUptoRow.holds Tryz.pinned (OpenSpec.upto foldLinesSpec)

/-- 'factotumlaw30.UndoInverse', WHERE WHAT IT READS IS OF BULK AT MOST 1048576: true; the input reads as it did. -/
def undoInverseUptoRow : OpenClaim := { program := "ythhmbijblpjfpaagreat", sum := "c22fa579c7cf5664f1b5e90114be86d4258ec46f2ae0771c4dbcc549458dc8d6", func := "factotum/factotumlaw30.UndoInverse", spec := "undoInverse", inPlace := ["math.Float64bits", "math.Float64frombits", "slices.overlaps[string]"], unfollowed := true, recurses := true, plainKeys := false, apart := false, narrowed := true }
def UndoInverseUptoSaid : Prop := undoInverseUptoRow.holds Tryz.pinned (OpenSpec.upto undoInverseSpec)

/-- 'factotumlaw30.UndoBack', WHERE WHAT IT READS IS OF BULK AT MOST 1048576: true; the input reads as it did. -/
def undoBackUptoRow : OpenClaim := { program := "ythhmbijblpjfpaagreat", sum := "c22fa579c7cf5664f1b5e90114be86d4258ec46f2ae0771c4dbcc549458dc8d6", func := "factotum/factotumlaw30.UndoBack", spec := "undoBack", inPlace := ["math.Float64bits", "math.Float64frombits", "slices.overlaps[string]"], unfollowed := true, recurses := true, plainKeys := false, apart := false, narrowed := true }
def UndoBackUptoSaid : Prop := undoBackUptoRow.holds Tryz.pinned (OpenSpec.upto undoBackSpec)

end Rows
end Go.Proofs.YthhmbijblpjfpaaGreat
