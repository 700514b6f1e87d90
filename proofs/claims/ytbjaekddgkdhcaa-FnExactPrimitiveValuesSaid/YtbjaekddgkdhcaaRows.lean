/-
  No cell of these rows narrows 'for every input' (looked for: loops, veiled, ifaces, maps, wideKeys, modest, calm, conditions, laid).
  DERIVED. THE GIVEN ROWS OF THIS SEAT. 12 by the template 'for every input the law returns true; each argument reads behind the call as it read before'; 0 by the template 'total and deterministic' (their statements: YtbjaekddgkdhcaaTotals.lean).
  GIVEN WITH THE SEED: the statements are not yours to turn. If you find one false, say at which input.
  Laid BY PROGRAM, IN A SANDBOX (cutbox-rows.mjs): the forced cells as the released guide's own fill.sh prints them over the translation 055398a9ca9fb355… (all of the seat's roots in one cut). By AI agents, Wed Nov 11 2026. No macro, syntax, notation, axiom, sorry.
-/
import Derived.Test.YtbjaekddgkdhcaaChecked
import GoSem.Claim
import GoSem.ClaimJoined
import GoSem.ClaimMapViews
import Derived.JoinedTies
import Derived.KernelRfl
namespace Go.Proofs.Ytbjaekddgkdhcaa
/- THE CELL 'sum', in the pinned program and in every row, IS THE sha256 OF THE DUMP (.gsa) THAT YtbjaekddgkdhcaaProg.lean LOADS. Nothing in Lean hashes anything: it is a label: what it is worth is what the hold of that sum in a sandbox is worth. -/
noncomputable def Try.pinned : Pinned := { name := "ytbjaekddgkdhcaa", sum := "055398a9ca9fb35562f09459c0580ad0ef0232454e27ac6e2b90bddb184fcc92", checked := Try.checked }
namespace Rows
def none {H : Type} : Left H := { results := [], args := [] }

/-- 'laws.FnExactThetaSeries': WHATEVER THE INPUT: true; the input reads as it did. -/
def fnExactThetaSeriesSpec : ChangeSpec := { name := "fnExactThetaSeries", fn := fun _ => fun
  | [d1, d2] => { results := [.lit (.bool true)], args := [d1, d2] }
  | _ => none }
def fnExactThetaSeriesRow : OpenClaim := { program := "ytbjaekddgkdhcaa", sum := "055398a9ca9fb35562f09459c0580ad0ef0232454e27ac6e2b90bddb184fcc92", func := "loop.example/g01066/laws.FnExactThetaSeries", spec := "fnExactThetaSeries", plainKeys := false, apart := false }
def FnExactThetaSeriesSaid : Prop := fnExactThetaSeriesRow.holds Try.pinned (OpenSpec.ofChange fnExactThetaSeriesSpec)

/-- ITS FALSE NEIGHBOUR: 'it returns false'. Refute it at one input. -/
def fnExactThetaSeriesWrong : ChangeSpec := { name := "fnExactThetaSeries", fn := fun _ => fun
  | [d1, d2] => { results := [.lit (.bool false)], args := [d1, d2] }
  | _ => none }
def FnExactThetaSeriesWrongFalsely : Prop := fnExactThetaSeriesRow.holds Try.pinned (OpenSpec.ofChange fnExactThetaSeriesWrong)

/-- 'laws.FnExactFirstDifference': WHATEVER THE INPUT: true; the input reads as it did. -/
def fnExactFirstDifferenceSpec : ChangeSpec := { name := "fnExactFirstDifference", fn := fun _ => fun
  | [d1, d2] => { results := [.lit (.bool true)], args := [d1, d2] }
  | _ => none }
def fnExactFirstDifferenceRow : OpenClaim := { program := "ytbjaekddgkdhcaa", sum := "055398a9ca9fb35562f09459c0580ad0ef0232454e27ac6e2b90bddb184fcc92", func := "loop.example/g01066/laws.FnExactFirstDifference", spec := "fnExactFirstDifference", plainKeys := false, apart := false }
def FnExactFirstDifferenceSaid : Prop := fnExactFirstDifferenceRow.holds Try.pinned (OpenSpec.ofChange fnExactFirstDifferenceSpec)

/-- ITS FALSE NEIGHBOUR: 'it returns false'. Refute it at one input. -/
def fnExactFirstDifferenceWrong : ChangeSpec := { name := "fnExactFirstDifference", fn := fun _ => fun
  | [d1, d2] => { results := [.lit (.bool false)], args := [d1, d2] }
  | _ => none }
def FnExactFirstDifferenceWrongFalsely : Prop := fnExactFirstDifferenceRow.holds Try.pinned (OpenSpec.ofChange fnExactFirstDifferenceWrong)

/-- 'laws.FnExactPairSeries': WHATEVER THE INPUT: true; the input reads as it did. -/
def fnExactPairSeriesSpec : ChangeSpec := { name := "fnExactPairSeries", fn := fun _ => fun
  | [d1, d2, d3] => { results := [.lit (.bool true)], args := [d1, d2, d3] }
  | _ => none }
def fnExactPairSeriesRow : OpenClaim := { program := "ytbjaekddgkdhcaa", sum := "055398a9ca9fb35562f09459c0580ad0ef0232454e27ac6e2b90bddb184fcc92", func := "loop.example/g01066/laws.FnExactPairSeries", spec := "fnExactPairSeries", plainKeys := false, apart := false }
def FnExactPairSeriesSaid : Prop := fnExactPairSeriesRow.holds Try.pinned (OpenSpec.ofChange fnExactPairSeriesSpec)

/-- ITS FALSE NEIGHBOUR: 'it returns false'. Refute it at one input. -/
def fnExactPairSeriesWrong : ChangeSpec := { name := "fnExactPairSeries", fn := fun _ => fun
  | [d1, d2, d3] => { results := [.lit (.bool false)], args := [d1, d2, d3] }
  | _ => none }
def FnExactPairSeriesWrongFalsely : Prop := fnExactPairSeriesRow.holds Try.pinned (OpenSpec.ofChange fnExactPairSeriesWrong)

/-- 'laws.FnExactClassSum': WHATEVER THE INPUT: true; the input reads as it did. -/
def fnExactClassSumSpec : ChangeSpec := { name := "fnExactClassSum", fn := fun _ => fun
  | [d1, d2] => { results := [.lit (.bool true)], args := [d1, d2] }
  | _ => none }
def fnExactClassSumRow : OpenClaim := { program := "ytbjaekddgkdhcaa", sum := "055398a9ca9fb35562f09459c0580ad0ef0232454e27ac6e2b90bddb184fcc92", func := "loop.example/g01066/laws.FnExactClassSum", spec := "fnExactClassSum", plainKeys := false, apart := false }
def FnExactClassSumSaid : Prop := fnExactClassSumRow.holds Try.pinned (OpenSpec.ofChange fnExactClassSumSpec)

/-- ITS FALSE NEIGHBOUR: 'it returns false'. Refute it at one input. -/
def fnExactClassSumWrong : ChangeSpec := { name := "fnExactClassSum", fn := fun _ => fun
  | [d1, d2] => { results := [.lit (.bool false)], args := [d1, d2] }
  | _ => none }
def FnExactClassSumWrongFalsely : Prop := fnExactClassSumRow.holds Try.pinned (OpenSpec.ofChange fnExactClassSumWrong)

/-- 'laws.FnExactFormsWithSeries': WHATEVER THE INPUT: true; the input reads as it did. -/
def fnExactFormsWithSeriesSpec : ChangeSpec := { name := "fnExactFormsWithSeries", fn := fun _ => fun
  | [d1, d2] => { results := [.lit (.bool true)], args := [d1, d2] }
  | _ => none }
def fnExactFormsWithSeriesRow : OpenClaim := { program := "ytbjaekddgkdhcaa", sum := "055398a9ca9fb35562f09459c0580ad0ef0232454e27ac6e2b90bddb184fcc92", func := "loop.example/g01066/laws.FnExactFormsWithSeries", spec := "fnExactFormsWithSeries", unfollowed := true, recurses := true, plainKeys := false, apart := false }
def FnExactFormsWithSeriesSaid : Prop := fnExactFormsWithSeriesRow.holds Try.pinned (OpenSpec.ofChange fnExactFormsWithSeriesSpec)

/-- ITS FALSE NEIGHBOUR: 'it returns false'. Refute it at one input. -/
def fnExactFormsWithSeriesWrong : ChangeSpec := { name := "fnExactFormsWithSeries", fn := fun _ => fun
  | [d1, d2] => { results := [.lit (.bool false)], args := [d1, d2] }
  | _ => none }
def FnExactFormsWithSeriesWrongFalsely : Prop := fnExactFormsWithSeriesRow.holds Try.pinned (OpenSpec.ofChange fnExactFormsWithSeriesWrong)

/-- 'laws.FnExactPrimitiveValues': WHATEVER THE INPUT: true; the input reads as it did. -/
def fnExactPrimitiveValuesSpec : ChangeSpec := { name := "fnExactPrimitiveValues", fn := fun _ => fun
  | [d1, d2] => { results := [.lit (.bool true)], args := [d1, d2] }
  | _ => none }
def fnExactPrimitiveValuesRow : OpenClaim := { program := "ytbjaekddgkdhcaa", sum := "055398a9ca9fb35562f09459c0580ad0ef0232454e27ac6e2b90bddb184fcc92", func := "loop.example/g01066/laws.FnExactPrimitiveValues", spec := "fnExactPrimitiveValues", plainKeys := false, apart := false }
def FnExactPrimitiveValuesSaid : Prop := fnExactPrimitiveValuesRow.holds Try.pinned (OpenSpec.ofChange fnExactPrimitiveValuesSpec)

/-- ITS FALSE NEIGHBOUR: 'it returns false'. Refute it at one input. -/
def fnExactPrimitiveValuesWrong : ChangeSpec := { name := "fnExactPrimitiveValues", fn := fun _ => fun
  | [d1, d2] => { results := [.lit (.bool false)], args := [d1, d2] }
  | _ => none }
def FnExactPrimitiveValuesWrongFalsely : Prop := fnExactPrimitiveValuesRow.holds Try.pinned (OpenSpec.ofChange fnExactPrimitiveValuesWrong)

/-- 'laws.FnExactNeighbourMatrix': WHATEVER THE INPUT: true; the input reads as it did. -/
def fnExactNeighbourMatrixSpec : ChangeSpec := { name := "fnExactNeighbourMatrix", fn := fun _ => fun
  | [d1, d2] => { results := [.lit (.bool true)], args := [d1, d2] }
  | _ => none }
def fnExactNeighbourMatrixRow : OpenClaim := { program := "ytbjaekddgkdhcaa", sum := "055398a9ca9fb35562f09459c0580ad0ef0232454e27ac6e2b90bddb184fcc92", func := "loop.example/g01066/laws.FnExactNeighbourMatrix", spec := "fnExactNeighbourMatrix", plainKeys := false, apart := false }
def FnExactNeighbourMatrixSaid : Prop := fnExactNeighbourMatrixRow.holds Try.pinned (OpenSpec.ofChange fnExactNeighbourMatrixSpec)

/-- ITS FALSE NEIGHBOUR: 'it returns false'. Refute it at one input. -/
def fnExactNeighbourMatrixWrong : ChangeSpec := { name := "fnExactNeighbourMatrix", fn := fun _ => fun
  | [d1, d2] => { results := [.lit (.bool false)], args := [d1, d2] }
  | _ => none }
def FnExactNeighbourMatrixWrongFalsely : Prop := fnExactNeighbourMatrixRow.holds Try.pinned (OpenSpec.ofChange fnExactNeighbourMatrixWrong)

/-- 'laws.FnCornacchia': WHATEVER THE INPUT: true; the input reads as it did. -/
def fnCornacchiaSpec : ChangeSpec := { name := "fnCornacchia", fn := fun _ => fun
  | [d1, d2] => { results := [.lit (.bool true)], args := [d1, d2] }
  | _ => none }
def fnCornacchiaRow : OpenClaim := { program := "ytbjaekddgkdhcaa", sum := "055398a9ca9fb35562f09459c0580ad0ef0232454e27ac6e2b90bddb184fcc92", func := "loop.example/g01066/laws.FnCornacchia", spec := "fnCornacchia", unfollowed := true, recurses := true, plainKeys := false, apart := false }
def FnCornacchiaSaid : Prop := fnCornacchiaRow.holds Try.pinned (OpenSpec.ofChange fnCornacchiaSpec)

/-- ITS FALSE NEIGHBOUR: 'it returns false'. Refute it at one input. -/
def fnCornacchiaWrong : ChangeSpec := { name := "fnCornacchia", fn := fun _ => fun
  | [d1, d2] => { results := [.lit (.bool false)], args := [d1, d2] }
  | _ => none }
def FnCornacchiaWrongFalsely : Prop := fnCornacchiaRow.holds Try.pinned (OpenSpec.ofChange fnCornacchiaWrong)

/-- 'laws.FnReduce': WHATEVER THE INPUT: true; the input reads as it did. -/
def fnReduceSpec : ChangeSpec := { name := "fnReduce", fn := fun _ => fun
  | [d1, d2] => { results := [.lit (.bool true)], args := [d1, d2] }
  | _ => none }
def fnReduceRow : OpenClaim := { program := "ytbjaekddgkdhcaa", sum := "055398a9ca9fb35562f09459c0580ad0ef0232454e27ac6e2b90bddb184fcc92", func := "loop.example/g01066/laws.FnReduce", spec := "fnReduce", plainKeys := false, apart := false }
def FnReduceSaid : Prop := fnReduceRow.holds Try.pinned (OpenSpec.ofChange fnReduceSpec)

/-- ITS FALSE NEIGHBOUR: 'it returns false'. Refute it at one input. -/
def fnReduceWrong : ChangeSpec := { name := "fnReduce", fn := fun _ => fun
  | [d1, d2] => { results := [.lit (.bool false)], args := [d1, d2] }
  | _ => none }
def FnReduceWrongFalsely : Prop := fnReduceRow.holds Try.pinned (OpenSpec.ofChange fnReduceWrong)

/-- 'laws.FnExactReductionWord': WHATEVER THE INPUT: true; the input reads as it did. -/
def fnExactReductionWordSpec : ChangeSpec := { name := "fnExactReductionWord", fn := fun _ => fun
  | [d] => { results := [.lit (.bool true)], args := [d] }
  | _ => none }
def fnExactReductionWordRow : OpenClaim := { program := "ytbjaekddgkdhcaa", sum := "055398a9ca9fb35562f09459c0580ad0ef0232454e27ac6e2b90bddb184fcc92", func := "loop.example/g01066/laws.FnExactReductionWord", spec := "fnExactReductionWord", plainKeys := false, apart := false }
def FnExactReductionWordSaid : Prop := fnExactReductionWordRow.holds Try.pinned (OpenSpec.ofChange fnExactReductionWordSpec)

/-- ITS FALSE NEIGHBOUR: 'it returns false'. Refute it at one input. -/
def fnExactReductionWordWrong : ChangeSpec := { name := "fnExactReductionWord", fn := fun _ => fun
  | [d] => { results := [.lit (.bool false)], args := [d] }
  | _ => none }
def FnExactReductionWordWrongFalsely : Prop := fnExactReductionWordRow.holds Try.pinned (OpenSpec.ofChange fnExactReductionWordWrong)

/-- 'laws.FnExactWalkMatrix': WHATEVER THE INPUT: true; the input reads as it did. -/
def fnExactWalkMatrixSpec : ChangeSpec := { name := "fnExactWalkMatrix", fn := fun _ => fun
  | [d1, d2, d3] => { results := [.lit (.bool true)], args := [d1, d2, d3] }
  | _ => none }
def fnExactWalkMatrixRow : OpenClaim := { program := "ytbjaekddgkdhcaa", sum := "055398a9ca9fb35562f09459c0580ad0ef0232454e27ac6e2b90bddb184fcc92", func := "loop.example/g01066/laws.FnExactWalkMatrix", spec := "fnExactWalkMatrix", plainKeys := false, apart := false }
def FnExactWalkMatrixSaid : Prop := fnExactWalkMatrixRow.holds Try.pinned (OpenSpec.ofChange fnExactWalkMatrixSpec)

/-- ITS FALSE NEIGHBOUR: 'it returns false'. Refute it at one input. -/
def fnExactWalkMatrixWrong : ChangeSpec := { name := "fnExactWalkMatrix", fn := fun _ => fun
  | [d1, d2, d3] => { results := [.lit (.bool false)], args := [d1, d2, d3] }
  | _ => none }
def FnExactWalkMatrixWrongFalsely : Prop := fnExactWalkMatrixRow.holds Try.pinned (OpenSpec.ofChange fnExactWalkMatrixWrong)

/-- 'laws.FnExactClassNumberByConductor': WHATEVER THE INPUT: true; the input reads as it did. -/
def fnExactClassNumberByConductorSpec : ChangeSpec := { name := "fnExactClassNumberByConductor", fn := fun _ => fun
  | [d] => { results := [.lit (.bool true)], args := [d] }
  | _ => none }
def fnExactClassNumberByConductorRow : OpenClaim := { program := "ytbjaekddgkdhcaa", sum := "055398a9ca9fb35562f09459c0580ad0ef0232454e27ac6e2b90bddb184fcc92", func := "loop.example/g01066/laws.FnExactClassNumberByConductor", spec := "fnExactClassNumberByConductor", plainKeys := false, apart := false }
def FnExactClassNumberByConductorSaid : Prop := fnExactClassNumberByConductorRow.holds Try.pinned (OpenSpec.ofChange fnExactClassNumberByConductorSpec)

/-- ITS FALSE NEIGHBOUR: 'it returns false'. Refute it at one input. -/
def fnExactClassNumberByConductorWrong : ChangeSpec := { name := "fnExactClassNumberByConductor", fn := fun _ => fun
  | [d] => { results := [.lit (.bool false)], args := [d] }
  | _ => none }
def FnExactClassNumberByConductorWrongFalsely : Prop := fnExactClassNumberByConductorRow.holds Try.pinned (OpenSpec.ofChange fnExactClassNumberByConductorWrong)

/- THE SECOND FORM. 'bulk': how many values and letters a reading holds, each counted each time it is reached (what is shared counts as often as it is met; a slice's spare places count too). A statement '..UptoSaid' is the law's where the arguments, and the package variables that the reading takes, are together of bulk at most 1048576: NARROWER than '..Said'. Prove '..Said' where nothing that the law and all that it calls make is longer than what came in: it says more and counts as full. Else prove '..UptoSaid'. A law counts once. -/
mutual
def uptoBulk {H : Type} : DataW H → Nat
  | .lit (.string bytes) => bytes.length + 1
  | .lit _ => 1
  | .nil => 1
  | .ptr d => uptoBulk d + 1
  | .slice elems spare => uptoBulkAll elems + uptoBulkAll spare + 1
  | .agg parts => uptoBulkAll parts + 1
  | .iface _ d => uptoBulk d + 1
  | .map entries => uptoBulkEntries entries + 1
  | .held _ => 1
def uptoBulkAll {H : Type} : List (DataW H) → Nat
  | [] => 0
  | d :: r => uptoBulk d + uptoBulkAll r
def uptoBulkEntries {H : Type} : List (Lit × DataW H) → Nat
  | [] => 0
  | x :: r => uptoBulkEntry x + uptoBulkEntries r
def uptoBulkEntry {H : Type} : Lit × DataW H → Nat
  | (.string bytes, d) => bytes.length + uptoBulk d + 1
  | (_, d) => uptoBulk d + 1
 end
def uptoSmall : (H : Type) → List (DataW H) → Bool := fun _ ds => decide (uptoBulkAll ds ≤ 1048576)
def OpenSpec.upto (s : _root_.Go.ChangeSpec) : _root_.Go.OpenSpec := { _root_.Go.OpenSpec.ofChange s with cond := some uptoSmall }

/-- 'laws.FnExactThetaSeries', WHERE WHAT IT READS IS OF BULK AT MOST 1048576: true; the input reads as it did. -/
def fnExactThetaSeriesUptoRow : OpenClaim := { program := "ytbjaekddgkdhcaa", sum := "055398a9ca9fb35562f09459c0580ad0ef0232454e27ac6e2b90bddb184fcc92", func := "loop.example/g01066/laws.FnExactThetaSeries", spec := "fnExactThetaSeries", plainKeys := false, apart := false, narrowed := true }
def FnExactThetaSeriesUptoSaid : Prop := fnExactThetaSeriesUptoRow.holds Try.pinned (OpenSpec.upto fnExactThetaSeriesSpec)

/-- 'laws.FnExactFirstDifference', WHERE WHAT IT READS IS OF BULK AT MOST 1048576: true; the input reads as it did. -/
def fnExactFirstDifferenceUptoRow : OpenClaim := { program := "ytbjaekddgkdhcaa", sum := "055398a9ca9fb35562f09459c0580ad0ef0232454e27ac6e2b90bddb184fcc92", func := "loop.example/g01066/laws.FnExactFirstDifference", spec := "fnExactFirstDifference", plainKeys := false, apart := false, narrowed := true }
def FnExactFirstDifferenceUptoSaid : Prop := fnExactFirstDifferenceUptoRow.holds Try.pinned (OpenSpec.upto fnExactFirstDifferenceSpec)

/-- 'laws.FnExactPairSeries', WHERE WHAT IT READS IS OF BULK AT MOST 1048576: true; the input reads as it did. -/
def fnExactPairSeriesUptoRow : OpenClaim := { program := "ytbjaekddgkdhcaa", sum := "055398a9ca9fb35562f09459c0580ad0ef0232454e27ac6e2b90bddb184fcc92", func := "loop.example/g01066/laws.FnExactPairSeries", spec := "fnExactPairSeries", plainKeys := false, apart := false, narrowed := true }
def FnExactPairSeriesUptoSaid : Prop := fnExactPairSeriesUptoRow.holds Try.pinned (OpenSpec.upto fnExactPairSeriesSpec)

/-- 'laws.FnExactClassSum', WHERE WHAT IT READS IS OF BULK AT MOST 1048576: true; the input reads as it did. -/
def fnExactClassSumUptoRow : OpenClaim := { program := "ytbjaekddgkdhcaa", sum := "055398a9ca9fb35562f09459c0580ad0ef0232454e27ac6e2b90bddb184fcc92", func := "loop.example/g01066/laws.FnExactClassSum", spec := "fnExactClassSum", plainKeys := false, apart := false, narrowed := true }
def FnExactClassSumUptoSaid : Prop := fnExactClassSumUptoRow.holds Try.pinned (OpenSpec.upto fnExactClassSumSpec)

/-- 'laws.FnExactFormsWithSeries', WHERE WHAT IT READS IS OF BULK AT MOST 1048576: true; the input reads as it did. -/
def fnExactFormsWithSeriesUptoRow : OpenClaim := { program := "ytbjaekddgkdhcaa", sum := "055398a9ca9fb35562f09459c0580ad0ef0232454e27ac6e2b90bddb184fcc92", func := "loop.example/g01066/laws.FnExactFormsWithSeries", spec := "fnExactFormsWithSeries", unfollowed := true, recurses := true, plainKeys := false, apart := false, narrowed := true }
def FnExactFormsWithSeriesUptoSaid : Prop := fnExactFormsWithSeriesUptoRow.holds Try.pinned (OpenSpec.upto fnExactFormsWithSeriesSpec)

/-- 'laws.FnExactPrimitiveValues', WHERE WHAT IT READS IS OF BULK AT MOST 1048576: true; the input reads as it did. -/
def fnExactPrimitiveValuesUptoRow : OpenClaim := { program := "ytbjaekddgkdhcaa", sum := "055398a9ca9fb35562f09459c0580ad0ef0232454e27ac6e2b90bddb184fcc92", func := "loop.example/g01066/laws.FnExactPrimitiveValues", spec := "fnExactPrimitiveValues", plainKeys := false, apart := false, narrowed := true }
def FnExactPrimitiveValuesUptoSaid : Prop := fnExactPrimitiveValuesUptoRow.holds Try.pinned (OpenSpec.upto fnExactPrimitiveValuesSpec)

/-- 'laws.FnExactNeighbourMatrix', WHERE WHAT IT READS IS OF BULK AT MOST 1048576: true; the input reads as it did. -/
def fnExactNeighbourMatrixUptoRow : OpenClaim := { program := "ytbjaekddgkdhcaa", sum := "055398a9ca9fb35562f09459c0580ad0ef0232454e27ac6e2b90bddb184fcc92", func := "loop.example/g01066/laws.FnExactNeighbourMatrix", spec := "fnExactNeighbourMatrix", plainKeys := false, apart := false, narrowed := true }
def FnExactNeighbourMatrixUptoSaid : Prop := fnExactNeighbourMatrixUptoRow.holds Try.pinned (OpenSpec.upto fnExactNeighbourMatrixSpec)

/-- 'laws.FnCornacchia', WHERE WHAT IT READS IS OF BULK AT MOST 1048576: true; the input reads as it did. -/
def fnCornacchiaUptoRow : OpenClaim := { program := "ytbjaekddgkdhcaa", sum := "055398a9ca9fb35562f09459c0580ad0ef0232454e27ac6e2b90bddb184fcc92", func := "loop.example/g01066/laws.FnCornacchia", spec := "fnCornacchia", unfollowed := true, recurses := true, plainKeys := false, apart := false, narrowed := true }
def FnCornacchiaUptoSaid : Prop := fnCornacchiaUptoRow.holds Try.pinned (OpenSpec.upto fnCornacchiaSpec)

/-- 'laws.FnReduce', WHERE WHAT IT READS IS OF BULK AT MOST 1048576: true; the input reads as it did. -/
def fnReduceUptoRow : OpenClaim := { program := "ytbjaekddgkdhcaa", sum := "055398a9ca9fb35562f09459c0580ad0ef0232454e27ac6e2b90bddb184fcc92", func := "loop.example/g01066/laws.FnReduce", spec := "fnReduce", plainKeys := false, apart := false, narrowed := true }
def FnReduceUptoSaid : Prop := fnReduceUptoRow.holds Try.pinned (OpenSpec.upto fnReduceSpec)

/-- 'laws.FnExactReductionWord', WHERE WHAT IT READS IS OF BULK AT MOST 1048576: true; the input reads as it did. -/
def fnExactReductionWordUptoRow : OpenClaim := { program := "ytbjaekddgkdhcaa", sum := "055398a9ca9fb35562f09459c0580ad0ef0232454e27ac6e2b90bddb184fcc92", func := "loop.example/g01066/laws.FnExactReductionWord", spec := "fnExactReductionWord", plainKeys := false, apart := false, narrowed := true }
def FnExactReductionWordUptoSaid : Prop := fnExactReductionWordUptoRow.holds Try.pinned (OpenSpec.upto fnExactReductionWordSpec)

/-- 'laws.FnExactWalkMatrix', WHERE WHAT IT READS IS OF BULK AT MOST 1048576: true; the input reads as it did. -/
def fnExactWalkMatrixUptoRow : OpenClaim := { program := "ytbjaekddgkdhcaa", sum := "055398a9ca9fb35562f09459c0580ad0ef0232454e27ac6e2b90bddb184fcc92", func := "loop.example/g01066/laws.FnExactWalkMatrix", spec := "fnExactWalkMatrix", plainKeys := false, apart := false, narrowed := true }
def FnExactWalkMatrixUptoSaid : Prop := fnExactWalkMatrixUptoRow.holds Try.pinned (OpenSpec.upto fnExactWalkMatrixSpec)

/-- 'laws.FnExactClassNumberByConductor', WHERE WHAT IT READS IS OF BULK AT MOST 1048576: true; the input reads as it did. -/
def fnExactClassNumberByConductorUptoRow : OpenClaim := { program := "ytbjaekddgkdhcaa", sum := "055398a9ca9fb35562f09459c0580ad0ef0232454e27ac6e2b90bddb184fcc92", func := "loop.example/g01066/laws.FnExactClassNumberByConductor", spec := "fnExactClassNumberByConductor", plainKeys := false, apart := false, narrowed := true }
def FnExactClassNumberByConductorUptoSaid : Prop := fnExactClassNumberByConductorUptoRow.holds Try.pinned (OpenSpec.upto fnExactClassNumberByConductorSpec)

end Rows
end Go.Proofs.Ytbjaekddgkdhcaa
