/-
  No cell of these rows narrows 'for every input' (looked for: loops, veiled, ifaces, maps, wideKeys, modest, calm, conditions, laid).
  DERIVED. THE GIVEN ROWS OF THIS SEAT. 12 by the template 'for every input the law returns true; each argument reads behind the call as it read before'; 0 by the template 'total and deterministic' (their statements: YtcckldlilmbinaaTotals.lean).
  GIVEN WITH THE SEED: the statements are not yours to turn. If you find one false, say at which input.
  Laid BY PROGRAM, IN A SANDBOX (cutbox-rows.mjs): the forced cells as the released guide's own fill.sh prints them over the translation fc65e46971c4516a… (all of the seat's roots in one cut). By AI agents, Wed Nov 11 2026. No macro, syntax, notation, axiom, sorry.
-/
import Derived.Test.YtcckldlilmbinaaChecked
import GoSem.Claim
import GoSem.ClaimJoined
import GoSem.ClaimMapViews
import Derived.JoinedTies
import Derived.KernelRfl
namespace Go.Proofs.Ytcckldlilmbinaa
/- THE CELL 'sum', in the pinned program and in every row, IS THE sha256 OF THE DUMP (.gsa) THAT YtcckldlilmbinaaProg.lean LOADS. Nothing in Lean hashes anything: it is a label: what it is worth is what the hold of that sum in a sandbox is worth. -/
noncomputable def Try.pinned : Pinned := { name := "ytcckldlilmbinaa", sum := "fc65e46971c4516a976b033cf80c1fa834838510e81f431b1e689834a0ed55bf", checked := Try.checked }
namespace Rows
def none {H : Type} : Left H := { results := [], args := [] }

/-- 'laws.FnExactAutomorphs': WHATEVER THE INPUT: true; the input reads as it did. -/
def fnExactAutomorphsSpec : ChangeSpec := { name := "fnExactAutomorphs", fn := fun _ => fun
  | [d] => { results := [.lit (.bool true)], args := [d] }
  | _ => none }
def fnExactAutomorphsRow : OpenClaim := { program := "ytcckldlilmbinaa", sum := "fc65e46971c4516a976b033cf80c1fa834838510e81f431b1e689834a0ed55bf", func := "loop.example/g01066/laws.FnExactAutomorphs", spec := "fnExactAutomorphs", apart := false }
def FnExactAutomorphsSaid : Prop := fnExactAutomorphsRow.holds Try.pinned (OpenSpec.ofChange fnExactAutomorphsSpec)

/-- ITS FALSE NEIGHBOUR: 'it returns false'. Refute it at one input. -/
def fnExactAutomorphsWrong : ChangeSpec := { name := "fnExactAutomorphs", fn := fun _ => fun
  | [d] => { results := [.lit (.bool false)], args := [d] }
  | _ => none }
def FnExactAutomorphsWrongFalsely : Prop := fnExactAutomorphsRow.holds Try.pinned (OpenSpec.ofChange fnExactAutomorphsWrong)

/-- 'laws.FnExactReductionWord': WHATEVER THE INPUT: true; the input reads as it did. -/
def fnExactReductionWordSpec : ChangeSpec := { name := "fnExactReductionWord", fn := fun _ => fun
  | [d] => { results := [.lit (.bool true)], args := [d] }
  | _ => none }
def fnExactReductionWordRow : OpenClaim := { program := "ytcckldlilmbinaa", sum := "fc65e46971c4516a976b033cf80c1fa834838510e81f431b1e689834a0ed55bf", func := "loop.example/g01066/laws.FnExactReductionWord", spec := "fnExactReductionWord", apart := false }
def FnExactReductionWordSaid : Prop := fnExactReductionWordRow.holds Try.pinned (OpenSpec.ofChange fnExactReductionWordSpec)

/-- ITS FALSE NEIGHBOUR: 'it returns false'. Refute it at one input. -/
def fnExactReductionWordWrong : ChangeSpec := { name := "fnExactReductionWord", fn := fun _ => fun
  | [d] => { results := [.lit (.bool false)], args := [d] }
  | _ => none }
def FnExactReductionWordWrongFalsely : Prop := fnExactReductionWordRow.holds Try.pinned (OpenSpec.ofChange fnExactReductionWordWrong)

/-- 'laws.FnExactPairSeries': WHATEVER THE INPUT: true; the input reads as it did. -/
def fnExactPairSeriesSpec : ChangeSpec := { name := "fnExactPairSeries", fn := fun _ => fun
  | [d1, d2, d3] => { results := [.lit (.bool true)], args := [d1, d2, d3] }
  | _ => none }
def fnExactPairSeriesRow : OpenClaim := { program := "ytcckldlilmbinaa", sum := "fc65e46971c4516a976b033cf80c1fa834838510e81f431b1e689834a0ed55bf", func := "loop.example/g01066/laws.FnExactPairSeries", spec := "fnExactPairSeries", apart := false }
def FnExactPairSeriesSaid : Prop := fnExactPairSeriesRow.holds Try.pinned (OpenSpec.ofChange fnExactPairSeriesSpec)

/-- ITS FALSE NEIGHBOUR: 'it returns false'. Refute it at one input. -/
def fnExactPairSeriesWrong : ChangeSpec := { name := "fnExactPairSeries", fn := fun _ => fun
  | [d1, d2, d3] => { results := [.lit (.bool false)], args := [d1, d2, d3] }
  | _ => none }
def FnExactPairSeriesWrongFalsely : Prop := fnExactPairSeriesRow.holds Try.pinned (OpenSpec.ofChange fnExactPairSeriesWrong)

/-- 'laws.FnExactLeastValues': WHATEVER THE INPUT: true; the input reads as it did. -/
def fnExactLeastValuesSpec : ChangeSpec := { name := "fnExactLeastValues", fn := fun _ => fun
  | [d1, d2] => { results := [.lit (.bool true)], args := [d1, d2] }
  | _ => none }
def fnExactLeastValuesRow : OpenClaim := { program := "ytcckldlilmbinaa", sum := "fc65e46971c4516a976b033cf80c1fa834838510e81f431b1e689834a0ed55bf", func := "loop.example/g01066/laws.FnExactLeastValues", spec := "fnExactLeastValues", apart := false }
def FnExactLeastValuesSaid : Prop := fnExactLeastValuesRow.holds Try.pinned (OpenSpec.ofChange fnExactLeastValuesSpec)

/-- ITS FALSE NEIGHBOUR: 'it returns false'. Refute it at one input. -/
def fnExactLeastValuesWrong : ChangeSpec := { name := "fnExactLeastValues", fn := fun _ => fun
  | [d1, d2] => { results := [.lit (.bool false)], args := [d1, d2] }
  | _ => none }
def FnExactLeastValuesWrongFalsely : Prop := fnExactLeastValuesRow.holds Try.pinned (OpenSpec.ofChange fnExactLeastValuesWrong)

/-- 'laws.FnExactSublatticeForms': WHATEVER THE INPUT: true; the input reads as it did. -/
def fnExactSublatticeFormsSpec : ChangeSpec := { name := "fnExactSublatticeForms", fn := fun _ => fun
  | [d1, d2] => { results := [.lit (.bool true)], args := [d1, d2] }
  | _ => none }
def fnExactSublatticeFormsRow : OpenClaim := { program := "ytcckldlilmbinaa", sum := "fc65e46971c4516a976b033cf80c1fa834838510e81f431b1e689834a0ed55bf", func := "loop.example/g01066/laws.FnExactSublatticeForms", spec := "fnExactSublatticeForms", apart := false }
def FnExactSublatticeFormsSaid : Prop := fnExactSublatticeFormsRow.holds Try.pinned (OpenSpec.ofChange fnExactSublatticeFormsSpec)

/-- ITS FALSE NEIGHBOUR: 'it returns false'. Refute it at one input. -/
def fnExactSublatticeFormsWrong : ChangeSpec := { name := "fnExactSublatticeForms", fn := fun _ => fun
  | [d1, d2] => { results := [.lit (.bool false)], args := [d1, d2] }
  | _ => none }
def FnExactSublatticeFormsWrongFalsely : Prop := fnExactSublatticeFormsRow.holds Try.pinned (OpenSpec.ofChange fnExactSublatticeFormsWrong)

/-- 'laws.FnExactPrimitiveValues': WHATEVER THE INPUT: true; the input reads as it did. -/
def fnExactPrimitiveValuesSpec : ChangeSpec := { name := "fnExactPrimitiveValues", fn := fun _ => fun
  | [d1, d2] => { results := [.lit (.bool true)], args := [d1, d2] }
  | _ => none }
def fnExactPrimitiveValuesRow : OpenClaim := { program := "ytcckldlilmbinaa", sum := "fc65e46971c4516a976b033cf80c1fa834838510e81f431b1e689834a0ed55bf", func := "loop.example/g01066/laws.FnExactPrimitiveValues", spec := "fnExactPrimitiveValues", apart := false }
def FnExactPrimitiveValuesSaid : Prop := fnExactPrimitiveValuesRow.holds Try.pinned (OpenSpec.ofChange fnExactPrimitiveValuesSpec)

/-- ITS FALSE NEIGHBOUR: 'it returns false'. Refute it at one input. -/
def fnExactPrimitiveValuesWrong : ChangeSpec := { name := "fnExactPrimitiveValues", fn := fun _ => fun
  | [d1, d2] => { results := [.lit (.bool false)], args := [d1, d2] }
  | _ => none }
def FnExactPrimitiveValuesWrongFalsely : Prop := fnExactPrimitiveValuesRow.holds Try.pinned (OpenSpec.ofChange fnExactPrimitiveValuesWrong)

/-- 'laws.FnExactLeastSolution': WHATEVER THE INPUT: true; the input reads as it did. -/
def fnExactLeastSolutionSpec : ChangeSpec := { name := "fnExactLeastSolution", fn := fun _ => fun
  | [d] => { results := [.lit (.bool true)], args := [d] }
  | _ => none }
def fnExactLeastSolutionRow : OpenClaim := { program := "ytcckldlilmbinaa", sum := "fc65e46971c4516a976b033cf80c1fa834838510e81f431b1e689834a0ed55bf", func := "loop.example/g01066/laws.FnExactLeastSolution", spec := "fnExactLeastSolution", apart := false }
def FnExactLeastSolutionSaid : Prop := fnExactLeastSolutionRow.holds Try.pinned (OpenSpec.ofChange fnExactLeastSolutionSpec)

/-- ITS FALSE NEIGHBOUR: 'it returns false'. Refute it at one input. -/
def fnExactLeastSolutionWrong : ChangeSpec := { name := "fnExactLeastSolution", fn := fun _ => fun
  | [d] => { results := [.lit (.bool false)], args := [d] }
  | _ => none }
def FnExactLeastSolutionWrongFalsely : Prop := fnExactLeastSolutionRow.holds Try.pinned (OpenSpec.ofChange fnExactLeastSolutionWrong)

/-- 'laws.FnExactFirstPrime': WHATEVER THE INPUT: true; the input reads as it did. -/
def fnExactFirstPrimeSpec : ChangeSpec := { name := "fnExactFirstPrime", fn := fun _ => fun
  | [d] => { results := [.lit (.bool true)], args := [d] }
  | _ => none }
def fnExactFirstPrimeRow : OpenClaim := { program := "ytcckldlilmbinaa", sum := "fc65e46971c4516a976b033cf80c1fa834838510e81f431b1e689834a0ed55bf", func := "loop.example/g01066/laws.FnExactFirstPrime", spec := "fnExactFirstPrime", apart := false }
def FnExactFirstPrimeSaid : Prop := fnExactFirstPrimeRow.holds Try.pinned (OpenSpec.ofChange fnExactFirstPrimeSpec)

/-- ITS FALSE NEIGHBOUR: 'it returns false'. Refute it at one input. -/
def fnExactFirstPrimeWrong : ChangeSpec := { name := "fnExactFirstPrime", fn := fun _ => fun
  | [d] => { results := [.lit (.bool false)], args := [d] }
  | _ => none }
def FnExactFirstPrimeWrongFalsely : Prop := fnExactFirstPrimeRow.holds Try.pinned (OpenSpec.ofChange fnExactFirstPrimeWrong)

/-- 'laws.FnExactSublatticeClasses': WHATEVER THE INPUT: true; the input reads as it did. -/
def fnExactSublatticeClassesSpec : ChangeSpec := { name := "fnExactSublatticeClasses", fn := fun _ => fun
  | [d1, d2] => { results := [.lit (.bool true)], args := [d1, d2] }
  | _ => none }
def fnExactSublatticeClassesRow : OpenClaim := { program := "ytcckldlilmbinaa", sum := "fc65e46971c4516a976b033cf80c1fa834838510e81f431b1e689834a0ed55bf", func := "loop.example/g01066/laws.FnExactSublatticeClasses", spec := "fnExactSublatticeClasses", apart := false }
def FnExactSublatticeClassesSaid : Prop := fnExactSublatticeClassesRow.holds Try.pinned (OpenSpec.ofChange fnExactSublatticeClassesSpec)

/-- ITS FALSE NEIGHBOUR: 'it returns false'. Refute it at one input. -/
def fnExactSublatticeClassesWrong : ChangeSpec := { name := "fnExactSublatticeClasses", fn := fun _ => fun
  | [d1, d2] => { results := [.lit (.bool false)], args := [d1, d2] }
  | _ => none }
def FnExactSublatticeClassesWrongFalsely : Prop := fnExactSublatticeClassesRow.holds Try.pinned (OpenSpec.ofChange fnExactSublatticeClassesWrong)

/-- 'laws.FnExactNeighbourClasses': WHATEVER THE INPUT: true; the input reads as it did. -/
def fnExactNeighbourClassesSpec : ChangeSpec := { name := "fnExactNeighbourClasses", fn := fun _ => fun
  | [d1, d2] => { results := [.lit (.bool true)], args := [d1, d2] }
  | _ => none }
def fnExactNeighbourClassesRow : OpenClaim := { program := "ytcckldlilmbinaa", sum := "fc65e46971c4516a976b033cf80c1fa834838510e81f431b1e689834a0ed55bf", func := "loop.example/g01066/laws.FnExactNeighbourClasses", spec := "fnExactNeighbourClasses", apart := false }
def FnExactNeighbourClassesSaid : Prop := fnExactNeighbourClassesRow.holds Try.pinned (OpenSpec.ofChange fnExactNeighbourClassesSpec)

/-- ITS FALSE NEIGHBOUR: 'it returns false'. Refute it at one input. -/
def fnExactNeighbourClassesWrong : ChangeSpec := { name := "fnExactNeighbourClasses", fn := fun _ => fun
  | [d1, d2] => { results := [.lit (.bool false)], args := [d1, d2] }
  | _ => none }
def FnExactNeighbourClassesWrongFalsely : Prop := fnExactNeighbourClassesRow.holds Try.pinned (OpenSpec.ofChange fnExactNeighbourClassesWrong)

/-- 'laws.FnExactUnitedForms': WHATEVER THE INPUT: true; the input reads as it did. -/
def fnExactUnitedFormsSpec : ChangeSpec := { name := "fnExactUnitedForms", fn := fun _ => fun
  | [d1, d2] => { results := [.lit (.bool true)], args := [d1, d2] }
  | _ => none }
def fnExactUnitedFormsRow : OpenClaim := { program := "ytcckldlilmbinaa", sum := "fc65e46971c4516a976b033cf80c1fa834838510e81f431b1e689834a0ed55bf", func := "loop.example/g01066/laws.FnExactUnitedForms", spec := "fnExactUnitedForms", apart := false }
def FnExactUnitedFormsSaid : Prop := fnExactUnitedFormsRow.holds Try.pinned (OpenSpec.ofChange fnExactUnitedFormsSpec)

/-- ITS FALSE NEIGHBOUR: 'it returns false'. Refute it at one input. -/
def fnExactUnitedFormsWrong : ChangeSpec := { name := "fnExactUnitedForms", fn := fun _ => fun
  | [d1, d2] => { results := [.lit (.bool false)], args := [d1, d2] }
  | _ => none }
def FnExactUnitedFormsWrongFalsely : Prop := fnExactUnitedFormsRow.holds Try.pinned (OpenSpec.ofChange fnExactUnitedFormsWrong)

/-- 'laws.FnExactClassSum': WHATEVER THE INPUT: true; the input reads as it did. -/
def fnExactClassSumSpec : ChangeSpec := { name := "fnExactClassSum", fn := fun _ => fun
  | [d1, d2] => { results := [.lit (.bool true)], args := [d1, d2] }
  | _ => none }
def fnExactClassSumRow : OpenClaim := { program := "ytcckldlilmbinaa", sum := "fc65e46971c4516a976b033cf80c1fa834838510e81f431b1e689834a0ed55bf", func := "loop.example/g01066/laws.FnExactClassSum", spec := "fnExactClassSum", apart := false }
def FnExactClassSumSaid : Prop := fnExactClassSumRow.holds Try.pinned (OpenSpec.ofChange fnExactClassSumSpec)

/-- ITS FALSE NEIGHBOUR: 'it returns false'. Refute it at one input. -/
def fnExactClassSumWrong : ChangeSpec := { name := "fnExactClassSum", fn := fun _ => fun
  | [d1, d2] => { results := [.lit (.bool false)], args := [d1, d2] }
  | _ => none }
def FnExactClassSumWrongFalsely : Prop := fnExactClassSumRow.holds Try.pinned (OpenSpec.ofChange fnExactClassSumWrong)

/- THE SECOND FORM. 'bulk': how many values and letters a reading holds, each counted each time it is reached (what is shared counts as often as it is met; a slice's spare places count too). A statement '..UptoSaid' is the law's where the arguments, and the package variables that the reading takes, are together of bulk at most 1048576: NARROWER than '..Said'. Prove '..Said' where nothing that the law and all that it calls make is longer than what came in: it says more and counts as full. Else prove '..UptoSaid'. A law counts once. -/
mutual
def uptoBulk {H : Type} : DataW H → Nat
  | .lit (.string bytes) => bytes.length + 1
  | .lit _ => 1
  | .nil => 1
  | .ptr d => uptoBulk d + 1
  | .slice elems spare => uptoBulkAll elems + uptoBulkAll spare + 1
  | .agg parts => uptoBulkAll parts + 1
  | .iface _ d => uptoBulk d + 1
  | .map entries => uptoBulkEntries entries + 1
  | .held _ => 1
def uptoBulkAll {H : Type} : List (DataW H) → Nat
  | [] => 0
  | d :: r => uptoBulk d + uptoBulkAll r
def uptoBulkEntries {H : Type} : List (Lit × DataW H) → Nat
  | [] => 0
  | x :: r => uptoBulkEntry x + uptoBulkEntries r
def uptoBulkEntry {H : Type} : Lit × DataW H → Nat
  | (.string bytes, d) => bytes.length + uptoBulk d + 1
  | (_, d) => uptoBulk d + 1
 end
def uptoSmall : (H : Type) → List (DataW H) → Bool := fun _ ds => decide (uptoBulkAll ds ≤ 1048576)
def OpenSpec.upto (s : _root_.Go.ChangeSpec) : _root_.Go.OpenSpec := { _root_.Go.OpenSpec.ofChange s with cond := some uptoSmall }

/-- 'laws.FnExactAutomorphs', WHERE WHAT IT READS IS OF BULK AT MOST 1048576: true; the input reads as it did. -/
def fnExactAutomorphsUptoRow : OpenClaim := { program := "ytcckldlilmbinaa", sum := "fc65e46971c4516a976b033cf80c1fa834838510e81f431b1e689834a0ed55bf", func := "loop.example/g01066/laws.FnExactAutomorphs", spec := "fnExactAutomorphs", apart := false, narrowed := true }
def FnExactAutomorphsUptoSaid : Prop := fnExactAutomorphsUptoRow.holds Try.pinned (OpenSpec.upto fnExactAutomorphsSpec)

/-- 'laws.FnExactReductionWord', WHERE WHAT IT READS IS OF BULK AT MOST 1048576: true; the input reads as it did. -/
def fnExactReductionWordUptoRow : OpenClaim := { program := "ytcckldlilmbinaa", sum := "fc65e46971c4516a976b033cf80c1fa834838510e81f431b1e689834a0ed55bf", func := "loop.example/g01066/laws.FnExactReductionWord", spec := "fnExactReductionWord", apart := false, narrowed := true }
def FnExactReductionWordUptoSaid : Prop := fnExactReductionWordUptoRow.holds Try.pinned (OpenSpec.upto fnExactReductionWordSpec)

/-- 'laws.FnExactPairSeries', WHERE WHAT IT READS IS OF BULK AT MOST 1048576: true; the input reads as it did. -/
def fnExactPairSeriesUptoRow : OpenClaim := { program := "ytcckldlilmbinaa", sum := "fc65e46971c4516a976b033cf80c1fa834838510e81f431b1e689834a0ed55bf", func := "loop.example/g01066/laws.FnExactPairSeries", spec := "fnExactPairSeries", apart := false, narrowed := true }
def FnExactPairSeriesUptoSaid : Prop := fnExactPairSeriesUptoRow.holds Try.pinned (OpenSpec.upto fnExactPairSeriesSpec)

/-- 'laws.FnExactLeastValues', WHERE WHAT IT READS IS OF BULK AT MOST 1048576: true; the input reads as it did. -/
def fnExactLeastValuesUptoRow : OpenClaim := { program := "ytcckldlilmbinaa", sum := "fc65e46971c4516a976b033cf80c1fa834838510e81f431b1e689834a0ed55bf", func := "loop.example/g01066/laws.FnExactLeastValues", spec := "fnExactLeastValues", apart := false, narrowed := true }
def FnExactLeastValuesUptoSaid : Prop := fnExactLeastValuesUptoRow.holds Try.pinned (OpenSpec.upto fnExactLeastValuesSpec)

/-- 'laws.FnExactSublatticeForms', WHERE WHAT IT READS IS OF BULK AT MOST 1048576: true; the input reads as it did. -/
def fnExactSublatticeFormsUptoRow : OpenClaim := { program := "ytcckldlilmbinaa", sum := "fc65e46971c4516a976b033cf80c1fa834838510e81f431b1e689834a0ed55bf", func := "loop.example/g01066/laws.FnExactSublatticeForms", spec := "fnExactSublatticeForms", apart := false, narrowed := true }
def FnExactSublatticeFormsUptoSaid : Prop := fnExactSublatticeFormsUptoRow.holds Try.pinned (OpenSpec.upto fnExactSublatticeFormsSpec)

/-- 'laws.FnExactPrimitiveValues', WHERE WHAT IT READS IS OF BULK AT MOST 1048576: true; the input reads as it did. -/
def fnExactPrimitiveValuesUptoRow : OpenClaim := { program := "ytcckldlilmbinaa", sum := "fc65e46971c4516a976b033cf80c1fa834838510e81f431b1e689834a0ed55bf", func := "loop.example/g01066/laws.FnExactPrimitiveValues", spec := "fnExactPrimitiveValues", apart := false, narrowed := true }
def FnExactPrimitiveValuesUptoSaid : Prop := fnExactPrimitiveValuesUptoRow.holds Try.pinned (OpenSpec.upto fnExactPrimitiveValuesSpec)

/-- 'laws.FnExactLeastSolution', WHERE WHAT IT READS IS OF BULK AT MOST 1048576: true; the input reads as it did. -/
def fnExactLeastSolutionUptoRow : OpenClaim := { program := "ytcckldlilmbinaa", sum := "fc65e46971c4516a976b033cf80c1fa834838510e81f431b1e689834a0ed55bf", func := "loop.example/g01066/laws.FnExactLeastSolution", spec := "fnExactLeastSolution", apart := false, narrowed := true }
def FnExactLeastSolutionUptoSaid : Prop := fnExactLeastSolutionUptoRow.holds Try.pinned (OpenSpec.upto fnExactLeastSolutionSpec)

/-- 'laws.FnExactFirstPrime', WHERE WHAT IT READS IS OF BULK AT MOST 1048576: true; the input reads as it did. -/
def fnExactFirstPrimeUptoRow : OpenClaim := { program := "ytcckldlilmbinaa", sum := "fc65e46971c4516a976b033cf80c1fa834838510e81f431b1e689834a0ed55bf", func := "loop.example/g01066/laws.FnExactFirstPrime", spec := "fnExactFirstPrime", apart := false, narrowed := true }
def FnExactFirstPrimeUptoSaid : Prop := fnExactFirstPrimeUptoRow.holds Try.pinned (OpenSpec.upto fnExactFirstPrimeSpec)

/-- 'laws.FnExactSublatticeClasses', WHERE WHAT IT READS IS OF BULK AT MOST 1048576: true; the input reads as it did. -/
def fnExactSublatticeClassesUptoRow : OpenClaim := { program := "ytcckldlilmbinaa", sum := "fc65e46971c4516a976b033cf80c1fa834838510e81f431b1e689834a0ed55bf", func := "loop.example/g01066/laws.FnExactSublatticeClasses", spec := "fnExactSublatticeClasses", apart := false, narrowed := true }
def FnExactSublatticeClassesUptoSaid : Prop := fnExactSublatticeClassesUptoRow.holds Try.pinned (OpenSpec.upto fnExactSublatticeClassesSpec)

/-- 'laws.FnExactNeighbourClasses', WHERE WHAT IT READS IS OF BULK AT MOST 1048576: true; the input reads as it did. -/
def fnExactNeighbourClassesUptoRow : OpenClaim := { program := "ytcckldlilmbinaa", sum := "fc65e46971c4516a976b033cf80c1fa834838510e81f431b1e689834a0ed55bf", func := "loop.example/g01066/laws.FnExactNeighbourClasses", spec := "fnExactNeighbourClasses", apart := false, narrowed := true }
def FnExactNeighbourClassesUptoSaid : Prop := fnExactNeighbourClassesUptoRow.holds Try.pinned (OpenSpec.upto fnExactNeighbourClassesSpec)

/-- 'laws.FnExactUnitedForms', WHERE WHAT IT READS IS OF BULK AT MOST 1048576: true; the input reads as it did. -/
def fnExactUnitedFormsUptoRow : OpenClaim := { program := "ytcckldlilmbinaa", sum := "fc65e46971c4516a976b033cf80c1fa834838510e81f431b1e689834a0ed55bf", func := "loop.example/g01066/laws.FnExactUnitedForms", spec := "fnExactUnitedForms", apart := false, narrowed := true }
def FnExactUnitedFormsUptoSaid : Prop := fnExactUnitedFormsUptoRow.holds Try.pinned (OpenSpec.upto fnExactUnitedFormsSpec)

/-- 'laws.FnExactClassSum', WHERE WHAT IT READS IS OF BULK AT MOST 1048576: true; the input reads as it did. -/
def fnExactClassSumUptoRow : OpenClaim := { program := "ytcckldlilmbinaa", sum := "fc65e46971c4516a976b033cf80c1fa834838510e81f431b1e689834a0ed55bf", func := "loop.example/g01066/laws.FnExactClassSum", spec := "fnExactClassSum", apart := false, narrowed := true }
def FnExactClassSumUptoSaid : Prop := fnExactClassSumUptoRow.holds Try.pinned (OpenSpec.upto fnExactClassSumSpec)

end Rows
end Go.Proofs.Ytcckldlilmbinaa
