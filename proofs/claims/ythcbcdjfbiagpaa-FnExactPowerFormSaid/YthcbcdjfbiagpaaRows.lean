/-
  No cell of these rows narrows 'for every input' (looked for: loops, veiled, ifaces, maps, wideKeys, modest, calm, conditions, laid).
  DERIVED. THE GIVEN ROWS OF THIS SEAT. 12 by the template 'for every input the law returns true; each argument reads behind the call as it read before'; 0 by the template 'total and deterministic' (their statements: YthcbcdjfbiagpaaTotals.lean).
  GIVEN WITH THE SEED: the statements are not yours to turn. If you find one false, say at which input.
  Laid BY PROGRAM, IN A SANDBOX (cutbox-rows.mjs): the forced cells as the released guide's own fill.sh prints them over the translation 01729292e25b7b9d… (all of the seat's roots in one cut). By AI agents, Wed Nov 11 2026. No macro, syntax, notation, axiom, sorry.
-/
import Derived.Test.YthcbcdjfbiagpaaChecked
import GoSem.Claim
import GoSem.ClaimJoined
import GoSem.ClaimMapViews
import Derived.JoinedTies
import Derived.KernelRfl
namespace Go.Proofs.Ythcbcdjfbiagpaa
/- THE CELL 'sum', in the pinned program and in every row, IS THE sha256 OF THE DUMP (.gsa) THAT YthcbcdjfbiagpaaProg.lean LOADS. Nothing in Lean hashes anything: it is a label: what it is worth is what the hold of that sum in a sandbox is worth. -/
noncomputable def Try.pinned : Pinned := { name := "ythcbcdjfbiagpaa", sum := "01729292e25b7b9d979e69d3a1a1891f31fe4917cee0456e4f33d0cdbfa14a6b", checked := Try.checked }
namespace Rows
def none {H : Type} : Left H := { results := [], args := [] }

/-- 'laws.FnExactAutomorphs': WHATEVER THE INPUT: true; the input reads as it did. -/
def fnExactAutomorphsSpec : ChangeSpec := { name := "fnExactAutomorphs", fn := fun _ => fun
  | [d] => { results := [.lit (.bool true)], args := [d] }
  | _ => none }
def fnExactAutomorphsRow : OpenClaim := { program := "ythcbcdjfbiagpaa", sum := "01729292e25b7b9d979e69d3a1a1891f31fe4917cee0456e4f33d0cdbfa14a6b", func := "loop.example/g01066/laws.FnExactAutomorphs", spec := "fnExactAutomorphs", plainKeys := false, apart := false }
def FnExactAutomorphsSaid : Prop := fnExactAutomorphsRow.holds Try.pinned (OpenSpec.ofChange fnExactAutomorphsSpec)

/-- ITS FALSE NEIGHBOUR: 'it returns false'. Refute it at one input. -/
def fnExactAutomorphsWrong : ChangeSpec := { name := "fnExactAutomorphs", fn := fun _ => fun
  | [d] => { results := [.lit (.bool false)], args := [d] }
  | _ => none }
def FnExactAutomorphsWrongFalsely : Prop := fnExactAutomorphsRow.holds Try.pinned (OpenSpec.ofChange fnExactAutomorphsWrong)

/-- 'laws.FnExactLeastSolution': WHATEVER THE INPUT: true; the input reads as it did. -/
def fnExactLeastSolutionSpec : ChangeSpec := { name := "fnExactLeastSolution", fn := fun _ => fun
  | [d] => { results := [.lit (.bool true)], args := [d] }
  | _ => none }
def fnExactLeastSolutionRow : OpenClaim := { program := "ythcbcdjfbiagpaa", sum := "01729292e25b7b9d979e69d3a1a1891f31fe4917cee0456e4f33d0cdbfa14a6b", func := "loop.example/g01066/laws.FnExactLeastSolution", spec := "fnExactLeastSolution", plainKeys := false, apart := false }
def FnExactLeastSolutionSaid : Prop := fnExactLeastSolutionRow.holds Try.pinned (OpenSpec.ofChange fnExactLeastSolutionSpec)

/-- ITS FALSE NEIGHBOUR: 'it returns false'. Refute it at one input. -/
def fnExactLeastSolutionWrong : ChangeSpec := { name := "fnExactLeastSolution", fn := fun _ => fun
  | [d] => { results := [.lit (.bool false)], args := [d] }
  | _ => none }
def FnExactLeastSolutionWrongFalsely : Prop := fnExactLeastSolutionRow.holds Try.pinned (OpenSpec.ofChange fnExactLeastSolutionWrong)

/-- 'laws.FnExactUnitedForms': WHATEVER THE INPUT: true; the input reads as it did. -/
def fnExactUnitedFormsSpec : ChangeSpec := { name := "fnExactUnitedForms", fn := fun _ => fun
  | [d1, d2] => { results := [.lit (.bool true)], args := [d1, d2] }
  | _ => none }
def fnExactUnitedFormsRow : OpenClaim := { program := "ythcbcdjfbiagpaa", sum := "01729292e25b7b9d979e69d3a1a1891f31fe4917cee0456e4f33d0cdbfa14a6b", func := "loop.example/g01066/laws.FnExactUnitedForms", spec := "fnExactUnitedForms", plainKeys := false, apart := false }
def FnExactUnitedFormsSaid : Prop := fnExactUnitedFormsRow.holds Try.pinned (OpenSpec.ofChange fnExactUnitedFormsSpec)

/-- ITS FALSE NEIGHBOUR: 'it returns false'. Refute it at one input. -/
def fnExactUnitedFormsWrong : ChangeSpec := { name := "fnExactUnitedForms", fn := fun _ => fun
  | [d1, d2] => { results := [.lit (.bool false)], args := [d1, d2] }
  | _ => none }
def FnExactUnitedFormsWrongFalsely : Prop := fnExactUnitedFormsRow.holds Try.pinned (OpenSpec.ofChange fnExactUnitedFormsWrong)

/-- 'laws.FnExactComposeForms': WHATEVER THE INPUT: true; the input reads as it did. -/
def fnExactComposeFormsSpec : ChangeSpec := { name := "fnExactComposeForms", fn := fun _ => fun
  | [d1, d2] => { results := [.lit (.bool true)], args := [d1, d2] }
  | _ => none }
def fnExactComposeFormsRow : OpenClaim := { program := "ythcbcdjfbiagpaa", sum := "01729292e25b7b9d979e69d3a1a1891f31fe4917cee0456e4f33d0cdbfa14a6b", func := "loop.example/g01066/laws.FnExactComposeForms", spec := "fnExactComposeForms", plainKeys := false, apart := false }
def FnExactComposeFormsSaid : Prop := fnExactComposeFormsRow.holds Try.pinned (OpenSpec.ofChange fnExactComposeFormsSpec)

/-- ITS FALSE NEIGHBOUR: 'it returns false'. Refute it at one input. -/
def fnExactComposeFormsWrong : ChangeSpec := { name := "fnExactComposeForms", fn := fun _ => fun
  | [d1, d2] => { results := [.lit (.bool false)], args := [d1, d2] }
  | _ => none }
def FnExactComposeFormsWrongFalsely : Prop := fnExactComposeFormsRow.holds Try.pinned (OpenSpec.ofChange fnExactComposeFormsWrong)

/-- 'laws.FnExactDivideForms': WHATEVER THE INPUT: true; the input reads as it did. -/
def fnExactDivideFormsSpec : ChangeSpec := { name := "fnExactDivideForms", fn := fun _ => fun
  | [d1, d2] => { results := [.lit (.bool true)], args := [d1, d2] }
  | _ => none }
def fnExactDivideFormsRow : OpenClaim := { program := "ythcbcdjfbiagpaa", sum := "01729292e25b7b9d979e69d3a1a1891f31fe4917cee0456e4f33d0cdbfa14a6b", func := "loop.example/g01066/laws.FnExactDivideForms", spec := "fnExactDivideForms", plainKeys := false, apart := false }
def FnExactDivideFormsSaid : Prop := fnExactDivideFormsRow.holds Try.pinned (OpenSpec.ofChange fnExactDivideFormsSpec)

/-- ITS FALSE NEIGHBOUR: 'it returns false'. Refute it at one input. -/
def fnExactDivideFormsWrong : ChangeSpec := { name := "fnExactDivideForms", fn := fun _ => fun
  | [d1, d2] => { results := [.lit (.bool false)], args := [d1, d2] }
  | _ => none }
def FnExactDivideFormsWrongFalsely : Prop := fnExactDivideFormsRow.holds Try.pinned (OpenSpec.ofChange fnExactDivideFormsWrong)

/-- 'laws.FnExactPowerForm': WHATEVER THE INPUT: true; the input reads as it did. -/
def fnExactPowerFormSpec : ChangeSpec := { name := "fnExactPowerForm", fn := fun _ => fun
  | [d1, d2] => { results := [.lit (.bool true)], args := [d1, d2] }
  | _ => none }
def fnExactPowerFormRow : OpenClaim := { program := "ythcbcdjfbiagpaa", sum := "01729292e25b7b9d979e69d3a1a1891f31fe4917cee0456e4f33d0cdbfa14a6b", func := "loop.example/g01066/laws.FnExactPowerForm", spec := "fnExactPowerForm", plainKeys := false, apart := false }
def FnExactPowerFormSaid : Prop := fnExactPowerFormRow.holds Try.pinned (OpenSpec.ofChange fnExactPowerFormSpec)

/-- ITS FALSE NEIGHBOUR: 'it returns false'. Refute it at one input. -/
def fnExactPowerFormWrong : ChangeSpec := { name := "fnExactPowerForm", fn := fun _ => fun
  | [d1, d2] => { results := [.lit (.bool false)], args := [d1, d2] }
  | _ => none }
def FnExactPowerFormWrongFalsely : Prop := fnExactPowerFormRow.holds Try.pinned (OpenSpec.ofChange fnExactPowerFormWrong)

/-- 'laws.FnExactCubeOf': WHATEVER THE INPUT: true; the input reads as it did. -/
def fnExactCubeOfSpec : ChangeSpec := { name := "fnExactCubeOf", fn := fun _ => fun
  | [d1, d2] => { results := [.lit (.bool true)], args := [d1, d2] }
  | _ => none }
def fnExactCubeOfRow : OpenClaim := { program := "ythcbcdjfbiagpaa", sum := "01729292e25b7b9d979e69d3a1a1891f31fe4917cee0456e4f33d0cdbfa14a6b", func := "loop.example/g01066/laws.FnExactCubeOf", spec := "fnExactCubeOf", plainKeys := false, apart := false }
def FnExactCubeOfSaid : Prop := fnExactCubeOfRow.holds Try.pinned (OpenSpec.ofChange fnExactCubeOfSpec)

/-- ITS FALSE NEIGHBOUR: 'it returns false'. Refute it at one input. -/
def fnExactCubeOfWrong : ChangeSpec := { name := "fnExactCubeOf", fn := fun _ => fun
  | [d1, d2] => { results := [.lit (.bool false)], args := [d1, d2] }
  | _ => none }
def FnExactCubeOfWrongFalsely : Prop := fnExactCubeOfRow.holds Try.pinned (OpenSpec.ofChange fnExactCubeOfWrong)

/-- 'laws.FnExactCompositionProof': WHATEVER THE INPUT: true; the input reads as it did. -/
def fnExactCompositionProofSpec : ChangeSpec := { name := "fnExactCompositionProof", fn := fun _ => fun
  | [d1, d2] => { results := [.lit (.bool true)], args := [d1, d2] }
  | _ => none }
def fnExactCompositionProofRow : OpenClaim := { program := "ythcbcdjfbiagpaa", sum := "01729292e25b7b9d979e69d3a1a1891f31fe4917cee0456e4f33d0cdbfa14a6b", func := "loop.example/g01066/laws.FnExactCompositionProof", spec := "fnExactCompositionProof", plainKeys := false, apart := false }
def FnExactCompositionProofSaid : Prop := fnExactCompositionProofRow.holds Try.pinned (OpenSpec.ofChange fnExactCompositionProofSpec)

/-- ITS FALSE NEIGHBOUR: 'it returns false'. Refute it at one input. -/
def fnExactCompositionProofWrong : ChangeSpec := { name := "fnExactCompositionProof", fn := fun _ => fun
  | [d1, d2] => { results := [.lit (.bool false)], args := [d1, d2] }
  | _ => none }
def FnExactCompositionProofWrongFalsely : Prop := fnExactCompositionProofRow.holds Try.pinned (OpenSpec.ofChange fnExactCompositionProofWrong)

/-- 'laws.FnExactSameGenus': WHATEVER THE INPUT: true; the input reads as it did. -/
def fnExactSameGenusSpec : ChangeSpec := { name := "fnExactSameGenus", fn := fun _ => fun
  | [d1, d2] => { results := [.lit (.bool true)], args := [d1, d2] }
  | _ => none }
def fnExactSameGenusRow : OpenClaim := { program := "ythcbcdjfbiagpaa", sum := "01729292e25b7b9d979e69d3a1a1891f31fe4917cee0456e4f33d0cdbfa14a6b", func := "loop.example/g01066/laws.FnExactSameGenus", spec := "fnExactSameGenus", plainKeys := false, apart := false }
def FnExactSameGenusSaid : Prop := fnExactSameGenusRow.holds Try.pinned (OpenSpec.ofChange fnExactSameGenusSpec)

/-- ITS FALSE NEIGHBOUR: 'it returns false'. Refute it at one input. -/
def fnExactSameGenusWrong : ChangeSpec := { name := "fnExactSameGenus", fn := fun _ => fun
  | [d1, d2] => { results := [.lit (.bool false)], args := [d1, d2] }
  | _ => none }
def FnExactSameGenusWrongFalsely : Prop := fnExactSameGenusRow.holds Try.pinned (OpenSpec.ofChange fnExactSameGenusWrong)

/-- 'laws.FnConicPoints': WHATEVER THE INPUT: true; the input reads as it did. -/
def fnConicPointsSpec : ChangeSpec := { name := "fnConicPoints", fn := fun _ => fun
  | [d1, d2] => { results := [.lit (.bool true)], args := [d1, d2] }
  | _ => none }
def fnConicPointsRow : OpenClaim := { program := "ythcbcdjfbiagpaa", sum := "01729292e25b7b9d979e69d3a1a1891f31fe4917cee0456e4f33d0cdbfa14a6b", func := "loop.example/g01066/laws.FnConicPoints", spec := "fnConicPoints", plainKeys := false, apart := false }
def FnConicPointsSaid : Prop := fnConicPointsRow.holds Try.pinned (OpenSpec.ofChange fnConicPointsSpec)

/-- ITS FALSE NEIGHBOUR: 'it returns false'. Refute it at one input. -/
def fnConicPointsWrong : ChangeSpec := { name := "fnConicPoints", fn := fun _ => fun
  | [d1, d2] => { results := [.lit (.bool false)], args := [d1, d2] }
  | _ => none }
def FnConicPointsWrongFalsely : Prop := fnConicPointsRow.holds Try.pinned (OpenSpec.ofChange fnConicPointsWrong)

/-- 'laws.FnExactOrbitPoints': WHATEVER THE INPUT: true; the input reads as it did. -/
def fnExactOrbitPointsSpec : ChangeSpec := { name := "fnExactOrbitPoints", fn := fun _ => fun
  | [d1, d2] => { results := [.lit (.bool true)], args := [d1, d2] }
  | _ => none }
def fnExactOrbitPointsRow : OpenClaim := { program := "ythcbcdjfbiagpaa", sum := "01729292e25b7b9d979e69d3a1a1891f31fe4917cee0456e4f33d0cdbfa14a6b", func := "loop.example/g01066/laws.FnExactOrbitPoints", spec := "fnExactOrbitPoints", plainKeys := false, apart := false }
def FnExactOrbitPointsSaid : Prop := fnExactOrbitPointsRow.holds Try.pinned (OpenSpec.ofChange fnExactOrbitPointsSpec)

/-- ITS FALSE NEIGHBOUR: 'it returns false'. Refute it at one input. -/
def fnExactOrbitPointsWrong : ChangeSpec := { name := "fnExactOrbitPoints", fn := fun _ => fun
  | [d1, d2] => { results := [.lit (.bool false)], args := [d1, d2] }
  | _ => none }
def FnExactOrbitPointsWrongFalsely : Prop := fnExactOrbitPointsRow.holds Try.pinned (OpenSpec.ofChange fnExactOrbitPointsWrong)

/-- 'laws.FnExactClassIndex': WHATEVER THE INPUT: true; the input reads as it did. -/
def fnExactClassIndexSpec : ChangeSpec := { name := "fnExactClassIndex", fn := fun _ => fun
  | [d] => { results := [.lit (.bool true)], args := [d] }
  | _ => none }
def fnExactClassIndexRow : OpenClaim := { program := "ythcbcdjfbiagpaa", sum := "01729292e25b7b9d979e69d3a1a1891f31fe4917cee0456e4f33d0cdbfa14a6b", func := "loop.example/g01066/laws.FnExactClassIndex", spec := "fnExactClassIndex", plainKeys := false, apart := false }
def FnExactClassIndexSaid : Prop := fnExactClassIndexRow.holds Try.pinned (OpenSpec.ofChange fnExactClassIndexSpec)

/-- ITS FALSE NEIGHBOUR: 'it returns false'. Refute it at one input. -/
def fnExactClassIndexWrong : ChangeSpec := { name := "fnExactClassIndex", fn := fun _ => fun
  | [d] => { results := [.lit (.bool false)], args := [d] }
  | _ => none }
def FnExactClassIndexWrongFalsely : Prop := fnExactClassIndexRow.holds Try.pinned (OpenSpec.ofChange fnExactClassIndexWrong)

/- THE SECOND FORM. 'bulk': how many values and letters a reading holds, each counted each time it is reached (what is shared counts as often as it is met; a slice's spare places count too). A statement '..UptoSaid' is the law's where the arguments, and the package variables that the reading takes, are together of bulk at most 1048576: NARROWER than '..Said'. Prove '..Said' where nothing that the law and all that it calls make is longer than what came in: it says more and counts as full. Else prove '..UptoSaid'. A law counts once. -/
mutual
def uptoBulk {H : Type} : DataW H → Nat
  | .lit (.string bytes) => bytes.length + 1
  | .lit _ => 1
  | .nil => 1
  | .ptr d => uptoBulk d + 1
  | .slice elems spare => uptoBulkAll elems + uptoBulkAll spare + 1
  | .agg parts => uptoBulkAll parts + 1
  | .iface _ d => uptoBulk d + 1
  | .map entries => uptoBulkEntries entries + 1
  | .held _ => 1
def uptoBulkAll {H : Type} : List (DataW H) → Nat
  | [] => 0
  | d :: r => uptoBulk d + uptoBulkAll r
def uptoBulkEntries {H : Type} : List (Lit × DataW H) → Nat
  | [] => 0
  | x :: r => uptoBulkEntry x + uptoBulkEntries r
def uptoBulkEntry {H : Type} : Lit × DataW H → Nat
  | (.string bytes, d) => bytes.length + uptoBulk d + 1
  | (_, d) => uptoBulk d + 1
 end
def uptoSmall : (H : Type) → List (DataW H) → Bool := fun _ ds => decide (uptoBulkAll ds ≤ 1048576)
def OpenSpec.upto (s : _root_.Go.ChangeSpec) : _root_.Go.OpenSpec := { _root_.Go.OpenSpec.ofChange s with cond := some uptoSmall }

/-- 'laws.FnExactAutomorphs', WHERE WHAT IT READS IS OF BULK AT MOST 1048576: true; the input reads as it did. -/
def fnExactAutomorphsUptoRow : OpenClaim := { program := "ythcbcdjfbiagpaa", sum := "01729292e25b7b9d979e69d3a1a1891f31fe4917cee0456e4f33d0cdbfa14a6b", func := "loop.example/g01066/laws.FnExactAutomorphs", spec := "fnExactAutomorphs", plainKeys := false, apart := false, narrowed := true }
def FnExactAutomorphsUptoSaid : Prop := fnExactAutomorphsUptoRow.holds Try.pinned (OpenSpec.upto fnExactAutomorphsSpec)

/-- 'laws.FnExactLeastSolution', WHERE WHAT IT READS IS OF BULK AT MOST 1048576: true; the input reads as it did. -/
def fnExactLeastSolutionUptoRow : OpenClaim := { program := "ythcbcdjfbiagpaa", sum := "01729292e25b7b9d979e69d3a1a1891f31fe4917cee0456e4f33d0cdbfa14a6b", func := "loop.example/g01066/laws.FnExactLeastSolution", spec := "fnExactLeastSolution", plainKeys := false, apart := false, narrowed := true }
def FnExactLeastSolutionUptoSaid : Prop := fnExactLeastSolutionUptoRow.holds Try.pinned (OpenSpec.upto fnExactLeastSolutionSpec)

/-- 'laws.FnExactUnitedForms', WHERE WHAT IT READS IS OF BULK AT MOST 1048576: true; the input reads as it did. -/
def fnExactUnitedFormsUptoRow : OpenClaim := { program := "ythcbcdjfbiagpaa", sum := "01729292e25b7b9d979e69d3a1a1891f31fe4917cee0456e4f33d0cdbfa14a6b", func := "loop.example/g01066/laws.FnExactUnitedForms", spec := "fnExactUnitedForms", plainKeys := false, apart := false, narrowed := true }
def FnExactUnitedFormsUptoSaid : Prop := fnExactUnitedFormsUptoRow.holds Try.pinned (OpenSpec.upto fnExactUnitedFormsSpec)

/-- 'laws.FnExactComposeForms', WHERE WHAT IT READS IS OF BULK AT MOST 1048576: true; the input reads as it did. -/
def fnExactComposeFormsUptoRow : OpenClaim := { program := "ythcbcdjfbiagpaa", sum := "01729292e25b7b9d979e69d3a1a1891f31fe4917cee0456e4f33d0cdbfa14a6b", func := "loop.example/g01066/laws.FnExactComposeForms", spec := "fnExactComposeForms", plainKeys := false, apart := false, narrowed := true }
def FnExactComposeFormsUptoSaid : Prop := fnExactComposeFormsUptoRow.holds Try.pinned (OpenSpec.upto fnExactComposeFormsSpec)

/-- 'laws.FnExactDivideForms', WHERE WHAT IT READS IS OF BULK AT MOST 1048576: true; the input reads as it did. -/
def fnExactDivideFormsUptoRow : OpenClaim := { program := "ythcbcdjfbiagpaa", sum := "01729292e25b7b9d979e69d3a1a1891f31fe4917cee0456e4f33d0cdbfa14a6b", func := "loop.example/g01066/laws.FnExactDivideForms", spec := "fnExactDivideForms", plainKeys := false, apart := false, narrowed := true }
def FnExactDivideFormsUptoSaid : Prop := fnExactDivideFormsUptoRow.holds Try.pinned (OpenSpec.upto fnExactDivideFormsSpec)

/-- 'laws.FnExactPowerForm', WHERE WHAT IT READS IS OF BULK AT MOST 1048576: true; the input reads as it did. -/
def fnExactPowerFormUptoRow : OpenClaim := { program := "ythcbcdjfbiagpaa", sum := "01729292e25b7b9d979e69d3a1a1891f31fe4917cee0456e4f33d0cdbfa14a6b", func := "loop.example/g01066/laws.FnExactPowerForm", spec := "fnExactPowerForm", plainKeys := false, apart := false, narrowed := true }
def FnExactPowerFormUptoSaid : Prop := fnExactPowerFormUptoRow.holds Try.pinned (OpenSpec.upto fnExactPowerFormSpec)

/-- 'laws.FnExactCubeOf', WHERE WHAT IT READS IS OF BULK AT MOST 1048576: true; the input reads as it did. -/
def fnExactCubeOfUptoRow : OpenClaim := { program := "ythcbcdjfbiagpaa", sum := "01729292e25b7b9d979e69d3a1a1891f31fe4917cee0456e4f33d0cdbfa14a6b", func := "loop.example/g01066/laws.FnExactCubeOf", spec := "fnExactCubeOf", plainKeys := false, apart := false, narrowed := true }
def FnExactCubeOfUptoSaid : Prop := fnExactCubeOfUptoRow.holds Try.pinned (OpenSpec.upto fnExactCubeOfSpec)

/-- 'laws.FnExactCompositionProof', WHERE WHAT IT READS IS OF BULK AT MOST 1048576: true; the input reads as it did. -/
def fnExactCompositionProofUptoRow : OpenClaim := { program := "ythcbcdjfbiagpaa", sum := "01729292e25b7b9d979e69d3a1a1891f31fe4917cee0456e4f33d0cdbfa14a6b", func := "loop.example/g01066/laws.FnExactCompositionProof", spec := "fnExactCompositionProof", plainKeys := false, apart := false, narrowed := true }
def FnExactCompositionProofUptoSaid : Prop := fnExactCompositionProofUptoRow.holds Try.pinned (OpenSpec.upto fnExactCompositionProofSpec)

/-- 'laws.FnExactSameGenus', WHERE WHAT IT READS IS OF BULK AT MOST 1048576: true; the input reads as it did. -/
def fnExactSameGenusUptoRow : OpenClaim := { program := "ythcbcdjfbiagpaa", sum := "01729292e25b7b9d979e69d3a1a1891f31fe4917cee0456e4f33d0cdbfa14a6b", func := "loop.example/g01066/laws.FnExactSameGenus", spec := "fnExactSameGenus", plainKeys := false, apart := false, narrowed := true }
def FnExactSameGenusUptoSaid : Prop := fnExactSameGenusUptoRow.holds Try.pinned (OpenSpec.upto fnExactSameGenusSpec)

/-- 'laws.FnConicPoints', WHERE WHAT IT READS IS OF BULK AT MOST 1048576: true; the input reads as it did. -/
def fnConicPointsUptoRow : OpenClaim := { program := "ythcbcdjfbiagpaa", sum := "01729292e25b7b9d979e69d3a1a1891f31fe4917cee0456e4f33d0cdbfa14a6b", func := "loop.example/g01066/laws.FnConicPoints", spec := "fnConicPoints", plainKeys := false, apart := false, narrowed := true }
def FnConicPointsUptoSaid : Prop := fnConicPointsUptoRow.holds Try.pinned (OpenSpec.upto fnConicPointsSpec)

/-- 'laws.FnExactOrbitPoints', WHERE WHAT IT READS IS OF BULK AT MOST 1048576: true; the input reads as it did. -/
def fnExactOrbitPointsUptoRow : OpenClaim := { program := "ythcbcdjfbiagpaa", sum := "01729292e25b7b9d979e69d3a1a1891f31fe4917cee0456e4f33d0cdbfa14a6b", func := "loop.example/g01066/laws.FnExactOrbitPoints", spec := "fnExactOrbitPoints", plainKeys := false, apart := false, narrowed := true }
def FnExactOrbitPointsUptoSaid : Prop := fnExactOrbitPointsUptoRow.holds Try.pinned (OpenSpec.upto fnExactOrbitPointsSpec)

/-- 'laws.FnExactClassIndex', WHERE WHAT IT READS IS OF BULK AT MOST 1048576: true; the input reads as it did. -/
def fnExactClassIndexUptoRow : OpenClaim := { program := "ythcbcdjfbiagpaa", sum := "01729292e25b7b9d979e69d3a1a1891f31fe4917cee0456e4f33d0cdbfa14a6b", func := "loop.example/g01066/laws.FnExactClassIndex", spec := "fnExactClassIndex", plainKeys := false, apart := false, narrowed := true }
def FnExactClassIndexUptoSaid : Prop := fnExactClassIndexUptoRow.holds Try.pinned (OpenSpec.upto fnExactClassIndexSpec)

end Rows
end Go.Proofs.Ythcbcdjfbiagpaa
