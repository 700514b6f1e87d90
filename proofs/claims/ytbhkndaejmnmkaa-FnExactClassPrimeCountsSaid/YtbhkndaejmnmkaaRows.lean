/-
  No cell of these rows narrows 'for every input' (looked for: loops, veiled, ifaces, maps, wideKeys, modest, calm, conditions, laid).
  DERIVED. THE GIVEN ROWS OF THIS SEAT. 12 by the template 'for every input the law returns true; each argument reads behind the call as it read before'; 0 by the template 'total and deterministic' (their statements: YtbhkndaejmnmkaaTotals.lean).
  GIVEN WITH THE SEED: the statements are not yours to turn. If you find one false, say at which input.
  Laid BY PROGRAM, IN A SANDBOX (cutbox-rows.mjs): the forced cells as the released guide's own fill.sh prints them over the translation b9d969e201210b46… (all of the seat's roots in one cut). By AI agents, Wed Nov 11 2026. No macro, syntax, notation, axiom, sorry.
-/
import Derived.Test.YtbhkndaejmnmkaaChecked
import GoSem.Claim
import GoSem.ClaimJoined
import GoSem.ClaimMapViews
import Derived.JoinedTies
import Derived.KernelRfl
namespace Go.Proofs.Ytbhkndaejmnmkaa
/- THE CELL 'sum', in the pinned program and in every row, IS THE sha256 OF THE DUMP (.gsa) THAT YtbhkndaejmnmkaaProg.lean LOADS. Nothing in Lean hashes anything: it is a label: what it is worth is what the hold of that sum in a sandbox is worth. -/
noncomputable def Try.pinned : Pinned := { name := "ytbhkndaejmnmkaa", sum := "b9d969e201210b464931e748219ad41979b2866fc1ad9554c5bfe493c5ca66f7", checked := Try.checked }
namespace Rows
def none {H : Type} : Left H := { results := [], args := [] }

/-- 'laws.FnExactLowerClasses': WHATEVER THE INPUT: true; the input reads as it did. -/
def fnExactLowerClassesSpec : ChangeSpec := { name := "fnExactLowerClasses", fn := fun _ => fun
  | [d1, d2] => { results := [.lit (.bool true)], args := [d1, d2] }
  | _ => none }
def fnExactLowerClassesRow : OpenClaim := { program := "ytbhkndaejmnmkaa", sum := "b9d969e201210b464931e748219ad41979b2866fc1ad9554c5bfe493c5ca66f7", func := "loop.example/g01066/laws.FnExactLowerClasses", spec := "fnExactLowerClasses", plainKeys := false, apart := false }
def FnExactLowerClassesSaid : Prop := fnExactLowerClassesRow.holds Try.pinned (OpenSpec.ofChange fnExactLowerClassesSpec)

/-- ITS FALSE NEIGHBOUR: 'it returns false'. Refute it at one input. -/
def fnExactLowerClassesWrong : ChangeSpec := { name := "fnExactLowerClasses", fn := fun _ => fun
  | [d1, d2] => { results := [.lit (.bool false)], args := [d1, d2] }
  | _ => none }
def FnExactLowerClassesWrongFalsely : Prop := fnExactLowerClassesRow.holds Try.pinned (OpenSpec.ofChange fnExactLowerClassesWrong)

/-- 'laws.FnExactRepresentingForms': WHATEVER THE INPUT: true; the input reads as it did. -/
def fnExactRepresentingFormsSpec : ChangeSpec := { name := "fnExactRepresentingForms", fn := fun _ => fun
  | [d1, d2] => { results := [.lit (.bool true)], args := [d1, d2] }
  | _ => none }
def fnExactRepresentingFormsRow : OpenClaim := { program := "ytbhkndaejmnmkaa", sum := "b9d969e201210b464931e748219ad41979b2866fc1ad9554c5bfe493c5ca66f7", func := "loop.example/g01066/laws.FnExactRepresentingForms", spec := "fnExactRepresentingForms", plainKeys := false, apart := false }
def FnExactRepresentingFormsSaid : Prop := fnExactRepresentingFormsRow.holds Try.pinned (OpenSpec.ofChange fnExactRepresentingFormsSpec)

/-- ITS FALSE NEIGHBOUR: 'it returns false'. Refute it at one input. -/
def fnExactRepresentingFormsWrong : ChangeSpec := { name := "fnExactRepresentingForms", fn := fun _ => fun
  | [d1, d2] => { results := [.lit (.bool false)], args := [d1, d2] }
  | _ => none }
def FnExactRepresentingFormsWrongFalsely : Prop := fnExactRepresentingFormsRow.holds Try.pinned (OpenSpec.ofChange fnExactRepresentingFormsWrong)

/-- 'laws.FnExactComposeForms': WHATEVER THE INPUT: true; the input reads as it did. -/
def fnExactComposeFormsSpec : ChangeSpec := { name := "fnExactComposeForms", fn := fun _ => fun
  | [d1, d2] => { results := [.lit (.bool true)], args := [d1, d2] }
  | _ => none }
def fnExactComposeFormsRow : OpenClaim := { program := "ytbhkndaejmnmkaa", sum := "b9d969e201210b464931e748219ad41979b2866fc1ad9554c5bfe493c5ca66f7", func := "loop.example/g01066/laws.FnExactComposeForms", spec := "fnExactComposeForms", plainKeys := false, apart := false }
def FnExactComposeFormsSaid : Prop := fnExactComposeFormsRow.holds Try.pinned (OpenSpec.ofChange fnExactComposeFormsSpec)

/-- ITS FALSE NEIGHBOUR: 'it returns false'. Refute it at one input. -/
def fnExactComposeFormsWrong : ChangeSpec := { name := "fnExactComposeForms", fn := fun _ => fun
  | [d1, d2] => { results := [.lit (.bool false)], args := [d1, d2] }
  | _ => none }
def FnExactComposeFormsWrongFalsely : Prop := fnExactComposeFormsRow.holds Try.pinned (OpenSpec.ofChange fnExactComposeFormsWrong)

/-- 'laws.FnExactDivideForms': WHATEVER THE INPUT: true; the input reads as it did. -/
def fnExactDivideFormsSpec : ChangeSpec := { name := "fnExactDivideForms", fn := fun _ => fun
  | [d1, d2] => { results := [.lit (.bool true)], args := [d1, d2] }
  | _ => none }
def fnExactDivideFormsRow : OpenClaim := { program := "ytbhkndaejmnmkaa", sum := "b9d969e201210b464931e748219ad41979b2866fc1ad9554c5bfe493c5ca66f7", func := "loop.example/g01066/laws.FnExactDivideForms", spec := "fnExactDivideForms", plainKeys := false, apart := false }
def FnExactDivideFormsSaid : Prop := fnExactDivideFormsRow.holds Try.pinned (OpenSpec.ofChange fnExactDivideFormsSpec)

/-- ITS FALSE NEIGHBOUR: 'it returns false'. Refute it at one input. -/
def fnExactDivideFormsWrong : ChangeSpec := { name := "fnExactDivideForms", fn := fun _ => fun
  | [d1, d2] => { results := [.lit (.bool false)], args := [d1, d2] }
  | _ => none }
def FnExactDivideFormsWrongFalsely : Prop := fnExactDivideFormsRow.holds Try.pinned (OpenSpec.ofChange fnExactDivideFormsWrong)

/-- 'laws.FnExactPrimesOfForm': WHATEVER THE INPUT: true; the input reads as it did. -/
def fnExactPrimesOfFormSpec : ChangeSpec := { name := "fnExactPrimesOfForm", fn := fun _ => fun
  | [d1, d2] => { results := [.lit (.bool true)], args := [d1, d2] }
  | _ => none }
def fnExactPrimesOfFormRow : OpenClaim := { program := "ytbhkndaejmnmkaa", sum := "b9d969e201210b464931e748219ad41979b2866fc1ad9554c5bfe493c5ca66f7", func := "loop.example/g01066/laws.FnExactPrimesOfForm", spec := "fnExactPrimesOfForm", plainKeys := false, apart := false }
def FnExactPrimesOfFormSaid : Prop := fnExactPrimesOfFormRow.holds Try.pinned (OpenSpec.ofChange fnExactPrimesOfFormSpec)

/-- ITS FALSE NEIGHBOUR: 'it returns false'. Refute it at one input. -/
def fnExactPrimesOfFormWrong : ChangeSpec := { name := "fnExactPrimesOfForm", fn := fun _ => fun
  | [d1, d2] => { results := [.lit (.bool false)], args := [d1, d2] }
  | _ => none }
def FnExactPrimesOfFormWrongFalsely : Prop := fnExactPrimesOfFormRow.holds Try.pinned (OpenSpec.ofChange fnExactPrimesOfFormWrong)

/-- 'laws.FnExactOrderOf': WHATEVER THE INPUT: true; the input reads as it did. -/
def fnExactOrderOfSpec : ChangeSpec := { name := "fnExactOrderOf", fn := fun _ => fun
  | [d] => { results := [.lit (.bool true)], args := [d] }
  | _ => none }
def fnExactOrderOfRow : OpenClaim := { program := "ytbhkndaejmnmkaa", sum := "b9d969e201210b464931e748219ad41979b2866fc1ad9554c5bfe493c5ca66f7", func := "loop.example/g01066/laws.FnExactOrderOf", spec := "fnExactOrderOf", plainKeys := false, apart := false }
def FnExactOrderOfSaid : Prop := fnExactOrderOfRow.holds Try.pinned (OpenSpec.ofChange fnExactOrderOfSpec)

/-- ITS FALSE NEIGHBOUR: 'it returns false'. Refute it at one input. -/
def fnExactOrderOfWrong : ChangeSpec := { name := "fnExactOrderOf", fn := fun _ => fun
  | [d] => { results := [.lit (.bool false)], args := [d] }
  | _ => none }
def FnExactOrderOfWrongFalsely : Prop := fnExactOrderOfRow.holds Try.pinned (OpenSpec.ofChange fnExactOrderOfWrong)

/-- 'laws.FnExactWalkDistance': WHATEVER THE INPUT: true; the input reads as it did. -/
def fnExactWalkDistanceSpec : ChangeSpec := { name := "fnExactWalkDistance", fn := fun _ => fun
  | [d1, d2, d3] => { results := [.lit (.bool true)], args := [d1, d2, d3] }
  | _ => none }
def fnExactWalkDistanceRow : OpenClaim := { program := "ytbhkndaejmnmkaa", sum := "b9d969e201210b464931e748219ad41979b2866fc1ad9554c5bfe493c5ca66f7", func := "loop.example/g01066/laws.FnExactWalkDistance", spec := "fnExactWalkDistance", plainKeys := false, apart := false }
def FnExactWalkDistanceSaid : Prop := fnExactWalkDistanceRow.holds Try.pinned (OpenSpec.ofChange fnExactWalkDistanceSpec)

/-- ITS FALSE NEIGHBOUR: 'it returns false'. Refute it at one input. -/
def fnExactWalkDistanceWrong : ChangeSpec := { name := "fnExactWalkDistance", fn := fun _ => fun
  | [d1, d2, d3] => { results := [.lit (.bool false)], args := [d1, d2, d3] }
  | _ => none }
def FnExactWalkDistanceWrongFalsely : Prop := fnExactWalkDistanceRow.holds Try.pinned (OpenSpec.ofChange fnExactWalkDistanceWrong)

/-- 'laws.FnExactUpperClass': WHATEVER THE INPUT: true; the input reads as it did. -/
def fnExactUpperClassSpec : ChangeSpec := { name := "fnExactUpperClass", fn := fun _ => fun
  | [d1, d2] => { results := [.lit (.bool true)], args := [d1, d2] }
  | _ => none }
def fnExactUpperClassRow : OpenClaim := { program := "ytbhkndaejmnmkaa", sum := "b9d969e201210b464931e748219ad41979b2866fc1ad9554c5bfe493c5ca66f7", func := "loop.example/g01066/laws.FnExactUpperClass", spec := "fnExactUpperClass", plainKeys := false, apart := false }
def FnExactUpperClassSaid : Prop := fnExactUpperClassRow.holds Try.pinned (OpenSpec.ofChange fnExactUpperClassSpec)

/-- ITS FALSE NEIGHBOUR: 'it returns false'. Refute it at one input. -/
def fnExactUpperClassWrong : ChangeSpec := { name := "fnExactUpperClass", fn := fun _ => fun
  | [d1, d2] => { results := [.lit (.bool false)], args := [d1, d2] }
  | _ => none }
def FnExactUpperClassWrongFalsely : Prop := fnExactUpperClassRow.holds Try.pinned (OpenSpec.ofChange fnExactUpperClassWrong)

/-- 'laws.FnExactClassPrimeCounts': WHATEVER THE INPUT: true; the input reads as it did. -/
def fnExactClassPrimeCountsSpec : ChangeSpec := { name := "fnExactClassPrimeCounts", fn := fun _ => fun
  | [d1, d2] => { results := [.lit (.bool true)], args := [d1, d2] }
  | _ => none }
def fnExactClassPrimeCountsRow : OpenClaim := { program := "ytbhkndaejmnmkaa", sum := "b9d969e201210b464931e748219ad41979b2866fc1ad9554c5bfe493c5ca66f7", func := "loop.example/g01066/laws.FnExactClassPrimeCounts", spec := "fnExactClassPrimeCounts", plainKeys := false, apart := false }
def FnExactClassPrimeCountsSaid : Prop := fnExactClassPrimeCountsRow.holds Try.pinned (OpenSpec.ofChange fnExactClassPrimeCountsSpec)

/-- ITS FALSE NEIGHBOUR: 'it returns false'. Refute it at one input. -/
def fnExactClassPrimeCountsWrong : ChangeSpec := { name := "fnExactClassPrimeCounts", fn := fun _ => fun
  | [d1, d2] => { results := [.lit (.bool false)], args := [d1, d2] }
  | _ => none }
def FnExactClassPrimeCountsWrongFalsely : Prop := fnExactClassPrimeCountsRow.holds Try.pinned (OpenSpec.ofChange fnExactClassPrimeCountsWrong)

/-- 'laws.FnExactPowerForm': WHATEVER THE INPUT: true; the input reads as it did. -/
def fnExactPowerFormSpec : ChangeSpec := { name := "fnExactPowerForm", fn := fun _ => fun
  | [d1, d2] => { results := [.lit (.bool true)], args := [d1, d2] }
  | _ => none }
def fnExactPowerFormRow : OpenClaim := { program := "ytbhkndaejmnmkaa", sum := "b9d969e201210b464931e748219ad41979b2866fc1ad9554c5bfe493c5ca66f7", func := "loop.example/g01066/laws.FnExactPowerForm", spec := "fnExactPowerForm", plainKeys := false, apart := false }
def FnExactPowerFormSaid : Prop := fnExactPowerFormRow.holds Try.pinned (OpenSpec.ofChange fnExactPowerFormSpec)

/-- ITS FALSE NEIGHBOUR: 'it returns false'. Refute it at one input. -/
def fnExactPowerFormWrong : ChangeSpec := { name := "fnExactPowerForm", fn := fun _ => fun
  | [d1, d2] => { results := [.lit (.bool false)], args := [d1, d2] }
  | _ => none }
def FnExactPowerFormWrongFalsely : Prop := fnExactPowerFormRow.holds Try.pinned (OpenSpec.ofChange fnExactPowerFormWrong)

/-- 'laws.FnConicPoints': WHATEVER THE INPUT: true; the input reads as it did. -/
def fnConicPointsSpec : ChangeSpec := { name := "fnConicPoints", fn := fun _ => fun
  | [d1, d2] => { results := [.lit (.bool true)], args := [d1, d2] }
  | _ => none }
def fnConicPointsRow : OpenClaim := { program := "ytbhkndaejmnmkaa", sum := "b9d969e201210b464931e748219ad41979b2866fc1ad9554c5bfe493c5ca66f7", func := "loop.example/g01066/laws.FnConicPoints", spec := "fnConicPoints", plainKeys := false, apart := false }
def FnConicPointsSaid : Prop := fnConicPointsRow.holds Try.pinned (OpenSpec.ofChange fnConicPointsSpec)

/-- ITS FALSE NEIGHBOUR: 'it returns false'. Refute it at one input. -/
def fnConicPointsWrong : ChangeSpec := { name := "fnConicPoints", fn := fun _ => fun
  | [d1, d2] => { results := [.lit (.bool false)], args := [d1, d2] }
  | _ => none }
def FnConicPointsWrongFalsely : Prop := fnConicPointsRow.holds Try.pinned (OpenSpec.ofChange fnConicPointsWrong)

/-- 'laws.FnExactOrbitPoints': WHATEVER THE INPUT: true; the input reads as it did. -/
def fnExactOrbitPointsSpec : ChangeSpec := { name := "fnExactOrbitPoints", fn := fun _ => fun
  | [d1, d2] => { results := [.lit (.bool true)], args := [d1, d2] }
  | _ => none }
def fnExactOrbitPointsRow : OpenClaim := { program := "ytbhkndaejmnmkaa", sum := "b9d969e201210b464931e748219ad41979b2866fc1ad9554c5bfe493c5ca66f7", func := "loop.example/g01066/laws.FnExactOrbitPoints", spec := "fnExactOrbitPoints", plainKeys := false, apart := false }
def FnExactOrbitPointsSaid : Prop := fnExactOrbitPointsRow.holds Try.pinned (OpenSpec.ofChange fnExactOrbitPointsSpec)

/-- ITS FALSE NEIGHBOUR: 'it returns false'. Refute it at one input. -/
def fnExactOrbitPointsWrong : ChangeSpec := { name := "fnExactOrbitPoints", fn := fun _ => fun
  | [d1, d2] => { results := [.lit (.bool false)], args := [d1, d2] }
  | _ => none }
def FnExactOrbitPointsWrongFalsely : Prop := fnExactOrbitPointsRow.holds Try.pinned (OpenSpec.ofChange fnExactOrbitPointsWrong)

/- THE SECOND FORM. 'bulk': how many values and letters a reading holds, each counted each time it is reached (what is shared counts as often as it is met; a slice's spare places count too). A statement '..UptoSaid' is the law's where the arguments, and the package variables that the reading takes, are together of bulk at most 1048576: NARROWER than '..Said'. Prove '..Said' where nothing that the law and all that it calls make is longer than what came in: it says more and counts as full. Else prove '..UptoSaid'. A law counts once. -/
mutual
def uptoBulk {H : Type} : DataW H → Nat
  | .lit (.string bytes) => bytes.length + 1
  | .lit _ => 1
  | .nil => 1
  | .ptr d => uptoBulk d + 1
  | .slice elems spare => uptoBulkAll elems + uptoBulkAll spare + 1
  | .agg parts => uptoBulkAll parts + 1
  | .iface _ d => uptoBulk d + 1
  | .map entries => uptoBulkEntries entries + 1
  | .held _ => 1
def uptoBulkAll {H : Type} : List (DataW H) → Nat
  | [] => 0
  | d :: r => uptoBulk d + uptoBulkAll r
def uptoBulkEntries {H : Type} : List (Lit × DataW H) → Nat
  | [] => 0
  | x :: r => uptoBulkEntry x + uptoBulkEntries r
def uptoBulkEntry {H : Type} : Lit × DataW H → Nat
  | (.string bytes, d) => bytes.length + uptoBulk d + 1
  | (_, d) => uptoBulk d + 1
 end
def uptoSmall : (H : Type) → List (DataW H) → Bool := fun _ ds => decide (uptoBulkAll ds ≤ 1048576)
def OpenSpec.upto (s : _root_.Go.ChangeSpec) : _root_.Go.OpenSpec := { _root_.Go.OpenSpec.ofChange s with cond := some uptoSmall }

/-- 'laws.FnExactLowerClasses', WHERE WHAT IT READS IS OF BULK AT MOST 1048576: true; the input reads as it did. -/
def fnExactLowerClassesUptoRow : OpenClaim := { program := "ytbhkndaejmnmkaa", sum := "b9d969e201210b464931e748219ad41979b2866fc1ad9554c5bfe493c5ca66f7", func := "loop.example/g01066/laws.FnExactLowerClasses", spec := "fnExactLowerClasses", plainKeys := false, apart := false, narrowed := true }
def FnExactLowerClassesUptoSaid : Prop := fnExactLowerClassesUptoRow.holds Try.pinned (OpenSpec.upto fnExactLowerClassesSpec)

/-- 'laws.FnExactRepresentingForms', WHERE WHAT IT READS IS OF BULK AT MOST 1048576: true; the input reads as it did. -/
def fnExactRepresentingFormsUptoRow : OpenClaim := { program := "ytbhkndaejmnmkaa", sum := "b9d969e201210b464931e748219ad41979b2866fc1ad9554c5bfe493c5ca66f7", func := "loop.example/g01066/laws.FnExactRepresentingForms", spec := "fnExactRepresentingForms", plainKeys := false, apart := false, narrowed := true }
def FnExactRepresentingFormsUptoSaid : Prop := fnExactRepresentingFormsUptoRow.holds Try.pinned (OpenSpec.upto fnExactRepresentingFormsSpec)

/-- 'laws.FnExactComposeForms', WHERE WHAT IT READS IS OF BULK AT MOST 1048576: true; the input reads as it did. -/
def fnExactComposeFormsUptoRow : OpenClaim := { program := "ytbhkndaejmnmkaa", sum := "b9d969e201210b464931e748219ad41979b2866fc1ad9554c5bfe493c5ca66f7", func := "loop.example/g01066/laws.FnExactComposeForms", spec := "fnExactComposeForms", plainKeys := false, apart := false, narrowed := true }
def FnExactComposeFormsUptoSaid : Prop := fnExactComposeFormsUptoRow.holds Try.pinned (OpenSpec.upto fnExactComposeFormsSpec)

/-- 'laws.FnExactDivideForms', WHERE WHAT IT READS IS OF BULK AT MOST 1048576: true; the input reads as it did. -/
def fnExactDivideFormsUptoRow : OpenClaim := { program := "ytbhkndaejmnmkaa", sum := "b9d969e201210b464931e748219ad41979b2866fc1ad9554c5bfe493c5ca66f7", func := "loop.example/g01066/laws.FnExactDivideForms", spec := "fnExactDivideForms", plainKeys := false, apart := false, narrowed := true }
def FnExactDivideFormsUptoSaid : Prop := fnExactDivideFormsUptoRow.holds Try.pinned (OpenSpec.upto fnExactDivideFormsSpec)

/-- 'laws.FnExactPrimesOfForm', WHERE WHAT IT READS IS OF BULK AT MOST 1048576: true; the input reads as it did. -/
def fnExactPrimesOfFormUptoRow : OpenClaim := { program := "ytbhkndaejmnmkaa", sum := "b9d969e201210b464931e748219ad41979b2866fc1ad9554c5bfe493c5ca66f7", func := "loop.example/g01066/laws.FnExactPrimesOfForm", spec := "fnExactPrimesOfForm", plainKeys := false, apart := false, narrowed := true }
def FnExactPrimesOfFormUptoSaid : Prop := fnExactPrimesOfFormUptoRow.holds Try.pinned (OpenSpec.upto fnExactPrimesOfFormSpec)

/-- 'laws.FnExactOrderOf', WHERE WHAT IT READS IS OF BULK AT MOST 1048576: true; the input reads as it did. -/
def fnExactOrderOfUptoRow : OpenClaim := { program := "ytbhkndaejmnmkaa", sum := "b9d969e201210b464931e748219ad41979b2866fc1ad9554c5bfe493c5ca66f7", func := "loop.example/g01066/laws.FnExactOrderOf", spec := "fnExactOrderOf", plainKeys := false, apart := false, narrowed := true }
def FnExactOrderOfUptoSaid : Prop := fnExactOrderOfUptoRow.holds Try.pinned (OpenSpec.upto fnExactOrderOfSpec)

/-- 'laws.FnExactWalkDistance', WHERE WHAT IT READS IS OF BULK AT MOST 1048576: true; the input reads as it did. -/
def fnExactWalkDistanceUptoRow : OpenClaim := { program := "ytbhkndaejmnmkaa", sum := "b9d969e201210b464931e748219ad41979b2866fc1ad9554c5bfe493c5ca66f7", func := "loop.example/g01066/laws.FnExactWalkDistance", spec := "fnExactWalkDistance", plainKeys := false, apart := false, narrowed := true }
def FnExactWalkDistanceUptoSaid : Prop := fnExactWalkDistanceUptoRow.holds Try.pinned (OpenSpec.upto fnExactWalkDistanceSpec)

/-- 'laws.FnExactUpperClass', WHERE WHAT IT READS IS OF BULK AT MOST 1048576: true; the input reads as it did. -/
def fnExactUpperClassUptoRow : OpenClaim := { program := "ytbhkndaejmnmkaa", sum := "b9d969e201210b464931e748219ad41979b2866fc1ad9554c5bfe493c5ca66f7", func := "loop.example/g01066/laws.FnExactUpperClass", spec := "fnExactUpperClass", plainKeys := false, apart := false, narrowed := true }
def FnExactUpperClassUptoSaid : Prop := fnExactUpperClassUptoRow.holds Try.pinned (OpenSpec.upto fnExactUpperClassSpec)

/-- 'laws.FnExactClassPrimeCounts', WHERE WHAT IT READS IS OF BULK AT MOST 1048576: true; the input reads as it did. -/
def fnExactClassPrimeCountsUptoRow : OpenClaim := { program := "ytbhkndaejmnmkaa", sum := "b9d969e201210b464931e748219ad41979b2866fc1ad9554c5bfe493c5ca66f7", func := "loop.example/g01066/laws.FnExactClassPrimeCounts", spec := "fnExactClassPrimeCounts", plainKeys := false, apart := false, narrowed := true }
def FnExactClassPrimeCountsUptoSaid : Prop := fnExactClassPrimeCountsUptoRow.holds Try.pinned (OpenSpec.upto fnExactClassPrimeCountsSpec)

/-- 'laws.FnExactPowerForm', WHERE WHAT IT READS IS OF BULK AT MOST 1048576: true; the input reads as it did. -/
def fnExactPowerFormUptoRow : OpenClaim := { program := "ytbhkndaejmnmkaa", sum := "b9d969e201210b464931e748219ad41979b2866fc1ad9554c5bfe493c5ca66f7", func := "loop.example/g01066/laws.FnExactPowerForm", spec := "fnExactPowerForm", plainKeys := false, apart := false, narrowed := true }
def FnExactPowerFormUptoSaid : Prop := fnExactPowerFormUptoRow.holds Try.pinned (OpenSpec.upto fnExactPowerFormSpec)

/-- 'laws.FnConicPoints', WHERE WHAT IT READS IS OF BULK AT MOST 1048576: true; the input reads as it did. -/
def fnConicPointsUptoRow : OpenClaim := { program := "ytbhkndaejmnmkaa", sum := "b9d969e201210b464931e748219ad41979b2866fc1ad9554c5bfe493c5ca66f7", func := "loop.example/g01066/laws.FnConicPoints", spec := "fnConicPoints", plainKeys := false, apart := false, narrowed := true }
def FnConicPointsUptoSaid : Prop := fnConicPointsUptoRow.holds Try.pinned (OpenSpec.upto fnConicPointsSpec)

/-- 'laws.FnExactOrbitPoints', WHERE WHAT IT READS IS OF BULK AT MOST 1048576: true; the input reads as it did. -/
def fnExactOrbitPointsUptoRow : OpenClaim := { program := "ytbhkndaejmnmkaa", sum := "b9d969e201210b464931e748219ad41979b2866fc1ad9554c5bfe493c5ca66f7", func := "loop.example/g01066/laws.FnExactOrbitPoints", spec := "fnExactOrbitPoints", plainKeys := false, apart := false, narrowed := true }
def FnExactOrbitPointsUptoSaid : Prop := fnExactOrbitPointsUptoRow.holds Try.pinned (OpenSpec.upto fnExactOrbitPointsSpec)

end Rows
end Go.Proofs.Ytbhkndaejmnmkaa
