/-
  No cell of these rows narrows 'for every input' (looked for: loops, veiled, ifaces, maps, wideKeys, modest, calm, conditions, laid).
  DERIVED. THE GIVEN ROWS OF THIS SEAT. 12 by the template 'for every input the law returns true; each argument reads behind the call as it read before'; 0 by the template 'total and deterministic' (their statements: YtnjiahafjjglfaaTotals.lean).
  GIVEN WITH THE SEED: the statements are not yours to turn. If you find one false, say at which input.
  Laid BY PROGRAM, IN A SANDBOX (cutbox-rows.mjs): the forced cells as the released guide's own fill.sh prints them over the translation e778cf40ea581a2c… (all of the seat's roots in one cut). By AI agents, Wed Nov 11 2026. No macro, syntax, notation, axiom, sorry.
-/
import Derived.Test.YtnjiahafjjglfaaChecked
import GoSem.Claim
import GoSem.ClaimJoined
import GoSem.ClaimMapViews
import Derived.JoinedTies
import Derived.KernelRfl
namespace Go.Proofs.Ytnjiahafjjglfaa
/- THE CELL 'sum', in the pinned program and in every row, IS THE sha256 OF THE DUMP (.gsa) THAT YtnjiahafjjglfaaProg.lean LOADS. Nothing in Lean hashes anything: it is a label: what it is worth is what the hold of that sum in a sandbox is worth. -/
noncomputable def Try.pinned : Pinned := { name := "ytnjiahafjjglfaa", sum := "e778cf40ea581a2c4c26c9601e24ce03cbe6f5c1842b991738429bbba22c7c82", checked := Try.checked }
namespace Rows
def none {H : Type} : Left H := { results := [], args := [] }

/-- 'laws.FnExactIdonealNumbers': WHATEVER THE INPUT: true; the input reads as it did. -/
def fnExactIdonealNumbersSpec : ChangeSpec := { name := "fnExactIdonealNumbers", fn := fun _ => fun
  | [d] => { results := [.lit (.bool true)], args := [d] }
  | _ => none }
def fnExactIdonealNumbersRow : OpenClaim := { program := "ytnjiahafjjglfaa", sum := "e778cf40ea581a2c4c26c9601e24ce03cbe6f5c1842b991738429bbba22c7c82", func := "loop.example/g01066/laws.FnExactIdonealNumbers", spec := "fnExactIdonealNumbers", unfollowed := true, recurses := true, plainKeys := false, apart := false }
def FnExactIdonealNumbersSaid : Prop := fnExactIdonealNumbersRow.holds Try.pinned (OpenSpec.ofChange fnExactIdonealNumbersSpec)

/-- ITS FALSE NEIGHBOUR: 'it returns false'. Refute it at one input. -/
def fnExactIdonealNumbersWrong : ChangeSpec := { name := "fnExactIdonealNumbers", fn := fun _ => fun
  | [d] => { results := [.lit (.bool false)], args := [d] }
  | _ => none }
def FnExactIdonealNumbersWrongFalsely : Prop := fnExactIdonealNumbersRow.holds Try.pinned (OpenSpec.ofChange fnExactIdonealNumbersWrong)

/-- 'laws.FnExactGroupTable': WHATEVER THE INPUT: true; the input reads as it did. -/
def fnExactGroupTableSpec : ChangeSpec := { name := "fnExactGroupTable", fn := fun _ => fun
  | [d] => { results := [.lit (.bool true)], args := [d] }
  | _ => none }
def fnExactGroupTableRow : OpenClaim := { program := "ytnjiahafjjglfaa", sum := "e778cf40ea581a2c4c26c9601e24ce03cbe6f5c1842b991738429bbba22c7c82", func := "loop.example/g01066/laws.FnExactGroupTable", spec := "fnExactGroupTable", plainKeys := false, apart := false }
def FnExactGroupTableSaid : Prop := fnExactGroupTableRow.holds Try.pinned (OpenSpec.ofChange fnExactGroupTableSpec)

/-- ITS FALSE NEIGHBOUR: 'it returns false'. Refute it at one input. -/
def fnExactGroupTableWrong : ChangeSpec := { name := "fnExactGroupTable", fn := fun _ => fun
  | [d] => { results := [.lit (.bool false)], args := [d] }
  | _ => none }
def FnExactGroupTableWrongFalsely : Prop := fnExactGroupTableRow.holds Try.pinned (OpenSpec.ofChange fnExactGroupTableWrong)

/-- 'laws.FnExactPrimeClass': WHATEVER THE INPUT: true; the input reads as it did. -/
def fnExactPrimeClassSpec : ChangeSpec := { name := "fnExactPrimeClass", fn := fun _ => fun
  | [d1, d2] => { results := [.lit (.bool true)], args := [d1, d2] }
  | _ => none }
def fnExactPrimeClassRow : OpenClaim := { program := "ytnjiahafjjglfaa", sum := "e778cf40ea581a2c4c26c9601e24ce03cbe6f5c1842b991738429bbba22c7c82", func := "loop.example/g01066/laws.FnExactPrimeClass", spec := "fnExactPrimeClass", plainKeys := false, apart := false }
def FnExactPrimeClassSaid : Prop := fnExactPrimeClassRow.holds Try.pinned (OpenSpec.ofChange fnExactPrimeClassSpec)

/-- ITS FALSE NEIGHBOUR: 'it returns false'. Refute it at one input. -/
def fnExactPrimeClassWrong : ChangeSpec := { name := "fnExactPrimeClass", fn := fun _ => fun
  | [d1, d2] => { results := [.lit (.bool false)], args := [d1, d2] }
  | _ => none }
def FnExactPrimeClassWrongFalsely : Prop := fnExactPrimeClassRow.holds Try.pinned (OpenSpec.ofChange fnExactPrimeClassWrong)

/-- 'laws.FnExactFirstDifference': WHATEVER THE INPUT: true; the input reads as it did. -/
def fnExactFirstDifferenceSpec : ChangeSpec := { name := "fnExactFirstDifference", fn := fun _ => fun
  | [d1, d2] => { results := [.lit (.bool true)], args := [d1, d2] }
  | _ => none }
def fnExactFirstDifferenceRow : OpenClaim := { program := "ytnjiahafjjglfaa", sum := "e778cf40ea581a2c4c26c9601e24ce03cbe6f5c1842b991738429bbba22c7c82", func := "loop.example/g01066/laws.FnExactFirstDifference", spec := "fnExactFirstDifference", plainKeys := false, apart := false }
def FnExactFirstDifferenceSaid : Prop := fnExactFirstDifferenceRow.holds Try.pinned (OpenSpec.ofChange fnExactFirstDifferenceSpec)

/-- ITS FALSE NEIGHBOUR: 'it returns false'. Refute it at one input. -/
def fnExactFirstDifferenceWrong : ChangeSpec := { name := "fnExactFirstDifference", fn := fun _ => fun
  | [d1, d2] => { results := [.lit (.bool false)], args := [d1, d2] }
  | _ => none }
def FnExactFirstDifferenceWrongFalsely : Prop := fnExactFirstDifferenceRow.holds Try.pinned (OpenSpec.ofChange fnExactFirstDifferenceWrong)

/-- 'laws.FnExactTotalCount': WHATEVER THE INPUT: true; the input reads as it did. -/
def fnExactTotalCountSpec : ChangeSpec := { name := "fnExactTotalCount", fn := fun _ => fun
  | [d1, d2] => { results := [.lit (.bool true)], args := [d1, d2] }
  | _ => none }
def fnExactTotalCountRow : OpenClaim := { program := "ytnjiahafjjglfaa", sum := "e778cf40ea581a2c4c26c9601e24ce03cbe6f5c1842b991738429bbba22c7c82", func := "loop.example/g01066/laws.FnExactTotalCount", spec := "fnExactTotalCount", plainKeys := false, apart := false }
def FnExactTotalCountSaid : Prop := fnExactTotalCountRow.holds Try.pinned (OpenSpec.ofChange fnExactTotalCountSpec)

/-- ITS FALSE NEIGHBOUR: 'it returns false'. Refute it at one input. -/
def fnExactTotalCountWrong : ChangeSpec := { name := "fnExactTotalCount", fn := fun _ => fun
  | [d1, d2] => { results := [.lit (.bool false)], args := [d1, d2] }
  | _ => none }
def FnExactTotalCountWrongFalsely : Prop := fnExactTotalCountRow.holds Try.pinned (OpenSpec.ofChange fnExactTotalCountWrong)

/-- 'laws.FnExactClassIndex': WHATEVER THE INPUT: true; the input reads as it did. -/
def fnExactClassIndexSpec : ChangeSpec := { name := "fnExactClassIndex", fn := fun _ => fun
  | [d] => { results := [.lit (.bool true)], args := [d] }
  | _ => none }
def fnExactClassIndexRow : OpenClaim := { program := "ytnjiahafjjglfaa", sum := "e778cf40ea581a2c4c26c9601e24ce03cbe6f5c1842b991738429bbba22c7c82", func := "loop.example/g01066/laws.FnExactClassIndex", spec := "fnExactClassIndex", plainKeys := false, apart := false }
def FnExactClassIndexSaid : Prop := fnExactClassIndexRow.holds Try.pinned (OpenSpec.ofChange fnExactClassIndexSpec)

/-- ITS FALSE NEIGHBOUR: 'it returns false'. Refute it at one input. -/
def fnExactClassIndexWrong : ChangeSpec := { name := "fnExactClassIndex", fn := fun _ => fun
  | [d] => { results := [.lit (.bool false)], args := [d] }
  | _ => none }
def FnExactClassIndexWrongFalsely : Prop := fnExactClassIndexRow.holds Try.pinned (OpenSpec.ofChange fnExactClassIndexWrong)

/-- 'laws.FnExactAreIdealsEquivalent': WHATEVER THE INPUT: true; the input reads as it did. -/
def fnExactAreIdealsEquivalentSpec : ChangeSpec := { name := "fnExactAreIdealsEquivalent", fn := fun _ => fun
  | [d1, d2, d3] => { results := [.lit (.bool true)], args := [d1, d2, d3] }
  | _ => none }
def fnExactAreIdealsEquivalentRow : OpenClaim := { program := "ytnjiahafjjglfaa", sum := "e778cf40ea581a2c4c26c9601e24ce03cbe6f5c1842b991738429bbba22c7c82", func := "loop.example/g01066/laws.FnExactAreIdealsEquivalent", spec := "fnExactAreIdealsEquivalent", plainKeys := false, apart := false }
def FnExactAreIdealsEquivalentSaid : Prop := fnExactAreIdealsEquivalentRow.holds Try.pinned (OpenSpec.ofChange fnExactAreIdealsEquivalentSpec)

/-- ITS FALSE NEIGHBOUR: 'it returns false'. Refute it at one input. -/
def fnExactAreIdealsEquivalentWrong : ChangeSpec := { name := "fnExactAreIdealsEquivalent", fn := fun _ => fun
  | [d1, d2, d3] => { results := [.lit (.bool false)], args := [d1, d2, d3] }
  | _ => none }
def FnExactAreIdealsEquivalentWrongFalsely : Prop := fnExactAreIdealsEquivalentRow.holds Try.pinned (OpenSpec.ofChange fnExactAreIdealsEquivalentWrong)

/-- 'laws.FnExactAmbiguousClasses': WHATEVER THE INPUT: true; the input reads as it did. -/
def fnExactAmbiguousClassesSpec : ChangeSpec := { name := "fnExactAmbiguousClasses", fn := fun _ => fun
  | [d] => { results := [.lit (.bool true)], args := [d] }
  | _ => none }
def fnExactAmbiguousClassesRow : OpenClaim := { program := "ytnjiahafjjglfaa", sum := "e778cf40ea581a2c4c26c9601e24ce03cbe6f5c1842b991738429bbba22c7c82", func := "loop.example/g01066/laws.FnExactAmbiguousClasses", spec := "fnExactAmbiguousClasses", unfollowed := true, recurses := true, plainKeys := false, apart := false }
def FnExactAmbiguousClassesSaid : Prop := fnExactAmbiguousClassesRow.holds Try.pinned (OpenSpec.ofChange fnExactAmbiguousClassesSpec)

/-- ITS FALSE NEIGHBOUR: 'it returns false'. Refute it at one input. -/
def fnExactAmbiguousClassesWrong : ChangeSpec := { name := "fnExactAmbiguousClasses", fn := fun _ => fun
  | [d] => { results := [.lit (.bool false)], args := [d] }
  | _ => none }
def FnExactAmbiguousClassesWrongFalsely : Prop := fnExactAmbiguousClassesRow.holds Try.pinned (OpenSpec.ofChange fnExactAmbiguousClassesWrong)

/-- 'laws.FnExactIdealClass': WHATEVER THE INPUT: true; the input reads as it did. -/
def fnExactIdealClassSpec : ChangeSpec := { name := "fnExactIdealClass", fn := fun _ => fun
  | [d1, d2] => { results := [.lit (.bool true)], args := [d1, d2] }
  | _ => none }
def fnExactIdealClassRow : OpenClaim := { program := "ytnjiahafjjglfaa", sum := "e778cf40ea581a2c4c26c9601e24ce03cbe6f5c1842b991738429bbba22c7c82", func := "loop.example/g01066/laws.FnExactIdealClass", spec := "fnExactIdealClass", plainKeys := false, apart := false }
def FnExactIdealClassSaid : Prop := fnExactIdealClassRow.holds Try.pinned (OpenSpec.ofChange fnExactIdealClassSpec)

/-- ITS FALSE NEIGHBOUR: 'it returns false'. Refute it at one input. -/
def fnExactIdealClassWrong : ChangeSpec := { name := "fnExactIdealClass", fn := fun _ => fun
  | [d1, d2] => { results := [.lit (.bool false)], args := [d1, d2] }
  | _ => none }
def FnExactIdealClassWrongFalsely : Prop := fnExactIdealClassRow.holds Try.pinned (OpenSpec.ofChange fnExactIdealClassWrong)

/-- 'laws.FnExactSameGenus': WHATEVER THE INPUT: true; the input reads as it did. -/
def fnExactSameGenusSpec : ChangeSpec := { name := "fnExactSameGenus", fn := fun _ => fun
  | [d1, d2] => { results := [.lit (.bool true)], args := [d1, d2] }
  | _ => none }
def fnExactSameGenusRow : OpenClaim := { program := "ytnjiahafjjglfaa", sum := "e778cf40ea581a2c4c26c9601e24ce03cbe6f5c1842b991738429bbba22c7c82", func := "loop.example/g01066/laws.FnExactSameGenus", spec := "fnExactSameGenus", plainKeys := false, apart := false }
def FnExactSameGenusSaid : Prop := fnExactSameGenusRow.holds Try.pinned (OpenSpec.ofChange fnExactSameGenusSpec)

/-- ITS FALSE NEIGHBOUR: 'it returns false'. Refute it at one input. -/
def fnExactSameGenusWrong : ChangeSpec := { name := "fnExactSameGenus", fn := fun _ => fun
  | [d1, d2] => { results := [.lit (.bool false)], args := [d1, d2] }
  | _ => none }
def FnExactSameGenusWrongFalsely : Prop := fnExactSameGenusRow.holds Try.pinned (OpenSpec.ofChange fnExactSameGenusWrong)

/-- 'laws.FnExactIsPrincipalIdeal': WHATEVER THE INPUT: true; the input reads as it did. -/
def fnExactIsPrincipalIdealSpec : ChangeSpec := { name := "fnExactIsPrincipalIdeal", fn := fun _ => fun
  | [d1, d2] => { results := [.lit (.bool true)], args := [d1, d2] }
  | _ => none }
def fnExactIsPrincipalIdealRow : OpenClaim := { program := "ytnjiahafjjglfaa", sum := "e778cf40ea581a2c4c26c9601e24ce03cbe6f5c1842b991738429bbba22c7c82", func := "loop.example/g01066/laws.FnExactIsPrincipalIdeal", spec := "fnExactIsPrincipalIdeal", plainKeys := false, apart := false }
def FnExactIsPrincipalIdealSaid : Prop := fnExactIsPrincipalIdealRow.holds Try.pinned (OpenSpec.ofChange fnExactIsPrincipalIdealSpec)

/-- ITS FALSE NEIGHBOUR: 'it returns false'. Refute it at one input. -/
def fnExactIsPrincipalIdealWrong : ChangeSpec := { name := "fnExactIsPrincipalIdeal", fn := fun _ => fun
  | [d1, d2] => { results := [.lit (.bool false)], args := [d1, d2] }
  | _ => none }
def FnExactIsPrincipalIdealWrongFalsely : Prop := fnExactIsPrincipalIdealRow.holds Try.pinned (OpenSpec.ofChange fnExactIsPrincipalIdealWrong)

/-- 'laws.FnExactThetaSeries': WHATEVER THE INPUT: true; the input reads as it did. -/
def fnExactThetaSeriesSpec : ChangeSpec := { name := "fnExactThetaSeries", fn := fun _ => fun
  | [d1, d2] => { results := [.lit (.bool true)], args := [d1, d2] }
  | _ => none }
def fnExactThetaSeriesRow : OpenClaim := { program := "ytnjiahafjjglfaa", sum := "e778cf40ea581a2c4c26c9601e24ce03cbe6f5c1842b991738429bbba22c7c82", func := "loop.example/g01066/laws.FnExactThetaSeries", spec := "fnExactThetaSeries", plainKeys := false, apart := false }
def FnExactThetaSeriesSaid : Prop := fnExactThetaSeriesRow.holds Try.pinned (OpenSpec.ofChange fnExactThetaSeriesSpec)

/-- ITS FALSE NEIGHBOUR: 'it returns false'. Refute it at one input. -/
def fnExactThetaSeriesWrong : ChangeSpec := { name := "fnExactThetaSeries", fn := fun _ => fun
  | [d1, d2] => { results := [.lit (.bool false)], args := [d1, d2] }
  | _ => none }
def FnExactThetaSeriesWrongFalsely : Prop := fnExactThetaSeriesRow.holds Try.pinned (OpenSpec.ofChange fnExactThetaSeriesWrong)

/- THE SECOND FORM. 'bulk': how many values and letters a reading holds, each counted each time it is reached (what is shared counts as often as it is met; a slice's spare places count too). A statement '..UptoSaid' is the law's where the arguments, and the package variables that the reading takes, are together of bulk at most 1048576: NARROWER than '..Said'. Prove '..Said' where nothing that the law and all that it calls make is longer than what came in: it says more and counts as full. Else prove '..UptoSaid'. A law counts once. -/
mutual
def uptoBulk {H : Type} : DataW H → Nat
  | .lit (.string bytes) => bytes.length + 1
  | .lit _ => 1
  | .nil => 1
  | .ptr d => uptoBulk d + 1
  | .slice elems spare => uptoBulkAll elems + uptoBulkAll spare + 1
  | .agg parts => uptoBulkAll parts + 1
  | .iface _ d => uptoBulk d + 1
  | .map entries => uptoBulkEntries entries + 1
  | .held _ => 1
def uptoBulkAll {H : Type} : List (DataW H) → Nat
  | [] => 0
  | d :: r => uptoBulk d + uptoBulkAll r
def uptoBulkEntries {H : Type} : List (Lit × DataW H) → Nat
  | [] => 0
  | x :: r => uptoBulkEntry x + uptoBulkEntries r
def uptoBulkEntry {H : Type} : Lit × DataW H → Nat
  | (.string bytes, d) => bytes.length + uptoBulk d + 1
  | (_, d) => uptoBulk d + 1
 end
def uptoSmall : (H : Type) → List (DataW H) → Bool := fun _ ds => decide (uptoBulkAll ds ≤ 1048576)
def OpenSpec.upto (s : _root_.Go.ChangeSpec) : _root_.Go.OpenSpec := { _root_.Go.OpenSpec.ofChange s with cond := some uptoSmall }

/-- 'laws.FnExactIdonealNumbers', WHERE WHAT IT READS IS OF BULK AT MOST 1048576: true; the input reads as it did. -/
def fnExactIdonealNumbersUptoRow : OpenClaim := { program := "ytnjiahafjjglfaa", sum := "e778cf40ea581a2c4c26c9601e24ce03cbe6f5c1842b991738429bbba22c7c82", func := "loop.example/g01066/laws.FnExactIdonealNumbers", spec := "fnExactIdonealNumbers", unfollowed := true, recurses := true, plainKeys := false, apart := false, narrowed := true }
def FnExactIdonealNumbersUptoSaid : Prop := fnExactIdonealNumbersUptoRow.holds Try.pinned (OpenSpec.upto fnExactIdonealNumbersSpec)

/-- 'laws.FnExactGroupTable', WHERE WHAT IT READS IS OF BULK AT MOST 1048576: true; the input reads as it did. -/
def fnExactGroupTableUptoRow : OpenClaim := { program := "ytnjiahafjjglfaa", sum := "e778cf40ea581a2c4c26c9601e24ce03cbe6f5c1842b991738429bbba22c7c82", func := "loop.example/g01066/laws.FnExactGroupTable", spec := "fnExactGroupTable", plainKeys := false, apart := false, narrowed := true }
def FnExactGroupTableUptoSaid : Prop := fnExactGroupTableUptoRow.holds Try.pinned (OpenSpec.upto fnExactGroupTableSpec)

/-- 'laws.FnExactPrimeClass', WHERE WHAT IT READS IS OF BULK AT MOST 1048576: true; the input reads as it did. -/
def fnExactPrimeClassUptoRow : OpenClaim := { program := "ytnjiahafjjglfaa", sum := "e778cf40ea581a2c4c26c9601e24ce03cbe6f5c1842b991738429bbba22c7c82", func := "loop.example/g01066/laws.FnExactPrimeClass", spec := "fnExactPrimeClass", plainKeys := false, apart := false, narrowed := true }
def FnExactPrimeClassUptoSaid : Prop := fnExactPrimeClassUptoRow.holds Try.pinned (OpenSpec.upto fnExactPrimeClassSpec)

/-- 'laws.FnExactFirstDifference', WHERE WHAT IT READS IS OF BULK AT MOST 1048576: true; the input reads as it did. -/
def fnExactFirstDifferenceUptoRow : OpenClaim := { program := "ytnjiahafjjglfaa", sum := "e778cf40ea581a2c4c26c9601e24ce03cbe6f5c1842b991738429bbba22c7c82", func := "loop.example/g01066/laws.FnExactFirstDifference", spec := "fnExactFirstDifference", plainKeys := false, apart := false, narrowed := true }
def FnExactFirstDifferenceUptoSaid : Prop := fnExactFirstDifferenceUptoRow.holds Try.pinned (OpenSpec.upto fnExactFirstDifferenceSpec)

/-- 'laws.FnExactTotalCount', WHERE WHAT IT READS IS OF BULK AT MOST 1048576: true; the input reads as it did. -/
def fnExactTotalCountUptoRow : OpenClaim := { program := "ytnjiahafjjglfaa", sum := "e778cf40ea581a2c4c26c9601e24ce03cbe6f5c1842b991738429bbba22c7c82", func := "loop.example/g01066/laws.FnExactTotalCount", spec := "fnExactTotalCount", plainKeys := false, apart := false, narrowed := true }
def FnExactTotalCountUptoSaid : Prop := fnExactTotalCountUptoRow.holds Try.pinned (OpenSpec.upto fnExactTotalCountSpec)

/-- 'laws.FnExactClassIndex', WHERE WHAT IT READS IS OF BULK AT MOST 1048576: true; the input reads as it did. -/
def fnExactClassIndexUptoRow : OpenClaim := { program := "ytnjiahafjjglfaa", sum := "e778cf40ea581a2c4c26c9601e24ce03cbe6f5c1842b991738429bbba22c7c82", func := "loop.example/g01066/laws.FnExactClassIndex", spec := "fnExactClassIndex", plainKeys := false, apart := false, narrowed := true }
def FnExactClassIndexUptoSaid : Prop := fnExactClassIndexUptoRow.holds Try.pinned (OpenSpec.upto fnExactClassIndexSpec)

/-- 'laws.FnExactAreIdealsEquivalent', WHERE WHAT IT READS IS OF BULK AT MOST 1048576: true; the input reads as it did. -/
def fnExactAreIdealsEquivalentUptoRow : OpenClaim := { program := "ytnjiahafjjglfaa", sum := "e778cf40ea581a2c4c26c9601e24ce03cbe6f5c1842b991738429bbba22c7c82", func := "loop.example/g01066/laws.FnExactAreIdealsEquivalent", spec := "fnExactAreIdealsEquivalent", plainKeys := false, apart := false, narrowed := true }
def FnExactAreIdealsEquivalentUptoSaid : Prop := fnExactAreIdealsEquivalentUptoRow.holds Try.pinned (OpenSpec.upto fnExactAreIdealsEquivalentSpec)

/-- 'laws.FnExactAmbiguousClasses', WHERE WHAT IT READS IS OF BULK AT MOST 1048576: true; the input reads as it did. -/
def fnExactAmbiguousClassesUptoRow : OpenClaim := { program := "ytnjiahafjjglfaa", sum := "e778cf40ea581a2c4c26c9601e24ce03cbe6f5c1842b991738429bbba22c7c82", func := "loop.example/g01066/laws.FnExactAmbiguousClasses", spec := "fnExactAmbiguousClasses", unfollowed := true, recurses := true, plainKeys := false, apart := false, narrowed := true }
def FnExactAmbiguousClassesUptoSaid : Prop := fnExactAmbiguousClassesUptoRow.holds Try.pinned (OpenSpec.upto fnExactAmbiguousClassesSpec)

/-- 'laws.FnExactIdealClass', WHERE WHAT IT READS IS OF BULK AT MOST 1048576: true; the input reads as it did. -/
def fnExactIdealClassUptoRow : OpenClaim := { program := "ytnjiahafjjglfaa", sum := "e778cf40ea581a2c4c26c9601e24ce03cbe6f5c1842b991738429bbba22c7c82", func := "loop.example/g01066/laws.FnExactIdealClass", spec := "fnExactIdealClass", plainKeys := false, apart := false, narrowed := true }
def FnExactIdealClassUptoSaid : Prop := fnExactIdealClassUptoRow.holds Try.pinned (OpenSpec.upto fnExactIdealClassSpec)

/-- 'laws.FnExactSameGenus', WHERE WHAT IT READS IS OF BULK AT MOST 1048576: true; the input reads as it did. -/
def fnExactSameGenusUptoRow : OpenClaim := { program := "ytnjiahafjjglfaa", sum := "e778cf40ea581a2c4c26c9601e24ce03cbe6f5c1842b991738429bbba22c7c82", func := "loop.example/g01066/laws.FnExactSameGenus", spec := "fnExactSameGenus", plainKeys := false, apart := false, narrowed := true }
def FnExactSameGenusUptoSaid : Prop := fnExactSameGenusUptoRow.holds Try.pinned (OpenSpec.upto fnExactSameGenusSpec)

/-- 'laws.FnExactIsPrincipalIdeal', WHERE WHAT IT READS IS OF BULK AT MOST 1048576: true; the input reads as it did. -/
def fnExactIsPrincipalIdealUptoRow : OpenClaim := { program := "ytnjiahafjjglfaa", sum := "e778cf40ea581a2c4c26c9601e24ce03cbe6f5c1842b991738429bbba22c7c82", func := "loop.example/g01066/laws.FnExactIsPrincipalIdeal", spec := "fnExactIsPrincipalIdeal", plainKeys := false, apart := false, narrowed := true }
def FnExactIsPrincipalIdealUptoSaid : Prop := fnExactIsPrincipalIdealUptoRow.holds Try.pinned (OpenSpec.upto fnExactIsPrincipalIdealSpec)

/-- 'laws.FnExactThetaSeries', WHERE WHAT IT READS IS OF BULK AT MOST 1048576: true; the input reads as it did. -/
def fnExactThetaSeriesUptoRow : OpenClaim := { program := "ytnjiahafjjglfaa", sum := "e778cf40ea581a2c4c26c9601e24ce03cbe6f5c1842b991738429bbba22c7c82", func := "loop.example/g01066/laws.FnExactThetaSeries", spec := "fnExactThetaSeries", plainKeys := false, apart := false, narrowed := true }
def FnExactThetaSeriesUptoSaid : Prop := fnExactThetaSeriesUptoRow.holds Try.pinned (OpenSpec.upto fnExactThetaSeriesSpec)

end Rows
end Go.Proofs.Ytnjiahafjjglfaa
