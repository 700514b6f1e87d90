/-
  No cell of these rows narrows 'for every input' (looked for: loops, veiled, ifaces, maps, wideKeys, modest, calm, conditions, laid).
  DERIVED. THE GIVEN ROWS OF THIS SEAT. 12 by the template 'for every input the law returns true; each argument reads behind the call as it read before'; 0 by the template 'total and deterministic' (their statements: YtikmbgaoflpndaaTotals.lean).
  GIVEN WITH THE SEED: the statements are not yours to turn. If you find one false, say at which input.
  Laid BY PROGRAM, IN A SANDBOX (cutbox-rows.mjs): the forced cells as the released guide's own fill.sh prints them over the translation b4d3ab921972cf25… (all of the seat's roots in one cut). By AI agents, Wed Nov 11 2026. No macro, syntax, notation, axiom, sorry.
-/
import Derived.Test.YtikmbgaoflpndaaChecked
import GoSem.Claim
import GoSem.ClaimJoined
import GoSem.ClaimMapViews
import Derived.JoinedTies
import Derived.KernelRfl
namespace Go.Proofs.Ytikmbgaoflpndaa
/- THE CELL 'sum', in the pinned program and in every row, IS THE sha256 OF THE DUMP (.gsa) THAT YtikmbgaoflpndaaProg.lean LOADS. Nothing in Lean hashes anything: it is a label: what it is worth is what the hold of that sum in a sandbox is worth. -/
noncomputable def Try.pinned : Pinned := { name := "ytikmbgaoflpndaa", sum := "b4d3ab921972cf25b419325d9627bf2d7ec986674857e23732b704065f7e9788", checked := Try.checked }
namespace Rows
def none {H : Type} : Left H := { results := [], args := [] }

/-- 'laws.FnExactIsAmbiguousClass': WHATEVER THE INPUT: true; the input reads as it did. -/
def fnExactIsAmbiguousClassSpec : ChangeSpec := { name := "fnExactIsAmbiguousClass", fn := fun _ => fun
  | [d] => { results := [.lit (.bool true)], args := [d] }
  | _ => none }
def fnExactIsAmbiguousClassRow : OpenClaim := { program := "ytikmbgaoflpndaa", sum := "b4d3ab921972cf25b419325d9627bf2d7ec986674857e23732b704065f7e9788", func := "loop.example/g01066/laws.FnExactIsAmbiguousClass", spec := "fnExactIsAmbiguousClass", apart := false }
def FnExactIsAmbiguousClassSaid : Prop := fnExactIsAmbiguousClassRow.holds Try.pinned (OpenSpec.ofChange fnExactIsAmbiguousClassSpec)

/-- ITS FALSE NEIGHBOUR: 'it returns false'. Refute it at one input. -/
def fnExactIsAmbiguousClassWrong : ChangeSpec := { name := "fnExactIsAmbiguousClass", fn := fun _ => fun
  | [d] => { results := [.lit (.bool false)], args := [d] }
  | _ => none }
def FnExactIsAmbiguousClassWrongFalsely : Prop := fnExactIsAmbiguousClassRow.holds Try.pinned (OpenSpec.ofChange fnExactIsAmbiguousClassWrong)

/-- 'laws.FnExactIsIdoneal': WHATEVER THE INPUT: true; the input reads as it did. -/
def fnExactIsIdonealSpec : ChangeSpec := { name := "fnExactIsIdoneal", fn := fun _ => fun
  | [d] => { results := [.lit (.bool true)], args := [d] }
  | _ => none }
def fnExactIsIdonealRow : OpenClaim := { program := "ytikmbgaoflpndaa", sum := "b4d3ab921972cf25b419325d9627bf2d7ec986674857e23732b704065f7e9788", func := "loop.example/g01066/laws.FnExactIsIdoneal", spec := "fnExactIsIdoneal", unfollowed := true, recurses := true, apart := false }
def FnExactIsIdonealSaid : Prop := fnExactIsIdonealRow.holds Try.pinned (OpenSpec.ofChange fnExactIsIdonealSpec)

/-- ITS FALSE NEIGHBOUR: 'it returns false'. Refute it at one input. -/
def fnExactIsIdonealWrong : ChangeSpec := { name := "fnExactIsIdoneal", fn := fun _ => fun
  | [d] => { results := [.lit (.bool false)], args := [d] }
  | _ => none }
def FnExactIsIdonealWrongFalsely : Prop := fnExactIsIdonealRow.holds Try.pinned (OpenSpec.ofChange fnExactIsIdonealWrong)

/-- 'laws.FnExactReducedForms': WHATEVER THE INPUT: true; the input reads as it did. -/
def fnExactReducedFormsSpec : ChangeSpec := { name := "fnExactReducedForms", fn := fun _ => fun
  | [d] => { results := [.lit (.bool true)], args := [d] }
  | _ => none }
def fnExactReducedFormsRow : OpenClaim := { program := "ytikmbgaoflpndaa", sum := "b4d3ab921972cf25b419325d9627bf2d7ec986674857e23732b704065f7e9788", func := "loop.example/g01066/laws.FnExactReducedForms", spec := "fnExactReducedForms", apart := false }
def FnExactReducedFormsSaid : Prop := fnExactReducedFormsRow.holds Try.pinned (OpenSpec.ofChange fnExactReducedFormsSpec)

/-- ITS FALSE NEIGHBOUR: 'it returns false'. Refute it at one input. -/
def fnExactReducedFormsWrong : ChangeSpec := { name := "fnExactReducedForms", fn := fun _ => fun
  | [d] => { results := [.lit (.bool false)], args := [d] }
  | _ => none }
def FnExactReducedFormsWrongFalsely : Prop := fnExactReducedFormsRow.holds Try.pinned (OpenSpec.ofChange fnExactReducedFormsWrong)

/-- 'laws.FnExactEquivalenceMatrix': WHATEVER THE INPUT: true; the input reads as it did. -/
def fnExactEquivalenceMatrixSpec : ChangeSpec := { name := "fnExactEquivalenceMatrix", fn := fun _ => fun
  | [d1, d2] => { results := [.lit (.bool true)], args := [d1, d2] }
  | _ => none }
def fnExactEquivalenceMatrixRow : OpenClaim := { program := "ytikmbgaoflpndaa", sum := "b4d3ab921972cf25b419325d9627bf2d7ec986674857e23732b704065f7e9788", func := "loop.example/g01066/laws.FnExactEquivalenceMatrix", spec := "fnExactEquivalenceMatrix", apart := false }
def FnExactEquivalenceMatrixSaid : Prop := fnExactEquivalenceMatrixRow.holds Try.pinned (OpenSpec.ofChange fnExactEquivalenceMatrixSpec)

/-- ITS FALSE NEIGHBOUR: 'it returns false'. Refute it at one input. -/
def fnExactEquivalenceMatrixWrong : ChangeSpec := { name := "fnExactEquivalenceMatrix", fn := fun _ => fun
  | [d1, d2] => { results := [.lit (.bool false)], args := [d1, d2] }
  | _ => none }
def FnExactEquivalenceMatrixWrongFalsely : Prop := fnExactEquivalenceMatrixRow.holds Try.pinned (OpenSpec.ofChange fnExactEquivalenceMatrixWrong)

/-- 'laws.FnExactIsIdentity': WHATEVER THE INPUT: true; the input reads as it did. -/
def fnExactIsIdentitySpec : ChangeSpec := { name := "fnExactIsIdentity", fn := fun _ => fun
  | [d] => { results := [.lit (.bool true)], args := [d] }
  | _ => none }
def fnExactIsIdentityRow : OpenClaim := { program := "ytikmbgaoflpndaa", sum := "b4d3ab921972cf25b419325d9627bf2d7ec986674857e23732b704065f7e9788", func := "loop.example/g01066/laws.FnExactIsIdentity", spec := "fnExactIsIdentity", apart := false }
def FnExactIsIdentitySaid : Prop := fnExactIsIdentityRow.holds Try.pinned (OpenSpec.ofChange fnExactIsIdentitySpec)

/-- ITS FALSE NEIGHBOUR: 'it returns false'. Refute it at one input. -/
def fnExactIsIdentityWrong : ChangeSpec := { name := "fnExactIsIdentity", fn := fun _ => fun
  | [d] => { results := [.lit (.bool false)], args := [d] }
  | _ => none }
def FnExactIsIdentityWrongFalsely : Prop := fnExactIsIdentityRow.holds Try.pinned (OpenSpec.ofChange fnExactIsIdentityWrong)

/-- 'laws.FnExactAreAllAmbiguous': WHATEVER THE INPUT: true; the input reads as it did. -/
def fnExactAreAllAmbiguousSpec : ChangeSpec := { name := "fnExactAreAllAmbiguous", fn := fun _ => fun
  | [d] => { results := [.lit (.bool true)], args := [d] }
  | _ => none }
def fnExactAreAllAmbiguousRow : OpenClaim := { program := "ytikmbgaoflpndaa", sum := "b4d3ab921972cf25b419325d9627bf2d7ec986674857e23732b704065f7e9788", func := "loop.example/g01066/laws.FnExactAreAllAmbiguous", spec := "fnExactAreAllAmbiguous", unfollowed := true, recurses := true, apart := false }
def FnExactAreAllAmbiguousSaid : Prop := fnExactAreAllAmbiguousRow.holds Try.pinned (OpenSpec.ofChange fnExactAreAllAmbiguousSpec)

/-- ITS FALSE NEIGHBOUR: 'it returns false'. Refute it at one input. -/
def fnExactAreAllAmbiguousWrong : ChangeSpec := { name := "fnExactAreAllAmbiguous", fn := fun _ => fun
  | [d] => { results := [.lit (.bool false)], args := [d] }
  | _ => none }
def FnExactAreAllAmbiguousWrongFalsely : Prop := fnExactAreAllAmbiguousRow.holds Try.pinned (OpenSpec.ofChange fnExactAreAllAmbiguousWrong)

/-- 'laws.FnExactCubeOf': WHATEVER THE INPUT: true; the input reads as it did. -/
def fnExactCubeOfSpec : ChangeSpec := { name := "fnExactCubeOf", fn := fun _ => fun
  | [d1, d2] => { results := [.lit (.bool true)], args := [d1, d2] }
  | _ => none }
def fnExactCubeOfRow : OpenClaim := { program := "ytikmbgaoflpndaa", sum := "b4d3ab921972cf25b419325d9627bf2d7ec986674857e23732b704065f7e9788", func := "loop.example/g01066/laws.FnExactCubeOf", spec := "fnExactCubeOf", apart := false }
def FnExactCubeOfSaid : Prop := fnExactCubeOfRow.holds Try.pinned (OpenSpec.ofChange fnExactCubeOfSpec)

/-- ITS FALSE NEIGHBOUR: 'it returns false'. Refute it at one input. -/
def fnExactCubeOfWrong : ChangeSpec := { name := "fnExactCubeOf", fn := fun _ => fun
  | [d1, d2] => { results := [.lit (.bool false)], args := [d1, d2] }
  | _ => none }
def FnExactCubeOfWrongFalsely : Prop := fnExactCubeOfRow.holds Try.pinned (OpenSpec.ofChange fnExactCubeOfWrong)

/-- 'laws.FnExactInverseForm': WHATEVER THE INPUT: true; the input reads as it did. -/
def fnExactInverseFormSpec : ChangeSpec := { name := "fnExactInverseForm", fn := fun _ => fun
  | [d] => { results := [.lit (.bool true)], args := [d] }
  | _ => none }
def fnExactInverseFormRow : OpenClaim := { program := "ytikmbgaoflpndaa", sum := "b4d3ab921972cf25b419325d9627bf2d7ec986674857e23732b704065f7e9788", func := "loop.example/g01066/laws.FnExactInverseForm", spec := "fnExactInverseForm", apart := false }
def FnExactInverseFormSaid : Prop := fnExactInverseFormRow.holds Try.pinned (OpenSpec.ofChange fnExactInverseFormSpec)

/-- ITS FALSE NEIGHBOUR: 'it returns false'. Refute it at one input. -/
def fnExactInverseFormWrong : ChangeSpec := { name := "fnExactInverseForm", fn := fun _ => fun
  | [d] => { results := [.lit (.bool false)], args := [d] }
  | _ => none }
def FnExactInverseFormWrongFalsely : Prop := fnExactInverseFormRow.holds Try.pinned (OpenSpec.ofChange fnExactInverseFormWrong)

/-- 'laws.FnExactAmbiguousKind': WHATEVER THE INPUT: true; the input reads as it did. -/
def fnExactAmbiguousKindSpec : ChangeSpec := { name := "fnExactAmbiguousKind", fn := fun _ => fun
  | [d] => { results := [.lit (.bool true)], args := [d] }
  | _ => none }
def fnExactAmbiguousKindRow : OpenClaim := { program := "ytikmbgaoflpndaa", sum := "b4d3ab921972cf25b419325d9627bf2d7ec986674857e23732b704065f7e9788", func := "loop.example/g01066/laws.FnExactAmbiguousKind", spec := "fnExactAmbiguousKind", apart := false }
def FnExactAmbiguousKindSaid : Prop := fnExactAmbiguousKindRow.holds Try.pinned (OpenSpec.ofChange fnExactAmbiguousKindSpec)

/-- ITS FALSE NEIGHBOUR: 'it returns false'. Refute it at one input. -/
def fnExactAmbiguousKindWrong : ChangeSpec := { name := "fnExactAmbiguousKind", fn := fun _ => fun
  | [d] => { results := [.lit (.bool false)], args := [d] }
  | _ => none }
def FnExactAmbiguousKindWrongFalsely : Prop := fnExactAmbiguousKindRow.holds Try.pinned (OpenSpec.ofChange fnExactAmbiguousKindWrong)

/-- 'laws.FnExactReducedBasis': WHATEVER THE INPUT: true; the input reads as it did. -/
def fnExactReducedBasisSpec : ChangeSpec := { name := "fnExactReducedBasis", fn := fun _ => fun
  | [d1, d2] => { results := [.lit (.bool true)], args := [d1, d2] }
  | _ => none }
def fnExactReducedBasisRow : OpenClaim := { program := "ytikmbgaoflpndaa", sum := "b4d3ab921972cf25b419325d9627bf2d7ec986674857e23732b704065f7e9788", func := "loop.example/g01066/laws.FnExactReducedBasis", spec := "fnExactReducedBasis", apart := false }
def FnExactReducedBasisSaid : Prop := fnExactReducedBasisRow.holds Try.pinned (OpenSpec.ofChange fnExactReducedBasisSpec)

/-- ITS FALSE NEIGHBOUR: 'it returns false'. Refute it at one input. -/
def fnExactReducedBasisWrong : ChangeSpec := { name := "fnExactReducedBasis", fn := fun _ => fun
  | [d1, d2] => { results := [.lit (.bool false)], args := [d1, d2] }
  | _ => none }
def FnExactReducedBasisWrongFalsely : Prop := fnExactReducedBasisRow.holds Try.pinned (OpenSpec.ofChange fnExactReducedBasisWrong)

/-- 'laws.FnExactSolutionsUpTo': WHATEVER THE INPUT: true; the input reads as it did. -/
def fnExactSolutionsUpToSpec : ChangeSpec := { name := "fnExactSolutionsUpTo", fn := fun _ => fun
  | [d1, d2] => { results := [.lit (.bool true)], args := [d1, d2] }
  | _ => none }
def fnExactSolutionsUpToRow : OpenClaim := { program := "ytikmbgaoflpndaa", sum := "b4d3ab921972cf25b419325d9627bf2d7ec986674857e23732b704065f7e9788", func := "loop.example/g01066/laws.FnExactSolutionsUpTo", spec := "fnExactSolutionsUpTo", apart := false }
def FnExactSolutionsUpToSaid : Prop := fnExactSolutionsUpToRow.holds Try.pinned (OpenSpec.ofChange fnExactSolutionsUpToSpec)

/-- ITS FALSE NEIGHBOUR: 'it returns false'. Refute it at one input. -/
def fnExactSolutionsUpToWrong : ChangeSpec := { name := "fnExactSolutionsUpTo", fn := fun _ => fun
  | [d1, d2] => { results := [.lit (.bool false)], args := [d1, d2] }
  | _ => none }
def FnExactSolutionsUpToWrongFalsely : Prop := fnExactSolutionsUpToRow.holds Try.pinned (OpenSpec.ofChange fnExactSolutionsUpToWrong)

/-- 'laws.FnExactTwoRank': WHATEVER THE INPUT: true; the input reads as it did. -/
def fnExactTwoRankSpec : ChangeSpec := { name := "fnExactTwoRank", fn := fun _ => fun
  | [d] => { results := [.lit (.bool true)], args := [d] }
  | _ => none }
def fnExactTwoRankRow : OpenClaim := { program := "ytikmbgaoflpndaa", sum := "b4d3ab921972cf25b419325d9627bf2d7ec986674857e23732b704065f7e9788", func := "loop.example/g01066/laws.FnExactTwoRank", spec := "fnExactTwoRank", unfollowed := true, recurses := true, apart := false }
def FnExactTwoRankSaid : Prop := fnExactTwoRankRow.holds Try.pinned (OpenSpec.ofChange fnExactTwoRankSpec)

/-- ITS FALSE NEIGHBOUR: 'it returns false'. Refute it at one input. -/
def fnExactTwoRankWrong : ChangeSpec := { name := "fnExactTwoRank", fn := fun _ => fun
  | [d] => { results := [.lit (.bool false)], args := [d] }
  | _ => none }
def FnExactTwoRankWrongFalsely : Prop := fnExactTwoRankRow.holds Try.pinned (OpenSpec.ofChange fnExactTwoRankWrong)

/- THE SECOND FORM. 'bulk': how many values and letters a reading holds, each counted each time it is reached (what is shared counts as often as it is met; a slice's spare places count too). A statement '..UptoSaid' is the law's where the arguments, and the package variables that the reading takes, are together of bulk at most 1048576: NARROWER than '..Said'. Prove '..Said' where nothing that the law and all that it calls make is longer than what came in: it says more and counts as full. Else prove '..UptoSaid'. A law counts once. -/
mutual
def uptoBulk {H : Type} : DataW H → Nat
  | .lit (.string bytes) => bytes.length + 1
  | .lit _ => 1
  | .nil => 1
  | .ptr d => uptoBulk d + 1
  | .slice elems spare => uptoBulkAll elems + uptoBulkAll spare + 1
  | .agg parts => uptoBulkAll parts + 1
  | .iface _ d => uptoBulk d + 1
  | .map entries => uptoBulkEntries entries + 1
  | .held _ => 1
def uptoBulkAll {H : Type} : List (DataW H) → Nat
  | [] => 0
  | d :: r => uptoBulk d + uptoBulkAll r
def uptoBulkEntries {H : Type} : List (Lit × DataW H) → Nat
  | [] => 0
  | x :: r => uptoBulkEntry x + uptoBulkEntries r
def uptoBulkEntry {H : Type} : Lit × DataW H → Nat
  | (.string bytes, d) => bytes.length + uptoBulk d + 1
  | (_, d) => uptoBulk d + 1
 end
def uptoSmall : (H : Type) → List (DataW H) → Bool := fun _ ds => decide (uptoBulkAll ds ≤ 1048576)
def OpenSpec.upto (s : _root_.Go.ChangeSpec) : _root_.Go.OpenSpec := { _root_.Go.OpenSpec.ofChange s with cond := some uptoSmall }

/-- 'laws.FnExactIsAmbiguousClass', WHERE WHAT IT READS IS OF BULK AT MOST 1048576: true; the input reads as it did. -/
def fnExactIsAmbiguousClassUptoRow : OpenClaim := { program := "ytikmbgaoflpndaa", sum := "b4d3ab921972cf25b419325d9627bf2d7ec986674857e23732b704065f7e9788", func := "loop.example/g01066/laws.FnExactIsAmbiguousClass", spec := "fnExactIsAmbiguousClass", apart := false, narrowed := true }
def FnExactIsAmbiguousClassUptoSaid : Prop := fnExactIsAmbiguousClassUptoRow.holds Try.pinned (OpenSpec.upto fnExactIsAmbiguousClassSpec)

/-- 'laws.FnExactIsIdoneal', WHERE WHAT IT READS IS OF BULK AT MOST 1048576: true; the input reads as it did. -/
def fnExactIsIdonealUptoRow : OpenClaim := { program := "ytikmbgaoflpndaa", sum := "b4d3ab921972cf25b419325d9627bf2d7ec986674857e23732b704065f7e9788", func := "loop.example/g01066/laws.FnExactIsIdoneal", spec := "fnExactIsIdoneal", unfollowed := true, recurses := true, apart := false, narrowed := true }
def FnExactIsIdonealUptoSaid : Prop := fnExactIsIdonealUptoRow.holds Try.pinned (OpenSpec.upto fnExactIsIdonealSpec)

/-- 'laws.FnExactReducedForms', WHERE WHAT IT READS IS OF BULK AT MOST 1048576: true; the input reads as it did. -/
def fnExactReducedFormsUptoRow : OpenClaim := { program := "ytikmbgaoflpndaa", sum := "b4d3ab921972cf25b419325d9627bf2d7ec986674857e23732b704065f7e9788", func := "loop.example/g01066/laws.FnExactReducedForms", spec := "fnExactReducedForms", apart := false, narrowed := true }
def FnExactReducedFormsUptoSaid : Prop := fnExactReducedFormsUptoRow.holds Try.pinned (OpenSpec.upto fnExactReducedFormsSpec)

/-- 'laws.FnExactEquivalenceMatrix', WHERE WHAT IT READS IS OF BULK AT MOST 1048576: true; the input reads as it did. -/
def fnExactEquivalenceMatrixUptoRow : OpenClaim := { program := "ytikmbgaoflpndaa", sum := "b4d3ab921972cf25b419325d9627bf2d7ec986674857e23732b704065f7e9788", func := "loop.example/g01066/laws.FnExactEquivalenceMatrix", spec := "fnExactEquivalenceMatrix", apart := false, narrowed := true }
def FnExactEquivalenceMatrixUptoSaid : Prop := fnExactEquivalenceMatrixUptoRow.holds Try.pinned (OpenSpec.upto fnExactEquivalenceMatrixSpec)

/-- 'laws.FnExactIsIdentity', WHERE WHAT IT READS IS OF BULK AT MOST 1048576: true; the input reads as it did. -/
def fnExactIsIdentityUptoRow : OpenClaim := { program := "ytikmbgaoflpndaa", sum := "b4d3ab921972cf25b419325d9627bf2d7ec986674857e23732b704065f7e9788", func := "loop.example/g01066/laws.FnExactIsIdentity", spec := "fnExactIsIdentity", apart := false, narrowed := true }
def FnExactIsIdentityUptoSaid : Prop := fnExactIsIdentityUptoRow.holds Try.pinned (OpenSpec.upto fnExactIsIdentitySpec)

/-- 'laws.FnExactAreAllAmbiguous', WHERE WHAT IT READS IS OF BULK AT MOST 1048576: true; the input reads as it did. -/
def fnExactAreAllAmbiguousUptoRow : OpenClaim := { program := "ytikmbgaoflpndaa", sum := "b4d3ab921972cf25b419325d9627bf2d7ec986674857e23732b704065f7e9788", func := "loop.example/g01066/laws.FnExactAreAllAmbiguous", spec := "fnExactAreAllAmbiguous", unfollowed := true, recurses := true, apart := false, narrowed := true }
def FnExactAreAllAmbiguousUptoSaid : Prop := fnExactAreAllAmbiguousUptoRow.holds Try.pinned (OpenSpec.upto fnExactAreAllAmbiguousSpec)

/-- 'laws.FnExactCubeOf', WHERE WHAT IT READS IS OF BULK AT MOST 1048576: true; the input reads as it did. -/
def fnExactCubeOfUptoRow : OpenClaim := { program := "ytikmbgaoflpndaa", sum := "b4d3ab921972cf25b419325d9627bf2d7ec986674857e23732b704065f7e9788", func := "loop.example/g01066/laws.FnExactCubeOf", spec := "fnExactCubeOf", apart := false, narrowed := true }
def FnExactCubeOfUptoSaid : Prop := fnExactCubeOfUptoRow.holds Try.pinned (OpenSpec.upto fnExactCubeOfSpec)

/-- 'laws.FnExactInverseForm', WHERE WHAT IT READS IS OF BULK AT MOST 1048576: true; the input reads as it did. -/
def fnExactInverseFormUptoRow : OpenClaim := { program := "ytikmbgaoflpndaa", sum := "b4d3ab921972cf25b419325d9627bf2d7ec986674857e23732b704065f7e9788", func := "loop.example/g01066/laws.FnExactInverseForm", spec := "fnExactInverseForm", apart := false, narrowed := true }
def FnExactInverseFormUptoSaid : Prop := fnExactInverseFormUptoRow.holds Try.pinned (OpenSpec.upto fnExactInverseFormSpec)

/-- 'laws.FnExactAmbiguousKind', WHERE WHAT IT READS IS OF BULK AT MOST 1048576: true; the input reads as it did. -/
def fnExactAmbiguousKindUptoRow : OpenClaim := { program := "ytikmbgaoflpndaa", sum := "b4d3ab921972cf25b419325d9627bf2d7ec986674857e23732b704065f7e9788", func := "loop.example/g01066/laws.FnExactAmbiguousKind", spec := "fnExactAmbiguousKind", apart := false, narrowed := true }
def FnExactAmbiguousKindUptoSaid : Prop := fnExactAmbiguousKindUptoRow.holds Try.pinned (OpenSpec.upto fnExactAmbiguousKindSpec)

/-- 'laws.FnExactReducedBasis', WHERE WHAT IT READS IS OF BULK AT MOST 1048576: true; the input reads as it did. -/
def fnExactReducedBasisUptoRow : OpenClaim := { program := "ytikmbgaoflpndaa", sum := "b4d3ab921972cf25b419325d9627bf2d7ec986674857e23732b704065f7e9788", func := "loop.example/g01066/laws.FnExactReducedBasis", spec := "fnExactReducedBasis", apart := false, narrowed := true }
def FnExactReducedBasisUptoSaid : Prop := fnExactReducedBasisUptoRow.holds Try.pinned (OpenSpec.upto fnExactReducedBasisSpec)

/-- 'laws.FnExactSolutionsUpTo', WHERE WHAT IT READS IS OF BULK AT MOST 1048576: true; the input reads as it did. -/
def fnExactSolutionsUpToUptoRow : OpenClaim := { program := "ytikmbgaoflpndaa", sum := "b4d3ab921972cf25b419325d9627bf2d7ec986674857e23732b704065f7e9788", func := "loop.example/g01066/laws.FnExactSolutionsUpTo", spec := "fnExactSolutionsUpTo", apart := false, narrowed := true }
def FnExactSolutionsUpToUptoSaid : Prop := fnExactSolutionsUpToUptoRow.holds Try.pinned (OpenSpec.upto fnExactSolutionsUpToSpec)

/-- 'laws.FnExactTwoRank', WHERE WHAT IT READS IS OF BULK AT MOST 1048576: true; the input reads as it did. -/
def fnExactTwoRankUptoRow : OpenClaim := { program := "ytikmbgaoflpndaa", sum := "b4d3ab921972cf25b419325d9627bf2d7ec986674857e23732b704065f7e9788", func := "loop.example/g01066/laws.FnExactTwoRank", spec := "fnExactTwoRank", unfollowed := true, recurses := true, apart := false, narrowed := true }
def FnExactTwoRankUptoSaid : Prop := fnExactTwoRankUptoRow.holds Try.pinned (OpenSpec.upto fnExactTwoRankSpec)

end Rows
end Go.Proofs.Ytikmbgaoflpndaa
