/-
  No cell of these rows narrows 'for every input' (looked for: loops, veiled, ifaces, maps, wideKeys, modest, calm, conditions, laid).
  DERIVED. THE GIVEN ROWS OF THIS SEAT. 3 by the template 'for every input the law returns true; each argument reads behind the call as it read before'; 0 by the template 'total and deterministic' (their statements: YtehijpbiidbkpaaTotals.lean).
  GIVEN WITH THE SEED: the statements are not yours to turn. If you find one false, say at which input.
  Laid BY PROGRAM, IN A SANDBOX (cutbox-rows.mjs): the forced cells as the released guide's own fill.sh prints them over the translation fa8282882f09cd8d… (all of the seat's roots in one cut). By AI agents, Wed Nov 11 2026. No macro, syntax, notation, axiom, sorry.
-/
import Derived.Test.YtehijpbiidbkpaaChecked
import GoSem.Claim
import GoSem.ClaimJoined
import GoSem.ClaimMapViews
import Derived.JoinedTies
import Derived.KernelRfl
namespace Go.Proofs.Ytehijpbiidbkpaa
/- THE CELL 'sum', in the pinned program and in every row, IS THE sha256 OF THE DUMP (.gsa) THAT YtehijpbiidbkpaaProg.lean LOADS. Nothing in Lean hashes anything: it is a label: what it is worth is what the hold of that sum in a sandbox is worth. -/
noncomputable def Try.pinned : Pinned := { name := "ytehijpbiidbkpaa", sum := "fa8282882f09cd8d58a9c1d1ae2e8a690e5d2c4d3fbcdcc3e0e30e7ec0e357b5", checked := Try.checked }
namespace Rows
def none {H : Type} : Left H := { results := [], args := [] }

/-- 'laws.FnExactClassIndex': WHATEVER THE INPUT: true; the input reads as it did. -/
def fnExactClassIndexSpec : ChangeSpec := { name := "fnExactClassIndex", fn := fun _ => fun
  | [d] => { results := [.lit (.bool true)], args := [d] }
  | _ => none }
def fnExactClassIndexRow : OpenClaim := { program := "ytehijpbiidbkpaa", sum := "fa8282882f09cd8d58a9c1d1ae2e8a690e5d2c4d3fbcdcc3e0e30e7ec0e357b5", func := "loop.example/g01066/laws.FnExactClassIndex", spec := "fnExactClassIndex", plainKeys := false, apart := false }
def FnExactClassIndexSaid : Prop := fnExactClassIndexRow.holds Try.pinned (OpenSpec.ofChange fnExactClassIndexSpec)

/-- ITS FALSE NEIGHBOUR: 'it returns false'. Refute it at one input. -/
def fnExactClassIndexWrong : ChangeSpec := { name := "fnExactClassIndex", fn := fun _ => fun
  | [d] => { results := [.lit (.bool false)], args := [d] }
  | _ => none }
def FnExactClassIndexWrongFalsely : Prop := fnExactClassIndexRow.holds Try.pinned (OpenSpec.ofChange fnExactClassIndexWrong)

/-- 'laws.FnExactClassOrders': WHATEVER THE INPUT: true; the input reads as it did. -/
def fnExactClassOrdersSpec : ChangeSpec := { name := "fnExactClassOrders", fn := fun _ => fun
  | [d] => { results := [.lit (.bool true)], args := [d] }
  | _ => none }
def fnExactClassOrdersRow : OpenClaim := { program := "ytehijpbiidbkpaa", sum := "fa8282882f09cd8d58a9c1d1ae2e8a690e5d2c4d3fbcdcc3e0e30e7ec0e357b5", func := "loop.example/g01066/laws.FnExactClassOrders", spec := "fnExactClassOrders", plainKeys := false, apart := false }
def FnExactClassOrdersSaid : Prop := fnExactClassOrdersRow.holds Try.pinned (OpenSpec.ofChange fnExactClassOrdersSpec)

/-- ITS FALSE NEIGHBOUR: 'it returns false'. Refute it at one input. -/
def fnExactClassOrdersWrong : ChangeSpec := { name := "fnExactClassOrders", fn := fun _ => fun
  | [d] => { results := [.lit (.bool false)], args := [d] }
  | _ => none }
def FnExactClassOrdersWrongFalsely : Prop := fnExactClassOrdersRow.holds Try.pinned (OpenSpec.ofChange fnExactClassOrdersWrong)

/-- 'laws.FnExactGroupExponent': WHATEVER THE INPUT: true; the input reads as it did. -/
def fnExactGroupExponentSpec : ChangeSpec := { name := "fnExactGroupExponent", fn := fun _ => fun
  | [d] => { results := [.lit (.bool true)], args := [d] }
  | _ => none }
def fnExactGroupExponentRow : OpenClaim := { program := "ytehijpbiidbkpaa", sum := "fa8282882f09cd8d58a9c1d1ae2e8a690e5d2c4d3fbcdcc3e0e30e7ec0e357b5", func := "loop.example/g01066/laws.FnExactGroupExponent", spec := "fnExactGroupExponent", plainKeys := false, apart := false }
def FnExactGroupExponentSaid : Prop := fnExactGroupExponentRow.holds Try.pinned (OpenSpec.ofChange fnExactGroupExponentSpec)

/-- ITS FALSE NEIGHBOUR: 'it returns false'. Refute it at one input. -/
def fnExactGroupExponentWrong : ChangeSpec := { name := "fnExactGroupExponent", fn := fun _ => fun
  | [d] => { results := [.lit (.bool false)], args := [d] }
  | _ => none }
def FnExactGroupExponentWrongFalsely : Prop := fnExactGroupExponentRow.holds Try.pinned (OpenSpec.ofChange fnExactGroupExponentWrong)

/- THE SECOND FORM. 'bulk': how many values and letters a reading holds, each counted each time it is reached (what is shared counts as often as it is met; a slice's spare places count too). A statement '..UptoSaid' is the law's where the arguments, and the package variables that the reading takes, are together of bulk at most 1048576: NARROWER than '..Said'. Prove '..Said' where nothing that the law and all that it calls make is longer than what came in: it says more and counts as full. Else prove '..UptoSaid'. A law counts once. -/
mutual
def uptoBulk {H : Type} : DataW H → Nat
  | .lit (.string bytes) => bytes.length + 1
  | .lit _ => 1
  | .nil => 1
  | .ptr d => uptoBulk d + 1
  | .slice elems spare => uptoBulkAll elems + uptoBulkAll spare + 1
  | .agg parts => uptoBulkAll parts + 1
  | .iface _ d => uptoBulk d + 1
  | .map entries => uptoBulkEntries entries + 1
  | .held _ => 1
def uptoBulkAll {H : Type} : List (DataW H) → Nat
  | [] => 0
  | d :: r => uptoBulk d + uptoBulkAll r
def uptoBulkEntries {H : Type} : List (Lit × DataW H) → Nat
  | [] => 0
  | x :: r => uptoBulkEntry x + uptoBulkEntries r
def uptoBulkEntry {H : Type} : Lit × DataW H → Nat
  | (.string bytes, d) => bytes.length + uptoBulk d + 1
  | (_, d) => uptoBulk d + 1
 end
def uptoSmall : (H : Type) → List (DataW H) → Bool := fun _ ds => decide (uptoBulkAll ds ≤ 1048576)
def OpenSpec.upto (s : _root_.Go.ChangeSpec) : _root_.Go.OpenSpec := { _root_.Go.OpenSpec.ofChange s with cond := some uptoSmall }

/-- 'laws.FnExactClassIndex', WHERE WHAT IT READS IS OF BULK AT MOST 1048576: true; the input reads as it did. -/
def fnExactClassIndexUptoRow : OpenClaim := { program := "ytehijpbiidbkpaa", sum := "fa8282882f09cd8d58a9c1d1ae2e8a690e5d2c4d3fbcdcc3e0e30e7ec0e357b5", func := "loop.example/g01066/laws.FnExactClassIndex", spec := "fnExactClassIndex", plainKeys := false, apart := false, narrowed := true }
def FnExactClassIndexUptoSaid : Prop := fnExactClassIndexUptoRow.holds Try.pinned (OpenSpec.upto fnExactClassIndexSpec)

/-- 'laws.FnExactClassOrders', WHERE WHAT IT READS IS OF BULK AT MOST 1048576: true; the input reads as it did. -/
def fnExactClassOrdersUptoRow : OpenClaim := { program := "ytehijpbiidbkpaa", sum := "fa8282882f09cd8d58a9c1d1ae2e8a690e5d2c4d3fbcdcc3e0e30e7ec0e357b5", func := "loop.example/g01066/laws.FnExactClassOrders", spec := "fnExactClassOrders", plainKeys := false, apart := false, narrowed := true }
def FnExactClassOrdersUptoSaid : Prop := fnExactClassOrdersUptoRow.holds Try.pinned (OpenSpec.upto fnExactClassOrdersSpec)

/-- 'laws.FnExactGroupExponent', WHERE WHAT IT READS IS OF BULK AT MOST 1048576: true; the input reads as it did. -/
def fnExactGroupExponentUptoRow : OpenClaim := { program := "ytehijpbiidbkpaa", sum := "fa8282882f09cd8d58a9c1d1ae2e8a690e5d2c4d3fbcdcc3e0e30e7ec0e357b5", func := "loop.example/g01066/laws.FnExactGroupExponent", spec := "fnExactGroupExponent", plainKeys := false, apart := false, narrowed := true }
def FnExactGroupExponentUptoSaid : Prop := fnExactGroupExponentUptoRow.holds Try.pinned (OpenSpec.upto fnExactGroupExponentSpec)

end Rows
end Go.Proofs.Ytehijpbiidbkpaa
