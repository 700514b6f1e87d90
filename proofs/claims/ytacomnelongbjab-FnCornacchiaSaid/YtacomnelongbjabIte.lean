/-
  A branch of the machine as an if, so that a known condition drops the other branch unread. Conditions: none.
-/
import Derived.Test.YtacomnelongbjabSet
namespace Go.Proofs.Ytacomnelongbjab
open Go Go.RowKit
theorem cond_to_ite {α : Sort _} {b : Bool} {x y : α} : (bif b then x else y) = (if b = true then x else y) := by cases b <;> rfl
theorem ite_prop {c : Prop} [Decidable c] {p q : Prop} (h1 : c → p) (h2 : ¬ c → q) : if c then p else q := by
  split
  · exact h1 ‹_›
  · exact h2 ‹_›
end Go.Proofs.Ytacomnelongbjab
