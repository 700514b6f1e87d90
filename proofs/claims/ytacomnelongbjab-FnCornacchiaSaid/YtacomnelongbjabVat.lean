/-
  Contract of the points at which a form has a value, as the reference finds them. Conditions: none.
-/
import Derived.Test.YtacomnelongbjabVa
namespace Go.Proofs.Ytacomnelongbjab
open Go Go.RowKit
set_option maxRecDepth 100000
set_option linter.unusedSimpArgs false
set_option linter.unusedVariables false
set_option maxHeartbeats 4000000

theorem two_lt {q : Nat} (h : q < 2) : 2 - (q + 1) < 2 - q := by omega
theorem idx2 {k : Nat} (h : k < 2) : (0 : Int) ≤ (k : Int) ∧ (k : Int) < ((2 : Nat) : Int) := by omega
theorem get2 {s : Int} (hs : 0 ≤ s) {k : Nat} (h : k < 2) : -s ≤ [s, -s].getD k 0 ∧ [s, -s].getD k 0 ≤ s := by
  have : k = 0 ∨ k = 1 := by omega
  rcases this with rfl | rfl <;> simp <;> omega
theorem vat_wraps {a b v r s : Int} (ha : 0 < a) (hb : -(1000000 * 200000) ≤ b * v ∧ b * v ≤ 1000000 * 200000) (hr : -s ≤ r ∧ r ≤ s) (hs : s ≤ 200000) :
    wrap64 (b * v) = b * v ∧ wrap64 (r - b * v) = r - b * v ∧ wrap64 ((r - b * v).tdiv (2 * a)) = (r - b * v).tdiv (2 * a) ∧ 2 * a ≠ 0 := by
  have w8 := tdiv_bd (a := r - b * v) (b := 2 * a) (k := 400000000000) ⟨by omega, by omega⟩
  exact ⟨wrap_id (by omega) (by omega), wrap_id (by omega) (by omega), wrap_id (by omega) (by omega), by omega⟩
theorem vat_len {o o1 o2 : List P2} {y : Int} (h : o.length ≤ 4 * y.toNat) (hy : y ≤ 200001) (h1 : o1.length ≤ o.length + 2 * 2) (h2 : o2.length ≤ o1.length + 2 * 1) : o2.length ≤ 1000000000 := by omega
theorem dec2 (k : Nat) : decide ((k : Int) < ((2 : Nat) : Int)) = decide (k < 2) := by rw [decide_eq_decide]; omega
theorem eq2 {k : Nat} (h : k ≤ 2) (h2 : ¬ k < 2) : k = 2 := by omega
-- (not in this seat: VaAt)
end Go.Proofs.Ytacomnelongbjab
