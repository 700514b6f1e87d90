/-
  Plain laws on greatest common divisors: Bezout's numbers, and when the divisor is 1. Conditions: none.
-/
import Derived.Test.YtacomnelongbjabCls
namespace Go.Proofs.Ytacomnelongbjab
open Go Go.RowKit
set_option maxRecDepth 100000
set_option linter.unusedSimpArgs false
set_option linter.unusedVariables false
set_option maxHeartbeats 4000000

theorem gcdL_bez (a b : Int) : ∃ x y : Int, x * a + y * b = gcdL a b := by
  fun_induction gcdL a b with
  | case1 a => exact ⟨1, 0, by omega⟩
  | case2 a b h ih =>
    obtain ⟨x, y, hxy⟩ := ih
    refine ⟨y, x - y * (a.tdiv b), ?_⟩
    rw [← hxy]
    have e := Int.mul_tdiv_add_tmod a b
    generalize a.tdiv b = q at *
    generalize a.tmod b = r at *
    rw [← e]
    grind
theorem bez {a b : Int} (h : Int.gcd a b = 1) : ∃ x y : Int, x * a + y * b = 1 := by
  obtain ⟨x, y, hxy⟩ := gcdL_bez a b
  have h1 := gcdL_abs a b
  rw [h] at h1
  have h2 : gcdL a b = 1 ∨ gcdL a b = -1 := by omega
  rcases h2 with h2 | h2
  · exact ⟨x, y, by omega⟩
  · exact ⟨-x, -y, by rw [Int.neg_mul, Int.neg_mul]; omega⟩
theorem gcdI_one {a b : Int} (ha : a.natAbs ≤ 1000000000000000) (hb : b.natAbs ≤ 1000000000000000) : (gcdI a b == 1) = decide (Int.gcd a b = 1) := by
  have h1 := gcdL_abs a b
  have h2 : Int.gcd a b ≤ 1000000000000000 := by
    unfold Int.gcd
    by_cases h : b.natAbs = 0
    · rw [h, Nat.gcd_zero_right]; exact ha
    · exact Nat.le_trans (Nat.gcd_le_right _ (by omega)) hb
  have e : gcdI a b = Int.gcd a b := by
    unfold gcdI absI
    have h3 : max (gcdL a b) (-9223372036854775807) = gcdL a b := by omega
    rw [h3, wrap_id (by omega) (by omega)]
    omega
  rw [e, Bool.eq_iff_iff, beq_iff_eq, decide_eq_true_iff]
  omega
theorem nuGcdI_one {a b : Int} (ha : a.natAbs ≤ 1000000000000000) (hb : b.natAbs ≤ 1000000000000000) : (nuGcdI a b == 1) = decide (Int.gcd a b = 1) := by
  have e : nuGcdI a b = Int.gcd a b := by
    unfold nuGcdI
    have l1 : labsI a = a.natAbs := by unfold labsI mostI; rw [wrap_id (by omega) (by omega)]; split <;> omega
    have l2 : labsI b = b.natAbs := by unfold labsI mostI; rw [wrap_id (by omega) (by omega)]; split <;> omega
    rw [l1, l2]
    have h1 := gcdL_abs (a.natAbs : Int) (b.natAbs : Int)
    have h2 : 0 ≤ gcdL (a.natAbs : Int) (b.natAbs : Int) := gcdL_nonneg (by omega) (by omega)
    have h3 : Int.gcd (a.natAbs : Int) (b.natAbs : Int) = Int.gcd a b := by simp [Int.gcd]
    omega
  rw [e, Bool.eq_iff_iff, beq_iff_eq, decide_eq_true_iff]
  omega
end Go.Proofs.Ytacomnelongbjab
