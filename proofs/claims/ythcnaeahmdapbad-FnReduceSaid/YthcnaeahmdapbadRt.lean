/-
  Contracts of square roots and of being a square, on both sides. Conditions: none.
-/
import Derived.Test.YthcnaeahmdapbadAm
namespace Go.Proofs.Ythcnaeahmdapbad
open Go Go.RowKit
set_option maxRecDepth 100000
set_option linter.unusedSimpArgs false
set_option linter.unusedVariables false
set_option maxHeartbeats 4000000

theorem sq_ge {p : Int} (h : 2 ≤ p) : 2 * p ≤ p * p := Int.mul_le_mul_of_nonneg_right h (by omega)
theorem tdiv_bd' {a b k : Int} (h : -k ≤ a ∧ a ≤ k) : -k ≤ a.tdiv b ∧ a.tdiv b ≤ k := by
  have h1 : (a.tdiv b).natAbs ≤ a.natAbs := by rw [Int.natAbs_tdiv]; exact Nat.div_le_self _ _
  omega
theorem mul_bd {a b j k : Int} (hj : 0 ≤ j) (hk : 0 ≤ k) (ha : -j ≤ a ∧ a ≤ j) (hb : -k ≤ b ∧ b ≤ k) : -(j * k) ≤ a * b ∧ a * b ≤ j * k := by
  have h1 : (a * b).natAbs ≤ (j * k).natAbs := by
    rw [Int.natAbs_mul, Int.natAbs_mul]
    exact Nat.mul_le_mul (by omega) (by omega)
  have h2 : 0 ≤ j * k := Int.mul_nonneg hj hk
  omega
def bisL (n lo hi : Int) : Int := if _h : lo < hi then (if (lo + hi + 1) / 2 * ((lo + hi + 1) / 2) ≤ n then bisL n ((lo + hi + 1) / 2) hi else bisL n lo ((lo + hi + 1) / 2 - 1)) else lo
  termination_by (hi - lo).toNat
  decreasing_by
    · omega
    · omega
theorem bisL_spec {n lo hi : Int} (h0 : 0 ≤ lo) (h1 : lo ≤ hi) (h2 : lo * lo ≤ n) (h3 : n < (hi + 1) * (hi + 1)) : 0 ≤ bisL n lo hi ∧ bisL n lo hi * bisL n lo hi ≤ n ∧ n < (bisL n lo hi + 1) * (bisL n lo hi + 1) := by
  fun_induction bisL n lo hi with
  | case1 lo hi h hm ih => exact ih (by omega) (by omega) hm h3
  | case2 lo hi h hm ih =>
    refine ih h0 (by omega) h2 ?_
    have e : (lo + hi + 1) / 2 - 1 + 1 = (lo + hi + 1) / 2 := by omega
    rw [e]; omega
  | case3 lo hi h =>
    have : lo = hi := by omega
    subst this
    exact ⟨h0, h2, h3⟩
def rootI (n : Int) : Int := bisL n 0 3000000000
theorem rootI_spec {n : Int} (h0 : 0 ≤ n) (h1 : n ≤ 9000000000000000000) : 0 ≤ rootI n ∧ rootI n * rootI n ≤ n ∧ n < (rootI n + 1) * (rootI n + 1) :=
  bisL_spec (by omega) (by omega) (by omega) (by omega)
theorem root_uniq {n r s : Int} (hr : 0 ≤ r) (hs : 0 ≤ s) (h1 : r * r ≤ n) (h2 : n < (r + 1) * (r + 1)) (h3 : s * s ≤ n) (h4 : n < (s + 1) * (s + 1)) : r = s := by
  have key : ∀ x y : Int, 0 ≤ x → 0 ≤ y → x * x ≤ n → n < (y + 1) * (y + 1) → x ≤ y := by
    intro x y hx hy hxn hyn
    by_cases h : x ≤ y
    · exact h
    · exfalso
      have : (y + 1) * (y + 1) ≤ x * x := Int.mul_le_mul (by omega) (by omega) (by omega) (by omega)
      omega
  have := key r s hr hs h1 h4
  have := key s r hs hr h3 h2
  omega
theorem bis9 {n : Int} (h0 : 0 ≤ n) (h1 : n ≤ 1000000000000000000) : bisL n 0 1000000000 = rootI n := by
  obtain ⟨a1, a2, a3⟩ := bisL_spec (n := n) (lo := 0) (hi := 1000000000) (by omega) (by omega) (by omega) (by omega)
  obtain ⟨b1, b2, b3⟩ := rootI_spec (n := n) h0 (by omega)
  exact root_uniq a1 b1 a2 a3 b2 b3
theorem root_le {n k : Int} (h0 : 0 ≤ n) (h1 : n ≤ 9000000000000000000) (hk : 0 ≤ k) (h : n ≤ k * k) : rootI n ≤ k := by
  obtain ⟨b1, b2, b3⟩ := rootI_spec h0 h1
  exact (abs_le_of_sq hk (by omega)).2
theorem mid_eq {lo hi : Int} (h0 : 0 ≤ lo) (h1 : lo < hi) (h2 : hi ≤ 3000000000) : wrap64 ((wrap64 (wrap64 (lo + hi) + 1)).tdiv 2) = (lo + hi + 1) / 2 := by
  rw [wrap_id (n := lo + hi) (by omega) (by omega), wrap_id (n := lo + hi + 1) (by omega) (by omega), Int.tdiv_eq_ediv_of_nonneg (by omega), wrap_id (by omega) (by omega)]
theorem mid_sq {m : Int} (h0 : 0 ≤ m) (h1 : m ≤ 3000000000) : wrap64 (m * m) = m * m := by
  have := sq_in (n := 3000000000) (by omega) (show -3000000000 ≤ m ∧ m ≤ 3000000000 by omega)
  exact wrap_id (by omega) (by omega)
-- (not in this seat: Root)
-- (not in this seat: NuRoot)
def sqB (n : Int) : Bool := decide (n ≥ 0) && (wrap64 (rootI n * rootI n) == n)
theorem sqB_iff {n : Int} (h1 : n ≤ 9000000000000000000) : sqB n = true ↔ ∃ r, r * r = n := by
  simp only [sqB, Bool.and_eq_true, decide_eq_true_eq, beq_iff_eq]
  constructor
  · rintro ⟨h0, h⟩
    obtain ⟨b1, b2, b3⟩ := rootI_spec (n := n) h0 h1
    have : rootI n ≤ 3000000000 := root_le h0 h1 (by omega) (by omega)
    rw [mid_sq b1 this] at h
    exact ⟨_, h⟩
  · rintro ⟨r, rfl⟩
    have h0 := sq_nonneg r
    refine ⟨h0, ?_⟩
    obtain ⟨b1, b2, b3⟩ := rootI_spec (n := r * r) h0 h1
    have h3 : rootI (r * r) ≤ 3000000000 := root_le h0 h1 (by omega) (by omega)
    rw [mid_sq b1 h3]
    have h4 : ((r.natAbs : Int)) * (r.natAbs : Int) = r * r := Int.natAbs_mul_self' r
    have h6 : ((r.natAbs : Int) + 1) * ((r.natAbs : Int) + 1) = (r.natAbs : Int) * (r.natAbs : Int) + 2 * (r.natAbs : Int) + 1 := by grind
    have h5 : rootI (r * r) = r.natAbs := root_uniq (n := r * r) b1 (by omega) b2 b3 (by omega) (by omega)
    rw [h5, h4]
-- (not in this seat: IsSquare)
theorem lt0 (n : Int) : decide (n < 0) = !decide (n ≥ 0) := by rw [Bool.eq_iff_iff]; simp
-- (not in this seat: NuSquare)
end Go.Proofs.Ythcnaeahmdapbad
