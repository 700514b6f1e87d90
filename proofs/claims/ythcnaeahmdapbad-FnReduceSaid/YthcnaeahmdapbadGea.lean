/-
  Contracts of the lists of ambiguous classes on both sides, of exponents, and of the laws on them. Conditions: none.
-/
import Derived.Test.YthcnaeahmdapbadAm
namespace Go.Proofs.Ythcnaeahmdapbad
open Go Go.RowKit
set_option maxRecDepth 100000
set_option linter.unusedSimpArgs false
set_option linter.unusedVariables false
set_option maxHeartbeats 4000000

theorem mem_redF {d : Int} (hd : -2000 ≤ d ∧ d ≤ -3) {x : F3} : x ∈ redF d ↔ IsRed d x ∧ primB x = true := by
  unfold redF
  rw [List.mem_filter, mem_allRed hd]
theorem red_rd3 {d : Int} (hd : -2000 ≤ d) {x : F3} (h : IsRed d x) : domB x.1 x.2.1 x.2.2 = true ∧ rd3 x.1 x.2.1 x.2.2 = x := by
  have h1 := red_domB (by omega) h
  have h2 := (h.small hd).2.1
  exact ⟨h1, (rd3_eq h1).trans (rdx_of_red (red_of h (by omega)))⟩
def ambL (d : Int) : List F3 := (redF d).filter ambB
theorem ambL_len {d : Int} (hd : -2000 ≤ d) : (ambL d).length ≤ 1300 := Nat.le_trans (List.length_filter_le _ _) (redF_len hd)
-- (not in this seat: Ambiguous)
-- (not in this seat: GeAll)
-- (not in this seat: AmbClasses)
-- (not in this seat: SAmbClasses)
theorem held_pos (n : Nat) : decide (1 + 3 * (n : Int) < 0) = false := by rw [decide_eq_false_iff_not]; omega
-- (not in this seat: LawAmbClasses)
def allAmbB (d : Int) : Bool := (((ambL d).length : Int) == ((redF d).length : Int))
-- (not in this seat: AllAmb)
-- (not in this seat: SAllAmb)
-- (not in this seat: LawAllAmb)
def idoB (n : Int) : Bool := allAmbB (-4 * n)
-- (not in this seat: IsIdo)
-- (not in this seat: IpIdo)
def facB (n : Int) : Bool := inI n 1 500
-- (not in this seat: IsFactor)
theorem facB_in {n : Int} (h : facB n = true) : 1 ≤ n ∧ n ≤ 500 := by
  simp only [facB, inI, Bool.and_eq_true, decide_eq_true_eq] at h
  exact h
-- (not in this seat: IsIdoneal)
-- (not in this seat: SIsIdoneal)
-- (not in this seat: LawIsIdoneal)

/-! ### exponents -/
def expI (n p : Int) : Int := if _h : 0 < n ∧ 1 < p ∧ n.tmod p = 0 then expI (n.tdiv p) p + 1 else 0
  termination_by n.natAbs
  decreasing_by
    rw [Int.natAbs_tdiv]
    exact Nat.div_lt_self (by omega) (by omega)
theorem quo_pos {n p : Int} (hn : 0 < n) (hp : 1 < p) (h : n.tmod p = 0) : 0 < n.tdiv p ∧ n.tdiv p < n := by
  have h1 : n.tdiv p = n / p := Int.tdiv_eq_ediv_of_nonneg (by omega)
  have h2 : n.tmod p = n % p := Int.tmod_eq_emod_of_nonneg (by omega)
  have h3 := Int.mul_ediv_add_emod n p
  rw [h2] at h
  rw [h1]
  have h4 : 0 ≤ n / p := Int.ediv_nonneg (by omega) (by omega)
  have h5 : n / p ≠ 0 := fun e => by rw [e, h] at h3; simp at h3; omega
  have h6 : 2 * (n / p) ≤ p * (n / p) := Int.mul_le_mul_of_nonneg_right (by omega) h4
  omega
-- (not in this seat: Exponent)
-- (not in this seat: NuExponent)
theorem gcdL_1 (n : Int) (hn : n.natAbs ≤ 1000000000) : gcdI 1 n = 1 := by
  rw [gcdI_eq (by omega) hn]; simp
theorem prI_mem {d : Int} (h : negB d = true) : prI d ∈ ambL d := by
  have hd := negB_in h
  obtain ⟨e, hr⟩ := prI_eq (d := d) ⟨by omega, by omega⟩ (negB_mod h)
  unfold ambL
  rw [List.mem_filter, mem_redF hd]
  have hs := hr.small hd.1
  have e1 : (prI d).1 = 1 := by rw [e]
  refine ⟨⟨hr, ?_⟩, ?_⟩
  · unfold primB
    rw [e1, gcdL_1]
    · rfl
    · have h2 := gcd_le (a := (prI d).2.1) (b := (prI d).2.2) (by omega) (by omega)
      rw [gcdI_eq (by omega) (by omega)]
      omega
  · have h3 : (prI d).2.1 = 0 ∨ (prI d).2.1 = 1 := by rw [e]; simp only; omega
    unfold ambB
    rw [e1]
    rcases h3 with h3 | h3 <;> rw [h3] <;> rfl
theorem ambL_pos {d : Int} (h : negB d = true) : 0 < (ambL d).length := List.length_pos_of_mem (prI_mem h)
-- (not in this seat: TwoRank)
-- (not in this seat: STwoRank)
-- (not in this seat: LawTwoRank)
end Go.Proofs.Ythcnaeahmdapbad
