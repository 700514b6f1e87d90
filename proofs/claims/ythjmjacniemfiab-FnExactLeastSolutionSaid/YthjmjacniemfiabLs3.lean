/-
  Contracts of the place that forbids a solution and of least solutions on both sides, and of the law LeastSolution. Conditions: none.
-/
import Derived.Test.YthjmjacniemfiabLs2
namespace Go.Proofs.Ythjmjacniemfiab
open Go Go.RowKit
set_option maxRecDepth 100000
set_option linter.unusedSimpArgs false
set_option linter.unusedVariables false
set_option maxHeartbeats 4000000

def cpK (a b c p : Int) : Int := if a % p = 0 then b * c else if b % p = 0 then a * c else a * b
def cpG (a b c : Int) : List Int → Int
  | [] => -1
  | p :: l => if p > 2 ∧ crF p (cpK a b c p) 0 < 0 then p else cpG a b c l
def cpV (a b c : Int) : Int := if sgI a = sgI b ∧ sgI b = sgI c then 0 else cpG a b c (psL (pdN a b c))
/-! ### a solution leaves no place -/
theorem cpG_free {a b c : Int} : ∀ l : List Int, (∀ p ∈ l, 0 ≤ crF p (cpK a b c p) 0) → cpG a b c l = -1
  | [], _ => rfl
  | p :: l, h => by
    unfold cpG
    have := h p (by simp)
    rw [if_neg (by omega)]
    exact cpG_free l fun x hx => h x (by simp [hx])
theorem zero_of {a x : Int} (ha : 0 < a) : 0 ≤ a * x * x ∧ (x ≠ 0 → 0 < a * x * x) := by
  have h1 : a * x * x = a * (x * x) := Int.mul_assoc ..
  have h0 : 0 ≤ x * x := sq_nonneg x
  rw [h1]
  refine ⟨Int.mul_nonneg (by omega) h0, fun hx => Int.mul_pos ha ?_⟩
  have : x * x ≠ 0 := Int.mul_ne_zero hx hx
  omega
theorem place_free {a b c x y z : Int} (h : NmT a b c) (he : a * x * x + b * y * y + c * z * z = 0) (hg : Int.gcd x (Int.gcd y z : Nat) = 1) : cpV a b c = -1 := by
  obtain ⟨na, nb, nc⟩ := h.nz
  have hxyz : ¬ (x = 0 ∧ y = 0 ∧ z = 0) := by
    rintro ⟨rfl, rfl, rfl⟩
    simp at hg
  unfold cpV
  rw [if_neg]
  · refine cpG_free _ fun p hp => ?_
    obtain ⟨hI, hp2, hp3, hs⟩ := h.one hp
    obtain ⟨q, hq, rfl⟩ := hI
    have hgp : ¬ ((q : Int) ∣ x ∧ (q : Int) ∣ y ∧ (q : Int) ∣ z) := by
      rintro ⟨h1, h2, h3⟩
      exact p_gcd hq hg h1 (Int.dvd_coe_gcd h2 h3)
    have fin : ∀ k, (∃ r : Int, 0 ≤ r ∧ r < (q : Int) ∧ (q : Int) ∣ r * r + k) → 0 ≤ crF (q : Int) k 0 := by
      rintro k ⟨r, r1, r2, r3⟩
      exact crF_pos 0 (Int.le_refl _) ⟨r, r1, r2, Int.emod_eq_zero_of_dvd r3⟩
    unfold cpK
    by_cases ga : a % (q : Int) = 0
    · have da := Int.dvd_of_emod_eq_zero ga
      rw [if_pos ga]
      exact fin _ (leg hq da (h.sa q hq) (fun hd => p_gcd hq h.ab da hd) (fun hd => p_gcd hq h.ac da hd) he hgp)
    · rw [if_neg ga]
      have na' : ¬ (q : Int) ∣ a := fun hd => ga (Int.emod_eq_zero_of_dvd hd)
      by_cases gb : b % (q : Int) = 0
      · have db := Int.dvd_of_emod_eq_zero gb
        rw [if_pos gb]
        exact fin _ (leg hq db (h.sb q hq) na' (fun hd => p_gcd hq h.bc db hd) (x := y) (y := x) (z := z) (by omega) (fun hh => hgp ⟨hh.2.1, hh.1, hh.2.2⟩))
      · rw [if_neg gb]
        have nb' : ¬ (q : Int) ∣ b := fun hd => gb (Int.emod_eq_zero_of_dvd hd)
        have gc : c % (q : Int) = 0 := by
          unfold e01 at hs
          rw [if_neg ga, if_neg gb] at hs
          apply Classical.byContradiction
          intro hc
          rw [if_neg hc] at hs
          omega
        have dc := Int.dvd_of_emod_eq_zero gc
        exact fin _ (leg hq dc (h.sc q hq) na' nb' (x := z) (y := x) (z := y) (by omega) (fun hh => hgp ⟨hh.2.1, hh.2.2, hh.1⟩))
  · rintro ⟨s1, s2⟩
    have key : (0 < a ∧ 0 < b ∧ 0 < c) ∨ (0 < -a ∧ 0 < -b ∧ 0 < -c) := by
      unfold sgI at s1 s2
      by_cases g : a > 0
      · rw [if_pos g] at s1
        by_cases g2 : b > 0
        · rw [if_pos g2] at s2
          by_cases g3 : c > 0
          · omega
          · rw [if_neg g3, if_pos (by omega)] at s2; omega
        · rw [if_neg g2, if_pos (by omega)] at s1; omega
      · rw [if_neg g, if_pos (by omega)] at s1
        by_cases g2 : b > 0
        · rw [if_pos g2] at s1; omega
        · rw [if_neg g2, if_pos (by omega)] at s2
          by_cases g3 : c > 0
          · rw [if_pos g3] at s2; omega
          · omega
    rcases key with ⟨k1, k2, k3⟩ | ⟨k1, k2, k3⟩
    · obtain ⟨x1, x2⟩ := zero_of (x := x) k1
      obtain ⟨y1, y2⟩ := zero_of (x := y) k2
      obtain ⟨z1, z2⟩ := zero_of (x := z) k3
      refine hxyz ⟨?_, ?_, ?_⟩ <;> (apply Classical.byContradiction; intro hc)
      · have := x2 hc; omega
      · have := y2 hc; omega
      · have := z2 hc; omega
    · obtain ⟨x1, x2⟩ := zero_of (x := x) k1
      obtain ⟨y1, y2⟩ := zero_of (x := y) k2
      obtain ⟨z1, z2⟩ := zero_of (x := z) k3
      have e1 : -a * x * x = -(a * x * x) := by grind
      have e2 : -b * y * y = -(b * y * y) := by grind
      have e3 : -c * z * z = -(c * z * z) := by grind
      rw [e1] at x1 x2
      rw [e2] at y1 y2
      rw [e3] at z1 z2
      refine hxyz ⟨?_, ?_, ?_⟩ <;> (apply Classical.byContradiction; intro hc)
      · have := x2 hc; omega
      · have := y2 hc; omega
      · have := z2 hc; omega
/-! ### the search -/
def lsH (a b c y z : Int) : Bool := thB a b c y z && (decide (thX a b c y z * thX a b c y z ≤ ((b * c).natAbs : Int)) && (gcdI (thX a b c y z) (gcdI y z) == 1))
theorem le_sq {y : Int} (h : 0 ≤ y) : y ≤ y * y := by
  by_cases h1 : y = 0
  · subst h1; omega
  · have : y * 1 ≤ y * y := Int.mul_le_mul_of_nonneg_left (by omega) h
    omega
def lsY (a b c z y : Int) : Option F3 := if _h : 0 ≤ y ∧ y * y ≤ ((a * c).natAbs : Int) then (if lsH a b c y z = true then some (thX a b c y z, y, z) else lsY a b c z (y + 1)) else none
  termination_by (((a * c).natAbs : Int) + 1 - y).toNat
  decreasing_by
    have := le_sq _h.1
    omega
def lsZ (a b c z : Int) : Option F3 := if _h : 0 ≤ z ∧ z * z ≤ ((a * b).natAbs : Int) then (lsY a b c z 0).or (lsZ a b c (z + 1)) else none
  termination_by (((a * b).natAbs : Int) + 1 - z).toNat
  decreasing_by
    have := le_sq _h.1
    omega
theorem lsY_hit {a b c z : Int} {f : F3} : ∀ y, lsY a b c z y = some f → lsH a b c f.2.1 f.2.2 = true ∧ f = (thX a b c f.2.1 f.2.2, f.2.1, f.2.2) ∧ (0 ≤ f.2.1 ∧ f.2.1 * f.2.1 ≤ ((a * c).natAbs : Int)) ∧ f.2.2 = z := by
  intro y h
  fun_induction lsY a b c z y with
  | case1 y h1 h2 =>
    simp only [Option.some.injEq] at h
    subst h
    exact ⟨h2, rfl, h1, rfl⟩
  | case2 y h1 h2 ih => exact ih h
  | case3 y h1 => cases h
theorem lsZ_hit {a b c : Int} {f : F3} : ∀ z, lsZ a b c z = some f → lsH a b c f.2.1 f.2.2 = true ∧ f = (thX a b c f.2.1 f.2.2, f.2.1, f.2.2) ∧ (0 ≤ f.2.1 ∧ f.2.1 * f.2.1 ≤ ((a * c).natAbs : Int)) ∧ (0 ≤ f.2.2 ∧ f.2.2 * f.2.2 ≤ ((a * b).natAbs : Int)) := by
  intro z h
  fun_induction lsZ a b c z with
  | case1 z h1 ih =>
    rw [Option.or_eq_some_iff] at h
    rcases h with h | ⟨_, h⟩
    · obtain ⟨r1, r2, r3, r4⟩ := lsY_hit 0 h
      exact ⟨r1, r2, r3, by rw [r4]; exact h1⟩
    · exact ih h
  | case2 z h1 => cases h
theorem le400 {y n : Int} (h0 : 0 ≤ y) (h : y * y ≤ n) (hn : n ≤ 160000) : y ≤ 400 := by
  apply Classical.byContradiction
  intro hc
  have : 401 * 401 ≤ y * y := Int.mul_le_mul (by omega) (by omega) (by omega) (by omega)
  omega
theorem ls_place {a b c : Int} (h : NmT a b c) {f : F3} (hf : lsZ a b c 0 = some f) : cpV a b c = -1 := by
  obtain ⟨p1, p2, p3, p4, p5, p6⟩ := h.pd
  obtain ⟨r1, r2, ⟨y0, y1⟩, z0, z1⟩ := lsZ_hit 0 hf
  have hy := le400 y0 y1 (by omega)
  have hz := le400 z0 z1 (by omega)
  have hT : Tr a b c f.2.1 f.2.2 := ⟨⟨h.bd, h.nz.1⟩, ⟨y0, hy⟩, z0, hz⟩
  simp only [lsH, Bool.and_eq_true, beq_iff_eq] at r1
  obtain ⟨hB, _, hg⟩ := r1
  obtain ⟨e1, x0, x1⟩ := thX_sq hT hB
  have k1 := gcd_le (a := f.2.1) (b := f.2.2) (by omega) (by omega)
  rw [gcdI_eq (a := f.2.1) (by omega) (by omega), gcdI_eq (by omega) (by omega)] at hg
  exact place_free h e1 (by omega)
end Go.Proofs.Ythjmjacniemfiab
