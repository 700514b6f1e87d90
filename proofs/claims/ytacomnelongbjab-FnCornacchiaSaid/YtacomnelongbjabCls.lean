/-
  Class forms on both sides; the greatest common divisor on both sides. Conditions: none.
-/
import Derived.Test.YtacomnelongbjabRed
namespace Go.Proofs.Ytacomnelongbjab
open Go Go.RowKit
set_option maxRecDepth 100000
set_option linter.unusedSimpArgs false
set_option linter.unusedVariables false
set_option maxHeartbeats 4000000

-- (not in this seat: Reduced1)
-- (not in this seat: ReClass)

/-! ### class forms, on both sides -/
theorem areB_iff {n : Int} : areB n = true ↔ -1000000 ≤ n ∧ n ≤ 1000000 := by
  simp [areB]
theorem good_are (n : Int) : goodI n = areB n := by
  rw [Bool.eq_iff_iff, areB_iff]
  simp [goodI, inI]
theorem disc_id {a b c : Int} (ha : -1000000 ≤ a ∧ a ≤ 1000000) (hb : -1000000 ≤ b ∧ b ≤ 1000000) (hc : -1000000 ≤ c ∧ c ≤ 1000000) : discI a b c = b * b - 4 * a * c := by
  rw [discI_eq]
  have h1 : 0 ≤ b * b ∧ b * b ≤ 1000000000000 := by
    have h2 : (b.natAbs * b.natAbs : Nat) ≤ 1000000 * 1000000 := Nat.mul_le_mul (by omega) (by omega)
    have h3 : ((b.natAbs * b.natAbs : Nat) : Int) = b * b := by rw [Int.natCast_mul]; exact Int.natAbs_mul_self' b
    omega
  have h2 : -1000000000000 ≤ a * c ∧ a * c ≤ 1000000000000 := by
    have h2 : (a.natAbs * c.natAbs : Nat) ≤ 1000000 * 1000000 := Nat.mul_le_mul (by omega) (by omega)
    have h3 : (a * c).natAbs = a.natAbs * c.natAbs := Int.natAbs_mul a c
    omega
  have h3 : 4 * a * c = 4 * (a * c) := by rw [Int.mul_assoc]
  rw [h3]
  exact wrap_id (by omega) (by omega)
theorem def_dom {a b c : Int} (h : defB a b c = true) : Dom a b c := by
  simp only [defB, formB, Bool.and_eq_true, decide_eq_true_eq, areB_iff] at h
  obtain ⟨⟨h1, h2, h3⟩, h4, h5⟩ := h
  rw [disc_id h1 h2 h3] at h4
  have hc : 0 < c := by
    have h6 : 0 ≤ b * b := by
      rcases Int.le_total 0 b with h | h
      · exact Int.mul_nonneg h h
      · exact Int.mul_nonneg_of_nonpos_of_nonpos h h
    have h7 : 0 < 4 * a * c := by omega
    exact Int.pos_of_mul_pos_right h7 (by omega)
  exact ⟨h5, hc, by omega, by omega, by omega, by omega⟩
theorem Dom.opp {a b c : Int} (h : Dom a b c) : Dom a (-b) c := by
  have h1 : -b * -b = b * b := by grind
  exact ⟨h.a0, h.c0, by rw [h1]; exact h.d, h.a1, by have := h.b1; omega, h.c1⟩
theorem Dom.neg {a b c : Int} (h : Dom a b c) : wrap64 (0 - b) = -b := by
  have := h.b1
  rw [wrap_id (by omega) (by omega)]; omega

/-! ### the greatest common divisor, on both sides -/
theorem gcdL_abs (a b : Int) : (gcdL a b).natAbs = Int.gcd a b := by
  fun_induction gcdL a b with
  | case1 a => simp
  | case2 a b h ih =>
    rw [ih]
    unfold Int.gcd
    rw [Int.natAbs_tmod, Nat.gcd_comm, ← Nat.gcd_rec, Nat.gcd_comm]
theorem gcdL_nonneg {a b : Int} (ha : 0 ≤ a) (hb : 0 ≤ b) : 0 ≤ gcdL a b := by
  fun_induction gcdL a b with
  | case1 a => exact ha
  | case2 a b h ih => exact ih hb (Int.tmod_nonneg b ha)
theorem gcd_le {a b : Int} (ha : a.natAbs ≤ 1000000000) (hb : b.natAbs ≤ 1000000000) : Int.gcd a b ≤ 1000000000 := by
  unfold Int.gcd
  by_cases h : b.natAbs = 0
  · rw [h, Nat.gcd_zero_right]; exact ha
  · exact Nat.le_trans (Nat.gcd_le_right _ (by omega)) hb
theorem gcdI_eq {a b : Int} (ha : a.natAbs ≤ 1000000000) (hb : b.natAbs ≤ 1000000000) : gcdI a b = Int.gcd a b := by
  have h1 := gcdL_abs a b
  have h2 := gcd_le ha hb
  unfold gcdI absI
  have h3 : max (gcdL a b) (-9223372036854775807) = gcdL a b := by omega
  rw [h3, wrap_id (by omega) (by omega)]
  omega
theorem labs_eq {a : Int} (ha : a.natAbs ≤ 1000000000) : labsI a = a.natAbs := by
  unfold labsI mostI
  rw [wrap_id (by omega) (by omega)]
  split <;> omega
theorem nuGcdI_eq {a b : Int} (ha : a.natAbs ≤ 1000000000) (hb : b.natAbs ≤ 1000000000) : nuGcdI a b = Int.gcd a b := by
  unfold nuGcdI
  rw [labs_eq ha, labs_eq hb]
  have h1 := gcdL_abs (a.natAbs : Int) (b.natAbs : Int)
  have h2 : 0 ≤ gcdL (a.natAbs : Int) (b.natAbs : Int) := gcdL_nonneg (by omega) (by omega)
  have h3 : Int.gcd (a.natAbs : Int) (b.natAbs : Int) = Int.gcd a b := by simp [Int.gcd]
  omega
theorem content_eq {a b c : Int} (ha : a.natAbs ≤ 1000000000) (hb : b.natAbs ≤ 1000000000) (hc : c.natAbs ≤ 1000000000) : nuGcdI (nuGcdI a b) c = gcdI a (gcdI b c) := by
  have h1 := gcd_le ha hb
  have h2 := gcd_le hb hc
  rw [nuGcdI_eq ha hb, gcdI_eq hb hc, nuGcdI_eq (by omega) hc, gcdI_eq ha (by omega)]
  simp [Int.gcd, Nat.gcd_assoc]
theorem class_eq (a b c : Int) : sclassB a b c = classB a b c := by
  have hs : sshownB a b c = shownB a b c := by simp [sshownB, shownB, sdefB, defB, sformB, formB, good_are]
  unfold sclassB classB
  rw [hs]
  cases h : shownB a b c with
  | false => rfl
  | true =>
    simp only [shownB, defB, formB, Bool.and_eq_true, areB_iff] at h
    obtain ⟨⟨⟨h1, h2, h3⟩, _⟩, _⟩ := h
    rw [content_eq (by omega) (by omega) (by omega)]

def onB (b : Bool) (n : Int) : Int := bif b then n else 0
theorem class_dom {a b c : Int} (h : classB a b c = true) : Dom a b c := by
  simp only [classB, shownB, Bool.and_eq_true] at h
  exact def_dom h.1.1
theorem class_opp {a b c : Int} (h : classB a b c = true) : domB a (wrap64 (0 - b)) c = true := by
  have d := class_dom h
  rw [d.neg]
  exact domB_iff.2 d.opp
end Go.Proofs.Ytacomnelongbjab
