/-
  Contracts of the reduction in plain terms, of matrices, of the principal form. Conditions: none.
-/
import Derived.Test.YtacomnelongbjabRdx
namespace Go.Proofs.Ytacomnelongbjab
open Go Go.RowKit
set_option maxRecDepth 100000
set_option linter.unusedSimpArgs false
set_option linter.unusedVariables false
set_option maxHeartbeats 4000000

theorem CtrOk.imp {P : Program} {f : Nat} {g g' : Ctr} (h : CtrOk P f g) (hg : ∀ args ce', g' args = some ce' → ce'.pre → ∃ ce, g args = some ce ∧ ce.pre ∧ ce.res = ce'.res ∧ ce.outs = ce'.outs) : CtrOk P f g' := by
  refine ⟨fun args ce' he => ⟨fun hp => ?_, fun l a s rest a' s' e1 e2 e3 hp => ?_⟩, h.2⟩
  · obtain ⟨⟨p, r, o⟩, h1, h2, h3, h4⟩ := hg args ce' he hp
    obtain ⟨p', r', o'⟩ := ce'
    simp only at h3 h4
    subst h3 h4
    intro w vals ha
    obtain h5 := (h.1 args _ h1).go h2 w vals ha
    refine Calls.mono h5 fun e w' ⟨v, he, hr⟩ => ⟨v, he, hr.chg, hr.res, hr.outs⟩
  · obtain ⟨⟨p, r, o⟩, h1, h2, h3, h4⟩ := hg args ce' he hp
    obtain ⟨p', r', o'⟩ := ce'
    simp only at h3 h4
    subst h3 h4
    exact (h.1 args _ h1).cu l a s rest a' s' e1 e2 e3 h2
/-! ### class forms -/
theorem class_disc {a b c : Int} (h : classB a b c = true) : discI a b c = dsc (a, b, c) ∧ -2000 ≤ dsc (a, b, c) ∧ dsc (a, b, c) ≤ -3 ∧ (dsc (a, b, c) % 4 = 0 ∨ dsc (a, b, c) % 4 = 1) := by
  simp only [classB, shownB, defB, formB, Bool.and_eq_true, areB_iff, decide_eq_true_eq] at h
  obtain ⟨⟨⟨⟨h1, h2, h3⟩, h4, _⟩, h6⟩, _⟩ := h
  have e : discI a b c = dsc (a, b, c) := disc_id h1 h2 h3
  rw [e] at h4 h6
  have h7 : dsc (a, b, c) = b * b - 4 * (a * c) := by unfold dsc; simp only; rw [Int.mul_assoc]
  have h8 : (b * b) % 4 = 0 ∨ (b * b) % 4 = 1 := by
    rw [Int.mul_emod]
    have h9 : b % 4 = 0 ∨ b % 4 = 1 ∨ b % 4 = 2 ∨ b % 4 = 3 := by omega
    rcases h9 with h | h | h | h <;> rw [h] <;> simp
  exact ⟨e, h6, by omega, by omega⟩
theorem class_domB {a b c : Int} (h : classB a b c = true) : domB a b c = true := domB_iff.2 (class_dom h)
theorem def_domB {a b c : Int} (h : defB a b c = true) : domB a b c = true := domB_iff.2 (def_dom h)
theorem sdef_eq (a b c : Int) : sdefB a b c = defB a b c := by simp [sdefB, defB, sformB, formB, good_are]
theorem sshown_eq (a b c : Int) : sshownB a b c = shownB a b c := by rw [sshownB, sdef_eq]; rfl
theorem shown_domB {a b c : Int} (h : shownB a b c = true) : domB a b c = true := by
  simp only [shownB, Bool.and_eq_true] at h
  exact def_domB h.1
theorem class_shown {a b c : Int} (h : classB a b c = true) : shownB a b c = true := by
  simp only [classB, Bool.and_eq_true] at h
  exact h.1

/-! ### the principal form -/
theorem negB_mod {d : Int} (h : negB d = true) : d % 4 = 0 ∨ d % 4 = 1 := by
  simp only [negB, Bool.and_eq_true, decide_eq_true_eq] at h
  obtain ⟨_, _, h⟩ := h
  rw [modI_eq (by omega) (by omega)] at h
  omega
def prI (d : Int) : F3 := (1, modI d 2, wrap64 ((wrap64 (modI d 2 - d)).tdiv 4))
-- (not in this seat: Principal)
-- (not in this seat: CoOne)
theorem prI_eq {d : Int} (hd : -2000000 ≤ d ∧ d ≤ -3) (h4 : d % 4 = 0 ∨ d % 4 = 1) : prI d = (1, d % 2, (d % 2 - d) / 4) ∧ IsRed d (prI d) := by
  have e0 : modI d 2 = d % 2 := modI_eq (by omega) (by omega)
  have e1 : prI d = (1, d % 2, (d % 2 - d) / 4) := by
    unfold prI
    rw [e0, wrap_id (n := d % 2 - d) (by omega) (by omega), Int.tdiv_eq_ediv_of_nonneg (by omega), wrap_id (by omega) (by omega)]
  refine ⟨e1, ?_⟩
  rw [e1]
  have h2 : d % 2 = 0 ∨ d % 2 = 1 := by omega
  refine ⟨by simp only; omega, by simp only; omega, by simp only; omega, by simp only; omega, ?_⟩
  simp only
  rcases h2 with h | h <;> rw [h] <;> omega
theorem red_domB {d : Int} {x : F3} (hd : -1000000000 ≤ d) (h : IsRed d x) : x.dom = true := by
  obtain ⟨h1, h2⟩ := h.three
  have ha := h.a0
  have hl := h.le
  have hb := h.abs
  have hD := h.d
  refine domB_iff.2 ?_
  have e2 : 3 * x.1 * x.2.2 = 3 * (x.2.2 * x.1) := by rw [Int.mul_assoc, Int.mul_comm x.1]
  have e1 : x.2.2 * 1 ≤ x.2.2 * x.1 := Int.mul_le_mul_of_nonneg_left (by omega) (by omega)
  have e3 : 0 < x.2.2 * x.1 := Int.mul_pos (by omega) ha
  refine ⟨ha, by omega, ?_, by omega, by omega, by omega⟩
  have e4 : 4 * x.1 * x.2.2 = 4 * (x.2.2 * x.1) := by rw [Int.mul_assoc, Int.mul_comm x.1]
  omega
theorem prI_rdx {d : Int} (hd : -2000000 ≤ d ∧ d ≤ -3) (h4 : d % 4 = 0 ∨ d % 4 = 1) : rdx (prI d) = prI d ∧ (prI d).dom = true := by
  obtain ⟨e, h⟩ := prI_eq hd h4
  refine ⟨rdx_of_red (red_of h ?_), red_domB (by omega) h⟩
  rw [e]; simp only; omega

/-! ### matrices -/
def matB (a b c d : Int) : Bool := areB a && (areB b && (areB c && areB d))
-- (not in this seat: IsMatrix)
-- (not in this seat: FoMatrix)
def detI (a b c d : Int) : Int := wrap64 (wrap64 (a * d) - wrap64 (b * c))
-- (not in this seat: Det)
-- (not in this seat: FoDet)
def invI (a b c d : Int) : List Int := [wrap64 (detI a b c d * d), wrap64 (wrap64 (0 - detI a b c d) * b), wrap64 (wrap64 (0 - detI a b c d) * c), wrap64 (detI a b c d * a)]
-- (not in this seat: MInverse)
-- (not in this seat: FoInverse)
-- (not in this seat: Checked)
end Go.Proofs.Ytacomnelongbjab
