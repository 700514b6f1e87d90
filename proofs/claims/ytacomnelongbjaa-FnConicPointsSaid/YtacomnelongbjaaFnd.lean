/-
  Contracts of square-free parts, of fundamental discriminants, of ideals and their classes, and of the laws on them. Conditions: none.
-/
import Derived.Test.YtacomnelongbjaaRt
namespace Go.Proofs.Ytacomnelongbjaa
open Go Go.RowKit
set_option maxRecDepth 100000
set_option linter.unusedSimpArgs false
set_option linter.unusedVariables false
set_option maxHeartbeats 4000000

def sfIn (n k p : Int) : Int × Int := if _h : n ≠ 0 ∧ 2 ≤ p ∧ n.tmod (p * p) = 0 then sfIn (n.tdiv (p * p)) (k * p) p else (n, k)
  termination_by n.natAbs
  decreasing_by
    rw [Int.natAbs_tdiv]
    have h1 : 4 ≤ (p * p).natAbs := by
      have : 2 * 2 ≤ p * p := Int.mul_le_mul _h.2.1 _h.2.1 (by omega) (by omega)
      omega
    exact Nat.div_lt_self (by omega) (by omega)
theorem sf_quo {n p : Int} (hn : n ≠ 0) (hp : 2 ≤ p) (h : n.tmod (p * p) = 0) : n.tdiv (p * p) ≠ 0 ∧ (n.tdiv (p * p)).natAbs < n.natAbs ∧ p * p * n.tdiv (p * p) = n := by
  have e := Int.mul_tdiv_add_tmod n (p * p)
  rw [h, Int.add_zero] at e
  refine ⟨fun h0 => by rw [h0, Int.mul_zero] at e; exact hn e.symm, ?_, e⟩
  rw [Int.natAbs_tdiv]
  have h1 : 4 ≤ (p * p).natAbs := by
    have : 2 * 2 ≤ p * p := Int.mul_le_mul hp hp (by omega) (by omega)
    omega
  exact Nat.div_lt_self (by omega) (by omega)
theorem sfIn_spec {n k p : Int} (hn : n ≠ 0) : (sfIn n k p).1 ≠ 0 ∧ (sfIn n k p).1.natAbs ≤ n.natAbs := by
  fun_induction sfIn n k p with
  | case1 n k h ih =>
    obtain ⟨h1, h2, _⟩ := sf_quo h.1 h.2.1 h.2.2
    have := ih h1
    omega
  | case2 n k h => exact ⟨hn, Nat.le_refl _⟩
def sfOut (n k p : Int) : Int × Int := if _h : n ≠ 0 ∧ 2 ≤ p ∧ p * p ≤ (n.natAbs : Int) then sfOut (sfIn n k p).1 (sfIn n k p).2 (p + 1) else (n, k)
  termination_by ((n.natAbs : Int) + 2 - p).toNat
  decreasing_by
    have h1 := (sfIn_spec (n := n) (k := k) (p := p) _h.1).2
    have h2 : 2 * p ≤ p * p := Int.mul_le_mul_of_nonneg_right _h.2.1 (by omega)
    omega
/-- what the loops keep -/
structure SfI (n k : Int) : Prop where
  n0 : n ≠ 0
  n1 : n.natAbs ≤ 1000000
  k0 : 1 ≤ k
  nk : k * k * (n.natAbs : Int) ≤ 1000000
theorem SfI.k1 {n k : Int} (h : SfI n k) : k ≤ 1000 := by
  have h1 := h.n0
  have h2 : k * k * 1 ≤ k * k * (n.natAbs : Int) := Int.mul_le_mul_of_nonneg_left (by omega) (sq_nonneg k)
  have h3 := h.nk
  exact (abs_le_of_sq (x := k) (n := 1000) (by omega) (by omega)).2
theorem SfI.step {n k p : Int} (h : SfI n k) (hp : 2 ≤ p) (hm : n.tmod (p * p) = 0) : SfI (n.tdiv (p * p)) (k * p) := by
  obtain ⟨h1, h2, h3⟩ := sf_quo h.n0 hp hm
  have hk := h.k0
  have hn := h.nk
  have hn1 := h.n1
  refine ⟨h1, by omega, ?_, ?_⟩
  · have : 1 * 2 ≤ k * p := Int.mul_le_mul hk hp (by omega) (by omega)
    omega
  · have e : (n.natAbs : Int) = p * p * ((n.tdiv (p * p)).natAbs : Int) := by
      have h4 : n.natAbs = (p * p).natAbs * (n.tdiv (p * p)).natAbs := by rw [← Int.natAbs_mul, h3]
      have h5 : ((p * p).natAbs : Int) = p * p := Int.natAbs_of_nonneg (sq_nonneg p)
      rw [h4, Int.natCast_mul, h5]
    have e2 : k * p * (k * p) * ((n.tdiv (p * p)).natAbs : Int) = k * k * (n.natAbs : Int) := by rw [e]; grind
    omega
theorem SfI.inn {n k p : Int} (h : SfI n k) : SfI (sfIn n k p).1 (sfIn n k p).2 := by
  fun_induction sfIn n k p with
  | case1 n k hc ih => exact ih (h.step hc.2.1 hc.2.2)
  | case2 n k hc => exact h
def sfI (n : Int) : Int × Int := sfOut n 1 2
def sfS (n : Int) : Int := (sfI n).1
def sfK (n : Int) : Int := (sfI n).2
theorem sf_init {n : Int} (hn : n ≠ 0) (h : n.natAbs ≤ 1000000) : SfI n 1 := ⟨hn, h, by omega, by omega⟩
theorem absI_eq {n : Int} (h : n.natAbs ≤ 1000000000) : absI n = n.natAbs := by
  unfold absI
  have h3 : max n (-9223372036854775807) = n := by omega
  rw [h3, wrap_id (by omega) (by omega)]
  omega
theorem labs_eq' {n : Int} (h : n.natAbs ≤ 1000000000) : labsI n = n.natAbs := by
  unfold labsI mostI
  rw [wrap_id (by omega) (by omega)]
  split <;> omega
-- (not in this seat: SquareFree)
-- (not in this seat: NuFree)
def fuE (d : Int) : Int := bif modI (sfS d) 4 == 1 then sfS d else wrap64 (4 * sfS d)
def fuK (d : Int) : Int := bif modI (sfS d) 4 == 1 then sfK d else wrap64 ((sfK d).tdiv 2)
-- (not in this seat: Fundamental)
-- (not in this seat: DiSplit)
def diB (d : Int) : Bool := goodI d && (decide (modI d 4 < 2) && !sqB d)
-- (not in this seat: DiIs)
theorem sqB_zero : sqB 0 = true := (sqB_iff (by omega)).2 ⟨0, rfl⟩
theorem diB_in {d : Int} (h : diB d = true) : d ≠ 0 ∧ d.natAbs ≤ 1000000 := by
  simp only [diB, Bool.and_eq_true, Bool.not_eq_true'] at h
  obtain ⟨h1, _, h3⟩ := h
  rw [good_are, areB_iff] at h1
  refine ⟨fun e => ?_, by omega⟩
  rw [e, sqB_zero] at h3
  cases h3
theorem diB_neg {d : Int} (h : negB d = true) : diB d = true := by
  have h1 := negB_in h
  have h2 := negB_mod h
  simp only [diB, Bool.and_eq_true, Bool.not_eq_true']
  refine ⟨?_, ?_, ?_⟩
  · rw [good_are, areB_iff]; omega
  · rw [decide_eq_true_iff, modI_eq (by omega) (by omega)]; omega
  · unfold sqB
    have : decide (d ≥ 0) = false := by rw [decide_eq_false_iff_not]; omega
    rw [this]; rfl
-- (not in this seat: SIsFund)
def fnB (d : Int) : Bool := negB d && fuK d == 1
-- (not in this seat: PiDisc)
-- (not in this seat: FundNeg)

/-! ### ideals -/
def idlB (d s a b : Int) : Bool := negB d && (inI s 1 10000 && (inI a 1 10000 && (inI b 0 (2 * a - 1) && (wrap64 (wrap64 (b * b) - d)).tmod (wrap64 (4 * a)) == 0)))
-- (not in this seat: IsIdeal)
-- (not in this seat: IdGood)
def whoB (d s a b : Int) : Bool := fnB d && idlB d s a b
-- (not in this seat: IsWhole)
-- (not in this seat: PiGood)
theorem idl_dom {d s a b : Int} (h : idlB d s a b = true) : domB a b (cOf d a b) = true ∧ wrap64 (4 * a) ≠ 0 ∧ discI a b (cOf d a b) = d := by
  simp only [idlB, Bool.and_eq_true, beq_iff_eq] at h
  obtain ⟨h0, _, h2, h3, h4⟩ := h
  have hd := negB_in h0
  have ha : a ≥ 1 ∧ a ≤ 10000 := by simpa [inI] using h2
  have hb : b ≥ 0 ∧ b ≤ 2 * a - 1 := by simpa [inI] using h3
  have hs := sq_in (n := 20000) (by omega) (show -20000 ≤ b ∧ b ≤ 20000 by omega)
  have e1 : wrap64 (wrap64 (b * b) - d) = b * b - d := by rw [wrap_id (n := b * b) (by omega) (by omega), wrap_id (by omega) (by omega)]
  have e2 : wrap64 (4 * a) = 4 * a := wrap_id (by omega) (by omega)
  rw [e1, e2] at h4
  have e := Int.mul_tdiv_add_tmod (b * b - d) (4 * a)
  rw [h4, Int.add_zero] at e
  have h5 : 0 ≤ (b * b - d).tdiv (4 * a) := Int.tdiv_nonneg (by omega) (by omega)
  have h6 := tdiv_bd' (a := b * b - d) (b := 4 * a) (k := 400002000) ⟨by omega, by omega⟩
  have e3 : cOf d a b = (b * b - d).tdiv (4 * a) := by unfold cOf; rw [e1, e2, wrap_id (by omega) (by omega)]
  have h7 : (b * b - d).tdiv (4 * a) ≠ 0 := fun h0 => by rw [h0, Int.mul_zero] at e; omega
  rw [e3]
  refine ⟨domB_iff.2 ⟨by omega, by omega, by omega, by omega, by omega, by omega⟩, by omega, ?_⟩
  rw [discI_eq, e, wrap_id (by omega) (by omega)]
  omega
-- (not in this seat: IForm)
-- (not in this seat: SIdForm)
-- (not in this seat: PiClass)
theorem who_idl {d s a b : Int} (h : whoB d s a b = true) : idlB d s a b = true := by
  simp only [whoB, Bool.and_eq_true] at h
  exact h.2
-- (not in this seat: IdealClass)
-- (not in this seat: SIdealClass)
-- (not in this seat: ToIdeal)
-- (not in this seat: LawIdealClass)
def aieB (d s a b t x y : Int) : Bool := (whoB d s a b && whoB d t x y) && decide (rd3 a b (cOf d a b) = rd3 x y (cOf d x y))
-- (not in this seat: AreEqv)
-- (not in this seat: SAreEqv)
-- (not in this seat: LawAreEqv)
theorem rd_facts {a b c d : Int} (h : domB a b c = true) (hd : discI a b c = d) (hn : negB d = true) (hs : dsc (a, b, c) = d) : domB (rdA a b c) (rdB a b c) (rdC a b c) = true ∧ discI (rdA a b c) (rdB a b c) (rdC a b c) = d ∧ rd3 (rdA a b c) (rdB a b c) (rdC a b c) = rd3 a b c := by
  have e := rd3_eq h
  have hr := rdx_red (x := (a, b, c)) h
  rw [hs] at hr
  have h1 := negB_in hn
  have h3 := hr.small h1.1
  have e1 : rdx (a, b, c) = (rdA a b c, rdB a b c, rdC a b c) := e.symm
  rw [e1] at hr h3
  simp only at h3
  have hd1 : domB (rdA a b c) (rdB a b c) (rdC a b c) = true := red_domB (by omega) hr
  refine ⟨hd1, ?_, ?_⟩
  · rw [disc_id (by omega) (by omega) (by omega)]; exact hr.d
  · rw [rd3_eq hd1, rdx_of_red (red_of hr (by simp only; omega))]; rfl
def ipiB (d s a b : Int) : Bool := whoB d s a b && decide (rd3 a b (cOf d a b) = prI d)
theorem idl_dsc {d s a b : Int} (h : idlB d s a b = true) : dsc (a, b, cOf d a b) = d ∧ negB d = true := by
  simp only [idlB, Bool.and_eq_true, beq_iff_eq] at h
  obtain ⟨h0, _, h2, h3, h4⟩ := h
  have hd := negB_in h0
  have ha : a ≥ 1 ∧ a ≤ 10000 := by simpa [inI] using h2
  have hb : b ≥ 0 ∧ b ≤ 2 * a - 1 := by simpa [inI] using h3
  have hs := sq_in (n := 20000) (by omega) (show -20000 ≤ b ∧ b ≤ 20000 by omega)
  have e1 : wrap64 (wrap64 (b * b) - d) = b * b - d := by rw [wrap_id (n := b * b) (by omega) (by omega), wrap_id (by omega) (by omega)]
  have e2 : wrap64 (4 * a) = 4 * a := wrap_id (by omega) (by omega)
  rw [e1, e2] at h4
  have e := Int.mul_tdiv_add_tmod (b * b - d) (4 * a)
  rw [h4, Int.add_zero] at e
  have h6 := tdiv_bd' (a := b * b - d) (b := 4 * a) (k := 400002000) ⟨by omega, by omega⟩
  have e3 : cOf d a b = (b * b - d).tdiv (4 * a) := by unfold cOf; rw [e1, e2, wrap_id (by omega) (by omega)]
  refine ⟨?_, h0⟩
  unfold dsc
  simp only
  rw [e3, e]
  omega
-- (not in this seat: IsPrinc)
-- (not in this seat: SIsPrinc)
-- (not in this seat: LawIsPrinc)
end Go.Proofs.Ytacomnelongbjaa
