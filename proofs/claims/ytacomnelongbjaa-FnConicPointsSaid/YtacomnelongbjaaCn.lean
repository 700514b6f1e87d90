/-
  The conductor's factor and class numbers by conductors, in plain terms and as contracts of both sides. Conditions: none.
-/
import Derived.Test.YtacomnelongbjaaPfc
import Derived.Test.YtacomnelongbjaaFnd
namespace Go.Proofs.Ytacomnelongbjaa
open Go Go.RowKit
set_option maxRecDepth 100000
set_option linter.unusedSimpArgs false
set_option linter.unusedVariables false
set_option maxHeartbeats 4000000

/-! ### square-free parts: what the split keeps -/
theorem sfIn_prod {n k p : Int} : (sfIn n k p).2 * (sfIn n k p).2 * (sfIn n k p).1 = k * k * n := by
  fun_induction sfIn n k p with
  | case1 n k h ih =>
    obtain ⟨h1, h2, h3⟩ := sf_quo h.1 h.2.1 h.2.2
    rw [ih]
    generalize n.tdiv (p * p) = q at *
    rw [← h3]; grind
  | case2 n k h => rfl
theorem sfOut_prod {n k p : Int} : (sfOut n k p).2 * (sfOut n k p).2 * (sfOut n k p).1 = k * k * n := by
  fun_induction sfOut n k p with
  | case1 n k p h ih => rw [ih, sfIn_prod]
  | case2 n k p h => rfl
theorem sfIn_four {n k p : Int} (h4 : n % 4 ≠ 0) : (sfIn n k p).1 % 4 ≠ 0 := by
  fun_induction sfIn n k p with
  | case1 n k h ih =>
    obtain ⟨h1, h2, h3⟩ := sf_quo h.1 h.2.1 h.2.2
    apply ih
    intro hc
    apply h4
    obtain ⟨j, hj⟩ := Int.dvd_of_emod_eq_zero hc
    rw [← h3, hj, show p * p * (4 * j) = 4 * (p * p * j) by grind]
    exact Int.mul_emod_right _ _
  | case2 n k h => exact h4
theorem sfIn_two {n k : Int} (hn : n ≠ 0) : (sfIn n k 2).1 % 4 ≠ 0 := by
  fun_induction sfIn n k 2 with
  | case1 n k h ih => exact ih (sf_quo h.1 h.2.1 h.2.2).1
  | case2 n k h =>
    intro hc
    refine h ⟨hn, by omega, ?_⟩
    rw [Int.tmod_eq_emod]
    split <;> omega
theorem sfOut_four {n k p : Int} (h4 : n % 4 ≠ 0) : (sfOut n k p).1 % 4 ≠ 0 := by
  fun_induction sfOut n k p with
  | case1 n k p h ih => exact ih (sfIn_four h4)
  | case2 n k p h => exact h4
theorem sf_four {n : Int} (hn : n ≠ 0) : sfS n % 4 ≠ 0 := by
  unfold sfS sfI
  rw [sfOut.eq_def]
  split
  · exact sfOut_four (sfIn_two hn)
  · rename_i h
    show n % 4 ≠ 0
    omega
theorem sf_prod (n : Int) : sfK n * sfK n * sfS n = n := by
  have h := sfOut_prod (n := n) (k := 1) (p := 2)
  unfold sfK sfS sfI
  rw [h]; omega
theorem SfI.out {n k p : Int} (h : SfI n k) : SfI (sfOut n k p).1 (sfOut n k p).2 := by
  fun_induction sfOut n k p with
  | case1 n k p hc ih => exact ih h.inn
  | case2 n k p hc => exact h
theorem sf_inv {n : Int} (hn : n ≠ 0) (h : n.natAbs ≤ 1000000) : SfI (sfS n) (sfK n) := (sf_init hn h).out
/-- a negative discriminant's fundamental part and conductor -/
structure FuN (d : Int) : Prop where
  e1 : d ≤ fuE d
  e2 : fuE d ≤ -3
  e4 : fuE d % 4 = 0 ∨ fuE d % 4 = 1
  k1 : 1 ≤ fuK d
  k2 : fuK d * fuK d * 3 ≤ 2000
  pr : fuK d * fuK d * fuE d = d
theorem fu_neg {d : Int} (h : negB d = true) : FuN d := by
  have hi := negB_in h
  have hm := negB_mod h
  have h4 := sf_four (n := d) (by omega)
  have hp := sf_prod d
  have hI := sf_inv (n := d) (by omega) (by omega)
  have hk := hI.k0
  have hk2 := sq_nonneg (sfK d)
  have hs0 := hI.n0
  have hkk : 1 ≤ sfK d * sfK d := by
    have : 1 * 1 ≤ sfK d * sfK d := Int.mul_le_mul hk hk (by omega) (by omega)
    omega
  have hsn : sfS d < 0 := by
    apply Classical.byContradiction
    intro hc
    have : 0 ≤ sfK d * sfK d * sfS d := Int.mul_nonneg (by omega) (by omega)
    omega
  have hge : sfK d * sfK d * sfS d ≤ 1 * sfS d := Int.mul_le_mul_of_nonpos_right hkk (by omega)
  have hpar : sfS d % 4 ≠ 1 → sfK d % 2 = 0 := by
    intro h1
    apply Classical.byContradiction
    intro hc
    obtain ⟨j, hj⟩ : ∃ j, sfK d = 2 * j + 1 := ⟨sfK d / 2, by omega⟩
    have e : sfK d * sfK d = 4 * (j * j + j) + 1 := by rw [hj]; grind
    rw [e] at hp
    have e2 : (4 * (j * j + j) + 1) * sfS d = 4 * ((j * j + j) * sfS d) + sfS d := by grind
    omega
  have he : modI (sfS d) 4 = sfS d % 4 := modI_eq (by omega) (by omega)
  by_cases g : sfS d % 4 = 1
  · have hb : (modI (sfS d) 4 == 1) = true := by rw [he]; simpa using g
    have q1 : fuE d = sfS d := by unfold fuE; rw [hb]; rfl
    have q2 : fuK d = sfK d := by unfold fuK; rw [hb]; rfl
    have q3 : sfK d * sfK d * 3 ≤ sfK d * sfK d * (-sfS d) := Int.mul_le_mul_of_nonneg_left (by omega) hk2
    rw [Int.mul_neg, hp] at q3
    exact ⟨by rw [q1]; omega, by rw [q1]; omega, by rw [q1]; omega, by rw [q2]; exact hk, by rw [q2]; omega, by rw [q1, q2]; exact hp⟩
  · have hb : (modI (sfS d) 4 == 1) = false := by rw [he]; simpa using g
    have hsd : -2000 ≤ sfS d := by omega
    have q1 : fuE d = 4 * sfS d := by unfold fuE; rw [hb]; exact wrap_id (by omega) (by omega)
    have hk1 := hI.k1
    have q2 : fuK d = sfK d / 2 := by unfold fuK; rw [hb]; show wrap64 _ = _; rw [tdiv_nn (by omega), wrap_id (by omega) (by omega)]
    have hev := hpar g
    obtain ⟨j, hj⟩ : ∃ j, sfK d = 2 * j := ⟨sfK d / 2, by omega⟩
    have hj2 : sfK d / 2 = j := by omega
    have hpj : j * j * (4 * sfS d) = d := by rw [hj] at hp; rw [← hp]; grind
    have hjj : 1 ≤ j * j := by
      have : 1 * 1 ≤ j * j := Int.mul_le_mul (by omega) (by omega) (by omega) (by omega)
      omega
    have q3 : j * j * 3 ≤ j * j * (-(4 * sfS d)) := Int.mul_le_mul_of_nonneg_left (by omega) (by omega)
    rw [Int.mul_neg, hpj] at q3
    have q4 : j * j * (4 * sfS d) ≤ 1 * (4 * sfS d) := Int.mul_le_mul_of_nonpos_right hjj (by omega)
    exact ⟨by rw [q1]; omega, by rw [q1]; omega, by rw [q1]; omega, by rw [q2]; omega, by rw [q2, hj2]; omega, by rw [q1, q2, hj2]; exact hpj⟩
theorem fu_negB {d : Int} (h : negB d = true) : negB (fuE d) = true := by
  have hf := fu_neg h
  have h1 := hf.e1
  have h2 := hf.e2
  have h4 := hf.e4
  have hi := negB_in h
  simp only [negB, Bool.and_eq_true, decide_eq_true_eq]
  rw [modI_eq (by omega) (by omega)]
  omega
/-! ### the conductor's factor -/
def cfF (e o p : Int) : Int := wrap64 (wrap64 (o.tdiv p) * wrap64 (p - krL e p))
def cfI (e k : Int) : Int := (psL k).foldl (cfF e) k
theorem cf_step {e o p : Int} (h0 : 0 ≤ o) (h1 : o ≤ 1000000000) (h2 : 2 ≤ p) (h3 : p ≤ 1000000000) : 0 ≤ cfF e o p ∧ cfF e o p ≤ 2 * o := by
  have hk := krL_abs e _ p (Nat.le_refl _)
  have d1 : o / p * p ≤ o := Int.ediv_mul_le o (by omega)
  have d0 : 0 ≤ o / p := Int.ediv_nonneg h0 (by omega)
  have d2 : o / p * 1 ≤ o / p * p := Int.mul_le_mul_of_nonneg_left (by omega) d0
  have d3 : o / p * (p - krL e p) ≤ o / p * (p + 1) := Int.mul_le_mul_of_nonneg_left (by omega) d0
  have d4 : 0 ≤ o / p * (p - krL e p) := Int.mul_nonneg d0 (by omega)
  have d5 : o / p * (p + 1) = o / p * p + o / p := by grind
  have e1 : cfF e o p = o / p * (p - krL e p) := by
    unfold cfF
    rw [tdiv_nn h0, wrap_id (n := o / p) (by omega) (by omega), wrap_id (n := p - krL e p) (by omega) (by omega), wrap_id (by omega) (by omega)]
  rw [e1]
  omega
theorem cf_fold {e : Int} : ∀ (l : List Int) (o : Int), 0 ≤ o → o * 2 ^ l.length ≤ 1000000000 → (∀ x ∈ l, 2 ≤ x ∧ x ≤ 1000000000) → 0 ≤ l.foldl (cfF e) o ∧ l.foldl (cfF e) o ≤ o * 2 ^ l.length
  | [], o, h0, h1, _ => by simp [h0]
  | p :: l, o, h0, h1, hl => by
    have hp := hl p (by simp)
    have h2 := pow2_nn l.length
    have h3 : (1 : Int) ≤ 2 ^ l.length := by
      have := Nat.one_le_two_pow (n := l.length)
      have e : ((2 ^ l.length : Nat) : Int) = (2 : Int) ^ l.length := by simp
      omega
    rw [List.length_cons, Int.pow_succ] at h1 ⊢
    have e1 : o * (2 ^ l.length * 2) = 2 * o * 2 ^ l.length := by grind
    rw [e1] at h1 ⊢
    have h4 : 2 * o * 1 ≤ 2 * o * 2 ^ l.length := Int.mul_le_mul_of_nonneg_left h3 (by omega)
    obtain ⟨s1, s2⟩ := cf_step (e := e) h0 (by omega) hp.1 hp.2
    have h5 : cfF e o p * 2 ^ l.length ≤ 2 * o * 2 ^ l.length := Int.mul_le_mul_of_nonneg_right s2 h2
    obtain ⟨r1, r2⟩ := cf_fold (e := e) l (cfF e o p) s1 (by omega) (fun x hx => hl x (by simp [hx]))
    rw [List.foldl_cons]
    omega
theorem pow2_mono {m n : Nat} (h : m ≤ n) : (2 : Int) ^ m ≤ 2 ^ n := by
  have := Nat.pow_le_pow_right (show 0 < 2 by omega) h
  have e1 : ((2 ^ m : Nat) : Int) = (2 : Int) ^ m := by simp
  have e2 : ((2 ^ n : Nat) : Int) = (2 : Int) ^ n := by simp
  omega
theorem cf_bd {e k : Int} (h1 : 1 ≤ k) (h2 : k * k * 3 ≤ 2000) : 0 ≤ cfI e k ∧ cfI e k ≤ 2000 := by
  have hk : k ≤ 1000000000 := by
    have : k * 1 ≤ k * k := Int.mul_le_mul_of_nonneg_left h1 (by omega)
    omega
  have hp := ps_all h1 hk
  have hf := fc_all h1 hk
  have h3 := pow2_mono hp.len
  have h4 : k * 2 ^ (psL k).length ≤ k * k := Int.mul_le_mul_of_nonneg_left (by have := hf.pow; omega) (by omega)
  obtain ⟨r1, r2⟩ := cf_fold (e := e) (psL k) k (by omega) (by omega) (fun x hx => by have := hp.el x hx; omega)
  unfold cfI
  omega
theorem cf_take {e k : Int} {n : Nat} (h : n < (psL k).length) : ((psL k).take (n + 1)).foldl (cfF e) k = cfF e (((psL k).take n).foldl (cfF e) k) ((psL k).getD n 0) := by
  have e : (psL k).take (n + 1) = (psL k).take n ++ [(psL k).getD n 0] := by rw [List.take_add_one]; simp [List.getD_eq_getElem?_getD, h]
  rw [e, List.foldl_append]; rfl
def CfPre (e k : Int) : Prop := (1 ≤ k ∧ k ≤ 1000000000) ∧ (-1000000000 ≤ e ∧ e ≤ 1000000000)
-- (not in this seat: CondFactor)
-- (not in this seat: DiFactor)
def unI (d : Int) : Int := if d = -3 then 6 else if d = -4 then 4 else 2
-- (not in this seat: AutCountF)
-- (not in this seat: AutCount)
-- (not in this seat: ReUnits)
def cnH (d : Int) : Int := (((redF (fuE d)).length : Nat) : Int) * cfI (fuE d) (fuK d)
def cnV (d : Int) : Int := cnH d * unI d / unI (fuE d)
theorem cn_nums {d : Int} (h : negB d = true) : wrap64 ((((redF (fuE d)).length : Nat) : Int) * cfI (fuE d) (fuK d)) = cnH d ∧ wrap64 ((wrap64 (cnH d * unI d)).tdiv (unI (fuE d))) = cnV d ∧ wrap64 ((cnH d).tdiv (wrap64 ((unI (fuE d)).tdiv (unI d)))) = cnV d ∧ unI (fuE d) ≠ 0 ∧ unI d ≠ 0 ∧ wrap64 ((unI (fuE d)).tdiv (unI d)) ≠ 0 := by
  have hf := fu_neg h
  have hi := negB_in h
  have h1 := hf.e1
  have h2 := hf.e2
  have hc := cf_bd (e := fuE d) hf.k1 hf.k2
  have hl := redF_len (d := fuE d) (by omega)
  have hp := hf.pr
  have hk := hf.k1
  have hb := mul_bd (a := (((redF (fuE d)).length : Nat) : Int)) (b := cfI (fuE d) (fuK d)) (j := 1300) (k := 2000) (by omega) (by omega) ⟨by omega, by omega⟩ ⟨by omega, by omega⟩
  have hnn : 0 ≤ cnH d := Int.mul_nonneg (by omega) hc.1
  have e0 : cnH d = (((redF (fuE d)).length : Nat) : Int) * cfI (fuE d) (fuK d) := rfl
  have hkk : 1 ≤ fuK d * fuK d := by
    have : 1 * 1 ≤ fuK d * fuK d := Int.mul_le_mul hk hk (by omega) (by omega)
    omega
  have hge : fuK d * fuK d * fuE d ≤ 1 * fuE d := Int.mul_le_mul_of_nonpos_right hkk (by omega)
  have h4 : d = -3 → fuE d = -3 := fun g => by omega
  have h5 : d = -4 → fuE d = -4 := fun g => by
    have h6 : fuE d = -3 ∨ fuE d = -4 := by omega
    rcases h6 with h6 | h6
    · exfalso
      rw [h6] at hp
      omega
    · exact h6
  refine ⟨by rw [e0]; exact wrap_id (by omega) (by omega), ?_⟩
  unfold cnV
  generalize cnH d = H at *
  have cases3 : (unI d = unI (fuE d) ∧ (unI d = 2 ∨ unI d = 4 ∨ unI d = 6)) ∨ (unI d = 2 ∧ (unI (fuE d) = 4 ∨ unI (fuE d) = 6)) := by
    unfold unI
    by_cases g3 : d = -3
    · rw [if_pos g3, if_pos (h4 g3)]; omega
    · rw [if_neg g3]
      by_cases g4 : d = -4
      · have := h5 g4
        rw [if_pos g4, if_neg (by omega), if_pos this]; omega
      · rw [if_neg g4]
        by_cases g5 : fuE d = -3
        · rw [if_pos g5]; omega
        · rw [if_neg g5]
          by_cases g6 : fuE d = -4
          · rw [if_pos g6]; omega
          · rw [if_neg g6]; omega
  generalize unI d = u at *
  generalize unI (fuE d) = v at *
  have u22 : wrap64 (Int.tdiv 2 2) = 1 := by rw [show Int.tdiv 2 2 = (1 : Int) from rfl, wrap_id (by omega) (by omega)]
  have u44 : wrap64 (Int.tdiv 4 4) = 1 := by rw [show Int.tdiv 4 4 = (1 : Int) from rfl, wrap_id (by omega) (by omega)]
  have u66 : wrap64 (Int.tdiv 6 6) = 1 := by rw [show Int.tdiv 6 6 = (1 : Int) from rfl, wrap_id (by omega) (by omega)]
  have u42 : wrap64 (Int.tdiv 4 2) = 2 := by rw [show Int.tdiv 4 2 = (2 : Int) from rfl, wrap_id (by omega) (by omega)]
  have u62 : wrap64 (Int.tdiv 6 2) = 3 := by rw [show Int.tdiv 6 2 = (3 : Int) from rfl, wrap_id (by omega) (by omega)]
  have hu : u = 2 ∨ u = 4 ∨ u = 6 := by omega
  have hv : v = 2 ∨ v = 4 ∨ v = 6 := by omega
  rcases cases3 with ⟨rfl, hu | hu | hu⟩ | ⟨rfl, hv | hv⟩
  all_goals first | subst hu | subst hv
  all_goals rw [wrap_id (n := H * _) (by omega) (by omega), tdiv_nn (a := H * _) (by omega), tdiv_nn (a := (_ : Int)) (b := (_ : Int)) (by omega)]
  all_goals first | rw [u22] | rw [u44] | rw [u66] | rw [u42] | rw [u62]
  all_goals refine ⟨wrap_id (by omega) (by omega), ?_, by decide, by decide, by decide⟩
  all_goals rw [wrap_id (by omega) (by omega)]
  all_goals omega
-- (not in this seat: CnCond)
-- (not in this seat: SCnCond)
-- (not in this seat: LawCnCond)
end Go.Proofs.Ytacomnelongbjaa
