/-
  Plain laws of a reduction: its trail, its matrix, the size of what it gives. Conditions: none.
-/
import Derived.Test.YthcnaeahmdapbadRb
import Derived.Test.YthcnaeahmdapbadCm
import Derived.Test.YthcnaeahmdapbadGea
namespace Go.Proofs.Ythcnaeahmdapbad
open Go Go.RowKit
set_option maxRecDepth 100000
set_option linter.unusedSimpArgs false
set_option linter.unusedVariables false
set_option maxHeartbeats 4000000

theorem vl_y {d : Int} {g : F3} (hg : IsRed d g) (x : Int) {y : Int} (hy : y ≠ 0) : g.2.2 ≤ vl g x y := by
  obtain ⟨a, b, c⟩ := g
  have h0 := hg.a0
  have h1 := hg.abs
  have h2 := hg.le
  simp only at h0 h1 h2 ⊢
  by_cases hx : x = 0
  · subst hx
    rw [vl_0y]
    have h4 : c * 1 ≤ c * (y * y) := Int.mul_le_mul_of_nonneg_left (sq_pos hy) (by omega)
    simp only
    omega
  · have := vl_low h0 h1 h2 hx hy
    omega
theorem rdx_last {f : F3} (h : f.dom = true) : (rdx f).2.2 ≤ max f.1 f.2.2 := by
  have hg := rdx_red h
  have hm := redM_det f
  have h1 : act (rdx f) (inv (redM f)) = f := act_inv hm
  have h2 : vl (rdx f) (redM f).2.2.2 (-(redM f).2.2.1) = f.1 := congrArg Prod.fst h1
  have h3 : vl (rdx f) (-(redM f).2.1) (redM f).1 = f.2.2 := congrArg (fun z => z.2.2) h1
  by_cases hr : (redM f).2.2.1 = 0
  · have hp : (redM f).1 ≠ 0 := fun hp => by
      unfold det at hm
      rw [hr, hp] at hm
      simp at hm
    have := vl_y hg (-(redM f).2.1) hp
    omega
  · have := vl_y hg (redM f).2.2.2 (y := -(redM f).2.2.1) (by omega)
    omega
theorem def_rng {a b c : Int} (h : defB a b c = true) : (-1000000 ≤ a ∧ a ≤ 1000000) ∧ (-1000000 ≤ b ∧ b ≤ 1000000) ∧ (-1000000 ≤ c ∧ c ≤ 1000000) := by
  simp only [defB, formB, Bool.and_eq_true, decide_eq_true_eq, areB_iff] at h
  exact h.1
theorem rd_small {a b c : Int} (h : defB a b c = true) : (0 < (rdx (a, b, c)).1 ∧ (rdx (a, b, c)).1 ≤ 1000000) ∧ (-1000000 ≤ (rdx (a, b, c)).2.1 ∧ (rdx (a, b, c)).2.1 ≤ 1000000) ∧ (0 < (rdx (a, b, c)).2.2 ∧ (rdx (a, b, c)).2.2 ≤ 1000000) := by
  have hd : F3.dom (a, b, c) = true := def_domB h
  obtain ⟨h1, h2, h3⟩ := def_rng h
  have hl := rdx_last hd
  have hg := rdx_red hd
  have g0 := hg.a0
  have g1 := hg.abs
  have g2 := hg.le
  simp only at hl
  omega
theorem sub_rd {a b c : Int} (h : defB a b c = true) : valI a b c (rdP a b c) (rdR a b c) = rdA a b c ∧ polI a b c (rdP a b c) (rdR a b c) (rdQ a b c) (rdS a b c) = rdB a b c ∧ valI a b c (rdQ a b c) (rdS a b c) = rdC a b c ∧ formB (rdA a b c) (rdB a b c) (rdC a b c) = true := by
  obtain ⟨e1, e2, e3, e4, e5, e6, e7⟩ := rd_eqs (def_domB h)
  obtain ⟨s1, s2, s3⟩ := rd_small h
  rw [e1, e2, e3, e4, e5, e6, e7, valI_eq, polI_eq, valI_eq]
  have x1 : a * (redM (a, b, c)).1 * (redM (a, b, c)).1 + b * (redM (a, b, c)).1 * (redM (a, b, c)).2.2.1 + c * (redM (a, b, c)).2.2.1 * (redM (a, b, c)).2.2.1 = (rdx (a, b, c)).1 := rfl
  have x2 : 2 * a * (redM (a, b, c)).1 * (redM (a, b, c)).2.1 + b * ((redM (a, b, c)).1 * (redM (a, b, c)).2.2.2 + (redM (a, b, c)).2.2.1 * (redM (a, b, c)).2.1) + 2 * c * (redM (a, b, c)).2.2.1 * (redM (a, b, c)).2.2.2 = (rdx (a, b, c)).2.1 := rfl
  have x3 : a * (redM (a, b, c)).2.1 * (redM (a, b, c)).2.1 + b * (redM (a, b, c)).2.1 * (redM (a, b, c)).2.2.2 + c * (redM (a, b, c)).2.2.2 * (redM (a, b, c)).2.2.2 = (rdx (a, b, c)).2.2 := rfl
  rw [x1, x2, x3, wrap_id (by omega) (by omega), wrap_id (by omega) (by omega), wrap_id (by omega) (by omega)]
  refine ⟨rfl, rfl, rfl, ?_⟩
  simp only [formB, Bool.and_eq_true, areB_iff]
  omega
theorem rd_isRed {a b c : Int} (h : defB a b c = true) : isReducedI (rdA a b c) (rdB a b c) (rdC a b c) = true ∧ defB (rdA a b c) (rdB a b c) (rdC a b c) = true := by
  have hd : F3.dom (a, b, c) = true := def_domB h
  have hs := sub_rd h
  obtain ⟨e1, e2, e3, _⟩ := rd_eqs (def_domB h)
  obtain ⟨s1, s2, s3⟩ := rd_small h
  have hg := rdx_red hd
  have hf := hs.2.2.2
  rw [e1, e2, e3] at hf ⊢
  refine ⟨red_of hg (by omega), ?_⟩
  unfold defB
  rw [hf, disc_id (by omega) (by omega) (by omega)]
  have h1 := dom_dsc (F3.dom_of hd)
  have h2 := hg.d
  simp only [Bool.true_and, Bool.and_eq_true, decide_eq_true_eq]
  have h3 := hg.a0
  omega
theorem rd_mem {a b c : Int} (h : defB a b c = true) (hn : negB (discI a b c) = true) : (rdA a b c, rdB a b c, rdC a b c) ∈ allRed (discI a b c) := by
  have hd : F3.dom (a, b, c) = true := def_domB h
  obtain ⟨e1, e2, e3, _⟩ := rd_eqs (def_domB h)
  obtain ⟨h1, h2, h3⟩ := def_rng h
  rw [e1, e2, e3]
  have hg := rdx_red hd
  have e : dsc (a, b, c) = discI a b c := (disc_id h1 h2 h3).symm
  rw [e] at hg
  exact (mem_allRed (negB_in hn)).2 hg
theorem prim_gcd {f : F3} (h : Prim f) : Int.gcd f.1 (Int.gcd f.2.1 f.2.2 : Nat) = 1 := by
  obtain ⟨x, y, z, hz⟩ := h
  have d1 : ((Int.gcd f.1 (Int.gcd f.2.1 f.2.2 : Nat) : Nat) : Int) ∣ f.1 := Int.gcd_dvd_left ..
  have d0 : ((Int.gcd f.1 (Int.gcd f.2.1 f.2.2 : Nat) : Nat) : Int) ∣ ((Int.gcd f.2.1 f.2.2 : Nat) : Int) := Int.gcd_dvd_right ..
  have d2 := Int.dvd_trans d0 (Int.gcd_dvd_left (a := f.2.1) (b := f.2.2))
  have d3 := Int.dvd_trans d0 (Int.gcd_dvd_right (a := f.2.1) (b := f.2.2))
  have d : ((Int.gcd f.1 (Int.gcd f.2.1 f.2.2 : Nat) : Nat) : Int) ∣ 1 := by
    rw [← hz]
    exact Int.dvd_add (Int.dvd_add (Int.dvd_mul_of_dvd_right d1) (Int.dvd_mul_of_dvd_right d2)) (Int.dvd_mul_of_dvd_right d3)
  have := Int.le_of_dvd (by omega) d
  have h0 : Int.gcd f.1 (Int.gcd f.2.1 f.2.2 : Nat) ≠ 0 := fun h => by
    rw [h] at d
    have := Int.zero_dvd.1 d
    omega
  omega
theorem primI_iff {a b c : Int} (ha : -1000000 ≤ a ∧ a ≤ 1000000) (hb : -1000000 ≤ b ∧ b ≤ 1000000) (hc : -1000000 ≤ c ∧ c ≤ 1000000) : (gcdI a (gcdI b c) == 1) = true ↔ Prim (a, b, c) := by
  have hl := gcd_le (a := b) (b := c) (by omega) (by omega)
  rw [gcdI_eq (a := b) (by omega) (by omega), gcdI_eq (by omega) (by omega), beq_iff_eq]
  constructor
  · intro h; exact prim_of (by omega)
  · intro h; have := prim_gcd h; simp only at this; omega
theorem prim_rd {a b c : Int} (h : defB a b c = true) : primB (rdA a b c, rdB a b c, rdC a b c) = (gcdI a (gcdI b c) == 1) := by
  obtain ⟨e1, e2, e3, _⟩ := rd_eqs (def_domB h)
  obtain ⟨h1, h2, h3⟩ := def_rng h
  obtain ⟨s1, s2, s3⟩ := rd_small h
  rw [e1, e2, e3, Bool.eq_iff_iff, primI_iff h1 h2 h3]
  have e : primB (rdx (a, b, c)) = true ↔ Prim (rdx (a, b, c)) := primI_iff (by omega) (by omega) (by omega)
  have e' : ((rdx (a, b, c)).1, (rdx (a, b, c)).2.1, (rdx (a, b, c)).2.2) = rdx (a, b, c) := rfl
  rw [e', e]
  exact ⟨fun hp => hp.eqv (eqv_rdx _).symm, fun hp => hp.eqv (eqv_rdx _)⟩
/-! ### the trail -/
def trL (x : F3) : List F3 := if _h : x.dom = true ∧ x.red = false then x :: trL (nextF x) else [x]
  termination_by x.mu
  decreasing_by exact (next_spec _h.1 _h.2).2.1
theorem trL_len (x : F3) : (trL x).length ≤ x.mu + 1 ∧ 0 < (trL x).length := by
  fun_induction trL x with
  | case1 x h ih =>
    have := (next_spec h.1 h.2).2.1
    simp only [List.length_cons]
    omega
  | case2 x h => simp
theorem trL_head (x : F3) (d : F3) : (trL x).getD 0 d = x := by
  rw [trL.eq_def]
  split <;> rfl
theorem trL_last (x : F3) (d : F3) : (trL x).getD ((trL x).length - 1) d = (redL x (1, 0, 0, 1)).1 := by
  have key : ∀ m, (trL x).getD ((trL x).length - 1) d = (redL x m).1 := by
    fun_induction trL x with
    | case1 x h ih =>
      intro m
      have h1 := trL_len (nextF x)
      have e : (x :: trL (nextF x)).length - 1 = (trL (nextF x)).length - 1 + 1 := by simp only [List.length_cons]; omega
      rw [e, List.getD_cons_succ, redL.eq_def, dif_pos h]
      exact ih _
    | case2 x h =>
      intro m
      rw [redL.eq_def, dif_neg h]
      rfl
  exact key _
theorem mu_le {a b c : Int} (h : defB a b c = true) : F3.mu (a, b, c) ≤ 4000002 := by
  obtain ⟨h1, h2, h3⟩ := def_rng h
  unfold F3.mu
  simp only
  split
  · split <;> omega
  · omega
end Go.Proofs.Ythcnaeahmdapbad
