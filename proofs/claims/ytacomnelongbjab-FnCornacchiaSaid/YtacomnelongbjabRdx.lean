/-
  The reduction that the program computes, in plain integers: the matrix is the true one, its entries are small, and the reduced form is that of the class. Conditions: none.
-/
import Derived.Test.YtacomnelongbjabEqv
namespace Go.Proofs.Ytacomnelongbjab
open Go Go.RowKit
set_option maxRecDepth 100000
set_option linter.unusedSimpArgs false
set_option linter.unusedVariables false
set_option maxHeartbeats 4000000

theorem nextF_act (x : F3) : nextF x = act x (nextM x) := by
  obtain ⟨a, b, c⟩ := x
  unfold nextF nextM
  split
  · simp [act, vl, pl]
  · simp only [act, vl, pl, Prod.mk.injEq]
    refine ⟨by grind, by grind, by grind⟩
theorem nextM_det (x : F3) : det (nextM x) = 1 := by
  unfold nextM
  split <;> simp [det]
/-- the true matrix of the reduction -/
def redM (x : F3) : M4 := if _h : x.dom = true ∧ x.red = false then mul (nextM x) (redM (nextF x)) else one4
  termination_by x.mu
  decreasing_by exact (next_spec _h.1 _h.2).2.1
theorem redM_det (x : F3) : det (redM x) = 1 := by
  fun_induction redM x with
  | case1 x h ih => rw [det_mul, nextM_det, ih]; rfl
  | case2 x h => rfl
theorem redL_fst (x : F3) (m : M4) : (redL x m).1 = act x (redM x) := by
  fun_induction redL x m with
  | case1 x m h ih => rw [ih, redM.eq_def x, dif_pos h, nextF_act, act_mul]
  | case2 x m h => rw [redM.eq_def, dif_neg h, act_one]
theorem redL_dom {x : F3} (m : M4) (hd : x.dom = true) : (redL x m).1.dom = true ∧ (redL x m).1.red = true := by
  fun_induction redL x m with
  | case1 x m h ih => exact ih (next_spec h.1 h.2).1
  | case2 x m h =>
    refine ⟨hd, ?_⟩
    cases hr : x.red with
    | true => rfl
    | false => exact absurd ⟨hd, hr⟩ h

abbrev W64 : Int := 18446744073709551616
structure Cong (m n : M4) : Prop where
  h1 : m.1 % W64 = n.1 % W64
  h2 : m.2.1 % W64 = n.2.1 % W64
  h3 : m.2.2.1 % W64 = n.2.2.1 % W64
  h4 : m.2.2.2 % W64 = n.2.2.2 % W64
theorem Cong.refl (m : M4) : Cong m m := ⟨rfl, rfl, rfl, rfl⟩
theorem Cong.trans {m n k : M4} (h : Cong m n) (h' : Cong n k) : Cong m k := ⟨h.h1.trans h'.h1, h.h2.trans h'.h2, h.h3.trans h'.h3, h.h4.trans h'.h4⟩
theorem emod_mul_add (a b c d a' c' : Int) (h1 : a % W64 = a' % W64) (h2 : c % W64 = c' % W64) : (a * b + c * d) % W64 = (a' * b + c' * d) % W64 := by
  rw [Int.add_emod, Int.mul_emod a, Int.mul_emod c, h1, h2, ← Int.mul_emod, ← Int.mul_emod, ← Int.add_emod]
theorem Cong.mul {m m' : M4} (h : Cong m m') (n : M4) : Cong (mul m n) (mul m' n) :=
  ⟨emod_mul_add _ _ _ _ _ _ h.h1 h.h2, emod_mul_add _ _ _ _ _ _ h.h1 h.h2, emod_mul_add _ _ _ _ _ _ h.h3 h.h4, emod_mul_add _ _ _ _ _ _ h.h3 h.h4⟩
theorem emod_mul_add' (a b c d b' d' : Int) (h1 : b % W64 = b' % W64) (h2 : d % W64 = d' % W64) : (a * b + c * d) % W64 = (a * b' + c * d') % W64 := by
  rw [Int.add_emod, Int.mul_emod a, Int.mul_emod c, h1, h2, ← Int.mul_emod, ← Int.mul_emod, ← Int.add_emod]
theorem Cong.mul' (m : M4) {n n' : M4} (h : Cong n n') : Cong (Go.Proofs.Ytacomnelongbjab.mul m n) (Go.Proofs.Ytacomnelongbjab.mul m n') :=
  ⟨emod_mul_add' _ _ _ _ _ _ h.h1 h.h3, emod_mul_add' _ _ _ _ _ _ h.h2 h.h4, emod_mul_add' _ _ _ _ _ _ h.h1 h.h3, emod_mul_add' _ _ _ _ _ _ h.h2 h.h4⟩
theorem timesT_cong (m n : M4) : Cong (timesT m n) (mul m n) := by
  refine ⟨?_, ?_, ?_, ?_⟩ <;> simp only [timesT, Go.Proofs.Ytacomnelongbjab.mul, wrap_add_l, wrap_add_r, wrap_mod]
theorem redL_cong (x : F3) (m : M4) : Cong (redL x m).2 (mul m (redM x)) := by
  fun_induction redL x m with
  | case1 x m h ih =>
    rw [redM.eq_def, dif_pos h, ← mul_assoc4]
    exact ih.trans ((timesT_cong m (nextM x)).mul _)
  | case2 x m h => rw [redM.eq_def, dif_neg h, mul_one4]; exact Cong.refl m
def R64 (n : Int) : Prop := -9223372036854775808 ≤ n ∧ n ≤ 9223372036854775807
theorem wrap_R64 (n : Int) : R64 (wrap64 n) := by unfold R64 wrap64; omega
structure InR (m : M4) : Prop where
  h1 : R64 m.1
  h2 : R64 m.2.1
  h3 : R64 m.2.2.1
  h4 : R64 m.2.2.2
theorem redL_inR (x : F3) (m : M4) (h : InR m) : InR (redL x m).2 := by
  fun_induction redL x m with
  | case1 x m h ih => exact ih ⟨wrap_R64 _, wrap_R64 _, wrap_R64 _, wrap_R64 _⟩
  | case2 x m _ => exact h
theorem R64.eq {m n : Int} (h1 : R64 m) (h2 : R64 n) (h : m % W64 = n % W64) : m = n := by
  unfold R64 at h1 h2
  unfold W64 at h
  omega
theorem InR.eq {m n : M4} (h1 : InR m) (h2 : InR n) (h : Cong m n) : m = n := M4.ext (h1.h1.eq h2.h1 h.h1) (h1.h2.eq h2.h2 h.h2) (h1.h3.eq h2.h3 h.h3) (h1.h4.eq h2.h4 h.h4)

theorem dom_dsc {x : F3} (h : Dom x.1 x.2.1 x.2.2) : dsc x < 0 := by have := h.d; unfold dsc; omega
theorem isRed_of {x : F3} (hd : x.dom = true) (hr : x.red = true) : IsRed (dsc x) x := by
  have d := F3.dom_of hd
  have ha1 := d.a1
  have h : isReducedI x.1 x.2.1 x.2.2 = true := hr
  simp only [isReducedI, Bool.and_eq_true, Bool.or_eq_true, decide_eq_true_eq, beq_iff_eq] at h
  have hn := (norm_iff d.a0 (by omega)).1 h.1
  exact ⟨d.a0, hn.1, hn.2, by omega, rfl⟩
theorem red_of {x : F3} {d : Int} (h : IsRed d x) (ha : x.1 ≤ 1000000000) : x.red = true := by
  show isReducedI x.1 x.2.1 x.2.2 = true
  simp only [isReducedI, Bool.and_eq_true, Bool.or_eq_true, decide_eq_true_eq, beq_iff_eq]
  have h3 := h.ac
  exact ⟨(norm_iff h.a0 (by omega)).2 ⟨h.lo, h.hi⟩, by omega⟩
/-- the reduced form of a class -/
def rdx (x : F3) : F3 := act x (redM x)
theorem rdx_red {x : F3} (h : x.dom = true) : IsRed (dsc x) (rdx x) := by
  have h1 := redL_dom one4 h
  rw [redL_fst] at h1
  have h2 := isRed_of h1.1 h1.2
  have h3 : dsc (act x (redM x)) = dsc x := by rw [dsc_act, redM_det]; omega
  rw [h3] at h2
  exact h2
theorem rdx_dom {x : F3} (h : x.dom = true) : (rdx x).dom = true := by
  have h1 := redL_dom one4 h
  rw [redL_fst] at h1
  exact h1.1
theorem isRed_vl {d : Int} {g : F3} (h : IsRed d g) (x y : Int) : x * x + y * y ≤ 2 * vl g x y := by
  obtain ⟨a, b, c⟩ := g
  have h1 := two_vl h.abs h.le x y
  have h2 := h.abs
  have h3 := h.le
  have h4 := h.a0
  simp only at h1 h2 h3 h4
  have h5 : 1 * (x * x) ≤ (2 * a - b.natAbs) * (x * x) := Int.mul_le_mul_of_nonneg_right (by omega) (sq_nonneg x)
  have h6 : 1 * (y * y) ≤ (2 * c - b.natAbs) * (y * y) := Int.mul_le_mul_of_nonneg_right (by omega) (sq_nonneg y)
  omega
/-- entries of a matrix between a form and a reduced one -/
theorem entries_sq {d : Int} {x g : F3} {m : M4} (hg : IsRed d g) (hm : det m = 1) (h : act x m = g) : m.2.2.2 * m.2.2.2 + m.2.2.1 * m.2.2.1 ≤ 2 * x.1 ∧ m.2.1 * m.2.1 + m.1 * m.1 ≤ 2 * x.2.2 := by
  have h1 : act g (inv m) = x := by rw [← h]; exact act_inv hm
  have h2 : vl g m.2.2.2 (-m.2.2.1) = x.1 := congrArg Prod.fst h1
  have h3 : vl g (-m.2.1) m.1 = x.2.2 := congrArg (fun z => z.2.2) h1
  have h4 := isRed_vl hg m.2.2.2 (-m.2.2.1)
  have h5 := isRed_vl hg (-m.2.1) m.1
  have h6 : -m.2.2.1 * -m.2.2.1 = m.2.2.1 * m.2.2.1 := by grind
  have h7 : -m.2.1 * -m.2.1 = m.2.1 * m.2.1 := by grind
  omega
theorem abs_small {x y n k : Int} (hk : 0 ≤ k) (h : x * x + y * y ≤ n) (hn : n ≤ k * k) : (-k ≤ x ∧ x ≤ k) ∧ (-k ≤ y ∧ y ≤ k) := by
  have h1 := sq_nonneg x
  have h2 := sq_nonneg y
  exact ⟨abs_le_of_sq hk (by omega), abs_le_of_sq hk (by omega)⟩
structure Small (k : Int) (m : M4) : Prop where
  h1 : -k ≤ m.1 ∧ m.1 ≤ k
  h2 : -k ≤ m.2.1 ∧ m.2.1 ≤ k
  h3 : -k ≤ m.2.2.1 ∧ m.2.2.1 ≤ k
  h4 : -k ≤ m.2.2.2 ∧ m.2.2.2 ≤ k
theorem redM_small {x : F3} (h : x.dom = true) {k : Int} (hk : 0 ≤ k) (ha : 2 * x.1 ≤ k * k) (hc : 2 * x.2.2 ≤ k * k) : Small k (redM x) := by
  obtain ⟨h1, h2⟩ := entries_sq (rdx_red h) (redM_det x) rfl
  obtain ⟨h3, h4⟩ := abs_small hk h1 ha
  obtain ⟨h5, h6⟩ := abs_small hk h2 hc
  exact ⟨h6, h5, h4, h3⟩
theorem redM_small0 {x : F3} (h : x.dom = true) : Small 44722 (redM x) := by
  have d := F3.dom_of h
  have h1 := d.a1
  have h2 := d.c1
  exact redM_small h (by omega) (by omega) (by omega)
theorem redL_eq {x : F3} (h : x.dom = true) : redL x (1, 0, 0, 1) = (rdx x, redM x) := by
  have h1 : (redL x (1, 0, 0, 1)).1 = rdx x := redL_fst x _
  have hs := redM_small0 h
  have hc := redL_cong x (1, 0, 0, 1)
  have e1 : mul (1, 0, 0, 1) (redM x) = redM x := one_mul4 _
  rw [e1] at hc
  have h2 : (redL x (1, 0, 0, 1)).2 = redM x := InR.eq (redL_inR x _ ⟨by unfold R64; decide, by unfold R64; decide, by unfold R64; decide, by unfold R64; decide⟩)
    ⟨by have := hs.h1; unfold R64; omega, by have := hs.h2; unfold R64; omega, by have := hs.h3; unfold R64; omega, by have := hs.h4; unfold R64; omega⟩ hc
  rw [← h1, ← h2]
theorem rd_eqs {a b c : Int} (h : domB a b c = true) : rdA a b c = (rdx (a, b, c)).1 ∧ rdB a b c = (rdx (a, b, c)).2.1 ∧ rdC a b c = (rdx (a, b, c)).2.2 ∧ rdP a b c = (redM (a, b, c)).1 ∧ rdQ a b c = (redM (a, b, c)).2.1 ∧ rdR a b c = (redM (a, b, c)).2.2.1 ∧ rdS a b c = (redM (a, b, c)).2.2.2 := by
  have e := redL_eq (x := (a, b, c)) h
  unfold rdA rdB rdC rdP rdQ rdR rdS
  rw [e]
  exact ⟨rfl, rfl, rfl, rfl, rfl, rfl, rfl⟩
/-- equivalent forms have one reduced form -/
theorem rdx_act {x y : F3} {m : M4} (hx : x.dom = true) (hy : y.dom = true) (hm : det m = 1) (h : act x m = y) : rdx x = rdx y := by
  have h1 := rdx_red hx
  have h2 := rdx_red hy
  have hd : dsc y = dsc x := by rw [← h, dsc_act, hm]; omega
  rw [hd] at h2
  refine red_unique h1 h2 (m := mul (inv (redM x)) (mul m (redM y))) ?_ ?_
  · rw [det_mul, det_mul, det_inv, redM_det, redM_det, hm]; rfl
  · unfold rdx
    rw [act_mul, ← mul_assoc4, mul_inv (redM_det x), one_mul4, ← act_mul, h]
theorem rdx_of_red {x : F3} (hr : x.red = true) : rdx x = x := by
  unfold rdx
  rw [redM.eq_def, dif_neg (by rw [hr]; simp), act_one]

/-! ### opposite forms -/
def opp (x : F3) : F3 := (x.1, -x.2.1, x.2.2)
def oppM (m : M4) : M4 := (m.1, -m.2.1, -m.2.2.1, m.2.2.2)
theorem opp_act (x : F3) (m : M4) : opp (act x m) = act (opp x) (oppM m) := by
  simp only [opp, act, oppM, vl, pl, Prod.mk.injEq]
  refine ⟨by grind, by grind, by grind⟩
theorem oppM_det (m : M4) : det (oppM m) = det m := by simp only [det, oppM]; grind
theorem opp_dom {x : F3} (h : x.dom = true) : (opp x).dom = true := domB_iff.2 (F3.dom_of h).opp
theorem dsc_opp (x : F3) : dsc (opp x) = dsc x := by simp only [dsc, opp]; grind
theorem rdx_opp {x : F3} (h : x.dom = true) : rdx (opp x) = rdx (opp (rdx x)) :=
  rdx_act (m := oppM (redM x)) (opp_dom h) (opp_dom (rdx_dom h)) (by rw [oppM_det, redM_det]) (by rw [← opp_act]; rfl)
def ambB (x : F3) : Bool := x.2.1 == 0 || (x.1 == x.2.1 || x.1 == x.2.2)
theorem amb_red {d : Int} {g : F3} (hd : g.dom = true) (h : IsRed d g) : rdx (opp g) = g ↔ ambB g = true := by
  have D := F3.dom_of hd
  have ha1 := D.a1
  have hg : g.red = true := red_of h (by omega)
  have hod := opp_dom hd
  obtain ⟨a, b, c⟩ := g
  have h0 := h.a0
  have h1 := h.lo
  have h2 := h.hi
  have h3 := h.ac
  simp only at h0 h1 h2 h3 ha1
  simp only [ambB, Bool.or_eq_true, beq_iff_eq]
  constructor
  · intro he
    by_cases hb : b = 0
    · exact .inl hb
    · by_cases hab : a = b
      · exact .inr (.inl hab)
      · by_cases hac : a = c
        · exact .inr (.inr hac)
        · exfalso
          have hr : IsRed d (opp (a, b, c)) := ⟨h0, by simp only [opp]; omega, by simp only [opp]; omega, by simp only [opp]; omega, by have := h.d; simp only [opp]; simp only at this; rw [← this]; grind⟩
          rw [rdx_of_red (red_of hr ha1)] at he
          have : -b = b := congrArg (fun z => z.2.1) he
          omega
  · intro hh
    have fin : ∀ m : M4, det m = 1 → act (opp (a, b, c)) m = (a, b, c) → rdx (opp (a, b, c)) = (a, b, c) := fun m hm he => by
      rw [rdx_act hod hd hm he, rdx_of_red hg]
    rcases hh with hb | hab | hac
    · subst hb
      exact fin one4 rfl (by rw [act_one]; rfl)
    · subst hab
      exact fin (1, 1, 0, 1) rfl (by simp [act, opp, vl, pl]; omega)
    · subst hac
      exact fin (0, -1, 1, 0) rfl (by simp [act, opp, vl, pl])
theorem amb_eq {x : F3} (h : x.dom = true) : (rdx x = rdx (opp x)) ↔ ambB (rdx x) = true := by
  rw [rdx_opp h, ← amb_red (rdx_dom h) (rdx_red h)]
  exact eq_comm
end Go.Proofs.Ytacomnelongbjab
