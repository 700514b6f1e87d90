/-
  Contracts of normal triples, of places that forbid solutions and of least solutions on both sides, and of the law LeastSolution. Conditions: none.
-/
import Derived.Test.YtacomnelongbjaaPq
import Derived.Test.YtacomnelongbjaaPfc
import Derived.Test.YtacomnelongbjaaSol
import Derived.Test.YtacomnelongbjaaGc
import Derived.Test.YtacomnelongbjaaCn
namespace Go.Proofs.Ytacomnelongbjaa
open Go Go.RowKit
set_option maxRecDepth 100000
set_option linter.unusedSimpArgs false
set_option linter.unusedVariables false
set_option maxHeartbeats 4000000

/-! ### square-free numbers -/
theorem tmod0 {n p : Int} (hp : p ≠ 0) : (n.tmod p == 0) = decide (n % p = 0) := by
  rw [Bool.eq_iff_iff, beq_iff_eq, decide_eq_true_iff]
  exact ⟨fun h => Int.emod_eq_zero_of_dvd (Int.dvd_of_tmod_eq_zero h), fun h => Int.tmod_eq_zero_of_dvd (Int.dvd_of_emod_eq_zero h)⟩
theorem sfIn_k1 {n k p : Int} (hk : 1 ≤ k) (h : (sfIn n k p).2 = 1) : (sfIn n k p).1 = n ∧ k = 1 ∧ (2 ≤ p → n ≠ 0 → ¬ p * p ∣ n) := by
  fun_induction sfIn n k p with
  | case1 n k hc ih =>
    obtain ⟨h1, h2, h3⟩ := sf_quo hc.1 hc.2.1 hc.2.2
    have hk2 : 1 * 2 ≤ k * p := Int.mul_le_mul hk hc.2.1 (by omega) (by omega)
    have := (ih (by omega) h).2.1
    omega
  | case2 n k hc => exact ⟨rfl, h, fun h1 h2 h3 => hc ⟨h2, h1, Int.tmod_eq_zero_of_dvd h3⟩⟩
theorem sfIn_kp {n k p : Int} (hk : 1 ≤ k) : 1 ≤ (sfIn n k p).2 := by
  fun_induction sfIn n k p with
  | case1 n k hc ih =>
    have hk2 : 1 * 2 ≤ k * p := Int.mul_le_mul hk hc.2.1 (by omega) (by omega)
    exact ih (by omega)
  | case2 n k hc => exact hk
theorem sfOut_k1 {n k p : Int} (hk : 1 ≤ k) (hp : 2 ≤ p) (hn : n ≠ 0) (h : (sfOut n k p).2 = 1) : k = 1 ∧ ∀ q, p ≤ q → ¬ q * q ∣ n := by
  fun_induction sfOut n k p with
  | case1 n k p hc ih =>
    have h1 := (sfIn_spec (n := n) (k := k) (p := p) hn).1
    obtain ⟨h2, h3⟩ := ih (sfIn_kp hk) (by omega) h1 h
    obtain ⟨h4, h5, h6⟩ := sfIn_k1 hk h2
    rw [h4] at h3
    refine ⟨h5, fun q hq => ?_⟩
    by_cases he : q = p
    · subst he; exact h6 hp hn
    · exact h3 q (by omega)
  | case2 n k p hc =>
    refine ⟨h, fun q hq hd => ?_⟩
    have h1 := Int.natAbs_dvd_natAbs.2 hd
    have h2 := Nat.le_of_dvd (by omega) h1
    have h3 : p * p ≤ q * q := Int.mul_le_mul hq hq (by omega) (by omega)
    have h4 : ((q * q).natAbs : Int) = q * q := Int.natAbs_of_nonneg (Int.mul_nonneg (by omega) (by omega))
    exact hc ⟨hn, hp, by omega⟩
theorem sq_free {n : Int} (hn : n ≠ 0) (h : sfK n = 1) : SqF n := fun p hp hd => (sfOut_k1 (by omega) (by omega) hn h).2 p (by have := hp.1; omega) hd
theorem triB_nz {a b c : Int} (h : triB a b c = true) : a ≠ 0 ∧ b ≠ 0 ∧ c ≠ 0 := by
  simp only [triB, coefB_eq, inI, Bool.and_eq_true, decide_eq_true_eq, bne_iff_ne] at h
  omega
theorem sfK_pos {n : Int} (hn : n ≠ 0) (h : n.natAbs ≤ 1000000) : 1 ≤ sfK n := (sf_inv hn h).k0
theorem sfK_gt {n : Int} (hn : n ≠ 0) (h : n.natAbs ≤ 1000000) : decide (sfK n > 1) = !(sfK n == 1) := by
  have := sfK_pos hn h
  rw [Bool.eq_iff_iff]
  simp
  omega
def normB (a b c : Int) : Bool := ((sfK a == 1) && ((sfK b == 1) && (sfK c == 1))) && (decide (Int.gcd a b = 1) && (decide (Int.gcd a c = 1) && decide (Int.gcd b c = 1)))
-- (not in this seat: CnFree)
-- (not in this seat: CnNormal)
-- (not in this seat: TList)
-- (not in this seat: IsNormal)
/-! ### exponents -/
def exq (n p : Int) : Int := if _h : n ≠ 0 ∧ 2 ≤ p ∧ n % p = 0 then exq (n / p) p + 1 else 0
  termination_by n.natAbs
  decreasing_by
    obtain ⟨k, hk⟩ := Int.dvd_of_emod_eq_zero _h.2.2
    have h1 : n / p = k := by rw [hk, Int.mul_ediv_cancel_left _ (by omega)]
    rw [h1, hk, Int.natAbs_mul]
    have h2 : k.natAbs ≠ 0 := by intro h; have : k = 0 := by omega
                                 rw [this, Int.mul_zero] at hk; exact _h.1 hk
    have h3 : 2 * k.natAbs ≤ p.natAbs * k.natAbs := Nat.mul_le_mul_right _ (by omega)
    omega
theorem exq_step {n p : Int} (hn : n ≠ 0) (hp : 2 ≤ p) (hd : n % p = 0) : n.tdiv p = n / p ∧ n / p ≠ 0 ∧ (n / p).natAbs < n.natAbs := by
  obtain ⟨k, hk⟩ := Int.dvd_of_emod_eq_zero hd
  have h1 : n / p = k := by rw [hk, Int.mul_ediv_cancel_left _ (by omega)]
  have h1' : n.tdiv p = k := by rw [hk, Int.mul_tdiv_cancel_left _ (by omega)]
  have h2 : k ≠ 0 := fun h => by rw [h, Int.mul_zero] at hk; exact hn hk
  have h3 : n.natAbs = p.natAbs * k.natAbs := by rw [hk, Int.natAbs_mul]
  have h4 : 2 * k.natAbs ≤ p.natAbs * k.natAbs := Nat.mul_le_mul_right _ (by omega)
  rw [h1, h1']
  exact ⟨rfl, h2, by omega⟩
abbrev fNuExp2 : Nat := 42
def cNuExp2 : Ctr
  | [.i n, .i p] => some ⟨(n ≠ 0 ∧ n.natAbs ≤ 1000000000) ∧ 2 ≤ p, .one (.i (exq n p)), []⟩
  | _ => none
theorem okNuExp2 : CtrOk Try.prog fNuExp2 cNuExp2 := by
  have hsp : SpecOk Try.prog (specOf []) := SpecOk.nil
  refine ctr_of (fn := Try.f42) mixed tab_ok hsp Try.func42 (by kernel_rfl) (by kernel_rfl) fun args ce h => ?_
  clear hsp
  unfold cNuExp2 at h
  split at h
  case h_2 => cases h
  rename_i n p
  simp only [Option.some.injEq] at h
  subst h
  refine ⟨by rfl, fun hp => ⟨1, 1000, ?_⟩⟩
  simp only [↓cond_to_ite, ↓reduceIte, vc, out, toOf, St.res, step, stepE, stepPick, stepO, eff, rem, St.put, setMems, St.after, St.eval, cst, val1, okNew, Reg.item, Reg.next, hA, initFr, initMem, initSt, Option.getD_some, Nat.reduceBEq, List.map_nil, Nat.zero_add, true_and, List.toList_toArray, Bool.false_eq_true, reduceIte, Try.f42]
  obtain ⟨⟨hn, hn1⟩, hp1⟩ : (n ≠ 0 ∧ n.natAbs ≤ 1000000000) ∧ 2 ≤ p := hp
  refine lp_intro (fun x : Int × Int => ⟨[(0, .one (.i x.1)), (1, .one (.i p)), (5, .one (.i x.2))], []⟩) (fun x => x.1 ≠ 0 ∧ (0 ≤ x.2 ∧ (x.1.natAbs : Int) + x.2 ≤ 1000000000) ∧ x.2 + exq x.1 p = exq n p) (fun x => x.1.natAbs) (n, 0) [] ⟨hn, ⟨Int.le_refl _, by simp only; omega⟩, by simp⟩ (by simp only [Cov, covOk, covFr, covMem, rn, nodupB, A0.ren, AV.ren, look, St.eval, A0.norm, AV.norm, Option.getD_some, Option.getD_none, cond_true, cond_false, Nat.reduceBEq, List.map_nil, List.all_nil, Bool.and_true, beq_self_eq_true, and_self]) fun x hx J hJ => ⟨1000, ?_⟩
  obtain ⟨m, k⟩ := x
  obtain ⟨h1, ⟨h2, h3⟩, h4⟩ := hx
  simp only at h1 h2 h3 h4 hJ
  have e0 := tmod0 (n := m) (p := p) (by omega)
  by_cases g : m % p = 0
  · have e1 : (m.tmod p == 0) = true := by rw [e0]; exact decide_eq_true g
    obtain ⟨q1, q2, q3⟩ := exq_step h1 hp1 g
    rw [exq.eq_def m, dif_pos ⟨h1, hp1, g⟩] at h4
    have w1 : wrap64 (m.tdiv p) = m / p := by rw [q1, wrap_id (by omega) (by omega)]
    have w2 : wrap64 (k + 1) = k + 1 := wrap_id (by omega) (by omega)
    simp only [↓cond_to_ite, ↓reduceIte, vc, out, toOf, St.res, step, stepE, stepPick, stepO, stepC, eff, look, rem, St.put, setMems, St.after, St.eval, cst, val1, okNew, Reg.item, Reg.next, binInt, effBin, effBin2, Option.getD_some, Nat.reduceBEq, true_and, beq_self_eq_true, Bool.false_eq_true, reduceIte, e1]
    exact ⟨by omega, by omega, hJ _ (m / p, k + 1) [] ⟨q2, ⟨by simp only; omega, by simp only; omega⟩, by simp only; omega⟩ q3 (by simp only [Cov, covOk, covFr, covMem, rn, nodupB, A0.ren, AV.ren, look, St.eval, A0.norm, AV.norm, Option.getD_some, Option.getD_none, cond_true, cond_false, Nat.reduceBEq, List.map_nil, List.all_nil, Bool.and_true, beq_self_eq_true, and_self, w1, w2])⟩
  · have e1 : (m.tmod p == 0) = false := by rw [e0]; exact decide_eq_false g
    rw [exq.eq_def m, dif_neg (fun h => g h.2.2)] at h4
    simp only [↓cond_to_ite, ↓reduceIte, vc, out, finD, St.drop, vwAt, toOf, St.res, step, stepE, stepPick, stepO, stepC, eff, look, rem, St.put, setMems, St.after, St.eval, cst, val1, okNew, Reg.item, Reg.next, binInt, effBin, nodupB, argOk, effBin2, disj, resOf, resAll, compEq, compsEq, rowHs, outHds, outsEq, shapeOk, finOk, comps, A0.norm, Option.getD_some, Nat.reduceBEq, Option.map_some, Nat.zero_add, true_and, and_true, List.length_cons, List.length_nil, List.all_nil, Bool.and_true, Bool.not_false, List.contains_nil, beq_self_eq_true, A0.i.injEq, Bool.false_eq_true, reduceIte, e1]
    exact ⟨by omega, by omega⟩
theorem exq_sq {a p : Int} (hs : SqF a) (hp : IsI p) (ha : a ≠ 0) : exq a p = if a % p = 0 then 1 else 0 := by
  obtain ⟨q, hq, rfl⟩ := hp
  have hq1 := hq.1
  rw [exq.eq_def]
  by_cases g : a % (q : Int) = 0
  · rw [if_pos g, dif_pos ⟨ha, by omega, g⟩]
    obtain ⟨k, hk⟩ := Int.dvd_of_emod_eq_zero g
    have h1 : a / (q : Int) = k := by rw [hk, Int.mul_ediv_cancel_left _ (by omega)]
    rw [h1, exq.eq_def, dif_neg]
    · rfl
    · intro h
      obtain ⟨j, hj⟩ := Int.dvd_of_emod_eq_zero h.2.2
      exact hs q hq ⟨j, by rw [hk, hj]; grind⟩
  · rw [if_neg g, dif_neg (fun h => g h.2.2)]
def sgI (n : Int) : Int := if n > 0 then 1 else if n < 0 then -1 else 0
abbrev fLSign : Nat := 40
def cLSign : Ctr
  | [.i n] => some ⟨True, .one (.i (sgI n)), []⟩
  | _ => none
theorem okLSign : CtrOk Try.prog fLSign cLSign := by
  have hsp : SpecOk Try.prog (specOf []) := SpecOk.nil
  refine ctr_of (fn := Try.f40) mixed tab_ok hsp Try.func40 (by kernel_rfl) (by kernel_rfl) fun args ce h => ?_
  clear hsp
  unfold cLSign at h
  split at h
  case h_2 => cases h
  rename_i n
  simp only [Option.some.injEq] at h
  subst h
  refine ⟨by rfl, fun hp => ⟨0, 1000, ?_⟩⟩
  simp only [↓cond_to_ite, ↓reduceIte, vc, out, finD, St.drop, vwAt, toOf, St.res, step, stepE, stepPick, stepO, stepC, eff, look, rem, St.put, setMems, St.after, St.eval, cst, val1, okNew, Reg.item, Reg.next, binInt, effBin, nodupB, argOk, effBin2, disj, initFr, initMem, initSt, resOf, resAll, compEq, compsEq, rowHs, outHds, outsEq, shapeOk, finOk, comps, A0.norm, Option.getD_some, Nat.reduceBEq, Option.map_some, Nat.zero_add, true_and, and_true, List.length_cons, List.length_nil, List.all_nil, Bool.and_true, Bool.not_false, List.contains_nil, beq_self_eq_true, A0.i.injEq, List.toList_toArray, Bool.false_eq_true, reduceIte, Try.f40]
  unfold sgI
  simp only [decide_eq_true_eq]
  (repeat' split) <;> omega
/-- the first root of -k from r on, or -1 -/
def crF (m k r : Int) : Int := if _h : r < m then (if (r * r + k) % m = 0 then r else crF m k (r + 1)) else -1
  termination_by (m - r).toNat
  decreasing_by omega
theorem crF_pos {m k : Int} (r : Int) (h0 : 0 ≤ r) (h : ∃ s, r ≤ s ∧ s < m ∧ (s * s + k) % m = 0) : 0 ≤ crF m k r := by
  fun_induction crF m k r with
  | case1 r h1 h2 => exact h0
  | case2 r h1 h2 ih =>
    obtain ⟨s, s1, s2, s3⟩ := h
    refine ih (by omega) ⟨s, ?_, s2, s3⟩
    by_cases he : s = r
    · subst he; exact absurd s3 h2
    · omega
  | case3 r h1 =>
    obtain ⟨s, s1, s2, s3⟩ := h
    omega
-- (not in this seat: CnRoot)
end Go.Proofs.Ytacomnelongbjaa
