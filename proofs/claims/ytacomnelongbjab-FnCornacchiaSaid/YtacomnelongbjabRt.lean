/-
  Contracts of square roots and of being a square, on both sides. Conditions: none.
-/
import Derived.Test.YtacomnelongbjabAm
namespace Go.Proofs.Ytacomnelongbjab
open Go Go.RowKit
set_option maxRecDepth 100000
set_option linter.unusedSimpArgs false
set_option linter.unusedVariables false
set_option maxHeartbeats 4000000

theorem sq_ge {p : Int} (h : 2 ≤ p) : 2 * p ≤ p * p := Int.mul_le_mul_of_nonneg_right h (by omega)
theorem tdiv_bd' {a b k : Int} (h : -k ≤ a ∧ a ≤ k) : -k ≤ a.tdiv b ∧ a.tdiv b ≤ k := by
  have h1 : (a.tdiv b).natAbs ≤ a.natAbs := by rw [Int.natAbs_tdiv]; exact Nat.div_le_self _ _
  omega
theorem mul_bd {a b j k : Int} (hj : 0 ≤ j) (hk : 0 ≤ k) (ha : -j ≤ a ∧ a ≤ j) (hb : -k ≤ b ∧ b ≤ k) : -(j * k) ≤ a * b ∧ a * b ≤ j * k := by
  have h1 : (a * b).natAbs ≤ (j * k).natAbs := by
    rw [Int.natAbs_mul, Int.natAbs_mul]
    exact Nat.mul_le_mul (by omega) (by omega)
  have h2 : 0 ≤ j * k := Int.mul_nonneg hj hk
  omega
def bisL (n lo hi : Int) : Int := if _h : lo < hi then (if (lo + hi + 1) / 2 * ((lo + hi + 1) / 2) ≤ n then bisL n ((lo + hi + 1) / 2) hi else bisL n lo ((lo + hi + 1) / 2 - 1)) else lo
  termination_by (hi - lo).toNat
  decreasing_by
    · omega
    · omega
theorem bisL_spec {n lo hi : Int} (h0 : 0 ≤ lo) (h1 : lo ≤ hi) (h2 : lo * lo ≤ n) (h3 : n < (hi + 1) * (hi + 1)) : 0 ≤ bisL n lo hi ∧ bisL n lo hi * bisL n lo hi ≤ n ∧ n < (bisL n lo hi + 1) * (bisL n lo hi + 1) := by
  fun_induction bisL n lo hi with
  | case1 lo hi h hm ih => exact ih (by omega) (by omega) hm h3
  | case2 lo hi h hm ih =>
    refine ih h0 (by omega) h2 ?_
    have e : (lo + hi + 1) / 2 - 1 + 1 = (lo + hi + 1) / 2 := by omega
    rw [e]; omega
  | case3 lo hi h =>
    have : lo = hi := by omega
    subst this
    exact ⟨h0, h2, h3⟩
def rootI (n : Int) : Int := bisL n 0 3000000000
theorem rootI_spec {n : Int} (h0 : 0 ≤ n) (h1 : n ≤ 9000000000000000000) : 0 ≤ rootI n ∧ rootI n * rootI n ≤ n ∧ n < (rootI n + 1) * (rootI n + 1) :=
  bisL_spec (by omega) (by omega) (by omega) (by omega)
theorem root_uniq {n r s : Int} (hr : 0 ≤ r) (hs : 0 ≤ s) (h1 : r * r ≤ n) (h2 : n < (r + 1) * (r + 1)) (h3 : s * s ≤ n) (h4 : n < (s + 1) * (s + 1)) : r = s := by
  have key : ∀ x y : Int, 0 ≤ x → 0 ≤ y → x * x ≤ n → n < (y + 1) * (y + 1) → x ≤ y := by
    intro x y hx hy hxn hyn
    by_cases h : x ≤ y
    · exact h
    · exfalso
      have : (y + 1) * (y + 1) ≤ x * x := Int.mul_le_mul (by omega) (by omega) (by omega) (by omega)
      omega
  have := key r s hr hs h1 h4
  have := key s r hs hr h3 h2
  omega
theorem bis9 {n : Int} (h0 : 0 ≤ n) (h1 : n ≤ 1000000000000000000) : bisL n 0 1000000000 = rootI n := by
  obtain ⟨a1, a2, a3⟩ := bisL_spec (n := n) (lo := 0) (hi := 1000000000) (by omega) (by omega) (by omega) (by omega)
  obtain ⟨b1, b2, b3⟩ := rootI_spec (n := n) h0 (by omega)
  exact root_uniq a1 b1 a2 a3 b2 b3
theorem root_le {n k : Int} (h0 : 0 ≤ n) (h1 : n ≤ 9000000000000000000) (hk : 0 ≤ k) (h : n ≤ k * k) : rootI n ≤ k := by
  obtain ⟨b1, b2, b3⟩ := rootI_spec h0 h1
  exact (abs_le_of_sq hk (by omega)).2
theorem mid_eq {lo hi : Int} (h0 : 0 ≤ lo) (h1 : lo < hi) (h2 : hi ≤ 3000000000) : wrap64 ((wrap64 (wrap64 (lo + hi) + 1)).tdiv 2) = (lo + hi + 1) / 2 := by
  rw [wrap_id (n := lo + hi) (by omega) (by omega), wrap_id (n := lo + hi + 1) (by omega) (by omega), Int.tdiv_eq_ediv_of_nonneg (by omega), wrap_id (by omega) (by omega)]
theorem mid_sq {m : Int} (h0 : 0 ≤ m) (h1 : m ≤ 3000000000) : wrap64 (m * m) = m * m := by
  have := sq_in (n := 3000000000) (by omega) (show -3000000000 ≤ m ∧ m ≤ 3000000000 by omega)
  exact wrap_id (by omega) (by omega)
abbrev fRoot : Nat := 28
def cRoot : Ctr
  | [.i n] => some ⟨True, .one (.i (rootI n)), []⟩
  | _ => none
theorem okRoot : CtrOk Try.prog fRoot cRoot := by
  have hsp : SpecOk Try.prog (specOf []) := SpecOk.nil
  refine ctr_of (fn := Try.f28) mixed tab_ok hsp Try.func28 (by kernel_rfl) (by kernel_rfl) fun args ce h => ?_
  clear hsp
  unfold cRoot at h
  split at h
  case h_2 => cases h
  rename_i n
  simp only [Option.some.injEq] at h
  subst h
  refine ⟨by rfl, fun hp => ⟨1, 1000, ?_⟩⟩
  simp only [vc, out, toOf, St.res, step, stepE, stepPick, stepO, eff, rem, St.put, setMems, St.after, St.eval, cst, val1, okNew, Reg.item, Reg.next, hA, initFr, initMem, initSt, Option.getD_some, cond_true, cond_false, Nat.reduceBEq, List.map_nil, true_and, List.toList_toArray, Try.f28]
  refine lp_intro (fun x : Int × Int => ⟨[(0, .one (.i n)), (3, .one (.i x.1)), (4, .one (.i x.2))], []⟩) (fun x => 0 ≤ x.1 ∧ x.1 ≤ x.2 ∧ x.2 ≤ 3000000000 ∧ bisL n x.1 x.2 = rootI n) (fun x => (x.2 - x.1).toNat) (0, 3000000000) [] ⟨by omega, by omega, by omega, rfl⟩ (by simp only [Cov, covOk, covFr, covMem, rn, nodupB, A0.ren, AV.ren, look, St.eval, A0.norm, AV.norm, Option.getD_some, Option.getD_none, cond_true, cond_false, Nat.reduceBEq, List.map_nil, List.all_nil, Bool.and_true, beq_self_eq_true, and_self]) fun x hx J hJ => ⟨1000, ?_⟩
  obtain ⟨h1, h2, h3, h4⟩ := hx
  simp only [vc, out, finD, St.drop, vwAt, toOf, St.res, step, stepE, stepPick, stepO, stepC, eff, look, rem, St.put, setMems, St.after, St.eval, cst, val1, okNew, Reg.item, Reg.next, binInt, effBin, nodupB, argOk, effBin2, disj, resOf, resAll, compEq, compsEq, rowHs, outHds, outsEq, shapeOk, finOk, comps, A0.norm, Option.getD_some, cond_true, cond_false, Nat.reduceBEq, Option.map_some, Nat.zero_add, true_and, and_true, List.length_cons, List.length_nil, List.all_nil, Bool.and_true, Bool.not_false, List.contains_nil, beq_self_eq_true, A0.i.injEq]
  rw [bif_prop]
  refine ⟨fun hb => ⟨by decide, ?_⟩, fun hb => ?_⟩
  · have hlt := of_decide_eq_true hb
    rw [mid_eq h1 hlt h3, mid_sq (by omega) (by omega)]
    rw [bisL.eq_def n x.1 x.2, dif_pos hlt] at h4
    rw [bif_prop]
    refine ⟨fun hm => hJ _ ((x.1 + x.2 + 1) / 2, x.2) [] ⟨by simp only; omega, by simp only; omega, by simp only; omega, by rw [if_pos (of_decide_eq_true hm)] at h4; exact h4⟩ (by simp only; omega) (by simp only [Cov, covOk, covFr, covMem, rn, nodupB, A0.ren, AV.ren, look, St.eval, A0.norm, AV.norm, Option.getD_some, Option.getD_none, cond_true, cond_false, Nat.reduceBEq, List.map_nil, List.all_nil, Bool.and_true, beq_self_eq_true, and_self]), fun hm => hJ _ (x.1, (x.1 + x.2 + 1) / 2 - 1) [] ⟨by simp only; omega, by simp only; omega, by simp only; omega, by rw [if_neg (of_decide_eq_false hm)] at h4; exact h4⟩ (by simp only; omega) (by simp only [Cov, covOk, covFr, covMem, rn, nodupB, A0.ren, AV.ren, look, St.eval, A0.norm, AV.norm, Option.getD_some, Option.getD_none, cond_true, cond_false, Nat.reduceBEq, List.map_nil, List.all_nil, Bool.and_true, beq_self_eq_true, and_self, wrap_id (n := (x.1 + x.2 + 1) / 2 - 1) (by omega) (by omega)])⟩
  · rw [bisL.eq_def n x.1 x.2, dif_neg (of_decide_eq_false hb)] at h4
    exact h4
abbrev fNuRoot : Nat := 43
def cNuRoot : Ctr
  | [.i n] => some ⟨0 ≤ n ∧ n ≤ 1000000000000000000, .one (.i (rootI n)), []⟩
  | _ => none
theorem okNuRoot : CtrOk Try.prog fNuRoot cNuRoot := by
  have hsp : SpecOk Try.prog (specOf []) := SpecOk.nil
  refine ctr_of (fn := Try.f43) mixed tab_ok hsp Try.func43 (by kernel_rfl) (by kernel_rfl) fun args ce h => ?_
  clear hsp
  unfold cNuRoot at h
  split at h
  case h_2 => cases h
  rename_i n
  simp only [Option.some.injEq] at h
  subst h
  refine ⟨by rfl, fun hp => ⟨1, 1000, ?_⟩⟩
  simp only [vc, out, toOf, St.res, step, stepE, stepPick, stepO, eff, rem, St.put, setMems, St.after, St.eval, cst, val1, okNew, Reg.item, Reg.next, hA, initFr, initMem, initSt, Option.getD_some, cond_true, cond_false, Nat.reduceBEq, List.map_nil, true_and, List.toList_toArray, Try.f43]
  rw [← bis9 hp.1 hp.2]
  refine lp_intro (fun x : Int × Int => ⟨[(0, .one (.i n)), (3, .one (.i x.1)), (4, .one (.i x.2))], []⟩) (fun x => 0 ≤ x.1 ∧ x.1 ≤ x.2 ∧ x.2 ≤ 3000000000 ∧ bisL n x.1 x.2 = bisL n 0 1000000000) (fun x => (x.2 - x.1).toNat) (0, 1000000000) [] ⟨by omega, by omega, by omega, rfl⟩ (by simp only [Cov, covOk, covFr, covMem, rn, nodupB, A0.ren, AV.ren, look, St.eval, A0.norm, AV.norm, Option.getD_some, Option.getD_none, cond_true, cond_false, Nat.reduceBEq, List.map_nil, List.all_nil, Bool.and_true, beq_self_eq_true, and_self]) fun x hx J hJ => ⟨1000, ?_⟩
  obtain ⟨h1, h2, h3, h4⟩ := hx
  simp only [vc, out, finD, St.drop, vwAt, toOf, St.res, step, stepE, stepPick, stepO, stepC, eff, look, rem, St.put, setMems, St.after, St.eval, cst, val1, okNew, Reg.item, Reg.next, binInt, effBin, nodupB, argOk, effBin2, disj, resOf, resAll, compEq, compsEq, rowHs, outHds, outsEq, shapeOk, finOk, comps, A0.norm, Option.getD_some, cond_true, cond_false, Nat.reduceBEq, Option.map_some, Nat.zero_add, true_and, and_true, List.length_cons, List.length_nil, List.all_nil, Bool.and_true, Bool.not_false, List.contains_nil, beq_self_eq_true, A0.i.injEq]
  rw [bif_prop]
  refine ⟨fun hb => ⟨by decide, ?_⟩, fun hb => ?_⟩
  · have hlt := of_decide_eq_true hb
    rw [mid_eq h1 hlt h3, mid_sq (by omega) (by omega)]
    rw [bisL.eq_def n x.1 x.2, dif_pos hlt] at h4
    rw [bif_prop]
    refine ⟨fun hm => hJ _ ((x.1 + x.2 + 1) / 2, x.2) [] ⟨by simp only; omega, by simp only; omega, by simp only; omega, by rw [if_pos (of_decide_eq_true hm)] at h4; exact h4⟩ (by simp only; omega) (by simp only [Cov, covOk, covFr, covMem, rn, nodupB, A0.ren, AV.ren, look, St.eval, A0.norm, AV.norm, Option.getD_some, Option.getD_none, cond_true, cond_false, Nat.reduceBEq, List.map_nil, List.all_nil, Bool.and_true, beq_self_eq_true, and_self]), fun hm => hJ _ (x.1, (x.1 + x.2 + 1) / 2 - 1) [] ⟨by simp only; omega, by simp only; omega, by simp only; omega, by rw [if_neg (of_decide_eq_false hm)] at h4; exact h4⟩ (by simp only; omega) (by simp only [Cov, covOk, covFr, covMem, rn, nodupB, A0.ren, AV.ren, look, St.eval, A0.norm, AV.norm, Option.getD_some, Option.getD_none, cond_true, cond_false, Nat.reduceBEq, List.map_nil, List.all_nil, Bool.and_true, beq_self_eq_true, and_self, wrap_id (n := (x.1 + x.2 + 1) / 2 - 1) (by omega) (by omega)])⟩
  · rw [bisL.eq_def n x.1 x.2, dif_neg (of_decide_eq_false hb)] at h4
    exact h4
def sqB (n : Int) : Bool := decide (n ≥ 0) && (wrap64 (rootI n * rootI n) == n)
theorem sqB_iff {n : Int} (h1 : n ≤ 9000000000000000000) : sqB n = true ↔ ∃ r, r * r = n := by
  simp only [sqB, Bool.and_eq_true, decide_eq_true_eq, beq_iff_eq]
  constructor
  · rintro ⟨h0, h⟩
    obtain ⟨b1, b2, b3⟩ := rootI_spec (n := n) h0 h1
    have : rootI n ≤ 3000000000 := root_le h0 h1 (by omega) (by omega)
    rw [mid_sq b1 this] at h
    exact ⟨_, h⟩
  · rintro ⟨r, rfl⟩
    have h0 := sq_nonneg r
    refine ⟨h0, ?_⟩
    obtain ⟨b1, b2, b3⟩ := rootI_spec (n := r * r) h0 h1
    have h3 : rootI (r * r) ≤ 3000000000 := root_le h0 h1 (by omega) (by omega)
    rw [mid_sq b1 h3]
    have h4 : ((r.natAbs : Int)) * (r.natAbs : Int) = r * r := Int.natAbs_mul_self' r
    have h6 : ((r.natAbs : Int) + 1) * ((r.natAbs : Int) + 1) = (r.natAbs : Int) * (r.natAbs : Int) + 2 * (r.natAbs : Int) + 1 := by grind
    have h5 : rootI (r * r) = r.natAbs := root_uniq (n := r * r) b1 (by omega) b2 b3 (by omega) (by omega)
    rw [h5, h4]
abbrev fIsSquare : Nat := 27
def cIsSquare : Ctr
  | [.i n] => some ⟨True, .one (.b (sqB n)), []⟩
  | _ => none
theorem okIsSquare : CtrOk Try.prog fIsSquare cIsSquare := by
  have hsp : SpecOk Try.prog (specOf [(fRoot, cRoot)]) := (SpecOk.cons okRoot SpecOk.nil)
  refine ctr_of (fn := Try.f27) mixed tab_ok hsp Try.func27 (by kernel_rfl) (by kernel_rfl) fun args ce h => ?_
  clear hsp
  unfold cIsSquare at h
  split at h
  case h_2 => cases h
  rename_i n
  simp only [Option.some.injEq] at h
  subst h
  refine ⟨by rfl, fun hp => ⟨0, 1000, ?_⟩⟩
  simp only [vc, out, finD, St.drop, vwAt, toOf, St.res, step, stepE, stepPick, stepG, stepO, eff, look, rem, St.put, setMems, St.after, St.eval, cst, val1, okNew, Reg.item, Reg.next, Reg.skip, slotOf, binInt, effBin, effPick, subPre, argOf, resA, resV, nodupB, argsPre, argOk, callWr, effCall, callGo, effBin2, effCall2, wrHs, disj, AV.hs, A0.hs, initFr, initMem, initSt, resOf, resAll, compEq, compsEq, rowHs, outHds, outsEq, shapeOk, finOk, comps, A0.norm, specOf, t_int, Option.getD_some, cond_true, cond_false, Nat.reduceBEq, List.map_cons, List.map_nil, List.getElem?_cons_zero, List.getElem?_cons_succ, Option.map_some, Option.bind_some, Nat.zero_add, true_and, and_true, List.length_cons, List.length_nil, List.all_cons, List.all_nil, Bool.and_true, Bool.not_false, List.append_nil, List.flatMap_cons, List.flatMap_nil, List.contains_nil, beq_self_eq_true, A0.b.injEq, and_self, List.toList_toArray, cRoot, fRoot, Try.f27]
  unfold sqB
  cases decide (n ≥ 0) <;> rfl
theorem lt0 (n : Int) : decide (n < 0) = !decide (n ≥ 0) := by rw [Bool.eq_iff_iff]; simp
abbrev fNuSquare : Nat := 41
def cNuSquare : Ctr
  | [.i n] => some ⟨n ≤ 1000000000000000000, .one (.b (sqB n)), []⟩
  | _ => none
theorem okNuSquare : CtrOk Try.prog fNuSquare cNuSquare := by
  have hsp : SpecOk Try.prog (specOf [(fNuRoot, cNuRoot)]) := (SpecOk.cons okNuRoot SpecOk.nil)
  refine ctr_of (fn := Try.f41) mixed tab_ok hsp Try.func41 (by kernel_rfl) (by kernel_rfl) fun args ce h => ?_
  clear hsp
  unfold cNuSquare at h
  split at h
  case h_2 => cases h
  rename_i n
  simp only [Option.some.injEq] at h
  subst h
  refine ⟨by rfl, fun hp => ⟨0, 1000, ?_⟩⟩
  simp only [vc, out, finD, St.drop, vwAt, toOf, St.res, step, stepE, stepPick, stepO, stepC, eff, look, rem, St.put, setMems, St.after, St.eval, cst, val1, okNew, Reg.item, Reg.next, binInt, effBin, subPre, argOf, resA, resV, nodupB, argsPre, argOk, callWr, effCall, callGo, effBin2, effCall2, wrHs, disj, AV.hs, A0.hs, initFr, initMem, initSt, resOf, resAll, compEq, compsEq, rowHs, outHds, outsEq, shapeOk, finOk, comps, A0.norm, specOf, Option.getD_some, cond_true, cond_false, Nat.reduceBEq, List.map_cons, List.map_nil, Option.map_some, Nat.zero_add, true_and, and_true, List.length_cons, List.length_nil, List.all_cons, List.all_nil, Bool.and_true, Bool.not_false, List.append_nil, List.flatMap_cons, List.flatMap_nil, List.contains_nil, beq_self_eq_true, A0.b.injEq, and_self, List.toList_toArray, cNuRoot, fNuRoot, Try.f41]
  have hn : n ≤ 1000000000000000000 := hp
  rw [lt0]
  unfold sqB
  cases h : decide (n ≥ 0) with
  | false => rfl
  | true => exact ⟨⟨of_decide_eq_true h, hn⟩, rfl⟩
end Go.Proofs.Ytacomnelongbjab
