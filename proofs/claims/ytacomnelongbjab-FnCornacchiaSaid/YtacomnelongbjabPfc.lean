/-
  Contracts on prime factors. Conditions: none.
-/
import Derived.Test.YtacomnelongbjabPf
import Derived.Test.YtacomnelongbjabLst
namespace Go.Proofs.Ytacomnelongbjab
open Go Go.RowKit
set_option maxRecDepth 100000
set_option linter.unusedSimpArgs false
set_option linter.unusedVariables false
set_option maxHeartbeats 4000000

abbrev fFactors : Nat := 39
def cFactors : Ctr
  | [.i n] => some ⟨1 ≤ n ∧ n ≤ 1000000000, .one (.rw (.ints 3 (fcL n))), []⟩
  | _ => none
theorem okFactors : CtrOk Try.prog fFactors cFactors := by
  have hsp : SpecOk Try.prog (specOf []) := SpecOk.nil
  refine ctr_of (fn := Try.f39) mixed tab_ok hsp Try.func39 (by kernel_rfl) (by kernel_rfl) fun args ce h => ?_
  clear hsp
  unfold cFactors at h
  split at h
  case h_2 => cases h
  rename_i n
  simp only [Option.some.injEq] at h
  subst h
  refine ⟨by rfl, fun hp => ⟨2, 1000, ?_⟩⟩
  simp only [↓cond_to_ite, ↓reduceIte, vc, out, Entry.toO, toOf, St.res, step, stepE, stepPick, stepO, eff, look, rem, St.put, St.setMem, setMems, St.after, St.eval, cst, val1, okNew, newHs, allHs, rdOf, Reg.item, Reg.next, ivs, rowOf, allParts, effBuildSlice, effBuildSl, wrHs, disj, AV.hs, A0.hs, Entry.hs, RC.sz, hA, initFr, initMem, initSt, t_int, ts_int, Option.getD_some, Nat.reduceBEq, List.map_cons, List.map_nil, Option.map_some, true_and, List.all_cons, List.all_nil, Bool.and_true, Bool.not_false, List.append_nil, List.flatMap_cons, List.flatMap_nil, List.contains_nil, List.filter_cons, List.filter_nil, beq_self_eq_true, ble_dec, Nat.reduceLeDiff, decide_true, List.toList_toArray, Bool.false_eq_true, reduceIte, Try.f39]
  obtain ⟨hn1, hn2⟩ : 1 ≤ n ∧ n ≤ 1000000000 := hp
  refine lp_intro (fun x : Int × Int × List Int => ⟨[(0, .one (.i x.1)), (3, .one (.row 1000003)), (4, .one (.i x.2.1))], [(1000003, .row (.ints 3 x.2.2))]⟩)
    (fun x => FcI n x.1 x.2.1 x.2.2 ∧ fcOut x.1 x.2.1 x.2.2 = fcL n) (fun x => (x.1 + 1 - x.2.1).toNat) (n, 2, []) [(1000003, 5)] ⟨fc_start hn1, rfl⟩ (by simp only [Cov, covOk, covFr, covMem, entEq, rn, nodupB, A0.ren, AV.ren, Entry.ren, Entry.norm, look, St.eval, A0.norm, AV.norm, Option.getD_some, cond_true, cond_false, Nat.reduceBEq, List.map_cons, List.map_nil, List.all_nil, Bool.and_true, Bool.not_false, List.contains_nil, beq_self_eq_true, and_self]) fun x hx J hJ => ⟨1000, ?_⟩
  obtain ⟨m, p, acc⟩ := x
  obtain ⟨hI, hF⟩ : FcI n m p acc ∧ fcOut m p acc = fcL n := hx
  have hp2 := hI.p2
  have hm1 := hI.m1
  have hle := hI.le
  simp only at hJ
  have hsq : p * p ≤ 40000 * 40000 := Int.mul_le_mul hp2.2 hp2.2 (by omega) (by omega)
  have hsq0 : 0 ≤ p * p := Int.mul_nonneg (by omega) (by omega)
  have w1 : wrap64 (p * p) = p * p := wrap_id (by omega) (by omega)
  by_cases g : p * p ≤ m
  · have e1 : decide (p * p ≤ m) = true := decide_eq_true g
    have hp3 := sql2 hp2.1 g (by omega)
    have hp4 := sqg2 hp2.1
    simp only [↓cond_to_ite, ↓reduceIte, vc, out, Entry.toO, toOf, St.res, step, stepE, stepPick, stepO, stepC, eff, look, rem, St.put, setMems, St.after, St.eval, val1, okNew, Reg.item, Reg.next, binInt, effBin, effBin2, Option.getD_some, Nat.reduceBEq, true_and, beq_self_eq_true, Bool.false_eq_true, reduceIte, w1, e1]
    refine lp_intro (fun x : Int × List Int => ⟨[(0, .one (.i x.1)), (3, .one (.row 1000003)), (4, .one (.i p))], [(1000003, .row (.ints 3 x.2))]⟩)
      (fun x => FcI n x.1 p x.2 ∧ fcIn x.1 p x.2 = fcIn m p acc) (fun x => x.1.toNat) (m, acc) [] ⟨hI, rfl⟩ (by simp only [Cov, covOk, covFr, covMem, entEq, rn, nodupB, A0.ren, AV.ren, Entry.ren, Entry.norm, look, St.eval, A0.norm, AV.norm, Option.getD_some, Option.getD_none, cond_true, cond_false, Nat.reduceBEq, List.map_cons, List.map_nil, List.all_nil, Bool.and_true, Bool.not_false, List.contains_nil, beq_self_eq_true, and_self]) fun x hx J2 hJ2 => ⟨1000, ?_⟩
    obtain ⟨k, l⟩ := x
    obtain ⟨hK, hE⟩ : FcI n k p l ∧ fcIn k p l = fcIn m p acc := hx
    simp only at hJ2
    have hk1 := hK.m1
    have hkl := hK.le
    have t1 : k.tmod p = k % p := tmod_nn (by omega)
    by_cases g2 : k % p = 0
    · have e2 : (k.tmod p == 0) = true := by rw [t1]; simpa using g2
      have hd := div_lt_s hk1 hp2.1
      have t2 : wrap64 (k.tdiv p) = k / p := by rw [tdiv_nn (by omega), wrap_id (by omega) (by omega)]
      rw [fcIn.eq_def, dif_pos ⟨hk1, hp2.1, g2⟩] at hE
      simp only [↓cond_to_ite, ↓reduceIte, vc, out, Entry.toO, toOf, St.res, step, stepE, stepPick, stepO, stepC, eff, look, rem, St.put, St.setMem, setMems, St.after, St.eval, cst, val1, okNew, newHs, allHs, rdOf, Reg.item, Reg.next, entryRow, binInt, effBin, ivs, rowOf, allParts, effBuildSlice, readOf, subPre, maxRow, plainTI, appTo, effAppend, RC.flat, effBuildSl, effAppend2, calleeHs, effBin2, wrHs, disj, AV.hs, A0.hs, Entry.hs, RC.elem, RC.sz, RC.len, RC.app, t_int, ts_int, Option.getD_some, Nat.reduceBEq, List.map_cons, List.map_nil, Option.map_some, Nat.zero_add, true_and, and_true, List.all_cons, List.all_nil, Bool.and_true, Bool.or_false, Bool.not_true, Bool.not_false, List.append_nil, List.nil_append, List.cons_append, List.flatMap_cons, List.flatMap_nil, List.contains_cons, List.contains_nil, List.filter_cons, List.filter_nil, beq_self_eq_true, ble_dec, blt_dec, Nat.reduceLeDiff, decide_true, Bool.false_eq_true, reduceIte, e2]
      exact ⟨by omega, by simp only [List.length_append, List.length_singleton]; omega, by omega, hJ2 _ (k / p, l ++ [p]) [(1000003, 20)] ⟨hK.inner g2, hE⟩ (by simp only; omega) (by simp only [Cov, covOk, covFr, covMem, entEq, rn, nodupB, A0.ren, AV.ren, Entry.ren, Entry.norm, look, St.eval, A0.norm, AV.norm, Option.getD_some, cond_true, cond_false, Nat.reduceBEq, List.map_cons, List.map_nil, List.all_nil, Bool.and_true, Bool.not_false, List.contains_nil, beq_self_eq_true, and_self, t2])⟩
    · have e2 : (k.tmod p == 0) = false := by rw [t1]; simpa using g2
      rw [fcIn.eq_def, dif_neg (by omega)] at hE
      have hle2 := fcIn_le p _ m acc (Nat.le_refl _)
      rw [← hE] at hle2
      rw [fcOut.eq_def, dif_pos ⟨hp2.1, g⟩, ← hE] at hF
      have t3 : wrap64 (p + 1) = p + 1 := wrap_id (by omega) (by omega)
      simp only [↓cond_to_ite, ↓reduceIte, vc, out, Entry.toO, toOf, St.res, step, stepE, stepPick, stepO, stepC, eff, look, rem, St.put, setMems, St.after, St.eval, cst, val1, okNew, Reg.item, Reg.next, binInt, effBin, effBin2, Option.getD_some, Nat.reduceBEq, true_and, beq_self_eq_true, Bool.false_eq_true, reduceIte, e2]
      exact ⟨by omega, hJ _ (k, p + 1, l) [] ⟨hK.next g2 (by omega), hF⟩ (by simp only at hle2 ⊢; omega) (by simp only [Cov, covOk, covFr, covMem, entEq, rn, nodupB, A0.ren, AV.ren, Entry.ren, Entry.norm, look, St.eval, A0.norm, AV.norm, Option.getD_some, Option.getD_none, cond_true, cond_false, Nat.reduceBEq, List.map_cons, List.map_nil, List.all_nil, Bool.and_true, Bool.not_false, List.contains_nil, beq_self_eq_true, and_self, t3])⟩
  · have e1 : decide (p * p ≤ m) = false := decide_eq_false g
    rw [fcOut.eq_def, dif_neg (by omega)] at hF
    by_cases g2 : m > 1
    · have e2 : decide (m > 1) = true := decide_eq_true g2
      rw [if_pos g2] at hF
      simp only [↓cond_to_ite, ↓reduceIte, vc, out, finD, St.drop, vwAt, Entry.vwO, RC.vwO, Entry.toO, toOf, St.res, step, stepE, stepPick, stepO, stepC, eff, look, rem, St.put, St.setMem, setMems, St.after, St.eval, cst, val1, okNew, newHs, allHs, rdOf, Reg.item, Reg.next, entryRow, binInt, effBin, ivs, rowOf, allParts, effBuildSlice, readOf, subPre, maxRow, plainTI, appTo, effAppend, nodupB, RC.flat, effBuildSl, effAppend2, calleeHs, effBin2, wrHs, disj, AV.hs, A0.hs, Entry.hs, RC.elem, RC.sz, RC.len, RC.app, resOf, resAll, compEq, compsEq, rowHs, outHds, outsEq, shapeOk, finOk, comps, t_int, ts_int, Option.getD_some, Nat.reduceBEq, List.map_cons, List.map_nil, Option.map_some, Nat.zero_add, true_and, and_true, List.length_cons, List.length_nil, List.all_cons, List.all_nil, Bool.and_true, Bool.or_false, Bool.not_true, Bool.not_false, List.append_nil, List.nil_append, List.cons_append, List.flatMap_cons, List.flatMap_nil, List.contains_cons, List.contains_nil, List.filter_cons, List.filter_nil, beq_self_eq_true, RC.ints.injEq, ble_dec, blt_dec, Nat.reduceLeDiff, decide_true, Bool.false_eq_true, reduceIte, w1, e1, e2]
      first
        | exact ⟨by simp only [List.length_append, List.length_singleton]; omega, hF⟩
    · have e2 : decide (m > 1) = false := decide_eq_false g2
      rw [if_neg g2] at hF
      simp only [↓cond_to_ite, ↓reduceIte, vc, out, finD, St.drop, vwAt, Entry.vwO, RC.vwO, Entry.toO, toOf, St.res, step, stepE, stepPick, stepO, stepC, eff, look, rem, St.put, setMems, St.after, St.eval, cst, val1, okNew, Reg.item, Reg.next, binInt, effBin, nodupB, RC.flat, effBin2, disj, resOf, resAll, compEq, compsEq, rowHs, outHds, outsEq, shapeOk, finOk, comps, Option.getD_some, Nat.reduceBEq, Option.map_some, Nat.zero_add, true_and, and_true, List.length_cons, List.length_nil, List.all_cons, List.all_nil, Bool.and_true, Bool.not_false, List.contains_nil, beq_self_eq_true, RC.ints.injEq, Bool.false_eq_true, reduceIte, w1, e1, e2]
      first
        | exact hF
        | rw [hF]
-- (not in this seat: NuFactors)
-- (not in this seat: L1Put)
theorem fcl_len {n : Int} (h : 1 ≤ n) (h2 : n ≤ 1000000000) : (fcL n).length ≤ 1000000 := by
  have hf := (fc_all h h2).pow
  apply Classical.byContradiction
  intro hc
  have h3 : 2 ^ 30 ≤ 2 ^ (fcL n).length := Nat.pow_le_pow_right (by omega) (by omega)
  have e : ((2 ^ (fcL n).length : Nat) : Int) = (2 : Int) ^ (fcL n).length := by simp
  have e2 : (2 : Nat) ^ 30 = 1073741824 := rfl
  omega
-- (not in this seat: PrimesOf)
-- (not in this seat: NuPrimes)
end Go.Proofs.Ytacomnelongbjab
