/-
  Contracts on prime factors. Conditions: none.
-/
import Derived.Test.YtacomnelongbjaaPf
import Derived.Test.YtacomnelongbjaaLst
namespace Go.Proofs.Ytacomnelongbjaa
open Go Go.RowKit
set_option maxRecDepth 100000
set_option linter.unusedSimpArgs false
set_option linter.unusedVariables false
set_option maxHeartbeats 4000000

-- (not in this seat: Factors)
abbrev fNuFactors : Nat := 44
def cNuFactors : Ctr
  | [.i n] => some ⟨1 ≤ n ∧ n ≤ 1000000000, .one (.rw (.ints 3 (fcL n))), []⟩
  | _ => none
theorem okNuFactors : CtrOk Try.prog fNuFactors cNuFactors := by
  have hsp : SpecOk Try.prog (specOf []) := SpecOk.nil
  refine ctr_of (fn := Try.f44) mixed tab_ok hsp Try.func44 (by kernel_rfl) (by kernel_rfl) fun args ce h => ?_
  clear hsp
  unfold cNuFactors at h
  split at h
  case h_2 => cases h
  rename_i n
  simp only [Option.some.injEq] at h
  subst h
  refine ⟨by rfl, fun hp => ⟨2, 1000, ?_⟩⟩
  simp only [↓cond_to_ite, ↓reduceIte, vc, out, toOf, St.res, step, stepE, stepPick, stepO, eff, rem, St.put, setMems, St.after, St.eval, cst, val1, okNew, Reg.item, Reg.next, hA, initFr, initMem, initSt, Option.getD_some, Nat.reduceBEq, List.map_nil, true_and, List.toList_toArray, Bool.false_eq_true, reduceIte, Try.f44]
  obtain ⟨hn1, hn2⟩ : 1 ≤ n ∧ n ≤ 1000000000 := hp
  refine lp_seed [(3, 2000000, .ints 3 [])] (fun x : Int × Int × List Int => ⟨[(0, .one (.i x.1)), (3, .one (.row 2000000)), (4, .one (.i x.2.1))], [(2000000, .row (.ints 3 x.2.2))]⟩)
    (fun x => FcI n x.1 x.2.1 x.2.2 ∧ fcOut x.1 x.2.1 x.2.2 = fcL n) (fun x => (x.1 + 1 - x.2.1).toNat) (n, 2, []) [] (by kernel_rfl) ⟨fc_start hn1, rfl⟩ (by simp only [Cov, covOk, covFr, covMem, entEq, rn, nodupB, A0.ren, AV.ren, Entry.ren, Entry.norm, look, rem, St.eval, A0.norm, AV.norm, RC.flat, Option.getD_some, Option.getD_none, cond_true, cond_false, Nat.reduceBEq, List.map_cons, List.map_nil, List.all_nil, Bool.and_true, Bool.not_false, List.contains_nil, beq_self_eq_true, and_self, seeds, seed1]) fun x hx J hJ => ⟨1000, ?_⟩
  obtain ⟨m, p, acc⟩ := x
  obtain ⟨hI, hF⟩ : FcI n m p acc ∧ fcOut m p acc = fcL n := hx
  have hp2 := hI.p2
  have hm1 := hI.m1
  have hle := hI.le
  simp only at hJ
  have hsq : p * p ≤ 40000 * 40000 := Int.mul_le_mul hp2.2 hp2.2 (by omega) (by omega)
  have hsq0 : 0 ≤ p * p := Int.mul_nonneg (by omega) (by omega)
  have w1 : wrap64 (p * p) = p * p := wrap_id (by omega) (by omega)
  by_cases g : p * p ≤ m
  · have e1 : decide (p * p ≤ m) = true := decide_eq_true g
    have hp3 := sql2 hp2.1 g (by omega)
    have hp4 := sqg2 hp2.1
    simp only [↓cond_to_ite, ↓reduceIte, vc, out, Entry.toO, toOf, St.res, step, stepE, stepPick, stepO, stepC, eff, look, rem, St.put, setMems, St.after, St.eval, val1, okNew, Reg.item, Reg.next, binInt, effBin, effBin2, Option.getD_some, Nat.reduceBEq, true_and, beq_self_eq_true, Bool.false_eq_true, reduceIte, w1, e1]
    refine lp_intro (fun x : Int × List Int => ⟨[(0, .one (.i x.1)), (3, .one (.row 2000000)), (4, .one (.i p))], [(2000000, .row (.ints 3 x.2))]⟩)
      (fun x => FcI n x.1 p x.2 ∧ fcIn x.1 p x.2 = fcIn m p acc) (fun x => x.1.toNat) (m, acc) [] ⟨hI, rfl⟩ (by simp only [Cov, covOk, covFr, covMem, entEq, rn, nodupB, A0.ren, AV.ren, Entry.ren, Entry.norm, look, St.eval, A0.norm, AV.norm, Option.getD_some, Option.getD_none, cond_true, cond_false, Nat.reduceBEq, List.map_cons, List.map_nil, List.all_nil, Bool.and_true, Bool.not_false, List.contains_nil, beq_self_eq_true, and_self]) fun x hx J2 hJ2 => ⟨1000, ?_⟩
    obtain ⟨k, l⟩ := x
    obtain ⟨hK, hE⟩ : FcI n k p l ∧ fcIn k p l = fcIn m p acc := hx
    simp only at hJ2
    have hk1 := hK.m1
    have hkl := hK.le
    have t1 : k.tmod p = k % p := tmod_nn (by omega)
    by_cases g2 : k % p = 0
    · have e2 : (k.tmod p == 0) = true := by rw [t1]; simpa using g2
      have hd := div_lt_s hk1 hp2.1
      have t2 : wrap64 (k.tdiv p) = k / p := by rw [tdiv_nn (by omega), wrap_id (by omega) (by omega)]
      rw [fcIn.eq_def, dif_pos ⟨hk1, hp2.1, g2⟩] at hE
      simp only [↓cond_to_ite, ↓reduceIte, vc, out, Entry.toO, toOf, St.res, step, stepE, stepPick, stepO, stepC, eff, look, rem, St.put, St.setMem, setMems, St.after, St.eval, cst, val1, okNew, newHs, allHs, rdOf, Reg.item, Reg.next, entryRow, binInt, effBin, ivs, rowOf, allParts, effBuildSlice, readOf, subPre, maxRow, plainTI, appTo, effAppend, RC.flat, effBuildSl, effAppend2, calleeHs, effBin2, wrHs, disj, AV.hs, A0.hs, Entry.hs, RC.elem, RC.sz, RC.len, RC.app, t_int, ts_int, Option.getD_some, Nat.reduceBEq, List.map_cons, List.map_nil, Option.map_some, Nat.zero_add, true_and, and_true, List.all_cons, List.all_nil, Bool.and_true, Bool.or_false, Bool.not_true, Bool.not_false, List.append_nil, List.nil_append, List.cons_append, List.flatMap_cons, List.flatMap_nil, List.contains_cons, List.contains_nil, List.filter_cons, List.filter_nil, beq_self_eq_true, ble_dec, blt_dec, Nat.reduceLeDiff, decide_true, Bool.false_eq_true, reduceIte, e2]
      exact ⟨by omega, by simp only [List.length_append, List.length_singleton]; omega, by omega, hJ2 _ (k / p, l ++ [p]) [(2000000, 19)] ⟨hK.inner g2, hE⟩ (by simp only; omega) (by simp only [Cov, covOk, covFr, covMem, entEq, rn, nodupB, A0.ren, AV.ren, Entry.ren, Entry.norm, look, St.eval, A0.norm, AV.norm, Option.getD_some, cond_true, cond_false, Nat.reduceBEq, List.map_cons, List.map_nil, List.all_nil, Bool.and_true, Bool.not_false, List.contains_nil, beq_self_eq_true, and_self, t2])⟩
    · have e2 : (k.tmod p == 0) = false := by rw [t1]; simpa using g2
      rw [fcIn.eq_def, dif_neg (by omega)] at hE
      have hle2 := fcIn_le p _ m acc (Nat.le_refl _)
      rw [← hE] at hle2
      rw [fcOut.eq_def, dif_pos ⟨hp2.1, g⟩, ← hE] at hF
      have t3 : wrap64 (p + 1) = p + 1 := wrap_id (by omega) (by omega)
      simp only [↓cond_to_ite, ↓reduceIte, vc, out, Entry.toO, toOf, St.res, step, stepE, stepPick, stepO, stepC, eff, look, rem, St.put, setMems, St.after, St.eval, cst, val1, okNew, Reg.item, Reg.next, binInt, effBin, effBin2, Option.getD_some, Nat.reduceBEq, true_and, beq_self_eq_true, Bool.false_eq_true, reduceIte, e2]
      exact ⟨by omega, hJ _ (k, p + 1, l) [] ⟨hK.next g2 (by omega), hF⟩ (by simp only at hle2 ⊢; omega) (by simp only [Cov, covOk, covFr, covMem, entEq, rn, nodupB, A0.ren, AV.ren, Entry.ren, Entry.norm, look, St.eval, A0.norm, AV.norm, Option.getD_some, Option.getD_none, cond_true, cond_false, Nat.reduceBEq, List.map_cons, List.map_nil, List.all_nil, Bool.and_true, Bool.not_false, List.contains_nil, beq_self_eq_true, and_self, t3])⟩
  · have e1 : decide (p * p ≤ m) = false := decide_eq_false g
    rw [fcOut.eq_def, dif_neg (by omega)] at hF
    by_cases g2 : m > 1
    · have e2 : decide (m > 1) = true := decide_eq_true g2
      rw [if_pos g2] at hF
      simp only [↓cond_to_ite, ↓reduceIte, vc, out, finD, St.drop, vwAt, Entry.vwO, RC.vwO, Entry.toO, toOf, St.res, step, stepE, stepPick, stepO, stepC, eff, look, rem, St.put, St.setMem, setMems, St.after, St.eval, cst, val1, okNew, newHs, allHs, rdOf, Reg.item, Reg.next, entryRow, binInt, effBin, ivs, rowOf, allParts, effBuildSlice, readOf, subPre, maxRow, plainTI, appTo, effAppend, nodupB, RC.flat, effBuildSl, effAppend2, calleeHs, effBin2, wrHs, disj, AV.hs, A0.hs, Entry.hs, RC.elem, RC.sz, RC.len, RC.app, resOf, resAll, compEq, compsEq, rowHs, outHds, outsEq, shapeOk, finOk, comps, t_int, ts_int, Option.getD_some, Nat.reduceBEq, List.map_cons, List.map_nil, Option.map_some, Nat.zero_add, true_and, and_true, List.length_cons, List.length_nil, List.all_cons, List.all_nil, Bool.and_true, Bool.or_false, Bool.not_true, Bool.not_false, List.append_nil, List.nil_append, List.cons_append, List.flatMap_cons, List.flatMap_nil, List.contains_cons, List.contains_nil, List.filter_cons, List.filter_nil, beq_self_eq_true, RC.ints.injEq, ble_dec, blt_dec, Nat.reduceLeDiff, decide_true, Bool.false_eq_true, reduceIte, w1, e1, e2]
      first
        | exact ⟨by simp only [List.length_append, List.length_singleton]; omega, hF⟩
    · have e2 : decide (m > 1) = false := decide_eq_false g2
      rw [if_neg g2] at hF
      simp only [↓cond_to_ite, ↓reduceIte, vc, out, finD, St.drop, vwAt, Entry.vwO, RC.vwO, Entry.toO, toOf, St.res, step, stepE, stepPick, stepO, stepC, eff, look, rem, St.put, setMems, St.after, St.eval, cst, val1, okNew, Reg.item, Reg.next, binInt, effBin, nodupB, RC.flat, effBin2, disj, resOf, resAll, compEq, compsEq, rowHs, outHds, outsEq, shapeOk, finOk, comps, Option.getD_some, Nat.reduceBEq, Option.map_some, Nat.zero_add, true_and, and_true, List.length_cons, List.length_nil, List.all_cons, List.all_nil, Bool.and_true, Bool.not_false, List.contains_nil, beq_self_eq_true, RC.ints.injEq, Bool.false_eq_true, reduceIte, w1, e1, e2]
      first
        | exact hF
        | rw [hF]
abbrev fL1Put : Nat := 45
def cL1Put : Ctr
  | [.rw (.ints e l), .i n] => some ⟨(e = 3 ∧ Ris l n) ∧ l.length ≤ 1000000, .one (.rw (.ints 3 (putI l n))), [(0, none)]⟩
  | _ => none
theorem okL1Put : CtrOk Try.prog fL1Put cL1Put := by
  have hsp : SpecOk Try.prog (specOf []) := SpecOk.nil
  refine ctr_of (fn := Try.f45) mixed tab_ok hsp Try.func45 (by kernel_rfl) (by kernel_rfl) fun args ce h => ?_
  clear hsp
  unfold cL1Put at h
  split at h
  case h_2 => cases h
  rename_i e l n
  simp only [Option.some.injEq] at h
  subst h
  refine ⟨by rfl, fun hp => ⟨1, 1000, ?_⟩⟩
  simp only [↓cond_to_ite, ↓reduceIte, vc, out, Entry.toO, toOf, St.res, step, stepE, stepPick, stepO, eff, rem, St.put, setMems, St.after, St.eval, cst, val1, okNew, Reg.item, Reg.next, RC.flat, hA, initFr, initMem, initSt, Option.getD_some, Nat.reduceBEq, List.map_cons, List.map_nil, Nat.zero_add, Nat.add_zero, true_and, List.any_cons, List.any_nil, Bool.or_false, beq_self_eq_true, List.toList_toArray, Bool.false_eq_true, reduceIte, Try.f45]
  obtain ⟨⟨rfl, hr⟩, hlen⟩ : (e = 3 ∧ Ris l n) ∧ l.length ≤ 1000000 := hp
  refine lp_intro (fun k : Nat => ⟨[(0, .one (.row 1000000)), (1, .one (.i n)), (5, .one (.i k))], [(1000000, .row (.ints 3 l))]⟩)
    (fun k => k ≤ l.length ∧ ∀ i, i < k → l.getD i 0 < n) (fun k => l.length - k) 0 [] ⟨Nat.zero_le _, fun i hi => by omega⟩ (by simp only [Cov, covOk, covFr, covMem, entEq, rn, nodupB, A0.ren, AV.ren, Entry.ren, Entry.norm, look, St.eval, A0.norm, AV.norm, Option.getD_some, Option.getD_none, cond_true, cond_false, Nat.reduceBEq, List.map_cons, List.map_nil, true_and, and_true, List.all_cons, List.all_nil, Bool.and_true, Bool.not_false, List.contains_nil, beq_self_eq_true, A0.i.injEq, AV.one.injEq, and_self]; simp) fun k hk J hJ => ⟨1000, ?_⟩
  obtain ⟨hk, hlo⟩ := hk
  by_cases g : k < l.length
  · have e1 : decide ((k : Int) < (l.length : Int)) = true := decide_eq_true (by omega)
    have hmem : l.getD k 0 ∈ l := by simp [List.getD_eq_getElem?_getD, g]
    have hle := hr.le _ hmem
    by_cases g2 : l.getD k 0 < n
    · have e2 : decide (l.getD k 0 < n) = true := decide_eq_true g2
      simp only [↓cond_to_ite, ↓reduceIte, vc, out, Entry.toO, toOf, St.res, step, stepE, stepPick, stepG, stepO, stepC, eff, look, rem, St.put, setMems, St.after, St.eval, cst, val1, okNew, Reg.item, Reg.next, slotOf, entryRow, loadR, effLoad, binInt, effBin, effPick, elemSz, idxS, effIndex, lenOf, RC.flat, effLoad2, effLoad3, lenOf2, effIndex2, effBin2, RC.sz, RC.len, t_int, ts_int, Option.getD_some, Nat.reduceBEq, List.getElem?_cons_zero, List.getElem?_cons_succ, Option.map_some, Option.bind_some, true_and, Bool.and_true, beq_self_eq_true, Option.isSome_some, Bool.false_eq_true, reduceIte, e1, Int.toNat_natCast, e2]
      exact ⟨⟨by omega, by omega⟩, g, hJ _ (k + 1) [] ⟨by omega, fun i hi => by
        by_cases h : i = k
        · rw [h]; exact g2
        · exact hlo i (by omega)⟩ (by omega) (by simp only [Cov, covOk, covFr, covMem, entEq, rn, nodupB, A0.ren, AV.ren, Entry.ren, Entry.norm, look, St.eval, A0.norm, AV.norm, Option.getD_some, Option.getD_none, cond_true, cond_false, Nat.reduceBEq, List.map_cons, List.map_nil, List.all_cons, List.all_nil, Bool.and_true, Bool.not_false, List.contains_nil, beq_self_eq_true, and_self, wsucc g (by omega)])⟩
    · have e2 : decide (l.getD k 0 < n) = false := decide_eq_false g2
      have e3 : (l.getD k 0 == n) = true := beq_iff_eq.2 (by omega)
      simp only [↓cond_to_ite, ↓reduceIte, vc, out, finD, St.drop, vwAt, Entry.vwO, RC.vwO, Entry.toO, toOf, St.res, step, stepE, stepPick, stepG, stepO, stepC, eff, look, rem, St.put, setMems, St.after, St.eval, val1, okNew, Reg.item, Reg.next, slotOf, entryRow, loadR, effLoad, binInt, effBin, effPick, elemSz, idxS, effIndex, lenOf, nodupB, RC.flat, effLoad2, effLoad3, lenOf2, effIndex2, effBin2, disj, RC.sz, RC.len, resOf, resAll, compEq, compsEq, rowHs, outHds, outsEq, shapeOk, finOk, comps, t_int, ts_int, Option.getD_some, Nat.reduceBEq, List.getElem?_cons_zero, List.getElem?_cons_succ, Option.map_some, Option.bind_some, Nat.zero_add, true_and, and_true, List.length_cons, List.length_nil, List.all_cons, List.all_nil, Bool.and_true, Bool.not_false, List.contains_nil, beq_self_eq_true, RC.ints.injEq, Option.isSome_some, Bool.false_eq_true, reduceIte, e1, Int.toNat_natCast, e2, e3]
      have hlast : l.getLast? = some n := by
        have hkl : k = l.length - 1 := by
          apply Classical.byContradiction
          intro hc
          have h2 := List.pairwise_iff_getElem.1 hr.so k (l.length - 1) g (by omega) (by omega)
          have h3 := hr.le l[l.length - 1] (List.getElem_mem _)
          have h4 : l.getD k 0 = l[k] := by simp [List.getD_eq_getElem?_getD, g]
          omega
        have h4 : l.getD k 0 = l[k] := by simp [List.getD_eq_getElem?_getD, g]
        rw [List.getLast?_eq_getElem?, ← hkl, List.getElem?_eq_getElem g, ← h4, beq_iff_eq.1 e3]
      exact ⟨⟨by omega, by omega⟩, g, ⟨by omega, by omega⟩, g, by unfold putI; rw [if_pos hlast]⟩
  · have e1 : decide ((k : Int) < (l.length : Int)) = false := decide_eq_false (by omega)
    have hke : k = l.length := by omega
    subst hke
    simp only [↓cond_to_ite, ↓reduceIte, vc, out, finD, St.drop, vwAt, Entry.vwO, RC.vwO, Entry.toO, toOf, St.res, step, stepE, stepPick, stepG, stepO, stepC, eff, look, rem, St.put, St.setMem, setMems, St.after, St.eval, cst, val1, okNew, newHs, allHs, rdOf, Reg.item, Reg.next, Reg.skip, slotOf, entryRow, binInt, effBin, effPick, ivs, rowOf, allParts, effBuildSlice, elemSz, lenOf, readOf, subPre, maxRow, plainTI, appTo, effAppend, slcOf, effSlice, nodupB, RC.flat, effBuildSl, effAppend2, calleeHs, lenOf2, effBin2, wrHs, disj, AV.hs, A0.hs, Entry.hs, RC.elem, RC.sz, RC.len, RC.slice, RC.app, resOf, resAll, compEq, compsEq, rowHs, outHds, outsEq, shapeOk, finOk, comps, t_int, ts_int, Option.getD_some, Nat.reduceBEq, List.map_cons, List.map_nil, List.getElem?_cons_zero, List.getElem?_cons_succ, List.drop_zero, Option.map_some, Option.map_none, Option.bind_some, Nat.zero_add, true_and, and_true, List.length_cons, List.length_nil, List.all_cons, List.all_nil, Bool.and_true, Bool.or_false, Bool.not_true, Bool.not_false, List.append_nil, List.nil_append, List.cons_append, List.flatMap_cons, List.flatMap_nil, List.contains_cons, List.contains_nil, List.filter_cons, List.filter_nil, beq_self_eq_true, RC.ints.injEq, ble_dec, blt_dec, Nat.reduceLeDiff, decide_true, and_self, Option.isSome_some, Bool.false_eq_true, reduceIte, e1, Int.toNat_natCast, List.take_length, List.drop_length, List.append_nil]
    have hput : putI l n = l ++ [n] := by
      unfold putI
      rw [if_neg]
      intro hc
      have hm := List.mem_of_getLast? hc
      obtain ⟨i, hi, hix⟩ := List.mem_iff_getElem.1 hm
      have h5 := hlo i hi
      have h4 : l.getD i 0 = l[i] := by simp [List.getD_eq_getElem?_getD, hi]
      omega
    rw [hput]
    have hl2 : (l ++ [n]).length ≤ 100000000000 := by rw [List.length_append, List.length_singleton]; omega
    exact ⟨⟨by omega, by omega⟩, by first | exact ⟨by omega, by omega, by omega⟩ | exact ⟨by omega, by omega⟩, hl2, ⟨by omega, by omega⟩, by first | exact ⟨hl2, by omega, by omega⟩ | exact ⟨hl2, by omega⟩ | exact hl2, by first | rfl | trivial⟩
theorem fcl_len {n : Int} (h : 1 ≤ n) (h2 : n ≤ 1000000000) : (fcL n).length ≤ 1000000 := by
  have hf := (fc_all h h2).pow
  apply Classical.byContradiction
  intro hc
  have h3 : 2 ^ 30 ≤ 2 ^ (fcL n).length := Nat.pow_le_pow_right (by omega) (by omega)
  have e : ((2 ^ (fcL n).length : Nat) : Int) = (2 : Int) ^ (fcL n).length := by simp
  have e2 : (2 : Nat) ^ 30 = 1073741824 := rfl
  omega
-- (not in this seat: PrimesOf)
abbrev fNuPrimes : Nat := 41
def cNuPrimes : Ctr
  | [.i n] => some ⟨1 ≤ n ∧ n ≤ 1000000000, .one (.rw (.ints 3 (psL n))), []⟩
  | _ => none
theorem okNuPrimes : CtrOk Try.prog fNuPrimes cNuPrimes := by
  have hsp : SpecOk Try.prog (specOf [(fNuFactors, cNuFactors), (fL1Put, cL1Put)]) := (SpecOk.cons okNuFactors (SpecOk.cons okL1Put SpecOk.nil))
  refine ctr_of (fn := Try.f41) mixed tab_ok hsp Try.func41 (by kernel_rfl) (by kernel_rfl) fun args ce h => ?_
  clear hsp
  unfold cNuPrimes at h
  split at h
  case h_2 => cases h
  rename_i n
  simp only [Option.some.injEq] at h
  subst h
  refine ⟨by rfl, fun hp => ⟨1, 1000, ?_⟩⟩
  simp only [↓cond_to_ite, ↓reduceIte, vc, out, Entry.toO, toOf, St.res, step, stepE, stepPick, stepO, eff, look, rem, St.put, St.setMem, setMems, St.after, St.eval, cst, val1, okNew, newHs, allHs, rdOf, Reg.item, Reg.next, entryRow, elemSz, lenOf, subPre, argOf, resA, resV, argsPre, argOk, callWr, effCall, RC.flat, callGo, calleeHs, lenOf2, effCall2, wrHs, disj, AV.hs, A0.hs, Entry.hs, RC.len, hA, initFr, initMem, initSt, specOf, t_int, ts_int, Option.getD_some, Nat.reduceBEq, List.map_cons, List.map_nil, Option.map_some, true_and, and_true, List.all_cons, List.all_nil, Bool.and_true, Bool.not_false, List.append_nil, List.flatMap_cons, List.flatMap_nil, List.contains_nil, List.filter_cons, List.filter_nil, beq_self_eq_true, and_self, List.toList_toArray, Option.isSome_some, Bool.false_eq_true, reduceIte, cNuFactors, fNuFactors, fL1Put, Try.f41]
  obtain ⟨hn1, hn2⟩ : 1 ≤ n ∧ n ≤ 1000000000 := hp
  have hf := fc_all hn1 hn2
  have hl := fcl_len hn1 hn2
  refine ⟨⟨hn1, hn2⟩, ?_⟩
  unfold psL
  generalize fcL n = L at *
  refine lp_seed [(3, 2000000, .ints 3 [])] (fun q : Nat => ⟨[(3, .one (.row 2000000)), (7, .one (.row 7)), (8, .one (.i L.length)), (9, .one (.i q))], [(7, .row (.ints 3 L)), (2000000, .row (.ints 3 ((L.take q).foldl putI [])))]⟩)
    (fun q => q ≤ L.length) (fun q => L.length - q) 0 [] (by kernel_rfl) (Nat.zero_le _) (by simp only [Cov, covOk, covFr, covMem, entEq, rn, nodupB, A0.ren, AV.ren, Entry.ren, Entry.norm, look, rem, St.eval, A0.norm, AV.norm, RC.flat, Option.getD_some, Option.getD_none, cond_true, cond_false, Nat.reduceBEq, List.map_cons, List.map_nil, List.take_zero, true_and, and_true, List.all_nil, Bool.and_true, Bool.or_false, Bool.not_false, List.contains_cons, List.contains_nil, beq_self_eq_true, A0.i.injEq, AV.one.injEq, seeds, seed1]; simp) fun q hq J hJ => ⟨1000, ?_⟩
  by_cases g : q < L.length
  · have e1 : decide ((q : Int) < (L.length : Int)) = true := decide_eq_true (by omega)
    obtain ⟨hr, hal⟩ := fold_ris hf.so g (fun x hx => by have := (hf.el x hx).1; omega)
    have ht := fold_take g []
    generalize hA : (L.take q).foldl putI [] = A at *
    generalize hx : L.getD q 0 = x at *
    have hw := wsucc g (by omega)
    simp only [↓cond_to_ite, ↓reduceIte, vc, out, Entry.toO, toOf, St.res, step, stepE, stepPick, stepO, stepC, eff, look, rem, St.put, St.setMem, setMems, St.after, St.eval, cst, val1, okNew, newHs, allHs, rdOf, Reg.item, Reg.next, entryRow, loadR, effLoad, binInt, effBin, idxS, effIndex, subPre, argOf, resA, resV, outWr, nodupB, restOk, argsPre, argOk, callWr, effCall, RC.flat, callGo, effLoad2, calleeHs, effLoad3, effIndex2, effBin2, effCall2, wrHs, disj, AV.hs, A0.hs, Entry.hs, RC.sz, RC.len, specOf, t_int, ts_int, Option.getD_some, Nat.reduceBEq, List.map_cons, List.map_nil, List.getElem?_cons_zero, Option.map_some, Option.map_none, Nat.zero_add, true_and, and_true, List.all_cons, List.all_nil, List.any_cons, List.any_nil, Bool.and_true, Bool.or_true, Bool.or_false, Bool.not_true, Bool.not_false, List.append_nil, List.nil_append, List.cons_append, List.flatMap_cons, List.flatMap_nil, List.contains_cons, List.contains_nil, List.filter_cons, List.filter_nil, beq_self_eq_true, and_self, Bool.false_eq_true, reduceIte, cL1Put, e1, Int.toNat_natCast, hx]
    exact ⟨⟨by omega, by omega⟩, g, ⟨hr, by omega⟩, hJ _ (q + 1) [(2000000, 15)] (by omega) (by omega) (by simp only [Cov, covOk, covFr, covMem, entEq, rn, nodupB, A0.ren, AV.ren, Entry.ren, Entry.norm, look, St.eval, A0.norm, AV.norm, Option.getD_some, Option.getD_none, cond_true, cond_false, Nat.reduceBEq, List.map_cons, List.map_nil, List.all_nil, Bool.and_true, Bool.or_false, Bool.not_false, List.contains_cons, List.contains_nil, beq_self_eq_true, and_self, hw, ht])⟩
  · have e1 : decide ((q : Int) < (L.length : Int)) = false := decide_eq_false (by omega)
    simp only [↓cond_to_ite, ↓reduceIte, vc, out, finD, St.drop, vwAt, Entry.vwO, RC.vwO, Entry.toO, toOf, St.res, step, stepE, stepPick, stepO, stepC, eff, look, rem, St.put, setMems, St.after, St.eval, val1, okNew, Reg.item, Reg.next, binInt, effBin, nodupB, RC.flat, effBin2, disj, resOf, resAll, compEq, compsEq, rowHs, outHds, outsEq, shapeOk, finOk, comps, Option.getD_some, Nat.reduceBEq, Option.map_some, Nat.zero_add, true_and, and_true, List.length_cons, List.length_nil, List.all_cons, List.all_nil, Bool.and_true, Bool.not_false, List.contains_nil, beq_self_eq_true, RC.ints.injEq, Bool.false_eq_true, reduceIte, e1]
    rw [show q = L.length by omega, List.take_length]
end Go.Proofs.Ytacomnelongbjaa
