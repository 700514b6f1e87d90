/-
  Contracts of IsPrime, GreatestDivisor, PrimeFactors, PrincipalResidues and of two helpers of the law. Conditions: none.
-/
import Derived.Test.YtacomnelongbjabCpl
import Derived.Test.YtacomnelongbjabPfc
namespace Go.Proofs.Ytacomnelongbjab
open Go Go.RowKit
set_option maxRecDepth 100000
set_option linter.unusedSimpArgs false
set_option linter.unusedVariables false
set_option maxHeartbeats 4000000

abbrev fIsPrimeF : Nat := 11
def cIsPrimeF : Ctr
  | [.i n] => some ⟨True, .one (.b (areB n && primeI n)), []⟩
  | _ => none
theorem okIsPrimeF : CtrOk Try.prog fIsPrimeF cIsPrimeF := by
  have hsp : SpecOk Try.prog (specOf [(fAre, cAre), (fIsPrime0, cIsPrime0)]) := (SpecOk.cons okAre (SpecOk.cons okIsPrime0 SpecOk.nil))
  refine ctr_of (fn := Try.f11) mixed tab_ok hsp Try.func11 (by kernel_rfl) (by kernel_rfl) fun args ce h => ?_
  clear hsp
  unfold cIsPrimeF at h
  split at h
  case h_2 => cases h
  rename_i n
  simp only [Option.some.injEq] at h
  subst h
  refine ⟨by rfl, fun hp => ⟨0, 1000, ?_⟩⟩
  simp only [vc, out, finD, St.drop, vwAt, Entry.vwO, RC.vwO, Entry.toO, toOf, St.res, step, stepE, stepPick, stepG, stepO, eff, look, rem, St.put, St.setMem, setMems, St.after, St.eval, cst, val1, okNew, newHs, allHs, rdOf, Reg.item, Reg.next, Reg.skip, slotOf, entryRow, effPick, ivs, rowOf, allParts, effBuildSlice, subPre, argOf, resA, resV, nodupB, argsPre, argOk, callWr, effCall, RC.flat, effBuildSl, callGo, effCall2, wrHs, disj, AV.hs, A0.hs, Entry.hs, RC.sz, hA, initFr, initMem, initSt, resOf, resAll, compEq, compsEq, rowHs, outHds, outsEq, shapeOk, finOk, comps, A0.norm, specOf, t_int, ts_int, Option.getD_some, cond_true, cond_false, Nat.reduceBEq, List.map_cons, List.map_nil, List.getElem?_cons_zero, List.getElem?_cons_succ, Option.map_some, Option.bind_some, Nat.zero_add, true_and, and_true, List.length_cons, List.length_nil, List.all_cons, List.all_nil, Bool.and_true, Bool.or_false, Bool.not_false, List.append_nil, List.flatMap_cons, List.flatMap_nil, List.contains_cons, List.contains_nil, List.filter_cons, List.filter_nil, beq_self_eq_true, A0.b.injEq, ble_dec, Nat.reduceLeDiff, decide_true, and_self, List.toList_toArray, ite_true, cAre, fAre, cIsPrime0, fIsPrime0, Try.f11]
  cases h : areB n with
  | false => simp [h]
  | true =>
    have := areB_iff.1 h
    simp only [Bool.true_and, cond_true]
    exact ⟨by omega, trivial⟩
abbrev fGreatD : Nat := 17
def cGreatD : Ctr
  | [.i a, .i b] => some ⟨True, .tup [.i (onB (areB a && areB b) (gcdI a b)), .b (areB a && areB b)], []⟩
  | _ => none
theorem okGreatD : CtrOk Try.prog fGreatD cGreatD := by
  have hsp : SpecOk Try.prog (specOf [(fAre, cAre), (fGcd, cGcd)]) := (SpecOk.cons okAre (SpecOk.cons okGcd SpecOk.nil))
  refine ctr_of (fn := Try.f17) mixed tab_ok hsp Try.func17 (by kernel_rfl) (by kernel_rfl) fun args ce h => ?_
  clear hsp
  unfold cGreatD at h
  split at h
  case h_2 => cases h
  rename_i a b
  simp only [Option.some.injEq] at h
  subst h
  refine ⟨by rfl, fun hp => ⟨0, 1000, ?_⟩⟩
  simp only [vc, out, finD, St.drop, vwAt, Entry.vwO, RC.vwO, Entry.toO, toOf, St.res, step, stepE, stepPick, stepO, stepC, eff, look, rem, St.put, St.setMem, setMems, St.after, St.eval, cst, val1, okNew, newHs, allHs, rdOf, Reg.item, Reg.next, entryRow, effUn, ivs, rowOf, allParts, effBuildSlice, subPre, argOf, resA, resV, nodupB, argsPre, argOk, callWr, effCall, RC.flat, effBuildSl, callGo, effCall2, wrHs, disj, AV.hs, A0.hs, Entry.hs, RC.sz, hA, initFr, initMem, initSt, resOf, resAll, compEq, compsEq, rowHs, outHds, outsEq, shapeOk, finOk, comps, A0.norm, specOf, t_int, ts_int, Option.getD_some, cond_true, cond_false, Nat.reduceBEq, List.map_cons, List.map_nil, Option.map_some, Nat.zero_add, Nat.reduceAdd, true_and, and_true, List.length_cons, List.length_nil, List.all_cons, List.all_nil, Bool.and_true, Bool.true_and, Bool.or_false, Bool.not_false, List.append_nil, List.flatMap_cons, List.flatMap_nil, List.contains_cons, List.contains_nil, List.filter_cons, List.filter_nil, beq_self_eq_true, A0.b.injEq, A0.i.injEq, ble_dec, Nat.reduceLeDiff, decide_true, and_self, List.toList_toArray, ite_true, cAre, fAre, cGcd, fGcd, Try.f17]
  cases areB a <;> cases areB b <;> first | exact ⟨by kernel_rfl, rfl, rfl⟩ | trace_state
def prfB (n : Int) : Bool := areB n && !decide (n < 1)
abbrev fPrimeF : Nat := 18
def cPrimeF : Ctr
  | [.i n] => some ⟨True, .tup [.rw (.ints 3 (onL (prfB n) (fcL n))), .b (prfB n)], []⟩
  | _ => none
theorem okPrimeF : CtrOk Try.prog fPrimeF cPrimeF := by
  have hsp : SpecOk Try.prog (specOf [(fAre, cAre), (fFactors, cFactors)]) := (SpecOk.cons okAre (SpecOk.cons okFactors SpecOk.nil))
  refine ctr_of (fn := Try.f18) mixed tab_ok hsp Try.func18 (by kernel_rfl) (by kernel_rfl) fun args ce h => ?_
  clear hsp
  unfold cPrimeF at h
  split at h
  case h_2 => cases h
  rename_i n
  simp only [Option.some.injEq] at h
  subst h
  refine ⟨by rfl, fun hp => ⟨0, 1000, ?_⟩⟩
  cases h1 : areB n with
  | false =>
    have e : prfB n = false := by unfold prfB; rw [h1]; rfl
    rw [e]
    simp only [↓cond_to_ite, ↓reduceIte, vc, out, finD, St.drop, vwAt, Entry.vwO, RC.vwO, Entry.toO, toOf, St.res, step, stepE, stepPick, stepG, stepO, stepC, eff, look, rem, St.put, St.setMem, setMems, St.after, St.eval, cst, val1, okNew, newHs, allHs, rdOf, Reg.item, Reg.next, Reg.skip, slotOf, entryRow, effUn, effPick, ivs, rowOf, allParts, effBuildSlice, subPre, argOf, resA, resV, nodupB, argsPre, argOk, callWr, effCall, RC.flat, effBuildSl, callGo, effCall2, wrHs, disj, AV.hs, A0.hs, Entry.hs, RC.sz, hA, initFr, initMem, initSt, resOf, resAll, compEq, compsEq, rowHs, outHds, outsEq, shapeOk, finOk, comps, A0.norm, specOf, t_int, ts_int, Option.getD_some, Nat.reduceBEq, List.map_cons, List.map_nil, List.getElem?_cons_zero, List.getElem?_cons_succ, Option.map_some, Option.bind_some, Nat.zero_add, Nat.reduceAdd, true_and, and_true, List.length_cons, List.length_nil, List.all_cons, List.all_nil, Bool.and_true, Bool.true_and, Bool.or_false, Bool.not_false, List.append_nil, List.nil_append, List.cons_append, List.flatMap_cons, List.flatMap_nil, List.contains_cons, List.contains_nil, List.filter_cons, List.filter_nil, beq_self_eq_true, RC.ints.injEq, ble_dec, Nat.reduceLeDiff, decide_true, and_self, List.toList_toArray, Bool.false_eq_true, reduceIte, Try.f18, cAre, fAre, h1]
    (repeat' refine And.intro ?_ ?_) <;> first | assumption | kernel_rfl | (simp; done)
  | true =>
    cases h2 : decide (n < 1) with
    | true =>
      have e : prfB n = false := by unfold prfB; rw [h1, h2]; rfl
      rw [e]
      simp only [↓cond_to_ite, ↓reduceIte, vc, out, finD, St.drop, vwAt, Entry.vwO, RC.vwO, Entry.toO, toOf, St.res, step, stepE, stepPick, stepG, stepO, stepC, eff, look, rem, St.put, St.setMem, setMems, St.after, St.eval, cst, val1, okNew, newHs, allHs, rdOf, Reg.item, Reg.next, slotOf, entryRow, binInt, effBin, effUn, effPick, ivs, rowOf, allParts, effBuildSlice, subPre, argOf, resA, resV, nodupB, argsPre, argOk, callWr, effCall, RC.flat, effBuildSl, callGo, effBin2, effCall2, wrHs, disj, AV.hs, A0.hs, Entry.hs, RC.sz, hA, initFr, initMem, initSt, resOf, resAll, compEq, compsEq, rowHs, outHds, outsEq, shapeOk, finOk, comps, A0.norm, specOf, t_int, ts_int, Option.getD_some, Nat.reduceBEq, List.map_cons, List.map_nil, List.getElem?_cons_zero, List.getElem?_cons_succ, Option.map_some, Option.bind_some, Nat.zero_add, Nat.reduceAdd, true_and, and_true, List.length_cons, List.length_nil, List.all_cons, List.all_nil, Bool.and_true, Bool.true_and, Bool.or_false, Bool.not_true, Bool.not_false, List.append_nil, List.nil_append, List.cons_append, List.flatMap_cons, List.flatMap_nil, List.contains_cons, List.contains_nil, List.filter_cons, List.filter_nil, beq_self_eq_true, RC.ints.injEq, ble_dec, Nat.reduceLeDiff, decide_true, and_self, List.toList_toArray, Bool.false_eq_true, reduceIte, Try.f18, cAre, fAre, h1, h2]
      (repeat' refine And.intro ?_ ?_) <;> first | assumption | kernel_rfl | (simp; done)
    | false =>
      have e : prfB n = true := by unfold prfB; rw [h1, h2]; rfl
      have hn := areB_iff.1 h1
      have h3 := of_decide_eq_false h2
      have hb : 1 ≤ n ∧ n ≤ 1000000000 := by omega
      rw [e]
      simp only [↓cond_to_ite, ↓reduceIte, vc, out, finD, St.drop, vwAt, Entry.vwO, RC.vwO, Entry.toO, toOf, St.res, step, stepE, stepPick, stepG, stepO, stepC, eff, look, rem, St.put, St.setMem, setMems, St.after, St.eval, cst, val1, okNew, newHs, allHs, rdOf, Reg.item, Reg.next, slotOf, entryRow, binInt, effBin, effUn, effPick, ivs, rowOf, allParts, effBuildSlice, subPre, argOf, resA, resV, nodupB, argsPre, argOk, callWr, effCall, RC.flat, effBuildSl, callGo, calleeHs, effBin2, effCall2, wrHs, disj, AV.hs, A0.hs, Entry.hs, RC.sz, hA, initFr, initMem, initSt, resOf, resAll, compEq, compsEq, rowHs, outHds, outsEq, shapeOk, finOk, comps, A0.norm, specOf, t_int, ts_int, Option.getD_some, Nat.reduceBEq, List.map_cons, List.map_nil, List.getElem?_cons_zero, List.getElem?_cons_succ, Option.map_some, Option.bind_some, Nat.zero_add, Nat.reduceAdd, true_and, and_true, List.length_cons, List.length_nil, List.all_cons, List.all_nil, Bool.and_true, Bool.true_and, Bool.or_false, Bool.not_true, Bool.not_false, List.append_nil, List.nil_append, List.cons_append, List.flatMap_cons, List.flatMap_nil, List.contains_cons, List.contains_nil, List.filter_cons, List.filter_nil, beq_self_eq_true, RC.ints.injEq, ble_dec, Nat.reduceLeDiff, decide_true, and_self, List.toList_toArray, Bool.false_eq_true, reduceIte, Try.f18, cAre, fAre, cFactors, fFactors, h1, h2]
      (repeat' refine And.intro ?_ ?_) <;> first | assumption | kernel_rfl | exact hb.1 | exact hb.2 | (simp; done)
abbrev fPIn : Nat := 12
def cPIn : Ctr
  | [.rw (.ints e l), .i k] => some ⟨l.length ≤ 1000000000, .one (.b (decide (k ∈ l))), []⟩
  | _ => none
theorem okPIn : CtrOk Try.prog fPIn cPIn := by
  have hsp : SpecOk Try.prog (specOf []) := SpecOk.nil
  refine ctr_of (fn := Try.f12) mixed tab_ok hsp Try.func12 (by kernel_rfl) (by kernel_rfl) fun args ce h => ?_
  clear hsp
  unfold cPIn at h
  split at h
  case h_2 => cases h
  rename_i e l k
  simp only [Option.some.injEq] at h
  subst h
  refine ⟨by rfl, fun hp => ⟨1, 1000, ?_⟩⟩
  have hp' : l.length ≤ 1000000000 := hp
  simp only [↓cond_to_ite, ↓reduceIte, vc, out, Entry.toO, toOf, St.res, step, stepE, stepPick, stepO, eff, look, rem, St.put, setMems, St.after, St.eval, cst, val1, okNew, Reg.item, Reg.next, entryRow, elemSz, lenOf, RC.flat, lenOf2, RC.len, hA, initFr, initMem, initSt, t_int, ts_int, Option.getD_some, Nat.reduceBEq, List.map_nil, Option.map_some, Nat.zero_add, Nat.add_zero, true_and, List.any_nil, beq_self_eq_true, List.toList_toArray, Option.isSome_some, Bool.false_eq_true, reduceIte, Try.f12]
  refine lp_intro (fun n : Nat => ⟨[(1, .one (.i k)), (7, .one (.row 1000000)), (8, .one (.i (l.length : Int))), (9, .one (.i (n : Int)))], [(1000000, .ro (.ints e l))]⟩)
    (fun n => n ≤ l.length ∧ k ∉ l.take n) (fun n => l.length - n) 0 [] ⟨Nat.zero_le _, by simp⟩ (by simp only [Cov, covOk, covFr, covMem, entEq, rn, nodupB, A0.ren, AV.ren, Entry.ren, Entry.norm, look, St.eval, A0.norm, AV.norm, Option.getD_some, Option.getD_none, cond_true, cond_false, Nat.reduceBEq, List.map_cons, List.map_nil, true_and, and_true, List.all_nil, Bool.and_true, Bool.not_false, List.contains_nil, beq_self_eq_true, A0.i.injEq, AV.one.injEq, and_self]; simp) fun n hn J hJ => ⟨1000, ?_⟩
  obtain ⟨hn, ht⟩ := hn
  by_cases g : n < l.length
  · have g1 : decide ((n : Int) < (l.length : Int)) = true := decide_eq_true (Int.ofNat_lt.2 g)
    have hw := wsucc g (Nat.le_trans hp' (by decide))
    have hmem : l.getD n 0 ∈ l := by simp [List.getD_eq_getElem?_getD, g]
    have htk : l.take (n + 1) = l.take n ++ [l.getD n 0] := by rw [List.take_add_one]; simp [List.getD_eq_getElem?_getD, g]
    have hr : (0 ≤ (n : Int) ∧ (n : Int) < (l.length : Int)) := ⟨Int.natCast_nonneg n, Int.ofNat_lt.2 g⟩
    obtain ⟨x, hx⟩ : ∃ x, l.getD n 0 = x := ⟨_, rfl⟩
    rw [hx] at hmem htk
    by_cases c : x = k
    · have c1 : (x == k) = true := beq_iff_eq.2 c
      have e : decide (k ∈ l) = true := decide_eq_true (c ▸ hmem)
      rw [e]
      simp only [↓cond_to_ite, ↓reduceIte, vc, out, finD, St.drop, vwAt, Entry.vwO, Entry.toO, toOf, St.res, step, stepE, stepPick, stepO, stepC, eff, look, rem, St.put, setMems, St.after, St.eval, cst, val1, okNew, Reg.item, Reg.next, entryRow, loadR, effLoad, binInt, effBin, idxS, effIndex, nodupB, argOk, RC.flat, effLoad2, effLoad3, effIndex2, effBin2, disj, RC.sz, RC.len, resOf, resAll, compEq, compsEq, rowHs, outHds, outsEq, shapeOk, finOk, comps, A0.norm, t_int, ts_int, Option.getD_some, Nat.reduceBEq, Option.map_some, Nat.zero_add, true_and, and_true, List.length_cons, List.length_nil, List.all_nil, Bool.and_true, Bool.not_false, List.contains_nil, beq_self_eq_true, and_self, Bool.false_eq_true, reduceIte, g1, Int.toNat_natCast, hx, c1]
      exact ⟨hr, g⟩
    · have c1 : (x == k) = false := beq_eq_false_iff_ne.2 c
      have h2 : k ∉ l.take (n + 1) := by
        rw [htk, List.mem_append, List.mem_singleton]
        rintro (h | h)
        · exact ht h
        · exact c h.symm
      simp only [↓cond_to_ite, ↓reduceIte, vc, out, Entry.toO, toOf, St.res, step, stepE, stepPick, stepO, stepC, eff, look, rem, St.put, setMems, St.after, St.eval, cst, val1, okNew, Reg.item, Reg.next, entryRow, loadR, effLoad, binInt, effBin, idxS, effIndex, RC.flat, effLoad2, effLoad3, effIndex2, effBin2, RC.sz, RC.len, t_int, ts_int, Option.getD_some, Nat.reduceBEq, true_and, Bool.and_true, beq_self_eq_true, Bool.false_eq_true, reduceIte, g1, Int.toNat_natCast, hx, c1]
      exact ⟨hr, g, hJ _ (n + 1) [] ⟨g, h2⟩ (Nat.sub_succ_lt_self _ _ g) (by simp only [Cov, covOk, covFr, covMem, entEq, rn, nodupB, A0.ren, AV.ren, Entry.ren, Entry.norm, look, St.eval, A0.norm, AV.norm, Option.getD_some, Option.getD_none, cond_true, cond_false, Nat.reduceBEq, List.map_cons, List.map_nil, List.all_nil, Bool.and_true, Bool.not_false, List.contains_nil, beq_self_eq_true, and_self, hw])⟩
  · have g1 : decide ((n : Int) < (l.length : Int)) = false := decide_eq_false (fun h => g (Int.ofNat_lt.1 h))
    have e : decide (k ∈ l) = false := decide_eq_false (by rw [List.take_of_length_le (by omega)] at ht; exact ht)
    rw [e]
    simp only [↓cond_to_ite, ↓reduceIte, vc, out, finD, St.drop, vwAt, Entry.vwO, Entry.toO, toOf, St.res, step, stepE, stepPick, stepO, stepC, eff, look, rem, St.put, setMems, St.after, St.eval, cst, val1, okNew, Reg.item, Reg.next, binInt, effBin, nodupB, argOk, effBin2, disj, resOf, resAll, compEq, compsEq, rowHs, outHds, outsEq, shapeOk, finOk, comps, A0.norm, Option.getD_some, Nat.reduceBEq, Option.map_some, Nat.zero_add, List.length_cons, List.length_nil, List.all_nil, Bool.and_true, Bool.not_false, List.contains_nil, beq_self_eq_true, and_self, Bool.false_eq_true, reduceIte, g1]
abbrev fPSameP : Nat := 16
def cPSameP : Ctr
  | [.rw (.recs e 2 l), .rw (.recs e2 2 m)] => some ⟨l = m ∧ l.length ≤ 1000000000, .one (.b true), []⟩
  | _ => none
theorem okPSameP : CtrOk Try.prog fPSameP cPSameP := by
  have hsp : SpecOk Try.prog (specOf []) := SpecOk.nil
  refine ctr_of (fn := Try.f16) mixed tab_ok hsp Try.func16 (by kernel_rfl) (by kernel_rfl) fun args ce h => ?_
  clear hsp
  unfold cPSameP at h
  split at h
  case h_2 => cases h
  rename_i e l e2 m
  simp only [Option.some.injEq] at h
  subst h
  refine ⟨by rfl, fun hp => ⟨1, 1000, ?_⟩⟩
  obtain ⟨rfl, hl⟩ : l = m ∧ l.length ≤ 1000000000 := hp
  have z0 : ((l.length : Int) != (l.length : Int)) = false := by simp
  simp only [↓cond_to_ite, ↓reduceIte, vc, out, Entry.toO, toOf, St.res, step, stepE, stepPick, stepO, stepC, eff, look, rem, St.put, setMems, St.after, St.eval, cst, val1, okNew, Reg.item, Reg.next, entryRow, binInt, effBin, elemSz, lenOf, RC.flat, lenOf2, effBin2, RC.len, hA, initFr, initMem, initSt, t_implPoint, ts_implPoint, Option.getD_some, Nat.reduceBEq, List.map_nil, Option.map_some, Nat.zero_add, Nat.add_zero, Nat.reduceAdd, true_and, List.any_nil, beq_self_eq_true, List.toList_toArray, Option.isSome_some, Bool.false_eq_true, reduceIte, Try.f16, z0]
  refine lp_intro (fun n : Nat => ⟨[(0, .one (.row 1000000)), (1, .one (.row 1000001)), (12, .one (.i (l.length : Int))), (13, .one (.i (n : Int)))], [(1000000, .ro (.recs e 2 l)), (1000001, .ro (.recs e2 2 l))]⟩)
    (fun n => n ≤ l.length) (fun n => l.length - n) 0 [] (Nat.zero_le _) (by simp only [Cov, covOk, covFr, covMem, entEq, rn, nodupB, A0.ren, AV.ren, Entry.ren, Entry.norm, look, St.eval, A0.norm, AV.norm, Option.getD_some, Option.getD_none, cond_true, cond_false, Nat.reduceBEq, List.map_cons, List.map_nil, true_and, and_true, List.all_nil, Bool.and_true, Bool.or_false, Bool.not_false, List.contains_cons, List.contains_nil, beq_self_eq_true, A0.i.injEq, AV.one.injEq, and_self]; simp) fun n hn J hJ => ⟨1000, ?_⟩
  by_cases g : n < l.length
  · have g1 : decide ((n : Int) < (l.length : Int)) = true := decide_eq_true (Int.ofNat_lt.2 g)
    have hw := wsucc g (Nat.le_trans hl (by decide))
    have hr : (0 ≤ (n : Int) ∧ (n : Int) < (l.length : Int)) := ⟨Int.natCast_nonneg n, Int.ofNat_lt.2 g⟩
    have c1 : ∀ x : Int, (x == x) = true := fun x => beq_self_eq_true x
    have c2 : ∀ x : Int, (x != x) = false := fun x => bne_self_eq_false x
    simp only [↓cond_to_ite, ↓reduceIte, vc, out, Entry.toO, toOf, St.res, step, stepE, stepPick, stepO, stepC, eff, look, rem, St.put, setMems, St.after, St.eval, cst, val1, okNew, allHs, rdOf, outHs, Reg.item, Reg.next, entryRow, loadR, effLoad, binInt, eqI, effBin, idxS, effIndex, RC.flat, effLoad2, inHs, effLoad3, effIndex2, effBin2, wrHs, AV.hs, A0.hs, Entry.hs, RC.sz, RC.len, t_implPoint, ts_implPoint, Option.getD_some, Nat.reduceBEq, List.map_cons, List.map_nil, Nat.zero_add, Nat.reduceAdd, true_and, List.replicate_succ, List.replicate_zero, List.length_cons, List.length_nil, Bool.and_true, Bool.not_true, List.append_nil, List.nil_append, List.cons_append, List.flatMap_cons, List.flatMap_nil, beq_self_eq_true, Bool.false_eq_true, reduceIte, flatB_2, List.headD_cons, List.tail_cons, g1, Int.toNat_natCast, rng2]
    refine ⟨hr, g, hr, g, ?_⟩
    (repeat' refine And.intro ?_ ?_) <;> first | assumption | kernel_rfl | exact hJ _ (n + 1) [] g (Nat.sub_succ_lt_self _ _ g) (by simp only [Cov, covOk, covFr, covMem, entEq, rn, nodupB, A0.ren, AV.ren, Entry.ren, Entry.norm, look, St.eval, A0.norm, AV.norm, Option.getD_some, Option.getD_none, cond_true, cond_false, Nat.reduceBEq, List.map_cons, List.map_nil, List.all_nil, Bool.and_true, Bool.or_false, Bool.not_false, List.contains_cons, List.contains_nil, beq_self_eq_true, and_self, hw])
  · have g1 : decide ((n : Int) < (l.length : Int)) = false := decide_eq_false (fun h => g (Int.ofNat_lt.1 h))
    simp only [↓cond_to_ite, ↓reduceIte, vc, out, finD, St.drop, vwAt, Entry.vwO, Entry.toO, toOf, St.res, step, stepE, stepPick, stepO, stepC, eff, look, rem, St.put, setMems, St.after, St.eval, cst, val1, okNew, Reg.item, Reg.next, binInt, effBin, nodupB, argOk, effBin2, disj, resOf, resAll, compEq, compsEq, rowHs, outHds, outsEq, shapeOk, finOk, comps, A0.norm, Option.getD_some, Nat.reduceBEq, Option.map_some, Nat.zero_add, List.length_cons, List.length_nil, List.all_nil, Bool.and_true, Bool.not_false, List.contains_nil, beq_self_eq_true, and_self, Bool.false_eq_true, reduceIte, g1]
/-! ### residues of the values -/
/-- a residue that one of the first k numbers hits -/
def rsH (n k s : Nat) : Bool := (List.range k).any fun x => decide (x * x % (4 * n) = s) || decide ((x * x + n) % (4 * n) = s)
def rsT (n k : Nat) : List Bool := (List.range (4 * n)).map (rsH n k)
theorem rsH_succ (n k s : Nat) : rsH n (k + 1) s = (rsH n k s || (decide (k * k % (4 * n) = s) || decide ((k * k + n) % (4 * n) = s))) := by
  unfold rsH
  rw [List.range_succ, List.any_append]
  simp
theorem rsT_len (n k : Nat) : (rsT n k).length = 4 * n := by simp [rsT]
theorem rsT_0 (n : Nat) : rsT n 0 = List.replicate (4 * n) false := by
  unfold rsT
  refine List.ext_getElem (by simp) fun i h1 h2 => ?_
  simp [rsH]
theorem rsT_set (n k : Nat) : ((rsT n k).set (k * k % (4 * n)) true).set ((k * k + n) % (4 * n)) true = rsT n (k + 1) := by
  refine List.ext_getElem (by simp [rsT]) fun i h1 h2 => ?_
  rw [List.getElem_set, List.getElem_set]
  have e : (rsT n k)[i]'(by simpa [rsT] using h2) = rsH n k i := by simp [rsT]
  have e2 : (rsT n (k + 1))[i]'h2 = rsH n (k + 1) i := by simp [rsT]
  rw [e, e2, rsH_succ]
  by_cases c1 : (k * k + n) % (4 * n) = i <;> by_cases c2 : k * k % (4 * n) = i <;> simp [c1, c2]
theorem rsT_get {n k i : Nat} (h : i < 4 * n) : (rsT n k).getD i false = rsH n k i := by
  rw [List.getD_eq_getElem?_getD, List.getElem?_eq_getElem (by rw [rsT_len]; exact h)]
  simp [rsT]
def rsG (n s : Nat) : Bool := rsH n (4 * n) s && (gcdI (s : Int) ((4 * n : Nat) : Int) == 1)
def rsL (n j : Nat) : List Int := ((List.range j).filter (rsG n)).map fun s : Nat => (s : Int)
theorem rsL_yes {n j : Nat} (h : rsG n j = true) : rsL n (j + 1) = rsL n j ++ [(j : Int)] := by
  unfold rsL
  rw [List.range_succ, List.filter_append, List.map_append]
  simp [h]
theorem rsL_no {n j : Nat} (h : rsG n j = false) : rsL n (j + 1) = rsL n j := by
  unfold rsL
  rw [List.range_succ, List.filter_append, List.map_append]
  simp [h]
theorem rsL_len (n j : Nat) : (rsL n j).length ≤ j := by
  unfold rsL
  rw [List.length_map]
  have := List.length_filter_le (rsG n) (List.range j)
  rw [List.length_range] at this
  exact this
theorem rsL_mem {n j s : Nat} : (s : Int) ∈ rsL n j ↔ s < j ∧ rsG n s = true := by
  unfold rsL
  rw [List.mem_map]
  constructor
  · rintro ⟨t, h1, h2⟩
    have : t = s := by omega
    subst this
    rw [List.mem_filter, List.mem_range] at h1
    exact h1
  · rintro ⟨h1, h2⟩
    exact ⟨s, List.mem_filter.2 ⟨List.mem_range.2 h1, h2⟩, rfl⟩
def rsO (n : Int) : List Int := onL (facB n) (rsL n.toNat (4 * n.toNat))
theorem rs_idx {n k : Nat} (hn : 1 ≤ n ∧ n ≤ 500) (hk : k < 4 * n) :
    (wrap64 ((k : Int) * k)).tmod (wrap64 (4 * (n : Int))) = ((k * k % (4 * n) : Nat) : Int) ∧ (wrap64 (wrap64 ((k : Int) * k) + n)).tmod (wrap64 (4 * (n : Int))) = (((k * k + n) % (4 * n) : Nat) : Int) ∧ wrap64 (4 * (n : Int)) = ((4 * n : Nat) : Int) := by
  have h1 : k * k ≤ 2000 * 2000 := Nat.mul_le_mul (by omega) (by omega)
  have e0 : ((k : Int) * k) = ((k * k : Nat) : Int) := (Int.natCast_mul k k).symm
  rw [e0]
  generalize k * k = K at *
  have e1 : wrap64 ((K : Nat) : Int) = (K : Int) := wrap_id (by omega) (by omega)
  have e2 : wrap64 (4 * (n : Int)) = ((4 * n : Nat) : Int) := by rw [wrap_id (by omega) (by omega)]; omega
  have e3 : wrap64 ((K : Int) + n) = ((K + n : Nat) : Int) := by rw [wrap_id (by omega) (by omega)]; omega
  rw [e1, e2, e3]
  refine ⟨?_, ?_, rfl⟩
  · rw [Int.tmod_eq_emod_of_nonneg (Int.natCast_nonneg _), ← Int.natCast_emod]
  · rw [Int.tmod_eq_emod_of_nonneg (Int.natCast_nonneg _), ← Int.natCast_emod]
abbrev fPrincRes : Nat := 10
def cPrincRes : Ctr
  | [.i n] => some ⟨True, .tup [.rw (.ints 3 (rsO n)), .b (facB n)], []⟩
  | _ => none
theorem okPrincRes : CtrOk Try.prog fPrincRes cPrincRes := by
  have hsp : SpecOk Try.prog (specOf [(fIsFactor, cIsFactor), (fGcd, cGcd)]) := (SpecOk.cons okIsFactor (SpecOk.cons okGcd SpecOk.nil))
  refine ctr_of (fn := Try.f10) mixed tab_ok hsp Try.func10 (by kernel_rfl) (by kernel_rfl) fun args ce h => ?_
  clear hsp
  unfold cPrincRes at h
  split at h
  case h_2 => cases h
  rename_i n
  simp only [Option.some.injEq] at h
  subst h
  refine ⟨by rfl, fun hp => ⟨2, 1000, ?_⟩⟩
  cases h1 : facB n with
  | false =>
    have e : rsO n = [] := by unfold rsO; rw [h1]; rfl
    rw [e]
    simp only [↓cond_to_ite, ↓reduceIte, vc, out, finD, St.drop, vwAt, Entry.vwO, RC.vwO, Entry.toO, toOf, St.res, step, stepE, stepPick, stepO, stepC, eff, look, rem, St.put, St.setMem, setMems, St.after, St.eval, cst, val1, okNew, newHs, allHs, rdOf, Reg.item, Reg.next, effUn, ivs, rowOf, allParts, effBuildSlice, subPre, argOf, resA, resV, nodupB, argsPre, argOk, callWr, effCall, RC.flat, effBuildSl, callGo, effCall2, wrHs, disj, AV.hs, A0.hs, Entry.hs, RC.sz, hA, initFr, initMem, initSt, resOf, resAll, compEq, compsEq, rowHs, outHds, outsEq, shapeOk, finOk, comps, A0.norm, specOf, t_int, ts_int, Option.getD_some, Nat.reduceBEq, List.map_cons, List.map_nil, Option.map_some, Nat.zero_add, Nat.reduceAdd, true_and, and_true, List.length_cons, List.length_nil, List.all_cons, List.all_nil, Bool.and_true, Bool.true_and, Bool.not_false, List.append_nil, List.flatMap_cons, List.flatMap_nil, List.contains_nil, List.filter_cons, List.filter_nil, beq_self_eq_true, ble_dec, Nat.reduceLeDiff, decide_true, and_self, List.toList_toArray, Bool.false_eq_true, reduceIte, Try.f10, cIsFactor, fIsFactor, h1]
    (repeat' refine And.intro ?_ ?_) <;> first | assumption | kernel_rfl | (simp; done)
  | true =>
    have hn0 := facB_in h1
    obtain ⟨n, rfl⟩ : ∃ k : Nat, n = k := ⟨n.toNat, by omega⟩
    have hn : 1 ≤ n ∧ n ≤ 500 := by omega
    have e : rsO (n : Int) = rsL n (4 * n) := by unfold rsO; rw [h1, Int.toNat_natCast]; rfl
    rw [e]
    have w4 : wrap64 (4 * (n : Int)) = ((4 * n : Nat) : Int) := by rw [wrap_id (by omega) (by omega)]; omega
    have z0 : ((4 * n : Nat) : Int) ≠ 0 := by omega
    have h4n : 4 * n ≤ 2000 := by omega
    have hq1 : (0 : Int) ≤ ((4 * n : Nat) : Int) := Int.natCast_nonneg _
    have hq2 : ((4 * n : Nat) : Int) ≤ 100000000000 := by omega
    have hq3 : 4 * n ≤ 100000000000 := by omega
    have hlast := rsL_len n (4 * n)
    simp only [↓cond_to_ite, ↓reduceIte, vc, out, Entry.toO, toOf, St.res, effMakeSl, step, stepE, stepPick, stepO, stepC, eff, look, rem, St.put, St.setMem, setMems, St.after, St.eval, cst, val1, okNew, newHs, allHs, rdOf, Reg.item, Reg.next, binInt, effBin, effUn, zeroRow, effMakeSlice, subPre, argOf, resA, resV, argsPre, argOk, callWr, effCall, callGo, effBin2, effCall2, wrHs, disj, AV.hs, A0.hs, Entry.hs, hA, initFr, initMem, initSt, specOf, t_bool, ts_bool, Option.getD_some, Nat.reduceBEq, List.map_cons, List.map_nil, true_and, List.all_cons, List.all_nil, Bool.and_true, Bool.not_true, Bool.not_false, List.append_nil, List.flatMap_cons, List.flatMap_nil, List.contains_nil, List.filter_cons, List.filter_nil, beq_self_eq_true, and_self, List.toList_toArray, Bool.false_eq_true, reduceIte, Try.f10, cIsFactor, fIsFactor, h1, w4, Int.toNat_natCast]
    refine ⟨⟨hq1, by omega⟩, ?_⟩
    rw [← rsT_0]
    refine lp_intro (fun k : Nat => ⟨[(0, .one (.i (n : Int))), (4, .one (.row 15)), (5, .one (.i (k : Int)))], [(15, .row (.bools 4 (rsT n k)))]⟩)
      (fun k => k ≤ 4 * n) (fun k => 4 * n - k) 0 [] (Nat.zero_le _) (by simp only [Cov, covOk, covFr, covMem, entEq, rn, nodupB, A0.ren, AV.ren, Entry.ren, Entry.norm, look, St.eval, A0.norm, AV.norm, Option.getD_some, Option.getD_none, cond_true, cond_false, Nat.reduceBEq, List.map_cons, List.map_nil, true_and, and_true, List.all_nil, Bool.and_true, Bool.not_false, List.contains_nil, beq_self_eq_true, A0.i.injEq, AV.one.injEq, and_self]; simp) fun k hk J hJ => ⟨1000, ?_⟩
    by_cases g : k < 4 * n
    · have g1 : decide ((k : Int) < ((4 * n : Nat) : Int)) = true := decide_eq_true (Int.ofNat_lt.2 g)
      have hw := wsucc g (Nat.le_trans h4n (by decide))
      obtain ⟨i1, i2, -⟩ := rs_idx hn g
      rw [w4] at i1 i2
      have m1 : k * k % (4 * n) < 4 * n := Nat.mod_lt _ (by omega)
      have m2 : (k * k + n) % (4 * n) < 4 * n := Nat.mod_lt _ (by omega)
      have hset := rsT_set n k
      have hl0 := rsT_len n k
      generalize k * k % (4 * n) = I1 at *
      generalize (k * k + n) % (4 * n) = I2 at *
      have r1 : (0 ≤ (I1 : Int) ∧ (I1 : Int) < ((4 * n : Nat) : Int)) := ⟨Int.natCast_nonneg _, Int.ofNat_lt.2 m1⟩
      have r2 : (0 ≤ (I2 : Int) ∧ (I2 : Int) < ((4 * n : Nat) : Int)) := ⟨Int.natCast_nonneg _, Int.ofNat_lt.2 m2⟩
      simp only [↓cond_to_ite, ↓reduceIte, vc, out, Entry.toO, toOf, St.res, step, stepE, stepPick, stepO, stepC, eff, look, rem, St.put, St.setMem, setMems, St.after, St.eval, cst, val1, okNew, newHs, allHs, rdOf, Reg.item, Reg.next, entryRow, storeR, szOk, storeTo, effStore, binInt, effBin, idxS, effIndex, RC.flat, effStore2, effStore3, effIndex2, effBin2, wrHs, disj, AV.hs, A0.hs, Entry.hs, RC.sz, RC.len, t_bool, ts_bool, Option.getD_some, Nat.reduceBEq, List.map_cons, List.map_nil, true_and, List.all_nil, Bool.and_true, Bool.or_false, Bool.not_true, List.append_nil, List.nil_append, List.cons_append, List.flatMap_cons, List.flatMap_nil, List.contains_cons, List.contains_nil, List.filter_cons, List.filter_nil, beq_self_eq_true, Bool.false_eq_true, reduceIte, w4, g1, i1, i2, Int.toNat_natCast, hl0, List.length_set]
      exact ⟨z0, r1, m1, z0, r2, m2, hJ _ (k + 1) [] g (Nat.sub_succ_lt_self _ _ g) (by simp only [Cov, covOk, covFr, covMem, entEq, rn, nodupB, A0.ren, AV.ren, Entry.ren, Entry.norm, look, St.eval, A0.norm, AV.norm, Option.getD_some, Option.getD_none, cond_true, cond_false, Nat.reduceBEq, List.map_cons, List.map_nil, List.all_nil, Bool.and_true, Bool.not_false, List.contains_nil, beq_self_eq_true, and_self, hw, hset])⟩
    · obtain rfl : k = 4 * n := Nat.le_antisymm hk (Nat.le_of_not_lt g)
      have g1 : decide (((4 * n : Nat) : Int) < ((4 * n : Nat) : Int)) = false := decide_eq_false (Int.lt_irrefl _)
      have hl0 := rsT_len n (4 * n)
      have hget := fun j (h : j < 4 * n) => rsT_get (n := n) (k := 4 * n) h
      generalize rsT n (4 * n) = T at *
      simp only [↓cond_to_ite, ↓reduceIte, vc, out, Entry.toO, toOf, St.res, step, stepE, stepPick, stepO, stepC, eff, look, rem, St.put, St.setMem, setMems, St.after, St.eval, cst, val1, okNew, newHs, allHs, rdOf, Reg.item, Reg.next, entryRow, binInt, effBin, ivs, rowOf, allParts, effBuildSlice, elemSz, lenOf, RC.flat, effBuildSl, lenOf2, effBin2, wrHs, disj, AV.hs, A0.hs, Entry.hs, RC.sz, RC.len, t_int, t_bool, ts_int, ts_bool, Option.getD_some, Nat.reduceBEq, List.map_cons, List.map_nil, Option.map_some, true_and, List.all_cons, List.all_nil, Bool.and_true, Bool.or_false, Bool.not_false, List.append_nil, List.nil_append, List.cons_append, List.flatMap_cons, List.flatMap_nil, List.contains_cons, List.contains_nil, List.filter_cons, List.filter_nil, beq_self_eq_true, ble_dec, Nat.reduceLeDiff, decide_true, Option.isSome_some, Bool.false_eq_true, reduceIte, w4, g1, hl0]
      refine lp_intro (fun j : Nat => ⟨[(0, .one (.i (n : Int))), (6, .one (.row 40)), (41, .one (.row 15)), (42, .one (.i ((4 * n : Nat) : Int))), (43, .one (.i (j : Int)))], [(15, .row (.bools 4 T)), (40, .row (.ints 3 (rsL n j)))]⟩)
        (fun j => j ≤ 4 * n) (fun j => 4 * n - j) 0 [] (Nat.zero_le _) (by simp only [Cov, covOk, covFr, covMem, entEq, rn, nodupB, A0.ren, AV.ren, Entry.ren, Entry.norm, look, St.eval, A0.norm, AV.norm, Option.getD_some, Option.getD_none, cond_true, cond_false, Nat.reduceBEq, List.map_cons, List.map_nil, true_and, and_true, List.all_nil, Bool.and_true, Bool.or_false, Bool.not_false, List.contains_cons, List.contains_nil, beq_self_eq_true, A0.i.injEq, AV.one.injEq]; simp [rsL]) fun j hj J2 hJ2 => ⟨1000, ?_⟩
      have hlj := rsL_len n j
      by_cases g2 : j < 4 * n
      · have g3 : decide ((j : Int) < ((4 * n : Nat) : Int)) = true := decide_eq_true (Int.ofNat_lt.2 g2)
        have hw := wsucc g2 (Nat.le_trans h4n (by decide))
        have hb := hget j g2
        have r1 : (0 ≤ (j : Int) ∧ (j : Int) < ((4 * n : Nat) : Int)) := ⟨Int.natCast_nonneg _, Int.ofNat_lt.2 g2⟩
        cases c1 : rsH n (4 * n) j with
        | false =>
          have hno := rsL_no (n := n) (j := j) (by unfold rsG; rw [c1]; rfl)
          rw [c1] at hb
          simp only [↓cond_to_ite, ↓reduceIte, vc, out, Entry.toO, toOf, St.res, step, stepE, stepPick, stepG, stepO, stepC, eff, look, rem, St.put, setMems, St.after, St.eval, cst, val1, okNew, Reg.item, Reg.next, Reg.skip, slotOf, entryRow, loadR, effLoad, binInt, effBin, effPick, idxS, effIndex, RC.flat, effLoad2, effLoad3, effIndex2, effBin2, RC.sz, RC.len, t_bool, ts_bool, Option.getD_some, Nat.reduceBEq, List.getElem?_cons_zero, List.getElem?_cons_succ, Option.bind_some, true_and, Bool.and_true, beq_self_eq_true, Bool.false_eq_true, reduceIte, g3, Int.toNat_natCast, hl0, hb]
          (repeat' refine And.intro ?_ ?_) <;> first | assumption | kernel_rfl | exact r1.1 | exact r1.2 | exact hJ2 _ (j + 1) [] g2 (Nat.sub_succ_lt_self _ _ g2) (by simp only [Cov, covOk, covFr, covMem, entEq, rn, nodupB, A0.ren, AV.ren, Entry.ren, Entry.norm, look, St.eval, A0.norm, AV.norm, Option.getD_some, Option.getD_none, cond_true, cond_false, Nat.reduceBEq, List.map_cons, List.map_nil, List.all_nil, Bool.and_true, Bool.or_false, Bool.not_false, List.contains_cons, List.contains_nil, beq_self_eq_true, and_self, hw, hno])
        | true =>
          rw [c1] at hb
          cases c2 : (gcdI (j : Int) ((4 * n : Nat) : Int) == 1) with
          | false =>
            have hno := rsL_no (n := n) (j := j) (by unfold rsG; rw [c1, c2]; rfl)
            simp only [↓cond_to_ite, ↓reduceIte, vc, out, Entry.toO, toOf, St.res, step, stepE, stepPick, stepG, stepO, stepC, eff, look, rem, St.put, setMems, St.after, St.eval, cst, val1, okNew, Reg.item, Reg.next, slotOf, entryRow, loadR, effLoad, binInt, effBin, effPick, idxS, effIndex, subPre, argOf, resA, resV, argsPre, argOk, callWr, effCall, RC.flat, callGo, effLoad2, effLoad3, effIndex2, effBin2, effCall2, wrHs, disj, AV.hs, A0.hs, RC.sz, RC.len, specOf, t_bool, ts_bool, Option.getD_some, Nat.reduceBEq, List.map_cons, List.map_nil, List.getElem?_cons_zero, List.getElem?_cons_succ, Option.bind_some, true_and, List.all_cons, List.all_nil, Bool.and_true, Bool.not_false, List.append_nil, List.flatMap_cons, List.flatMap_nil, List.contains_nil, beq_self_eq_true, and_self, Bool.false_eq_true, reduceIte, cGcd, fGcd, w4, g3, Int.toNat_natCast, hl0, hb, c2]
            (repeat' refine And.intro ?_ ?_) <;> first | assumption | kernel_rfl | exact r1.1 | exact r1.2 | exact hJ2 _ (j + 1) [] g2 (Nat.sub_succ_lt_self _ _ g2) (by simp only [Cov, covOk, covFr, covMem, entEq, rn, nodupB, A0.ren, AV.ren, Entry.ren, Entry.norm, look, St.eval, A0.norm, AV.norm, Option.getD_some, Option.getD_none, cond_true, cond_false, Nat.reduceBEq, List.map_cons, List.map_nil, List.all_nil, Bool.and_true, Bool.or_false, Bool.not_false, List.contains_cons, List.contains_nil, beq_self_eq_true, and_self, hw, hno])
          | true =>
            have hyes := rsL_yes (n := n) (j := j) (by unfold rsG; rw [c1, c2]; rfl)
            have hla : (rsL n j ++ [(j : Int)]).length ≤ 100000000000 := by rw [List.length_append, List.length_singleton]; omega
            simp only [↓cond_to_ite, ↓reduceIte, vc, out, Entry.toO, toOf, St.res, step, stepE, stepPick, stepG, stepO, stepC, eff, look, rem, St.put, St.setMem, setMems, St.after, St.eval, cst, val1, okNew, newHs, allHs, rdOf, Reg.item, Reg.next, slotOf, entryRow, loadR, effLoad, binInt, effBin, effPick, ivs, rowOf, allParts, effBuildSlice, idxS, effIndex, readOf, subPre, maxRow, plainTI, appTo, effAppend, argOf, resA, resV, argsPre, argOk, callWr, effCall, RC.flat, effBuildSl, callGo, effLoad2, effAppend2, calleeHs, effLoad3, effIndex2, effBin2, effCall2, wrHs, disj, AV.hs, A0.hs, Entry.hs, RC.elem, RC.sz, RC.len, RC.app, specOf, t_int, t_bool, ts_int, ts_bool, Option.getD_some, Nat.reduceBEq, List.map_cons, List.map_nil, List.getElem?_cons_zero, List.getElem?_cons_succ, Option.map_some, Option.bind_some, Nat.zero_add, true_and, and_true, List.all_cons, List.all_nil, Bool.and_true, Bool.or_false, Bool.not_true, Bool.not_false, List.append_nil, List.nil_append, List.cons_append, List.flatMap_cons, List.flatMap_nil, List.contains_cons, List.contains_nil, List.filter_cons, List.filter_nil, beq_self_eq_true, ble_dec, blt_dec, Nat.reduceLeDiff, decide_true, and_self, Bool.false_eq_true, reduceIte, cGcd, fGcd, w4, g3, Int.toNat_natCast, hl0, hb, c2]
            (repeat' refine And.intro ?_ ?_) <;> first | assumption | kernel_rfl | exact r1.1 | exact r1.2 | exact hJ2 _ (j + 1) [(40, 59)] g2 (Nat.sub_succ_lt_self _ _ g2) (by simp only [Cov, covOk, covFr, covMem, entEq, rn, nodupB, A0.ren, AV.ren, Entry.ren, Entry.norm, look, St.eval, A0.norm, AV.norm, Option.getD_some, Option.getD_none, cond_true, cond_false, Nat.reduceBEq, List.map_cons, List.map_nil, List.all_nil, Bool.and_true, Bool.or_false, Bool.not_false, List.contains_cons, List.contains_nil, beq_self_eq_true, and_self, hw, hyes])
      · obtain rfl : j = 4 * n := Nat.le_antisymm hj (Nat.le_of_not_lt g2)
        simp only [↓cond_to_ite, ↓reduceIte, vc, out, finD, St.drop, vwAt, Entry.vwO, RC.vwO, Entry.toO, toOf, St.res, step, stepE, stepPick, stepO, stepC, eff, look, rem, St.put, setMems, St.after, St.eval, cst, val1, okNew, Reg.item, Reg.next, binInt, effBin, nodupB, argOk, RC.flat, effBin2, disj, resOf, resAll, compEq, compsEq, rowHs, outHds, outsEq, shapeOk, finOk, comps, A0.norm, Option.getD_some, Nat.reduceBEq, Option.map_some, Nat.zero_add, Nat.reduceAdd, true_and, and_true, List.length_cons, List.length_nil, List.all_cons, List.all_nil, Bool.and_true, Bool.true_and, Bool.not_false, List.contains_nil, beq_self_eq_true, and_self, Bool.false_eq_true, reduceIte, g1]
        (repeat' refine And.intro ?_ ?_) <;> first | assumption | kernel_rfl | (simp; done)
end Go.Proofs.Ytacomnelongbjab
