/-
  Contracts of SolutionsUpTo on both sides, and of its law. Conditions: none.
-/
import Derived.Test.YthjmjacniemfiabRt
namespace Go.Proofs.Ythjmjacniemfiab
open Go Go.RowKit
set_option maxRecDepth 100000
set_option linter.unusedSimpArgs false
set_option linter.unusedVariables false
set_option maxHeartbeats 4000000

abbrev fToTriple : Nat := 10
def cToTriple : Ctr
  | [.s [a, b, c]] => some ⟨True, .one (.s [a, b, c]), []⟩
  | _ => none
theorem okToTriple : CtrOk Try.prog fToTriple cToTriple := by
  have hsp : SpecOk Try.prog (specOf []) := SpecOk.nil
  refine ctr_of (fn := Try.f10) mixed tab_ok hsp Try.func10 (by kernel_rfl) (by kernel_rfl) fun args ce h => ?_
  clear hsp
  unfold cToTriple at h
  split at h
  case h_2 => cases h
  rename_i a b c
  simp only [Option.some.injEq] at h
  subst h
  refine ⟨by rfl, fun hp => ⟨0, 1000, ?_⟩⟩
  simp only [vc, out, step, stepE, stepPick, stepG, stepO, stepC, eff, look, rem, St.put, St.setMem, setMems, St.after, St.eval, cst, setAt, val1, okNew, newHs, allHs, rdOf, outHs, Reg.item, Reg.next, Reg.skip, slotOf, effBox, effAlloc, entryRow, fieldOff, effField, loadI, load1, loadR, effLoad, storeI, storeB, storeR, szOk, storeTo, effStore, buildOf, effBuild, binInt, eqI, boolOf, binBool, effBin, effUn, effPick, effExtract, ivs, svs, rowOf, allParts, effBuildSlice, zeroRow, effMakeSlice, elemSz, idxA, idxS, effIndex, lenOf, readOf, subPre, maxRow, plainTI, appTo, effAppend, slcOf, effSlice, argOf, resA, resL, resV, outWr, nodupB, restOk, argsPre, argOk, callWr, effCall, effMax, cutSlc, arrElem, cutOf, wrHs, disj, AV.hs, A0.hs, Entry.hs, RC.elem, RC.sz, RC.len, RC.slice, RC.app, hA, initFr, initMem, initSt, resOf, resAll, compEq, compsEq, rowHs, outHds, outsEq, shapeOk, finOk, comps, A0.norm, AV.norm, specOf, t_int, t_bool, t_implForm, t_lawsForm, t_implMatrix, t_implTriple, t_lawsTriple, t_implSpot, t_implunited, t_implCharacter, t_implSymbolStep, t_implbilinear, t_a3int, t_a4int, ts_int, ts_implCharacter, Option.getD_some, Option.getD_none, cond_true, cond_false, Nat.reduceBEq, List.map_cons, List.map_nil, List.set_cons_zero, List.set_cons_succ, List.getElem?_cons_zero, List.getElem?_cons_succ, List.drop_zero, List.drop_succ_cons, List.take_succ_cons, List.take_zero, Option.map_some, Option.map_none, Option.bind_some, Nat.zero_add, Nat.add_zero, Nat.reduceAdd, Nat.reduceMul, true_and, and_true, List.replicate_succ, List.replicate_zero, List.length_cons, List.length_nil, List.all_cons, List.all_nil, List.any_cons, List.any_nil, Bool.and_true, Bool.true_and, Bool.and_false, Bool.false_and, Bool.or_true, Bool.true_or, Bool.or_false, Bool.false_or, Bool.not_true, Bool.not_false, List.append_nil, List.nil_append, List.cons_append, List.flatMap_cons, List.flatMap_nil, List.contains_cons, List.contains_nil, List.filter_cons, List.filter_nil, beq_self_eq_true, Bool.not_eq_true, A0.b.injEq, A0.i.injEq, A0.s.injEq, A0.rw.injEq, A0.fn.injEq, List.cons.injEq, RC.ints.injEq, RC.recs.injEq, RC.bools.injEq, AV.one.injEq, AV.tup.injEq, ble_dec, blt_dec, Nat.reduceLeDiff, Nat.reduceSub, decide_true, decide_false, and_self, List.toList_toArray, Option.isSome_some, Option.isSome_none, List.elem_nil, List.elem_cons, ite_true, ite_false, Bool.false_eq_true, if_true, if_false, reduceIte, flatB_2, flatB_3, flatB_4, List.headD_cons, List.tail_cons, Try.f10]

abbrev fEqSpot : Nat := 12
def cEqSpot : Ctr
  | [.s [a, b, c], .s [x, y, z]] => some ⟨True, .one (.b (a == x && (b == y && c == z))), []⟩
  | _ => none
theorem okEqSpot : CtrOk Try.prog fEqSpot cEqSpot := by
  have hsp : SpecOk Try.prog (specOf []) := SpecOk.nil
  refine ctr_of (fn := Try.f12) mixed tab_ok hsp Try.func12 (by kernel_rfl) (by kernel_rfl) fun args ce h => ?_
  clear hsp
  unfold cEqSpot at h
  split at h
  case h_2 => cases h
  rename_i a b c x y z
  simp only [Option.some.injEq] at h
  subst h
  refine ⟨by rfl, fun hp => ⟨0, 1000, ?_⟩⟩
  simp only [vc, out, step, stepE, stepPick, stepG, stepO, stepC, eff, look, rem, St.put, St.setMem, setMems, St.after, St.eval, cst, setAt, val1, okNew, newHs, allHs, rdOf, outHs, Reg.item, Reg.next, Reg.skip, slotOf, effBox, effAlloc, entryRow, fieldOff, effField, loadI, load1, loadR, effLoad, storeI, storeB, storeR, szOk, storeTo, effStore, buildOf, effBuild, binInt, eqI, boolOf, binBool, effBin, effUn, effPick, effExtract, ivs, svs, rowOf, allParts, effBuildSlice, zeroRow, effMakeSlice, elemSz, idxA, idxS, effIndex, lenOf, readOf, subPre, maxRow, plainTI, appTo, effAppend, slcOf, effSlice, argOf, resA, resL, resV, outWr, nodupB, restOk, argsPre, argOk, callWr, effCall, effMax, cutSlc, arrElem, cutOf, wrHs, disj, AV.hs, A0.hs, Entry.hs, RC.elem, RC.sz, RC.len, RC.slice, RC.app, hA, initFr, initMem, initSt, resOf, resAll, compEq, compsEq, rowHs, outHds, outsEq, shapeOk, finOk, comps, A0.norm, AV.norm, specOf, t_int, t_bool, t_implForm, t_lawsForm, t_implMatrix, t_implTriple, t_lawsTriple, t_implSpot, t_implunited, t_implCharacter, t_implSymbolStep, t_implbilinear, t_a3int, t_a4int, ts_int, ts_implCharacter, Option.getD_some, Option.getD_none, cond_true, cond_false, Nat.reduceBEq, List.map_cons, List.map_nil, List.set_cons_zero, List.set_cons_succ, List.getElem?_cons_zero, List.getElem?_cons_succ, List.drop_zero, List.drop_succ_cons, List.take_succ_cons, List.take_zero, Option.map_some, Option.map_none, Option.bind_some, Nat.zero_add, Nat.add_zero, Nat.reduceAdd, Nat.reduceMul, true_and, and_true, List.replicate_succ, List.replicate_zero, List.length_cons, List.length_nil, List.all_cons, List.all_nil, List.any_cons, List.any_nil, Bool.and_true, Bool.true_and, Bool.and_false, Bool.false_and, Bool.or_true, Bool.true_or, Bool.or_false, Bool.false_or, Bool.not_true, Bool.not_false, List.append_nil, List.nil_append, List.cons_append, List.flatMap_cons, List.flatMap_nil, List.contains_cons, List.contains_nil, List.filter_cons, List.filter_nil, beq_self_eq_true, Bool.not_eq_true, A0.b.injEq, A0.i.injEq, A0.s.injEq, A0.rw.injEq, A0.fn.injEq, List.cons.injEq, RC.ints.injEq, RC.recs.injEq, RC.bools.injEq, AV.one.injEq, AV.tup.injEq, ble_dec, blt_dec, Nat.reduceLeDiff, Nat.reduceSub, decide_true, decide_false, and_self, List.toList_toArray, Option.isSome_some, Option.isSome_none, List.elem_nil, List.elem_cons, ite_true, ite_false, Bool.false_eq_true, if_true, if_false, reduceIte, flatB_2, flatB_3, flatB_4, List.headD_cons, List.tail_cons, Try.f12]
  unfold bne
  cases (a == x) <;> cases (b == y) <;> cases (c == z) <;> rfl
-- (not in this seat: EqSpotS)
-- (not in this seat: MarkSpotS)
-- (not in this seat: HeldSpotS)

/-! ### triples -/
def coefB (n : Int) : Bool := (n != 0) && decide (absI n ≤ 400)
abbrev fIsCoef : Nat := 71
def cIsCoef : Ctr
  | [.i n] => some ⟨True, .one (.b (coefB n)), []⟩
  | _ => none
theorem okIsCoef : CtrOk Try.prog fIsCoef cIsCoef := by
  have hsp : SpecOk Try.prog (specOf [(fAbs, cAbs)]) := (SpecOk.cons okAbs SpecOk.nil)
  refine ctr_of (fn := Try.f71) mixed tab_ok hsp Try.func71 (by kernel_rfl) (by kernel_rfl) fun args ce h => ?_
  clear hsp
  unfold cIsCoef at h
  split at h
  case h_2 => cases h
  rename_i n
  simp only [Option.some.injEq] at h
  subst h
  refine ⟨by rfl, fun hp => ⟨0, 1000, ?_⟩⟩
  simp only [vc, out, step, stepE, stepPick, stepG, stepO, stepC, eff, look, rem, St.put, St.setMem, setMems, St.after, St.eval, cst, setAt, val1, okNew, newHs, allHs, rdOf, outHs, Reg.item, Reg.next, Reg.skip, slotOf, effBox, effAlloc, entryRow, fieldOff, effField, loadI, load1, loadR, effLoad, storeI, storeB, storeR, szOk, storeTo, effStore, buildOf, effBuild, binInt, eqI, boolOf, binBool, effBin, effUn, effPick, effExtract, ivs, svs, rowOf, allParts, effBuildSlice, zeroRow, effMakeSlice, elemSz, idxA, idxS, effIndex, lenOf, readOf, subPre, maxRow, plainTI, appTo, effAppend, slcOf, effSlice, argOf, resA, resL, resV, outWr, nodupB, restOk, argsPre, argOk, callWr, effCall, effMax, cutSlc, arrElem, cutOf, wrHs, disj, AV.hs, A0.hs, Entry.hs, RC.elem, RC.sz, RC.len, RC.slice, RC.app, hA, initFr, initMem, initSt, resOf, resAll, compEq, compsEq, rowHs, outHds, outsEq, shapeOk, finOk, comps, A0.norm, AV.norm, specOf, t_int, t_bool, t_implForm, t_lawsForm, t_implMatrix, t_implTriple, t_lawsTriple, t_implSpot, t_implunited, t_implCharacter, t_implSymbolStep, t_implbilinear, t_a3int, t_a4int, ts_int, ts_implCharacter, Option.getD_some, Option.getD_none, cond_true, cond_false, Nat.reduceBEq, List.map_cons, List.map_nil, List.set_cons_zero, List.set_cons_succ, List.getElem?_cons_zero, List.getElem?_cons_succ, List.drop_zero, List.drop_succ_cons, List.take_succ_cons, List.take_zero, Option.map_some, Option.map_none, Option.bind_some, Nat.zero_add, Nat.add_zero, Nat.reduceAdd, Nat.reduceMul, true_and, and_true, List.replicate_succ, List.replicate_zero, List.length_cons, List.length_nil, List.all_cons, List.all_nil, List.any_cons, List.any_nil, Bool.and_true, Bool.true_and, Bool.and_false, Bool.false_and, Bool.or_true, Bool.true_or, Bool.or_false, Bool.false_or, Bool.not_true, Bool.not_false, List.append_nil, List.nil_append, List.cons_append, List.flatMap_cons, List.flatMap_nil, List.contains_cons, List.contains_nil, List.filter_cons, List.filter_nil, beq_self_eq_true, Bool.not_eq_true, A0.b.injEq, A0.i.injEq, A0.s.injEq, A0.rw.injEq, A0.fn.injEq, List.cons.injEq, RC.ints.injEq, RC.recs.injEq, RC.bools.injEq, AV.one.injEq, AV.tup.injEq, ble_dec, blt_dec, Nat.reduceLeDiff, Nat.reduceSub, decide_true, decide_false, and_self, List.toList_toArray, Option.isSome_some, Option.isSome_none, List.elem_nil, List.elem_cons, ite_true, ite_false, Bool.false_eq_true, if_true, if_false, reduceIte, flatB_2, flatB_3, flatB_4, List.headD_cons, List.tail_cons, cAbs, fAbs, Try.f71]
  unfold coefB
  cases (n != 0) <;> rfl
theorem coefB_eq (n : Int) : coefB n = (inI n (-400) 400 && (n != 0)) := by
  rw [Bool.eq_iff_iff]
  simp only [coefB, inI, Bool.and_eq_true, decide_eq_true_eq, bne_iff_ne]
  unfold absI
  by_cases h : n ≤ -401
  · rw [wrap_id (by omega) (by omega)]; omega
  · by_cases h1 : n ≤ 9000000000000000000
    · rw [wrap_id (by omega) (by omega)]; omega
    · omega
def triB (a b c : Int) : Bool := coefB a && (coefB b && coefB c)
theorem triB_iff {a b c : Int} (h : triB a b c = true) : ((-400 ≤ a ∧ a ≤ 400) ∧ (-400 ≤ b ∧ b ≤ 400) ∧ (-400 ≤ c ∧ c ≤ 400)) ∧ a ≠ 0 := by
  simp only [triB, coefB_eq, inI, Bool.and_eq_true, decide_eq_true_eq, bne_iff_ne] at h
  omega
abbrev fIsTriple : Nat := 33
def cIsTriple : Ctr
  | [.s [a, b, c]] => some ⟨True, .one (.b (triB a b c)), []⟩
  | _ => none
theorem okIsTriple : CtrOk Try.prog fIsTriple cIsTriple := by
  have hsp : SpecOk Try.prog (specOf [(fIsCoef, cIsCoef)]) := (SpecOk.cons okIsCoef SpecOk.nil)
  refine ctr_of (fn := Try.f33) mixed tab_ok hsp Try.func33 (by kernel_rfl) (by kernel_rfl) fun args ce h => ?_
  clear hsp
  unfold cIsTriple at h
  split at h
  case h_2 => cases h
  rename_i a b c
  simp only [Option.some.injEq] at h
  subst h
  refine ⟨by rfl, fun hp => ⟨0, 1000, ?_⟩⟩
  simp only [vc, out, step, stepE, stepPick, stepG, stepO, stepC, eff, look, rem, St.put, St.setMem, setMems, St.after, St.eval, cst, setAt, val1, okNew, newHs, allHs, rdOf, outHs, Reg.item, Reg.next, Reg.skip, slotOf, effBox, effAlloc, entryRow, fieldOff, effField, loadI, load1, loadR, effLoad, storeI, storeB, storeR, szOk, storeTo, effStore, buildOf, effBuild, binInt, eqI, boolOf, binBool, effBin, effUn, effPick, effExtract, ivs, svs, rowOf, allParts, effBuildSlice, zeroRow, effMakeSlice, elemSz, idxA, idxS, effIndex, lenOf, readOf, subPre, maxRow, plainTI, appTo, effAppend, slcOf, effSlice, argOf, resA, resL, resV, outWr, nodupB, restOk, argsPre, argOk, callWr, effCall, effMax, cutSlc, arrElem, cutOf, wrHs, disj, AV.hs, A0.hs, Entry.hs, RC.elem, RC.sz, RC.len, RC.slice, RC.app, hA, initFr, initMem, initSt, resOf, resAll, compEq, compsEq, rowHs, outHds, outsEq, shapeOk, finOk, comps, A0.norm, AV.norm, specOf, t_int, t_bool, t_implForm, t_lawsForm, t_implMatrix, t_implTriple, t_lawsTriple, t_implSpot, t_implunited, t_implCharacter, t_implSymbolStep, t_implbilinear, t_a3int, t_a4int, ts_int, ts_implCharacter, Option.getD_some, Option.getD_none, cond_true, cond_false, Nat.reduceBEq, List.map_cons, List.map_nil, List.set_cons_zero, List.set_cons_succ, List.getElem?_cons_zero, List.getElem?_cons_succ, List.drop_zero, List.drop_succ_cons, List.take_succ_cons, List.take_zero, Option.map_some, Option.map_none, Option.bind_some, Nat.zero_add, Nat.add_zero, Nat.reduceAdd, Nat.reduceMul, true_and, and_true, List.replicate_succ, List.replicate_zero, List.length_cons, List.length_nil, List.all_cons, List.all_nil, List.any_cons, List.any_nil, Bool.and_true, Bool.true_and, Bool.and_false, Bool.false_and, Bool.or_true, Bool.true_or, Bool.or_false, Bool.false_or, Bool.not_true, Bool.not_false, List.append_nil, List.nil_append, List.cons_append, List.flatMap_cons, List.flatMap_nil, List.contains_cons, List.contains_nil, List.filter_cons, List.filter_nil, beq_self_eq_true, Bool.not_eq_true, A0.b.injEq, A0.i.injEq, A0.s.injEq, A0.rw.injEq, A0.fn.injEq, List.cons.injEq, RC.ints.injEq, RC.recs.injEq, RC.bools.injEq, AV.one.injEq, AV.tup.injEq, ble_dec, blt_dec, Nat.reduceLeDiff, Nat.reduceSub, decide_true, decide_false, and_self, List.toList_toArray, Option.isSome_some, Option.isSome_none, List.elem_nil, List.elem_cons, ite_true, ite_false, Bool.false_eq_true, if_true, if_false, reduceIte, flatB_2, flatB_3, flatB_4, List.headD_cons, List.tail_cons, cIsCoef, fIsCoef, Try.f33]
  unfold triB
  cases coefB a <;> cases coefB b <;> cases coefB c <;> rfl
abbrev fLAll : Nat := 40
def cLAll : Ctr
  | [.rw (.ints e l), .i lo, .i hi] => some ⟨l.length ≤ 1000000000, .one (.b (l.all fun n => inI n lo hi)), []⟩
  | _ => none
theorem okLAll : CtrOk Try.prog fLAll cLAll := by
  have hsp : SpecOk Try.prog (specOf [(fIn, cIn)]) := (SpecOk.cons okIn SpecOk.nil)
  refine ctr_of (fn := Try.f40) mixed tab_ok hsp Try.func40 (by kernel_rfl) (by kernel_rfl) fun args ce h => ?_
  clear hsp
  unfold cLAll at h
  split at h
  case h_2 => cases h
  rename_i e l lo hi
  simp only [Option.some.injEq] at h
  subst h
  refine ⟨by rfl, fun hp => ⟨1, 1000, ?_⟩⟩
  simp only [vc, out, step, stepE, stepPick, stepG, stepO, stepC, eff, look, rem, St.put, St.setMem, setMems, St.after, St.eval, cst, setAt, val1, okNew, newHs, allHs, rdOf, outHs, Reg.item, Reg.next, Reg.skip, slotOf, effBox, effAlloc, entryRow, fieldOff, effField, loadI, load1, loadR, effLoad, storeI, storeB, storeR, szOk, storeTo, effStore, buildOf, effBuild, binInt, eqI, boolOf, binBool, effBin, effUn, effPick, effExtract, ivs, svs, rowOf, allParts, effBuildSlice, zeroRow, effMakeSlice, elemSz, idxA, idxS, effIndex, lenOf, readOf, subPre, maxRow, plainTI, appTo, effAppend, slcOf, effSlice, argOf, resA, resL, resV, outWr, nodupB, restOk, argsPre, argOk, callWr, effCall, effMax, cutSlc, arrElem, cutOf, wrHs, disj, AV.hs, A0.hs, Entry.hs, RC.elem, RC.sz, RC.len, RC.slice, RC.app, hA, initFr, initMem, initSt, resOf, resAll, compEq, compsEq, rowHs, outHds, outsEq, shapeOk, finOk, comps, A0.norm, AV.norm, specOf, t_int, t_bool, t_implForm, t_lawsForm, t_implMatrix, t_implTriple, t_lawsTriple, t_implSpot, t_implunited, t_implCharacter, t_implSymbolStep, t_implbilinear, t_a3int, t_a4int, ts_int, ts_implCharacter, Option.getD_some, Option.getD_none, cond_true, cond_false, Nat.reduceBEq, List.map_cons, List.map_nil, List.set_cons_zero, List.set_cons_succ, List.getElem?_cons_zero, List.getElem?_cons_succ, List.drop_zero, List.drop_succ_cons, List.take_succ_cons, List.take_zero, Option.map_some, Option.map_none, Option.bind_some, Nat.zero_add, Nat.add_zero, Nat.reduceAdd, Nat.reduceMul, true_and, and_true, List.replicate_succ, List.replicate_zero, List.length_cons, List.length_nil, List.all_cons, List.all_nil, List.any_cons, List.any_nil, Bool.and_true, Bool.true_and, Bool.and_false, Bool.false_and, Bool.or_true, Bool.true_or, Bool.or_false, Bool.false_or, Bool.not_true, Bool.not_false, List.append_nil, List.nil_append, List.cons_append, List.flatMap_cons, List.flatMap_nil, List.contains_cons, List.contains_nil, List.filter_cons, List.filter_nil, beq_self_eq_true, Bool.not_eq_true, A0.b.injEq, A0.i.injEq, A0.s.injEq, A0.rw.injEq, A0.fn.injEq, List.cons.injEq, RC.ints.injEq, RC.recs.injEq, RC.bools.injEq, AV.one.injEq, AV.tup.injEq, ble_dec, blt_dec, Nat.reduceLeDiff, Nat.reduceSub, decide_true, decide_false, and_self, List.toList_toArray, Option.isSome_some, Option.isSome_none, List.elem_nil, List.elem_cons, ite_true, ite_false, Bool.false_eq_true, if_true, if_false, reduceIte, flatB_2, flatB_3, flatB_4, List.headD_cons, List.tail_cons, cIn, fIn, Try.f40]
  have hp' : l.length ≤ 1000000000 := hp
  refine lp_intro (fun n : Nat => ⟨[(1, .one (.i lo)), (2, .one (.i hi)), (9, .one (.row 1000000)), (10, .one (.i l.length)), (11, .one (.i n))], [(1000000, .ro (.ints e l))]⟩) (fun n => n ≤ l.length ∧ ((l.take n).all fun n => inI n lo hi) = true) (fun n => l.length - n) 0 [] ⟨Nat.zero_le _, rfl⟩ (by simp only [Cov, covOk, covFr, covMem, entEq, rn, nodupB, A0.ren, AV.ren, Entry.ren, Entry.norm, vc, out, step, stepE, stepPick, stepG, stepO, stepC, eff, look, rem, St.put, St.setMem, setMems, St.after, St.eval, cst, setAt, val1, okNew, newHs, allHs, rdOf, outHs, Reg.item, Reg.next, Reg.skip, slotOf, effBox, effAlloc, entryRow, fieldOff, effField, loadI, load1, loadR, effLoad, storeI, storeB, storeR, szOk, storeTo, effStore, buildOf, effBuild, binInt, eqI, boolOf, binBool, effBin, effUn, effPick, effExtract, ivs, svs, rowOf, allParts, effBuildSlice, zeroRow, effMakeSlice, elemSz, idxA, idxS, effIndex, lenOf, readOf, subPre, maxRow, plainTI, appTo, effAppend, slcOf, effSlice, argOf, resA, resL, resV, outWr, nodupB, restOk, argsPre, argOk, callWr, effCall, effMax, cutSlc, arrElem, cutOf, wrHs, disj, AV.hs, A0.hs, Entry.hs, RC.elem, RC.sz, RC.len, RC.slice, RC.app, hA, initFr, initMem, initSt, resOf, resAll, compEq, compsEq, rowHs, outHds, outsEq, shapeOk, finOk, comps, A0.norm, AV.norm, specOf, t_int, t_bool, t_implForm, t_lawsForm, t_implMatrix, t_implTriple, t_lawsTriple, t_implSpot, t_implunited, t_implCharacter, t_implSymbolStep, t_implbilinear, t_a3int, t_a4int, ts_int, ts_implCharacter, Option.getD_some, Option.getD_none, cond_true, cond_false, Nat.reduceBEq, List.map_cons, List.map_nil, List.set_cons_zero, List.set_cons_succ, List.getElem?_cons_zero, List.getElem?_cons_succ, List.drop_zero, List.drop_succ_cons, List.take_succ_cons, List.take_zero, Option.map_some, Option.map_none, Option.bind_some, Nat.zero_add, Nat.add_zero, Nat.reduceAdd, Nat.reduceMul, true_and, and_true, List.replicate_succ, List.replicate_zero, List.length_cons, List.length_nil, List.all_cons, List.all_nil, List.any_cons, List.any_nil, Bool.and_true, Bool.true_and, Bool.and_false, Bool.false_and, Bool.or_true, Bool.true_or, Bool.or_false, Bool.false_or, Bool.not_true, Bool.not_false, List.append_nil, List.nil_append, List.cons_append, List.flatMap_cons, List.flatMap_nil, List.contains_cons, List.contains_nil, List.filter_cons, List.filter_nil, beq_self_eq_true, Bool.not_eq_true, A0.b.injEq, A0.i.injEq, A0.s.injEq, A0.rw.injEq, A0.fn.injEq, List.cons.injEq, RC.ints.injEq, RC.recs.injEq, RC.bools.injEq, AV.one.injEq, AV.tup.injEq, ble_dec, blt_dec, Nat.reduceLeDiff, Nat.reduceSub, decide_true, decide_false, and_self, List.toList_toArray, Option.isSome_some, Option.isSome_none, List.elem_nil, List.elem_cons, ite_true, ite_false, Bool.false_eq_true, if_true, if_false, reduceIte, flatB_2, flatB_3, flatB_4, List.headD_cons, List.tail_cons]; simp) fun n hn J hJ => ⟨1000, ?_⟩
  simp only [vc, out, step, stepE, stepPick, stepG, stepO, stepC, eff, look, rem, St.put, St.setMem, setMems, St.after, St.eval, cst, setAt, val1, okNew, newHs, allHs, rdOf, outHs, Reg.item, Reg.next, Reg.skip, slotOf, effBox, effAlloc, entryRow, fieldOff, effField, loadI, load1, loadR, effLoad, storeI, storeB, storeR, szOk, storeTo, effStore, buildOf, effBuild, binInt, eqI, boolOf, binBool, effBin, effUn, effPick, effExtract, ivs, svs, rowOf, allParts, effBuildSlice, zeroRow, effMakeSlice, elemSz, idxA, idxS, effIndex, lenOf, readOf, subPre, maxRow, plainTI, appTo, effAppend, slcOf, effSlice, argOf, resA, resL, resV, outWr, nodupB, restOk, argsPre, argOk, callWr, effCall, effMax, cutSlc, arrElem, cutOf, wrHs, disj, AV.hs, A0.hs, Entry.hs, RC.elem, RC.sz, RC.len, RC.slice, RC.app, hA, initFr, initMem, initSt, resOf, resAll, compEq, compsEq, rowHs, outHds, outsEq, shapeOk, finOk, comps, A0.norm, AV.norm, specOf, t_int, t_bool, t_implForm, t_lawsForm, t_implMatrix, t_implTriple, t_lawsTriple, t_implSpot, t_implunited, t_implCharacter, t_implSymbolStep, t_implbilinear, t_a3int, t_a4int, ts_int, ts_implCharacter, Option.getD_some, Option.getD_none, cond_true, cond_false, Nat.reduceBEq, List.map_cons, List.map_nil, List.set_cons_zero, List.set_cons_succ, List.getElem?_cons_zero, List.getElem?_cons_succ, List.drop_zero, List.drop_succ_cons, List.take_succ_cons, List.take_zero, Option.map_some, Option.map_none, Option.bind_some, Nat.zero_add, Nat.add_zero, Nat.reduceAdd, Nat.reduceMul, true_and, and_true, List.replicate_succ, List.replicate_zero, List.length_cons, List.length_nil, List.all_cons, List.all_nil, List.any_cons, List.any_nil, Bool.and_true, Bool.true_and, Bool.and_false, Bool.false_and, Bool.or_true, Bool.true_or, Bool.or_false, Bool.false_or, Bool.not_true, Bool.not_false, List.append_nil, List.nil_append, List.cons_append, List.flatMap_cons, List.flatMap_nil, List.contains_cons, List.contains_nil, List.filter_cons, List.filter_nil, beq_self_eq_true, Bool.not_eq_true, A0.b.injEq, A0.i.injEq, A0.s.injEq, A0.rw.injEq, A0.fn.injEq, List.cons.injEq, RC.ints.injEq, RC.recs.injEq, RC.bools.injEq, AV.one.injEq, AV.tup.injEq, ble_dec, blt_dec, Nat.reduceLeDiff, Nat.reduceSub, decide_true, decide_false, and_self, List.toList_toArray, Option.isSome_some, Option.isSome_none, List.elem_nil, List.elem_cons, ite_true, ite_false, Bool.false_eq_true, if_true, if_false, reduceIte, flatB_2, flatB_3, flatB_4, List.headD_cons, List.tail_cons, cIn, fIn]
  rw [bif_prop]
  obtain ⟨hn, ht⟩ := hn
  refine ⟨fun hb => ?_, fun hb => ?_⟩
  · have hlt : n < l.length := by simpa using hb
    have htk : l.take (n + 1) = l.take n ++ [l.getD n 0] := by
      rw [List.take_add_one]; simp [List.getD, hlt]
    have hmem : l.getD n 0 ∈ l := by simp [List.getD, hlt]
    refine ⟨⟨by omega, by omega⟩, by simpa using hlt, ?_⟩
    rw [Int.toNat_natCast]
    generalize l.getD n 0 = z at htk hmem ⊢
    rw [bif_prop]
    refine ⟨fun h1 => ?_, fun h1 => hJ _ (n + 1) [] ⟨hlt, ?_⟩ (by omega) ?_⟩
    · symm
      rw [List.all_eq_false]
      exact ⟨z, hmem, by simpa using h1⟩
    · rw [htk, List.all_append, ht]
      have h2 : inI z lo hi = true := by simpa using h1
      simp [h2]
    · simp only [Cov, covOk, covFr, covMem, entEq, rn, nodupB, A0.ren, AV.ren, Entry.ren, Entry.norm, vc, out, step, stepE, stepPick, stepG, stepO, stepC, eff, look, rem, St.put, St.setMem, setMems, St.after, St.eval, cst, setAt, val1, okNew, newHs, allHs, rdOf, outHs, Reg.item, Reg.next, Reg.skip, slotOf, effBox, effAlloc, entryRow, fieldOff, effField, loadI, load1, loadR, effLoad, storeI, storeB, storeR, szOk, storeTo, effStore, buildOf, effBuild, binInt, eqI, boolOf, binBool, effBin, effUn, effPick, effExtract, ivs, svs, rowOf, allParts, effBuildSlice, zeroRow, effMakeSlice, elemSz, idxA, idxS, effIndex, lenOf, readOf, subPre, maxRow, plainTI, appTo, effAppend, slcOf, effSlice, argOf, resA, resL, resV, outWr, nodupB, restOk, argsPre, argOk, callWr, effCall, effMax, cutSlc, arrElem, cutOf, wrHs, disj, AV.hs, A0.hs, Entry.hs, RC.elem, RC.sz, RC.len, RC.slice, RC.app, hA, initFr, initMem, initSt, resOf, resAll, compEq, compsEq, rowHs, outHds, outsEq, shapeOk, finOk, comps, A0.norm, AV.norm, specOf, t_int, t_bool, t_implForm, t_lawsForm, t_implMatrix, t_implTriple, t_lawsTriple, t_implSpot, t_implunited, t_implCharacter, t_implSymbolStep, t_implbilinear, t_a3int, t_a4int, ts_int, ts_implCharacter, Option.getD_some, Option.getD_none, cond_true, cond_false, Nat.reduceBEq, List.map_cons, List.map_nil, List.set_cons_zero, List.set_cons_succ, List.getElem?_cons_zero, List.getElem?_cons_succ, List.drop_zero, List.drop_succ_cons, List.take_succ_cons, List.take_zero, Option.map_some, Option.map_none, Option.bind_some, Nat.zero_add, Nat.add_zero, Nat.reduceAdd, Nat.reduceMul, true_and, and_true, List.replicate_succ, List.replicate_zero, List.length_cons, List.length_nil, List.all_cons, List.all_nil, List.any_cons, List.any_nil, Bool.and_true, Bool.true_and, Bool.and_false, Bool.false_and, Bool.or_true, Bool.true_or, Bool.or_false, Bool.false_or, Bool.not_true, Bool.not_false, List.append_nil, List.nil_append, List.cons_append, List.flatMap_cons, List.flatMap_nil, List.contains_cons, List.contains_nil, List.filter_cons, List.filter_nil, beq_self_eq_true, Bool.not_eq_true, A0.b.injEq, A0.i.injEq, A0.s.injEq, A0.rw.injEq, A0.fn.injEq, List.cons.injEq, RC.ints.injEq, RC.recs.injEq, RC.bools.injEq, AV.one.injEq, AV.tup.injEq, ble_dec, blt_dec, Nat.reduceLeDiff, Nat.reduceSub, decide_true, decide_false, and_self, List.toList_toArray, Option.isSome_some, Option.isSome_none, List.elem_nil, List.elem_cons, ite_true, ite_false, Bool.false_eq_true, if_true, if_false, reduceIte, flatB_2, flatB_3, flatB_4, List.headD_cons, List.tail_cons]
      rw [IntWalk.wrap64_in _ (by omega)]; simp
  · have : n = l.length := by have h1 : ¬ n < l.length := by simpa using hb
                              omega
    subst this
    rw [List.take_length] at ht
    exact ht.symm
abbrev fCnGood : Nat := 27
def cCnGood : Ctr
  | [.s [a, b, c]] => some ⟨True, .one (.b (triB a b c)), []⟩
  | _ => none
theorem okCnGood : CtrOk Try.prog fCnGood cCnGood := by
  have hsp : SpecOk Try.prog (specOf [(fLAll, cLAll)]) := (SpecOk.cons okLAll SpecOk.nil)
  refine ctr_of (fn := Try.f27) mixed tab_ok hsp Try.func27 (by kernel_rfl) (by kernel_rfl) fun args ce h => ?_
  clear hsp
  unfold cCnGood at h
  split at h
  case h_2 => cases h
  rename_i a b c
  simp only [Option.some.injEq] at h
  subst h
  refine ⟨by rfl, fun hp => ⟨1, 1000, ?_⟩⟩
  simp only [vc, out, step, stepE, stepPick, stepG, stepO, stepC, eff, look, rem, St.put, St.setMem, setMems, St.after, St.eval, cst, setAt, val1, okNew, newHs, allHs, rdOf, outHs, Reg.item, Reg.next, Reg.skip, slotOf, effBox, effAlloc, entryRow, fieldOff, effField, loadI, load1, loadR, effLoad, storeI, storeB, storeR, szOk, storeTo, effStore, buildOf, effBuild, binInt, eqI, boolOf, binBool, effBin, effUn, effPick, effExtract, ivs, svs, rowOf, allParts, effBuildSlice, zeroRow, effMakeSlice, elemSz, idxA, idxS, effIndex, lenOf, readOf, subPre, maxRow, plainTI, appTo, effAppend, slcOf, effSlice, argOf, resA, resL, resV, outWr, nodupB, restOk, argsPre, argOk, callWr, effCall, effMax, cutSlc, arrElem, cutOf, wrHs, disj, AV.hs, A0.hs, Entry.hs, RC.elem, RC.sz, RC.len, RC.slice, RC.app, hA, initFr, initMem, initSt, resOf, resAll, compEq, compsEq, rowHs, outHds, outsEq, shapeOk, finOk, comps, A0.norm, AV.norm, specOf, t_int, t_bool, t_implForm, t_lawsForm, t_implMatrix, t_implTriple, t_lawsTriple, t_implSpot, t_implunited, t_implCharacter, t_implSymbolStep, t_implbilinear, t_a3int, t_a4int, ts_int, ts_implCharacter, Option.getD_some, Option.getD_none, cond_true, cond_false, Nat.reduceBEq, List.map_cons, List.map_nil, List.set_cons_zero, List.set_cons_succ, List.getElem?_cons_zero, List.getElem?_cons_succ, List.drop_zero, List.drop_succ_cons, List.take_succ_cons, List.take_zero, Option.map_some, Option.map_none, Option.bind_some, Nat.zero_add, Nat.add_zero, Nat.reduceAdd, Nat.reduceMul, true_and, and_true, List.replicate_succ, List.replicate_zero, List.length_cons, List.length_nil, List.all_cons, List.all_nil, List.any_cons, List.any_nil, Bool.and_true, Bool.true_and, Bool.and_false, Bool.false_and, Bool.or_true, Bool.true_or, Bool.or_false, Bool.false_or, Bool.not_true, Bool.not_false, List.append_nil, List.nil_append, List.cons_append, List.flatMap_cons, List.flatMap_nil, List.contains_cons, List.contains_nil, List.filter_cons, List.filter_nil, beq_self_eq_true, Bool.not_eq_true, A0.b.injEq, A0.i.injEq, A0.s.injEq, A0.rw.injEq, A0.fn.injEq, List.cons.injEq, RC.ints.injEq, RC.recs.injEq, RC.bools.injEq, AV.one.injEq, AV.tup.injEq, ble_dec, blt_dec, Nat.reduceLeDiff, Nat.reduceSub, decide_true, decide_false, and_self, List.toList_toArray, Option.isSome_some, Option.isSome_none, List.elem_nil, List.elem_cons, ite_true, ite_false, Bool.false_eq_true, if_true, if_false, reduceIte, flatB_2, flatB_3, flatB_4, List.headD_cons, List.tail_cons, cLAll, fLAll, Try.f27]
  unfold triB
  rw [coefB_eq, coefB_eq, coefB_eq]
  cases inI a (-400) 400 <;> cases inI b (-400) 400 <;> cases inI c (-400) 400 <;> cases (a != 0) <;> cases (b != 0) <;> cases (c != 0) <;> first | rfl | exact ⟨by decide, rfl⟩

/-! ### the third coordinate -/
def thR (b c y z : Int) : Int := wrap64 (wrap64 (wrap64 (wrap64 (0 - b) * y) * y) - wrap64 (wrap64 (c * z) * z))
def thQ (a b c y z : Int) : Int := wrap64 ((thR b c y z).tdiv a)
def thB (a b c y z : Int) : Bool := ((thR b c y z).tmod a == 0) && sqB (thQ a b c y z)
def thX (a b c y z : Int) : Int := if thB a b c y z = true then rootI (thQ a b c y z) else 0
def Tr (a b c y z : Int) : Prop := (((-400 ≤ a ∧ a ≤ 400) ∧ (-400 ≤ b ∧ b ≤ 400) ∧ (-400 ≤ c ∧ c ≤ 400)) ∧ a ≠ 0) ∧ (0 ≤ y ∧ y ≤ 400) ∧ 0 ≤ z ∧ z ≤ 400
theorem quad_bd {b y : Int} (hb : -400 ≤ b ∧ b ≤ 400) (hy : 0 ≤ y ∧ y ≤ 400) : (-160000 ≤ b * y ∧ b * y ≤ 160000) ∧ -64000000 ≤ b * y * y ∧ b * y * y ≤ 64000000 := by
  have h1 := mul_bd (a := b) (b := y) (j := 400) (k := 400) (by omega) (by omega) hb ⟨by omega, by omega⟩
  have h2 := mul_bd (a := b * y) (b := y) (j := 160000) (k := 400) (by omega) (by omega) ⟨by omega, by omega⟩ ⟨by omega, by omega⟩
  omega
theorem thR_eq {a b c y z : Int} (h : Tr a b c y z) : thR b c y z = -b * y * y - c * z * z ∧ -128000000 ≤ thR b c y z ∧ thR b c y z ≤ 128000000 := by
  obtain ⟨⟨⟨_, hb, hc⟩, _⟩, hy, hz⟩ := h
  obtain ⟨h1, h2⟩ := quad_bd (b := -b) (y := y) ⟨by omega, by omega⟩ hy
  obtain ⟨h3, h4⟩ := quad_bd (b := c) (y := z) hc hz
  have e : thR b c y z = -b * y * y - c * z * z := by
    unfold thR
    rw [Int.zero_sub, wrap_id (n := -b) (by omega) (by omega), wrap_id (n := -b * y) (by omega) (by omega), wrap_id (n := -b * y * y) (by omega) (by omega), wrap_id (n := c * z) (by omega) (by omega), wrap_id (n := c * z * z) (by omega) (by omega), wrap_id (by omega) (by omega)]
  rw [e]
  exact ⟨rfl, by omega, by omega⟩
theorem thQ_in {a b c y z : Int} (h : Tr a b c y z) : thQ a b c y z = (thR b c y z).tdiv a ∧ -128000000 ≤ thQ a b c y z ∧ thQ a b c y z ≤ 128000000 := by
  obtain ⟨_, h1⟩ := thR_eq h
  have h2 := tdiv_bd' (b := a) (k := 128000000) ⟨h1.1, h1.2⟩
  have e : thQ a b c y z = (thR b c y z).tdiv a := by unfold thQ; exact wrap_id (by omega) (by omega)
  rw [e]; exact ⟨rfl, h2⟩
theorem thX_sq {a b c y z : Int} (h : Tr a b c y z) (hB : thB a b c y z = true) : a * thX a b c y z * thX a b c y z + b * y * y + c * z * z = 0 ∧ 0 ≤ thX a b c y z ∧ thX a b c y z ≤ 12000 := by
  obtain ⟨e1, _⟩ := thR_eq h
  obtain ⟨e2, q1, q2⟩ := thQ_in h
  have eX : thX a b c y z = rootI (thQ a b c y z) := by unfold thX; rw [if_pos hB]
  simp only [thB, Bool.and_eq_true, beq_iff_eq, sqB, decide_eq_true_eq] at hB
  obtain ⟨hm, h0, hs⟩ := hB
  obtain ⟨b1, b2, b3⟩ := rootI_spec (n := thQ a b c y z) h0 (by omega)
  have hle : rootI (thQ a b c y z) ≤ 12000 := root_le h0 (by omega) (by omega) (by omega)
  rw [mid_sq b1 (by omega)] at hs
  rw [eX]
  have hdm := Int.tmod_add_mul_tdiv (thR b c y z) a
  rw [hm, ← e2, e1, ← hs] at hdm
  refine ⟨?_, b1, hle⟩
  generalize rootI (thQ a b c y z) = x at *
  grind
theorem thB_no1 {a b c y z : Int} (h : ((thR b c y z).tmod a != 0) = true) : thB a b c y z = false := by
  have : ((thR b c y z).tmod a == 0) = false := by simpa using h
  unfold thB; rw [this]; rfl
theorem thB_no2 {a b c y z : Int} (h : (!sqB (thQ a b c y z)) = true) : thB a b c y z = false := by
  have : sqB (thQ a b c y z) = false := by simpa using h
  unfold thB; rw [this, Bool.and_false]
theorem thB_yes {a b c y z : Int} (h1 : ((thR b c y z).tmod a != 0) = false) (h2 : (!sqB (thQ a b c y z)) = false) : thB a b c y z = true := by
  have g1 : ((thR b c y z).tmod a == 0) = true := by simpa using h1
  have g2 : sqB (thQ a b c y z) = true := by simpa using h2
  unfold thB; rw [g1, g2]; rfl
theorem thX_no {a b c y z : Int} (h : thB a b c y z = false) : thX a b c y z = 0 := by unfold thX; rw [h]; rfl
theorem thX_yes {a b c y z : Int} (h : thB a b c y z = true) : thX a b c y z = rootI (thQ a b c y z) := by unfold thX; rw [h]; rfl
abbrev fThird : Nat := 36
def cThird : Ctr
  | [.s [a, b, c], .i y, .i z] => some ⟨a ≠ 0, .tup [.i (thX a b c y z), .b (thB a b c y z)], []⟩
  | _ => none
theorem okThird : CtrOk Try.prog fThird cThird := by
  have hsp : SpecOk Try.prog (specOf [(fIsSquare, cIsSquare), (fRoot, cRoot)]) := (SpecOk.cons okIsSquare (SpecOk.cons okRoot SpecOk.nil))
  refine ctr_of (fn := Try.f36) mixed tab_ok hsp Try.func36 (by kernel_rfl) (by kernel_rfl) fun args ce h => ?_
  clear hsp
  unfold cThird at h
  split at h
  case h_2 => cases h
  rename_i a b c y z
  simp only [Option.some.injEq] at h
  subst h
  refine ⟨by rfl, fun hp => ⟨0, 1000, ?_⟩⟩
  simp only [vc, out, step, stepE, stepPick, stepG, stepO, stepC, eff, look, rem, St.put, St.setMem, setMems, St.after, St.eval, cst, setAt, val1, okNew, newHs, allHs, rdOf, outHs, Reg.item, Reg.next, Reg.skip, slotOf, effBox, effAlloc, entryRow, fieldOff, effField, loadI, load1, loadR, effLoad, storeI, storeB, storeR, szOk, storeTo, effStore, buildOf, effBuild, binInt, eqI, boolOf, binBool, effBin, effUn, effPick, effExtract, ivs, svs, rowOf, allParts, effBuildSlice, zeroRow, effMakeSlice, elemSz, idxA, idxS, effIndex, lenOf, readOf, subPre, maxRow, plainTI, appTo, effAppend, slcOf, effSlice, argOf, resA, resL, resV, outWr, nodupB, restOk, argsPre, argOk, callWr, effCall, effMax, cutSlc, arrElem, cutOf, wrHs, disj, AV.hs, A0.hs, Entry.hs, RC.elem, RC.sz, RC.len, RC.slice, RC.app, hA, initFr, initMem, initSt, resOf, resAll, compEq, compsEq, rowHs, outHds, outsEq, shapeOk, finOk, comps, A0.norm, AV.norm, specOf, t_int, t_bool, t_implForm, t_lawsForm, t_implMatrix, t_implTriple, t_lawsTriple, t_implSpot, t_implunited, t_implCharacter, t_implSymbolStep, t_implbilinear, t_a3int, t_a4int, ts_int, ts_implCharacter, Option.getD_some, Option.getD_none, cond_true, cond_false, Nat.reduceBEq, List.map_cons, List.map_nil, List.set_cons_zero, List.set_cons_succ, List.getElem?_cons_zero, List.getElem?_cons_succ, List.drop_zero, List.drop_succ_cons, List.take_succ_cons, List.take_zero, Option.map_some, Option.map_none, Option.bind_some, Nat.zero_add, Nat.add_zero, Nat.reduceAdd, Nat.reduceMul, true_and, and_true, List.replicate_succ, List.replicate_zero, List.length_cons, List.length_nil, List.all_cons, List.all_nil, List.any_cons, List.any_nil, Bool.and_true, Bool.true_and, Bool.and_false, Bool.false_and, Bool.or_true, Bool.true_or, Bool.or_false, Bool.false_or, Bool.not_true, Bool.not_false, List.append_nil, List.nil_append, List.cons_append, List.flatMap_cons, List.flatMap_nil, List.contains_cons, List.contains_nil, List.filter_cons, List.filter_nil, beq_self_eq_true, Bool.not_eq_true, A0.b.injEq, A0.i.injEq, A0.s.injEq, A0.rw.injEq, A0.fn.injEq, List.cons.injEq, RC.ints.injEq, RC.recs.injEq, RC.bools.injEq, AV.one.injEq, AV.tup.injEq, ble_dec, blt_dec, Nat.reduceLeDiff, Nat.reduceSub, decide_true, decide_false, and_self, List.toList_toArray, Option.isSome_some, Option.isSome_none, List.elem_nil, List.elem_cons, ite_true, ite_false, Bool.false_eq_true, if_true, if_false, reduceIte, flatB_2, flatB_3, flatB_4, List.headD_cons, List.tail_cons, cIsSquare, fIsSquare, cRoot, fRoot, Try.f36]
  refine ⟨hp, ?_⟩
  rw [bif_prop]
  refine ⟨fun h1 => ?_, fun h1 => ⟨hp, ?_⟩⟩
  · have hB := thB_no1 h1
    rw [thX_no hB, hB]; exact ⟨rfl, rfl, rfl⟩
  rw [bif_prop]
  refine ⟨fun h2 => ?_, fun h2 => ⟨hp, rfl, ?_⟩⟩
  · have hB := thB_no2 h2
    rw [thX_no hB, hB]; exact ⟨rfl, rfl, rfl⟩
  have hB := thB_yes h1 h2
  rw [thX_yes hB, hB]; exact ⟨rfl, rfl⟩
def isB (a b c x y z : Int) : Bool := (wrap64 (wrap64 (wrap64 (wrap64 (a * x) * x) + wrap64 (wrap64 (b * y) * y)) + wrap64 (wrap64 (c * z) * z)) == 0) && ((x != 0) || ((y != 0) || (z != 0)))
abbrev fCnIs : Nat := 70
def cCnIs : Ctr
  | [.s [a, b, c], .s [x, y, z]] => some ⟨True, .one (.b (isB a b c x y z)), []⟩
  | _ => none
theorem okCnIs : CtrOk Try.prog fCnIs cCnIs := by
  have hsp : SpecOk Try.prog (specOf []) := SpecOk.nil
  refine ctr_of (fn := Try.f70) mixed tab_ok hsp Try.func70 (by kernel_rfl) (by kernel_rfl) fun args ce h => ?_
  clear hsp
  unfold cCnIs at h
  split at h
  case h_2 => cases h
  rename_i a b c x y z
  simp only [Option.some.injEq] at h
  subst h
  refine ⟨by rfl, fun hp => ⟨0, 1000, ?_⟩⟩
  simp only [vc, out, step, stepE, stepPick, stepG, stepO, stepC, eff, look, rem, St.put, St.setMem, setMems, St.after, St.eval, cst, setAt, val1, okNew, newHs, allHs, rdOf, outHs, Reg.item, Reg.next, Reg.skip, slotOf, effBox, effAlloc, entryRow, fieldOff, effField, loadI, load1, loadR, effLoad, storeI, storeB, storeR, szOk, storeTo, effStore, buildOf, effBuild, binInt, eqI, boolOf, binBool, effBin, effUn, effPick, effExtract, ivs, svs, rowOf, allParts, effBuildSlice, zeroRow, effMakeSlice, elemSz, idxA, idxS, effIndex, lenOf, readOf, subPre, maxRow, plainTI, appTo, effAppend, slcOf, effSlice, argOf, resA, resL, resV, outWr, nodupB, restOk, argsPre, argOk, callWr, effCall, effMax, cutSlc, arrElem, cutOf, wrHs, disj, AV.hs, A0.hs, Entry.hs, RC.elem, RC.sz, RC.len, RC.slice, RC.app, hA, initFr, initMem, initSt, resOf, resAll, compEq, compsEq, rowHs, outHds, outsEq, shapeOk, finOk, comps, A0.norm, AV.norm, specOf, t_int, t_bool, t_implForm, t_lawsForm, t_implMatrix, t_implTriple, t_lawsTriple, t_implSpot, t_implunited, t_implCharacter, t_implSymbolStep, t_implbilinear, t_a3int, t_a4int, ts_int, ts_implCharacter, Option.getD_some, Option.getD_none, cond_true, cond_false, Nat.reduceBEq, List.map_cons, List.map_nil, List.set_cons_zero, List.set_cons_succ, List.getElem?_cons_zero, List.getElem?_cons_succ, List.drop_zero, List.drop_succ_cons, List.take_succ_cons, List.take_zero, Option.map_some, Option.map_none, Option.bind_some, Nat.zero_add, Nat.add_zero, Nat.reduceAdd, Nat.reduceMul, true_and, and_true, List.replicate_succ, List.replicate_zero, List.length_cons, List.length_nil, List.all_cons, List.all_nil, List.any_cons, List.any_nil, Bool.and_true, Bool.true_and, Bool.and_false, Bool.false_and, Bool.or_true, Bool.true_or, Bool.or_false, Bool.false_or, Bool.not_true, Bool.not_false, List.append_nil, List.nil_append, List.cons_append, List.flatMap_cons, List.flatMap_nil, List.contains_cons, List.contains_nil, List.filter_cons, List.filter_nil, beq_self_eq_true, Bool.not_eq_true, A0.b.injEq, A0.i.injEq, A0.s.injEq, A0.rw.injEq, A0.fn.injEq, List.cons.injEq, RC.ints.injEq, RC.recs.injEq, RC.bools.injEq, AV.one.injEq, AV.tup.injEq, ble_dec, blt_dec, Nat.reduceLeDiff, Nat.reduceSub, decide_true, decide_false, and_self, List.toList_toArray, Option.isSome_some, Option.isSome_none, List.elem_nil, List.elem_cons, ite_true, ite_false, Bool.false_eq_true, if_true, if_false, reduceIte, flatB_2, flatB_3, flatB_4, List.headD_cons, List.tail_cons, Try.f70]
  unfold isB
  cases (x != 0) <;> cases (y != 0) <;> cases (z != 0) <;> cases (wrap64 (wrap64 (wrap64 (wrap64 (a * x) * x) + wrap64 (wrap64 (b * y) * y)) + wrap64 (wrap64 (c * z) * z)) == 0) <;> rfl
abbrev fCnGcd : Nat := 32
def cCnGcd : Ctr
  | [.s [x, y, z]] => some ⟨True, .one (.i (nuGcdI (nuGcdI x y) z)), []⟩
  | _ => none
theorem okCnGcd : CtrOk Try.prog fCnGcd cCnGcd := by
  have hsp : SpecOk Try.prog (specOf [(fNuGcd, cNuGcd)]) := (SpecOk.cons okNuGcd SpecOk.nil)
  refine ctr_of (fn := Try.f32) mixed tab_ok hsp Try.func32 (by kernel_rfl) (by kernel_rfl) fun args ce h => ?_
  clear hsp
  unfold cCnGcd at h
  split at h
  case h_2 => cases h
  rename_i x y z
  simp only [Option.some.injEq] at h
  subst h
  refine ⟨by rfl, fun hp => ⟨0, 1000, ?_⟩⟩
  simp only [vc, out, step, stepE, stepPick, stepG, stepO, stepC, eff, look, rem, St.put, St.setMem, setMems, St.after, St.eval, cst, setAt, val1, okNew, newHs, allHs, rdOf, outHs, Reg.item, Reg.next, Reg.skip, slotOf, effBox, effAlloc, entryRow, fieldOff, effField, loadI, load1, loadR, effLoad, storeI, storeB, storeR, szOk, storeTo, effStore, buildOf, effBuild, binInt, eqI, boolOf, binBool, effBin, effUn, effPick, effExtract, ivs, svs, rowOf, allParts, effBuildSlice, zeroRow, effMakeSlice, elemSz, idxA, idxS, effIndex, lenOf, readOf, subPre, maxRow, plainTI, appTo, effAppend, slcOf, effSlice, argOf, resA, resL, resV, outWr, nodupB, restOk, argsPre, argOk, callWr, effCall, effMax, cutSlc, arrElem, cutOf, wrHs, disj, AV.hs, A0.hs, Entry.hs, RC.elem, RC.sz, RC.len, RC.slice, RC.app, hA, initFr, initMem, initSt, resOf, resAll, compEq, compsEq, rowHs, outHds, outsEq, shapeOk, finOk, comps, A0.norm, AV.norm, specOf, t_int, t_bool, t_implForm, t_lawsForm, t_implMatrix, t_implTriple, t_lawsTriple, t_implSpot, t_implunited, t_implCharacter, t_implSymbolStep, t_implbilinear, t_a3int, t_a4int, ts_int, ts_implCharacter, Option.getD_some, Option.getD_none, cond_true, cond_false, Nat.reduceBEq, List.map_cons, List.map_nil, List.set_cons_zero, List.set_cons_succ, List.getElem?_cons_zero, List.getElem?_cons_succ, List.drop_zero, List.drop_succ_cons, List.take_succ_cons, List.take_zero, Option.map_some, Option.map_none, Option.bind_some, Nat.zero_add, Nat.add_zero, Nat.reduceAdd, Nat.reduceMul, true_and, and_true, List.replicate_succ, List.replicate_zero, List.length_cons, List.length_nil, List.all_cons, List.all_nil, List.any_cons, List.any_nil, Bool.and_true, Bool.true_and, Bool.and_false, Bool.false_and, Bool.or_true, Bool.true_or, Bool.or_false, Bool.false_or, Bool.not_true, Bool.not_false, List.append_nil, List.nil_append, List.cons_append, List.flatMap_cons, List.flatMap_nil, List.contains_cons, List.contains_nil, List.filter_cons, List.filter_nil, beq_self_eq_true, Bool.not_eq_true, A0.b.injEq, A0.i.injEq, A0.s.injEq, A0.rw.injEq, A0.fn.injEq, List.cons.injEq, RC.ints.injEq, RC.recs.injEq, RC.bools.injEq, AV.one.injEq, AV.tup.injEq, ble_dec, blt_dec, Nat.reduceLeDiff, Nat.reduceSub, decide_true, decide_false, and_self, List.toList_toArray, Option.isSome_some, Option.isSome_none, List.elem_nil, List.elem_cons, ite_true, ite_false, Bool.false_eq_true, if_true, if_false, reduceIte, flatB_2, flatB_3, flatB_4, List.headD_cons, List.tail_cons, cNuGcd, fNuGcd, Try.f32]
  kernel_rfl
theorem isB_eq {a b c y z : Int} (h : Tr a b c y z) (hB : thB a b c y z = true) : isB a b c (thX a b c y z) y z = ((thX a b c y z != 0) || ((y != 0) || (z != 0))) := by
  obtain ⟨e1, x0, x1⟩ := thX_sq h hB
  obtain ⟨⟨⟨ha, hb, hc⟩, _⟩, hy, hz⟩ := h
  obtain ⟨h1, h2⟩ := quad_bd (b := b) (y := y) hb hy
  obtain ⟨h3, h4⟩ := quad_bd (b := c) (y := z) hc hz
  generalize thX a b c y z = x at *
  have g1 := mul_bd (a := a) (b := x) (j := 400) (k := 12000) (by omega) (by omega) ha ⟨by omega, by omega⟩
  unfold isB
  rw [wrap_id (n := a * x) (by omega) (by omega), wrap_id (n := a * x * x) (by omega) (by omega), wrap_id (n := b * y) (by omega) (by omega), wrap_id (n := b * y * y) (by omega) (by omega), wrap_id (n := c * z) (by omega) (by omega), wrap_id (n := c * z * z) (by omega) (by omega), wrap_id (n := a * x * x + b * y * y) (by omega) (by omega), e1]
  have e0 : (wrap64 0 == 0) = true := by rw [wrap_id (by omega) (by omega)]; rfl
  rw [e0]; rfl
def cxB (a b c y z : Int) : Bool := thB a b c y z && ((thX a b c y z != 0) || ((y != 0) || (z != 0)))
theorem cxB_no {a b c y z : Int} (h : thB a b c y z = false) : cxB a b c y z = false := by unfold cxB; rw [h]; rfl
abbrev fCnX : Nat := 31
def cCnX : Ctr
  | [.s [a, b, c], .i y, .i z] => some ⟨Tr a b c y z, .tup [.s [thX a b c y z, onB (thB a b c y z) y, onB (thB a b c y z) z], .b (cxB a b c y z)], []⟩
  | _ => none
theorem okCnX : CtrOk Try.prog fCnX cCnX := by
  have hsp : SpecOk Try.prog (specOf [(fNuSquare, cNuSquare), (fNuRoot, cNuRoot), (fCnIs, cCnIs)]) := (SpecOk.cons okNuSquare (SpecOk.cons okNuRoot (SpecOk.cons okCnIs SpecOk.nil)))
  refine ctr_of (fn := Try.f31) mixed tab_ok hsp Try.func31 (by kernel_rfl) (by kernel_rfl) fun args ce h => ?_
  clear hsp
  unfold cCnX at h
  split at h
  case h_2 => cases h
  rename_i a b c y z
  simp only [Option.some.injEq] at h
  subst h
  refine ⟨by rfl, fun hp => ⟨0, 1000, ?_⟩⟩
  simp only [vc, out, step, stepE, stepPick, stepG, stepO, stepC, eff, look, rem, St.put, St.setMem, setMems, St.after, St.eval, cst, setAt, val1, okNew, newHs, allHs, rdOf, outHs, Reg.item, Reg.next, Reg.skip, slotOf, effBox, effAlloc, entryRow, fieldOff, effField, loadI, load1, loadR, effLoad, storeI, storeB, storeR, szOk, storeTo, effStore, buildOf, effBuild, binInt, eqI, boolOf, binBool, effBin, effUn, effPick, effExtract, ivs, svs, rowOf, allParts, effBuildSlice, zeroRow, effMakeSlice, elemSz, idxA, idxS, effIndex, lenOf, readOf, subPre, maxRow, plainTI, appTo, effAppend, slcOf, effSlice, argOf, resA, resL, resV, outWr, nodupB, restOk, argsPre, argOk, callWr, effCall, effMax, cutSlc, arrElem, cutOf, wrHs, disj, AV.hs, A0.hs, Entry.hs, RC.elem, RC.sz, RC.len, RC.slice, RC.app, hA, initFr, initMem, initSt, resOf, resAll, compEq, compsEq, rowHs, outHds, outsEq, shapeOk, finOk, comps, A0.norm, AV.norm, specOf, t_int, t_bool, t_implForm, t_lawsForm, t_implMatrix, t_implTriple, t_lawsTriple, t_implSpot, t_implunited, t_implCharacter, t_implSymbolStep, t_implbilinear, t_a3int, t_a4int, ts_int, ts_implCharacter, Option.getD_some, Option.getD_none, cond_true, cond_false, Nat.reduceBEq, List.map_cons, List.map_nil, List.set_cons_zero, List.set_cons_succ, List.getElem?_cons_zero, List.getElem?_cons_succ, List.drop_zero, List.drop_succ_cons, List.take_succ_cons, List.take_zero, Option.map_some, Option.map_none, Option.bind_some, Nat.zero_add, Nat.add_zero, Nat.reduceAdd, Nat.reduceMul, true_and, and_true, List.replicate_succ, List.replicate_zero, List.length_cons, List.length_nil, List.all_cons, List.all_nil, List.any_cons, List.any_nil, Bool.and_true, Bool.true_and, Bool.and_false, Bool.false_and, Bool.or_true, Bool.true_or, Bool.or_false, Bool.false_or, Bool.not_true, Bool.not_false, List.append_nil, List.nil_append, List.cons_append, List.flatMap_cons, List.flatMap_nil, List.contains_cons, List.contains_nil, List.filter_cons, List.filter_nil, beq_self_eq_true, Bool.not_eq_true, A0.b.injEq, A0.i.injEq, A0.s.injEq, A0.rw.injEq, A0.fn.injEq, List.cons.injEq, RC.ints.injEq, RC.recs.injEq, RC.bools.injEq, AV.one.injEq, AV.tup.injEq, ble_dec, blt_dec, Nat.reduceLeDiff, Nat.reduceSub, decide_true, decide_false, and_self, List.toList_toArray, Option.isSome_some, Option.isSome_none, List.elem_nil, List.elem_cons, ite_true, ite_false, Bool.false_eq_true, if_true, if_false, reduceIte, flatB_2, flatB_3, flatB_4, List.headD_cons, List.tail_cons, cNuSquare, fNuSquare, cNuRoot, fNuRoot, cCnIs, fCnIs, Try.f31]
  have hT : Tr a b c y z := hp
  obtain ⟨_, hq0, hq1⟩ := thQ_in hT
  have hq : wrap64 ((wrap64 (wrap64 (wrap64 (wrap64 (0 - b) * y) * y) - wrap64 (wrap64 (c * z) * z))).tdiv a) = thQ a b c y z := rfl
  have hr : wrap64 (wrap64 (wrap64 (wrap64 (0 - b) * y) * y) - wrap64 (wrap64 (c * z) * z)) = thR b c y z := rfl
  rw [hq, hr]
  have ha : a ≠ 0 := hT.1.2
  refine ⟨ha, ?_⟩
  rw [bif_prop]
  refine ⟨fun h1 => ?_, fun h1 => ⟨ha, by omega, ?_⟩⟩
  · have hB := thB_no1 h1
    rw [thX_no hB, cxB_no hB, hB]; exact ⟨rfl, ⟨rfl, rfl, rfl⟩, rfl⟩
  rw [bif_prop]
  refine ⟨fun h2 => ?_, fun h2 => ?_⟩
  · have hB := thB_no2 h2
    rw [thX_no hB, cxB_no hB, hB]; exact ⟨rfl, ⟨rfl, rfl, rfl⟩, rfl⟩
  have hB := thB_yes h1 h2
  have h0 : 0 ≤ thQ a b c y z := by
    have : sqB (thQ a b c y z) = true := by simpa using h2
    simp only [sqB, Bool.and_eq_true, decide_eq_true_eq] at this
    exact this.1
  have hI := isB_eq hT hB
  unfold cxB
  rw [thX_yes hB] at hI
  rw [thX_yes hB, hI, hB]
  exact ⟨ha, ⟨h0, by omega⟩, by kernel_rfl, rfl, ⟨rfl, rfl, rfl⟩, rfl⟩

/-! ### the solutions in a box -/
def slP (a b c m y z : Int) : Bool := thB a b c y z && (decide (thX a b c y z ≤ m) && (gcdI (thX a b c y z) (gcdI y z) == 1))
def slX (a b c y z : Int) : F3 := (thX a b c y z, y, z)
def rowL (a b c m z y : Int) : List F3 := if _h : y ≤ m then (if slP a b c m y z = true then [slX a b c y z] else []) ++ rowL a b c m z (y + 1) else []
  termination_by (m + 1 - y).toNat
  decreasing_by omega
def outL (a b c m z : Int) : List F3 := if _h : z ≤ m then rowL a b c m z 0 ++ outL a b c m (z + 1) else []
  termination_by (m + 1 - z).toNat
  decreasing_by omega
theorem rowL_len (a b c m z y : Int) : (rowL a b c m z y).length ≤ (m + 1 - y).toNat := by
  fun_induction rowL a b c m z y with
  | case1 y h ih =>
    rw [List.length_append]
    have : (if slP a b c m y z = true then [slX a b c y z] else []).length ≤ 1 := by split <;> simp
    omega
  | case2 => simp
theorem outL_len {a b c m z : Int} (hm : m ≤ 60) : (outL a b c m z).length ≤ 61 * (m + 1 - z).toNat := by
  fun_induction outL a b c m z with
  | case1 z h ih =>
    rw [List.length_append]
    have := rowL_len a b c m z 0
    omega
  | case2 => simp
theorem rowL_yes {a b c m z y : Int} (h : y ≤ m) (hP : slP a b c m y z = true) : rowL a b c m z y = slX a b c y z :: rowL a b c m z (y + 1) := by
  rw [rowL.eq_def, dif_pos h, if_pos hP]; rfl
theorem rowL_no {a b c m z y : Int} (h : y ≤ m) (hP : slP a b c m y z = false) : rowL a b c m z y = rowL a b c m z (y + 1) := by
  rw [rowL.eq_def, dif_pos h, if_neg (by rw [hP]; simp)]; rfl
theorem rowL_end {a b c m z y : Int} (h : ¬ y ≤ m) : rowL a b c m z y = [] := by rw [rowL.eq_def, dif_neg h]
theorem outL_yes {a b c m z : Int} (h : z ≤ m) : outL a b c m z = rowL a b c m z 0 ++ outL a b c m (z + 1) := by rw [outL.eq_def, dif_pos h]
theorem outL_end {a b c m z : Int} (h : ¬ z ≤ m) : outL a b c m z = [] := by rw [outL.eq_def, dif_neg h]
def solB (a b c m : Int) : Bool := triB a b c && inI m 0 60
def solL (a b c m : Int) : List F3 := outL a b c m 0
theorem fl_slX (L : List F3) (a b c y z : Int) : fl L ++ [[thX a b c y z, y, z]] = fl (L ++ [slX a b c y z]) := fl_snoc L (slX a b c y z)
theorem sol_len {a b c m z y : Int} {acc : List F3} (hm : 0 ≤ m ∧ m ≤ 60) (h : acc ++ rowL a b c m z y ++ outL a b c m (z + 1) = solL a b c m) : acc.length ≤ 3800 := by
  have h1 := congrArg List.length h
  have h2 : (solL a b c m).length ≤ 61 * (m + 1 - 0).toNat := outL_len hm.2
  rw [List.length_append, List.length_append] at h1
  omega
-- (not in this seat: Sols)
theorem slP_no {a b c m y z : Int} (h : cxB a b c y z = false) : slP a b c m y z = false := by
  unfold slP
  cases hB : thB a b c y z with
  | false => rfl
  | true =>
    unfold cxB at h
    rw [hB] at h
    simp only [Bool.true_and, Bool.or_eq_false_iff, bne_eq_false_iff_eq] at h
    obtain ⟨h1, h2, h3⟩ := h
    have e0 : gcdI 0 0 = 0 := by rw [gcdI_eq (by decide) (by decide)]; rfl
    rw [h1, h2, h3, e0, e0]; simp
theorem slP_eq {a b c m y z : Int} (hT : Tr a b c y z) (h : cxB a b c y z = true) : slP a b c m y z = (decide (thX a b c y z ≤ m) && (nuGcdI (nuGcdI (thX a b c y z) y) z == 1)) ∧ thB a b c y z = true := by
  have hB : thB a b c y z = true := by
    unfold cxB at h; simp only [Bool.and_eq_true] at h; exact h.1
  obtain ⟨_, x0, x1⟩ := thX_sq hT hB
  obtain ⟨_, hy, hz⟩ := hT
  rw [content_eq (by omega) (by omega) (by omega)]
  unfold slP; rw [hB]; exact ⟨rfl, rfl⟩
-- (not in this seat: SSols)
theorem heldS_pos (n : Nat) : decide (1 + 3 * (n : Int) < 0) = false := by rw [decide_eq_false_iff_not]; omega
theorem solL_le {a b c m : Int} : (fl (onL (solB a b c m) (solL a b c m))).length ≤ 4000 := by
  rw [fl_length]
  cases h : solB a b c m with
  | false => simp [onL]
  | true =>
    simp only [solB, inI, Bool.and_eq_true, decide_eq_true_eq] at h
    have h2 : (solL a b c m).length ≤ 61 * (m + 1 - 0).toNat := outL_len (by omega)
    show (solL a b c m).length ≤ 4000
    omega
-- (not in this seat: LawSols)
end Go.Proofs.Ythjmjacniemfiab
