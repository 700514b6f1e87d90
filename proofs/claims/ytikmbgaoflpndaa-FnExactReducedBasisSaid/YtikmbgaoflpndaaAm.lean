/-
  Contracts of IsAmbiguousClass, AmbiguousKind, IsIdentity and EquivalenceMatrix on both sides, and of their laws. Conditions: none.
-/
import Derived.Test.YtikmbgaoflpndaaRdc
import Derived.Test.YtikmbgaoflpndaaInv
import Derived.Test.YtikmbgaoflpndaaLst4
namespace Go.Proofs.Ytikmbgaoflpndaa
open Go Go.RowKit
set_option maxRecDepth 100000
set_option linter.unusedSimpArgs false
set_option linter.unusedVariables false
set_option maxHeartbeats 4000000

abbrev fIsAmb : Nat := 56
def cIsAmb : Ctr
  | [.s [a, b, c]] => some ⟨True, .one (.b (ambB (a, b, c))), []⟩
  | _ => none
theorem okIsAmb : CtrOk Try.prog fIsAmb cIsAmb := by
  have hsp : SpecOk Try.prog (specOf []) := SpecOk.nil
  refine ctr_of (fn := Try.f56) mixed tab_ok hsp Try.func56 (by kernel_rfl) (by kernel_rfl) fun args ce h => ?_
  clear hsp
  unfold cIsAmb at h
  split at h
  case h_2 => cases h
  rename_i a b c
  simp only [Option.some.injEq] at h
  subst h
  refine ⟨by rfl, fun hp => ⟨0, 1000, ?_⟩⟩
  simp only [vc, out, step, stepE, stepPick, stepG, stepO, stepC, eff, look, rem, St.put, St.setMem, setMems, St.after, St.eval, cst, setAt, val1, okNew, newHs, allHs, rdOf, outHs, Reg.item, Reg.next, Reg.skip, slotOf, effBox, effAlloc, entryRow, fieldOff, effField, loadI, load1, loadR, effLoad, storeI, storeB, storeR, szOk, storeTo, effStore, buildOf, effBuild, binInt, eqI, boolOf, binBool, effBin, effUn, effPick, effExtract, ivs, svs, rowOf, allParts, effBuildSlice, zeroRow, effMakeSlice, elemSz, idxA, idxS, effIndex, lenOf, readOf, subPre, maxRow, plainTI, appTo, effAppend, slcOf, effSlice, argOf, resA, resL, resV, outWr, nodupB, restOk, argsPre, argOk, callWr, effCall, effMax, wrHs, disj, AV.hs, A0.hs, Entry.hs, RC.elem, RC.sz, RC.len, RC.slice, RC.app, hA, initFr, initMem, initSt, resOf, resAll, compEq, compsEq, rowHs, outHds, outsEq, shapeOk, finOk, comps, A0.norm, AV.norm, specOf, t_int, t_bool, t_implForm, t_lawsForm, t_implMatrix, t_implPoint, t_implLattice, t_lawsLattice, t_implTriple, t_lawsTriple, t_implSpot, t_implCube, t_implunited, t_implentries, t_a8int, ts_int, ts_implForm, ts_implSpot, Option.getD_some, Option.getD_none, cond_true, cond_false, Nat.reduceBEq, List.map_cons, List.map_nil, List.set_cons_zero, List.set_cons_succ, List.getElem?_cons_zero, List.getElem?_cons_succ, List.drop_zero, List.drop_succ_cons, List.take_succ_cons, List.take_zero, Option.map_some, Option.map_none, Option.bind_some, Nat.zero_add, Nat.add_zero, Nat.reduceAdd, Nat.reduceMul, true_and, and_true, List.replicate_succ, List.replicate_zero, List.length_cons, List.length_nil, List.all_cons, List.all_nil, List.any_cons, List.any_nil, Bool.and_true, Bool.true_and, Bool.and_false, Bool.false_and, Bool.or_true, Bool.true_or, Bool.or_false, Bool.false_or, Bool.not_true, Bool.not_false, List.append_nil, List.nil_append, List.cons_append, List.flatMap_cons, List.flatMap_nil, List.contains_cons, List.contains_nil, List.filter_cons, List.filter_nil, beq_self_eq_true, Bool.not_eq_true, A0.b.injEq, A0.i.injEq, A0.s.injEq, A0.rw.injEq, A0.fn.injEq, List.cons.injEq, RC.ints.injEq, RC.recs.injEq, RC.bools.injEq, AV.one.injEq, AV.tup.injEq, ble_dec, blt_dec, Nat.reduceLeDiff, Nat.reduceSub, decide_true, decide_false, and_self, List.toList_toArray, Option.isSome_some, Option.isSome_none, List.elem_nil, List.elem_cons, ite_true, ite_false, Bool.false_eq_true, if_true, if_false, reduceIte, flatB_2, flatB_3, flatB_4, List.headD_cons, List.tail_cons, Try.f56]
  unfold ambB
  cases (b == 0) <;> cases (a == b) <;> cases (a == c) <;> rfl
def rd3 (a b c : Int) : F3 := (rdA a b c, rdB a b c, rdC a b c)
theorem rd3_eq {a b c : Int} (h : domB a b c = true) : rd3 a b c = rdx (a, b, c) := by
  obtain ⟨e1, e2, e3, _⟩ := rd_eqs h
  unfold rd3
  rw [e1, e2, e3]
theorem eqI_3 (a b c x y z : Int) : (bif a == x then (bif b == y then (bif c == z then true else false) else false) else false) = decide ((a, b, c) = (x, y, z)) := by
  rw [Bool.eq_iff_iff]
  cases h1 : (a == x) <;> cases h2 : (b == y) <;> cases h3 : (c == z) <;> simp_all
abbrev fGeAmb : Nat := 53
def cGeAmb : Ctr
  | [.s [a, b, c]] => some ⟨domB a b c = true, .one (.b (ambB (rd3 a b c))), []⟩
  | _ => none
theorem okGeAmb : CtrOk Try.prog fGeAmb cGeAmb := by
  have hsp : SpecOk Try.prog (specOf [(fReClass, cReClass), (fCoInverse, cCoInverse)]) := (SpecOk.cons okReClass (SpecOk.cons okCoInverse SpecOk.nil))
  refine ctr_of (fn := Try.f53) mixed tab_ok hsp Try.func53 (by kernel_rfl) (by kernel_rfl) fun args ce h => ?_
  clear hsp
  unfold cGeAmb at h
  split at h
  case h_2 => cases h
  rename_i a b c
  simp only [Option.some.injEq] at h
  subst h
  refine ⟨by rfl, fun hp => ⟨0, 1000, ?_⟩⟩
  simp only [vc, out, step, stepE, stepPick, stepG, stepO, stepC, eff, look, rem, St.put, St.setMem, setMems, St.after, St.eval, cst, setAt, val1, okNew, newHs, allHs, rdOf, outHs, Reg.item, Reg.next, Reg.skip, slotOf, effBox, effAlloc, entryRow, fieldOff, effField, loadI, load1, loadR, effLoad, storeI, storeB, storeR, szOk, storeTo, effStore, buildOf, effBuild, binInt, eqI, boolOf, binBool, effBin, effUn, effPick, effExtract, ivs, svs, rowOf, allParts, effBuildSlice, zeroRow, effMakeSlice, elemSz, idxA, idxS, effIndex, lenOf, readOf, subPre, maxRow, plainTI, appTo, effAppend, slcOf, effSlice, argOf, resA, resL, resV, outWr, nodupB, restOk, argsPre, argOk, callWr, effCall, effMax, wrHs, disj, AV.hs, A0.hs, Entry.hs, RC.elem, RC.sz, RC.len, RC.slice, RC.app, hA, initFr, initMem, initSt, resOf, resAll, compEq, compsEq, rowHs, outHds, outsEq, shapeOk, finOk, comps, A0.norm, AV.norm, specOf, t_int, t_bool, t_implForm, t_lawsForm, t_implMatrix, t_implPoint, t_implLattice, t_lawsLattice, t_implTriple, t_lawsTriple, t_implSpot, t_implCube, t_implunited, t_implentries, t_a8int, ts_int, ts_implForm, ts_implSpot, Option.getD_some, Option.getD_none, cond_true, cond_false, Nat.reduceBEq, List.map_cons, List.map_nil, List.set_cons_zero, List.set_cons_succ, List.getElem?_cons_zero, List.getElem?_cons_succ, List.drop_zero, List.drop_succ_cons, List.take_succ_cons, List.take_zero, Option.map_some, Option.map_none, Option.bind_some, Nat.zero_add, Nat.add_zero, Nat.reduceAdd, Nat.reduceMul, true_and, and_true, List.replicate_succ, List.replicate_zero, List.length_cons, List.length_nil, List.all_cons, List.all_nil, List.any_cons, List.any_nil, Bool.and_true, Bool.true_and, Bool.and_false, Bool.false_and, Bool.or_true, Bool.true_or, Bool.or_false, Bool.false_or, Bool.not_true, Bool.not_false, List.append_nil, List.nil_append, List.cons_append, List.flatMap_cons, List.flatMap_nil, List.contains_cons, List.contains_nil, List.filter_cons, List.filter_nil, beq_self_eq_true, Bool.not_eq_true, A0.b.injEq, A0.i.injEq, A0.s.injEq, A0.rw.injEq, A0.fn.injEq, List.cons.injEq, RC.ints.injEq, RC.recs.injEq, RC.bools.injEq, AV.one.injEq, AV.tup.injEq, ble_dec, blt_dec, Nat.reduceLeDiff, Nat.reduceSub, decide_true, decide_false, and_self, List.toList_toArray, Option.isSome_some, Option.isSome_none, List.elem_nil, List.elem_cons, ite_true, ite_false, Bool.false_eq_true, if_true, if_false, reduceIte, flatB_2, flatB_3, flatB_4, List.headD_cons, List.tail_cons, cReClass, fReClass, cCoInverse, fCoInverse, Try.f53]
  have hd : domB a b c = true := hp
  have e0 : wrap64 (0 - b) = -b := (domB_iff.1 hd).neg
  have hd' : domB a (-b) c = true := opp_dom (x := (a, b, c)) hd
  refine ⟨hd, by rw [e0]; exact hd', by kernel_rfl, ?_⟩
  rw [eqI_3, e0, rd3_eq hd, Bool.eq_iff_iff, decide_eq_true_iff, ← amb_eq (x := (a, b, c)) hd]
  have e1 := rd3_eq hd
  have e2 : rd3 a (-b) c = rdx (opp (a, b, c)) := rd3_eq hd'
  unfold rd3 at e1 e2
  rw [e1, e2]
abbrev fIsAmbC : Nat := 17
def cIsAmbC : Ctr
  | [.s [a, b, c]] => some ⟨True, .tup [.b (classB a b c && ambB (rd3 a b c)), .b (classB a b c)], []⟩
  | _ => none
theorem okIsAmbC : CtrOk Try.prog fIsAmbC cIsAmbC := by
  have hsp : SpecOk Try.prog (specOf [(fIsClass, cIsClass), (fReduced1, cReduced1), (fIsAmb, cIsAmb)]) := (SpecOk.cons okIsClass (SpecOk.cons okReduced1 (SpecOk.cons okIsAmb SpecOk.nil)))
  refine ctr_of (fn := Try.f17) mixed tab_ok hsp Try.func17 (by kernel_rfl) (by kernel_rfl) fun args ce h => ?_
  clear hsp
  unfold cIsAmbC at h
  split at h
  case h_2 => cases h
  rename_i a b c
  simp only [Option.some.injEq] at h
  subst h
  refine ⟨by rfl, fun hp => ⟨0, 1000, ?_⟩⟩
  simp only [vc, out, step, stepE, stepPick, stepG, stepO, stepC, eff, look, rem, St.put, St.setMem, setMems, St.after, St.eval, cst, setAt, val1, okNew, newHs, allHs, rdOf, outHs, Reg.item, Reg.next, Reg.skip, slotOf, effBox, effAlloc, entryRow, fieldOff, effField, loadI, load1, loadR, effLoad, storeI, storeB, storeR, szOk, storeTo, effStore, buildOf, effBuild, binInt, eqI, boolOf, binBool, effBin, effUn, effPick, effExtract, ivs, svs, rowOf, allParts, effBuildSlice, zeroRow, effMakeSlice, elemSz, idxA, idxS, effIndex, lenOf, readOf, subPre, maxRow, plainTI, appTo, effAppend, slcOf, effSlice, argOf, resA, resL, resV, outWr, nodupB, restOk, argsPre, argOk, callWr, effCall, effMax, wrHs, disj, AV.hs, A0.hs, Entry.hs, RC.elem, RC.sz, RC.len, RC.slice, RC.app, hA, initFr, initMem, initSt, resOf, resAll, compEq, compsEq, rowHs, outHds, outsEq, shapeOk, finOk, comps, A0.norm, AV.norm, specOf, t_int, t_bool, t_implForm, t_lawsForm, t_implMatrix, t_implPoint, t_implLattice, t_lawsLattice, t_implTriple, t_lawsTriple, t_implSpot, t_implCube, t_implunited, t_implentries, t_a8int, ts_int, ts_implForm, ts_implSpot, Option.getD_some, Option.getD_none, cond_true, cond_false, Nat.reduceBEq, List.map_cons, List.map_nil, List.set_cons_zero, List.set_cons_succ, List.getElem?_cons_zero, List.getElem?_cons_succ, List.drop_zero, List.drop_succ_cons, List.take_succ_cons, List.take_zero, Option.map_some, Option.map_none, Option.bind_some, Nat.zero_add, Nat.add_zero, Nat.reduceAdd, Nat.reduceMul, true_and, and_true, List.replicate_succ, List.replicate_zero, List.length_cons, List.length_nil, List.all_cons, List.all_nil, List.any_cons, List.any_nil, Bool.and_true, Bool.true_and, Bool.and_false, Bool.false_and, Bool.or_true, Bool.true_or, Bool.or_false, Bool.false_or, Bool.not_true, Bool.not_false, List.append_nil, List.nil_append, List.cons_append, List.flatMap_cons, List.flatMap_nil, List.contains_cons, List.contains_nil, List.filter_cons, List.filter_nil, beq_self_eq_true, Bool.not_eq_true, A0.b.injEq, A0.i.injEq, A0.s.injEq, A0.rw.injEq, A0.fn.injEq, List.cons.injEq, RC.ints.injEq, RC.recs.injEq, RC.bools.injEq, AV.one.injEq, AV.tup.injEq, ble_dec, blt_dec, Nat.reduceLeDiff, Nat.reduceSub, decide_true, decide_false, and_self, List.toList_toArray, Option.isSome_some, Option.isSome_none, List.elem_nil, List.elem_cons, ite_true, ite_false, Bool.false_eq_true, if_true, if_false, reduceIte, flatB_2, flatB_3, flatB_4, List.headD_cons, List.tail_cons, cIsClass, fIsClass, cReduced1, fReduced1, cIsAmb, fIsAmb, Try.f17]
  cases h : classB a b c with
  | false => exact ⟨rfl, rfl, rfl⟩
  | true => exact ⟨class_domB h, rfl, rfl, rfl⟩
abbrev fSIsAmbC : Nat := 15
def cSIsAmbC : Ctr
  | [.s [a, b, c]] => some ⟨True, .tup [.b (classB a b c && ambB (rd3 a b c)), .b (classB a b c)], []⟩
  | _ => none
theorem okSIsAmbC : CtrOk Try.prog fSIsAmbC cSIsAmbC := by
  have hsp : SpecOk Try.prog (specOf [(fCoGood, cCoGood), (fGeAmb, cGeAmb)]) := (SpecOk.cons okCoGood (SpecOk.cons okGeAmb SpecOk.nil))
  refine ctr_of (fn := Try.f15) mixed tab_ok hsp Try.func15 (by kernel_rfl) (by kernel_rfl) fun args ce h => ?_
  clear hsp
  unfold cSIsAmbC at h
  split at h
  case h_2 => cases h
  rename_i a b c
  simp only [Option.some.injEq] at h
  subst h
  refine ⟨by rfl, fun hp => ⟨0, 1000, ?_⟩⟩
  simp only [vc, out, step, stepE, stepPick, stepG, stepO, stepC, eff, look, rem, St.put, St.setMem, setMems, St.after, St.eval, cst, setAt, val1, okNew, newHs, allHs, rdOf, outHs, Reg.item, Reg.next, Reg.skip, slotOf, effBox, effAlloc, entryRow, fieldOff, effField, loadI, load1, loadR, effLoad, storeI, storeB, storeR, szOk, storeTo, effStore, buildOf, effBuild, binInt, eqI, boolOf, binBool, effBin, effUn, effPick, effExtract, ivs, svs, rowOf, allParts, effBuildSlice, zeroRow, effMakeSlice, elemSz, idxA, idxS, effIndex, lenOf, readOf, subPre, maxRow, plainTI, appTo, effAppend, slcOf, effSlice, argOf, resA, resL, resV, outWr, nodupB, restOk, argsPre, argOk, callWr, effCall, effMax, wrHs, disj, AV.hs, A0.hs, Entry.hs, RC.elem, RC.sz, RC.len, RC.slice, RC.app, hA, initFr, initMem, initSt, resOf, resAll, compEq, compsEq, rowHs, outHds, outsEq, shapeOk, finOk, comps, A0.norm, AV.norm, specOf, t_int, t_bool, t_implForm, t_lawsForm, t_implMatrix, t_implPoint, t_implLattice, t_lawsLattice, t_implTriple, t_lawsTriple, t_implSpot, t_implCube, t_implunited, t_implentries, t_a8int, ts_int, ts_implForm, ts_implSpot, Option.getD_some, Option.getD_none, cond_true, cond_false, Nat.reduceBEq, List.map_cons, List.map_nil, List.set_cons_zero, List.set_cons_succ, List.getElem?_cons_zero, List.getElem?_cons_succ, List.drop_zero, List.drop_succ_cons, List.take_succ_cons, List.take_zero, Option.map_some, Option.map_none, Option.bind_some, Nat.zero_add, Nat.add_zero, Nat.reduceAdd, Nat.reduceMul, true_and, and_true, List.replicate_succ, List.replicate_zero, List.length_cons, List.length_nil, List.all_cons, List.all_nil, List.any_cons, List.any_nil, Bool.and_true, Bool.true_and, Bool.and_false, Bool.false_and, Bool.or_true, Bool.true_or, Bool.or_false, Bool.false_or, Bool.not_true, Bool.not_false, List.append_nil, List.nil_append, List.cons_append, List.flatMap_cons, List.flatMap_nil, List.contains_cons, List.contains_nil, List.filter_cons, List.filter_nil, beq_self_eq_true, Bool.not_eq_true, A0.b.injEq, A0.i.injEq, A0.s.injEq, A0.rw.injEq, A0.fn.injEq, List.cons.injEq, RC.ints.injEq, RC.recs.injEq, RC.bools.injEq, AV.one.injEq, AV.tup.injEq, ble_dec, blt_dec, Nat.reduceLeDiff, Nat.reduceSub, decide_true, decide_false, and_self, List.toList_toArray, Option.isSome_some, Option.isSome_none, List.elem_nil, List.elem_cons, ite_true, ite_false, Bool.false_eq_true, if_true, if_false, reduceIte, flatB_2, flatB_3, flatB_4, List.headD_cons, List.tail_cons, cCoGood, fCoGood, cGeAmb, fGeAmb, Try.f15]
  rw [class_eq]
  cases h : classB a b c with
  | false => exact ⟨rfl, rfl, rfl⟩
  | true => exact ⟨class_domB h, rfl, rfl, rfl⟩
abbrev fLawIsAmb : Nat := 3
def cLawIsAmb : Ctr
  | [.s [a, b, c]] => some ⟨True, .one (.b true), []⟩
  | _ => none
theorem okLawIsAmb : CtrOk Try.prog fLawIsAmb cLawIsAmb := by
  have hsp : SpecOk Try.prog (specOf [(fToForm, cToForm), (fSIsAmbC, cSIsAmbC), (fIsAmbC, cIsAmbC)]) := (SpecOk.cons okToForm (SpecOk.cons okSIsAmbC (SpecOk.cons okIsAmbC SpecOk.nil)))
  refine ctr_of (fn := Try.f3) mixed tab_ok hsp Try.func3 (by kernel_rfl) (by kernel_rfl) fun args ce h => ?_
  clear hsp
  unfold cLawIsAmb at h
  split at h
  case h_2 => cases h
  rename_i a b c
  simp only [Option.some.injEq] at h
  subst h
  refine ⟨by rfl, fun hp => ⟨0, 1000, ?_⟩⟩
  simp only [vc, out, step, stepE, stepPick, stepG, stepO, stepC, eff, look, rem, St.put, St.setMem, setMems, St.after, St.eval, cst, setAt, val1, okNew, newHs, allHs, rdOf, outHs, Reg.item, Reg.next, Reg.skip, slotOf, effBox, effAlloc, entryRow, fieldOff, effField, loadI, load1, loadR, effLoad, storeI, storeB, storeR, szOk, storeTo, effStore, buildOf, effBuild, binInt, eqI, boolOf, binBool, effBin, effUn, effPick, effExtract, ivs, svs, rowOf, allParts, effBuildSlice, zeroRow, effMakeSlice, elemSz, idxA, idxS, effIndex, lenOf, readOf, subPre, maxRow, plainTI, appTo, effAppend, slcOf, effSlice, argOf, resA, resL, resV, outWr, nodupB, restOk, argsPre, argOk, callWr, effCall, effMax, wrHs, disj, AV.hs, A0.hs, Entry.hs, RC.elem, RC.sz, RC.len, RC.slice, RC.app, hA, initFr, initMem, initSt, resOf, resAll, compEq, compsEq, rowHs, outHds, outsEq, shapeOk, finOk, comps, A0.norm, AV.norm, specOf, t_int, t_bool, t_implForm, t_lawsForm, t_implMatrix, t_implPoint, t_implLattice, t_lawsLattice, t_implTriple, t_lawsTriple, t_implSpot, t_implCube, t_implunited, t_implentries, t_a8int, ts_int, ts_implForm, ts_implSpot, Option.getD_some, Option.getD_none, cond_true, cond_false, Nat.reduceBEq, List.map_cons, List.map_nil, List.set_cons_zero, List.set_cons_succ, List.getElem?_cons_zero, List.getElem?_cons_succ, List.drop_zero, List.drop_succ_cons, List.take_succ_cons, List.take_zero, Option.map_some, Option.map_none, Option.bind_some, Nat.zero_add, Nat.add_zero, Nat.reduceAdd, Nat.reduceMul, true_and, and_true, List.replicate_succ, List.replicate_zero, List.length_cons, List.length_nil, List.all_cons, List.all_nil, List.any_cons, List.any_nil, Bool.and_true, Bool.true_and, Bool.and_false, Bool.false_and, Bool.or_true, Bool.true_or, Bool.or_false, Bool.false_or, Bool.not_true, Bool.not_false, List.append_nil, List.nil_append, List.cons_append, List.flatMap_cons, List.flatMap_nil, List.contains_cons, List.contains_nil, List.filter_cons, List.filter_nil, beq_self_eq_true, Bool.not_eq_true, A0.b.injEq, A0.i.injEq, A0.s.injEq, A0.rw.injEq, A0.fn.injEq, List.cons.injEq, RC.ints.injEq, RC.recs.injEq, RC.bools.injEq, AV.one.injEq, AV.tup.injEq, ble_dec, blt_dec, Nat.reduceLeDiff, Nat.reduceSub, decide_true, decide_false, and_self, List.toList_toArray, Option.isSome_some, Option.isSome_none, List.elem_nil, List.elem_cons, ite_true, ite_false, Bool.false_eq_true, if_true, if_false, reduceIte, flatB_2, flatB_3, flatB_4, List.headD_cons, List.tail_cons, cToForm, fToForm, cSIsAmbC, fSIsAmbC, cIsAmbC, fIsAmbC, Try.f3]
  cases classB a b c <;> cases ambB (rd3 a b c) <;> trivial
def kindI (x : F3) : Int := bif x.2.1 == 0 then 1 else bif x.1 == x.2.1 then 2 else bif x.1 == x.2.2 then 3 else 0
abbrev fAmbKind : Nat := 39
def cAmbKind : Ctr
  | [.s [a, b, c]] => some ⟨True, .tup [.i (onB (classB a b c) (kindI (rd3 a b c))), .b (classB a b c)], []⟩
  | _ => none
theorem okAmbKind : CtrOk Try.prog fAmbKind cAmbKind := by
  have hsp : SpecOk Try.prog (specOf [(fIsClass, cIsClass), (fReduced1, cReduced1)]) := (SpecOk.cons okIsClass (SpecOk.cons okReduced1 SpecOk.nil))
  refine ctr_of (fn := Try.f39) mixed tab_ok hsp Try.func39 (by kernel_rfl) (by kernel_rfl) fun args ce h => ?_
  clear hsp
  unfold cAmbKind at h
  split at h
  case h_2 => cases h
  rename_i a b c
  simp only [Option.some.injEq] at h
  subst h
  refine ⟨by rfl, fun hp => ⟨0, 1000, ?_⟩⟩
  simp only [vc, out, step, stepE, stepPick, stepG, stepO, stepC, eff, look, rem, St.put, St.setMem, setMems, St.after, St.eval, cst, setAt, val1, okNew, newHs, allHs, rdOf, outHs, Reg.item, Reg.next, Reg.skip, slotOf, effBox, effAlloc, entryRow, fieldOff, effField, loadI, load1, loadR, effLoad, storeI, storeB, storeR, szOk, storeTo, effStore, buildOf, effBuild, binInt, eqI, boolOf, binBool, effBin, effUn, effPick, effExtract, ivs, svs, rowOf, allParts, effBuildSlice, zeroRow, effMakeSlice, elemSz, idxA, idxS, effIndex, lenOf, readOf, subPre, maxRow, plainTI, appTo, effAppend, slcOf, effSlice, argOf, resA, resL, resV, outWr, nodupB, restOk, argsPre, argOk, callWr, effCall, effMax, wrHs, disj, AV.hs, A0.hs, Entry.hs, RC.elem, RC.sz, RC.len, RC.slice, RC.app, hA, initFr, initMem, initSt, resOf, resAll, compEq, compsEq, rowHs, outHds, outsEq, shapeOk, finOk, comps, A0.norm, AV.norm, specOf, t_int, t_bool, t_implForm, t_lawsForm, t_implMatrix, t_implPoint, t_implLattice, t_lawsLattice, t_implTriple, t_lawsTriple, t_implSpot, t_implCube, t_implunited, t_implentries, t_a8int, ts_int, ts_implForm, ts_implSpot, Option.getD_some, Option.getD_none, cond_true, cond_false, Nat.reduceBEq, List.map_cons, List.map_nil, List.set_cons_zero, List.set_cons_succ, List.getElem?_cons_zero, List.getElem?_cons_succ, List.drop_zero, List.drop_succ_cons, List.take_succ_cons, List.take_zero, Option.map_some, Option.map_none, Option.bind_some, Nat.zero_add, Nat.add_zero, Nat.reduceAdd, Nat.reduceMul, true_and, and_true, List.replicate_succ, List.replicate_zero, List.length_cons, List.length_nil, List.all_cons, List.all_nil, List.any_cons, List.any_nil, Bool.and_true, Bool.true_and, Bool.and_false, Bool.false_and, Bool.or_true, Bool.true_or, Bool.or_false, Bool.false_or, Bool.not_true, Bool.not_false, List.append_nil, List.nil_append, List.cons_append, List.flatMap_cons, List.flatMap_nil, List.contains_cons, List.contains_nil, List.filter_cons, List.filter_nil, beq_self_eq_true, Bool.not_eq_true, A0.b.injEq, A0.i.injEq, A0.s.injEq, A0.rw.injEq, A0.fn.injEq, List.cons.injEq, RC.ints.injEq, RC.recs.injEq, RC.bools.injEq, AV.one.injEq, AV.tup.injEq, ble_dec, blt_dec, Nat.reduceLeDiff, Nat.reduceSub, decide_true, decide_false, and_self, List.toList_toArray, Option.isSome_some, Option.isSome_none, List.elem_nil, List.elem_cons, ite_true, ite_false, Bool.false_eq_true, if_true, if_false, reduceIte, flatB_2, flatB_3, flatB_4, List.headD_cons, List.tail_cons, cIsClass, fIsClass, cReduced1, fReduced1, Try.f39]
  cases h : classB a b c with
  | false => exact ⟨rfl, rfl, rfl⟩
  | true =>
    refine ⟨class_domB h, ?_⟩
    unfold kindI rd3
    cases (rdB a b c == 0) <;> cases (rdA a b c == rdB a b c) <;> cases (rdA a b c == rdC a b c) <;> exact ⟨rfl, rfl, rfl⟩
abbrev fSAmbKind : Nat := 38
def cSAmbKind : Ctr
  | [.s [a, b, c]] => some ⟨True, .tup [.i (onB (classB a b c) (kindI (rd3 a b c))), .b (classB a b c)], []⟩
  | _ => none
theorem okSAmbKind : CtrOk Try.prog fSAmbKind cSAmbKind := by
  have hsp : SpecOk Try.prog (specOf [(fCoGood, cCoGood), (fReClass, cReClass)]) := (SpecOk.cons okCoGood (SpecOk.cons okReClass SpecOk.nil))
  refine ctr_of (fn := Try.f38) mixed tab_ok hsp Try.func38 (by kernel_rfl) (by kernel_rfl) fun args ce h => ?_
  clear hsp
  unfold cSAmbKind at h
  split at h
  case h_2 => cases h
  rename_i a b c
  simp only [Option.some.injEq] at h
  subst h
  refine ⟨by rfl, fun hp => ⟨0, 1000, ?_⟩⟩
  simp only [vc, out, step, stepE, stepPick, stepG, stepO, stepC, eff, look, rem, St.put, St.setMem, setMems, St.after, St.eval, cst, setAt, val1, okNew, newHs, allHs, rdOf, outHs, Reg.item, Reg.next, Reg.skip, slotOf, effBox, effAlloc, entryRow, fieldOff, effField, loadI, load1, loadR, effLoad, storeI, storeB, storeR, szOk, storeTo, effStore, buildOf, effBuild, binInt, eqI, boolOf, binBool, effBin, effUn, effPick, effExtract, ivs, svs, rowOf, allParts, effBuildSlice, zeroRow, effMakeSlice, elemSz, idxA, idxS, effIndex, lenOf, readOf, subPre, maxRow, plainTI, appTo, effAppend, slcOf, effSlice, argOf, resA, resL, resV, outWr, nodupB, restOk, argsPre, argOk, callWr, effCall, effMax, wrHs, disj, AV.hs, A0.hs, Entry.hs, RC.elem, RC.sz, RC.len, RC.slice, RC.app, hA, initFr, initMem, initSt, resOf, resAll, compEq, compsEq, rowHs, outHds, outsEq, shapeOk, finOk, comps, A0.norm, AV.norm, specOf, t_int, t_bool, t_implForm, t_lawsForm, t_implMatrix, t_implPoint, t_implLattice, t_lawsLattice, t_implTriple, t_lawsTriple, t_implSpot, t_implCube, t_implunited, t_implentries, t_a8int, ts_int, ts_implForm, ts_implSpot, Option.getD_some, Option.getD_none, cond_true, cond_false, Nat.reduceBEq, List.map_cons, List.map_nil, List.set_cons_zero, List.set_cons_succ, List.getElem?_cons_zero, List.getElem?_cons_succ, List.drop_zero, List.drop_succ_cons, List.take_succ_cons, List.take_zero, Option.map_some, Option.map_none, Option.bind_some, Nat.zero_add, Nat.add_zero, Nat.reduceAdd, Nat.reduceMul, true_and, and_true, List.replicate_succ, List.replicate_zero, List.length_cons, List.length_nil, List.all_cons, List.all_nil, List.any_cons, List.any_nil, Bool.and_true, Bool.true_and, Bool.and_false, Bool.false_and, Bool.or_true, Bool.true_or, Bool.or_false, Bool.false_or, Bool.not_true, Bool.not_false, List.append_nil, List.nil_append, List.cons_append, List.flatMap_cons, List.flatMap_nil, List.contains_cons, List.contains_nil, List.filter_cons, List.filter_nil, beq_self_eq_true, Bool.not_eq_true, A0.b.injEq, A0.i.injEq, A0.s.injEq, A0.rw.injEq, A0.fn.injEq, List.cons.injEq, RC.ints.injEq, RC.recs.injEq, RC.bools.injEq, AV.one.injEq, AV.tup.injEq, ble_dec, blt_dec, Nat.reduceLeDiff, Nat.reduceSub, decide_true, decide_false, and_self, List.toList_toArray, Option.isSome_some, Option.isSome_none, List.elem_nil, List.elem_cons, ite_true, ite_false, Bool.false_eq_true, if_true, if_false, reduceIte, flatB_2, flatB_3, flatB_4, List.headD_cons, List.tail_cons, cCoGood, fCoGood, cReClass, fReClass, Try.f38]
  rw [class_eq]
  cases h : classB a b c with
  | false => exact ⟨rfl, rfl, rfl⟩
  | true =>
    refine ⟨class_domB h, ?_⟩
    unfold kindI rd3
    cases (rdB a b c == 0) <;> cases (rdA a b c == rdB a b c) <;> cases (rdA a b c == rdC a b c) <;> exact ⟨rfl, rfl, rfl⟩
abbrev fLawAmbKind : Nat := 11
def cLawAmbKind : Ctr
  | [.s [a, b, c]] => some ⟨True, .one (.b true), []⟩
  | _ => none
theorem okLawAmbKind : CtrOk Try.prog fLawAmbKind cLawAmbKind := by
  have hsp : SpecOk Try.prog (specOf [(fToForm, cToForm), (fSAmbKind, cSAmbKind), (fAmbKind, cAmbKind)]) := (SpecOk.cons okToForm (SpecOk.cons okSAmbKind (SpecOk.cons okAmbKind SpecOk.nil)))
  refine ctr_of (fn := Try.f11) mixed tab_ok hsp Try.func11 (by kernel_rfl) (by kernel_rfl) fun args ce h => ?_
  clear hsp
  unfold cLawAmbKind at h
  split at h
  case h_2 => cases h
  rename_i a b c
  simp only [Option.some.injEq] at h
  subst h
  refine ⟨by rfl, fun hp => ⟨0, 1000, ?_⟩⟩
  simp only [vc, out, step, stepE, stepPick, stepG, stepO, stepC, eff, look, rem, St.put, St.setMem, setMems, St.after, St.eval, cst, setAt, val1, okNew, newHs, allHs, rdOf, outHs, Reg.item, Reg.next, Reg.skip, slotOf, effBox, effAlloc, entryRow, fieldOff, effField, loadI, load1, loadR, effLoad, storeI, storeB, storeR, szOk, storeTo, effStore, buildOf, effBuild, binInt, eqI, boolOf, binBool, effBin, effUn, effPick, effExtract, ivs, svs, rowOf, allParts, effBuildSlice, zeroRow, effMakeSlice, elemSz, idxA, idxS, effIndex, lenOf, readOf, subPre, maxRow, plainTI, appTo, effAppend, slcOf, effSlice, argOf, resA, resL, resV, outWr, nodupB, restOk, argsPre, argOk, callWr, effCall, effMax, wrHs, disj, AV.hs, A0.hs, Entry.hs, RC.elem, RC.sz, RC.len, RC.slice, RC.app, hA, initFr, initMem, initSt, resOf, resAll, compEq, compsEq, rowHs, outHds, outsEq, shapeOk, finOk, comps, A0.norm, AV.norm, specOf, t_int, t_bool, t_implForm, t_lawsForm, t_implMatrix, t_implPoint, t_implLattice, t_lawsLattice, t_implTriple, t_lawsTriple, t_implSpot, t_implCube, t_implunited, t_implentries, t_a8int, ts_int, ts_implForm, ts_implSpot, Option.getD_some, Option.getD_none, cond_true, cond_false, Nat.reduceBEq, List.map_cons, List.map_nil, List.set_cons_zero, List.set_cons_succ, List.getElem?_cons_zero, List.getElem?_cons_succ, List.drop_zero, List.drop_succ_cons, List.take_succ_cons, List.take_zero, Option.map_some, Option.map_none, Option.bind_some, Nat.zero_add, Nat.add_zero, Nat.reduceAdd, Nat.reduceMul, true_and, and_true, List.replicate_succ, List.replicate_zero, List.length_cons, List.length_nil, List.all_cons, List.all_nil, List.any_cons, List.any_nil, Bool.and_true, Bool.true_and, Bool.and_false, Bool.false_and, Bool.or_true, Bool.true_or, Bool.or_false, Bool.false_or, Bool.not_true, Bool.not_false, List.append_nil, List.nil_append, List.cons_append, List.flatMap_cons, List.flatMap_nil, List.contains_cons, List.contains_nil, List.filter_cons, List.filter_nil, beq_self_eq_true, Bool.not_eq_true, A0.b.injEq, A0.i.injEq, A0.s.injEq, A0.rw.injEq, A0.fn.injEq, List.cons.injEq, RC.ints.injEq, RC.recs.injEq, RC.bools.injEq, AV.one.injEq, AV.tup.injEq, ble_dec, blt_dec, Nat.reduceLeDiff, Nat.reduceSub, decide_true, decide_false, and_self, List.toList_toArray, Option.isSome_some, Option.isSome_none, List.elem_nil, List.elem_cons, ite_true, ite_false, Bool.false_eq_true, if_true, if_false, reduceIte, flatB_2, flatB_3, flatB_4, List.headD_cons, List.tail_cons, cToForm, fToForm, cSAmbKind, fSAmbKind, cAmbKind, fAmbKind, Try.f11]
  simp
def idB (a b c : Int) : Bool := decide (rd3 a b c = prI (discI a b c))
theorem class_negB {a b c : Int} (h : classB a b c = true) : negB (discI a b c) = true := by
  obtain ⟨e1, e2, e3, e4⟩ := class_disc h
  rw [e1]
  simp only [negB, Bool.and_eq_true, decide_eq_true_eq]
  rw [modI_eq (by omega) (by omega)]
  omega
abbrev fIsId : Nat := 78
def cIsId : Ctr
  | [.s [a, b, c]] => some ⟨domB a b c = true ∧ negB (discI a b c) = true, .one (.b (idB a b c)), []⟩
  | _ => none
theorem okIsId : CtrOk Try.prog fIsId cIsId := by
  have hsp : SpecOk Try.prog (specOf [(fReduced1, cReduced1), (fDisc, cDisc), (fPrincipal, cPrincipal)]) := (SpecOk.cons okReduced1 (SpecOk.cons okDisc (SpecOk.cons okPrincipal SpecOk.nil)))
  refine ctr_of (fn := Try.f78) mixed tab_ok hsp Try.func78 (by kernel_rfl) (by kernel_rfl) fun args ce h => ?_
  clear hsp
  unfold cIsId at h
  split at h
  case h_2 => cases h
  rename_i a b c
  simp only [Option.some.injEq] at h
  subst h
  refine ⟨by rfl, fun hp => ⟨0, 1000, ?_⟩⟩
  simp only [vc, out, step, stepE, stepPick, stepG, stepO, stepC, eff, look, rem, St.put, St.setMem, setMems, St.after, St.eval, cst, setAt, val1, okNew, newHs, allHs, rdOf, outHs, Reg.item, Reg.next, Reg.skip, slotOf, effBox, effAlloc, entryRow, fieldOff, effField, loadI, load1, loadR, effLoad, storeI, storeB, storeR, szOk, storeTo, effStore, buildOf, effBuild, binInt, eqI, boolOf, binBool, effBin, effUn, effPick, effExtract, ivs, svs, rowOf, allParts, effBuildSlice, zeroRow, effMakeSlice, elemSz, idxA, idxS, effIndex, lenOf, readOf, subPre, maxRow, plainTI, appTo, effAppend, slcOf, effSlice, argOf, resA, resL, resV, outWr, nodupB, restOk, argsPre, argOk, callWr, effCall, effMax, wrHs, disj, AV.hs, A0.hs, Entry.hs, RC.elem, RC.sz, RC.len, RC.slice, RC.app, hA, initFr, initMem, initSt, resOf, resAll, compEq, compsEq, rowHs, outHds, outsEq, shapeOk, finOk, comps, A0.norm, AV.norm, specOf, t_int, t_bool, t_implForm, t_lawsForm, t_implMatrix, t_implPoint, t_implLattice, t_lawsLattice, t_implTriple, t_lawsTriple, t_implSpot, t_implCube, t_implunited, t_implentries, t_a8int, ts_int, ts_implForm, ts_implSpot, Option.getD_some, Option.getD_none, cond_true, cond_false, Nat.reduceBEq, List.map_cons, List.map_nil, List.set_cons_zero, List.set_cons_succ, List.getElem?_cons_zero, List.getElem?_cons_succ, List.drop_zero, List.drop_succ_cons, List.take_succ_cons, List.take_zero, Option.map_some, Option.map_none, Option.bind_some, Nat.zero_add, Nat.add_zero, Nat.reduceAdd, Nat.reduceMul, true_and, and_true, List.replicate_succ, List.replicate_zero, List.length_cons, List.length_nil, List.all_cons, List.all_nil, List.any_cons, List.any_nil, Bool.and_true, Bool.true_and, Bool.and_false, Bool.false_and, Bool.or_true, Bool.true_or, Bool.or_false, Bool.false_or, Bool.not_true, Bool.not_false, List.append_nil, List.nil_append, List.cons_append, List.flatMap_cons, List.flatMap_nil, List.contains_cons, List.contains_nil, List.filter_cons, List.filter_nil, beq_self_eq_true, Bool.not_eq_true, A0.b.injEq, A0.i.injEq, A0.s.injEq, A0.rw.injEq, A0.fn.injEq, List.cons.injEq, RC.ints.injEq, RC.recs.injEq, RC.bools.injEq, AV.one.injEq, AV.tup.injEq, ble_dec, blt_dec, Nat.reduceLeDiff, Nat.reduceSub, decide_true, decide_false, and_self, List.toList_toArray, Option.isSome_some, Option.isSome_none, List.elem_nil, List.elem_cons, ite_true, ite_false, Bool.false_eq_true, if_true, if_false, reduceIte, flatB_2, flatB_3, flatB_4, List.headD_cons, List.tail_cons, cReduced1, fReduced1, cDisc, fDisc, cPrincipal, fPrincipal, Try.f78]
  obtain ⟨h1, h2⟩ : domB a b c = true ∧ negB (discI a b c) = true := hp
  have h3 := negB_in h2
  obtain ⟨p1, p2⟩ := prI_rdx (d := discI a b c) ⟨by omega, by omega⟩ (negB_mod h2)
  refine ⟨h1, p2, by kernel_rfl, ?_⟩
  rw [eqI_3]
  have e5 : rd3 (prI (discI a b c)).1 (prI (discI a b c)).2.1 (prI (discI a b c)).2.2 = prI (discI a b c) := by rw [rd3_eq p2]; exact p1
  have e6 : (rdA (prI (discI a b c)).1 (prI (discI a b c)).2.1 (prI (discI a b c)).2.2, rdB (prI (discI a b c)).1 (prI (discI a b c)).2.1 (prI (discI a b c)).2.2, rdC (prI (discI a b c)).1 (prI (discI a b c)).2.1 (prI (discI a b c)).2.2) = prI (discI a b c) := e5
  rw [e6]
  rfl
abbrev fIsIdent : Nat := 29
def cIsIdent : Ctr
  | [.s [a, b, c]] => some ⟨True, .tup [.b (classB a b c && idB a b c), .b (classB a b c)], []⟩
  | _ => none
theorem okIsIdent : CtrOk Try.prog fIsIdent cIsIdent := by
  have hsp : SpecOk Try.prog (specOf [(fIsClass, cIsClass), (fIsId, cIsId)]) := (SpecOk.cons okIsClass (SpecOk.cons okIsId SpecOk.nil))
  refine ctr_of (fn := Try.f29) mixed tab_ok hsp Try.func29 (by kernel_rfl) (by kernel_rfl) fun args ce h => ?_
  clear hsp
  unfold cIsIdent at h
  split at h
  case h_2 => cases h
  rename_i a b c
  simp only [Option.some.injEq] at h
  subst h
  refine ⟨by rfl, fun hp => ⟨0, 1000, ?_⟩⟩
  simp only [vc, out, step, stepE, stepPick, stepG, stepO, stepC, eff, look, rem, St.put, St.setMem, setMems, St.after, St.eval, cst, setAt, val1, okNew, newHs, allHs, rdOf, outHs, Reg.item, Reg.next, Reg.skip, slotOf, effBox, effAlloc, entryRow, fieldOff, effField, loadI, load1, loadR, effLoad, storeI, storeB, storeR, szOk, storeTo, effStore, buildOf, effBuild, binInt, eqI, boolOf, binBool, effBin, effUn, effPick, effExtract, ivs, svs, rowOf, allParts, effBuildSlice, zeroRow, effMakeSlice, elemSz, idxA, idxS, effIndex, lenOf, readOf, subPre, maxRow, plainTI, appTo, effAppend, slcOf, effSlice, argOf, resA, resL, resV, outWr, nodupB, restOk, argsPre, argOk, callWr, effCall, effMax, wrHs, disj, AV.hs, A0.hs, Entry.hs, RC.elem, RC.sz, RC.len, RC.slice, RC.app, hA, initFr, initMem, initSt, resOf, resAll, compEq, compsEq, rowHs, outHds, outsEq, shapeOk, finOk, comps, A0.norm, AV.norm, specOf, t_int, t_bool, t_implForm, t_lawsForm, t_implMatrix, t_implPoint, t_implLattice, t_lawsLattice, t_implTriple, t_lawsTriple, t_implSpot, t_implCube, t_implunited, t_implentries, t_a8int, ts_int, ts_implForm, ts_implSpot, Option.getD_some, Option.getD_none, cond_true, cond_false, Nat.reduceBEq, List.map_cons, List.map_nil, List.set_cons_zero, List.set_cons_succ, List.getElem?_cons_zero, List.getElem?_cons_succ, List.drop_zero, List.drop_succ_cons, List.take_succ_cons, List.take_zero, Option.map_some, Option.map_none, Option.bind_some, Nat.zero_add, Nat.add_zero, Nat.reduceAdd, Nat.reduceMul, true_and, and_true, List.replicate_succ, List.replicate_zero, List.length_cons, List.length_nil, List.all_cons, List.all_nil, List.any_cons, List.any_nil, Bool.and_true, Bool.true_and, Bool.and_false, Bool.false_and, Bool.or_true, Bool.true_or, Bool.or_false, Bool.false_or, Bool.not_true, Bool.not_false, List.append_nil, List.nil_append, List.cons_append, List.flatMap_cons, List.flatMap_nil, List.contains_cons, List.contains_nil, List.filter_cons, List.filter_nil, beq_self_eq_true, Bool.not_eq_true, A0.b.injEq, A0.i.injEq, A0.s.injEq, A0.rw.injEq, A0.fn.injEq, List.cons.injEq, RC.ints.injEq, RC.recs.injEq, RC.bools.injEq, AV.one.injEq, AV.tup.injEq, ble_dec, blt_dec, Nat.reduceLeDiff, Nat.reduceSub, decide_true, decide_false, and_self, List.toList_toArray, Option.isSome_some, Option.isSome_none, List.elem_nil, List.elem_cons, ite_true, ite_false, Bool.false_eq_true, if_true, if_false, reduceIte, flatB_2, flatB_3, flatB_4, List.headD_cons, List.tail_cons, cIsClass, fIsClass, cIsId, fIsId, Try.f29]
  cases h : classB a b c with
  | false => exact ⟨rfl, rfl, rfl⟩
  | true => exact ⟨⟨class_domB h, class_negB h⟩, rfl, rfl, rfl⟩
abbrev fSIsIdent : Nat := 28
def cSIsIdent : Ctr
  | [.s [a, b, c]] => some ⟨True, .tup [.b (classB a b c && idB a b c), .b (classB a b c)], []⟩
  | _ => none
theorem okSIsIdent : CtrOk Try.prog fSIsIdent cSIsIdent := by
  have hsp : SpecOk Try.prog (specOf [(fCoGood, cCoGood), (fReClass, cReClass), (fFoDisc, cFoDisc), (fCoOne, cCoOne)]) := (SpecOk.cons okCoGood (SpecOk.cons okReClass (SpecOk.cons okFoDisc (SpecOk.cons okCoOne SpecOk.nil))))
  refine ctr_of (fn := Try.f28) mixed tab_ok hsp Try.func28 (by kernel_rfl) (by kernel_rfl) fun args ce h => ?_
  clear hsp
  unfold cSIsIdent at h
  split at h
  case h_2 => cases h
  rename_i a b c
  simp only [Option.some.injEq] at h
  subst h
  refine ⟨by rfl, fun hp => ⟨0, 1000, ?_⟩⟩
  simp only [vc, out, step, stepE, stepPick, stepG, stepO, stepC, eff, look, rem, St.put, St.setMem, setMems, St.after, St.eval, cst, setAt, val1, okNew, newHs, allHs, rdOf, outHs, Reg.item, Reg.next, Reg.skip, slotOf, effBox, effAlloc, entryRow, fieldOff, effField, loadI, load1, loadR, effLoad, storeI, storeB, storeR, szOk, storeTo, effStore, buildOf, effBuild, binInt, eqI, boolOf, binBool, effBin, effUn, effPick, effExtract, ivs, svs, rowOf, allParts, effBuildSlice, zeroRow, effMakeSlice, elemSz, idxA, idxS, effIndex, lenOf, readOf, subPre, maxRow, plainTI, appTo, effAppend, slcOf, effSlice, argOf, resA, resL, resV, outWr, nodupB, restOk, argsPre, argOk, callWr, effCall, effMax, wrHs, disj, AV.hs, A0.hs, Entry.hs, RC.elem, RC.sz, RC.len, RC.slice, RC.app, hA, initFr, initMem, initSt, resOf, resAll, compEq, compsEq, rowHs, outHds, outsEq, shapeOk, finOk, comps, A0.norm, AV.norm, specOf, t_int, t_bool, t_implForm, t_lawsForm, t_implMatrix, t_implPoint, t_implLattice, t_lawsLattice, t_implTriple, t_lawsTriple, t_implSpot, t_implCube, t_implunited, t_implentries, t_a8int, ts_int, ts_implForm, ts_implSpot, Option.getD_some, Option.getD_none, cond_true, cond_false, Nat.reduceBEq, List.map_cons, List.map_nil, List.set_cons_zero, List.set_cons_succ, List.getElem?_cons_zero, List.getElem?_cons_succ, List.drop_zero, List.drop_succ_cons, List.take_succ_cons, List.take_zero, Option.map_some, Option.map_none, Option.bind_some, Nat.zero_add, Nat.add_zero, Nat.reduceAdd, Nat.reduceMul, true_and, and_true, List.replicate_succ, List.replicate_zero, List.length_cons, List.length_nil, List.all_cons, List.all_nil, List.any_cons, List.any_nil, Bool.and_true, Bool.true_and, Bool.and_false, Bool.false_and, Bool.or_true, Bool.true_or, Bool.or_false, Bool.false_or, Bool.not_true, Bool.not_false, List.append_nil, List.nil_append, List.cons_append, List.flatMap_cons, List.flatMap_nil, List.contains_cons, List.contains_nil, List.filter_cons, List.filter_nil, beq_self_eq_true, Bool.not_eq_true, A0.b.injEq, A0.i.injEq, A0.s.injEq, A0.rw.injEq, A0.fn.injEq, List.cons.injEq, RC.ints.injEq, RC.recs.injEq, RC.bools.injEq, AV.one.injEq, AV.tup.injEq, ble_dec, blt_dec, Nat.reduceLeDiff, Nat.reduceSub, decide_true, decide_false, and_self, List.toList_toArray, Option.isSome_some, Option.isSome_none, List.elem_nil, List.elem_cons, ite_true, ite_false, Bool.false_eq_true, if_true, if_false, reduceIte, flatB_2, flatB_3, flatB_4, List.headD_cons, List.tail_cons, cCoGood, fCoGood, cReClass, fReClass, cFoDisc, fFoDisc, cCoOne, fCoOne, Try.f28]
  rw [class_eq]
  cases h : classB a b c with
  | false => exact ⟨rfl, rfl, rfl⟩
  | true =>
    refine ⟨class_domB h, by kernel_rfl, by kernel_rfl, ?_, rfl⟩
    rw [eqI_3]
    rfl
abbrev fLawIsId : Nat := 7
def cLawIsId : Ctr
  | [.s [a, b, c]] => some ⟨True, .one (.b true), []⟩
  | _ => none
theorem okLawIsId : CtrOk Try.prog fLawIsId cLawIsId := by
  have hsp : SpecOk Try.prog (specOf [(fToForm, cToForm), (fSIsIdent, cSIsIdent), (fIsIdent, cIsIdent)]) := (SpecOk.cons okToForm (SpecOk.cons okSIsIdent (SpecOk.cons okIsIdent SpecOk.nil)))
  refine ctr_of (fn := Try.f7) mixed tab_ok hsp Try.func7 (by kernel_rfl) (by kernel_rfl) fun args ce h => ?_
  clear hsp
  unfold cLawIsId at h
  split at h
  case h_2 => cases h
  rename_i a b c
  simp only [Option.some.injEq] at h
  subst h
  refine ⟨by rfl, fun hp => ⟨0, 1000, ?_⟩⟩
  simp only [vc, out, step, stepE, stepPick, stepG, stepO, stepC, eff, look, rem, St.put, St.setMem, setMems, St.after, St.eval, cst, setAt, val1, okNew, newHs, allHs, rdOf, outHs, Reg.item, Reg.next, Reg.skip, slotOf, effBox, effAlloc, entryRow, fieldOff, effField, loadI, load1, loadR, effLoad, storeI, storeB, storeR, szOk, storeTo, effStore, buildOf, effBuild, binInt, eqI, boolOf, binBool, effBin, effUn, effPick, effExtract, ivs, svs, rowOf, allParts, effBuildSlice, zeroRow, effMakeSlice, elemSz, idxA, idxS, effIndex, lenOf, readOf, subPre, maxRow, plainTI, appTo, effAppend, slcOf, effSlice, argOf, resA, resL, resV, outWr, nodupB, restOk, argsPre, argOk, callWr, effCall, effMax, wrHs, disj, AV.hs, A0.hs, Entry.hs, RC.elem, RC.sz, RC.len, RC.slice, RC.app, hA, initFr, initMem, initSt, resOf, resAll, compEq, compsEq, rowHs, outHds, outsEq, shapeOk, finOk, comps, A0.norm, AV.norm, specOf, t_int, t_bool, t_implForm, t_lawsForm, t_implMatrix, t_implPoint, t_implLattice, t_lawsLattice, t_implTriple, t_lawsTriple, t_implSpot, t_implCube, t_implunited, t_implentries, t_a8int, ts_int, ts_implForm, ts_implSpot, Option.getD_some, Option.getD_none, cond_true, cond_false, Nat.reduceBEq, List.map_cons, List.map_nil, List.set_cons_zero, List.set_cons_succ, List.getElem?_cons_zero, List.getElem?_cons_succ, List.drop_zero, List.drop_succ_cons, List.take_succ_cons, List.take_zero, Option.map_some, Option.map_none, Option.bind_some, Nat.zero_add, Nat.add_zero, Nat.reduceAdd, Nat.reduceMul, true_and, and_true, List.replicate_succ, List.replicate_zero, List.length_cons, List.length_nil, List.all_cons, List.all_nil, List.any_cons, List.any_nil, Bool.and_true, Bool.true_and, Bool.and_false, Bool.false_and, Bool.or_true, Bool.true_or, Bool.or_false, Bool.false_or, Bool.not_true, Bool.not_false, List.append_nil, List.nil_append, List.cons_append, List.flatMap_cons, List.flatMap_nil, List.contains_cons, List.contains_nil, List.filter_cons, List.filter_nil, beq_self_eq_true, Bool.not_eq_true, A0.b.injEq, A0.i.injEq, A0.s.injEq, A0.rw.injEq, A0.fn.injEq, List.cons.injEq, RC.ints.injEq, RC.recs.injEq, RC.bools.injEq, AV.one.injEq, AV.tup.injEq, ble_dec, blt_dec, Nat.reduceLeDiff, Nat.reduceSub, decide_true, decide_false, and_self, List.toList_toArray, Option.isSome_some, Option.isSome_none, List.elem_nil, List.elem_cons, ite_true, ite_false, Bool.false_eq_true, if_true, if_false, reduceIte, flatB_2, flatB_3, flatB_4, List.headD_cons, List.tail_cons, cToForm, fToForm, cSIsIdent, fSIsIdent, cIsIdent, fIsIdent, Try.f7]
  cases classB a b c <;> cases idB a b c <;> trivial

/-! ### EquivalenceMatrix -/
def md (a b c : Int) : M4 := (rdP a b c, rdQ a b c, rdR a b c, rdS a b c)
theorem md_eq {a b c : Int} (h : domB a b c = true) : md a b c = redM (a, b, c) := by
  obtain ⟨_, _, _, e1, e2, e3, e4⟩ := rd_eqs h
  unfold md
  rw [e1, e2, e3, e4]
def emM (a b c x y z : Int) : List Int :=
  timesI (rdP a b c) (rdQ a b c) (rdR a b c) (rdS a b c) (wrap64 (detI (rdP x y z) (rdQ x y z) (rdR x y z) (rdS x y z) * rdS x y z)) (wrap64 (wrap64 (0 - detI (rdP x y z) (rdQ x y z) (rdR x y z) (rdS x y z)) * rdQ x y z)) (wrap64 (wrap64 (0 - detI (rdP x y z) (rdQ x y z) (rdR x y z) (rdS x y z)) * rdR x y z)) (wrap64 (detI (rdP x y z) (rdQ x y z) (rdR x y z) (rdS x y z) * rdP x y z))
def emP (a b c x y z : Int) : Int := (emM a b c x y z).getD 0 0
def emQ (a b c x y z : Int) : Int := (emM a b c x y z).getD 1 0
def emR (a b c x y z : Int) : Int := (emM a b c x y z).getD 2 0
def emS (a b c x y z : Int) : Int := (emM a b c x y z).getD 3 0
theorem emM_eq (a b c x y z : Int) : emM a b c x y z = [emP a b c x y z, emQ a b c x y z, emR a b c x y z, emS a b c x y z] := rfl
def emOk (a b c x y z : Int) : Bool := (defB a b c && defB x y z) && (decide ((rdA a b c, rdB a b c, rdC a b c) = (rdA x y z, rdB x y z, rdC x y z)) && matB (emP a b c x y z) (emQ a b c x y z) (emR a b c x y z) (emS a b c x y z))
abbrev fEquivM : Nat := 26
def cEquivM : Ctr
  | [.s [a, b, c], .s [x, y, z]] => some ⟨True, .tup [.s [onB (emOk a b c x y z) (emP a b c x y z), onB (emOk a b c x y z) (emQ a b c x y z), onB (emOk a b c x y z) (emR a b c x y z), onB (emOk a b c x y z) (emS a b c x y z)], .b (emOk a b c x y z)], []⟩
  | _ => none
theorem okEquivM : CtrOk Try.prog fEquivM cEquivM := by
  have hsp : SpecOk Try.prog (specOf [(fIsDef, cIsDef), (fReduce, cReduce), (fMInverse, cMInverse), (fTimes, cTimes), (fChecked, cChecked)]) := (SpecOk.cons okIsDef (SpecOk.cons okReduce (SpecOk.cons okMInverse (SpecOk.cons okTimes (SpecOk.cons okChecked SpecOk.nil)))))
  refine ctr_of (fn := Try.f26) mixed tab_ok hsp Try.func26 (by kernel_rfl) (by kernel_rfl) fun args ce h => ?_
  clear hsp
  unfold cEquivM at h
  split at h
  case h_2 => cases h
  rename_i a b c x y z
  simp only [Option.some.injEq] at h
  subst h
  refine ⟨by rfl, fun hp => ⟨0, 1000, ?_⟩⟩
  simp only [vc, out, step, stepE, stepPick, stepG, stepO, stepC, eff, look, rem, St.put, St.setMem, setMems, St.after, St.eval, cst, setAt, val1, okNew, newHs, allHs, rdOf, outHs, Reg.item, Reg.next, Reg.skip, slotOf, effBox, effAlloc, entryRow, fieldOff, effField, loadI, load1, loadR, effLoad, storeI, storeB, storeR, szOk, storeTo, effStore, buildOf, effBuild, binInt, eqI, boolOf, binBool, effBin, effUn, effPick, effExtract, ivs, svs, rowOf, allParts, effBuildSlice, zeroRow, effMakeSlice, elemSz, idxA, idxS, effIndex, lenOf, readOf, subPre, maxRow, plainTI, appTo, effAppend, slcOf, effSlice, argOf, resA, resL, resV, outWr, nodupB, restOk, argsPre, argOk, callWr, effCall, effMax, wrHs, disj, AV.hs, A0.hs, Entry.hs, RC.elem, RC.sz, RC.len, RC.slice, RC.app, hA, initFr, initMem, initSt, resOf, resAll, compEq, compsEq, rowHs, outHds, outsEq, shapeOk, finOk, comps, A0.norm, AV.norm, specOf, t_int, t_bool, t_implForm, t_lawsForm, t_implMatrix, t_implPoint, t_implLattice, t_lawsLattice, t_implTriple, t_lawsTriple, t_implSpot, t_implCube, t_implunited, t_implentries, t_a8int, ts_int, ts_implForm, ts_implSpot, Option.getD_some, Option.getD_none, cond_true, cond_false, Nat.reduceBEq, List.map_cons, List.map_nil, List.set_cons_zero, List.set_cons_succ, List.getElem?_cons_zero, List.getElem?_cons_succ, List.drop_zero, List.drop_succ_cons, List.take_succ_cons, List.take_zero, Option.map_some, Option.map_none, Option.bind_some, Nat.zero_add, Nat.add_zero, Nat.reduceAdd, Nat.reduceMul, true_and, and_true, List.replicate_succ, List.replicate_zero, List.length_cons, List.length_nil, List.all_cons, List.all_nil, List.any_cons, List.any_nil, Bool.and_true, Bool.true_and, Bool.and_false, Bool.false_and, Bool.or_true, Bool.true_or, Bool.or_false, Bool.false_or, Bool.not_true, Bool.not_false, List.append_nil, List.nil_append, List.cons_append, List.flatMap_cons, List.flatMap_nil, List.contains_cons, List.contains_nil, List.filter_cons, List.filter_nil, beq_self_eq_true, Bool.not_eq_true, A0.b.injEq, A0.i.injEq, A0.s.injEq, A0.rw.injEq, A0.fn.injEq, List.cons.injEq, RC.ints.injEq, RC.recs.injEq, RC.bools.injEq, AV.one.injEq, AV.tup.injEq, ble_dec, blt_dec, Nat.reduceLeDiff, Nat.reduceSub, decide_true, decide_false, and_self, List.toList_toArray, Option.isSome_some, Option.isSome_none, List.elem_nil, List.elem_cons, ite_true, ite_false, Bool.false_eq_true, if_true, if_false, reduceIte, flatB_2, flatB_3, flatB_4, List.headD_cons, List.tail_cons, cIsDef, fIsDef, cReduce, fReduce, cMInverse, fMInverse, cTimes, fTimes, cChecked, fChecked, timesI, invI, Try.f26]
  rw [eqI_3]
  unfold emOk
  cases h1 : defB a b c with
  | false => exact ⟨rfl, ⟨rfl, rfl, rfl, rfl⟩, rfl⟩
  | true =>
    cases h2 : defB x y z with
    | false => exact ⟨rfl, ⟨rfl, rfl, rfl, rfl⟩, rfl⟩
    | true =>
      refine ⟨def_domB h1, def_domB h2, ?_⟩
      cases h3 : decide ((rdA a b c, rdB a b c, rdC a b c) = (rdA x y z, rdB x y z, rdC x y z)) with
      | false => exact ⟨rfl, ⟨rfl, rfl, rfl, rfl⟩, rfl⟩
      | true => exact ⟨by kernel_rfl, rfl, ⟨rfl, rfl, rfl, rfl⟩, rfl⟩
abbrev fSEquivM : Nat := 25
def cSEquivM : Ctr
  | [.s [a, b, c], .s [x, y, z]] => some ⟨True, .tup [.s [onB (emOk a b c x y z) (emP a b c x y z), onB (emOk a b c x y z) (emQ a b c x y z), onB (emOk a b c x y z) (emR a b c x y z), onB (emOk a b c x y z) (emS a b c x y z)], .b (emOk a b c x y z)], []⟩
  | _ => none
theorem okSEquivM : CtrOk Try.prog fSEquivM cSEquivM := by
  have hsp : SpecOk Try.prog (specOf [(fFoDef, cFoDef), (fReReduce, cReReduce), (fFoInverse, cFoInverse), (fFoMul, cFoMul), (fFoMatrix, cFoMatrix)]) := (SpecOk.cons okFoDef (SpecOk.cons okReReduce (SpecOk.cons okFoInverse (SpecOk.cons okFoMul (SpecOk.cons okFoMatrix SpecOk.nil)))))
  refine ctr_of (fn := Try.f25) mixed tab_ok hsp Try.func25 (by kernel_rfl) (by kernel_rfl) fun args ce h => ?_
  clear hsp
  unfold cSEquivM at h
  split at h
  case h_2 => cases h
  rename_i a b c x y z
  simp only [Option.some.injEq] at h
  subst h
  refine ⟨by rfl, fun hp => ⟨0, 1000, ?_⟩⟩
  simp only [vc, out, step, stepE, stepPick, stepG, stepO, stepC, eff, look, rem, St.put, St.setMem, setMems, St.after, St.eval, cst, setAt, val1, okNew, newHs, allHs, rdOf, outHs, Reg.item, Reg.next, Reg.skip, slotOf, effBox, effAlloc, entryRow, fieldOff, effField, loadI, load1, loadR, effLoad, storeI, storeB, storeR, szOk, storeTo, effStore, buildOf, effBuild, binInt, eqI, boolOf, binBool, effBin, effUn, effPick, effExtract, ivs, svs, rowOf, allParts, effBuildSlice, zeroRow, effMakeSlice, elemSz, idxA, idxS, effIndex, lenOf, readOf, subPre, maxRow, plainTI, appTo, effAppend, slcOf, effSlice, argOf, resA, resL, resV, outWr, nodupB, restOk, argsPre, argOk, callWr, effCall, effMax, wrHs, disj, AV.hs, A0.hs, Entry.hs, RC.elem, RC.sz, RC.len, RC.slice, RC.app, hA, initFr, initMem, initSt, resOf, resAll, compEq, compsEq, rowHs, outHds, outsEq, shapeOk, finOk, comps, A0.norm, AV.norm, specOf, t_int, t_bool, t_implForm, t_lawsForm, t_implMatrix, t_implPoint, t_implLattice, t_lawsLattice, t_implTriple, t_lawsTriple, t_implSpot, t_implCube, t_implunited, t_implentries, t_a8int, ts_int, ts_implForm, ts_implSpot, Option.getD_some, Option.getD_none, cond_true, cond_false, Nat.reduceBEq, List.map_cons, List.map_nil, List.set_cons_zero, List.set_cons_succ, List.getElem?_cons_zero, List.getElem?_cons_succ, List.drop_zero, List.drop_succ_cons, List.take_succ_cons, List.take_zero, Option.map_some, Option.map_none, Option.bind_some, Nat.zero_add, Nat.add_zero, Nat.reduceAdd, Nat.reduceMul, true_and, and_true, List.replicate_succ, List.replicate_zero, List.length_cons, List.length_nil, List.all_cons, List.all_nil, List.any_cons, List.any_nil, Bool.and_true, Bool.true_and, Bool.and_false, Bool.false_and, Bool.or_true, Bool.true_or, Bool.or_false, Bool.false_or, Bool.not_true, Bool.not_false, List.append_nil, List.nil_append, List.cons_append, List.flatMap_cons, List.flatMap_nil, List.contains_cons, List.contains_nil, List.filter_cons, List.filter_nil, beq_self_eq_true, Bool.not_eq_true, A0.b.injEq, A0.i.injEq, A0.s.injEq, A0.rw.injEq, A0.fn.injEq, List.cons.injEq, RC.ints.injEq, RC.recs.injEq, RC.bools.injEq, AV.one.injEq, AV.tup.injEq, ble_dec, blt_dec, Nat.reduceLeDiff, Nat.reduceSub, decide_true, decide_false, and_self, List.toList_toArray, Option.isSome_some, Option.isSome_none, List.elem_nil, List.elem_cons, ite_true, ite_false, Bool.false_eq_true, if_true, if_false, reduceIte, flatB_2, flatB_3, flatB_4, List.headD_cons, List.tail_cons, cFoDef, fFoDef, cReReduce, fReReduce, cFoInverse, fFoInverse, cFoMul, fFoMul, cFoMatrix, fFoMatrix, timesI, invI, Try.f25]
  simp only [sdef_eq]
  rw [eqI_3]
  unfold emOk
  cases h1 : defB a b c with
  | false => exact ⟨rfl, ⟨rfl, rfl, rfl, rfl⟩, rfl⟩
  | true =>
    cases h2 : defB x y z with
    | false => exact ⟨rfl, ⟨rfl, rfl, rfl, rfl⟩, rfl⟩
    | true =>
      refine ⟨def_domB h1, def_domB h2, ?_⟩
      cases h3 : decide ((rdA a b c, rdB a b c, rdC a b c) = (rdA x y z, rdB x y z, rdC x y z)) with
      | false => exact ⟨by kernel_rfl, rfl, ⟨rfl, rfl, rfl, rfl⟩, rfl⟩
      | true =>
        refine ⟨by kernel_rfl, ?_⟩
        change (bif !(matB (emP a b c x y z) (emQ a b c x y z) (emR a b c x y z) (emS a b c x y z)) then _ else _)
        cases h4 : matB (emP a b c x y z) (emQ a b c x y z) (emR a b c x y z) (emS a b c x y z)
        · exact ⟨rfl, ⟨rfl, rfl, rfl, rfl⟩, rfl⟩
        · exact ⟨rfl, ⟨rfl, rfl, rfl, rfl⟩, rfl⟩
abbrev fLawEquivM : Nat := 6
def cLawEquivM : Ctr
  | [.s [a, b, c], .s [x, y, z]] => some ⟨True, .one (.b true), []⟩
  | _ => none
theorem okLawEquivM : CtrOk Try.prog fLawEquivM cLawEquivM := by
  have hsp : SpecOk Try.prog (specOf [(fToForm, cToForm), (fSEquivM, cSEquivM), (fEquivM, cEquivM), (fEqMatrix, cEqMatrix)]) := (SpecOk.cons okToForm (SpecOk.cons okSEquivM (SpecOk.cons okEquivM (SpecOk.cons okEqMatrix SpecOk.nil))))
  refine ctr_of (fn := Try.f6) mixed tab_ok hsp Try.func6 (by kernel_rfl) (by kernel_rfl) fun args ce h => ?_
  clear hsp
  unfold cLawEquivM at h
  split at h
  case h_2 => cases h
  rename_i a b c x y z
  simp only [Option.some.injEq] at h
  subst h
  refine ⟨by rfl, fun hp => ⟨0, 1000, ?_⟩⟩
  simp only [vc, out, step, stepE, stepPick, stepG, stepO, stepC, eff, look, rem, St.put, St.setMem, setMems, St.after, St.eval, cst, setAt, val1, okNew, newHs, allHs, rdOf, outHs, Reg.item, Reg.next, Reg.skip, slotOf, effBox, effAlloc, entryRow, fieldOff, effField, loadI, load1, loadR, effLoad, storeI, storeB, storeR, szOk, storeTo, effStore, buildOf, effBuild, binInt, eqI, boolOf, binBool, effBin, effUn, effPick, effExtract, ivs, svs, rowOf, allParts, effBuildSlice, zeroRow, effMakeSlice, elemSz, idxA, idxS, effIndex, lenOf, readOf, subPre, maxRow, plainTI, appTo, effAppend, slcOf, effSlice, argOf, resA, resL, resV, outWr, nodupB, restOk, argsPre, argOk, callWr, effCall, effMax, wrHs, disj, AV.hs, A0.hs, Entry.hs, RC.elem, RC.sz, RC.len, RC.slice, RC.app, hA, initFr, initMem, initSt, resOf, resAll, compEq, compsEq, rowHs, outHds, outsEq, shapeOk, finOk, comps, A0.norm, AV.norm, specOf, t_int, t_bool, t_implForm, t_lawsForm, t_implMatrix, t_implPoint, t_implLattice, t_lawsLattice, t_implTriple, t_lawsTriple, t_implSpot, t_implCube, t_implunited, t_implentries, t_a8int, ts_int, ts_implForm, ts_implSpot, Option.getD_some, Option.getD_none, cond_true, cond_false, Nat.reduceBEq, List.map_cons, List.map_nil, List.set_cons_zero, List.set_cons_succ, List.getElem?_cons_zero, List.getElem?_cons_succ, List.drop_zero, List.drop_succ_cons, List.take_succ_cons, List.take_zero, Option.map_some, Option.map_none, Option.bind_some, Nat.zero_add, Nat.add_zero, Nat.reduceAdd, Nat.reduceMul, true_and, and_true, List.replicate_succ, List.replicate_zero, List.length_cons, List.length_nil, List.all_cons, List.all_nil, List.any_cons, List.any_nil, Bool.and_true, Bool.true_and, Bool.and_false, Bool.false_and, Bool.or_true, Bool.true_or, Bool.or_false, Bool.false_or, Bool.not_true, Bool.not_false, List.append_nil, List.nil_append, List.cons_append, List.flatMap_cons, List.flatMap_nil, List.contains_cons, List.contains_nil, List.filter_cons, List.filter_nil, beq_self_eq_true, Bool.not_eq_true, A0.b.injEq, A0.i.injEq, A0.s.injEq, A0.rw.injEq, A0.fn.injEq, List.cons.injEq, RC.ints.injEq, RC.recs.injEq, RC.bools.injEq, AV.one.injEq, AV.tup.injEq, ble_dec, blt_dec, Nat.reduceLeDiff, Nat.reduceSub, decide_true, decide_false, and_self, List.toList_toArray, Option.isSome_some, Option.isSome_none, List.elem_nil, List.elem_cons, ite_true, ite_false, Bool.false_eq_true, if_true, if_false, reduceIte, flatB_2, flatB_3, flatB_4, List.headD_cons, List.tail_cons, cToForm, fToForm, cSEquivM, fSEquivM, cEquivM, fEquivM, cEqMatrix, fEqMatrix, Try.f6]
  refine ⟨by kernel_rfl, by kernel_rfl, ?_⟩
  simp
end Go.Proofs.Ytikmbgaoflpndaa
