/-
  Contracts of InverseForm on both sides, and of its law. Conditions: none.
-/
import Derived.Test.YthcbcdjfbiagpaaLst
namespace Go.Proofs.Ythcbcdjfbiagpaa
open Go Go.RowKit
set_option maxRecDepth 100000
set_option linter.unusedSimpArgs false
set_option linter.unusedVariables false
set_option maxHeartbeats 4000000

-- (not in this seat: Inverse)
abbrev fCoInverse : Nat := 88
def cCoInverse : Ctr
  | [.s [a, b, c]] => some ⟨domB a (wrap64 (0 - b)) c = true, .one (.s [rdA a (wrap64 (0 - b)) c, rdB a (wrap64 (0 - b)) c, rdC a (wrap64 (0 - b)) c]), []⟩
  | _ => none
theorem okCoInverse : CtrOk Try.prog fCoInverse cCoInverse := by
  have hsp : SpecOk Try.prog (specOf [(fReClass, cReClass), (fFoOpposite, cFoOpposite)]) := (SpecOk.cons okReClass (SpecOk.cons okFoOpposite SpecOk.nil))
  refine ctr_of (fn := Try.f88) mixed tab_ok hsp Try.func88 (by kernel_rfl) (by kernel_rfl) fun args ce h => ?_
  clear hsp
  unfold cCoInverse at h
  split at h
  case h_2 => cases h
  rename_i a b c
  simp only [Option.some.injEq] at h
  subst h
  refine ⟨by rfl, fun hp => ⟨0, 1000, ?_⟩⟩
  simp only [vc, out, step, stepE, stepPick, stepG, stepO, stepC, eff, look, rem, St.put, St.setMem, setMems, St.after, St.eval, cst, setAt, val1, okNew, newHs, allHs, rdOf, outHs, Reg.item, Reg.next, Reg.skip, slotOf, effBox, effAlloc, entryRow, fieldOff, effField, loadI, load1, loadR, effLoad, storeI, storeB, storeR, szOk, storeTo, effStore, buildOf, effBuild, binInt, eqI, boolOf, binBool, effBin, effUn, effPick, effExtract, ivs, svs, rowOf, allParts, effBuildSlice, zeroRow, effMakeSlice, elemSz, idxA, idxS, effIndex, lenOf, readOf, subPre, maxRow, plainTI, appTo, effAppend, slcOf, effSlice, argOf, resA, resL, resV, outWr, nodupB, restOk, argsPre, argOk, callWr, effCall, effMax, wrHs, disj, AV.hs, A0.hs, Entry.hs, RC.elem, RC.sz, RC.len, RC.slice, RC.app, hA, initFr, initMem, initSt, resOf, resAll, compEq, compsEq, rowHs, outHds, outsEq, shapeOk, finOk, comps, A0.norm, AV.norm, specOf, t_int, t_bool, t_implForm, t_lawsForm, t_implMatrix, t_implPoint, t_implTriple, t_lawsTriple, t_implSpot, t_implCube, t_implunited, t_implCharacter, t_implentries, t_implbilinear, t_a8int, t_a3int, t_a4int, ts_int, ts_implForm, ts_implSpot, ts_implPoint, ts_implMatrix, ts_implCharacter, Option.getD_some, Option.getD_none, cond_true, cond_false, Nat.reduceBEq, List.map_cons, List.map_nil, List.set_cons_zero, List.set_cons_succ, List.getElem?_cons_zero, List.getElem?_cons_succ, List.drop_zero, List.drop_succ_cons, List.take_succ_cons, List.take_zero, Option.map_some, Option.map_none, Option.bind_some, Nat.zero_add, Nat.add_zero, Nat.reduceAdd, Nat.reduceMul, true_and, and_true, List.replicate_succ, List.replicate_zero, List.length_cons, List.length_nil, List.all_cons, List.all_nil, List.any_cons, List.any_nil, Bool.and_true, Bool.true_and, Bool.and_false, Bool.false_and, Bool.or_true, Bool.true_or, Bool.or_false, Bool.false_or, Bool.not_true, Bool.not_false, List.append_nil, List.nil_append, List.cons_append, List.flatMap_cons, List.flatMap_nil, List.contains_cons, List.contains_nil, List.filter_cons, List.filter_nil, beq_self_eq_true, Bool.not_eq_true, A0.b.injEq, A0.i.injEq, A0.s.injEq, A0.rw.injEq, A0.fn.injEq, List.cons.injEq, RC.ints.injEq, RC.recs.injEq, RC.bools.injEq, AV.one.injEq, AV.tup.injEq, ble_dec, blt_dec, Nat.reduceLeDiff, Nat.reduceSub, decide_true, decide_false, and_self, List.toList_toArray, Option.isSome_some, Option.isSome_none, List.elem_nil, List.elem_cons, ite_true, ite_false, Bool.false_eq_true, if_true, if_false, reduceIte, flatB_2, flatB_3, flatB_4, List.headD_cons, List.tail_cons, cReClass, fReClass, cFoOpposite, fFoOpposite, Try.f88]
  exact hp
-- (not in this seat: SInverse)
-- (not in this seat: LawInverse)
end Go.Proofs.Ythcbcdjfbiagpaa
