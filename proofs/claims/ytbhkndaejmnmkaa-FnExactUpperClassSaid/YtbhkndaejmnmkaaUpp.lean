/-
  Contracts of UpperClass on both sides, and of its law. Conditions: none.
-/
import Derived.Test.YtbhkndaejmnmkaaSub2
namespace Go.Proofs.Ytbhkndaejmnmkaa
open Go Go.RowKit
set_option maxRecDepth 100000
set_option linter.unusedSimpArgs false
set_option linter.unusedVariables false
set_option maxHeartbeats 4000000

abbrev fHasForm : Nat := 98
def cHasForm : Ctr
  | [.rw (.recs e 3 l), .s [a, b, c]] => some ⟨l.length ≤ 1000000000, .one (.b (decide ((a, b, c) ∈ unfl l))), []⟩
  | _ => none
theorem okHasForm : CtrOk Try.prog fHasForm cHasForm := by
  have hsp : SpecOk Try.prog (specOf []) := SpecOk.nil
  refine ctr_of (fn := Try.f98) mixed tab_ok hsp Try.func98 (by kernel_rfl) (by kernel_rfl) fun args ce h => ?_
  clear hsp
  unfold cHasForm at h
  split at h
  case h_2 => cases h
  rename_i e l a b c
  simp only [Option.some.injEq] at h
  subst h
  refine ⟨by rfl, fun hp => ⟨1, 1000, ?_⟩⟩
  simp only [vc, out, step, stepE, stepPick, stepG, stepO, stepC, eff, look, rem, St.put, St.setMem, setMems, St.after, St.eval, cst, setAt, val1, okNew, newHs, allHs, rdOf, outHs, Reg.item, Reg.next, Reg.skip, slotOf, effBox, effAlloc, entryRow, fieldOff, effField, loadI, load1, loadR, effLoad, storeI, storeB, storeR, szOk, storeTo, effStore, buildOf, effBuild, binInt, eqI, boolOf, binBool, effBin, effUn, effPick, effExtract, ivs, svs, rowOf, allParts, effBuildSlice, zeroRow, effMakeSlice, elemSz, idxA, idxS, effIndex, lenOf, readOf, subPre, maxRow, plainTI, appTo, effAppend, slcOf, effSlice, argOf, resA, resL, resV, outWr, nodupB, restOk, argsPre, argOk, callWr, effCall, effMax, wrHs, disj, AV.hs, A0.hs, Entry.hs, RC.elem, RC.sz, RC.len, RC.slice, RC.app, hA, initFr, initMem, initSt, resOf, resAll, compEq, compsEq, rowHs, outHds, outsEq, shapeOk, finOk, comps, A0.norm, AV.norm, specOf, t_int, t_bool, t_implForm, t_lawsForm, t_implMatrix, t_implPoint, t_implTriple, t_implSpot, t_implunited, ts_int, ts_implForm, ts_implSpot, ts_implPoint, ts_implMatrix, Option.getD_some, Option.getD_none, cond_true, cond_false, Nat.reduceBEq, List.map_cons, List.map_nil, List.set_cons_zero, List.set_cons_succ, List.getElem?_cons_zero, List.getElem?_cons_succ, List.drop_zero, List.drop_succ_cons, List.take_succ_cons, List.take_zero, Option.map_some, Option.map_none, Option.bind_some, Nat.zero_add, Nat.add_zero, Nat.reduceAdd, Nat.reduceMul, true_and, and_true, List.replicate_succ, List.replicate_zero, List.length_cons, List.length_nil, List.all_cons, List.all_nil, List.any_cons, List.any_nil, Bool.and_true, Bool.true_and, Bool.and_false, Bool.false_and, Bool.or_true, Bool.true_or, Bool.or_false, Bool.false_or, Bool.not_true, Bool.not_false, List.append_nil, List.nil_append, List.cons_append, List.flatMap_cons, List.flatMap_nil, List.contains_cons, List.contains_nil, List.filter_cons, List.filter_nil, beq_self_eq_true, Bool.not_eq_true, A0.b.injEq, A0.i.injEq, A0.s.injEq, A0.rw.injEq, A0.fn.injEq, List.cons.injEq, RC.ints.injEq, RC.recs.injEq, RC.bools.injEq, AV.one.injEq, AV.tup.injEq, ble_dec, blt_dec, Nat.reduceLeDiff, Nat.reduceSub, decide_true, decide_false, and_self, List.toList_toArray, Option.isSome_some, Option.isSome_none, List.elem_nil, List.elem_cons, ite_true, ite_false, Bool.false_eq_true, if_true, if_false, reduceIte, flatB_2, flatB_3, flatB_4, List.headD_cons, List.tail_cons, Try.f98]
  have hp' : l.length ≤ 1000000000 := hp
  refine lp_intro (fun n : Nat => ⟨[(3, .one (.ref 3 0)), (7, .one (.row 1000000)), (8, .one (.i l.length)), (9, .one (.i n))], [(1000000, .ro (.recs e 3 l)), (3, .ibox 27 [a, b, c])]⟩)
    (fun n => n ≤ l.length ∧ (a, b, c) ∉ (unfl l).take n) (fun n => l.length - n) 0 [] ⟨Nat.zero_le _, by simp⟩ (by simp only [Cov, covOk, covFr, covMem, entEq, rn, nodupB, A0.ren, AV.ren, Entry.ren, Entry.norm, vc, out, step, stepE, stepPick, stepG, stepO, stepC, eff, look, rem, St.put, St.setMem, setMems, St.after, St.eval, cst, setAt, val1, okNew, newHs, allHs, rdOf, outHs, Reg.item, Reg.next, Reg.skip, slotOf, effBox, effAlloc, entryRow, fieldOff, effField, loadI, load1, loadR, effLoad, storeI, storeB, storeR, szOk, storeTo, effStore, buildOf, effBuild, binInt, eqI, boolOf, binBool, effBin, effUn, effPick, effExtract, ivs, svs, rowOf, allParts, effBuildSlice, zeroRow, effMakeSlice, elemSz, idxA, idxS, effIndex, lenOf, readOf, subPre, maxRow, plainTI, appTo, effAppend, slcOf, effSlice, argOf, resA, resL, resV, outWr, nodupB, restOk, argsPre, argOk, callWr, effCall, effMax, wrHs, disj, AV.hs, A0.hs, Entry.hs, RC.elem, RC.sz, RC.len, RC.slice, RC.app, hA, initFr, initMem, initSt, resOf, resAll, compEq, compsEq, rowHs, outHds, outsEq, shapeOk, finOk, comps, A0.norm, AV.norm, specOf, t_int, t_bool, t_implForm, t_lawsForm, t_implMatrix, t_implPoint, t_implTriple, t_implSpot, t_implunited, ts_int, ts_implForm, ts_implSpot, ts_implPoint, ts_implMatrix, Option.getD_some, Option.getD_none, cond_true, cond_false, Nat.reduceBEq, List.map_cons, List.map_nil, List.set_cons_zero, List.set_cons_succ, List.getElem?_cons_zero, List.getElem?_cons_succ, List.drop_zero, List.drop_succ_cons, List.take_succ_cons, List.take_zero, Option.map_some, Option.map_none, Option.bind_some, Nat.zero_add, Nat.add_zero, Nat.reduceAdd, Nat.reduceMul, true_and, and_true, List.replicate_succ, List.replicate_zero, List.length_cons, List.length_nil, List.all_cons, List.all_nil, List.any_cons, List.any_nil, Bool.and_true, Bool.true_and, Bool.and_false, Bool.false_and, Bool.or_true, Bool.true_or, Bool.or_false, Bool.false_or, Bool.not_true, Bool.not_false, List.append_nil, List.nil_append, List.cons_append, List.flatMap_cons, List.flatMap_nil, List.contains_cons, List.contains_nil, List.filter_cons, List.filter_nil, beq_self_eq_true, Bool.not_eq_true, A0.b.injEq, A0.i.injEq, A0.s.injEq, A0.rw.injEq, A0.fn.injEq, List.cons.injEq, RC.ints.injEq, RC.recs.injEq, RC.bools.injEq, AV.one.injEq, AV.tup.injEq, ble_dec, blt_dec, Nat.reduceLeDiff, Nat.reduceSub, decide_true, decide_false, and_self, List.toList_toArray, Option.isSome_some, Option.isSome_none, List.elem_nil, List.elem_cons, ite_true, ite_false, Bool.false_eq_true, if_true, if_false, reduceIte, flatB_2, flatB_3, flatB_4, List.headD_cons, List.tail_cons]; simp) fun n hn J hJ => ⟨1000, ?_⟩
  simp only [vc, out, step, stepE, stepPick, stepG, stepO, stepC, eff, look, rem, St.put, St.setMem, setMems, St.after, St.eval, cst, setAt, val1, okNew, newHs, allHs, rdOf, outHs, Reg.item, Reg.next, Reg.skip, slotOf, effBox, effAlloc, entryRow, fieldOff, effField, loadI, load1, loadR, effLoad, storeI, storeB, storeR, szOk, storeTo, effStore, buildOf, effBuild, binInt, eqI, boolOf, binBool, effBin, effUn, effPick, effExtract, ivs, svs, rowOf, allParts, effBuildSlice, zeroRow, effMakeSlice, elemSz, idxA, idxS, effIndex, lenOf, readOf, subPre, maxRow, plainTI, appTo, effAppend, slcOf, effSlice, argOf, resA, resL, resV, outWr, nodupB, restOk, argsPre, argOk, callWr, effCall, effMax, wrHs, disj, AV.hs, A0.hs, Entry.hs, RC.elem, RC.sz, RC.len, RC.slice, RC.app, hA, initFr, initMem, initSt, resOf, resAll, compEq, compsEq, rowHs, outHds, outsEq, shapeOk, finOk, comps, A0.norm, AV.norm, specOf, t_int, t_bool, t_implForm, t_lawsForm, t_implMatrix, t_implPoint, t_implTriple, t_implSpot, t_implunited, ts_int, ts_implForm, ts_implSpot, ts_implPoint, ts_implMatrix, Option.getD_some, Option.getD_none, cond_true, cond_false, Nat.reduceBEq, List.map_cons, List.map_nil, List.set_cons_zero, List.set_cons_succ, List.getElem?_cons_zero, List.getElem?_cons_succ, List.drop_zero, List.drop_succ_cons, List.take_succ_cons, List.take_zero, Option.map_some, Option.map_none, Option.bind_some, Nat.zero_add, Nat.add_zero, Nat.reduceAdd, Nat.reduceMul, true_and, and_true, List.replicate_succ, List.replicate_zero, List.length_cons, List.length_nil, List.all_cons, List.all_nil, List.any_cons, List.any_nil, Bool.and_true, Bool.true_and, Bool.and_false, Bool.false_and, Bool.or_true, Bool.true_or, Bool.or_false, Bool.false_or, Bool.not_true, Bool.not_false, List.append_nil, List.nil_append, List.cons_append, List.flatMap_cons, List.flatMap_nil, List.contains_cons, List.contains_nil, List.filter_cons, List.filter_nil, beq_self_eq_true, Bool.not_eq_true, A0.b.injEq, A0.i.injEq, A0.s.injEq, A0.rw.injEq, A0.fn.injEq, List.cons.injEq, RC.ints.injEq, RC.recs.injEq, RC.bools.injEq, AV.one.injEq, AV.tup.injEq, ble_dec, blt_dec, Nat.reduceLeDiff, Nat.reduceSub, decide_true, decide_false, and_self, List.toList_toArray, Option.isSome_some, Option.isSome_none, List.elem_nil, List.elem_cons, ite_true, ite_false, Bool.false_eq_true, if_true, if_false, reduceIte, flatB_2, flatB_3, flatB_4, List.headD_cons, List.tail_cons, rng3, Int.toNat_natCast]
  obtain ⟨hn, ht⟩ := hn
  rw [bif_prop]
  refine ⟨fun hc => ?_, fun hc => ?_⟩
  · have hlt := ilt_iff.1 hc
    refine ⟨⟨by omega, by omega⟩, hlt, ?_⟩
    rw [eqI_3, bif_prop]
    refine ⟨fun h1 => ?_, fun h1 => hJ _ (n + 1) [] ⟨hlt, ?_⟩ (by omega) (by simp only [Cov, covOk, covFr, covMem, entEq, rn, nodupB, A0.ren, AV.ren, Entry.ren, Entry.norm, vc, out, step, stepE, stepPick, stepG, stepO, stepC, eff, look, rem, St.put, St.setMem, setMems, St.after, St.eval, cst, setAt, val1, okNew, newHs, allHs, rdOf, outHs, Reg.item, Reg.next, Reg.skip, slotOf, effBox, effAlloc, entryRow, fieldOff, effField, loadI, load1, loadR, effLoad, storeI, storeB, storeR, szOk, storeTo, effStore, buildOf, effBuild, binInt, eqI, boolOf, binBool, effBin, effUn, effPick, effExtract, ivs, svs, rowOf, allParts, effBuildSlice, zeroRow, effMakeSlice, elemSz, idxA, idxS, effIndex, lenOf, readOf, subPre, maxRow, plainTI, appTo, effAppend, slcOf, effSlice, argOf, resA, resL, resV, outWr, nodupB, restOk, argsPre, argOk, callWr, effCall, effMax, wrHs, disj, AV.hs, A0.hs, Entry.hs, RC.elem, RC.sz, RC.len, RC.slice, RC.app, hA, initFr, initMem, initSt, resOf, resAll, compEq, compsEq, rowHs, outHds, outsEq, shapeOk, finOk, comps, A0.norm, AV.norm, specOf, t_int, t_bool, t_implForm, t_lawsForm, t_implMatrix, t_implPoint, t_implTriple, t_implSpot, t_implunited, ts_int, ts_implForm, ts_implSpot, ts_implPoint, ts_implMatrix, Option.getD_some, Option.getD_none, cond_true, cond_false, Nat.reduceBEq, List.map_cons, List.map_nil, List.set_cons_zero, List.set_cons_succ, List.getElem?_cons_zero, List.getElem?_cons_succ, List.drop_zero, List.drop_succ_cons, List.take_succ_cons, List.take_zero, Option.map_some, Option.map_none, Option.bind_some, Nat.zero_add, Nat.add_zero, Nat.reduceAdd, Nat.reduceMul, true_and, and_true, List.replicate_succ, List.replicate_zero, List.length_cons, List.length_nil, List.all_cons, List.all_nil, List.any_cons, List.any_nil, Bool.and_true, Bool.true_and, Bool.and_false, Bool.false_and, Bool.or_true, Bool.true_or, Bool.or_false, Bool.false_or, Bool.not_true, Bool.not_false, List.append_nil, List.nil_append, List.cons_append, List.flatMap_cons, List.flatMap_nil, List.contains_cons, List.contains_nil, List.filter_cons, List.filter_nil, beq_self_eq_true, Bool.not_eq_true, A0.b.injEq, A0.i.injEq, A0.s.injEq, A0.rw.injEq, A0.fn.injEq, List.cons.injEq, RC.ints.injEq, RC.recs.injEq, RC.bools.injEq, AV.one.injEq, AV.tup.injEq, ble_dec, blt_dec, Nat.reduceLeDiff, Nat.reduceSub, decide_true, decide_false, and_self, List.toList_toArray, Option.isSome_some, Option.isSome_none, List.elem_nil, List.elem_cons, ite_true, ite_false, Bool.false_eq_true, if_true, if_false, reduceIte, flatB_2, flatB_3, flatB_4, List.headD_cons, List.tail_cons, wsucc hlt (Nat.le_trans hp' (by omega))])⟩
    · symm
      rw [decide_eq_true_iff, of_decide_eq_true h1]
      exact unfl_mem l hlt
    · rw [unfl_take l hlt, List.mem_append, not_or]
      refine ⟨ht, ?_⟩
      rw [List.mem_singleton]
      exact of_decide_eq_false h1
  · have := inlt_iff.1 hc
    rw [List.take_of_length_le (by rw [unfl_length]; exact this)] at ht
    symm
    rw [decide_eq_false_iff_not]
    exact ht
abbrev fCyHas : Nat := 89
def cCyHas : Ctr
  | [.rw (.recs e 3 l), .s [a, b, c]] => some ⟨l.length ≤ 1000000000, .one (.b (decide ((a, b, c) ∈ unfl l))), []⟩
  | _ => none
theorem okCyHas : CtrOk Try.prog fCyHas cCyHas := by
  have hsp : SpecOk Try.prog (specOf []) := SpecOk.nil
  refine ctr_of (fn := Try.f89) mixed tab_ok hsp Try.func89 (by kernel_rfl) (by kernel_rfl) fun args ce h => ?_
  clear hsp
  unfold cCyHas at h
  split at h
  case h_2 => cases h
  rename_i e l a b c
  simp only [Option.some.injEq] at h
  subst h
  refine ⟨by rfl, fun hp => ⟨1, 1000, ?_⟩⟩
  simp only [vc, out, step, stepE, stepPick, stepG, stepO, stepC, eff, look, rem, St.put, St.setMem, setMems, St.after, St.eval, cst, setAt, val1, okNew, newHs, allHs, rdOf, outHs, Reg.item, Reg.next, Reg.skip, slotOf, effBox, effAlloc, entryRow, fieldOff, effField, loadI, load1, loadR, effLoad, storeI, storeB, storeR, szOk, storeTo, effStore, buildOf, effBuild, binInt, eqI, boolOf, binBool, effBin, effUn, effPick, effExtract, ivs, svs, rowOf, allParts, effBuildSlice, zeroRow, effMakeSlice, elemSz, idxA, idxS, effIndex, lenOf, readOf, subPre, maxRow, plainTI, appTo, effAppend, slcOf, effSlice, argOf, resA, resL, resV, outWr, nodupB, restOk, argsPre, argOk, callWr, effCall, effMax, wrHs, disj, AV.hs, A0.hs, Entry.hs, RC.elem, RC.sz, RC.len, RC.slice, RC.app, hA, initFr, initMem, initSt, resOf, resAll, compEq, compsEq, rowHs, outHds, outsEq, shapeOk, finOk, comps, A0.norm, AV.norm, specOf, t_int, t_bool, t_implForm, t_lawsForm, t_implMatrix, t_implPoint, t_implTriple, t_implSpot, t_implunited, ts_int, ts_implForm, ts_implSpot, ts_implPoint, ts_implMatrix, Option.getD_some, Option.getD_none, cond_true, cond_false, Nat.reduceBEq, List.map_cons, List.map_nil, List.set_cons_zero, List.set_cons_succ, List.getElem?_cons_zero, List.getElem?_cons_succ, List.drop_zero, List.drop_succ_cons, List.take_succ_cons, List.take_zero, Option.map_some, Option.map_none, Option.bind_some, Nat.zero_add, Nat.add_zero, Nat.reduceAdd, Nat.reduceMul, true_and, and_true, List.replicate_succ, List.replicate_zero, List.length_cons, List.length_nil, List.all_cons, List.all_nil, List.any_cons, List.any_nil, Bool.and_true, Bool.true_and, Bool.and_false, Bool.false_and, Bool.or_true, Bool.true_or, Bool.or_false, Bool.false_or, Bool.not_true, Bool.not_false, List.append_nil, List.nil_append, List.cons_append, List.flatMap_cons, List.flatMap_nil, List.contains_cons, List.contains_nil, List.filter_cons, List.filter_nil, beq_self_eq_true, Bool.not_eq_true, A0.b.injEq, A0.i.injEq, A0.s.injEq, A0.rw.injEq, A0.fn.injEq, List.cons.injEq, RC.ints.injEq, RC.recs.injEq, RC.bools.injEq, AV.one.injEq, AV.tup.injEq, ble_dec, blt_dec, Nat.reduceLeDiff, Nat.reduceSub, decide_true, decide_false, and_self, List.toList_toArray, Option.isSome_some, Option.isSome_none, List.elem_nil, List.elem_cons, ite_true, ite_false, Bool.false_eq_true, if_true, if_false, reduceIte, flatB_2, flatB_3, flatB_4, List.headD_cons, List.tail_cons, Try.f89]
  have hp' : l.length ≤ 1000000000 := hp
  refine lp_intro (fun n : Nat => ⟨[(3, .one (.ref 3 0)), (7, .one (.row 1000000)), (8, .one (.i l.length)), (9, .one (.i n))], [(1000000, .ro (.recs e 3 l)), (3, .ibox 27 [a, b, c])]⟩)
    (fun n => n ≤ l.length ∧ (a, b, c) ∉ (unfl l).take n) (fun n => l.length - n) 0 [] ⟨Nat.zero_le _, by simp⟩ (by simp only [Cov, covOk, covFr, covMem, entEq, rn, nodupB, A0.ren, AV.ren, Entry.ren, Entry.norm, vc, out, step, stepE, stepPick, stepG, stepO, stepC, eff, look, rem, St.put, St.setMem, setMems, St.after, St.eval, cst, setAt, val1, okNew, newHs, allHs, rdOf, outHs, Reg.item, Reg.next, Reg.skip, slotOf, effBox, effAlloc, entryRow, fieldOff, effField, loadI, load1, loadR, effLoad, storeI, storeB, storeR, szOk, storeTo, effStore, buildOf, effBuild, binInt, eqI, boolOf, binBool, effBin, effUn, effPick, effExtract, ivs, svs, rowOf, allParts, effBuildSlice, zeroRow, effMakeSlice, elemSz, idxA, idxS, effIndex, lenOf, readOf, subPre, maxRow, plainTI, appTo, effAppend, slcOf, effSlice, argOf, resA, resL, resV, outWr, nodupB, restOk, argsPre, argOk, callWr, effCall, effMax, wrHs, disj, AV.hs, A0.hs, Entry.hs, RC.elem, RC.sz, RC.len, RC.slice, RC.app, hA, initFr, initMem, initSt, resOf, resAll, compEq, compsEq, rowHs, outHds, outsEq, shapeOk, finOk, comps, A0.norm, AV.norm, specOf, t_int, t_bool, t_implForm, t_lawsForm, t_implMatrix, t_implPoint, t_implTriple, t_implSpot, t_implunited, ts_int, ts_implForm, ts_implSpot, ts_implPoint, ts_implMatrix, Option.getD_some, Option.getD_none, cond_true, cond_false, Nat.reduceBEq, List.map_cons, List.map_nil, List.set_cons_zero, List.set_cons_succ, List.getElem?_cons_zero, List.getElem?_cons_succ, List.drop_zero, List.drop_succ_cons, List.take_succ_cons, List.take_zero, Option.map_some, Option.map_none, Option.bind_some, Nat.zero_add, Nat.add_zero, Nat.reduceAdd, Nat.reduceMul, true_and, and_true, List.replicate_succ, List.replicate_zero, List.length_cons, List.length_nil, List.all_cons, List.all_nil, List.any_cons, List.any_nil, Bool.and_true, Bool.true_and, Bool.and_false, Bool.false_and, Bool.or_true, Bool.true_or, Bool.or_false, Bool.false_or, Bool.not_true, Bool.not_false, List.append_nil, List.nil_append, List.cons_append, List.flatMap_cons, List.flatMap_nil, List.contains_cons, List.contains_nil, List.filter_cons, List.filter_nil, beq_self_eq_true, Bool.not_eq_true, A0.b.injEq, A0.i.injEq, A0.s.injEq, A0.rw.injEq, A0.fn.injEq, List.cons.injEq, RC.ints.injEq, RC.recs.injEq, RC.bools.injEq, AV.one.injEq, AV.tup.injEq, ble_dec, blt_dec, Nat.reduceLeDiff, Nat.reduceSub, decide_true, decide_false, and_self, List.toList_toArray, Option.isSome_some, Option.isSome_none, List.elem_nil, List.elem_cons, ite_true, ite_false, Bool.false_eq_true, if_true, if_false, reduceIte, flatB_2, flatB_3, flatB_4, List.headD_cons, List.tail_cons]; simp) fun n hn J hJ => ⟨1000, ?_⟩
  simp only [vc, out, step, stepE, stepPick, stepG, stepO, stepC, eff, look, rem, St.put, St.setMem, setMems, St.after, St.eval, cst, setAt, val1, okNew, newHs, allHs, rdOf, outHs, Reg.item, Reg.next, Reg.skip, slotOf, effBox, effAlloc, entryRow, fieldOff, effField, loadI, load1, loadR, effLoad, storeI, storeB, storeR, szOk, storeTo, effStore, buildOf, effBuild, binInt, eqI, boolOf, binBool, effBin, effUn, effPick, effExtract, ivs, svs, rowOf, allParts, effBuildSlice, zeroRow, effMakeSlice, elemSz, idxA, idxS, effIndex, lenOf, readOf, subPre, maxRow, plainTI, appTo, effAppend, slcOf, effSlice, argOf, resA, resL, resV, outWr, nodupB, restOk, argsPre, argOk, callWr, effCall, effMax, wrHs, disj, AV.hs, A0.hs, Entry.hs, RC.elem, RC.sz, RC.len, RC.slice, RC.app, hA, initFr, initMem, initSt, resOf, resAll, compEq, compsEq, rowHs, outHds, outsEq, shapeOk, finOk, comps, A0.norm, AV.norm, specOf, t_int, t_bool, t_implForm, t_lawsForm, t_implMatrix, t_implPoint, t_implTriple, t_implSpot, t_implunited, ts_int, ts_implForm, ts_implSpot, ts_implPoint, ts_implMatrix, Option.getD_some, Option.getD_none, cond_true, cond_false, Nat.reduceBEq, List.map_cons, List.map_nil, List.set_cons_zero, List.set_cons_succ, List.getElem?_cons_zero, List.getElem?_cons_succ, List.drop_zero, List.drop_succ_cons, List.take_succ_cons, List.take_zero, Option.map_some, Option.map_none, Option.bind_some, Nat.zero_add, Nat.add_zero, Nat.reduceAdd, Nat.reduceMul, true_and, and_true, List.replicate_succ, List.replicate_zero, List.length_cons, List.length_nil, List.all_cons, List.all_nil, List.any_cons, List.any_nil, Bool.and_true, Bool.true_and, Bool.and_false, Bool.false_and, Bool.or_true, Bool.true_or, Bool.or_false, Bool.false_or, Bool.not_true, Bool.not_false, List.append_nil, List.nil_append, List.cons_append, List.flatMap_cons, List.flatMap_nil, List.contains_cons, List.contains_nil, List.filter_cons, List.filter_nil, beq_self_eq_true, Bool.not_eq_true, A0.b.injEq, A0.i.injEq, A0.s.injEq, A0.rw.injEq, A0.fn.injEq, List.cons.injEq, RC.ints.injEq, RC.recs.injEq, RC.bools.injEq, AV.one.injEq, AV.tup.injEq, ble_dec, blt_dec, Nat.reduceLeDiff, Nat.reduceSub, decide_true, decide_false, and_self, List.toList_toArray, Option.isSome_some, Option.isSome_none, List.elem_nil, List.elem_cons, ite_true, ite_false, Bool.false_eq_true, if_true, if_false, reduceIte, flatB_2, flatB_3, flatB_4, List.headD_cons, List.tail_cons, rng3, Int.toNat_natCast]
  obtain ⟨hn, ht⟩ := hn
  rw [bif_prop]
  refine ⟨fun hc => ?_, fun hc => ?_⟩
  · have hlt := ilt_iff.1 hc
    refine ⟨⟨by omega, by omega⟩, hlt, ?_⟩
    rw [eqI_3, bif_prop]
    refine ⟨fun h1 => ?_, fun h1 => hJ _ (n + 1) [] ⟨hlt, ?_⟩ (by omega) (by simp only [Cov, covOk, covFr, covMem, entEq, rn, nodupB, A0.ren, AV.ren, Entry.ren, Entry.norm, vc, out, step, stepE, stepPick, stepG, stepO, stepC, eff, look, rem, St.put, St.setMem, setMems, St.after, St.eval, cst, setAt, val1, okNew, newHs, allHs, rdOf, outHs, Reg.item, Reg.next, Reg.skip, slotOf, effBox, effAlloc, entryRow, fieldOff, effField, loadI, load1, loadR, effLoad, storeI, storeB, storeR, szOk, storeTo, effStore, buildOf, effBuild, binInt, eqI, boolOf, binBool, effBin, effUn, effPick, effExtract, ivs, svs, rowOf, allParts, effBuildSlice, zeroRow, effMakeSlice, elemSz, idxA, idxS, effIndex, lenOf, readOf, subPre, maxRow, plainTI, appTo, effAppend, slcOf, effSlice, argOf, resA, resL, resV, outWr, nodupB, restOk, argsPre, argOk, callWr, effCall, effMax, wrHs, disj, AV.hs, A0.hs, Entry.hs, RC.elem, RC.sz, RC.len, RC.slice, RC.app, hA, initFr, initMem, initSt, resOf, resAll, compEq, compsEq, rowHs, outHds, outsEq, shapeOk, finOk, comps, A0.norm, AV.norm, specOf, t_int, t_bool, t_implForm, t_lawsForm, t_implMatrix, t_implPoint, t_implTriple, t_implSpot, t_implunited, ts_int, ts_implForm, ts_implSpot, ts_implPoint, ts_implMatrix, Option.getD_some, Option.getD_none, cond_true, cond_false, Nat.reduceBEq, List.map_cons, List.map_nil, List.set_cons_zero, List.set_cons_succ, List.getElem?_cons_zero, List.getElem?_cons_succ, List.drop_zero, List.drop_succ_cons, List.take_succ_cons, List.take_zero, Option.map_some, Option.map_none, Option.bind_some, Nat.zero_add, Nat.add_zero, Nat.reduceAdd, Nat.reduceMul, true_and, and_true, List.replicate_succ, List.replicate_zero, List.length_cons, List.length_nil, List.all_cons, List.all_nil, List.any_cons, List.any_nil, Bool.and_true, Bool.true_and, Bool.and_false, Bool.false_and, Bool.or_true, Bool.true_or, Bool.or_false, Bool.false_or, Bool.not_true, Bool.not_false, List.append_nil, List.nil_append, List.cons_append, List.flatMap_cons, List.flatMap_nil, List.contains_cons, List.contains_nil, List.filter_cons, List.filter_nil, beq_self_eq_true, Bool.not_eq_true, A0.b.injEq, A0.i.injEq, A0.s.injEq, A0.rw.injEq, A0.fn.injEq, List.cons.injEq, RC.ints.injEq, RC.recs.injEq, RC.bools.injEq, AV.one.injEq, AV.tup.injEq, ble_dec, blt_dec, Nat.reduceLeDiff, Nat.reduceSub, decide_true, decide_false, and_self, List.toList_toArray, Option.isSome_some, Option.isSome_none, List.elem_nil, List.elem_cons, ite_true, ite_false, Bool.false_eq_true, if_true, if_false, reduceIte, flatB_2, flatB_3, flatB_4, List.headD_cons, List.tail_cons, wsucc hlt (Nat.le_trans hp' (by omega))])⟩
    · symm
      rw [decide_eq_true_iff, ← of_decide_eq_true h1]
      exact unfl_mem l hlt
    · rw [unfl_take l hlt, List.mem_append, not_or]
      refine ⟨ht, ?_⟩
      rw [List.mem_singleton]
      exact fun e => of_decide_eq_false h1 e.symm
  · have := inlt_iff.1 hc
    rw [List.take_of_length_le (by rw [unfl_length]; exact this)] at ht
    symm
    rw [decide_eq_false_iff_not]
    exact ht
def hasP (r : F3) (p : Int) (g : F3) : Bool := decide (r ∈ scL g p)
def ucD (a b c p : Int) : Int := wrap64 ((discI a b c).tdiv (wrap64 (p * p)))
def ucB (a b c p : Int) : Bool := (defB a b c && decide (gcdI a (gcdI b c) = 1)) && idxB p && (decide ((discI a b c).tmod (wrap64 (p * p)) = 0) && negB (ucD a b c p))
def ucO (a b c p : Int) : Option F3 := (redF (ucD a b c p)).find? (hasP (rdA a b c, rdB a b c, rdC a b c) p)
def ucF (a b c p : Int) : F3 := if ucB a b c p = true then (ucO a b c p).getD (0, 0, 0) else (0, 0, 0)
def ucS (a b c p : Int) : Bool := ucB a b c p && (ucO a b c p).isSome
theorem find_hit {L : List F3} {P : F3 → Bool} {n : Nat} {x : F3} (h : (L.take n).find? P = none) (e : L.take (n + 1) = L.take n ++ [x]) (hx : P x = true) : L.find? P = some x := by
  have h1 : L = L.take n ++ [x] ++ L.drop (n + 1) := by rw [← e, List.take_append_drop]
  rw [h1, List.find?_append, List.find?_append, h]
  simp [hx]
theorem find_go {L : List F3} {P : F3 → Bool} {n : Nat} {x : F3} (h : (L.take n).find? P = none) (e : L.take (n + 1) = L.take n ++ [x]) (hx : P x = false) : (L.take (n + 1)).find? P = none := by
  rw [e, List.find?_append, h]
  simp [hx]
theorem redF_P {d : Int} (hd : -2000 ≤ d ∧ d ≤ -3) {x : F3} (hx : x ∈ redF d) : RedP x := .of hd ((mem_redF hd).1 hx).1
theorem uc_neg {a b c p : Int} (h : negB (ucD a b c p) = true) : -2000 ≤ ucD a b c p ∧ ucD a b c p ≤ -3 := by
  simp only [negB, Bool.and_eq_true, decide_eq_true_eq] at h
  omega
theorem idx_sq {p : Int} (h : idxB p = true) : wrap64 (p * p) = p * p ∧ p * p ≠ 0 := by
  have h1 := idx_in h
  have h2 : p * p ≤ 43 * p := Int.mul_le_mul_of_nonneg_right h1.2 (by omega)
  have h3 : 2 * p ≤ p * p := Int.mul_le_mul_of_nonneg_right h1.1 (by omega)
  exact ⟨wrap_id (by omega) (by omega), by omega⟩
theorem ucF_no {a b c p : Int} (h : ucB a b c p = false) : ucF a b c p = (0, 0, 0) ∧ ucS a b c p = false := by
  unfold ucF ucS; rw [h]; exact ⟨rfl, rfl⟩
theorem ucF_some {a b c p : Int} (h : ucB a b c p = true) {x : F3} (e : ucO a b c p = some x) : ucF a b c p = x ∧ ucS a b c p = true := by
  unfold ucF ucS; rw [h, e]; exact ⟨rfl, rfl⟩
theorem ucF_none {a b c p : Int} (h : ucB a b c p = true) (e : ucO a b c p = none) : ucF a b c p = (0, 0, 0) ∧ ucS a b c p = false := by
  unfold ucF ucS; rw [h, e]; exact ⟨rfl, rfl⟩
theorem def_content {a b c : Int} (h : defB a b c = true) : nuGcdI (nuGcdI a b) c = gcdI a (gcdI b c) := by
  simp only [defB, formB, Bool.and_eq_true, areB_iff] at h
  obtain ⟨⟨h1, h2, h3⟩, _⟩ := h
  exact content_eq (by omega) (by omega) (by omega)
abbrev fUpper : Nat := 39
def cUpper : Ctr
  | [.s [a, b, c], .i p] => some ⟨True, .tup [.s [(ucF a b c p).1, (ucF a b c p).2.1, (ucF a b c p).2.2], .b (ucS a b c p)], []⟩
  | _ => none
theorem okUpper : CtrOk Try.prog fUpper cUpper := by
  have hsp : SpecOk Try.prog (specOf [(fIsDef, cIsDef), (fContent, cContent), (fIsIndex, cIsIndex), (fDisc, cDisc), (fIsNeg, cIsNeg), (fReduced1, cReduced1), (fRedForms, cRedForms), (fSubCl, cSubCl), (fHasForm, cHasForm)]) := (SpecOk.cons okIsDef (SpecOk.cons okContent (SpecOk.cons okIsIndex (SpecOk.cons okDisc (SpecOk.cons okIsNeg (SpecOk.cons okReduced1 (SpecOk.cons okRedForms (SpecOk.cons okSubCl (SpecOk.cons okHasForm SpecOk.nil)))))))))
  refine ctr_of (fn := Try.f39) mixed tab_ok hsp Try.func39 (by kernel_rfl) (by kernel_rfl) fun args ce h => ?_
  clear hsp
  unfold cUpper at h
  split at h
  case h_2 => cases h
  rename_i a b c p
  simp only [Option.some.injEq] at h
  subst h
  refine ⟨by rfl, fun hp => ⟨1, 1000, ?_⟩⟩
  simp only [vc, out, step, stepE, stepPick, stepG, stepO, stepC, eff, look, rem, St.put, St.setMem, setMems, St.after, St.eval, cst, setAt, val1, okNew, newHs, allHs, rdOf, outHs, Reg.item, Reg.next, Reg.skip, slotOf, effBox, effAlloc, entryRow, fieldOff, effField, loadI, load1, loadR, effLoad, storeI, storeB, storeR, szOk, storeTo, effStore, buildOf, effBuild, binInt, eqI, boolOf, binBool, effBin, effUn, effPick, effExtract, ivs, svs, rowOf, allParts, effBuildSlice, zeroRow, effMakeSlice, elemSz, idxA, idxS, effIndex, lenOf, readOf, subPre, maxRow, plainTI, appTo, effAppend, slcOf, effSlice, argOf, resA, resL, resV, outWr, nodupB, restOk, argsPre, argOk, callWr, effCall, effMax, wrHs, disj, AV.hs, A0.hs, Entry.hs, RC.elem, RC.sz, RC.len, RC.slice, RC.app, hA, initFr, initMem, initSt, resOf, resAll, compEq, compsEq, rowHs, outHds, outsEq, shapeOk, finOk, comps, A0.norm, AV.norm, specOf, t_int, t_bool, t_implForm, t_lawsForm, t_implMatrix, t_implPoint, t_implTriple, t_implSpot, t_implunited, ts_int, ts_implForm, ts_implSpot, ts_implPoint, ts_implMatrix, Option.getD_some, Option.getD_none, cond_true, cond_false, Nat.reduceBEq, List.map_cons, List.map_nil, List.set_cons_zero, List.set_cons_succ, List.getElem?_cons_zero, List.getElem?_cons_succ, List.drop_zero, List.drop_succ_cons, List.take_succ_cons, List.take_zero, Option.map_some, Option.map_none, Option.bind_some, Nat.zero_add, Nat.add_zero, Nat.reduceAdd, Nat.reduceMul, true_and, and_true, List.replicate_succ, List.replicate_zero, List.length_cons, List.length_nil, List.all_cons, List.all_nil, List.any_cons, List.any_nil, Bool.and_true, Bool.true_and, Bool.and_false, Bool.false_and, Bool.or_true, Bool.true_or, Bool.or_false, Bool.false_or, Bool.not_true, Bool.not_false, List.append_nil, List.nil_append, List.cons_append, List.flatMap_cons, List.flatMap_nil, List.contains_cons, List.contains_nil, List.filter_cons, List.filter_nil, beq_self_eq_true, Bool.not_eq_true, A0.b.injEq, A0.i.injEq, A0.s.injEq, A0.rw.injEq, A0.fn.injEq, List.cons.injEq, RC.ints.injEq, RC.recs.injEq, RC.bools.injEq, AV.one.injEq, AV.tup.injEq, ble_dec, blt_dec, Nat.reduceLeDiff, Nat.reduceSub, decide_true, decide_false, and_self, List.toList_toArray, Option.isSome_some, Option.isSome_none, List.elem_nil, List.elem_cons, ite_true, ite_false, Bool.false_eq_true, if_true, if_false, reduceIte, flatB_2, flatB_3, flatB_4, List.headD_cons, List.tail_cons, cIsDef, fIsDef, cContent, fContent, cIsIndex, fIsIndex, cDisc, fDisc, cIsNeg, fIsNeg, cReduced1, fReduced1, cRedForms, fRedForms, cSubCl, fSubCl, cHasForm, fHasForm, Try.f39]
  have hno : ucB a b c p = false → (2 != 1) = true ∧ (0 = (ucF a b c p).1 ∧ 0 = (ucF a b c p).2.1 ∧ 0 = (ucF a b c p).2.2) ∧ false = ucS a b c p := fun h => by
    obtain ⟨e1, e2⟩ := ucF_no h
    rw [e1, e2]; exact ⟨rfl, ⟨rfl, rfl, rfl⟩, rfl⟩
  rw [bif_prop]
  refine ⟨fun h1 => hno (by unfold ucB; simp_all), fun h1 => ?_⟩
  rw [bif_prop]
  refine ⟨fun h2 => hno (by unfold ucB; simp_all), fun h2 => ?_⟩
  rw [bif_prop]
  refine ⟨fun h3 => hno (by unfold ucB; simp_all), fun h3 => ?_⟩
  have h1' : defB a b c = true := by simpa using h1
  have h2' : gcdI a (gcdI b c) = 1 := by simpa using h2
  have h3' : idxB p = true := by simpa using h3
  obtain ⟨q1, q2⟩ := idx_sq h3'
  have q3 : wrap64 (p * p) ≠ 0 := by rw [q1]; exact q2
  refine ⟨q3, ?_⟩
  rw [bif_prop]
  refine ⟨fun h4 => hno (by unfold ucB; simp_all), fun h4 => ⟨q3, ?_⟩⟩
  have h4' : (discI a b c).tmod (wrap64 (p * p)) = 0 := by simpa using h4
  have e5 : wrap64 ((discI a b c).tdiv (wrap64 (p * p))) = ucD a b c p := rfl
  rw [e5, bif_prop]
  refine ⟨fun h5 => hno (by unfold ucB; simp_all), fun h5 => ?_⟩
  have h5' : negB (ucD a b c p) = true := by simpa using h5
  have hB : ucB a b c p = true := by unfold ucB; rw [h1', h2', h3', h4', h5']; rfl
  have hd := uc_neg h5'
  have hp1 := idx_in h3'
  have hall : ∀ g ∈ redF (ucD a b c p), RedP g := fun g hg => redF_P hd hg
  have hlen := redF_len hd.1
  have hS : ∀ x, (redF (ucD a b c p)).find? (hasP (rdA a b c, rdB a b c, rdC a b c) p) = some x → ucF a b c p = x ∧ ucS a b c p = true := fun x e => ucF_some hB e
  have hN : (redF (ucD a b c p)).find? (hasP (rdA a b c, rdB a b c, rdC a b c) p) = none → ucF a b c p = (0, 0, 0) ∧ ucS a b c p = false := fun e => ucF_none hB e
  refine ⟨def_domB h1', q3, hd, ?_⟩
  generalize rdA a b c = A at *
  generalize rdB a b c = B at *
  generalize rdC a b c = C at *
  generalize redF (ucD a b c p) = L at *
  clear hno h1 h2 h3 h4 h5 h1' h2' h3' h4' h5' hB e5 q1 q2 q3 hd
  refine lp_intro (fun k : Nat => ⟨[(1, .one (.i p)), (4, .one (.ref 4 0)), (5, .one .ff), (7, .one (.ref 7 0)), (49, .one (.row 49)), (50, .one (.i L.length)), (51, .one (.i k))], [(4, .ibox 27 [0, 0, 0]), (7, .ibox 27 [A, B, C]), (49, .row (.recs 27 3 (fl L)))]⟩)
    (fun k => k ≤ L.length ∧ (L.take k).find? (hasP (A, B, C) p) = none) (fun k => L.length - k) 0 [] ⟨Nat.zero_le _, rfl⟩ (by simp only [Cov, covOk, covFr, covMem, entEq, rn, nodupB, A0.ren, AV.ren, Entry.ren, Entry.norm, vc, out, step, stepE, stepPick, stepG, stepO, stepC, eff, look, rem, St.put, St.setMem, setMems, St.after, St.eval, cst, setAt, val1, okNew, newHs, allHs, rdOf, outHs, Reg.item, Reg.next, Reg.skip, slotOf, effBox, effAlloc, entryRow, fieldOff, effField, loadI, load1, loadR, effLoad, storeI, storeB, storeR, szOk, storeTo, effStore, buildOf, effBuild, binInt, eqI, boolOf, binBool, effBin, effUn, effPick, effExtract, ivs, svs, rowOf, allParts, effBuildSlice, zeroRow, effMakeSlice, elemSz, idxA, idxS, effIndex, lenOf, readOf, subPre, maxRow, plainTI, appTo, effAppend, slcOf, effSlice, argOf, resA, resL, resV, outWr, nodupB, restOk, argsPre, argOk, callWr, effCall, effMax, wrHs, disj, AV.hs, A0.hs, Entry.hs, RC.elem, RC.sz, RC.len, RC.slice, RC.app, hA, initFr, initMem, initSt, resOf, resAll, compEq, compsEq, rowHs, outHds, outsEq, shapeOk, finOk, comps, A0.norm, AV.norm, specOf, t_int, t_bool, t_implForm, t_lawsForm, t_implMatrix, t_implPoint, t_implTriple, t_implSpot, t_implunited, ts_int, ts_implForm, ts_implSpot, ts_implPoint, ts_implMatrix, Option.getD_some, Option.getD_none, cond_true, cond_false, Nat.reduceBEq, List.map_cons, List.map_nil, List.set_cons_zero, List.set_cons_succ, List.getElem?_cons_zero, List.getElem?_cons_succ, List.drop_zero, List.drop_succ_cons, List.take_succ_cons, List.take_zero, Option.map_some, Option.map_none, Option.bind_some, Nat.zero_add, Nat.add_zero, Nat.reduceAdd, Nat.reduceMul, true_and, and_true, List.replicate_succ, List.replicate_zero, List.length_cons, List.length_nil, List.all_cons, List.all_nil, List.any_cons, List.any_nil, Bool.and_true, Bool.true_and, Bool.and_false, Bool.false_and, Bool.or_true, Bool.true_or, Bool.or_false, Bool.false_or, Bool.not_true, Bool.not_false, List.append_nil, List.nil_append, List.cons_append, List.flatMap_cons, List.flatMap_nil, List.contains_cons, List.contains_nil, List.filter_cons, List.filter_nil, beq_self_eq_true, Bool.not_eq_true, A0.b.injEq, A0.i.injEq, A0.s.injEq, A0.rw.injEq, A0.fn.injEq, List.cons.injEq, RC.ints.injEq, RC.recs.injEq, RC.bools.injEq, AV.one.injEq, AV.tup.injEq, ble_dec, blt_dec, Nat.reduceLeDiff, Nat.reduceSub, decide_true, decide_false, and_self, List.toList_toArray, Option.isSome_some, Option.isSome_none, List.elem_nil, List.elem_cons, ite_true, ite_false, Bool.false_eq_true, if_true, if_false, reduceIte, flatB_2, flatB_3, flatB_4, List.headD_cons, List.tail_cons, fl_length]; simp) fun k hk J hJ => ⟨1000, ?_⟩
  obtain ⟨hk, hnone⟩ := hk
  simp only [vc, out, step, stepE, stepPick, stepG, stepO, stepC, eff, look, rem, St.put, St.setMem, setMems, St.after, St.eval, cst, setAt, val1, okNew, newHs, allHs, rdOf, outHs, Reg.item, Reg.next, Reg.skip, slotOf, effBox, effAlloc, entryRow, fieldOff, effField, loadI, load1, loadR, effLoad, storeI, storeB, storeR, szOk, storeTo, effStore, buildOf, effBuild, binInt, eqI, boolOf, binBool, effBin, effUn, effPick, effExtract, ivs, svs, rowOf, allParts, effBuildSlice, zeroRow, effMakeSlice, elemSz, idxA, idxS, effIndex, lenOf, readOf, subPre, maxRow, plainTI, appTo, effAppend, slcOf, effSlice, argOf, resA, resL, resV, outWr, nodupB, restOk, argsPre, argOk, callWr, effCall, effMax, wrHs, disj, AV.hs, A0.hs, Entry.hs, RC.elem, RC.sz, RC.len, RC.slice, RC.app, hA, initFr, initMem, initSt, resOf, resAll, compEq, compsEq, rowHs, outHds, outsEq, shapeOk, finOk, comps, A0.norm, AV.norm, specOf, t_int, t_bool, t_implForm, t_lawsForm, t_implMatrix, t_implPoint, t_implTriple, t_implSpot, t_implunited, ts_int, ts_implForm, ts_implSpot, ts_implPoint, ts_implMatrix, Option.getD_some, Option.getD_none, cond_true, cond_false, Nat.reduceBEq, List.map_cons, List.map_nil, List.set_cons_zero, List.set_cons_succ, List.getElem?_cons_zero, List.getElem?_cons_succ, List.drop_zero, List.drop_succ_cons, List.take_succ_cons, List.take_zero, Option.map_some, Option.map_none, Option.bind_some, Nat.zero_add, Nat.add_zero, Nat.reduceAdd, Nat.reduceMul, true_and, and_true, List.replicate_succ, List.replicate_zero, List.length_cons, List.length_nil, List.all_cons, List.all_nil, List.any_cons, List.any_nil, Bool.and_true, Bool.true_and, Bool.and_false, Bool.false_and, Bool.or_true, Bool.true_or, Bool.or_false, Bool.false_or, Bool.not_true, Bool.not_false, List.append_nil, List.nil_append, List.cons_append, List.flatMap_cons, List.flatMap_nil, List.contains_cons, List.contains_nil, List.filter_cons, List.filter_nil, beq_self_eq_true, Bool.not_eq_true, A0.b.injEq, A0.i.injEq, A0.s.injEq, A0.rw.injEq, A0.fn.injEq, List.cons.injEq, RC.ints.injEq, RC.recs.injEq, RC.bools.injEq, AV.one.injEq, AV.tup.injEq, ble_dec, blt_dec, Nat.reduceLeDiff, Nat.reduceSub, decide_true, decide_false, and_self, List.toList_toArray, Option.isSome_some, Option.isSome_none, List.elem_nil, List.elem_cons, ite_true, ite_false, Bool.false_eq_true, if_true, if_false, reduceIte, flatB_2, flatB_3, flatB_4, List.headD_cons, List.tail_cons, cSubCl, fSubCl, cHasForm, fHasForm, rng3, Int.toNat_natCast, fl_length, unfl_fl]
  rw [bif_prop]
  refine ⟨fun hc => ?_, fun hc => ?_⟩
  · have hlt := ilt_iff.1 hc
    have hw := wsucc hlt (Nat.le_trans hlen (by omega))
    have hlt' : k < (fl L).length := by rw [fl_length]; exact hlt
    have ht := unfl_take (fl L) hlt'
    have hm := unfl_mem (fl L) hlt'
    rw [unfl_fl] at ht hm
    have hv : RedP (nth3 (fl L) k) := hall _ hm
    have hsl := scL_len (nth3 (fl L) k) hp1
    have hP : decide ((A, B, C) ∈ scL ((nth3 (fl L) k).1, (nth3 (fl L) k).2.1, (nth3 (fl L) k).2.2) p) = hasP (A, B, C) p (nth3 (fl L) k) := rfl
    rw [hP]
    have hsl' : (scL ((nth3 (fl L) k).1, (nth3 (fl L) k).2.1, (nth3 (fl L) k).2.2) p).length ≤ 1000000000 := Nat.le_trans hsl (by omega)
    refine ⟨⟨by omega, by omega⟩, hlt, ⟨hv, hp1⟩, hsl', by kernel_rfl, ?_⟩
    rw [bif_prop]
    refine ⟨fun g => ?_, fun g => hJ _ (k + 1) [] ⟨hlt, find_go hnone ht g⟩ (by omega) (by simp only [Cov, covOk, covFr, covMem, entEq, rn, nodupB, A0.ren, AV.ren, Entry.ren, Entry.norm, vc, out, step, stepE, stepPick, stepG, stepO, stepC, eff, look, rem, St.put, St.setMem, setMems, St.after, St.eval, cst, setAt, val1, okNew, newHs, allHs, rdOf, outHs, Reg.item, Reg.next, Reg.skip, slotOf, effBox, effAlloc, entryRow, fieldOff, effField, loadI, load1, loadR, effLoad, storeI, storeB, storeR, szOk, storeTo, effStore, buildOf, effBuild, binInt, eqI, boolOf, binBool, effBin, effUn, effPick, effExtract, ivs, svs, rowOf, allParts, effBuildSlice, zeroRow, effMakeSlice, elemSz, idxA, idxS, effIndex, lenOf, readOf, subPre, maxRow, plainTI, appTo, effAppend, slcOf, effSlice, argOf, resA, resL, resV, outWr, nodupB, restOk, argsPre, argOk, callWr, effCall, effMax, wrHs, disj, AV.hs, A0.hs, Entry.hs, RC.elem, RC.sz, RC.len, RC.slice, RC.app, hA, initFr, initMem, initSt, resOf, resAll, compEq, compsEq, rowHs, outHds, outsEq, shapeOk, finOk, comps, A0.norm, AV.norm, specOf, t_int, t_bool, t_implForm, t_lawsForm, t_implMatrix, t_implPoint, t_implTriple, t_implSpot, t_implunited, ts_int, ts_implForm, ts_implSpot, ts_implPoint, ts_implMatrix, Option.getD_some, Option.getD_none, cond_true, cond_false, Nat.reduceBEq, List.map_cons, List.map_nil, List.set_cons_zero, List.set_cons_succ, List.getElem?_cons_zero, List.getElem?_cons_succ, List.drop_zero, List.drop_succ_cons, List.take_succ_cons, List.take_zero, Option.map_some, Option.map_none, Option.bind_some, Nat.zero_add, Nat.add_zero, Nat.reduceAdd, Nat.reduceMul, true_and, and_true, List.replicate_succ, List.replicate_zero, List.length_cons, List.length_nil, List.all_cons, List.all_nil, List.any_cons, List.any_nil, Bool.and_true, Bool.true_and, Bool.and_false, Bool.false_and, Bool.or_true, Bool.true_or, Bool.or_false, Bool.false_or, Bool.not_true, Bool.not_false, List.append_nil, List.nil_append, List.cons_append, List.flatMap_cons, List.flatMap_nil, List.contains_cons, List.contains_nil, List.filter_cons, List.filter_nil, beq_self_eq_true, Bool.not_eq_true, A0.b.injEq, A0.i.injEq, A0.s.injEq, A0.rw.injEq, A0.fn.injEq, List.cons.injEq, RC.ints.injEq, RC.recs.injEq, RC.bools.injEq, AV.one.injEq, AV.tup.injEq, ble_dec, blt_dec, Nat.reduceLeDiff, Nat.reduceSub, decide_true, decide_false, and_self, List.toList_toArray, Option.isSome_some, Option.isSome_none, List.elem_nil, List.elem_cons, ite_true, ite_false, Bool.false_eq_true, if_true, if_false, reduceIte, flatB_2, flatB_3, flatB_4, List.headD_cons, List.tail_cons, hw])⟩
    obtain ⟨e1, e2⟩ := hS _ (find_hit hnone ht g)
    rw [e1, e2]
    exact ⟨by kernel_rfl, ⟨rfl, rfl, rfl⟩, rfl⟩
  · have := inlt_iff.1 hc
    rw [List.take_of_length_le this] at hnone
    obtain ⟨e1, e2⟩ := hN hnone
    rw [e1, e2]
    exact ⟨by kernel_rfl, ⟨rfl, rfl, rfl⟩, rfl⟩
abbrev fSUpper : Nat := 38
def cSUpper : Ctr
  | [.s [a, b, c], .i p] => some ⟨True, .tup [.s [(ucF a b c p).1, (ucF a b c p).2.1, (ucF a b c p).2.2], .b (ucS a b c p)], []⟩
  | _ => none
theorem okSUpper : CtrOk Try.prog fSUpper cSUpper := by
  have hsp : SpecOk Try.prog (specOf [(fFoDef, cFoDef), (fFoContent, cFoContent), (fHkPrime, cHkPrime), (fFoDisc, cFoDisc), (fReDisc, cReDisc), (fReClass, cReClass), (fReList, cReList), (fHkCl, cHkCl), (fCyHas, cCyHas)]) := (SpecOk.cons okFoDef (SpecOk.cons okFoContent (SpecOk.cons okHkPrime (SpecOk.cons okFoDisc (SpecOk.cons okReDisc (SpecOk.cons okReClass (SpecOk.cons okReList (SpecOk.cons okHkCl (SpecOk.cons okCyHas SpecOk.nil)))))))))
  refine ctr_of (fn := Try.f38) mixed tab_ok hsp Try.func38 (by kernel_rfl) (by kernel_rfl) fun args ce h => ?_
  clear hsp
  unfold cSUpper at h
  split at h
  case h_2 => cases h
  rename_i a b c p
  simp only [Option.some.injEq] at h
  subst h
  refine ⟨by rfl, fun hp => ⟨1, 1000, ?_⟩⟩
  simp only [vc, out, step, stepE, stepPick, stepG, stepO, stepC, eff, look, rem, St.put, St.setMem, setMems, St.after, St.eval, cst, setAt, val1, okNew, newHs, allHs, rdOf, outHs, Reg.item, Reg.next, Reg.skip, slotOf, effBox, effAlloc, entryRow, fieldOff, effField, loadI, load1, loadR, effLoad, storeI, storeB, storeR, szOk, storeTo, effStore, buildOf, effBuild, binInt, eqI, boolOf, binBool, effBin, effUn, effPick, effExtract, ivs, svs, rowOf, allParts, effBuildSlice, zeroRow, effMakeSlice, elemSz, idxA, idxS, effIndex, lenOf, readOf, subPre, maxRow, plainTI, appTo, effAppend, slcOf, effSlice, argOf, resA, resL, resV, outWr, nodupB, restOk, argsPre, argOk, callWr, effCall, effMax, wrHs, disj, AV.hs, A0.hs, Entry.hs, RC.elem, RC.sz, RC.len, RC.slice, RC.app, hA, initFr, initMem, initSt, resOf, resAll, compEq, compsEq, rowHs, outHds, outsEq, shapeOk, finOk, comps, A0.norm, AV.norm, specOf, t_int, t_bool, t_implForm, t_lawsForm, t_implMatrix, t_implPoint, t_implTriple, t_implSpot, t_implunited, ts_int, ts_implForm, ts_implSpot, ts_implPoint, ts_implMatrix, Option.getD_some, Option.getD_none, cond_true, cond_false, Nat.reduceBEq, List.map_cons, List.map_nil, List.set_cons_zero, List.set_cons_succ, List.getElem?_cons_zero, List.getElem?_cons_succ, List.drop_zero, List.drop_succ_cons, List.take_succ_cons, List.take_zero, Option.map_some, Option.map_none, Option.bind_some, Nat.zero_add, Nat.add_zero, Nat.reduceAdd, Nat.reduceMul, true_and, and_true, List.replicate_succ, List.replicate_zero, List.length_cons, List.length_nil, List.all_cons, List.all_nil, List.any_cons, List.any_nil, Bool.and_true, Bool.true_and, Bool.and_false, Bool.false_and, Bool.or_true, Bool.true_or, Bool.or_false, Bool.false_or, Bool.not_true, Bool.not_false, List.append_nil, List.nil_append, List.cons_append, List.flatMap_cons, List.flatMap_nil, List.contains_cons, List.contains_nil, List.filter_cons, List.filter_nil, beq_self_eq_true, Bool.not_eq_true, A0.b.injEq, A0.i.injEq, A0.s.injEq, A0.rw.injEq, A0.fn.injEq, List.cons.injEq, RC.ints.injEq, RC.recs.injEq, RC.bools.injEq, AV.one.injEq, AV.tup.injEq, ble_dec, blt_dec, Nat.reduceLeDiff, Nat.reduceSub, decide_true, decide_false, and_self, List.toList_toArray, Option.isSome_some, Option.isSome_none, List.elem_nil, List.elem_cons, ite_true, ite_false, Bool.false_eq_true, if_true, if_false, reduceIte, flatB_2, flatB_3, flatB_4, List.headD_cons, List.tail_cons, cFoDef, fFoDef, cFoContent, fFoContent, cHkPrime, fHkPrime, cFoDisc, fFoDisc, cReDisc, fReDisc, cReClass, fReClass, cReList, fReList, cHkCl, fHkCl, cCyHas, fCyHas, Try.f38]
  have hno : ucB a b c p = false → (2 != 1) = true ∧ (0 = (ucF a b c p).1 ∧ 0 = (ucF a b c p).2.1 ∧ 0 = (ucF a b c p).2.2) ∧ false = ucS a b c p := fun h => by
    obtain ⟨e1, e2⟩ := ucF_no h
    rw [e1, e2]; exact ⟨rfl, ⟨rfl, rfl, rfl⟩, rfl⟩
  rw [sdef_eq, bif_prop]
  refine ⟨fun h1 => hno (by unfold ucB; simp_all), fun h1 => ?_⟩
  have h1' : defB a b c = true := by simpa using h1
  rw [def_content h1', bif_prop]
  refine ⟨fun h2 => hno (by unfold ucB; simp_all), fun h2 => ?_⟩
  rw [bif_prop]
  refine ⟨fun h3 => hno (by unfold ucB; simp_all), fun h3 => ?_⟩
  have h2' : gcdI a (gcdI b c) = 1 := by simpa using h2
  have h3' : idxB p = true := by simpa using h3
  obtain ⟨q1, q2⟩ := idx_sq h3'
  have q3 : wrap64 (p * p) ≠ 0 := by rw [q1]; exact q2
  refine ⟨q3, ?_⟩
  rw [bif_prop]
  refine ⟨fun h4 => hno (by unfold ucB; simp_all), fun h4 => ⟨q3, ?_⟩⟩
  have h4' : (discI a b c).tmod (wrap64 (p * p)) = 0 := by simpa using h4
  have e5 : wrap64 ((discI a b c).tdiv (wrap64 (p * p))) = ucD a b c p := rfl
  rw [e5, bif_prop]
  refine ⟨fun h5 => hno (by unfold ucB; simp_all), fun h5 => ?_⟩
  have h5' : negB (ucD a b c p) = true := by simpa using h5
  have hB : ucB a b c p = true := by unfold ucB; rw [h1', h2', h3', h4', h5']; rfl
  have hd := uc_neg h5'
  have hp1 := idx_in h3'
  have hall : ∀ g ∈ redF (ucD a b c p), RedP g := fun g hg => redF_P hd hg
  have hlen := redF_len hd.1
  have hS : ∀ x, (redF (ucD a b c p)).find? (hasP (rdA a b c, rdB a b c, rdC a b c) p) = some x → ucF a b c p = x ∧ ucS a b c p = true := fun x e => ucF_some hB e
  have hN : (redF (ucD a b c p)).find? (hasP (rdA a b c, rdB a b c, rdC a b c) p) = none → ucF a b c p = (0, 0, 0) ∧ ucS a b c p = false := fun e => ucF_none hB e
  refine ⟨def_domB h1', q3, hd, ?_⟩
  generalize rdA a b c = A at *
  generalize rdB a b c = B at *
  generalize rdC a b c = C at *
  generalize redF (ucD a b c p) = L at *
  clear hno h1 h2 h3 h4 h5 h1' h2' h3' h4' h5' hB e5 q1 q2 q3 hd
  refine lp_intro (fun k : Nat => ⟨[(1, .one (.i p)), (4, .one (.ref 4 0)), (5, .one .ff), (6, .one (.ref 6 0)), (50, .one (.row 50)), (51, .one (.i L.length)), (52, .one (.i k))], [(4, .ibox 27 [0, 0, 0]), (6, .ibox 27 [A, B, C]), (50, .row (.recs 27 3 (fl L)))]⟩)
    (fun k => k ≤ L.length ∧ (L.take k).find? (hasP (A, B, C) p) = none) (fun k => L.length - k) 0 [] ⟨Nat.zero_le _, rfl⟩ (by simp only [Cov, covOk, covFr, covMem, entEq, rn, nodupB, A0.ren, AV.ren, Entry.ren, Entry.norm, vc, out, step, stepE, stepPick, stepG, stepO, stepC, eff, look, rem, St.put, St.setMem, setMems, St.after, St.eval, cst, setAt, val1, okNew, newHs, allHs, rdOf, outHs, Reg.item, Reg.next, Reg.skip, slotOf, effBox, effAlloc, entryRow, fieldOff, effField, loadI, load1, loadR, effLoad, storeI, storeB, storeR, szOk, storeTo, effStore, buildOf, effBuild, binInt, eqI, boolOf, binBool, effBin, effUn, effPick, effExtract, ivs, svs, rowOf, allParts, effBuildSlice, zeroRow, effMakeSlice, elemSz, idxA, idxS, effIndex, lenOf, readOf, subPre, maxRow, plainTI, appTo, effAppend, slcOf, effSlice, argOf, resA, resL, resV, outWr, nodupB, restOk, argsPre, argOk, callWr, effCall, effMax, wrHs, disj, AV.hs, A0.hs, Entry.hs, RC.elem, RC.sz, RC.len, RC.slice, RC.app, hA, initFr, initMem, initSt, resOf, resAll, compEq, compsEq, rowHs, outHds, outsEq, shapeOk, finOk, comps, A0.norm, AV.norm, specOf, t_int, t_bool, t_implForm, t_lawsForm, t_implMatrix, t_implPoint, t_implTriple, t_implSpot, t_implunited, ts_int, ts_implForm, ts_implSpot, ts_implPoint, ts_implMatrix, Option.getD_some, Option.getD_none, cond_true, cond_false, Nat.reduceBEq, List.map_cons, List.map_nil, List.set_cons_zero, List.set_cons_succ, List.getElem?_cons_zero, List.getElem?_cons_succ, List.drop_zero, List.drop_succ_cons, List.take_succ_cons, List.take_zero, Option.map_some, Option.map_none, Option.bind_some, Nat.zero_add, Nat.add_zero, Nat.reduceAdd, Nat.reduceMul, true_and, and_true, List.replicate_succ, List.replicate_zero, List.length_cons, List.length_nil, List.all_cons, List.all_nil, List.any_cons, List.any_nil, Bool.and_true, Bool.true_and, Bool.and_false, Bool.false_and, Bool.or_true, Bool.true_or, Bool.or_false, Bool.false_or, Bool.not_true, Bool.not_false, List.append_nil, List.nil_append, List.cons_append, List.flatMap_cons, List.flatMap_nil, List.contains_cons, List.contains_nil, List.filter_cons, List.filter_nil, beq_self_eq_true, Bool.not_eq_true, A0.b.injEq, A0.i.injEq, A0.s.injEq, A0.rw.injEq, A0.fn.injEq, List.cons.injEq, RC.ints.injEq, RC.recs.injEq, RC.bools.injEq, AV.one.injEq, AV.tup.injEq, ble_dec, blt_dec, Nat.reduceLeDiff, Nat.reduceSub, decide_true, decide_false, and_self, List.toList_toArray, Option.isSome_some, Option.isSome_none, List.elem_nil, List.elem_cons, ite_true, ite_false, Bool.false_eq_true, if_true, if_false, reduceIte, flatB_2, flatB_3, flatB_4, List.headD_cons, List.tail_cons, fl_length]; simp) fun k hk J hJ => ⟨1000, ?_⟩
  obtain ⟨hk, hnone⟩ := hk
  simp only [vc, out, step, stepE, stepPick, stepG, stepO, stepC, eff, look, rem, St.put, St.setMem, setMems, St.after, St.eval, cst, setAt, val1, okNew, newHs, allHs, rdOf, outHs, Reg.item, Reg.next, Reg.skip, slotOf, effBox, effAlloc, entryRow, fieldOff, effField, loadI, load1, loadR, effLoad, storeI, storeB, storeR, szOk, storeTo, effStore, buildOf, effBuild, binInt, eqI, boolOf, binBool, effBin, effUn, effPick, effExtract, ivs, svs, rowOf, allParts, effBuildSlice, zeroRow, effMakeSlice, elemSz, idxA, idxS, effIndex, lenOf, readOf, subPre, maxRow, plainTI, appTo, effAppend, slcOf, effSlice, argOf, resA, resL, resV, outWr, nodupB, restOk, argsPre, argOk, callWr, effCall, effMax, wrHs, disj, AV.hs, A0.hs, Entry.hs, RC.elem, RC.sz, RC.len, RC.slice, RC.app, hA, initFr, initMem, initSt, resOf, resAll, compEq, compsEq, rowHs, outHds, outsEq, shapeOk, finOk, comps, A0.norm, AV.norm, specOf, t_int, t_bool, t_implForm, t_lawsForm, t_implMatrix, t_implPoint, t_implTriple, t_implSpot, t_implunited, ts_int, ts_implForm, ts_implSpot, ts_implPoint, ts_implMatrix, Option.getD_some, Option.getD_none, cond_true, cond_false, Nat.reduceBEq, List.map_cons, List.map_nil, List.set_cons_zero, List.set_cons_succ, List.getElem?_cons_zero, List.getElem?_cons_succ, List.drop_zero, List.drop_succ_cons, List.take_succ_cons, List.take_zero, Option.map_some, Option.map_none, Option.bind_some, Nat.zero_add, Nat.add_zero, Nat.reduceAdd, Nat.reduceMul, true_and, and_true, List.replicate_succ, List.replicate_zero, List.length_cons, List.length_nil, List.all_cons, List.all_nil, List.any_cons, List.any_nil, Bool.and_true, Bool.true_and, Bool.and_false, Bool.false_and, Bool.or_true, Bool.true_or, Bool.or_false, Bool.false_or, Bool.not_true, Bool.not_false, List.append_nil, List.nil_append, List.cons_append, List.flatMap_cons, List.flatMap_nil, List.contains_cons, List.contains_nil, List.filter_cons, List.filter_nil, beq_self_eq_true, Bool.not_eq_true, A0.b.injEq, A0.i.injEq, A0.s.injEq, A0.rw.injEq, A0.fn.injEq, List.cons.injEq, RC.ints.injEq, RC.recs.injEq, RC.bools.injEq, AV.one.injEq, AV.tup.injEq, ble_dec, blt_dec, Nat.reduceLeDiff, Nat.reduceSub, decide_true, decide_false, and_self, List.toList_toArray, Option.isSome_some, Option.isSome_none, List.elem_nil, List.elem_cons, ite_true, ite_false, Bool.false_eq_true, if_true, if_false, reduceIte, flatB_2, flatB_3, flatB_4, List.headD_cons, List.tail_cons, cHkCl, fHkCl, cCyHas, fCyHas, rng3, Int.toNat_natCast, fl_length, unfl_fl]
  rw [bif_prop]
  refine ⟨fun hc => ?_, fun hc => ?_⟩
  · have hlt := ilt_iff.1 hc
    have hw := wsucc hlt (Nat.le_trans hlen (by omega))
    have hlt' : k < (fl L).length := by rw [fl_length]; exact hlt
    have ht := unfl_take (fl L) hlt'
    have hm := unfl_mem (fl L) hlt'
    rw [unfl_fl] at ht hm
    have hv : RedP (nth3 (fl L) k) := hall _ hm
    have hsl := scL_len (nth3 (fl L) k) hp1
    obtain ⟨g1, g2⟩ : domB (nth3 (fl L) k).1 (nth3 (fl L) k).2.1 (nth3 (fl L) k).2.2 = true ∧ (rdA (nth3 (fl L) k).1 (nth3 (fl L) k).2.1 (nth3 (fl L) k).2.2, rdB (nth3 (fl L) k).1 (nth3 (fl L) k).2.1 (nth3 (fl L) k).2.2, rdC (nth3 (fl L) k).1 (nth3 (fl L) k).2.1 (nth3 (fl L) k).2.2) = nth3 (fl L) k := red_rd3 hv.1.1 hv.2
    rw [g2]
    have hP : decide ((A, B, C) ∈ scL (nth3 (fl L) k) p) = hasP (A, B, C) p (nth3 (fl L) k) := rfl
    rw [hP]
    have hsl' : (scL (nth3 (fl L) k) p).length ≤ 1000000000 := Nat.le_trans hsl (by omega)
    refine ⟨⟨by omega, by omega⟩, hlt, ⟨⟨g1, hv⟩, hp1⟩, hsl', by kernel_rfl, ?_⟩
    rw [bif_prop]
    refine ⟨fun g => ?_, fun g => hJ _ (k + 1) [] ⟨hlt, find_go hnone ht g⟩ (by omega) (by simp only [Cov, covOk, covFr, covMem, entEq, rn, nodupB, A0.ren, AV.ren, Entry.ren, Entry.norm, vc, out, step, stepE, stepPick, stepG, stepO, stepC, eff, look, rem, St.put, St.setMem, setMems, St.after, St.eval, cst, setAt, val1, okNew, newHs, allHs, rdOf, outHs, Reg.item, Reg.next, Reg.skip, slotOf, effBox, effAlloc, entryRow, fieldOff, effField, loadI, load1, loadR, effLoad, storeI, storeB, storeR, szOk, storeTo, effStore, buildOf, effBuild, binInt, eqI, boolOf, binBool, effBin, effUn, effPick, effExtract, ivs, svs, rowOf, allParts, effBuildSlice, zeroRow, effMakeSlice, elemSz, idxA, idxS, effIndex, lenOf, readOf, subPre, maxRow, plainTI, appTo, effAppend, slcOf, effSlice, argOf, resA, resL, resV, outWr, nodupB, restOk, argsPre, argOk, callWr, effCall, effMax, wrHs, disj, AV.hs, A0.hs, Entry.hs, RC.elem, RC.sz, RC.len, RC.slice, RC.app, hA, initFr, initMem, initSt, resOf, resAll, compEq, compsEq, rowHs, outHds, outsEq, shapeOk, finOk, comps, A0.norm, AV.norm, specOf, t_int, t_bool, t_implForm, t_lawsForm, t_implMatrix, t_implPoint, t_implTriple, t_implSpot, t_implunited, ts_int, ts_implForm, ts_implSpot, ts_implPoint, ts_implMatrix, Option.getD_some, Option.getD_none, cond_true, cond_false, Nat.reduceBEq, List.map_cons, List.map_nil, List.set_cons_zero, List.set_cons_succ, List.getElem?_cons_zero, List.getElem?_cons_succ, List.drop_zero, List.drop_succ_cons, List.take_succ_cons, List.take_zero, Option.map_some, Option.map_none, Option.bind_some, Nat.zero_add, Nat.add_zero, Nat.reduceAdd, Nat.reduceMul, true_and, and_true, List.replicate_succ, List.replicate_zero, List.length_cons, List.length_nil, List.all_cons, List.all_nil, List.any_cons, List.any_nil, Bool.and_true, Bool.true_and, Bool.and_false, Bool.false_and, Bool.or_true, Bool.true_or, Bool.or_false, Bool.false_or, Bool.not_true, Bool.not_false, List.append_nil, List.nil_append, List.cons_append, List.flatMap_cons, List.flatMap_nil, List.contains_cons, List.contains_nil, List.filter_cons, List.filter_nil, beq_self_eq_true, Bool.not_eq_true, A0.b.injEq, A0.i.injEq, A0.s.injEq, A0.rw.injEq, A0.fn.injEq, List.cons.injEq, RC.ints.injEq, RC.recs.injEq, RC.bools.injEq, AV.one.injEq, AV.tup.injEq, ble_dec, blt_dec, Nat.reduceLeDiff, Nat.reduceSub, decide_true, decide_false, and_self, List.toList_toArray, Option.isSome_some, Option.isSome_none, List.elem_nil, List.elem_cons, ite_true, ite_false, Bool.false_eq_true, if_true, if_false, reduceIte, flatB_2, flatB_3, flatB_4, List.headD_cons, List.tail_cons, hw])⟩
    obtain ⟨e1, e2⟩ := hS _ (find_hit hnone ht g)
    rw [e1, e2]
    exact ⟨by kernel_rfl, ⟨rfl, rfl, rfl⟩, rfl⟩
  · have := inlt_iff.1 hc
    rw [List.take_of_length_le this] at hnone
    obtain ⟨e1, e2⟩ := hN hnone
    rw [e1, e2]
    exact ⟨by kernel_rfl, ⟨rfl, rfl, rfl⟩, rfl⟩
abbrev fLawUpper : Nat := 10
def cLawUpper : Ctr
  | [.s [a, b, c], .i p] => some ⟨True, .one (.b true), []⟩
  | _ => none
theorem okLawUpper : CtrOk Try.prog fLawUpper cLawUpper := by
  have hsp : SpecOk Try.prog (specOf [(fToForm, cToForm), (fSUpper, cSUpper), (fUpper, cUpper), (fEqForm, cEqForm)]) := (SpecOk.cons okToForm (SpecOk.cons okSUpper (SpecOk.cons okUpper (SpecOk.cons okEqForm SpecOk.nil))))
  refine ctr_of (fn := Try.f10) mixed tab_ok hsp Try.func10 (by kernel_rfl) (by kernel_rfl) fun args ce h => ?_
  clear hsp
  unfold cLawUpper at h
  split at h
  case h_2 => cases h
  rename_i a b c p
  simp only [Option.some.injEq] at h
  subst h
  refine ⟨by rfl, fun hp => ⟨0, 1000, ?_⟩⟩
  simp only [vc, out, step, stepE, stepPick, stepG, stepO, stepC, eff, look, rem, St.put, St.setMem, setMems, St.after, St.eval, cst, setAt, val1, okNew, newHs, allHs, rdOf, outHs, Reg.item, Reg.next, Reg.skip, slotOf, effBox, effAlloc, entryRow, fieldOff, effField, loadI, load1, loadR, effLoad, storeI, storeB, storeR, szOk, storeTo, effStore, buildOf, effBuild, binInt, eqI, boolOf, binBool, effBin, effUn, effPick, effExtract, ivs, svs, rowOf, allParts, effBuildSlice, zeroRow, effMakeSlice, elemSz, idxA, idxS, effIndex, lenOf, readOf, subPre, maxRow, plainTI, appTo, effAppend, slcOf, effSlice, argOf, resA, resL, resV, outWr, nodupB, restOk, argsPre, argOk, callWr, effCall, effMax, wrHs, disj, AV.hs, A0.hs, Entry.hs, RC.elem, RC.sz, RC.len, RC.slice, RC.app, hA, initFr, initMem, initSt, resOf, resAll, compEq, compsEq, rowHs, outHds, outsEq, shapeOk, finOk, comps, A0.norm, AV.norm, specOf, t_int, t_bool, t_implForm, t_lawsForm, t_implMatrix, t_implPoint, t_implTriple, t_implSpot, t_implunited, ts_int, ts_implForm, ts_implSpot, ts_implPoint, ts_implMatrix, Option.getD_some, Option.getD_none, cond_true, cond_false, Nat.reduceBEq, List.map_cons, List.map_nil, List.set_cons_zero, List.set_cons_succ, List.getElem?_cons_zero, List.getElem?_cons_succ, List.drop_zero, List.drop_succ_cons, List.take_succ_cons, List.take_zero, Option.map_some, Option.map_none, Option.bind_some, Nat.zero_add, Nat.add_zero, Nat.reduceAdd, Nat.reduceMul, true_and, and_true, List.replicate_succ, List.replicate_zero, List.length_cons, List.length_nil, List.all_cons, List.all_nil, List.any_cons, List.any_nil, Bool.and_true, Bool.true_and, Bool.and_false, Bool.false_and, Bool.or_true, Bool.true_or, Bool.or_false, Bool.false_or, Bool.not_true, Bool.not_false, List.append_nil, List.nil_append, List.cons_append, List.flatMap_cons, List.flatMap_nil, List.contains_cons, List.contains_nil, List.filter_cons, List.filter_nil, beq_self_eq_true, Bool.not_eq_true, A0.b.injEq, A0.i.injEq, A0.s.injEq, A0.rw.injEq, A0.fn.injEq, List.cons.injEq, RC.ints.injEq, RC.recs.injEq, RC.bools.injEq, AV.one.injEq, AV.tup.injEq, ble_dec, blt_dec, Nat.reduceLeDiff, Nat.reduceSub, decide_true, decide_false, and_self, List.toList_toArray, Option.isSome_some, Option.isSome_none, List.elem_nil, List.elem_cons, ite_true, ite_false, Bool.false_eq_true, if_true, if_false, reduceIte, flatB_2, flatB_3, flatB_4, List.headD_cons, List.tail_cons, cToForm, fToForm, cSUpper, fSUpper, cUpper, fUpper, cEqForm, fEqForm, Try.f10]
  simp
end Go.Proofs.Ytbhkndaejmnmkaa
