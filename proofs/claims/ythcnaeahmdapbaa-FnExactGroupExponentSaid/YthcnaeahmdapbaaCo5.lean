/-
  Contracts of composites on both sides, and of the laws UnitedForms, ComposeForms and DivideForms. Conditions: none.
-/
import Derived.Test.YthcnaeahmdapbaaCo4
namespace Go.Proofs.Ythcnaeahmdapbaa
open Go Go.RowKit
set_option maxRecDepth 100000
set_option linter.unusedSimpArgs false
set_option linter.unusedVariables false
set_option maxHeartbeats 4000000

abbrev fComposite : Nat := 55
def cComposite : Ctr
  | [.s [a, e, b, c, p, q, r, s, t, u, v, w]] => some ⟨True, .one (.s [wrap64 (a * e), b, c]), []⟩
  | _ => none
theorem okComposite : CtrOk Try.prog fComposite cComposite := by
  have hsp : SpecOk Try.prog (specOf []) := SpecOk.nil
  refine ctr_of (fn := Try.f55) mixed tab_ok hsp Try.func55 (by kernel_rfl) (by kernel_rfl) fun args ce h => ?_
  clear hsp
  unfold cComposite at h
  split at h
  case h_2 => cases h
  rename_i a e b c p q r s t u v w
  simp only [Option.some.injEq] at h
  subst h
  refine ⟨by rfl, fun hp => ⟨0, 1000, ?_⟩⟩
  simp only [vc, out, effCopy, finD, St.drop, vwAt, Entry.vwO, RC.vwO, dropAt, A0.dr, AV.dr, noneNames, viewS, viewV, viewTo, A0.vwT, AV.vwT, viewOk, viewEn, appView, hdSlc, A0.mv1, AV.mv1, Entry.toO, toOf, A0.mv, AV.mv, mvTo, St.res, nxtH, makeRows, effMakeSl, storeRow, step, stepE, stepPick, stepG, stepO, stepC, eff, look, rem, St.put, St.setMem, setMems, St.after, St.eval, cst, setAt, val1, okNew, newHs, allHs, rdOf, outHs, Reg.item, Reg.next, Reg.skip, slotOf, effBox, effAlloc, entryRow, fieldOff, effField, loadI, load1, loadR, effLoad, storeI, storeB, storeR, szOk, storeTo, effStore, buildOf, effBuild, binInt, eqI, boolOf, binBool, effBin, effUn, effPick, effExtract, ivs, svs, rowOf, allParts, effBuildSlice, zeroRow, effMakeSlice, elemSz, idxA, idxS, effIndex, lenOf, readOf, subPre, maxRow, plainTI, appTo, effAppend, slcOf, effSlice, argOf, resA, resL, resV, outWr, nodupB, restOk, argsPre, argOk, callWr, effCall, effMax, RC.flat, effBox2, boxPair, compOf, innerOf, innerPre, fieldTwo, loadO, loadN, storeN, buildTwo, effBuild2, buildRows, effBuildSl, appRows, effApp2, plainA, callIn, outsEmpty, callGo, MC.get, MC.has, MC.put, mcTI, keyTI, emptyMC, effMakeMap, mapIn, hOf1, lookV, effLookup, mapBack, effUpdate, effNil, effMin, effIndexV, cutSlc, arrElem, cutOf, wrHs, disj, AV.hs, A0.hs, Entry.hs, RC.elem, RC.sz, RC.len, RC.slice, RC.app, hA, initFr, initMem, initSt, resOf, resAll, compEq, compsEq, rowHs, outHds, outsEq, shapeOk, finOk, comps, A0.norm, AV.norm, specOf, t_int, t_bool, t_implForm, t_implMatrix, t_implunited, ts_int, ts_implForm, tss_int, tm_implForm, t_implclassGroup, Option.getD_some, Option.getD_none, cond_true, cond_false, Nat.reduceBEq, List.map_cons, List.map_nil, List.set_cons_zero, List.set_cons_succ, List.getElem?_cons_zero, List.getElem?_cons_succ, List.drop_zero, List.drop_succ_cons, List.take_succ_cons, List.take_zero, Option.map_some, Option.map_none, Option.bind_some, Nat.zero_add, Nat.add_zero, Nat.reduceAdd, Nat.reduceMul, true_and, and_true, List.replicate_succ, List.replicate_zero, List.length_cons, List.length_nil, List.all_cons, List.all_nil, List.any_cons, List.any_nil, Bool.and_true, Bool.true_and, Bool.and_false, Bool.false_and, Bool.or_true, Bool.true_or, Bool.or_false, Bool.false_or, Bool.not_true, Bool.not_false, List.append_nil, List.nil_append, List.cons_append, List.flatMap_cons, List.flatMap_nil, List.contains_cons, List.contains_nil, List.filter_cons, List.filter_nil, beq_self_eq_true, Bool.not_eq_true, A0.b.injEq, A0.i.injEq, A0.s.injEq, A0.rw.injEq, A0.fn.injEq, List.cons.injEq, RC.ints.injEq, RC.recs.injEq, RC.bools.injEq, RC.mp.injEq, RC.grp.injEq, RC.rows.injEq, MC.ints.injEq, MC.bools.injEq, AV.one.injEq, AV.tup.injEq, ble_dec, blt_dec, Nat.reduceLeDiff, Nat.reduceSub, decide_true, decide_false, and_self, List.toList_toArray, Option.isSome_some, Option.isSome_none, List.elem_nil, List.elem_cons, ite_true, ite_false, Bool.false_eq_true, if_true, if_false, reduceIte, flatB_2, flatB_3, flatB_4, List.headD_cons, List.tail_cons, Try.f55]

abbrev fCoJoined : Nat := 30
def cCoJoined : Ctr
  | [.s [a, b, c], .s [x, y, z]] => some ⟨x ≠ 0, .one (.s [wrap64 (a * x), b, wrap64 (c.tdiv x)]), []⟩
  | _ => none
theorem okCoJoined : CtrOk Try.prog fCoJoined cCoJoined := by
  have hsp : SpecOk Try.prog (specOf []) := SpecOk.nil
  refine ctr_of (fn := Try.f30) mixed tab_ok hsp Try.func30 (by kernel_rfl) (by kernel_rfl) fun args ce h => ?_
  clear hsp
  unfold cCoJoined at h
  split at h
  case h_2 => cases h
  rename_i a b c x y z
  simp only [Option.some.injEq] at h
  subst h
  refine ⟨by rfl, fun hp => ⟨0, 1000, ?_⟩⟩
  simp only [↓cond_to_ite, ↓reduceIte, vc, out, effCopy, finD, St.drop, vwAt, Entry.vwO, RC.vwO, dropAt, A0.dr, AV.dr, noneNames, viewS, viewV, viewTo, A0.vwT, AV.vwT, viewOk, viewEn, appView, hdSlc, A0.mv1, AV.mv1, Entry.toO, toOf, A0.mv, AV.mv, mvTo, St.res, nxtH, makeRows, effMakeSl, storeRow, step, stepE, stepPick, stepG, stepO, stepC, eff, look, rem, St.put, St.setMem, setMems, St.after, St.eval, cst, setAt, val1, okNew, newHs, allHs, rdOf, outHs, Reg.item, Reg.next, Reg.skip, slotOf, effBox, effAlloc, entryRow, fieldOff, effField, loadI, load1, loadR, effLoad, storeI, storeB, storeR, szOk, storeTo, effStore, buildOf, effBuild, binInt, eqI, boolOf, binBool, effBin, effUn, effPick, effExtract, ivs, svs, rowOf, allParts, effBuildSlice, zeroRow, effMakeSlice, elemSz, idxA, idxS, effIndex, lenOf, readOf, subPre, maxRow, plainTI, appTo, effAppend, slcOf, effSlice, argOf, resA, resL, resV, outWr, nodupB, restOk, argsPre, argOk, callWr, effCall, effMax, RC.flat, effBox2, boxPair, compOf, innerOf, innerPre, fieldTwo, loadO, loadN, storeN, buildTwo, effBuild2, buildRows, effBuildSl, appRows, effApp2, plainA, callIn, outsEmpty, callGo, MC.get, MC.has, MC.put, mcTI, keyTI, emptyMC, effMakeMap, mapIn, hOf1, lookV, effLookup, mapBack, effUpdate, effNil, effMin, effIndexV, cutSlc, arrElem, cutOf, wrHs, disj, AV.hs, A0.hs, Entry.hs, RC.elem, RC.sz, RC.len, RC.slice, RC.app, hA, initFr, initMem, initSt, resOf, resAll, compEq, compsEq, rowHs, outHds, outsEq, shapeOk, finOk, comps, A0.norm, AV.norm, specOf, t_int, t_bool, t_implForm, t_implMatrix, t_implunited, ts_int, ts_implForm, tss_int, tm_implForm, t_implclassGroup, Option.getD_some, Option.getD_none, cond_true, cond_false, Nat.reduceBEq, List.map_cons, List.map_nil, List.set_cons_zero, List.set_cons_succ, List.getElem?_cons_zero, List.getElem?_cons_succ, List.drop_zero, List.drop_succ_cons, List.take_succ_cons, List.take_zero, Option.map_some, Option.map_none, Option.bind_some, Nat.zero_add, Nat.add_zero, Nat.reduceAdd, Nat.reduceMul, true_and, and_true, List.replicate_succ, List.replicate_zero, List.length_cons, List.length_nil, List.all_cons, List.all_nil, List.any_cons, List.any_nil, Bool.and_true, Bool.true_and, Bool.and_false, Bool.false_and, Bool.or_true, Bool.true_or, Bool.or_false, Bool.false_or, Bool.not_true, Bool.not_false, List.append_nil, List.nil_append, List.cons_append, List.flatMap_cons, List.flatMap_nil, List.contains_cons, List.contains_nil, List.filter_cons, List.filter_nil, beq_self_eq_true, Bool.not_eq_true, A0.b.injEq, A0.i.injEq, A0.s.injEq, A0.rw.injEq, A0.fn.injEq, List.cons.injEq, RC.ints.injEq, RC.recs.injEq, RC.bools.injEq, RC.mp.injEq, RC.grp.injEq, RC.rows.injEq, MC.ints.injEq, MC.bools.injEq, AV.one.injEq, AV.tup.injEq, ble_dec, blt_dec, Nat.reduceLeDiff, Nat.reduceSub, decide_true, decide_false, and_self, List.toList_toArray, Option.isSome_some, Option.isSome_none, List.elem_nil, List.elem_cons, ite_true, ite_false, Bool.false_eq_true, if_true, if_false, reduceIte, flatB_2, flatB_3, flatB_4, List.headD_cons, List.tail_cons, Try.f30]
  exact ⟨hp, by kernel_rfl⟩
def rd (a b c : Int) : F3 := (rdA a b c, rdB a b c, rdC a b c)
def coxA (a b c x y z : Int) : Int := rdA (rdA a b c * uE (rd a b c) (rd x y z)) (uB (rd a b c) (rd x y z)) (uC (rd a b c) (rd x y z))
def coxB (a b c x y z : Int) : Int := rdB (rdA a b c * uE (rd a b c) (rd x y z)) (uB (rd a b c) (rd x y z)) (uC (rd a b c) (rd x y z))
def coxC (a b c x y z : Int) : Int := rdC (rdA a b c * uE (rd a b c) (rd x y z)) (uB (rd a b c) (rd x y z)) (uC (rd a b c) (rd x y z))
theorem cx_dom {D : Int} {a b c x y z : Int} (hf : RP D (rd a b c)) (hg : RP D (rd x y z)) : domB (rdA a b c * uE (rd a b c) (rd x y z)) (uB (rd a b c) (rd x y z)) (uC (rd a b c) (rd x y z)) = true := (uF_ok hf hg).1
abbrev fCompose : Nat := 45
def cCompose : Ctr
  | [.s [a, b, c], .s [x, y, z]] => some ⟨CuPre a b c x y z, .one (.s [coxA a b c x y z, coxB a b c x y z, coxC a b c x y z]), []⟩
  | _ => none
theorem okCompose : CtrOk Try.prog fCompose cCompose := by
  have hsp : SpecOk Try.prog (specOf [(fReduced1, cReduced1), (fUnite, cUnite), (fComposite, cComposite)]) := (SpecOk.cons okReduced1 (SpecOk.cons okUnite (SpecOk.cons okComposite SpecOk.nil)))
  refine ctr_of (fn := Try.f45) mixed tab_ok hsp Try.func45 (by kernel_rfl) (by kernel_rfl) fun args ce h => ?_
  clear hsp
  unfold cCompose at h
  split at h
  case h_2 => cases h
  rename_i a b c x y z
  simp only [Option.some.injEq] at h
  subst h
  refine ⟨by rfl, fun hp => ⟨0, 1000, ?_⟩⟩
  simp only [↓cond_to_ite, ↓reduceIte, vc, out, effCopy, finD, St.drop, vwAt, Entry.vwO, RC.vwO, dropAt, A0.dr, AV.dr, noneNames, viewS, viewV, viewTo, A0.vwT, AV.vwT, viewOk, viewEn, appView, hdSlc, A0.mv1, AV.mv1, Entry.toO, toOf, A0.mv, AV.mv, mvTo, St.res, nxtH, makeRows, effMakeSl, storeRow, step, stepE, stepPick, stepG, stepO, stepC, eff, look, rem, St.put, St.setMem, setMems, St.after, St.eval, cst, setAt, val1, okNew, newHs, allHs, rdOf, outHs, Reg.item, Reg.next, Reg.skip, slotOf, effBox, effAlloc, entryRow, fieldOff, effField, loadI, load1, loadR, effLoad, storeI, storeB, storeR, szOk, storeTo, effStore, buildOf, effBuild, binInt, eqI, boolOf, binBool, effBin, effUn, effPick, effExtract, ivs, svs, rowOf, allParts, effBuildSlice, zeroRow, effMakeSlice, elemSz, idxA, idxS, effIndex, lenOf, readOf, subPre, maxRow, plainTI, appTo, effAppend, slcOf, effSlice, argOf, resA, resL, resV, outWr, nodupB, restOk, argsPre, argOk, callWr, effCall, effMax, RC.flat, effBox2, boxPair, compOf, innerOf, innerPre, fieldTwo, loadO, loadN, storeN, buildTwo, effBuild2, buildRows, effBuildSl, appRows, effApp2, plainA, callIn, outsEmpty, callGo, MC.get, MC.has, MC.put, mcTI, keyTI, emptyMC, effMakeMap, mapIn, hOf1, lookV, effLookup, mapBack, effUpdate, effNil, effMin, effIndexV, cutSlc, arrElem, cutOf, wrHs, disj, AV.hs, A0.hs, Entry.hs, RC.elem, RC.sz, RC.len, RC.slice, RC.app, hA, initFr, initMem, initSt, resOf, resAll, compEq, compsEq, rowHs, outHds, outsEq, shapeOk, finOk, comps, A0.norm, AV.norm, specOf, t_int, t_bool, t_implForm, t_implMatrix, t_implunited, ts_int, ts_implForm, tss_int, tm_implForm, t_implclassGroup, Option.getD_some, Option.getD_none, cond_true, cond_false, Nat.reduceBEq, List.map_cons, List.map_nil, List.set_cons_zero, List.set_cons_succ, List.getElem?_cons_zero, List.getElem?_cons_succ, List.drop_zero, List.drop_succ_cons, List.take_succ_cons, List.take_zero, Option.map_some, Option.map_none, Option.bind_some, Nat.zero_add, Nat.add_zero, Nat.reduceAdd, Nat.reduceMul, true_and, and_true, List.replicate_succ, List.replicate_zero, List.length_cons, List.length_nil, List.all_cons, List.all_nil, List.any_cons, List.any_nil, Bool.and_true, Bool.true_and, Bool.and_false, Bool.false_and, Bool.or_true, Bool.true_or, Bool.or_false, Bool.false_or, Bool.not_true, Bool.not_false, List.append_nil, List.nil_append, List.cons_append, List.flatMap_cons, List.flatMap_nil, List.contains_cons, List.contains_nil, List.filter_cons, List.filter_nil, beq_self_eq_true, Bool.not_eq_true, A0.b.injEq, A0.i.injEq, A0.s.injEq, A0.rw.injEq, A0.fn.injEq, List.cons.injEq, RC.ints.injEq, RC.recs.injEq, RC.bools.injEq, RC.mp.injEq, RC.grp.injEq, RC.rows.injEq, MC.ints.injEq, MC.bools.injEq, AV.one.injEq, AV.tup.injEq, ble_dec, blt_dec, Nat.reduceLeDiff, Nat.reduceSub, decide_true, decide_false, and_self, List.toList_toArray, Option.isSome_some, Option.isSome_none, List.elem_nil, List.elem_cons, ite_true, ite_false, Bool.false_eq_true, if_true, if_false, reduceIte, flatB_2, flatB_3, flatB_4, List.headD_cons, List.tail_cons, cReduced1, fReduced1, cUnite, fUnite, cComposite, fComposite, Try.f45]
  obtain ⟨hd1, hd2, D, hf, hg⟩ : CuPre a b c x y z := hp
  have n := un_nums hf hg
  have wae : wrap64 (rdA a b c * uE (rdA a b c, rdB a b c, rdC a b c) (rdA x y z, rdB x y z, rdC x y z)) = rdA a b c * uE (rdA a b c, rdB a b c, rdC a b c) (rdA x y z, rdB x y z, rdC x y z) := n.wae
  rw [wae]
  exact ⟨hd1, hd2, ⟨D, hf, hg⟩, cx_dom hf hg, by kernel_rfl, rfl, rfl, rfl⟩
abbrev fCoMul : Nat := 20
def cCoMul : Ctr
  | [.s [a, b, c], .s [x, y, z]] => some ⟨CuPre a b c x y z, .one (.s [coxA a b c x y z, coxB a b c x y z, coxC a b c x y z]), []⟩
  | _ => none
theorem okCoMul : CtrOk Try.prog fCoMul cCoMul := by
  have hsp : SpecOk Try.prog (specOf [(fCoUnite, cCoUnite), (fCoJoined, cCoJoined), (fReClass, cReClass)]) := (SpecOk.cons okCoUnite (SpecOk.cons okCoJoined (SpecOk.cons okReClass SpecOk.nil)))
  refine ctr_of (fn := Try.f20) mixed tab_ok hsp Try.func20 (by kernel_rfl) (by kernel_rfl) fun args ce h => ?_
  clear hsp
  unfold cCoMul at h
  split at h
  case h_2 => cases h
  rename_i a b c x y z
  simp only [Option.some.injEq] at h
  subst h
  refine ⟨by rfl, fun hp => ⟨0, 1000, ?_⟩⟩
  simp only [↓cond_to_ite, ↓reduceIte, vc, out, effCopy, finD, St.drop, vwAt, Entry.vwO, RC.vwO, dropAt, A0.dr, AV.dr, noneNames, viewS, viewV, viewTo, A0.vwT, AV.vwT, viewOk, viewEn, appView, hdSlc, A0.mv1, AV.mv1, Entry.toO, toOf, A0.mv, AV.mv, mvTo, St.res, nxtH, makeRows, effMakeSl, storeRow, step, stepE, stepPick, stepG, stepO, stepC, eff, look, rem, St.put, St.setMem, setMems, St.after, St.eval, cst, setAt, val1, okNew, newHs, allHs, rdOf, outHs, Reg.item, Reg.next, Reg.skip, slotOf, effBox, effAlloc, entryRow, fieldOff, effField, loadI, load1, loadR, effLoad, storeI, storeB, storeR, szOk, storeTo, effStore, buildOf, effBuild, binInt, eqI, boolOf, binBool, effBin, effUn, effPick, effExtract, ivs, svs, rowOf, allParts, effBuildSlice, zeroRow, effMakeSlice, elemSz, idxA, idxS, effIndex, lenOf, readOf, subPre, maxRow, plainTI, appTo, effAppend, slcOf, effSlice, argOf, resA, resL, resV, outWr, nodupB, restOk, argsPre, argOk, callWr, effCall, effMax, RC.flat, effBox2, boxPair, compOf, innerOf, innerPre, fieldTwo, loadO, loadN, storeN, buildTwo, effBuild2, buildRows, effBuildSl, appRows, effApp2, plainA, callIn, outsEmpty, callGo, MC.get, MC.has, MC.put, mcTI, keyTI, emptyMC, effMakeMap, mapIn, hOf1, lookV, effLookup, mapBack, effUpdate, effNil, effMin, effIndexV, cutSlc, arrElem, cutOf, wrHs, disj, AV.hs, A0.hs, Entry.hs, RC.elem, RC.sz, RC.len, RC.slice, RC.app, hA, initFr, initMem, initSt, resOf, resAll, compEq, compsEq, rowHs, outHds, outsEq, shapeOk, finOk, comps, A0.norm, AV.norm, specOf, t_int, t_bool, t_implForm, t_implMatrix, t_implunited, ts_int, ts_implForm, tss_int, tm_implForm, t_implclassGroup, Option.getD_some, Option.getD_none, cond_true, cond_false, Nat.reduceBEq, List.map_cons, List.map_nil, List.set_cons_zero, List.set_cons_succ, List.getElem?_cons_zero, List.getElem?_cons_succ, List.drop_zero, List.drop_succ_cons, List.take_succ_cons, List.take_zero, Option.map_some, Option.map_none, Option.bind_some, Nat.zero_add, Nat.add_zero, Nat.reduceAdd, Nat.reduceMul, true_and, and_true, List.replicate_succ, List.replicate_zero, List.length_cons, List.length_nil, List.all_cons, List.all_nil, List.any_cons, List.any_nil, Bool.and_true, Bool.true_and, Bool.and_false, Bool.false_and, Bool.or_true, Bool.true_or, Bool.or_false, Bool.false_or, Bool.not_true, Bool.not_false, List.append_nil, List.nil_append, List.cons_append, List.flatMap_cons, List.flatMap_nil, List.contains_cons, List.contains_nil, List.filter_cons, List.filter_nil, beq_self_eq_true, Bool.not_eq_true, A0.b.injEq, A0.i.injEq, A0.s.injEq, A0.rw.injEq, A0.fn.injEq, List.cons.injEq, RC.ints.injEq, RC.recs.injEq, RC.bools.injEq, RC.mp.injEq, RC.grp.injEq, RC.rows.injEq, MC.ints.injEq, MC.bools.injEq, AV.one.injEq, AV.tup.injEq, ble_dec, blt_dec, Nat.reduceLeDiff, Nat.reduceSub, decide_true, decide_false, and_self, List.toList_toArray, Option.isSome_some, Option.isSome_none, List.elem_nil, List.elem_cons, ite_true, ite_false, Bool.false_eq_true, if_true, if_false, reduceIte, flatB_2, flatB_3, flatB_4, List.headD_cons, List.tail_cons, cCoUnite, fCoUnite, cCoJoined, fCoJoined, cReClass, fReClass, Try.f20]
  have hcu : CuPre a b c x y z := hp
  obtain ⟨hd1, hd2, D, hf, hg⟩ := hcu
  have n := un_nums hf hg
  have u := uni_ok hf hg
  have ⟨c1, c2⟩ := uC_bd hf hg
  have e0 := u.e0
  have wae : wrap64 (rdA a b c * uE (rdA a b c, rdB a b c, rdC a b c) (rdA x y z, rdB x y z, rdC x y z)) = rdA a b c * uE (rdA a b c, rdB a b c, rdC a b c) (rdA x y z, rdB x y z, rdC x y z) := n.wae
  have wc : wrap64 ((uE (rdA a b c, rdB a b c, rdC a b c) (rdA x y z, rdB x y z, rdC x y z) * uC (rdA a b c, rdB a b c, rdC a b c) (rdA x y z, rdB x y z, rdC x y z)).tdiv (uE (rdA a b c, rdB a b c, rdC a b c) (rdA x y z, rdB x y z, rdC x y z))) = uC (rdA a b c, rdB a b c, rdC a b c) (rdA x y z, rdB x y z, rdC x y z) := by
    rw [Int.mul_tdiv_cancel_left _ (by omega), wrap_id (by omega) (by omega)]
  rw [wae, wc]
  first
    | exact ⟨hp, by omega, cx_dom hf hg, rfl, rfl, rfl⟩
    | exact ⟨hp, by omega, cx_dom hf hg, by kernel_rfl, rfl, rfl, rfl⟩
/-! ### the laws -/
def onP (h : Bool) (n : Int) : Int := bif h then n else 0
-- (not in this seat: ComposeF)
-- (not in this seat: SComposeF)
-- (not in this seat: LawCompose)
def ufO (a b c x y z : Int) (n : Int) : Int := onB (pairB a b c x y z) n
-- (not in this seat: UnitedF)
-- (not in this seat: SUnitedF)
-- (not in this seat: LawUnited)
/-! ### quotients -/
theorem rd_red {D : Int} {a b c : Int} (h : RP D (a, b, c)) : rd a b c = (a, b, c) := by
  have h1 : rd a b c = rdx (a, b, c) := rd3_eq h.dom
  rw [h1]
  exact rdx_of_red (red_of h.red (by have := h.a25; omega))
theorem rd_rdx {a b c : Int} (h : domB a b c = true) : rd a b c = rdx (a, b, c) := rd3_eq h
/-- the composite in plain terms -/
theorem cx_cmp {a b c x y z : Int} (h : CuPre a b c x y z) : (coxA a b c x y z, coxB a b c x y z, coxC a b c x y z) = cmp (rd a b c) (rd x y z) := by
  obtain ⟨hd1, hd2, D, hf, hg⟩ := h
  exact rd3_eq (cx_dom hf hg)
/-- a class form's opposite -/
theorem pair_opp {a b c x y z : Int} (h : pairB a b c x y z = true) : CuPre a b c x (wrap64 (0 - y)) z ∧ CuPre a b c (rdA x (wrap64 (0 - y)) z) (rdB x (wrap64 (0 - y)) z) (rdC x (wrap64 (0 - y)) z) ∧ domB x (wrap64 (0 - y)) z = true := by
  simp only [pairB, Bool.and_eq_true, beq_iff_eq] at h
  obtain ⟨h1, h2, h3⟩ := h
  obtain ⟨r1, d1⟩ := class_rp h1
  obtain ⟨r2, d2⟩ := class_rp h2
  rw [(class_disc h1).1, (class_disc h2).1] at h3
  have hod := class_opp h2
  have hw : wrap64 (0 - y) = -y := (class_dom h2).neg
  have hp : Prim (x, y, z) := r2.prim.eqv ((eqv_rdx (x, y, z)).symm |> fun e => by rw [← rd3_eq d2] at e; exact e)
  have ho : Prim (x, wrap64 (0 - y), z) := by rw [hw]; exact hp.opp
  have hdo : dsc (x, wrap64 (0 - y), z) = dsc (a, b, c) := by rw [hw, h3]; exact dsc_opp (x, y, z)
  have hr := rdx_red (x := (x, wrap64 (0 - y), z)) hod
  have hp2 := ho.eqv (eqv_rdx _)
  have e : rdx (x, wrap64 (0 - y), z) = rd x (wrap64 (0 - y)) z := (rd3_eq hod).symm
  rw [hdo, e] at hr
  rw [e] at hp2
  have hR : RP (dsc (a, b, c)) (rd x (wrap64 (0 - y)) z) := ⟨hr, hp2, r1.lo, r1.hi⟩
  refine ⟨⟨d1, hod, _, r1, hR⟩, ⟨d1, hR.dom, _, r1, ?_⟩, hod⟩
  have := rd_red hR
  unfold rd at this
  rw [this]
  exact hR
theorem cx_div {a b c x y z : Int} (h : pairB a b c x y z = true) : coxA a b c (rdA x (wrap64 (0 - y)) z) (rdB x (wrap64 (0 - y)) z) (rdC x (wrap64 (0 - y)) z) = coxA a b c x (wrap64 (0 - y)) z ∧ coxB a b c (rdA x (wrap64 (0 - y)) z) (rdB x (wrap64 (0 - y)) z) (rdC x (wrap64 (0 - y)) z) = coxB a b c x (wrap64 (0 - y)) z ∧ coxC a b c (rdA x (wrap64 (0 - y)) z) (rdB x (wrap64 (0 - y)) z) (rdC x (wrap64 (0 - y)) z) = coxC a b c x (wrap64 (0 - y)) z := by
  obtain ⟨h1, h2, _⟩ := pair_opp h
  have e1 := cx_cmp h1
  have e2 := cx_cmp h2
  obtain ⟨_, _, D, _, hR⟩ := h1
  have e3 := rd_red hR
  rw [e3] at e2
  have e4 : rd x (wrap64 (0 - y)) z = (rdA x (wrap64 (0 - y)) z, rdB x (wrap64 (0 - y)) z, rdC x (wrap64 (0 - y)) z) := rfl
  rw [e4] at e1
  rw [← e1] at e2
  simp only [Prod.mk.injEq] at e2
  exact e2
-- (not in this seat: DivideF)
-- (not in this seat: SDivideF)
-- (not in this seat: LawDivide)
end Go.Proofs.Ythcnaeahmdapbaa
