/-
  Contracts of composites on both sides, and of the laws UnitedForms, ComposeForms and DivideForms. Conditions: none.
-/
import Derived.Test.YthcbcdjfbiagpaaCo4
namespace Go.Proofs.Ythcbcdjfbiagpaa
open Go Go.RowKit
set_option maxRecDepth 100000
set_option linter.unusedSimpArgs false
set_option linter.unusedVariables false
set_option maxHeartbeats 4000000

abbrev fComposite : Nat := 98
def cComposite : Ctr
  | [.s [a, e, b, c, p, q, r, s, t, u, v, w]] => some ⟨True, .one (.s [wrap64 (a * e), b, c]), []⟩
  | _ => none
theorem okComposite : CtrOk Try.prog fComposite cComposite := by
  have hsp : SpecOk Try.prog (specOf []) := SpecOk.nil
  refine ctr_of (fn := Try.f98) mixed tab_ok hsp Try.func98 (by kernel_rfl) (by kernel_rfl) fun args ce h => ?_
  clear hsp
  unfold cComposite at h
  split at h
  case h_2 => cases h
  rename_i a e b c p q r s t u v w
  simp only [Option.some.injEq] at h
  subst h
  refine ⟨by rfl, fun hp => ⟨0, 1000, ?_⟩⟩
  simp only [vc, out, step, stepE, stepPick, stepG, stepO, stepC, eff, look, rem, St.put, St.setMem, setMems, St.after, St.eval, cst, setAt, val1, okNew, newHs, allHs, rdOf, outHs, Reg.item, Reg.next, Reg.skip, slotOf, effBox, effAlloc, entryRow, fieldOff, effField, loadI, load1, loadR, effLoad, storeI, storeB, storeR, szOk, storeTo, effStore, buildOf, effBuild, binInt, eqI, boolOf, binBool, effBin, effUn, effPick, effExtract, ivs, svs, rowOf, allParts, effBuildSlice, zeroRow, effMakeSlice, elemSz, idxA, idxS, effIndex, lenOf, readOf, subPre, maxRow, plainTI, appTo, effAppend, slcOf, effSlice, argOf, resA, resL, resV, outWr, nodupB, restOk, argsPre, argOk, callWr, effCall, effMax, wrHs, disj, AV.hs, A0.hs, Entry.hs, RC.elem, RC.sz, RC.len, RC.slice, RC.app, hA, initFr, initMem, initSt, resOf, resAll, compEq, compsEq, rowHs, outHds, outsEq, shapeOk, finOk, comps, A0.norm, AV.norm, specOf, t_int, t_bool, t_implForm, t_lawsForm, t_implMatrix, t_implPoint, t_implTriple, t_lawsTriple, t_implSpot, t_implCube, t_implunited, t_implCharacter, t_implentries, t_implbilinear, t_a8int, t_a3int, t_a4int, ts_int, ts_implForm, ts_implSpot, ts_implPoint, ts_implMatrix, ts_implCharacter, Option.getD_some, Option.getD_none, cond_true, cond_false, Nat.reduceBEq, List.map_cons, List.map_nil, List.set_cons_zero, List.set_cons_succ, List.getElem?_cons_zero, List.getElem?_cons_succ, List.drop_zero, List.drop_succ_cons, List.take_succ_cons, List.take_zero, Option.map_some, Option.map_none, Option.bind_some, Nat.zero_add, Nat.add_zero, Nat.reduceAdd, Nat.reduceMul, true_and, and_true, List.replicate_succ, List.replicate_zero, List.length_cons, List.length_nil, List.all_cons, List.all_nil, List.any_cons, List.any_nil, Bool.and_true, Bool.true_and, Bool.and_false, Bool.false_and, Bool.or_true, Bool.true_or, Bool.or_false, Bool.false_or, Bool.not_true, Bool.not_false, List.append_nil, List.nil_append, List.cons_append, List.flatMap_cons, List.flatMap_nil, List.contains_cons, List.contains_nil, List.filter_cons, List.filter_nil, beq_self_eq_true, Bool.not_eq_true, A0.b.injEq, A0.i.injEq, A0.s.injEq, A0.rw.injEq, A0.fn.injEq, List.cons.injEq, RC.ints.injEq, RC.recs.injEq, RC.bools.injEq, AV.one.injEq, AV.tup.injEq, ble_dec, blt_dec, Nat.reduceLeDiff, Nat.reduceSub, decide_true, decide_false, and_self, List.toList_toArray, Option.isSome_some, Option.isSome_none, List.elem_nil, List.elem_cons, ite_true, ite_false, Bool.false_eq_true, if_true, if_false, reduceIte, flatB_2, flatB_3, flatB_4, List.headD_cons, List.tail_cons, Try.f98]

abbrev fCoJoined : Nat := 163
def cCoJoined : Ctr
  | [.s [a, b, c], .s [x, y, z]] => some ⟨x ≠ 0, .one (.s [wrap64 (a * x), b, wrap64 (c.tdiv x)]), []⟩
  | _ => none
theorem okCoJoined : CtrOk Try.prog fCoJoined cCoJoined := by
  have hsp : SpecOk Try.prog (specOf []) := SpecOk.nil
  refine ctr_of (fn := Try.f163) mixed tab_ok hsp Try.func163 (by kernel_rfl) (by kernel_rfl) fun args ce h => ?_
  clear hsp
  unfold cCoJoined at h
  split at h
  case h_2 => cases h
  rename_i a b c x y z
  simp only [Option.some.injEq] at h
  subst h
  refine ⟨by rfl, fun hp => ⟨0, 1000, ?_⟩⟩
  simp only [↓cond_to_ite, ↓reduceIte, vc, out, step, stepE, stepPick, stepG, stepO, stepC, eff, look, rem, St.put, St.setMem, setMems, St.after, St.eval, cst, setAt, val1, okNew, newHs, allHs, rdOf, outHs, Reg.item, Reg.next, Reg.skip, slotOf, effBox, effAlloc, entryRow, fieldOff, effField, loadI, load1, loadR, effLoad, storeI, storeB, storeR, szOk, storeTo, effStore, buildOf, effBuild, binInt, eqI, boolOf, binBool, effBin, effUn, effPick, effExtract, ivs, svs, rowOf, allParts, effBuildSlice, zeroRow, effMakeSlice, elemSz, idxA, idxS, effIndex, lenOf, readOf, subPre, maxRow, plainTI, appTo, effAppend, slcOf, effSlice, argOf, resA, resL, resV, outWr, nodupB, restOk, argsPre, argOk, callWr, effCall, effMax, wrHs, disj, AV.hs, A0.hs, Entry.hs, RC.elem, RC.sz, RC.len, RC.slice, RC.app, hA, initFr, initMem, initSt, resOf, resAll, compEq, compsEq, rowHs, outHds, outsEq, shapeOk, finOk, comps, A0.norm, AV.norm, specOf, t_int, t_bool, t_implForm, t_lawsForm, t_implMatrix, t_implPoint, t_implTriple, t_lawsTriple, t_implSpot, t_implCube, t_implunited, t_implCharacter, t_implentries, t_implbilinear, t_a8int, t_a3int, t_a4int, ts_int, ts_implForm, ts_implSpot, ts_implPoint, ts_implMatrix, ts_implCharacter, Option.getD_some, Option.getD_none, cond_true, cond_false, Nat.reduceBEq, List.map_cons, List.map_nil, List.set_cons_zero, List.set_cons_succ, List.getElem?_cons_zero, List.getElem?_cons_succ, List.drop_zero, List.drop_succ_cons, List.take_succ_cons, List.take_zero, Option.map_some, Option.map_none, Option.bind_some, Nat.zero_add, Nat.add_zero, Nat.reduceAdd, Nat.reduceMul, true_and, and_true, List.replicate_succ, List.replicate_zero, List.length_cons, List.length_nil, List.all_cons, List.all_nil, List.any_cons, List.any_nil, Bool.and_true, Bool.true_and, Bool.and_false, Bool.false_and, Bool.or_true, Bool.true_or, Bool.or_false, Bool.false_or, Bool.not_true, Bool.not_false, List.append_nil, List.nil_append, List.cons_append, List.flatMap_cons, List.flatMap_nil, List.contains_cons, List.contains_nil, List.filter_cons, List.filter_nil, beq_self_eq_true, Bool.not_eq_true, A0.b.injEq, A0.i.injEq, A0.s.injEq, A0.rw.injEq, A0.fn.injEq, List.cons.injEq, RC.ints.injEq, RC.recs.injEq, RC.bools.injEq, AV.one.injEq, AV.tup.injEq, ble_dec, blt_dec, Nat.reduceLeDiff, Nat.reduceSub, decide_true, decide_false, and_self, List.toList_toArray, Option.isSome_some, Option.isSome_none, List.elem_nil, List.elem_cons, ite_true, ite_false, Bool.false_eq_true, if_true, if_false, reduceIte, flatB_2, flatB_3, flatB_4, List.headD_cons, List.tail_cons, Try.f163]
  exact ⟨hp, by kernel_rfl⟩
def rd (a b c : Int) : F3 := (rdA a b c, rdB a b c, rdC a b c)
def cxA (a b c x y z : Int) : Int := rdA (rdA a b c * uE (rd a b c) (rd x y z)) (uB (rd a b c) (rd x y z)) (uC (rd a b c) (rd x y z))
def cxB (a b c x y z : Int) : Int := rdB (rdA a b c * uE (rd a b c) (rd x y z)) (uB (rd a b c) (rd x y z)) (uC (rd a b c) (rd x y z))
def cxC (a b c x y z : Int) : Int := rdC (rdA a b c * uE (rd a b c) (rd x y z)) (uB (rd a b c) (rd x y z)) (uC (rd a b c) (rd x y z))
theorem cx_dom {D : Int} {a b c x y z : Int} (hf : RP D (rd a b c)) (hg : RP D (rd x y z)) : domB (rdA a b c * uE (rd a b c) (rd x y z)) (uB (rd a b c) (rd x y z)) (uC (rd a b c) (rd x y z)) = true := (uF_ok hf hg).1
abbrev fCompose : Nat := 87
def cCompose : Ctr
  | [.s [a, b, c], .s [x, y, z]] => some ⟨CuPre a b c x y z, .one (.s [cxA a b c x y z, cxB a b c x y z, cxC a b c x y z]), []⟩
  | _ => none
theorem okCompose : CtrOk Try.prog fCompose cCompose := by
  have hsp : SpecOk Try.prog (specOf [(fReduced1, cReduced1), (fUnite, cUnite), (fComposite, cComposite)]) := (SpecOk.cons okReduced1 (SpecOk.cons okUnite (SpecOk.cons okComposite SpecOk.nil)))
  refine ctr_of (fn := Try.f87) mixed tab_ok hsp Try.func87 (by kernel_rfl) (by kernel_rfl) fun args ce h => ?_
  clear hsp
  unfold cCompose at h
  split at h
  case h_2 => cases h
  rename_i a b c x y z
  simp only [Option.some.injEq] at h
  subst h
  refine ⟨by rfl, fun hp => ⟨0, 1000, ?_⟩⟩
  simp only [↓cond_to_ite, ↓reduceIte, vc, out, step, stepE, stepPick, stepG, stepO, stepC, eff, look, rem, St.put, St.setMem, setMems, St.after, St.eval, cst, setAt, val1, okNew, newHs, allHs, rdOf, outHs, Reg.item, Reg.next, Reg.skip, slotOf, effBox, effAlloc, entryRow, fieldOff, effField, loadI, load1, loadR, effLoad, storeI, storeB, storeR, szOk, storeTo, effStore, buildOf, effBuild, binInt, eqI, boolOf, binBool, effBin, effUn, effPick, effExtract, ivs, svs, rowOf, allParts, effBuildSlice, zeroRow, effMakeSlice, elemSz, idxA, idxS, effIndex, lenOf, readOf, subPre, maxRow, plainTI, appTo, effAppend, slcOf, effSlice, argOf, resA, resL, resV, outWr, nodupB, restOk, argsPre, argOk, callWr, effCall, effMax, wrHs, disj, AV.hs, A0.hs, Entry.hs, RC.elem, RC.sz, RC.len, RC.slice, RC.app, hA, initFr, initMem, initSt, resOf, resAll, compEq, compsEq, rowHs, outHds, outsEq, shapeOk, finOk, comps, A0.norm, AV.norm, specOf, t_int, t_bool, t_implForm, t_lawsForm, t_implMatrix, t_implPoint, t_implTriple, t_lawsTriple, t_implSpot, t_implCube, t_implunited, t_implCharacter, t_implentries, t_implbilinear, t_a8int, t_a3int, t_a4int, ts_int, ts_implForm, ts_implSpot, ts_implPoint, ts_implMatrix, ts_implCharacter, Option.getD_some, Option.getD_none, cond_true, cond_false, Nat.reduceBEq, List.map_cons, List.map_nil, List.set_cons_zero, List.set_cons_succ, List.getElem?_cons_zero, List.getElem?_cons_succ, List.drop_zero, List.drop_succ_cons, List.take_succ_cons, List.take_zero, Option.map_some, Option.map_none, Option.bind_some, Nat.zero_add, Nat.add_zero, Nat.reduceAdd, Nat.reduceMul, true_and, and_true, List.replicate_succ, List.replicate_zero, List.length_cons, List.length_nil, List.all_cons, List.all_nil, List.any_cons, List.any_nil, Bool.and_true, Bool.true_and, Bool.and_false, Bool.false_and, Bool.or_true, Bool.true_or, Bool.or_false, Bool.false_or, Bool.not_true, Bool.not_false, List.append_nil, List.nil_append, List.cons_append, List.flatMap_cons, List.flatMap_nil, List.contains_cons, List.contains_nil, List.filter_cons, List.filter_nil, beq_self_eq_true, Bool.not_eq_true, A0.b.injEq, A0.i.injEq, A0.s.injEq, A0.rw.injEq, A0.fn.injEq, List.cons.injEq, RC.ints.injEq, RC.recs.injEq, RC.bools.injEq, AV.one.injEq, AV.tup.injEq, ble_dec, blt_dec, Nat.reduceLeDiff, Nat.reduceSub, decide_true, decide_false, and_self, List.toList_toArray, Option.isSome_some, Option.isSome_none, List.elem_nil, List.elem_cons, ite_true, ite_false, Bool.false_eq_true, if_true, if_false, reduceIte, flatB_2, flatB_3, flatB_4, List.headD_cons, List.tail_cons, cReduced1, fReduced1, cUnite, fUnite, cComposite, fComposite, Try.f87]
  obtain ⟨hd1, hd2, D, hf, hg⟩ : CuPre a b c x y z := hp
  have n := un_nums hf hg
  have wae : wrap64 (rdA a b c * uE (rdA a b c, rdB a b c, rdC a b c) (rdA x y z, rdB x y z, rdC x y z)) = rdA a b c * uE (rdA a b c, rdB a b c, rdC a b c) (rdA x y z, rdB x y z, rdC x y z) := n.wae
  rw [wae]
  exact ⟨hd1, hd2, ⟨D, hf, hg⟩, cx_dom hf hg, by kernel_rfl, rfl, rfl, rfl⟩
abbrev fCoMul : Nat := 86
def cCoMul : Ctr
  | [.s [a, b, c], .s [x, y, z]] => some ⟨CuPre a b c x y z, .one (.s [cxA a b c x y z, cxB a b c x y z, cxC a b c x y z]), []⟩
  | _ => none
theorem okCoMul : CtrOk Try.prog fCoMul cCoMul := by
  have hsp : SpecOk Try.prog (specOf [(fCoUnite, cCoUnite), (fCoJoined, cCoJoined), (fReClass, cReClass)]) := (SpecOk.cons okCoUnite (SpecOk.cons okCoJoined (SpecOk.cons okReClass SpecOk.nil)))
  refine ctr_of (fn := Try.f86) mixed tab_ok hsp Try.func86 (by kernel_rfl) (by kernel_rfl) fun args ce h => ?_
  clear hsp
  unfold cCoMul at h
  split at h
  case h_2 => cases h
  rename_i a b c x y z
  simp only [Option.some.injEq] at h
  subst h
  refine ⟨by rfl, fun hp => ⟨0, 1000, ?_⟩⟩
  simp only [↓cond_to_ite, ↓reduceIte, vc, out, step, stepE, stepPick, stepG, stepO, stepC, eff, look, rem, St.put, St.setMem, setMems, St.after, St.eval, cst, setAt, val1, okNew, newHs, allHs, rdOf, outHs, Reg.item, Reg.next, Reg.skip, slotOf, effBox, effAlloc, entryRow, fieldOff, effField, loadI, load1, loadR, effLoad, storeI, storeB, storeR, szOk, storeTo, effStore, buildOf, effBuild, binInt, eqI, boolOf, binBool, effBin, effUn, effPick, effExtract, ivs, svs, rowOf, allParts, effBuildSlice, zeroRow, effMakeSlice, elemSz, idxA, idxS, effIndex, lenOf, readOf, subPre, maxRow, plainTI, appTo, effAppend, slcOf, effSlice, argOf, resA, resL, resV, outWr, nodupB, restOk, argsPre, argOk, callWr, effCall, effMax, wrHs, disj, AV.hs, A0.hs, Entry.hs, RC.elem, RC.sz, RC.len, RC.slice, RC.app, hA, initFr, initMem, initSt, resOf, resAll, compEq, compsEq, rowHs, outHds, outsEq, shapeOk, finOk, comps, A0.norm, AV.norm, specOf, t_int, t_bool, t_implForm, t_lawsForm, t_implMatrix, t_implPoint, t_implTriple, t_lawsTriple, t_implSpot, t_implCube, t_implunited, t_implCharacter, t_implentries, t_implbilinear, t_a8int, t_a3int, t_a4int, ts_int, ts_implForm, ts_implSpot, ts_implPoint, ts_implMatrix, ts_implCharacter, Option.getD_some, Option.getD_none, cond_true, cond_false, Nat.reduceBEq, List.map_cons, List.map_nil, List.set_cons_zero, List.set_cons_succ, List.getElem?_cons_zero, List.getElem?_cons_succ, List.drop_zero, List.drop_succ_cons, List.take_succ_cons, List.take_zero, Option.map_some, Option.map_none, Option.bind_some, Nat.zero_add, Nat.add_zero, Nat.reduceAdd, Nat.reduceMul, true_and, and_true, List.replicate_succ, List.replicate_zero, List.length_cons, List.length_nil, List.all_cons, List.all_nil, List.any_cons, List.any_nil, Bool.and_true, Bool.true_and, Bool.and_false, Bool.false_and, Bool.or_true, Bool.true_or, Bool.or_false, Bool.false_or, Bool.not_true, Bool.not_false, List.append_nil, List.nil_append, List.cons_append, List.flatMap_cons, List.flatMap_nil, List.contains_cons, List.contains_nil, List.filter_cons, List.filter_nil, beq_self_eq_true, Bool.not_eq_true, A0.b.injEq, A0.i.injEq, A0.s.injEq, A0.rw.injEq, A0.fn.injEq, List.cons.injEq, RC.ints.injEq, RC.recs.injEq, RC.bools.injEq, AV.one.injEq, AV.tup.injEq, ble_dec, blt_dec, Nat.reduceLeDiff, Nat.reduceSub, decide_true, decide_false, and_self, List.toList_toArray, Option.isSome_some, Option.isSome_none, List.elem_nil, List.elem_cons, ite_true, ite_false, Bool.false_eq_true, if_true, if_false, reduceIte, flatB_2, flatB_3, flatB_4, List.headD_cons, List.tail_cons, cCoUnite, fCoUnite, cCoJoined, fCoJoined, cReClass, fReClass, Try.f86]
  have hcu : CuPre a b c x y z := hp
  obtain ⟨hd1, hd2, D, hf, hg⟩ := hcu
  have n := un_nums hf hg
  have u := uni_ok hf hg
  have ⟨c1, c2⟩ := uC_bd hf hg
  have e0 := u.e0
  have wae : wrap64 (rdA a b c * uE (rdA a b c, rdB a b c, rdC a b c) (rdA x y z, rdB x y z, rdC x y z)) = rdA a b c * uE (rdA a b c, rdB a b c, rdC a b c) (rdA x y z, rdB x y z, rdC x y z) := n.wae
  have wc : wrap64 ((uE (rdA a b c, rdB a b c, rdC a b c) (rdA x y z, rdB x y z, rdC x y z) * uC (rdA a b c, rdB a b c, rdC a b c) (rdA x y z, rdB x y z, rdC x y z)).tdiv (uE (rdA a b c, rdB a b c, rdC a b c) (rdA x y z, rdB x y z, rdC x y z))) = uC (rdA a b c, rdB a b c, rdC a b c) (rdA x y z, rdB x y z, rdC x y z) := by
    rw [Int.mul_tdiv_cancel_left _ (by omega), wrap_id (by omega) (by omega)]
  rw [wae, wc]
  first
    | exact ⟨hp, by omega, cx_dom hf hg, rfl, rfl, rfl⟩
    | exact ⟨hp, by omega, cx_dom hf hg, by kernel_rfl, rfl, rfl, rfl⟩
/-! ### the laws -/
def onP (h : Bool) (n : Int) : Int := bif h then n else 0
abbrev fComposeF : Nat := 29
def cComposeF : Ctr
  | [.s [a, b, c], .s [x, y, z]] => some ⟨True, .tup [.s [onB (pairB a b c x y z) (cxA a b c x y z), onB (pairB a b c x y z) (cxB a b c x y z), onB (pairB a b c x y z) (cxC a b c x y z)], .b (pairB a b c x y z)], []⟩
  | _ => none
theorem okComposeF : CtrOk Try.prog fComposeF cComposeF := by
  have hsp : SpecOk Try.prog (specOf [(fArePair, cArePair), (fCompose, cCompose)]) := (SpecOk.cons okArePair (SpecOk.cons okCompose SpecOk.nil))
  refine ctr_of (fn := Try.f29) mixed tab_ok hsp Try.func29 (by kernel_rfl) (by kernel_rfl) fun args ce h => ?_
  clear hsp
  unfold cComposeF at h
  split at h
  case h_2 => cases h
  rename_i a b c x y z
  simp only [Option.some.injEq] at h
  subst h
  refine ⟨by rfl, fun hp => ⟨0, 1000, ?_⟩⟩
  simp only [vc, out, step, stepE, stepPick, stepG, stepO, stepC, eff, look, rem, St.put, St.setMem, setMems, St.after, St.eval, cst, setAt, val1, okNew, newHs, allHs, rdOf, outHs, Reg.item, Reg.next, Reg.skip, slotOf, effBox, effAlloc, entryRow, fieldOff, effField, loadI, load1, loadR, effLoad, storeI, storeB, storeR, szOk, storeTo, effStore, buildOf, effBuild, binInt, eqI, boolOf, binBool, effBin, effUn, effPick, effExtract, ivs, svs, rowOf, allParts, effBuildSlice, zeroRow, effMakeSlice, elemSz, idxA, idxS, effIndex, lenOf, readOf, subPre, maxRow, plainTI, appTo, effAppend, slcOf, effSlice, argOf, resA, resL, resV, outWr, nodupB, restOk, argsPre, argOk, callWr, effCall, effMax, wrHs, disj, AV.hs, A0.hs, Entry.hs, RC.elem, RC.sz, RC.len, RC.slice, RC.app, hA, initFr, initMem, initSt, resOf, resAll, compEq, compsEq, rowHs, outHds, outsEq, shapeOk, finOk, comps, A0.norm, AV.norm, specOf, t_int, t_bool, t_implForm, t_lawsForm, t_implMatrix, t_implPoint, t_implTriple, t_lawsTriple, t_implSpot, t_implCube, t_implunited, t_implCharacter, t_implentries, t_implbilinear, t_a8int, t_a3int, t_a4int, ts_int, ts_implForm, ts_implSpot, ts_implPoint, ts_implMatrix, ts_implCharacter, Option.getD_some, Option.getD_none, cond_true, cond_false, Nat.reduceBEq, List.map_cons, List.map_nil, List.set_cons_zero, List.set_cons_succ, List.getElem?_cons_zero, List.getElem?_cons_succ, List.drop_zero, List.drop_succ_cons, List.take_succ_cons, List.take_zero, Option.map_some, Option.map_none, Option.bind_some, Nat.zero_add, Nat.add_zero, Nat.reduceAdd, Nat.reduceMul, true_and, and_true, List.replicate_succ, List.replicate_zero, List.length_cons, List.length_nil, List.all_cons, List.all_nil, List.any_cons, List.any_nil, Bool.and_true, Bool.true_and, Bool.and_false, Bool.false_and, Bool.or_true, Bool.true_or, Bool.or_false, Bool.false_or, Bool.not_true, Bool.not_false, List.append_nil, List.nil_append, List.cons_append, List.flatMap_cons, List.flatMap_nil, List.contains_cons, List.contains_nil, List.filter_cons, List.filter_nil, beq_self_eq_true, Bool.not_eq_true, A0.b.injEq, A0.i.injEq, A0.s.injEq, A0.rw.injEq, A0.fn.injEq, List.cons.injEq, RC.ints.injEq, RC.recs.injEq, RC.bools.injEq, AV.one.injEq, AV.tup.injEq, ble_dec, blt_dec, Nat.reduceLeDiff, Nat.reduceSub, decide_true, decide_false, and_self, List.toList_toArray, Option.isSome_some, Option.isSome_none, List.elem_nil, List.elem_cons, ite_true, ite_false, Bool.false_eq_true, if_true, if_false, reduceIte, flatB_2, flatB_3, flatB_4, List.headD_cons, List.tail_cons, cArePair, fArePair, cCompose, fCompose, Try.f29]
  cases h : pairB a b c x y z with
  | false => exact ⟨by kernel_rfl, ⟨rfl, rfl, rfl⟩, rfl⟩
  | true => exact ⟨pair_cu h, by kernel_rfl, ⟨rfl, rfl, rfl⟩, rfl⟩
abbrev fSComposeF : Nat := 28
def cSComposeF : Ctr
  | [.s [a, b, c], .s [x, y, z]] => some ⟨True, .tup [.s [onB (pairB a b c x y z) (cxA a b c x y z), onB (pairB a b c x y z) (cxB a b c x y z), onB (pairB a b c x y z) (cxC a b c x y z)], .b (pairB a b c x y z)], []⟩
  | _ => none
theorem okSComposeF : CtrOk Try.prog fSComposeF cSComposeF := by
  have hsp : SpecOk Try.prog (specOf [(fCoTwo, cCoTwo), (fCoMul, cCoMul)]) := (SpecOk.cons okCoTwo (SpecOk.cons okCoMul SpecOk.nil))
  refine ctr_of (fn := Try.f28) mixed tab_ok hsp Try.func28 (by kernel_rfl) (by kernel_rfl) fun args ce h => ?_
  clear hsp
  unfold cSComposeF at h
  split at h
  case h_2 => cases h
  rename_i a b c x y z
  simp only [Option.some.injEq] at h
  subst h
  refine ⟨by rfl, fun hp => ⟨0, 1000, ?_⟩⟩
  simp only [vc, out, step, stepE, stepPick, stepG, stepO, stepC, eff, look, rem, St.put, St.setMem, setMems, St.after, St.eval, cst, setAt, val1, okNew, newHs, allHs, rdOf, outHs, Reg.item, Reg.next, Reg.skip, slotOf, effBox, effAlloc, entryRow, fieldOff, effField, loadI, load1, loadR, effLoad, storeI, storeB, storeR, szOk, storeTo, effStore, buildOf, effBuild, binInt, eqI, boolOf, binBool, effBin, effUn, effPick, effExtract, ivs, svs, rowOf, allParts, effBuildSlice, zeroRow, effMakeSlice, elemSz, idxA, idxS, effIndex, lenOf, readOf, subPre, maxRow, plainTI, appTo, effAppend, slcOf, effSlice, argOf, resA, resL, resV, outWr, nodupB, restOk, argsPre, argOk, callWr, effCall, effMax, wrHs, disj, AV.hs, A0.hs, Entry.hs, RC.elem, RC.sz, RC.len, RC.slice, RC.app, hA, initFr, initMem, initSt, resOf, resAll, compEq, compsEq, rowHs, outHds, outsEq, shapeOk, finOk, comps, A0.norm, AV.norm, specOf, t_int, t_bool, t_implForm, t_lawsForm, t_implMatrix, t_implPoint, t_implTriple, t_lawsTriple, t_implSpot, t_implCube, t_implunited, t_implCharacter, t_implentries, t_implbilinear, t_a8int, t_a3int, t_a4int, ts_int, ts_implForm, ts_implSpot, ts_implPoint, ts_implMatrix, ts_implCharacter, Option.getD_some, Option.getD_none, cond_true, cond_false, Nat.reduceBEq, List.map_cons, List.map_nil, List.set_cons_zero, List.set_cons_succ, List.getElem?_cons_zero, List.getElem?_cons_succ, List.drop_zero, List.drop_succ_cons, List.take_succ_cons, List.take_zero, Option.map_some, Option.map_none, Option.bind_some, Nat.zero_add, Nat.add_zero, Nat.reduceAdd, Nat.reduceMul, true_and, and_true, List.replicate_succ, List.replicate_zero, List.length_cons, List.length_nil, List.all_cons, List.all_nil, List.any_cons, List.any_nil, Bool.and_true, Bool.true_and, Bool.and_false, Bool.false_and, Bool.or_true, Bool.true_or, Bool.or_false, Bool.false_or, Bool.not_true, Bool.not_false, List.append_nil, List.nil_append, List.cons_append, List.flatMap_cons, List.flatMap_nil, List.contains_cons, List.contains_nil, List.filter_cons, List.filter_nil, beq_self_eq_true, Bool.not_eq_true, A0.b.injEq, A0.i.injEq, A0.s.injEq, A0.rw.injEq, A0.fn.injEq, List.cons.injEq, RC.ints.injEq, RC.recs.injEq, RC.bools.injEq, AV.one.injEq, AV.tup.injEq, ble_dec, blt_dec, Nat.reduceLeDiff, Nat.reduceSub, decide_true, decide_false, and_self, List.toList_toArray, Option.isSome_some, Option.isSome_none, List.elem_nil, List.elem_cons, ite_true, ite_false, Bool.false_eq_true, if_true, if_false, reduceIte, flatB_2, flatB_3, flatB_4, List.headD_cons, List.tail_cons, cCoTwo, fCoTwo, cCoMul, fCoMul, Try.f28]
  cases h : pairB a b c x y z with
  | false => exact ⟨by kernel_rfl, ⟨rfl, rfl, rfl⟩, rfl⟩
  | true => exact ⟨pair_cu h, by kernel_rfl, ⟨rfl, rfl, rfl⟩, rfl⟩
abbrev fLawCompose : Nat := 6
def cLawCompose : Ctr
  | [.s [a, b, c], .s [x, y, z]] => some ⟨True, .one (.b true), []⟩
  | _ => none
theorem okLawCompose : CtrOk Try.prog fLawCompose cLawCompose := by
  have hsp : SpecOk Try.prog (specOf [(fToForm, cToForm), (fSComposeF, cSComposeF), (fComposeF, cComposeF), (fEqForm, cEqForm)]) := (SpecOk.cons okToForm (SpecOk.cons okSComposeF (SpecOk.cons okComposeF (SpecOk.cons okEqForm SpecOk.nil))))
  refine ctr_of (fn := Try.f6) mixed tab_ok hsp Try.func6 (by kernel_rfl) (by kernel_rfl) fun args ce h => ?_
  clear hsp
  unfold cLawCompose at h
  split at h
  case h_2 => cases h
  rename_i a b c x y z
  simp only [Option.some.injEq] at h
  subst h
  refine ⟨by rfl, fun hp => ⟨0, 1000, ?_⟩⟩
  simp only [↓cond_to_ite, ↓reduceIte, vc, out, step, stepE, stepPick, stepG, stepO, stepC, eff, look, rem, St.put, St.setMem, setMems, St.after, St.eval, cst, setAt, val1, okNew, newHs, allHs, rdOf, outHs, Reg.item, Reg.next, Reg.skip, slotOf, effBox, effAlloc, entryRow, fieldOff, effField, loadI, load1, loadR, effLoad, storeI, storeB, storeR, szOk, storeTo, effStore, buildOf, effBuild, binInt, eqI, boolOf, binBool, effBin, effUn, effPick, effExtract, ivs, svs, rowOf, allParts, effBuildSlice, zeroRow, effMakeSlice, elemSz, idxA, idxS, effIndex, lenOf, readOf, subPre, maxRow, plainTI, appTo, effAppend, slcOf, effSlice, argOf, resA, resL, resV, outWr, nodupB, restOk, argsPre, argOk, callWr, effCall, effMax, wrHs, disj, AV.hs, A0.hs, Entry.hs, RC.elem, RC.sz, RC.len, RC.slice, RC.app, hA, initFr, initMem, initSt, resOf, resAll, compEq, compsEq, rowHs, outHds, outsEq, shapeOk, finOk, comps, A0.norm, AV.norm, specOf, t_int, t_bool, t_implForm, t_lawsForm, t_implMatrix, t_implPoint, t_implTriple, t_lawsTriple, t_implSpot, t_implCube, t_implunited, t_implCharacter, t_implentries, t_implbilinear, t_a8int, t_a3int, t_a4int, ts_int, ts_implForm, ts_implSpot, ts_implPoint, ts_implMatrix, ts_implCharacter, Option.getD_some, Option.getD_none, cond_true, cond_false, Nat.reduceBEq, List.map_cons, List.map_nil, List.set_cons_zero, List.set_cons_succ, List.getElem?_cons_zero, List.getElem?_cons_succ, List.drop_zero, List.drop_succ_cons, List.take_succ_cons, List.take_zero, Option.map_some, Option.map_none, Option.bind_some, Nat.zero_add, Nat.add_zero, Nat.reduceAdd, Nat.reduceMul, true_and, and_true, List.replicate_succ, List.replicate_zero, List.length_cons, List.length_nil, List.all_cons, List.all_nil, List.any_cons, List.any_nil, Bool.and_true, Bool.true_and, Bool.and_false, Bool.false_and, Bool.or_true, Bool.true_or, Bool.or_false, Bool.false_or, Bool.not_true, Bool.not_false, List.append_nil, List.nil_append, List.cons_append, List.flatMap_cons, List.flatMap_nil, List.contains_cons, List.contains_nil, List.filter_cons, List.filter_nil, beq_self_eq_true, Bool.not_eq_true, A0.b.injEq, A0.i.injEq, A0.s.injEq, A0.rw.injEq, A0.fn.injEq, List.cons.injEq, RC.ints.injEq, RC.recs.injEq, RC.bools.injEq, AV.one.injEq, AV.tup.injEq, ble_dec, blt_dec, Nat.reduceLeDiff, Nat.reduceSub, decide_true, decide_false, and_self, List.toList_toArray, Option.isSome_some, Option.isSome_none, List.elem_nil, List.elem_cons, ite_true, ite_false, Bool.false_eq_true, if_true, if_false, reduceIte, flatB_2, flatB_3, flatB_4, List.headD_cons, List.tail_cons, cToForm, fToForm, cSComposeF, fSComposeF, cComposeF, fComposeF, cEqForm, fEqForm, Try.f6]
  exact ⟨by kernel_rfl, by kernel_rfl, ite_prop (fun g => by simp at g) fun _ => trivial⟩
def ufO (a b c x y z : Int) (n : Int) : Int := onB (pairB a b c x y z) n
abbrev fUnitedF : Nat := 26
def cUnitedF : Ctr
  | [.s [a, b, c], .s [x, y, z]] => some ⟨True, .tup [.s [onB (pairB a b c x y z) (rdA a b c), onB (pairB a b c x y z) (uB (rd a b c) (rd x y z)), onB (pairB a b c x y z) (uE (rd a b c) (rd x y z) * uC (rd a b c) (rd x y z))], .s [onB (pairB a b c x y z) (uE (rd a b c) (rd x y z)), onB (pairB a b c x y z) (uB (rd a b c) (rd x y z)), onB (pairB a b c x y z) (rdA a b c * uC (rd a b c) (rd x y z))], .b (pairB a b c x y z)], []⟩
  | _ => none
theorem okUnitedF : CtrOk Try.prog fUnitedF cUnitedF := by
  have hsp : SpecOk Try.prog (specOf [(fArePair, cArePair), (fReduced1, cReduced1), (fUnite, cUnite)]) := (SpecOk.cons okArePair (SpecOk.cons okReduced1 (SpecOk.cons okUnite SpecOk.nil)))
  refine ctr_of (fn := Try.f26) mixed tab_ok hsp Try.func26 (by kernel_rfl) (by kernel_rfl) fun args ce h => ?_
  clear hsp
  unfold cUnitedF at h
  split at h
  case h_2 => cases h
  rename_i a b c x y z
  simp only [Option.some.injEq] at h
  subst h
  refine ⟨by rfl, fun hp => ⟨0, 1000, ?_⟩⟩
  simp only [↓cond_to_ite, ↓reduceIte, vc, out, step, stepE, stepPick, stepG, stepO, stepC, eff, look, rem, St.put, St.setMem, setMems, St.after, St.eval, cst, setAt, val1, okNew, newHs, allHs, rdOf, outHs, Reg.item, Reg.next, Reg.skip, slotOf, effBox, effAlloc, entryRow, fieldOff, effField, loadI, load1, loadR, effLoad, storeI, storeB, storeR, szOk, storeTo, effStore, buildOf, effBuild, binInt, eqI, boolOf, binBool, effBin, effUn, effPick, effExtract, ivs, svs, rowOf, allParts, effBuildSlice, zeroRow, effMakeSlice, elemSz, idxA, idxS, effIndex, lenOf, readOf, subPre, maxRow, plainTI, appTo, effAppend, slcOf, effSlice, argOf, resA, resL, resV, outWr, nodupB, restOk, argsPre, argOk, callWr, effCall, effMax, wrHs, disj, AV.hs, A0.hs, Entry.hs, RC.elem, RC.sz, RC.len, RC.slice, RC.app, hA, initFr, initMem, initSt, resOf, resAll, compEq, compsEq, rowHs, outHds, outsEq, shapeOk, finOk, comps, A0.norm, AV.norm, specOf, t_int, t_bool, t_implForm, t_lawsForm, t_implMatrix, t_implPoint, t_implTriple, t_lawsTriple, t_implSpot, t_implCube, t_implunited, t_implCharacter, t_implentries, t_implbilinear, t_a8int, t_a3int, t_a4int, ts_int, ts_implForm, ts_implSpot, ts_implPoint, ts_implMatrix, ts_implCharacter, Option.getD_some, Option.getD_none, cond_true, cond_false, Nat.reduceBEq, List.map_cons, List.map_nil, List.set_cons_zero, List.set_cons_succ, List.getElem?_cons_zero, List.getElem?_cons_succ, List.drop_zero, List.drop_succ_cons, List.take_succ_cons, List.take_zero, Option.map_some, Option.map_none, Option.bind_some, Nat.zero_add, Nat.add_zero, Nat.reduceAdd, Nat.reduceMul, true_and, and_true, List.replicate_succ, List.replicate_zero, List.length_cons, List.length_nil, List.all_cons, List.all_nil, List.any_cons, List.any_nil, Bool.and_true, Bool.true_and, Bool.and_false, Bool.false_and, Bool.or_true, Bool.true_or, Bool.or_false, Bool.false_or, Bool.not_true, Bool.not_false, List.append_nil, List.nil_append, List.cons_append, List.flatMap_cons, List.flatMap_nil, List.contains_cons, List.contains_nil, List.filter_cons, List.filter_nil, beq_self_eq_true, Bool.not_eq_true, A0.b.injEq, A0.i.injEq, A0.s.injEq, A0.rw.injEq, A0.fn.injEq, List.cons.injEq, RC.ints.injEq, RC.recs.injEq, RC.bools.injEq, AV.one.injEq, AV.tup.injEq, ble_dec, blt_dec, Nat.reduceLeDiff, Nat.reduceSub, decide_true, decide_false, and_self, List.toList_toArray, Option.isSome_some, Option.isSome_none, List.elem_nil, List.elem_cons, ite_true, ite_false, Bool.false_eq_true, if_true, if_false, reduceIte, flatB_2, flatB_3, flatB_4, List.headD_cons, List.tail_cons, cArePair, fArePair, cReduced1, fReduced1, cUnite, fUnite, Try.f26]
  cases h : pairB a b c x y z with
  | false => exact ite_prop (fun _ => ⟨by decide, ⟨rfl, rfl, rfl⟩, ⟨rfl, rfl, rfl⟩, rfl⟩) fun g => absurd rfl g
  | true =>
    obtain ⟨hd1, hd2, D, hf, hg⟩ := pair_cu h
    have n := un_nums hf hg
    exact ite_prop (fun g => absurd g (by decide)) fun _ => ⟨hd1, hd2, ⟨D, hf, hg⟩, by kernel_rfl, by kernel_rfl, by decide, ⟨rfl, rfl, n.ec⟩, ⟨rfl, rfl, n.ac⟩, rfl⟩
abbrev fSUnitedF : Nat := 25
def cSUnitedF : Ctr
  | [.s [a, b, c], .s [x, y, z]] => some ⟨True, .tup [.s [onB (pairB a b c x y z) (rdA a b c), onB (pairB a b c x y z) (uB (rd a b c) (rd x y z)), onB (pairB a b c x y z) (uE (rd a b c) (rd x y z) * uC (rd a b c) (rd x y z))], .s [onB (pairB a b c x y z) (uE (rd a b c) (rd x y z)), onB (pairB a b c x y z) (uB (rd a b c) (rd x y z)), onB (pairB a b c x y z) (rdA a b c * uC (rd a b c) (rd x y z))], .b (pairB a b c x y z)], []⟩
  | _ => none
theorem okSUnitedF : CtrOk Try.prog fSUnitedF cSUnitedF := by
  have hsp : SpecOk Try.prog (specOf [(fCoTwo, cCoTwo), (fCoUnite, cCoUnite)]) := (SpecOk.cons okCoTwo (SpecOk.cons okCoUnite SpecOk.nil))
  refine ctr_of (fn := Try.f25) mixed tab_ok hsp Try.func25 (by kernel_rfl) (by kernel_rfl) fun args ce h => ?_
  clear hsp
  unfold cSUnitedF at h
  split at h
  case h_2 => cases h
  rename_i a b c x y z
  simp only [Option.some.injEq] at h
  subst h
  refine ⟨by rfl, fun hp => ⟨0, 1000, ?_⟩⟩
  simp only [↓cond_to_ite, ↓reduceIte, vc, out, step, stepE, stepPick, stepG, stepO, stepC, eff, look, rem, St.put, St.setMem, setMems, St.after, St.eval, cst, setAt, val1, okNew, newHs, allHs, rdOf, outHs, Reg.item, Reg.next, Reg.skip, slotOf, effBox, effAlloc, entryRow, fieldOff, effField, loadI, load1, loadR, effLoad, storeI, storeB, storeR, szOk, storeTo, effStore, buildOf, effBuild, binInt, eqI, boolOf, binBool, effBin, effUn, effPick, effExtract, ivs, svs, rowOf, allParts, effBuildSlice, zeroRow, effMakeSlice, elemSz, idxA, idxS, effIndex, lenOf, readOf, subPre, maxRow, plainTI, appTo, effAppend, slcOf, effSlice, argOf, resA, resL, resV, outWr, nodupB, restOk, argsPre, argOk, callWr, effCall, effMax, wrHs, disj, AV.hs, A0.hs, Entry.hs, RC.elem, RC.sz, RC.len, RC.slice, RC.app, hA, initFr, initMem, initSt, resOf, resAll, compEq, compsEq, rowHs, outHds, outsEq, shapeOk, finOk, comps, A0.norm, AV.norm, specOf, t_int, t_bool, t_implForm, t_lawsForm, t_implMatrix, t_implPoint, t_implTriple, t_lawsTriple, t_implSpot, t_implCube, t_implunited, t_implCharacter, t_implentries, t_implbilinear, t_a8int, t_a3int, t_a4int, ts_int, ts_implForm, ts_implSpot, ts_implPoint, ts_implMatrix, ts_implCharacter, Option.getD_some, Option.getD_none, cond_true, cond_false, Nat.reduceBEq, List.map_cons, List.map_nil, List.set_cons_zero, List.set_cons_succ, List.getElem?_cons_zero, List.getElem?_cons_succ, List.drop_zero, List.drop_succ_cons, List.take_succ_cons, List.take_zero, Option.map_some, Option.map_none, Option.bind_some, Nat.zero_add, Nat.add_zero, Nat.reduceAdd, Nat.reduceMul, true_and, and_true, List.replicate_succ, List.replicate_zero, List.length_cons, List.length_nil, List.all_cons, List.all_nil, List.any_cons, List.any_nil, Bool.and_true, Bool.true_and, Bool.and_false, Bool.false_and, Bool.or_true, Bool.true_or, Bool.or_false, Bool.false_or, Bool.not_true, Bool.not_false, List.append_nil, List.nil_append, List.cons_append, List.flatMap_cons, List.flatMap_nil, List.contains_cons, List.contains_nil, List.filter_cons, List.filter_nil, beq_self_eq_true, Bool.not_eq_true, A0.b.injEq, A0.i.injEq, A0.s.injEq, A0.rw.injEq, A0.fn.injEq, List.cons.injEq, RC.ints.injEq, RC.recs.injEq, RC.bools.injEq, AV.one.injEq, AV.tup.injEq, ble_dec, blt_dec, Nat.reduceLeDiff, Nat.reduceSub, decide_true, decide_false, and_self, List.toList_toArray, Option.isSome_some, Option.isSome_none, List.elem_nil, List.elem_cons, ite_true, ite_false, Bool.false_eq_true, if_true, if_false, reduceIte, flatB_2, flatB_3, flatB_4, List.headD_cons, List.tail_cons, cCoTwo, fCoTwo, cCoUnite, fCoUnite, Try.f25]
  cases h : pairB a b c x y z with
  | false => exact ite_prop (fun _ => ⟨by decide, ⟨rfl, rfl, rfl⟩, ⟨rfl, rfl, rfl⟩, rfl⟩) fun g => absurd rfl g
  | true => exact ite_prop (fun g => absurd g (by decide)) fun _ => ⟨pair_cu h, by kernel_rfl, by decide, ⟨rfl, rfl, rfl⟩, ⟨rfl, rfl, rfl⟩, rfl⟩
abbrev fLawUnited : Nat := 5
def cLawUnited : Ctr
  | [.s [a, b, c], .s [x, y, z]] => some ⟨True, .one (.b true), []⟩
  | _ => none
theorem okLawUnited : CtrOk Try.prog fLawUnited cLawUnited := by
  have hsp : SpecOk Try.prog (specOf [(fToForm, cToForm), (fSUnitedF, cSUnitedF), (fUnitedF, cUnitedF), (fEqForm, cEqForm)]) := (SpecOk.cons okToForm (SpecOk.cons okSUnitedF (SpecOk.cons okUnitedF (SpecOk.cons okEqForm SpecOk.nil))))
  refine ctr_of (fn := Try.f5) mixed tab_ok hsp Try.func5 (by kernel_rfl) (by kernel_rfl) fun args ce h => ?_
  clear hsp
  unfold cLawUnited at h
  split at h
  case h_2 => cases h
  rename_i a b c x y z
  simp only [Option.some.injEq] at h
  subst h
  refine ⟨by rfl, fun hp => ⟨0, 1000, ?_⟩⟩
  simp only [↓cond_to_ite, ↓reduceIte, vc, out, step, stepE, stepPick, stepG, stepO, stepC, eff, look, rem, St.put, St.setMem, setMems, St.after, St.eval, cst, setAt, val1, okNew, newHs, allHs, rdOf, outHs, Reg.item, Reg.next, Reg.skip, slotOf, effBox, effAlloc, entryRow, fieldOff, effField, loadI, load1, loadR, effLoad, storeI, storeB, storeR, szOk, storeTo, effStore, buildOf, effBuild, binInt, eqI, boolOf, binBool, effBin, effUn, effPick, effExtract, ivs, svs, rowOf, allParts, effBuildSlice, zeroRow, effMakeSlice, elemSz, idxA, idxS, effIndex, lenOf, readOf, subPre, maxRow, plainTI, appTo, effAppend, slcOf, effSlice, argOf, resA, resL, resV, outWr, nodupB, restOk, argsPre, argOk, callWr, effCall, effMax, wrHs, disj, AV.hs, A0.hs, Entry.hs, RC.elem, RC.sz, RC.len, RC.slice, RC.app, hA, initFr, initMem, initSt, resOf, resAll, compEq, compsEq, rowHs, outHds, outsEq, shapeOk, finOk, comps, A0.norm, AV.norm, specOf, t_int, t_bool, t_implForm, t_lawsForm, t_implMatrix, t_implPoint, t_implTriple, t_lawsTriple, t_implSpot, t_implCube, t_implunited, t_implCharacter, t_implentries, t_implbilinear, t_a8int, t_a3int, t_a4int, ts_int, ts_implForm, ts_implSpot, ts_implPoint, ts_implMatrix, ts_implCharacter, Option.getD_some, Option.getD_none, cond_true, cond_false, Nat.reduceBEq, List.map_cons, List.map_nil, List.set_cons_zero, List.set_cons_succ, List.getElem?_cons_zero, List.getElem?_cons_succ, List.drop_zero, List.drop_succ_cons, List.take_succ_cons, List.take_zero, Option.map_some, Option.map_none, Option.bind_some, Nat.zero_add, Nat.add_zero, Nat.reduceAdd, Nat.reduceMul, true_and, and_true, List.replicate_succ, List.replicate_zero, List.length_cons, List.length_nil, List.all_cons, List.all_nil, List.any_cons, List.any_nil, Bool.and_true, Bool.true_and, Bool.and_false, Bool.false_and, Bool.or_true, Bool.true_or, Bool.or_false, Bool.false_or, Bool.not_true, Bool.not_false, List.append_nil, List.nil_append, List.cons_append, List.flatMap_cons, List.flatMap_nil, List.contains_cons, List.contains_nil, List.filter_cons, List.filter_nil, beq_self_eq_true, Bool.not_eq_true, A0.b.injEq, A0.i.injEq, A0.s.injEq, A0.rw.injEq, A0.fn.injEq, List.cons.injEq, RC.ints.injEq, RC.recs.injEq, RC.bools.injEq, AV.one.injEq, AV.tup.injEq, ble_dec, blt_dec, Nat.reduceLeDiff, Nat.reduceSub, decide_true, decide_false, and_self, List.toList_toArray, Option.isSome_some, Option.isSome_none, List.elem_nil, List.elem_cons, ite_true, ite_false, Bool.false_eq_true, if_true, if_false, reduceIte, flatB_2, flatB_3, flatB_4, List.headD_cons, List.tail_cons, cToForm, fToForm, cSUnitedF, fSUnitedF, cUnitedF, fUnitedF, cEqForm, fEqForm, Try.f5]
  exact ⟨by kernel_rfl, by kernel_rfl, ite_prop (fun g => by simp at g) fun _ => trivial⟩
/-! ### quotients -/
theorem rd_red {D : Int} {a b c : Int} (h : RP D (a, b, c)) : rd a b c = (a, b, c) := by
  have h1 : rd a b c = rdx (a, b, c) := rd3_eq h.dom
  rw [h1]
  exact rdx_of_red (red_of h.red (by have := h.a25; omega))
theorem rd_rdx {a b c : Int} (h : domB a b c = true) : rd a b c = rdx (a, b, c) := rd3_eq h
/-- the composite in plain terms -/
theorem cx_cmp {a b c x y z : Int} (h : CuPre a b c x y z) : (cxA a b c x y z, cxB a b c x y z, cxC a b c x y z) = cmp (rd a b c) (rd x y z) := by
  obtain ⟨hd1, hd2, D, hf, hg⟩ := h
  exact rd3_eq (cx_dom hf hg)
/-- a class form's opposite -/
theorem pair_opp {a b c x y z : Int} (h : pairB a b c x y z = true) : CuPre a b c x (wrap64 (0 - y)) z ∧ CuPre a b c (rdA x (wrap64 (0 - y)) z) (rdB x (wrap64 (0 - y)) z) (rdC x (wrap64 (0 - y)) z) ∧ domB x (wrap64 (0 - y)) z = true := by
  simp only [pairB, Bool.and_eq_true, beq_iff_eq] at h
  obtain ⟨h1, h2, h3⟩ := h
  obtain ⟨r1, d1⟩ := class_rp h1
  obtain ⟨r2, d2⟩ := class_rp h2
  rw [(class_disc h1).1, (class_disc h2).1] at h3
  have hod := class_opp h2
  have hw : wrap64 (0 - y) = -y := (class_dom h2).neg
  have hp : Prim (x, y, z) := r2.prim.eqv ((eqv_rdx (x, y, z)).symm |> fun e => by rw [← rd3_eq d2] at e; exact e)
  have ho : Prim (x, wrap64 (0 - y), z) := by rw [hw]; exact hp.opp
  have hdo : dsc (x, wrap64 (0 - y), z) = dsc (a, b, c) := by rw [hw, h3]; exact dsc_opp (x, y, z)
  have hr := rdx_red (x := (x, wrap64 (0 - y), z)) hod
  have hp2 := ho.eqv (eqv_rdx _)
  have e : rdx (x, wrap64 (0 - y), z) = rd x (wrap64 (0 - y)) z := (rd3_eq hod).symm
  rw [hdo, e] at hr
  rw [e] at hp2
  have hR : RP (dsc (a, b, c)) (rd x (wrap64 (0 - y)) z) := ⟨hr, hp2, r1.lo, r1.hi⟩
  refine ⟨⟨d1, hod, _, r1, hR⟩, ⟨d1, hR.dom, _, r1, ?_⟩, hod⟩
  have := rd_red hR
  unfold rd at this
  rw [this]
  exact hR
theorem cx_div {a b c x y z : Int} (h : pairB a b c x y z = true) : cxA a b c (rdA x (wrap64 (0 - y)) z) (rdB x (wrap64 (0 - y)) z) (rdC x (wrap64 (0 - y)) z) = cxA a b c x (wrap64 (0 - y)) z ∧ cxB a b c (rdA x (wrap64 (0 - y)) z) (rdB x (wrap64 (0 - y)) z) (rdC x (wrap64 (0 - y)) z) = cxB a b c x (wrap64 (0 - y)) z ∧ cxC a b c (rdA x (wrap64 (0 - y)) z) (rdB x (wrap64 (0 - y)) z) (rdC x (wrap64 (0 - y)) z) = cxC a b c x (wrap64 (0 - y)) z := by
  obtain ⟨h1, h2, _⟩ := pair_opp h
  have e1 := cx_cmp h1
  have e2 := cx_cmp h2
  obtain ⟨_, _, D, _, hR⟩ := h1
  have e3 := rd_red hR
  rw [e3] at e2
  have e4 : rd x (wrap64 (0 - y)) z = (rdA x (wrap64 (0 - y)) z, rdB x (wrap64 (0 - y)) z, rdC x (wrap64 (0 - y)) z) := rfl
  rw [e4] at e1
  rw [← e1] at e2
  simp only [Prod.mk.injEq] at e2
  exact e2
abbrev fDivideF : Nat := 31
def cDivideF : Ctr
  | [.s [a, b, c], .s [x, y, z]] => some ⟨True, .tup [.s [onB (pairB a b c x y z) (cxA a b c x (wrap64 (0 - y)) z), onB (pairB a b c x y z) (cxB a b c x (wrap64 (0 - y)) z), onB (pairB a b c x y z) (cxC a b c x (wrap64 (0 - y)) z)], .b (pairB a b c x y z)], []⟩
  | _ => none
theorem okDivideF : CtrOk Try.prog fDivideF cDivideF := by
  have hsp : SpecOk Try.prog (specOf [(fArePair, cArePair), (fOpposite, cOpposite), (fCompose, cCompose)]) := (SpecOk.cons okArePair (SpecOk.cons okOpposite (SpecOk.cons okCompose SpecOk.nil)))
  refine ctr_of (fn := Try.f31) mixed tab_ok hsp Try.func31 (by kernel_rfl) (by kernel_rfl) fun args ce h => ?_
  clear hsp
  unfold cDivideF at h
  split at h
  case h_2 => cases h
  rename_i a b c x y z
  simp only [Option.some.injEq] at h
  subst h
  refine ⟨by rfl, fun hp => ⟨0, 1000, ?_⟩⟩
  simp only [↓cond_to_ite, ↓reduceIte, vc, out, step, stepE, stepPick, stepG, stepO, stepC, eff, look, rem, St.put, St.setMem, setMems, St.after, St.eval, cst, setAt, val1, okNew, newHs, allHs, rdOf, outHs, Reg.item, Reg.next, Reg.skip, slotOf, effBox, effAlloc, entryRow, fieldOff, effField, loadI, load1, loadR, effLoad, storeI, storeB, storeR, szOk, storeTo, effStore, buildOf, effBuild, binInt, eqI, boolOf, binBool, effBin, effUn, effPick, effExtract, ivs, svs, rowOf, allParts, effBuildSlice, zeroRow, effMakeSlice, elemSz, idxA, idxS, effIndex, lenOf, readOf, subPre, maxRow, plainTI, appTo, effAppend, slcOf, effSlice, argOf, resA, resL, resV, outWr, nodupB, restOk, argsPre, argOk, callWr, effCall, effMax, wrHs, disj, AV.hs, A0.hs, Entry.hs, RC.elem, RC.sz, RC.len, RC.slice, RC.app, hA, initFr, initMem, initSt, resOf, resAll, compEq, compsEq, rowHs, outHds, outsEq, shapeOk, finOk, comps, A0.norm, AV.norm, specOf, t_int, t_bool, t_implForm, t_lawsForm, t_implMatrix, t_implPoint, t_implTriple, t_lawsTriple, t_implSpot, t_implCube, t_implunited, t_implCharacter, t_implentries, t_implbilinear, t_a8int, t_a3int, t_a4int, ts_int, ts_implForm, ts_implSpot, ts_implPoint, ts_implMatrix, ts_implCharacter, Option.getD_some, Option.getD_none, cond_true, cond_false, Nat.reduceBEq, List.map_cons, List.map_nil, List.set_cons_zero, List.set_cons_succ, List.getElem?_cons_zero, List.getElem?_cons_succ, List.drop_zero, List.drop_succ_cons, List.take_succ_cons, List.take_zero, Option.map_some, Option.map_none, Option.bind_some, Nat.zero_add, Nat.add_zero, Nat.reduceAdd, Nat.reduceMul, true_and, and_true, List.replicate_succ, List.replicate_zero, List.length_cons, List.length_nil, List.all_cons, List.all_nil, List.any_cons, List.any_nil, Bool.and_true, Bool.true_and, Bool.and_false, Bool.false_and, Bool.or_true, Bool.true_or, Bool.or_false, Bool.false_or, Bool.not_true, Bool.not_false, List.append_nil, List.nil_append, List.cons_append, List.flatMap_cons, List.flatMap_nil, List.contains_cons, List.contains_nil, List.filter_cons, List.filter_nil, beq_self_eq_true, Bool.not_eq_true, A0.b.injEq, A0.i.injEq, A0.s.injEq, A0.rw.injEq, A0.fn.injEq, List.cons.injEq, RC.ints.injEq, RC.recs.injEq, RC.bools.injEq, AV.one.injEq, AV.tup.injEq, ble_dec, blt_dec, Nat.reduceLeDiff, Nat.reduceSub, decide_true, decide_false, and_self, List.toList_toArray, Option.isSome_some, Option.isSome_none, List.elem_nil, List.elem_cons, ite_true, ite_false, Bool.false_eq_true, if_true, if_false, reduceIte, flatB_2, flatB_3, flatB_4, List.headD_cons, List.tail_cons, cArePair, fArePair, cOpposite, fOpposite, cCompose, fCompose, Try.f31]
  cases h : pairB a b c x y z with
  | false => exact ite_prop (fun _ => ⟨by decide, ⟨rfl, rfl, rfl⟩, rfl⟩) fun g => absurd rfl g
  | true =>
    refine ite_prop (fun g => absurd g (by decide)) fun _ => ?_
    have hc := (pair_opp h).1
    first
      | exact ⟨hc, by kernel_rfl, by decide, ⟨rfl, rfl, rfl⟩, rfl⟩
      | exact ⟨hc, by decide, ⟨rfl, rfl, rfl⟩, rfl⟩
abbrev fSDivideF : Nat := 30
def cSDivideF : Ctr
  | [.s [a, b, c], .s [x, y, z]] => some ⟨True, .tup [.s [onB (pairB a b c x y z) (cxA a b c x (wrap64 (0 - y)) z), onB (pairB a b c x y z) (cxB a b c x (wrap64 (0 - y)) z), onB (pairB a b c x y z) (cxC a b c x (wrap64 (0 - y)) z)], .b (pairB a b c x y z)], []⟩
  | _ => none
theorem okSDivideF : CtrOk Try.prog fSDivideF cSDivideF := by
  have hsp : SpecOk Try.prog (specOf [(fCoTwo, cCoTwo), (fCoInverse, cCoInverse), (fCoMul, cCoMul)]) := (SpecOk.cons okCoTwo (SpecOk.cons okCoInverse (SpecOk.cons okCoMul SpecOk.nil)))
  refine ctr_of (fn := Try.f30) mixed tab_ok hsp Try.func30 (by kernel_rfl) (by kernel_rfl) fun args ce h => ?_
  clear hsp
  unfold cSDivideF at h
  split at h
  case h_2 => cases h
  rename_i a b c x y z
  simp only [Option.some.injEq] at h
  subst h
  refine ⟨by rfl, fun hp => ⟨0, 1000, ?_⟩⟩
  simp only [↓cond_to_ite, ↓reduceIte, vc, out, step, stepE, stepPick, stepG, stepO, stepC, eff, look, rem, St.put, St.setMem, setMems, St.after, St.eval, cst, setAt, val1, okNew, newHs, allHs, rdOf, outHs, Reg.item, Reg.next, Reg.skip, slotOf, effBox, effAlloc, entryRow, fieldOff, effField, loadI, load1, loadR, effLoad, storeI, storeB, storeR, szOk, storeTo, effStore, buildOf, effBuild, binInt, eqI, boolOf, binBool, effBin, effUn, effPick, effExtract, ivs, svs, rowOf, allParts, effBuildSlice, zeroRow, effMakeSlice, elemSz, idxA, idxS, effIndex, lenOf, readOf, subPre, maxRow, plainTI, appTo, effAppend, slcOf, effSlice, argOf, resA, resL, resV, outWr, nodupB, restOk, argsPre, argOk, callWr, effCall, effMax, wrHs, disj, AV.hs, A0.hs, Entry.hs, RC.elem, RC.sz, RC.len, RC.slice, RC.app, hA, initFr, initMem, initSt, resOf, resAll, compEq, compsEq, rowHs, outHds, outsEq, shapeOk, finOk, comps, A0.norm, AV.norm, specOf, t_int, t_bool, t_implForm, t_lawsForm, t_implMatrix, t_implPoint, t_implTriple, t_lawsTriple, t_implSpot, t_implCube, t_implunited, t_implCharacter, t_implentries, t_implbilinear, t_a8int, t_a3int, t_a4int, ts_int, ts_implForm, ts_implSpot, ts_implPoint, ts_implMatrix, ts_implCharacter, Option.getD_some, Option.getD_none, cond_true, cond_false, Nat.reduceBEq, List.map_cons, List.map_nil, List.set_cons_zero, List.set_cons_succ, List.getElem?_cons_zero, List.getElem?_cons_succ, List.drop_zero, List.drop_succ_cons, List.take_succ_cons, List.take_zero, Option.map_some, Option.map_none, Option.bind_some, Nat.zero_add, Nat.add_zero, Nat.reduceAdd, Nat.reduceMul, true_and, and_true, List.replicate_succ, List.replicate_zero, List.length_cons, List.length_nil, List.all_cons, List.all_nil, List.any_cons, List.any_nil, Bool.and_true, Bool.true_and, Bool.and_false, Bool.false_and, Bool.or_true, Bool.true_or, Bool.or_false, Bool.false_or, Bool.not_true, Bool.not_false, List.append_nil, List.nil_append, List.cons_append, List.flatMap_cons, List.flatMap_nil, List.contains_cons, List.contains_nil, List.filter_cons, List.filter_nil, beq_self_eq_true, Bool.not_eq_true, A0.b.injEq, A0.i.injEq, A0.s.injEq, A0.rw.injEq, A0.fn.injEq, List.cons.injEq, RC.ints.injEq, RC.recs.injEq, RC.bools.injEq, AV.one.injEq, AV.tup.injEq, ble_dec, blt_dec, Nat.reduceLeDiff, Nat.reduceSub, decide_true, decide_false, and_self, List.toList_toArray, Option.isSome_some, Option.isSome_none, List.elem_nil, List.elem_cons, ite_true, ite_false, Bool.false_eq_true, if_true, if_false, reduceIte, flatB_2, flatB_3, flatB_4, List.headD_cons, List.tail_cons, cCoTwo, fCoTwo, cCoInverse, fCoInverse, cCoMul, fCoMul, Try.f30]
  cases h : pairB a b c x y z with
  | false => exact ite_prop (fun _ => ⟨by decide, ⟨rfl, rfl, rfl⟩, rfl⟩) fun g => absurd rfl g
  | true =>
    refine ite_prop (fun g => absurd g (by decide)) fun _ => ?_
    obtain ⟨_, hc, hd⟩ := pair_opp h
    first
      | exact ⟨hd, hc, by kernel_rfl, by decide, cx_div h, rfl⟩
      | exact ⟨hd, hc, by decide, cx_div h, rfl⟩
abbrev fLawDivide : Nat := 7
def cLawDivide : Ctr
  | [.s [a, b, c], .s [x, y, z]] => some ⟨True, .one (.b true), []⟩
  | _ => none
theorem okLawDivide : CtrOk Try.prog fLawDivide cLawDivide := by
  have hsp : SpecOk Try.prog (specOf [(fToForm, cToForm), (fSDivideF, cSDivideF), (fDivideF, cDivideF), (fEqForm, cEqForm)]) := (SpecOk.cons okToForm (SpecOk.cons okSDivideF (SpecOk.cons okDivideF (SpecOk.cons okEqForm SpecOk.nil))))
  refine ctr_of (fn := Try.f7) mixed tab_ok hsp Try.func7 (by kernel_rfl) (by kernel_rfl) fun args ce h => ?_
  clear hsp
  unfold cLawDivide at h
  split at h
  case h_2 => cases h
  rename_i a b c x y z
  simp only [Option.some.injEq] at h
  subst h
  refine ⟨by rfl, fun hp => ⟨0, 1000, ?_⟩⟩
  simp only [↓cond_to_ite, ↓reduceIte, vc, out, step, stepE, stepPick, stepG, stepO, stepC, eff, look, rem, St.put, St.setMem, setMems, St.after, St.eval, cst, setAt, val1, okNew, newHs, allHs, rdOf, outHs, Reg.item, Reg.next, Reg.skip, slotOf, effBox, effAlloc, entryRow, fieldOff, effField, loadI, load1, loadR, effLoad, storeI, storeB, storeR, szOk, storeTo, effStore, buildOf, effBuild, binInt, eqI, boolOf, binBool, effBin, effUn, effPick, effExtract, ivs, svs, rowOf, allParts, effBuildSlice, zeroRow, effMakeSlice, elemSz, idxA, idxS, effIndex, lenOf, readOf, subPre, maxRow, plainTI, appTo, effAppend, slcOf, effSlice, argOf, resA, resL, resV, outWr, nodupB, restOk, argsPre, argOk, callWr, effCall, effMax, wrHs, disj, AV.hs, A0.hs, Entry.hs, RC.elem, RC.sz, RC.len, RC.slice, RC.app, hA, initFr, initMem, initSt, resOf, resAll, compEq, compsEq, rowHs, outHds, outsEq, shapeOk, finOk, comps, A0.norm, AV.norm, specOf, t_int, t_bool, t_implForm, t_lawsForm, t_implMatrix, t_implPoint, t_implTriple, t_lawsTriple, t_implSpot, t_implCube, t_implunited, t_implCharacter, t_implentries, t_implbilinear, t_a8int, t_a3int, t_a4int, ts_int, ts_implForm, ts_implSpot, ts_implPoint, ts_implMatrix, ts_implCharacter, Option.getD_some, Option.getD_none, cond_true, cond_false, Nat.reduceBEq, List.map_cons, List.map_nil, List.set_cons_zero, List.set_cons_succ, List.getElem?_cons_zero, List.getElem?_cons_succ, List.drop_zero, List.drop_succ_cons, List.take_succ_cons, List.take_zero, Option.map_some, Option.map_none, Option.bind_some, Nat.zero_add, Nat.add_zero, Nat.reduceAdd, Nat.reduceMul, true_and, and_true, List.replicate_succ, List.replicate_zero, List.length_cons, List.length_nil, List.all_cons, List.all_nil, List.any_cons, List.any_nil, Bool.and_true, Bool.true_and, Bool.and_false, Bool.false_and, Bool.or_true, Bool.true_or, Bool.or_false, Bool.false_or, Bool.not_true, Bool.not_false, List.append_nil, List.nil_append, List.cons_append, List.flatMap_cons, List.flatMap_nil, List.contains_cons, List.contains_nil, List.filter_cons, List.filter_nil, beq_self_eq_true, Bool.not_eq_true, A0.b.injEq, A0.i.injEq, A0.s.injEq, A0.rw.injEq, A0.fn.injEq, List.cons.injEq, RC.ints.injEq, RC.recs.injEq, RC.bools.injEq, AV.one.injEq, AV.tup.injEq, ble_dec, blt_dec, Nat.reduceLeDiff, Nat.reduceSub, decide_true, decide_false, and_self, List.toList_toArray, Option.isSome_some, Option.isSome_none, List.elem_nil, List.elem_cons, ite_true, ite_false, Bool.false_eq_true, if_true, if_false, reduceIte, flatB_2, flatB_3, flatB_4, List.headD_cons, List.tail_cons, cToForm, fToForm, cSDivideF, fSDivideF, cDivideF, fDivideF, cEqForm, fEqForm, Try.f7]
  exact ⟨by kernel_rfl, by kernel_rfl, ite_prop (fun g => by simp at g) fun _ => trivial⟩
end Go.Proofs.Ythcbcdjfbiagpaa
