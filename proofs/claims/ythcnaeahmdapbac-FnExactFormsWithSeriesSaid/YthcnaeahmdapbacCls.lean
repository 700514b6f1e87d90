/-
  Class forms on both sides; the greatest common divisor on both sides. Conditions: none.
-/
import Derived.Test.YthcnaeahmdapbacRed
namespace Go.Proofs.Ythcnaeahmdapbac
open Go Go.RowKit
set_option maxRecDepth 100000
set_option linter.unusedSimpArgs false
set_option linter.unusedVariables false
set_option maxHeartbeats 4000000

abbrev fReduced1 : Nat := 34
def cReduced1 : Ctr
  | [.s [a, b, c]] => some ⟨domB a b c = true, .one (.s [rdA a b c, rdB a b c, rdC a b c]), []⟩
  | _ => none
theorem okReduced1 : CtrOk Try.prog fReduced1 cReduced1 := by
  have hsp : SpecOk Try.prog (specOf [(fReduce, cReduce)]) := (SpecOk.cons okReduce SpecOk.nil)
  refine ctr_of (fn := Try.f34) mixed tab_ok hsp Try.func34 (by kernel_rfl) (by kernel_rfl) fun args ce h => ?_
  clear hsp
  unfold cReduced1 at h
  split at h
  case h_2 => cases h
  rename_i a b c
  simp only [Option.some.injEq] at h
  subst h
  refine ⟨by rfl, fun hp => ⟨0, 1000, ?_⟩⟩
  simp only [vc, out, effCopy, finD, St.drop, vwAt, Entry.vwO, RC.vwO, dropAt, A0.dr, AV.dr, noneNames, viewS, viewV, viewTo, A0.vwT, AV.vwT, viewOk, viewEn, appView, hdSlc, A0.mv1, AV.mv1, Entry.toO, toOf, A0.mv, AV.mv, mvTo, St.res, nxtH, makeRows, effMakeSl, storeRow, step, stepE, stepPick, stepG, stepO, stepC, eff, look, rem, St.put, St.setMem, setMems, St.after, St.eval, cst, setAt, val1, okNew, newHs, allHs, rdOf, outHs, Reg.item, Reg.next, Reg.skip, slotOf, effBox, effAlloc, entryRow, fieldOff, effField, loadI, load1, loadR, effLoad, storeI, storeB, storeR, szOk, storeTo, effStore, buildOf, effBuild, binInt, eqI, boolOf, binBool, effBin, effUn, effPick, effExtract, ivs, svs, rowOf, allParts, effBuildSlice, zeroRow, effMakeSlice, elemSz, idxA, idxS, effIndex, lenOf, readOf, subPre, maxRow, plainTI, appTo, effAppend, slcOf, effSlice, argOf, resA, resL, resV, outWr, nodupB, restOk, argsPre, argOk, callWr, effCall, effMax, RC.flat, effBox2, boxPair, compOf, innerOf, innerPre, fieldTwo, loadO, loadN, storeN, buildTwo, effBuild2, buildRows, effBuildSl, appRows, effApp2, plainA, callIn, outsEmpty, callGo, MC.get, MC.has, MC.put, mcTI, keyTI, emptyMC, effMakeMap, mapIn, hOf1, lookV, effLookup, mapBack, effUpdate, effNil, effMin, effIndexV, cutSlc, arrElem, cutOf, boxWord, boxRow, effBox3, allocWord, effAlloc2, loadWd, loadWord, loadSl, effLoad2, storeWd, storeWord, storeCi, storeSl, effStore2, buildWord, effBuild3, fieldWord, effField2, signOf, appWd, appWord, effAppend2, effClo, plainS, cloGo, callClo, argCl, inHs, calleeHs, resWd, wrHs, disj, AV.hs, A0.hs, Entry.hs, RC.elem, RC.sz, RC.len, RC.slice, RC.app, hA, initFr, initMem, initSt, resOf, resAll, compEq, compsEq, rowHs, outHds, outsEq, shapeOk, finOk, comps, A0.norm, AV.norm, specOf, t_int, t_bool, t_implForm, t_implMatrix, t_implPoint, ts_int, ts_implForm, ts_implPoint, Option.getD_some, Option.getD_none, cond_true, cond_false, Nat.reduceBEq, List.map_cons, List.map_nil, List.set_cons_zero, List.set_cons_succ, List.getElem?_cons_zero, List.getElem?_cons_succ, List.drop_zero, List.drop_succ_cons, List.take_succ_cons, List.take_zero, Option.map_some, Option.map_none, Option.bind_some, Nat.zero_add, Nat.add_zero, Nat.reduceAdd, Nat.reduceMul, true_and, and_true, List.replicate_succ, List.replicate_zero, List.length_cons, List.length_nil, List.all_cons, List.all_nil, List.any_cons, List.any_nil, Bool.and_true, Bool.true_and, Bool.and_false, Bool.false_and, Bool.or_true, Bool.true_or, Bool.or_false, Bool.false_or, Bool.not_true, Bool.not_false, List.append_nil, List.nil_append, List.cons_append, List.flatMap_cons, List.flatMap_nil, List.contains_cons, List.contains_nil, List.filter_cons, List.filter_nil, beq_self_eq_true, Bool.not_eq_true, A0.b.injEq, A0.i.injEq, A0.s.injEq, A0.rw.injEq, A0.fn.injEq, List.cons.injEq, RC.ints.injEq, RC.recs.injEq, RC.bools.injEq, RC.mp.injEq, RC.grp.injEq, RC.rows.injEq, RC.wd.injEq, RC.bx.injEq, RC.clo.injEq, MC.ints.injEq, MC.bools.injEq, AV.one.injEq, AV.tup.injEq, ble_dec, blt_dec, Nat.reduceLeDiff, Nat.reduceSub, decide_true, decide_false, and_self, List.toList_toArray, Option.isSome_some, Option.isSome_none, List.elem_nil, List.elem_cons, ite_true, ite_false, Bool.false_eq_true, if_true, if_false, reduceIte, flatB_2, flatB_3, flatB_4, List.headD_cons, List.tail_cons, cReduce, fReduce, Try.f34]
  exact hp
abbrev fReClass : Nat := 29
def cReClass : Ctr
  | [.s [a, b, c]] => some ⟨domB a b c = true, .one (.s [rdA a b c, rdB a b c, rdC a b c]), []⟩
  | _ => none
theorem okReClass : CtrOk Try.prog fReClass cReClass := by
  have hsp : SpecOk Try.prog (specOf [(fReReduce, cReReduce)]) := (SpecOk.cons okReReduce SpecOk.nil)
  refine ctr_of (fn := Try.f29) mixed tab_ok hsp Try.func29 (by kernel_rfl) (by kernel_rfl) fun args ce h => ?_
  clear hsp
  unfold cReClass at h
  split at h
  case h_2 => cases h
  rename_i a b c
  simp only [Option.some.injEq] at h
  subst h
  refine ⟨by rfl, fun hp => ⟨0, 1000, ?_⟩⟩
  simp only [vc, out, effCopy, finD, St.drop, vwAt, Entry.vwO, RC.vwO, dropAt, A0.dr, AV.dr, noneNames, viewS, viewV, viewTo, A0.vwT, AV.vwT, viewOk, viewEn, appView, hdSlc, A0.mv1, AV.mv1, Entry.toO, toOf, A0.mv, AV.mv, mvTo, St.res, nxtH, makeRows, effMakeSl, storeRow, step, stepE, stepPick, stepG, stepO, stepC, eff, look, rem, St.put, St.setMem, setMems, St.after, St.eval, cst, setAt, val1, okNew, newHs, allHs, rdOf, outHs, Reg.item, Reg.next, Reg.skip, slotOf, effBox, effAlloc, entryRow, fieldOff, effField, loadI, load1, loadR, effLoad, storeI, storeB, storeR, szOk, storeTo, effStore, buildOf, effBuild, binInt, eqI, boolOf, binBool, effBin, effUn, effPick, effExtract, ivs, svs, rowOf, allParts, effBuildSlice, zeroRow, effMakeSlice, elemSz, idxA, idxS, effIndex, lenOf, readOf, subPre, maxRow, plainTI, appTo, effAppend, slcOf, effSlice, argOf, resA, resL, resV, outWr, nodupB, restOk, argsPre, argOk, callWr, effCall, effMax, RC.flat, effBox2, boxPair, compOf, innerOf, innerPre, fieldTwo, loadO, loadN, storeN, buildTwo, effBuild2, buildRows, effBuildSl, appRows, effApp2, plainA, callIn, outsEmpty, callGo, MC.get, MC.has, MC.put, mcTI, keyTI, emptyMC, effMakeMap, mapIn, hOf1, lookV, effLookup, mapBack, effUpdate, effNil, effMin, effIndexV, cutSlc, arrElem, cutOf, boxWord, boxRow, effBox3, allocWord, effAlloc2, loadWd, loadWord, loadSl, effLoad2, storeWd, storeWord, storeCi, storeSl, effStore2, buildWord, effBuild3, fieldWord, effField2, signOf, appWd, appWord, effAppend2, effClo, plainS, cloGo, callClo, argCl, inHs, calleeHs, resWd, wrHs, disj, AV.hs, A0.hs, Entry.hs, RC.elem, RC.sz, RC.len, RC.slice, RC.app, hA, initFr, initMem, initSt, resOf, resAll, compEq, compsEq, rowHs, outHds, outsEq, shapeOk, finOk, comps, A0.norm, AV.norm, specOf, t_int, t_bool, t_implForm, t_implMatrix, t_implPoint, ts_int, ts_implForm, ts_implPoint, Option.getD_some, Option.getD_none, cond_true, cond_false, Nat.reduceBEq, List.map_cons, List.map_nil, List.set_cons_zero, List.set_cons_succ, List.getElem?_cons_zero, List.getElem?_cons_succ, List.drop_zero, List.drop_succ_cons, List.take_succ_cons, List.take_zero, Option.map_some, Option.map_none, Option.bind_some, Nat.zero_add, Nat.add_zero, Nat.reduceAdd, Nat.reduceMul, true_and, and_true, List.replicate_succ, List.replicate_zero, List.length_cons, List.length_nil, List.all_cons, List.all_nil, List.any_cons, List.any_nil, Bool.and_true, Bool.true_and, Bool.and_false, Bool.false_and, Bool.or_true, Bool.true_or, Bool.or_false, Bool.false_or, Bool.not_true, Bool.not_false, List.append_nil, List.nil_append, List.cons_append, List.flatMap_cons, List.flatMap_nil, List.contains_cons, List.contains_nil, List.filter_cons, List.filter_nil, beq_self_eq_true, Bool.not_eq_true, A0.b.injEq, A0.i.injEq, A0.s.injEq, A0.rw.injEq, A0.fn.injEq, List.cons.injEq, RC.ints.injEq, RC.recs.injEq, RC.bools.injEq, RC.mp.injEq, RC.grp.injEq, RC.rows.injEq, RC.wd.injEq, RC.bx.injEq, RC.clo.injEq, MC.ints.injEq, MC.bools.injEq, AV.one.injEq, AV.tup.injEq, ble_dec, blt_dec, Nat.reduceLeDiff, Nat.reduceSub, decide_true, decide_false, and_self, List.toList_toArray, Option.isSome_some, Option.isSome_none, List.elem_nil, List.elem_cons, ite_true, ite_false, Bool.false_eq_true, if_true, if_false, reduceIte, flatB_2, flatB_3, flatB_4, List.headD_cons, List.tail_cons, cReReduce, fReReduce, Try.f29]
  exact hp

/-! ### class forms, on both sides -/
theorem areB_iff {n : Int} : areB n = true ↔ -1000000 ≤ n ∧ n ≤ 1000000 := by
  simp [areB]
theorem good_are (n : Int) : goodI n = areB n := by
  rw [Bool.eq_iff_iff, areB_iff]
  simp [goodI, inI]
theorem disc_id {a b c : Int} (ha : -1000000 ≤ a ∧ a ≤ 1000000) (hb : -1000000 ≤ b ∧ b ≤ 1000000) (hc : -1000000 ≤ c ∧ c ≤ 1000000) : discI a b c = b * b - 4 * a * c := by
  rw [discI_eq]
  have h1 : 0 ≤ b * b ∧ b * b ≤ 1000000000000 := by
    have h2 : (b.natAbs * b.natAbs : Nat) ≤ 1000000 * 1000000 := Nat.mul_le_mul (by omega) (by omega)
    have h3 : ((b.natAbs * b.natAbs : Nat) : Int) = b * b := by rw [Int.natCast_mul]; exact Int.natAbs_mul_self' b
    omega
  have h2 : -1000000000000 ≤ a * c ∧ a * c ≤ 1000000000000 := by
    have h2 : (a.natAbs * c.natAbs : Nat) ≤ 1000000 * 1000000 := Nat.mul_le_mul (by omega) (by omega)
    have h3 : (a * c).natAbs = a.natAbs * c.natAbs := Int.natAbs_mul a c
    omega
  have h3 : 4 * a * c = 4 * (a * c) := by rw [Int.mul_assoc]
  rw [h3]
  exact wrap_id (by omega) (by omega)
theorem def_dom {a b c : Int} (h : defB a b c = true) : Dom a b c := by
  simp only [defB, formB, Bool.and_eq_true, decide_eq_true_eq, areB_iff] at h
  obtain ⟨⟨h1, h2, h3⟩, h4, h5⟩ := h
  rw [disc_id h1 h2 h3] at h4
  have hc : 0 < c := by
    have h6 : 0 ≤ b * b := by
      rcases Int.le_total 0 b with h | h
      · exact Int.mul_nonneg h h
      · exact Int.mul_nonneg_of_nonpos_of_nonpos h h
    have h7 : 0 < 4 * a * c := by omega
    exact Int.pos_of_mul_pos_right h7 (by omega)
  exact ⟨h5, hc, by omega, by omega, by omega, by omega⟩
theorem Dom.opp {a b c : Int} (h : Dom a b c) : Dom a (-b) c := by
  have h1 : -b * -b = b * b := by grind
  exact ⟨h.a0, h.c0, by rw [h1]; exact h.d, h.a1, by have := h.b1; omega, h.c1⟩
theorem Dom.neg {a b c : Int} (h : Dom a b c) : wrap64 (0 - b) = -b := by
  have := h.b1
  rw [wrap_id (by omega) (by omega)]; omega

/-! ### the greatest common divisor, on both sides -/
theorem gcdL_abs (a b : Int) : (gcdL a b).natAbs = Int.gcd a b := by
  fun_induction gcdL a b with
  | case1 a => simp
  | case2 a b h ih =>
    rw [ih]
    unfold Int.gcd
    rw [Int.natAbs_tmod, Nat.gcd_comm, ← Nat.gcd_rec, Nat.gcd_comm]
theorem gcdL_nonneg {a b : Int} (ha : 0 ≤ a) (hb : 0 ≤ b) : 0 ≤ gcdL a b := by
  fun_induction gcdL a b with
  | case1 a => exact ha
  | case2 a b h ih => exact ih hb (Int.tmod_nonneg b ha)
theorem gcd_le {a b : Int} (ha : a.natAbs ≤ 1000000000) (hb : b.natAbs ≤ 1000000000) : Int.gcd a b ≤ 1000000000 := by
  unfold Int.gcd
  by_cases h : b.natAbs = 0
  · rw [h, Nat.gcd_zero_right]; exact ha
  · exact Nat.le_trans (Nat.gcd_le_right _ (by omega)) hb
theorem gcdI_eq {a b : Int} (ha : a.natAbs ≤ 1000000000) (hb : b.natAbs ≤ 1000000000) : gcdI a b = Int.gcd a b := by
  have h1 := gcdL_abs a b
  have h2 := gcd_le ha hb
  unfold gcdI absI
  have h3 : max (gcdL a b) (-9223372036854775807) = gcdL a b := by omega
  rw [h3, wrap_id (by omega) (by omega)]
  omega
theorem labs_eq {a : Int} (ha : a.natAbs ≤ 1000000000) : labsI a = a.natAbs := by
  unfold labsI mostI
  rw [wrap_id (by omega) (by omega)]
  split <;> omega
theorem nuGcdI_eq {a b : Int} (ha : a.natAbs ≤ 1000000000) (hb : b.natAbs ≤ 1000000000) : nuGcdI a b = Int.gcd a b := by
  unfold nuGcdI
  rw [labs_eq ha, labs_eq hb]
  have h1 := gcdL_abs (a.natAbs : Int) (b.natAbs : Int)
  have h2 : 0 ≤ gcdL (a.natAbs : Int) (b.natAbs : Int) := gcdL_nonneg (by omega) (by omega)
  have h3 : Int.gcd (a.natAbs : Int) (b.natAbs : Int) = Int.gcd a b := by simp [Int.gcd]
  omega
theorem content_eq {a b c : Int} (ha : a.natAbs ≤ 1000000000) (hb : b.natAbs ≤ 1000000000) (hc : c.natAbs ≤ 1000000000) : nuGcdI (nuGcdI a b) c = gcdI a (gcdI b c) := by
  have h1 := gcd_le ha hb
  have h2 := gcd_le hb hc
  rw [nuGcdI_eq ha hb, gcdI_eq hb hc, nuGcdI_eq (by omega) hc, gcdI_eq ha (by omega)]
  simp [Int.gcd, Nat.gcd_assoc]
theorem class_eq (a b c : Int) : sclassB a b c = classB a b c := by
  have hs : sshownB a b c = shownB a b c := by simp [sshownB, shownB, sdefB, defB, sformB, formB, good_are]
  unfold sclassB classB
  rw [hs]
  cases h : shownB a b c with
  | false => rfl
  | true =>
    simp only [shownB, defB, formB, Bool.and_eq_true, areB_iff] at h
    obtain ⟨⟨⟨h1, h2, h3⟩, _⟩, _⟩ := h
    rw [content_eq (by omega) (by omega) (by omega)]

def onB (b : Bool) (n : Int) : Int := bif b then n else 0
theorem class_dom {a b c : Int} (h : classB a b c = true) : Dom a b c := by
  simp only [classB, shownB, Bool.and_eq_true] at h
  exact def_dom h.1.1
theorem class_opp {a b c : Int} (h : classB a b c = true) : domB a (wrap64 (0 - b)) c = true := by
  have d := class_dom h
  rw [d.neg]
  exact domB_iff.2 d.opp
end Go.Proofs.Ythcnaeahmdapbac
