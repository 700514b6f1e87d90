/-
  Contracts of RepresentingForms, ClassPrimeCounts and TotalCount on both sides, and of their laws. Conditions: none.
-/
import Derived.Test.YtclpoenfcpefmaaVals
import Derived.Test.YtclpoenfcpefmaaGea
namespace Go.Proofs.Ytclpoenfcpefmaa
open Go Go.RowKit
set_option maxRecDepth 100000
set_option linter.unusedSimpArgs false
set_option linter.unusedVariables false
set_option maxHeartbeats 4000000

theorem vl_bound {f : F3} {n x y : Int} (hv : Vd f n) (h : vl f x y = n) : (-200000 ≤ x ∧ x ≤ 200000) ∧ (-200000 ≤ y ∧ y ≤ 200000) := by
  have hd := hv.d
  obtain ⟨f1, f2, _⟩ := hv.four
  obtain ⟨g1, g2, _⟩ := hv.fourA
  constructor
  · have h1 := (vl_iff hv.c0).1 h
    have h2 := sq_nonneg (2 * f.2.2 * y + f.2.1 * x)
    rw [h1] at h2
    have h3 : rtX f n x = 4 * f.2.2 * n - -dsc f * (x * x) := by unfold rtX; grind
    have h4 : 1 * (x * x) ≤ -dsc f * (x * x) := Int.mul_le_mul_of_nonneg_right (by omega) (sq_nonneg x)
    exact abs_le_of_sq (by omega) (by omega)
  · have h1 := (vl_iffA hv.a0).1 h
    have h2 := sq_nonneg (2 * f.1 * x + f.2.1 * y)
    rw [h1] at h2
    have h3 : rtY f n y = 4 * f.1 * n - -dsc f * (y * y) := by unfold rtY; grind
    have h4 : 1 * (y * y) ≤ -dsc f * (y * y) := Int.mul_le_mul_of_nonneg_right (by omega) (sq_nonneg y)
    exact abs_le_of_sq (by omega) (by omega)
theorem ptI_bound {f : F3} {n : Int} (hv : Vd f n) {p : P2} (h : p ∈ ptI f n) : p.1.natAbs ≤ 1000000 ∧ p.2.natAbs ≤ 1000000 := by
  have := vl_bound hv ((mem_ptI hv).1 h)
  omega
def primP (p : P2) : Bool := gcdI p.1 p.2 == 1
abbrev fIsShownN : Nat := 70
def cIsShownN : Ctr
  | [.i n] => some ⟨True, .one (.b (inI n 1 10000)), []⟩
  | _ => none
theorem okIsShownN : CtrOk Try.prog fIsShownN cIsShownN := by
  have hsp : SpecOk Try.prog (specOf []) := SpecOk.nil
  refine ctr_of (fn := Try.f70) mixed tab_ok hsp Try.func70 (by kernel_rfl) (by kernel_rfl) fun args ce h => ?_
  clear hsp
  unfold cIsShownN at h
  split at h
  case h_2 => cases h
  rename_i n
  simp only [Option.some.injEq] at h
  subst h
  refine ⟨by rfl, fun hp => ⟨0, 1000, ?_⟩⟩
  simp only [vc, out, effCopy, finD, St.drop, vwAt, Entry.vwO, RC.vwO, dropAt, A0.dr, AV.dr, noneNames, viewS, viewV, viewTo, A0.vwT, AV.vwT, viewOk, viewEn, appView, hdSlc, A0.mv1, AV.mv1, Entry.toO, toOf, A0.mv, AV.mv, mvTo, St.res, nxtH, makeRows, effMakeSl, storeRow, step, stepE, stepPick, stepG, stepO, stepC, eff, look, rem, St.put, St.setMem, setMems, St.after, St.eval, cst, setAt, val1, okNew, newHs, allHs, rdOf, outHs, Reg.item, Reg.next, Reg.skip, slotOf, effBox, effAlloc, entryRow, fieldOff, effField, loadI, load1, loadR, effLoad, storeI, storeB, storeR, szOk, storeTo, effStore, buildOf, effBuild, binInt, eqI, boolOf, binBool, effBin, effUn, effPick, effExtract, ivs, svs, rowOf, allParts, effBuildSlice, zeroRow, effMakeSlice, elemSz, idxA, idxS, effIndex, lenOf, readOf, subPre, maxRow, plainTI, appTo, effAppend, slcOf, effSlice, argOf, resA, resL, resV, outWr, nodupB, restOk, argsPre, argOk, callWr, effCall, effMax, RC.flat, effBox2, boxPair, compOf, innerOf, innerPre, fieldTwo, loadO, loadN, storeN, buildTwo, effBuild2, buildRows, effBuildSl, appRows, effApp2, plainA, callIn, outsEmpty, callGo, MC.get, MC.has, MC.put, mcTI, keyTI, emptyMC, effMakeMap, mapIn, hOf1, lookV, effLookup, mapBack, effUpdate, effNil, effMin, effIndexV, cutSlc, arrElem, cutOf, wrHs, disj, AV.hs, A0.hs, Entry.hs, RC.elem, RC.sz, RC.len, RC.slice, RC.app, hA, initFr, initMem, initSt, resOf, resAll, compEq, compsEq, rowHs, outHds, outsEq, shapeOk, finOk, comps, A0.norm, AV.norm, specOf, t_int, t_bool, t_implForm, t_lawsForm, t_implMatrix, t_implPoint, ts_int, ts_implForm, ts_implPoint, ts_implMatrix, tm_implForm, tm_implPoint, Option.getD_some, Option.getD_none, cond_true, cond_false, Nat.reduceBEq, List.map_cons, List.map_nil, List.set_cons_zero, List.set_cons_succ, List.getElem?_cons_zero, List.getElem?_cons_succ, List.drop_zero, List.drop_succ_cons, List.take_succ_cons, List.take_zero, Option.map_some, Option.map_none, Option.bind_some, Nat.zero_add, Nat.add_zero, Nat.reduceAdd, Nat.reduceMul, true_and, and_true, List.replicate_succ, List.replicate_zero, List.length_cons, List.length_nil, List.all_cons, List.all_nil, List.any_cons, List.any_nil, Bool.and_true, Bool.true_and, Bool.and_false, Bool.false_and, Bool.or_true, Bool.true_or, Bool.or_false, Bool.false_or, Bool.not_true, Bool.not_false, List.append_nil, List.nil_append, List.cons_append, List.flatMap_cons, List.flatMap_nil, List.contains_cons, List.contains_nil, List.filter_cons, List.filter_nil, beq_self_eq_true, Bool.not_eq_true, A0.b.injEq, A0.i.injEq, A0.s.injEq, A0.rw.injEq, A0.fn.injEq, List.cons.injEq, RC.ints.injEq, RC.recs.injEq, RC.bools.injEq, RC.mp.injEq, RC.grp.injEq, RC.rows.injEq, MC.ints.injEq, MC.bools.injEq, AV.one.injEq, AV.tup.injEq, ble_dec, blt_dec, Nat.reduceLeDiff, Nat.reduceSub, decide_true, decide_false, and_self, List.toList_toArray, Option.isSome_some, Option.isSome_none, List.elem_nil, List.elem_cons, ite_true, ite_false, Bool.false_eq_true, if_true, if_false, reduceIte, flatB_2, flatB_3, flatB_4, List.headD_cons, List.tail_cons, Try.f70]
  unfold inI
  cases decide (n ≥ 1) <;> rfl
abbrev fVaShown : Nat := 41
def cVaShown : Ctr
  | [.i n] => some ⟨True, .one (.b (inI n 1 10000)), []⟩
  | _ => none
theorem okVaShown : CtrOk Try.prog fVaShown cVaShown := by
  have hsp : SpecOk Try.prog (specOf [(fIn, cIn)]) := (SpecOk.cons okIn SpecOk.nil)
  refine ctr_of (fn := Try.f41) mixed tab_ok hsp Try.func41 (by kernel_rfl) (by kernel_rfl) fun args ce h => ?_
  clear hsp
  unfold cVaShown at h
  split at h
  case h_2 => cases h
  rename_i n
  simp only [Option.some.injEq] at h
  subst h
  refine ⟨by rfl, fun hp => ⟨0, 1000, ?_⟩⟩
  simp only [vc, out, effCopy, finD, St.drop, vwAt, Entry.vwO, RC.vwO, dropAt, A0.dr, AV.dr, noneNames, viewS, viewV, viewTo, A0.vwT, AV.vwT, viewOk, viewEn, appView, hdSlc, A0.mv1, AV.mv1, Entry.toO, toOf, A0.mv, AV.mv, mvTo, St.res, nxtH, makeRows, effMakeSl, storeRow, step, stepE, stepPick, stepG, stepO, stepC, eff, look, rem, St.put, St.setMem, setMems, St.after, St.eval, cst, setAt, val1, okNew, newHs, allHs, rdOf, outHs, Reg.item, Reg.next, Reg.skip, slotOf, effBox, effAlloc, entryRow, fieldOff, effField, loadI, load1, loadR, effLoad, storeI, storeB, storeR, szOk, storeTo, effStore, buildOf, effBuild, binInt, eqI, boolOf, binBool, effBin, effUn, effPick, effExtract, ivs, svs, rowOf, allParts, effBuildSlice, zeroRow, effMakeSlice, elemSz, idxA, idxS, effIndex, lenOf, readOf, subPre, maxRow, plainTI, appTo, effAppend, slcOf, effSlice, argOf, resA, resL, resV, outWr, nodupB, restOk, argsPre, argOk, callWr, effCall, effMax, RC.flat, effBox2, boxPair, compOf, innerOf, innerPre, fieldTwo, loadO, loadN, storeN, buildTwo, effBuild2, buildRows, effBuildSl, appRows, effApp2, plainA, callIn, outsEmpty, callGo, MC.get, MC.has, MC.put, mcTI, keyTI, emptyMC, effMakeMap, mapIn, hOf1, lookV, effLookup, mapBack, effUpdate, effNil, effMin, effIndexV, cutSlc, arrElem, cutOf, wrHs, disj, AV.hs, A0.hs, Entry.hs, RC.elem, RC.sz, RC.len, RC.slice, RC.app, hA, initFr, initMem, initSt, resOf, resAll, compEq, compsEq, rowHs, outHds, outsEq, shapeOk, finOk, comps, A0.norm, AV.norm, specOf, t_int, t_bool, t_implForm, t_lawsForm, t_implMatrix, t_implPoint, ts_int, ts_implForm, ts_implPoint, ts_implMatrix, tm_implForm, tm_implPoint, Option.getD_some, Option.getD_none, cond_true, cond_false, Nat.reduceBEq, List.map_cons, List.map_nil, List.set_cons_zero, List.set_cons_succ, List.getElem?_cons_zero, List.getElem?_cons_succ, List.drop_zero, List.drop_succ_cons, List.take_succ_cons, List.take_zero, Option.map_some, Option.map_none, Option.bind_some, Nat.zero_add, Nat.add_zero, Nat.reduceAdd, Nat.reduceMul, true_and, and_true, List.replicate_succ, List.replicate_zero, List.length_cons, List.length_nil, List.all_cons, List.all_nil, List.any_cons, List.any_nil, Bool.and_true, Bool.true_and, Bool.and_false, Bool.false_and, Bool.or_true, Bool.true_or, Bool.or_false, Bool.false_or, Bool.not_true, Bool.not_false, List.append_nil, List.nil_append, List.cons_append, List.flatMap_cons, List.flatMap_nil, List.contains_cons, List.contains_nil, List.filter_cons, List.filter_nil, beq_self_eq_true, Bool.not_eq_true, A0.b.injEq, A0.i.injEq, A0.s.injEq, A0.rw.injEq, A0.fn.injEq, List.cons.injEq, RC.ints.injEq, RC.recs.injEq, RC.bools.injEq, RC.mp.injEq, RC.grp.injEq, RC.rows.injEq, MC.ints.injEq, MC.bools.injEq, AV.one.injEq, AV.tup.injEq, ble_dec, blt_dec, Nat.reduceLeDiff, Nat.reduceSub, decide_true, decide_false, and_self, List.toList_toArray, Option.isSome_some, Option.isSome_none, List.elem_nil, List.elem_cons, ite_true, ite_false, Bool.false_eq_true, if_true, if_false, reduceIte, flatB_2, flatB_3, flatB_4, List.headD_cons, List.tail_cons, cIn, fIn, Try.f41]

theorem inI_1 {n : Int} (h : inI n 1 10000 = true) : 1 ≤ n ∧ n ≤ 10000 := by simpa [inI] using h
def repB (a b c n : Int) : Bool := shownB a b c && inI n 1 10000
abbrev fReprs : Nat := 44
def cReprs : Ctr
  | [.s [a, b, c], .i n] => some ⟨True, .tup [.rw (.recs 65 2 (fp (onL (repB a b c n) (ptI (a, b, c) n)))), .b (repB a b c n)], []⟩
  | _ => none
theorem okReprs : CtrOk Try.prog fReprs cReprs := by
  have hsp : SpecOk Try.prog (specOf [(fIsShown, cIsShown), (fIsShownN, cIsShownN), (fPoints, cPoints)]) := (SpecOk.cons okIsShown (SpecOk.cons okIsShownN (SpecOk.cons okPoints SpecOk.nil)))
  refine ctr_of (fn := Try.f44) mixed tab_ok hsp Try.func44 (by kernel_rfl) (by kernel_rfl) fun args ce h => ?_
  clear hsp
  unfold cReprs at h
  split at h
  case h_2 => cases h
  rename_i a b c n
  simp only [Option.some.injEq] at h
  subst h
  refine ⟨by rfl, fun hp => ⟨0, 1000, ?_⟩⟩
  simp only [vc, out, effCopy, finD, St.drop, vwAt, Entry.vwO, RC.vwO, dropAt, A0.dr, AV.dr, noneNames, viewS, viewV, viewTo, A0.vwT, AV.vwT, viewOk, viewEn, appView, hdSlc, A0.mv1, AV.mv1, Entry.toO, toOf, A0.mv, AV.mv, mvTo, St.res, nxtH, makeRows, effMakeSl, storeRow, step, stepE, stepPick, stepG, stepO, stepC, eff, look, rem, St.put, St.setMem, setMems, St.after, St.eval, cst, setAt, val1, okNew, newHs, allHs, rdOf, outHs, Reg.item, Reg.next, Reg.skip, slotOf, effBox, effAlloc, entryRow, fieldOff, effField, loadI, load1, loadR, effLoad, storeI, storeB, storeR, szOk, storeTo, effStore, buildOf, effBuild, binInt, eqI, boolOf, binBool, effBin, effUn, effPick, effExtract, ivs, svs, rowOf, allParts, effBuildSlice, zeroRow, effMakeSlice, elemSz, idxA, idxS, effIndex, lenOf, readOf, subPre, maxRow, plainTI, appTo, effAppend, slcOf, effSlice, argOf, resA, resL, resV, outWr, nodupB, restOk, argsPre, argOk, callWr, effCall, effMax, RC.flat, effBox2, boxPair, compOf, innerOf, innerPre, fieldTwo, loadO, loadN, storeN, buildTwo, effBuild2, buildRows, effBuildSl, appRows, effApp2, plainA, callIn, outsEmpty, callGo, MC.get, MC.has, MC.put, mcTI, keyTI, emptyMC, effMakeMap, mapIn, hOf1, lookV, effLookup, mapBack, effUpdate, effNil, effMin, effIndexV, cutSlc, arrElem, cutOf, wrHs, disj, AV.hs, A0.hs, Entry.hs, RC.elem, RC.sz, RC.len, RC.slice, RC.app, hA, initFr, initMem, initSt, resOf, resAll, compEq, compsEq, rowHs, outHds, outsEq, shapeOk, finOk, comps, A0.norm, AV.norm, specOf, t_int, t_bool, t_implForm, t_lawsForm, t_implMatrix, t_implPoint, ts_int, ts_implForm, ts_implPoint, ts_implMatrix, tm_implForm, tm_implPoint, Option.getD_some, Option.getD_none, cond_true, cond_false, Nat.reduceBEq, List.map_cons, List.map_nil, List.set_cons_zero, List.set_cons_succ, List.getElem?_cons_zero, List.getElem?_cons_succ, List.drop_zero, List.drop_succ_cons, List.take_succ_cons, List.take_zero, Option.map_some, Option.map_none, Option.bind_some, Nat.zero_add, Nat.add_zero, Nat.reduceAdd, Nat.reduceMul, true_and, and_true, List.replicate_succ, List.replicate_zero, List.length_cons, List.length_nil, List.all_cons, List.all_nil, List.any_cons, List.any_nil, Bool.and_true, Bool.true_and, Bool.and_false, Bool.false_and, Bool.or_true, Bool.true_or, Bool.or_false, Bool.false_or, Bool.not_true, Bool.not_false, List.append_nil, List.nil_append, List.cons_append, List.flatMap_cons, List.flatMap_nil, List.contains_cons, List.contains_nil, List.filter_cons, List.filter_nil, beq_self_eq_true, Bool.not_eq_true, A0.b.injEq, A0.i.injEq, A0.s.injEq, A0.rw.injEq, A0.fn.injEq, List.cons.injEq, RC.ints.injEq, RC.recs.injEq, RC.bools.injEq, RC.mp.injEq, RC.grp.injEq, RC.rows.injEq, MC.ints.injEq, MC.bools.injEq, AV.one.injEq, AV.tup.injEq, ble_dec, blt_dec, Nat.reduceLeDiff, Nat.reduceSub, decide_true, decide_false, and_self, List.toList_toArray, Option.isSome_some, Option.isSome_none, List.elem_nil, List.elem_cons, ite_true, ite_false, Bool.false_eq_true, if_true, if_false, reduceIte, flatB_2, flatB_3, flatB_4, List.headD_cons, List.tail_cons, cIsShown, fIsShown, cIsShownN, fIsShownN, cPoints, fPoints, Try.f44]
  unfold repB
  cases h : shownB a b c with
  | false => exact ⟨by kernel_rfl, rfl, rfl⟩
  | true =>
    cases h1 : inI n 1 10000 with
    | false => exact ⟨by kernel_rfl, rfl, rfl⟩
    | true => exact ⟨shown_vd h (inI_1 h1), by kernel_rfl, rfl, rfl⟩
theorem fp_take_len {l : List (List Int)} (p : P2 → Bool) (n : Nat) : (((unfp l).take n).filter p).length ≤ l.length := by
  refine Nat.le_trans (List.length_filter_le _ _) ?_
  rw [List.length_take, unfp_length]
  omega
-- (not in this seat: VaPrim)
def ppL (a b c n : Int) : List P2 := onL (repB a b c n) (ptI (a, b, c) n)
theorem ppL_len (a b c n : Int) : (ppL a b c n).length ≤ 1000000 := by
  unfold ppL
  cases h : repB a b c n with
  | false => simp [onL]
  | true =>
    simp only [repB, Bool.and_eq_true] at h
    exact ptI_len (shown_vd h.1 (inI_1 h.2))
-- (not in this seat: PrimPts)
theorem red_shown {d : Int} (hd : -2000 ≤ d ∧ d ≤ -3) {x : F3} (h : IsRed d x) : shownB x.1 x.2.1 x.2.2 = true := by
  have hs := h.small hd.1
  have e : discI x.1 x.2.1 x.2.2 = d := by rw [disc_id (by omega) (by omega) (by omega)]; exact h.d
  simp only [shownB, defB, formB, Bool.and_eq_true, areB_iff, decide_eq_true_eq, e]
  omega
def rpB (n : Int) (f : F3) : Bool := decide ((((ptI f n).filter primP).length : Int) > 0)
def rfB (d n : Int) : Bool := negB d && inI n 1 10000
def rfL (d n : Int) : List F3 := (redF d).filter (rpB n)
-- (not in this seat: RepForms)
-- (not in this seat: SRepForms)
theorem onRed_len {d : Int} (b : Bool) (p : F3 → Bool) (h : b = true → -2000 ≤ d) : (fl (onL b ((redF d).filter p))).length ≤ 1300 := by
  rw [fl_length]
  cases b with
  | false => simp [onL]
  | true => exact Nat.le_trans (List.length_filter_le _ _) (redF_len (h rfl))
-- (not in this seat: LawRepForms)

/-! ### how many points all forms have -/
def totL (n : Int) (L : List F3) : Int := (L.map fun f => ((ptI f n).length : Int)).sum
theorem totL_snoc (n : Int) (L : List F3) (f : F3) : totL n (L ++ [f]) = totL n L + ((ptI f n).length : Int) := by simp [totL]
theorem totL_bd {n : Int} {L : List F3} (h : ∀ f ∈ L, Vd f n) : 0 ≤ totL n L ∧ totL n L ≤ 1000000 * (L.length : Int) := by
  induction L with
  | nil => simp [totL]
  | cons f L ih =>
    have h1 := ih fun g hg => h g (by simp [hg])
    have h2 := ptI_len (h f (by simp))
    have e : totL n (f :: L) = ((ptI f n).length : Int) + totL n L := by simp [totL]
    rw [e, List.length_cons]
    omega
-- (not in this seat: TotCount)
-- (not in this seat: VaTotal)
-- (not in this seat: STotCount)
-- (not in this seat: LawTotCount)
end Go.Proofs.Ytclpoenfcpefmaa
