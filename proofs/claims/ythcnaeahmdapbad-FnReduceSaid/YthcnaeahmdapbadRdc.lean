/-
  Contracts of the reduction in plain terms, of matrices, of the principal form. Conditions: none.
-/
import Derived.Test.YthcnaeahmdapbadRdx
namespace Go.Proofs.Ythcnaeahmdapbad
open Go Go.RowKit
set_option maxRecDepth 100000
set_option linter.unusedSimpArgs false
set_option linter.unusedVariables false
set_option maxHeartbeats 4000000

theorem CtrOk.imp {P : Program} {f : Nat} {g g' : Ctr} (h : CtrOk P f g) (hg : ∀ args ce', g' args = some ce' → ce'.pre → ∃ ce, g args = some ce ∧ ce.pre ∧ ce.res = ce'.res ∧ ce.outs = ce'.outs) : CtrOk P f g' := by
  refine ⟨fun args ce' he => ⟨fun hp => ?_, fun l a s rest a' s' e1 e2 e3 hp => ?_⟩, h.2⟩
  · obtain ⟨⟨p, r, o⟩, h1, h2, h3, h4⟩ := hg args ce' he hp
    obtain ⟨p', r', o'⟩ := ce'
    simp only at h3 h4
    subst h3 h4
    intro w vals ha
    obtain h5 := (h.1 args _ h1).go h2 w vals ha
    refine Calls.mono h5 fun e w' ⟨v, he, hr⟩ => ⟨v, he, hr.chg, hr.res, hr.outs⟩
  · obtain ⟨⟨p, r, o⟩, h1, h2, h3, h4⟩ := hg args ce' he hp
    obtain ⟨p', r', o'⟩ := ce'
    simp only at h3 h4
    subst h3 h4
    exact (h.1 args _ h1).cu l a s rest a' s' e1 e2 e3 h2
/-! ### class forms -/
theorem class_disc {a b c : Int} (h : classB a b c = true) : discI a b c = dsc (a, b, c) ∧ -2000 ≤ dsc (a, b, c) ∧ dsc (a, b, c) ≤ -3 ∧ (dsc (a, b, c) % 4 = 0 ∨ dsc (a, b, c) % 4 = 1) := by
  simp only [classB, shownB, defB, formB, Bool.and_eq_true, areB_iff, decide_eq_true_eq] at h
  obtain ⟨⟨⟨⟨h1, h2, h3⟩, h4, _⟩, h6⟩, _⟩ := h
  have e : discI a b c = dsc (a, b, c) := disc_id h1 h2 h3
  rw [e] at h4 h6
  have h7 : dsc (a, b, c) = b * b - 4 * (a * c) := by unfold dsc; simp only; rw [Int.mul_assoc]
  have h8 : (b * b) % 4 = 0 ∨ (b * b) % 4 = 1 := by
    rw [Int.mul_emod]
    have h9 : b % 4 = 0 ∨ b % 4 = 1 ∨ b % 4 = 2 ∨ b % 4 = 3 := by omega
    rcases h9 with h | h | h | h <;> rw [h] <;> simp
  exact ⟨e, h6, by omega, by omega⟩
theorem class_domB {a b c : Int} (h : classB a b c = true) : domB a b c = true := domB_iff.2 (class_dom h)
theorem def_domB {a b c : Int} (h : defB a b c = true) : domB a b c = true := domB_iff.2 (def_dom h)
theorem sdef_eq (a b c : Int) : sdefB a b c = defB a b c := by simp [sdefB, defB, sformB, formB, good_are]
theorem sshown_eq (a b c : Int) : sshownB a b c = shownB a b c := by rw [sshownB, sdef_eq]; rfl
theorem shown_domB {a b c : Int} (h : shownB a b c = true) : domB a b c = true := by
  simp only [shownB, Bool.and_eq_true] at h
  exact def_domB h.1
theorem class_shown {a b c : Int} (h : classB a b c = true) : shownB a b c = true := by
  simp only [classB, Bool.and_eq_true] at h
  exact h.1

/-! ### the principal form -/
theorem negB_mod {d : Int} (h : negB d = true) : d % 4 = 0 ∨ d % 4 = 1 := by
  simp only [negB, Bool.and_eq_true, decide_eq_true_eq] at h
  obtain ⟨_, _, h⟩ := h
  rw [modI_eq (by omega) (by omega)] at h
  omega
def prI (d : Int) : F3 := (1, modI d 2, wrap64 ((wrap64 (modI d 2 - d)).tdiv 4))
-- (not in this seat: Principal)
-- (not in this seat: CoOne)
theorem prI_eq {d : Int} (hd : -2000000 ≤ d ∧ d ≤ -3) (h4 : d % 4 = 0 ∨ d % 4 = 1) : prI d = (1, d % 2, (d % 2 - d) / 4) ∧ IsRed d (prI d) := by
  have e0 : modI d 2 = d % 2 := modI_eq (by omega) (by omega)
  have e1 : prI d = (1, d % 2, (d % 2 - d) / 4) := by
    unfold prI
    rw [e0, wrap_id (n := d % 2 - d) (by omega) (by omega), Int.tdiv_eq_ediv_of_nonneg (by omega), wrap_id (by omega) (by omega)]
  refine ⟨e1, ?_⟩
  rw [e1]
  have h2 : d % 2 = 0 ∨ d % 2 = 1 := by omega
  refine ⟨by simp only; omega, by simp only; omega, by simp only; omega, by simp only; omega, ?_⟩
  simp only
  rcases h2 with h | h <;> rw [h] <;> omega
theorem red_domB {d : Int} {x : F3} (hd : -1000000000 ≤ d) (h : IsRed d x) : x.dom = true := by
  obtain ⟨h1, h2⟩ := h.three
  have ha := h.a0
  have hl := h.le
  have hb := h.abs
  have hD := h.d
  refine domB_iff.2 ?_
  have e2 : 3 * x.1 * x.2.2 = 3 * (x.2.2 * x.1) := by rw [Int.mul_assoc, Int.mul_comm x.1]
  have e1 : x.2.2 * 1 ≤ x.2.2 * x.1 := Int.mul_le_mul_of_nonneg_left (by omega) (by omega)
  have e3 : 0 < x.2.2 * x.1 := Int.mul_pos (by omega) ha
  refine ⟨ha, by omega, ?_, by omega, by omega, by omega⟩
  have e4 : 4 * x.1 * x.2.2 = 4 * (x.2.2 * x.1) := by rw [Int.mul_assoc, Int.mul_comm x.1]
  omega
theorem prI_rdx {d : Int} (hd : -2000000 ≤ d ∧ d ≤ -3) (h4 : d % 4 = 0 ∨ d % 4 = 1) : rdx (prI d) = prI d ∧ (prI d).dom = true := by
  obtain ⟨e, h⟩ := prI_eq hd h4
  refine ⟨rdx_of_red (red_of h ?_), red_domB (by omega) h⟩
  rw [e]; simp only; omega

/-! ### matrices -/
def matB (a b c d : Int) : Bool := areB a && (areB b && (areB c && areB d))
abbrev fIsMatrix : Nat := 19
def cIsMatrix : Ctr
  | [.s [a, b, c, d]] => some ⟨True, .one (.b (matB a b c d)), []⟩
  | _ => none
theorem okIsMatrix : CtrOk Try.prog fIsMatrix cIsMatrix := by
  have hsp : SpecOk Try.prog (specOf [(fAre, cAre)]) := (SpecOk.cons okAre SpecOk.nil)
  refine ctr_of (fn := Try.f19) mixed tab_ok hsp Try.func19 (by kernel_rfl) (by kernel_rfl) fun args ce h => ?_
  clear hsp
  unfold cIsMatrix at h
  split at h
  case h_2 => cases h
  rename_i a b c d
  simp only [Option.some.injEq] at h
  subst h
  refine ⟨by rfl, fun hp => ⟨0, 1000, ?_⟩⟩
  simp only [vc, out, effCopy, finD, St.drop, vwAt, Entry.vwO, RC.vwO, dropAt, A0.dr, AV.dr, noneNames, viewS, viewV, viewTo, A0.vwT, AV.vwT, viewOk, viewEn, appView, hdSlc, A0.mv1, AV.mv1, Entry.toO, toOf, A0.mv, AV.mv, mvTo, St.res, nxtH, makeRows, effMakeSl, storeRow, step, stepE, stepPick, stepG, stepO, stepC, eff, look, rem, St.put, St.setMem, setMems, St.after, St.eval, cst, setAt, val1, okNew, newHs, allHs, rdOf, outHs, Reg.item, Reg.next, Reg.skip, slotOf, effBox, effAlloc, entryRow, fieldOff, effField, loadI, load1, loadR, effLoad, storeI, storeB, storeR, szOk, storeTo, effStore, buildOf, effBuild, binInt, eqI, boolOf, binBool, effBin, effUn, effPick, effExtract, ivs, svs, rowOf, allParts, effBuildSlice, zeroRow, effMakeSlice, elemSz, idxA, idxS, effIndex, lenOf, readOf, subPre, maxRow, plainTI, appTo, effAppend, slcOf, effSlice, argOf, resA, resL, resV, outWr, nodupB, restOk, argsPre, argOk, callWr, effCall, effMax, RC.flat, effBox2, boxPair, compOf, innerOf, innerPre, fieldTwo, loadO, loadN, storeN, buildTwo, effBuild2, buildRows, effBuildSl, appRows, effApp2, plainA, callIn, outsEmpty, callGo, MC.get, MC.has, MC.put, mcTI, keyTI, emptyMC, effMakeMap, mapIn, hOf1, lookV, effLookup, mapBack, effUpdate, effNil, effMin, effIndexV, cutSlc, arrElem, cutOf, boxWord, boxRow, effBox3, allocWord, effAlloc2, loadWd, loadWord, loadSl, effLoad2, storeWd, storeWord, storeCi, storeSl, effStore2, buildWord, effBuild3, fieldWord, effField2, signOf, appWd, appWord, effAppend2, effClo, plainS, cloGo, callClo, argCl, inHs, calleeHs, resWd, effNil2, fieldCur, effField3, loadCu, loadOe, loadCe, effLoad3, storeCu, storeOe, effStore3, lenOf2, idxCs, idxCur, effIndex2, effConv, binU, effBin2, buildCur, effBuild4, boxCur, effBox4, cuX, cuArg, plainV, cuGo, callCu, callCo, effCall2, argCo, initC, eqPl, curIs, finC, noCur, wrHs, disj, AV.hs, A0.hs, Entry.hs, RC.elem, RC.sz, RC.len, RC.slice, RC.app, hA, initFr, initMem, initSt, resOf, resAll, compEq, compsEq, rowHs, outHds, outsEq, shapeOk, finOk, comps, A0.norm, AV.norm, specOf, t_int, t_bool, t_implForm, t_implMatrix, ts_int, ts_implForm, t_u8, t_u64, ts_u8, t_l1Cur, Option.getD_some, Option.getD_none, cond_true, cond_false, Nat.reduceBEq, List.map_cons, List.map_nil, List.set_cons_zero, List.set_cons_succ, List.getElem?_cons_zero, List.getElem?_cons_succ, List.drop_zero, List.drop_succ_cons, List.take_succ_cons, List.take_zero, Option.map_some, Option.map_none, Option.bind_some, Nat.zero_add, Nat.add_zero, Nat.reduceAdd, Nat.reduceMul, true_and, and_true, List.replicate_succ, List.replicate_zero, List.length_cons, List.length_nil, List.all_cons, List.all_nil, List.any_cons, List.any_nil, Bool.and_true, Bool.true_and, Bool.and_false, Bool.false_and, Bool.or_true, Bool.true_or, Bool.or_false, Bool.false_or, Bool.not_true, Bool.not_false, List.append_nil, List.nil_append, List.cons_append, List.flatMap_cons, List.flatMap_nil, List.contains_cons, List.contains_nil, List.filter_cons, List.filter_nil, beq_self_eq_true, Bool.not_eq_true, A0.b.injEq, A0.i.injEq, A0.s.injEq, A0.rw.injEq, A0.fn.injEq, List.cons.injEq, RC.ints.injEq, RC.recs.injEq, RC.bools.injEq, RC.mp.injEq, RC.grp.injEq, RC.rows.injEq, RC.wd.injEq, RC.bx.injEq, RC.clo.injEq, Entry.cu.injEq, Entry.st.injEq, MC.ints.injEq, MC.bools.injEq, AV.one.injEq, AV.tup.injEq, ble_dec, blt_dec, Nat.reduceLeDiff, Nat.reduceSub, decide_true, decide_false, and_self, List.toList_toArray, Option.isSome_some, Option.isSome_none, List.elem_nil, List.elem_cons, ite_true, ite_false, Bool.false_eq_true, if_true, if_false, reduceIte, flatB_2, flatB_3, flatB_4, List.headD_cons, List.tail_cons, cAre, fAre, Try.f19]
  rfl
-- (not in this seat: FoMatrix)
def detI (a b c d : Int) : Int := wrap64 (wrap64 (a * d) - wrap64 (b * c))
-- (not in this seat: Det)
-- (not in this seat: FoDet)
def invI (a b c d : Int) : List Int := [wrap64 (detI a b c d * d), wrap64 (wrap64 (0 - detI a b c d) * b), wrap64 (wrap64 (0 - detI a b c d) * c), wrap64 (detI a b c d * a)]
-- (not in this seat: MInverse)
-- (not in this seat: FoInverse)
-- (not in this seat: Checked)
end Go.Proofs.Ythcnaeahmdapbad
