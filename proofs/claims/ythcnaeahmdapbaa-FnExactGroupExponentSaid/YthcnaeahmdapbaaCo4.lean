/-
  Contracts of composition on both sides, and of the laws of united forms and of composites. Conditions: none.
-/
import Derived.Test.YthcnaeahmdapbaaCo3
import Derived.Test.YthcnaeahmdapbaaGea
namespace Go.Proofs.Ythcnaeahmdapbaa
open Go Go.RowKit
set_option maxRecDepth 100000
set_option linter.unusedSimpArgs false
set_option linter.unusedVariables false
set_option maxHeartbeats 4000000

def tm1 (a b x z : Int) : Int := wrap64 (wrap64 (a * x) + wrap64 (b * z))
abbrev fCoShift : Nat := 42
def cCoShift : Ctr
  | [.i t] => some ⟨True, .one (.s [1, t, 0, 1]), []⟩
  | _ => none
theorem okCoShift : CtrOk Try.prog fCoShift cCoShift := by
  have hsp : SpecOk Try.prog (specOf []) := SpecOk.nil
  refine ctr_of (fn := Try.f42) mixed tab_ok hsp Try.func42 (by kernel_rfl) (by kernel_rfl) fun args ce h => ?_
  clear hsp
  unfold cCoShift at h
  split at h
  case h_2 => cases h
  rename_i t
  simp only [Option.some.injEq] at h
  subst h
  refine ⟨by rfl, fun hp => ⟨0, 1000, ?_⟩⟩
  simp only [vc, out, effCopy, finD, St.drop, vwAt, Entry.vwO, RC.vwO, dropAt, A0.dr, AV.dr, noneNames, viewS, viewV, viewTo, A0.vwT, AV.vwT, viewOk, viewEn, appView, hdSlc, A0.mv1, AV.mv1, Entry.toO, toOf, A0.mv, AV.mv, mvTo, St.res, nxtH, makeRows, effMakeSl, storeRow, step, stepE, stepPick, stepG, stepO, stepC, eff, look, rem, St.put, St.setMem, setMems, St.after, St.eval, cst, setAt, val1, okNew, newHs, allHs, rdOf, outHs, Reg.item, Reg.next, Reg.skip, slotOf, effBox, effAlloc, entryRow, fieldOff, effField, loadI, load1, loadR, effLoad, storeI, storeB, storeR, szOk, storeTo, effStore, buildOf, effBuild, binInt, eqI, boolOf, binBool, effBin, effUn, effPick, effExtract, ivs, svs, rowOf, allParts, effBuildSlice, zeroRow, effMakeSlice, elemSz, idxA, idxS, effIndex, lenOf, readOf, subPre, maxRow, plainTI, appTo, effAppend, slcOf, effSlice, argOf, resA, resL, resV, outWr, nodupB, restOk, argsPre, argOk, callWr, effCall, effMax, RC.flat, effBox2, boxPair, compOf, innerOf, innerPre, fieldTwo, loadO, loadN, storeN, buildTwo, effBuild2, buildRows, effBuildSl, appRows, effApp2, plainA, callIn, outsEmpty, callGo, MC.get, MC.has, MC.put, mcTI, keyTI, emptyMC, effMakeMap, mapIn, hOf1, lookV, effLookup, mapBack, effUpdate, effNil, effMin, effIndexV, cutSlc, arrElem, cutOf, wrHs, disj, AV.hs, A0.hs, Entry.hs, RC.elem, RC.sz, RC.len, RC.slice, RC.app, hA, initFr, initMem, initSt, resOf, resAll, compEq, compsEq, rowHs, outHds, outsEq, shapeOk, finOk, comps, A0.norm, AV.norm, specOf, t_int, t_bool, t_implForm, t_implMatrix, t_implunited, ts_int, ts_implForm, tss_int, tm_implForm, t_implclassGroup, Option.getD_some, Option.getD_none, cond_true, cond_false, Nat.reduceBEq, List.map_cons, List.map_nil, List.set_cons_zero, List.set_cons_succ, List.getElem?_cons_zero, List.getElem?_cons_succ, List.drop_zero, List.drop_succ_cons, List.take_succ_cons, List.take_zero, Option.map_some, Option.map_none, Option.bind_some, Nat.zero_add, Nat.add_zero, Nat.reduceAdd, Nat.reduceMul, true_and, and_true, List.replicate_succ, List.replicate_zero, List.length_cons, List.length_nil, List.all_cons, List.all_nil, List.any_cons, List.any_nil, Bool.and_true, Bool.true_and, Bool.and_false, Bool.false_and, Bool.or_true, Bool.true_or, Bool.or_false, Bool.false_or, Bool.not_true, Bool.not_false, List.append_nil, List.nil_append, List.cons_append, List.flatMap_cons, List.flatMap_nil, List.contains_cons, List.contains_nil, List.filter_cons, List.filter_nil, beq_self_eq_true, Bool.not_eq_true, A0.b.injEq, A0.i.injEq, A0.s.injEq, A0.rw.injEq, A0.fn.injEq, List.cons.injEq, RC.ints.injEq, RC.recs.injEq, RC.bools.injEq, RC.mp.injEq, RC.grp.injEq, RC.rows.injEq, MC.ints.injEq, MC.bools.injEq, AV.one.injEq, AV.tup.injEq, ble_dec, blt_dec, Nat.reduceLeDiff, Nat.reduceSub, decide_true, decide_false, and_self, List.toList_toArray, Option.isSome_some, Option.isSome_none, List.elem_nil, List.elem_cons, ite_true, ite_false, Bool.false_eq_true, if_true, if_false, reduceIte, flatB_2, flatB_3, flatB_4, List.headD_cons, List.tail_cons, Try.f42]

def pairB (a b c x y z : Int) : Bool := classB a b c && (classB x y z && discI a b c == discI x y z)
-- (not in this seat: ArePair)
-- (not in this seat: CoTwo)
/-- a class form's reduced form -/
theorem class_rp {a b c : Int} (h : classB a b c = true) : RP (dsc (a, b, c)) (rdA a b c, rdB a b c, rdC a b c) ∧ domB a b c = true := by
  have hd := class_domB h
  obtain ⟨_, h1, h2, _⟩ := class_disc h
  have hr := rdx_red (x := (a, b, c)) hd
  have e : rdx (a, b, c) = (rdA a b c, rdB a b c, rdC a b c) := (rd3_eq hd).symm
  have hp : Prim (a, b, c) := by
    simp only [classB, shownB, defB, formB, Bool.and_eq_true, areB_iff, beq_iff_eq] at h
    obtain ⟨⟨⟨⟨g1, g2, g3⟩, _⟩, _⟩, g4⟩ := h
    have k := gcd_le (a := b) (b := c) (by omega) (by omega)
    rw [gcdI_eq (a := b) (by omega) (by omega), gcdI_eq (by omega) (by omega)] at g4
    exact prim_of (by omega)
  have hp2 := hp.eqv (eqv_rdx _)
  rw [e] at hr hp2
  exact ⟨⟨hr, hp2, h1, h2⟩, hd⟩
def CuPre (a b c x y z : Int) : Prop := domB a b c = true ∧ domB x y z = true ∧ UnPre (rdA a b c) (rdB a b c) (rdC a b c) (rdA x y z) (rdB x y z) (rdC x y z)
theorem pair_cu {a b c x y z : Int} (h : pairB a b c x y z = true) : CuPre a b c x y z := by
  simp only [pairB, Bool.and_eq_true, beq_iff_eq] at h
  obtain ⟨h1, h2, h3⟩ := h
  obtain ⟨r1, d1⟩ := class_rp h1
  obtain ⟨r2, d2⟩ := class_rp h2
  rw [(class_disc h1).1, (class_disc h2).1] at h3
  rw [← h3] at r2
  exact ⟨d1, d2, _, r1, r2⟩
structure UNums (f g : F3) : Prop where
  w2a : wrap64 (2 * f.1) = 2 * f.1
  w2e : wrap64 (2 * uE f g) = 2 * uE f g
  b1 : modI f.2.1 (2 * f.1) = uB1 f
  a0 : 2 * f.1 ≠ 0
  e0 : 2 * uE f g ≠ 0
  ae : wrap64 (wrap64 (4 * f.1) * uE f g) ≠ 0
  c : wrap64 ((wrap64 (wrap64 (uB f g * uB f g) - discI f.1 f.2.1 f.2.2)).tdiv (wrap64 (wrap64 (4 * f.1) * uE f g))) = uC f g
  s1 : wrap64 ((wrap64 (uB f g - f.2.1)).tdiv (2 * f.1)) = uS1 f g
  s2 : wrap64 ((wrap64 (uB f g - (uH f g).2.1)).tdiv (2 * uE f g)) = uS2 f g
  ec : wrap64 (uE f g * uC f g) = uE f g * uC f g
  ac : wrap64 (f.1 * uC f g) = f.1 * uC f g
  wae : wrap64 (f.1 * uE f g) = f.1 * uE f g
  cm : uB1 f + 2 * f.1 * cmT (uB1 f) (2 * f.1) (uH f g).2.1 (2 * uE f g) = uB f g
  cp : CmPre (uB1 f) (2 * f.1) (uH f g).2.1 (2 * uE f g)
theorem un_nums {D : Int} {f g : F3} (hf : RP D f) (hg : RP D g) : UNums f g := by
  have h1 := hf.a25
  have hfb := hf.red.abs
  have hcc := hf.c700
  have hus := us_small hf hg
  have hub := uB_bd hf hg
  have hab := aE_bd hf hg
  have huc := uC_bd hf hg
  have hfd := hf.dsc
  obtain ⟨d1, d2, d3⟩ := disc_small (a := f.1) (b := f.2.1) (c := f.2.2) h1 ⟨by omega, by omega⟩ hcc
  obtain ⟨e0, e1, _, iv, hB, b1, par, tb, da, de, dc, _, _, _⟩ := uni_ok hf hg
  have g1 : 2 * f.1 * uE f g = 2 * (f.1 * uE f g) := Int.mul_assoc _ _ _
  have g2 : 4 * f.1 * uE f g = 4 * (f.1 * uE f g) := Int.mul_assoc _ _ _
  have f2 : wrap64 (wrap64 (4 * f.1) * uE f g) = 4 * f.1 * uE f g := by rw [wrap_id (n := 4 * f.1) (by omega) (by omega), wrap_id (by omega) (by omega)]
  have q2 := mul_bd (a := uB f g) (b := uB f g) (j := 1750000) (k := 1750000) (by omega) (by omega) ⟨by omega, by omega⟩ ⟨by omega, by omega⟩
  have q3 := mul_bd (a := uE f g) (b := uC f g) (j := 35000) (k := 876000) (by omega) (by omega) ⟨by omega, by omega⟩ ⟨by omega, by omega⟩
  have q4 := mul_bd (a := f.1) (b := uC f g) (j := 25) (k := 876000) (by omega) (by omega) ⟨by omega, by omega⟩ ⟨by omega, by omega⟩
  have hd : discI f.1 f.2.1 f.2.2 = D := by rw [d1]; exact hfd
  have hlo := hf.lo
  have hhi := hf.hi
  refine ⟨wrap_id (by omega) (by omega), wrap_id (by omega) (by omega), modI_eq (by omega) (by omega), by omega, by omega, by omega, ?_, ?_, ?_, wrap_id (by omega) (by omega), wrap_id (by omega) (by omega), wrap_id (by omega) (by omega), ?_, ?_⟩
  · rw [f2, hd, wrap_id (n := uB f g * uB f g) (by omega) (by omega), wrap_id (n := _ - _) (by omega) (by omega), dc, Int.mul_tdiv_cancel_left _ (by omega), wrap_id (by omega) (by omega)]
  · rw [wrap_id (n := _ - _) (by omega) (by omega), da, Int.mul_tdiv_cancel_left _ (by omega), wrap_id (by omega) (by omega)]
  · rw [wrap_id (n := _ - _) (by omega) (by omega), de, Int.mul_tdiv_cancel_left _ (by omega), wrap_id (by omega) (by omega)]
  · unfold uB uT cmT
    rw [Int.mul_ediv_cancel_left _ (by omega), Int.mul_ediv_cancel_left _ (by omega)]
  · refine ⟨by omega, by omega, by omega, by omega, ?_, b1, hB, par⟩
    rw [Int.mul_ediv_cancel_left _ (by omega), Int.mul_ediv_cancel_left _ (by omega)]
    exact iv
theorem tm_step (P Q X Y U V s r : Int) : wrap64 (wrap64 (wrap64 (wrap64 (P * X) + wrap64 (Q * Y)) * s) + wrap64 (wrap64 (wrap64 (P * U) + wrap64 (Q * V)) * r)) = tm1 P Q (X * s + U * r) (Y * s + V * r) := by
  simp only [tm1, wrap_add_l, wrap_add_r, wrap_mul_l]
  congr 1
  grind
abbrev fCoUnite : Nat := 28
def cCoUnite : Ctr
  | [.s [a, b, c], .s [x, y, z]] => some ⟨CuPre a b c x y z, .tup [.s [rdA a b c, uB (rdA a b c, rdB a b c, rdC a b c) (rdA x y z, rdB x y z, rdC x y z), uE (rdA a b c, rdB a b c, rdC a b c) (rdA x y z, rdB x y z, rdC x y z) * uC (rdA a b c, rdB a b c, rdC a b c) (rdA x y z, rdB x y z, rdC x y z)], .s [uE (rdA a b c, rdB a b c, rdC a b c) (rdA x y z, rdB x y z, rdC x y z), uB (rdA a b c, rdB a b c, rdC a b c) (rdA x y z, rdB x y z, rdC x y z), rdA a b c * uC (rdA a b c, rdB a b c, rdC a b c) (rdA x y z, rdB x y z, rdC x y z)], .s [tm1 (rdP a b c) (rdQ a b c) 1 0, tm1 (rdP a b c) (rdQ a b c) (uS1 (rdA a b c, rdB a b c, rdC a b c) (rdA x y z, rdB x y z, rdC x y z)) 1, tm1 (rdR a b c) (rdS a b c) 1 0, tm1 (rdR a b c) (rdS a b c) (uS1 (rdA a b c, rdB a b c, rdC a b c) (rdA x y z, rdB x y z, rdC x y z)) 1], .s [tm1 (rdP x y z) (rdQ x y z) (uMP (rdA a b c, rdB a b c, rdC a b c) (rdA x y z, rdB x y z, rdC x y z)) (uMR (rdA a b c, rdB a b c, rdC a b c) (rdA x y z, rdB x y z, rdC x y z)), tm1 (rdP x y z) (rdQ x y z) (uMQ (rdA a b c, rdB a b c, rdC a b c) (rdA x y z, rdB x y z, rdC x y z)) (uMS (rdA a b c, rdB a b c, rdC a b c) (rdA x y z, rdB x y z, rdC x y z)), tm1 (rdR x y z) (rdS x y z) (uMP (rdA a b c, rdB a b c, rdC a b c) (rdA x y z, rdB x y z, rdC x y z)) (uMR (rdA a b c, rdB a b c, rdC a b c) (rdA x y z, rdB x y z, rdC x y z)), tm1 (rdR x y z) (rdS x y z) (uMQ (rdA a b c, rdB a b c, rdC a b c) (rdA x y z, rdB x y z, rdC x y z)) (uMS (rdA a b c, rdB a b c, rdC a b c) (rdA x y z, rdB x y z, rdC x y z))]], []⟩
  | _ => none
theorem okCoUnite : CtrOk Try.prog fCoUnite cCoUnite := by
  have hsp : SpecOk Try.prog (specOf [(fReReduce, cReReduce), (fCoPoint, cCoPoint), (fVaComp, cVaComp), (fFoMul, cFoMul), (fNuMod, cNuMod), (fNuCommon, cNuCommon), (fCoShift, cCoShift), (fFoDisc, cFoDisc)]) := (SpecOk.cons okReReduce (SpecOk.cons okCoPoint (SpecOk.cons okVaComp (SpecOk.cons okFoMul (SpecOk.cons okNuMod (SpecOk.cons okNuCommon (SpecOk.cons okCoShift (SpecOk.cons okFoDisc SpecOk.nil))))))))
  refine ctr_of (fn := Try.f28) mixed tab_ok hsp Try.func28 (by kernel_rfl) (by kernel_rfl) fun args ce h => ?_
  clear hsp
  unfold cCoUnite at h
  split at h
  case h_2 => cases h
  rename_i a b c x y z
  simp only [Option.some.injEq] at h
  subst h
  refine ⟨by rfl, fun hp => ⟨0, 1000, ?_⟩⟩
  simp only [↓cond_to_ite, ↓reduceIte, vc, out, effCopy, finD, St.drop, vwAt, Entry.vwO, RC.vwO, dropAt, A0.dr, AV.dr, noneNames, viewS, viewV, viewTo, A0.vwT, AV.vwT, viewOk, viewEn, appView, hdSlc, A0.mv1, AV.mv1, Entry.toO, toOf, A0.mv, AV.mv, mvTo, St.res, nxtH, makeRows, effMakeSl, storeRow, step, stepE, stepPick, stepG, stepO, stepC, eff, look, rem, St.put, St.setMem, setMems, St.after, St.eval, cst, setAt, val1, okNew, newHs, allHs, rdOf, outHs, Reg.item, Reg.next, Reg.skip, slotOf, effBox, effAlloc, entryRow, fieldOff, effField, loadI, load1, loadR, effLoad, storeI, storeB, storeR, szOk, storeTo, effStore, buildOf, effBuild, binInt, eqI, boolOf, binBool, effBin, effUn, effPick, effExtract, ivs, svs, rowOf, allParts, effBuildSlice, zeroRow, effMakeSlice, elemSz, idxA, idxS, effIndex, lenOf, readOf, subPre, maxRow, plainTI, appTo, effAppend, slcOf, effSlice, argOf, resA, resL, resV, outWr, nodupB, restOk, argsPre, argOk, callWr, effCall, effMax, RC.flat, effBox2, boxPair, compOf, innerOf, innerPre, fieldTwo, loadO, loadN, storeN, buildTwo, effBuild2, buildRows, effBuildSl, appRows, effApp2, plainA, callIn, outsEmpty, callGo, MC.get, MC.has, MC.put, mcTI, keyTI, emptyMC, effMakeMap, mapIn, hOf1, lookV, effLookup, mapBack, effUpdate, effNil, effMin, effIndexV, cutSlc, arrElem, cutOf, wrHs, disj, AV.hs, A0.hs, Entry.hs, RC.elem, RC.sz, RC.len, RC.slice, RC.app, hA, initFr, initMem, initSt, resOf, resAll, compEq, compsEq, rowHs, outHds, outsEq, shapeOk, finOk, comps, A0.norm, AV.norm, specOf, t_int, t_bool, t_implForm, t_implMatrix, t_implunited, ts_int, ts_implForm, tss_int, tm_implForm, t_implclassGroup, Option.getD_some, Option.getD_none, cond_true, cond_false, Nat.reduceBEq, List.map_cons, List.map_nil, List.set_cons_zero, List.set_cons_succ, List.getElem?_cons_zero, List.getElem?_cons_succ, List.drop_zero, List.drop_succ_cons, List.take_succ_cons, List.take_zero, Option.map_some, Option.map_none, Option.bind_some, Nat.zero_add, Nat.add_zero, Nat.reduceAdd, Nat.reduceMul, true_and, and_true, List.replicate_succ, List.replicate_zero, List.length_cons, List.length_nil, List.all_cons, List.all_nil, List.any_cons, List.any_nil, Bool.and_true, Bool.true_and, Bool.and_false, Bool.false_and, Bool.or_true, Bool.true_or, Bool.or_false, Bool.false_or, Bool.not_true, Bool.not_false, List.append_nil, List.nil_append, List.cons_append, List.flatMap_cons, List.flatMap_nil, List.contains_cons, List.contains_nil, List.filter_cons, List.filter_nil, beq_self_eq_true, Bool.not_eq_true, A0.b.injEq, A0.i.injEq, A0.s.injEq, A0.rw.injEq, A0.fn.injEq, List.cons.injEq, RC.ints.injEq, RC.recs.injEq, RC.bools.injEq, RC.mp.injEq, RC.grp.injEq, RC.rows.injEq, MC.ints.injEq, MC.bools.injEq, AV.one.injEq, AV.tup.injEq, ble_dec, blt_dec, Nat.reduceLeDiff, Nat.reduceSub, decide_true, decide_false, and_self, List.toList_toArray, Option.isSome_some, Option.isSome_none, List.elem_nil, List.elem_cons, ite_true, ite_false, Bool.false_eq_true, if_true, if_false, reduceIte, flatB_2, flatB_3, flatB_4, List.headD_cons, List.tail_cons, cReReduce, fReReduce, cCoPoint, fCoPoint, cVaComp, fVaComp, cFoMul, fFoMul, cNuMod, fNuMod, cNuCommon, fNuCommon, cCoShift, fCoShift, cFoDisc, fFoDisc, timesI, Try.f28]
  obtain ⟨hd1, hd2, D, hf, hg⟩ : CuPre a b c x y z := hp
  generalize rdA a b c = A at *
  generalize rdB a b c = B at *
  generalize rdC a b c = C at *
  generalize rdA x y z = F at *
  generalize rdB x y z = G at *
  generalize rdC x y z = H at *
  generalize rdP x y z = P at *
  generalize rdQ x y z = Q at *
  generalize rdR x y z = R at *
  generalize rdS x y z = S at *
  have n := un_nums hf hg
  have eE : vl (F, G, H) (fpX (F, G, H) A) (fpY (F, G, H) A) = uE (A, B, C) (F, G, H) := rfl
  have eH : cpB F G H (fpX (F, G, H) A) (fpY (F, G, H) A) = (uH (A, B, C) (F, G, H)).2.1 := rfl
  have w2a : wrap64 (2 * A) = 2 * A := n.w2a
  have w2e := n.w2e
  have b1 : modI B (2 * A) = uB1 (A, B, C) := n.b1
  have cm : uB1 (A, B, C) + 2 * A * cmT (uB1 (A, B, C)) (2 * A) (uH (A, B, C) (F, G, H)).2.1 (2 * uE (A, B, C) (F, G, H)) = uB (A, B, C) (F, G, H) := n.cm
  have nc : wrap64 ((wrap64 (wrap64 (uB (A, B, C) (F, G, H) * uB (A, B, C) (F, G, H)) - discI A B C)).tdiv (wrap64 (wrap64 (4 * A) * uE (A, B, C) (F, G, H)))) = uC (A, B, C) (F, G, H) := n.c
  have ns1 : wrap64 ((wrap64 (uB (A, B, C) (F, G, H) - B)).tdiv (2 * A)) = uS1 (A, B, C) (F, G, H) := n.s1
  have ns2 := n.s2
  rw [eE, eH, w2a, w2e, b1, cm, nc, ns1, ns2]
  exact ⟨hd1, hd2, ⟨5, by omega, un_fp hf hg⟩, un_cp hf hg, n.a0, n.cp, by kernel_rfl, n.a0, by kernel_rfl, n.e0, by kernel_rfl, n.ae, by kernel_rfl, by kernel_rfl, rfl, ⟨rfl, n.ec⟩, ⟨rfl, rfl, n.ac⟩, ⟨rfl, rfl, rfl, rfl⟩, tm_step .., tm_step .., tm_step .., tm_step ..⟩
end Go.Proofs.Ythcnaeahmdapbaa
