/-
  Contracts of IsAmbiguousClass, AmbiguousKind, IsIdentity and EquivalenceMatrix on both sides, and of their laws. Conditions: none.
-/
import Derived.Test.YtacomnelongbjabRdc
import Derived.Test.YtacomnelongbjabInv
import Derived.Test.YtacomnelongbjabLst4
namespace Go.Proofs.Ytacomnelongbjab
open Go Go.RowKit
set_option maxRecDepth 100000
set_option linter.unusedSimpArgs false
set_option linter.unusedVariables false
set_option maxHeartbeats 4000000

abbrev fIsAmb : Nat := 49
def cIsAmb : Ctr
  | [.s [a, b, c]] => some ⟨True, .one (.b (ambB (a, b, c))), []⟩
  | _ => none
theorem okIsAmb : CtrOk Try.prog fIsAmb cIsAmb := by
  have hsp : SpecOk Try.prog (specOf []) := SpecOk.nil
  refine ctr_of (fn := Try.f49) mixed tab_ok hsp Try.func49 (by kernel_rfl) (by kernel_rfl) fun args ce h => ?_
  clear hsp
  unfold cIsAmb at h
  split at h
  case h_2 => cases h
  rename_i a b c
  simp only [Option.some.injEq] at h
  subst h
  refine ⟨by rfl, fun hp => ⟨0, 1000, ?_⟩⟩
  simp only [vc, out, effCopy, finD, St.drop, vwAt, Entry.vwO, RC.vwO, dropAt, A0.dr, AV.dr, noneNames, viewS, viewV, viewTo, A0.vwT, AV.vwT, viewOk, viewEn, appView, hdSlc, A0.mv1, AV.mv1, Entry.toO, toOf, A0.mv, AV.mv, mvTo, St.res, nxtH, makeRows, effMakeSl, storeRow, step, stepE, stepPick, stepG, stepO, stepC, eff, look, rem, St.put, St.setMem, setMems, St.after, St.eval, cst, setAt, val1, okNew, newHs, allHs, rdOf, outHs, Reg.item, Reg.next, Reg.skip, slotOf, effBox, effAlloc, entryRow, fieldOff, effField, loadI, load1, loadR, effLoad, storeI, storeB, storeR, szOk, storeTo, effStore, buildOf, effBuild, binInt, eqI, boolOf, binBool, effBin, effUn, effPick, effExtract, ivs, svs, rowOf, allParts, effBuildSlice, zeroRow, effMakeSlice, elemSz, idxA, idxS, effIndex, lenOf, readOf, subPre, maxRow, plainTI, appTo, effAppend, slcOf, effSlice, argOf, resA, resL, resV, outWr, nodupB, restOk, argsPre, argOk, callWr, effCall, effMax, RC.flat, effBox2, boxPair, compOf, innerOf, innerPre, fieldTwo, loadO, loadN, storeN, buildTwo, effBuild2, buildRows, effBuildSl, appRows, effApp2, plainA, callIn, outsEmpty, callGo, MC.get, MC.has, MC.put, mcTI, keyTI, emptyMC, effMakeMap, mapIn, hOf1, lookV, effLookup, mapBack, effUpdate, effNil, effMin, effIndexV, cutSlc, arrElem, cutOf, boxWord, boxRow, effBox3, allocWord, effAlloc2, loadWd, loadWord, loadSl, effLoad2, storeWd, storeWord, storeCi, storeSl, effStore2, buildWord, effBuild3, fieldWord, effField2, signOf, appWd, appWord, effAppend2, effClo, plainS, cloGo, callClo, argCl, inHs, calleeHs, resWd, effNil2, fieldCur, effField3, loadCu, loadOe, loadCe, effLoad3, storeCu, storeOe, effStore3, lenOf2, idxCs, idxCur, effIndex2, effConv, binU, effBin2, buildCur, effBuild4, boxCur, effBox4, cuX, cuArg, plainV, cuGo, callCu, callCo, effCall2, argCo, initC, eqPl, curIs, finC, noCur, wrHs, disj, AV.hs, A0.hs, Entry.hs, RC.elem, RC.sz, RC.len, RC.slice, RC.app, hA, initFr, initMem, initSt, resOf, resAll, compEq, compsEq, rowHs, outHds, outsEq, shapeOk, finOk, comps, A0.norm, AV.norm, specOf, t_int, t_bool, t_implForm, t_implPoint, ts_int, ts_bool, ts_implForm, ts_implPoint, t_u8, t_u64, ts_u8, t_l1Cur, Option.getD_some, Option.getD_none, cond_true, cond_false, Nat.reduceBEq, List.map_cons, List.map_nil, List.set_cons_zero, List.set_cons_succ, List.getElem?_cons_zero, List.getElem?_cons_succ, List.drop_zero, List.drop_succ_cons, List.take_succ_cons, List.take_zero, Option.map_some, Option.map_none, Option.bind_some, Nat.zero_add, Nat.add_zero, Nat.reduceAdd, Nat.reduceMul, true_and, and_true, List.replicate_succ, List.replicate_zero, List.length_cons, List.length_nil, List.all_cons, List.all_nil, List.any_cons, List.any_nil, Bool.and_true, Bool.true_and, Bool.and_false, Bool.false_and, Bool.or_true, Bool.true_or, Bool.or_false, Bool.false_or, Bool.not_true, Bool.not_false, List.append_nil, List.nil_append, List.cons_append, List.flatMap_cons, List.flatMap_nil, List.contains_cons, List.contains_nil, List.filter_cons, List.filter_nil, beq_self_eq_true, Bool.not_eq_true, A0.b.injEq, A0.i.injEq, A0.s.injEq, A0.rw.injEq, A0.fn.injEq, List.cons.injEq, RC.ints.injEq, RC.recs.injEq, RC.bools.injEq, RC.mp.injEq, RC.grp.injEq, RC.rows.injEq, RC.wd.injEq, RC.bx.injEq, RC.clo.injEq, Entry.cu.injEq, Entry.st.injEq, MC.ints.injEq, MC.bools.injEq, AV.one.injEq, AV.tup.injEq, ble_dec, blt_dec, Nat.reduceLeDiff, Nat.reduceSub, decide_true, decide_false, and_self, List.toList_toArray, Option.isSome_some, Option.isSome_none, List.elem_nil, List.elem_cons, ite_true, ite_false, Bool.false_eq_true, if_true, if_false, reduceIte, flatB_2, flatB_3, flatB_4, List.headD_cons, List.tail_cons, Try.f49]
  unfold ambB
  cases (b == 0) <;> cases (a == b) <;> cases (a == c) <;> rfl
def rd3 (a b c : Int) : F3 := (rdA a b c, rdB a b c, rdC a b c)
theorem rd3_eq {a b c : Int} (h : domB a b c = true) : rd3 a b c = rdx (a, b, c) := by
  obtain ⟨e1, e2, e3, _⟩ := rd_eqs h
  unfold rd3
  rw [e1, e2, e3]
theorem eqI_3 (a b c x y z : Int) : (bif a == x then (bif b == y then (bif c == z then true else false) else false) else false) = decide ((a, b, c) = (x, y, z)) := by
  rw [Bool.eq_iff_iff]
  cases h1 : (a == x) <;> cases h2 : (b == y) <;> cases h3 : (c == z) <;> simp_all
-- (not in this seat: GeAmb)
-- (not in this seat: IsAmbC)
-- (not in this seat: SIsAmbC)
-- (not in this seat: LawIsAmb)
def kindI (x : F3) : Int := bif x.2.1 == 0 then 1 else bif x.1 == x.2.1 then 2 else bif x.1 == x.2.2 then 3 else 0
-- (not in this seat: AmbKind)
-- (not in this seat: SAmbKind)
-- (not in this seat: LawAmbKind)
def idB (a b c : Int) : Bool := decide (rd3 a b c = prI (discI a b c))
theorem class_negB {a b c : Int} (h : classB a b c = true) : negB (discI a b c) = true := by
  obtain ⟨e1, e2, e3, e4⟩ := class_disc h
  rw [e1]
  simp only [negB, Bool.and_eq_true, decide_eq_true_eq]
  rw [modI_eq (by omega) (by omega)]
  omega
-- (not in this seat: IsId)
-- (not in this seat: IsIdent)
-- (not in this seat: SIsIdent)
-- (not in this seat: LawIsId)

/-! ### EquivalenceMatrix -/
def md (a b c : Int) : M4 := (rdP a b c, rdQ a b c, rdR a b c, rdS a b c)
theorem md_eq {a b c : Int} (h : domB a b c = true) : md a b c = redM (a, b, c) := by
  obtain ⟨_, _, _, e1, e2, e3, e4⟩ := rd_eqs h
  unfold md
  rw [e1, e2, e3, e4]
def emM (a b c x y z : Int) : List Int :=
  timesI (rdP a b c) (rdQ a b c) (rdR a b c) (rdS a b c) (wrap64 (detI (rdP x y z) (rdQ x y z) (rdR x y z) (rdS x y z) * rdS x y z)) (wrap64 (wrap64 (0 - detI (rdP x y z) (rdQ x y z) (rdR x y z) (rdS x y z)) * rdQ x y z)) (wrap64 (wrap64 (0 - detI (rdP x y z) (rdQ x y z) (rdR x y z) (rdS x y z)) * rdR x y z)) (wrap64 (detI (rdP x y z) (rdQ x y z) (rdR x y z) (rdS x y z) * rdP x y z))
def emP (a b c x y z : Int) : Int := (emM a b c x y z).getD 0 0
def emQ (a b c x y z : Int) : Int := (emM a b c x y z).getD 1 0
def emR (a b c x y z : Int) : Int := (emM a b c x y z).getD 2 0
def emS (a b c x y z : Int) : Int := (emM a b c x y z).getD 3 0
theorem emM_eq (a b c x y z : Int) : emM a b c x y z = [emP a b c x y z, emQ a b c x y z, emR a b c x y z, emS a b c x y z] := rfl
def emOk (a b c x y z : Int) : Bool := (defB a b c && defB x y z) && (decide ((rdA a b c, rdB a b c, rdC a b c) = (rdA x y z, rdB x y z, rdC x y z)) && matB (emP a b c x y z) (emQ a b c x y z) (emR a b c x y z) (emS a b c x y z))
-- (not in this seat: EquivM)
-- (not in this seat: SEquivM)
-- (not in this seat: LawEquivM)
end Go.Proofs.Ytacomnelongbjab
