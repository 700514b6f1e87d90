/-
  Contracts of ReducedBasis on both sides, and of its law. Conditions: none.
-/
import Derived.Test.YthcnaeahmdapbadRt
import Derived.Test.YthcnaeahmdapbadLst2
namespace Go.Proofs.Ythcnaeahmdapbad
open Go Go.RowKit
set_option maxRecDepth 100000
set_option linter.unusedSimpArgs false
set_option linter.unusedVariables false
set_option maxHeartbeats 4000000

-- (not in this seat: ToLattice)
/-! ### lattices -/
def latB (l m n : Int) : Bool := inI l 1 1000 && (inI n 1 1000 && (decide (m ≥ 0) && decide (m < l)))
theorem latB_iff {l m n : Int} (h : latB l m n = true) : (1 ≤ l ∧ l ≤ 1000) ∧ (1 ≤ n ∧ n ≤ 1000) ∧ 0 ≤ m ∧ m < l := by
  simp only [latB, inI, Bool.and_eq_true, decide_eq_true_eq] at h
  omega
-- (not in this seat: IsLattice)
-- (not in this seat: LaGood)
def laG (a b c l m n : Int) : F3 := (valI a b c l 0, polI a b c l 0 m n, valI a b c m n)
def olB (a b c l m n : Int) : Bool := defB a b c && (latB l m n && formB (laG a b c l m n).1 (laG a b c l m n).2.1 (laG a b c l m n).2.2)
-- (not in this seat: LaForm)
theorem mul3L {a x y : Int} (ha : -2000000 ≤ a ∧ a ≤ 2000000) (hx : -1000 ≤ x ∧ x ≤ 1000) (hy : -1000 ≤ y ∧ y ≤ 1000) : -2000000000000 ≤ a * x * y ∧ a * x * y ≤ 2000000000000 := by
  have h1 := mul_bd (a := a) (b := x) (j := 2000000) (k := 1000) (by omega) (by omega) ha hx
  have h2 := mul_bd (a := a * x) (b := y) (j := 2000000000) (k := 1000) (by omega) (by omega) ⟨by omega, by omega⟩ hy
  omega
theorem lat_eq {a b c l m n : Int} (ha : -1000000 ≤ a ∧ a ≤ 1000000) (hb : -1000000 ≤ b ∧ b ≤ 1000000) (hc : -1000000 ≤ c ∧ c ≤ 1000000) (hl : 1 ≤ l ∧ l ≤ 1000) (hn : 1 ≤ n ∧ n ≤ 1000) (hm : 0 ≤ m ∧ m < l) :
    (laG a b c l m n).1 = a * l * l ∧ (laG a b c l m n).2.1 = 2 * a * l * m + b * l * n ∧ (laG a b c l m n).2.2 = a * m * m + b * m * n + c * n * n := by
  have k1 := mul3L (a := a) (x := l) (y := l) (by omega) (by omega) (by omega)
  have k2 := mul3L (a := 2 * a) (x := l) (y := m) (by omega) (by omega) (by omega)
  have k3 := mul3L (a := b) (x := l) (y := n) (by omega) (by omega) (by omega)
  have k4 := mul3L (a := a) (x := m) (y := m) (by omega) (by omega) (by omega)
  have k5 := mul3L (a := b) (x := m) (y := n) (by omega) (by omega) (by omega)
  have k6 := mul3L (a := c) (x := n) (y := n) (by omega) (by omega) (by omega)
  unfold laG
  simp only
  rw [valI_eq, valI_eq, polI_eq]
  have e1 : a * l * l + b * l * 0 + c * 0 * 0 = a * l * l := by simp
  have e2 : 2 * a * l * m + b * (l * n + 0 * m) + 2 * c * 0 * n = 2 * a * l * m + b * l * n := by simp [Int.mul_assoc]
  rw [e1, e2]
  clear e1 e2 ha hb hc hl hn hm
  exact ⟨wrap_id (by omega) (by omega), wrap_id (by omega) (by omega), wrap_id (by omega) (by omega)⟩
theorem lat_def {a b c l m n : Int} (h : olB a b c l m n = true) : defB (laG a b c l m n).1 (laG a b c l m n).2.1 (laG a b c l m n).2.2 = true := by
  simp only [olB, Bool.and_eq_true] at h
  obtain ⟨h1, h2, h3⟩ := h
  obtain ⟨hl, hn, hm⟩ := latB_iff h2
  simp only [defB, formB, Bool.and_eq_true, decide_eq_true_eq, areB_iff] at h1
  obtain ⟨⟨ha, hb, hc⟩, hd, hp⟩ := h1
  rw [disc_id ha hb hc] at hd
  have g := h3
  simp only [formB, Bool.and_eq_true, areB_iff] at g
  obtain ⟨ga, gb, gc⟩ := g
  obtain ⟨e1, e2, e3⟩ := lat_eq ha hb hc hl hn hm
  unfold defB
  rw [h3, disc_id ga gb gc, e1, e2, e3]
  have key : (2 * a * l * m + b * l * n) * (2 * a * l * m + b * l * n) - 4 * (a * l * l) * (a * m * m + b * m * n + c * n * n) = l * n * (l * n) * (b * b - 4 * a * c) := by grind
  have p1 : 0 < l * n := Int.mul_pos (by omega) (by omega)
  have p2 := Int.mul_neg_of_pos_of_neg (Int.mul_pos p1 p1) hd
  have p3 : a * l * l > 0 := Int.mul_pos (Int.mul_pos hp (by omega)) (by omega)
  rw [key, decide_eq_true p2, decide_eq_true p3]; rfl
-- (not in this seat: FormOnLat)
-- (not in this seat: LaAsked)
theorem def_mat {a b c : Int} (h : defB a b c = true) : matB (rdP a b c) (rdQ a b c) (rdR a b c) (rdS a b c) = true := by
  have hd : F3.dom (a, b, c) = true := def_domB h
  have hs := redM_small0 hd
  have e := redL_eq hd
  unfold rdP rdQ rdR rdS
  rw [e]
  simp only [matB, Bool.and_eq_true, areB_iff]
  have h1 := hs.h1; have h2 := hs.h2; have h3 := hs.h3; have h4 := hs.h4
  omega
abbrev fReduceForm : Nat := 6
def cReduceForm : Ctr
  | [.s [a, b, c]] => some ⟨True, .tup [.s [onB (defB a b c) (rdA a b c), onB (defB a b c) (rdB a b c), onB (defB a b c) (rdC a b c)], .s [onB (defB a b c) (rdP a b c), onB (defB a b c) (rdQ a b c), onB (defB a b c) (rdR a b c), onB (defB a b c) (rdS a b c)], .b (defB a b c)], []⟩
  | _ => none
theorem okReduceForm : CtrOk Try.prog fReduceForm cReduceForm := by
  have hsp : SpecOk Try.prog (specOf [(fIsDef, cIsDef), (fReduce, cReduce), (fIsMatrix, cIsMatrix)]) := (SpecOk.cons okIsDef (SpecOk.cons okReduce (SpecOk.cons okIsMatrix SpecOk.nil)))
  refine ctr_of (fn := Try.f6) mixed tab_ok hsp Try.func6 (by kernel_rfl) (by kernel_rfl) fun args ce h => ?_
  clear hsp
  unfold cReduceForm at h
  split at h
  case h_2 => cases h
  rename_i a b c
  simp only [Option.some.injEq] at h
  subst h
  refine ⟨by rfl, fun hp => ⟨0, 1000, ?_⟩⟩
  simp only [vc, out, effCopy, finD, St.drop, vwAt, Entry.vwO, RC.vwO, dropAt, A0.dr, AV.dr, noneNames, viewS, viewV, viewTo, A0.vwT, AV.vwT, viewOk, viewEn, appView, hdSlc, A0.mv1, AV.mv1, Entry.toO, toOf, A0.mv, AV.mv, mvTo, St.res, nxtH, makeRows, effMakeSl, storeRow, step, stepE, stepPick, stepG, stepO, stepC, eff, look, rem, St.put, St.setMem, setMems, St.after, St.eval, cst, setAt, val1, okNew, newHs, allHs, rdOf, outHs, Reg.item, Reg.next, Reg.skip, slotOf, effBox, effAlloc, entryRow, fieldOff, effField, loadI, load1, loadR, effLoad, storeI, storeB, storeR, szOk, storeTo, effStore, buildOf, effBuild, binInt, eqI, boolOf, binBool, effBin, effUn, effPick, effExtract, ivs, svs, rowOf, allParts, effBuildSlice, zeroRow, effMakeSlice, elemSz, idxA, idxS, effIndex, lenOf, readOf, subPre, maxRow, plainTI, appTo, effAppend, slcOf, effSlice, argOf, resA, resL, resV, outWr, nodupB, restOk, argsPre, argOk, callWr, effCall, effMax, RC.flat, effBox2, boxPair, compOf, innerOf, innerPre, fieldTwo, loadO, loadN, storeN, buildTwo, effBuild2, buildRows, effBuildSl, appRows, effApp2, plainA, callIn, outsEmpty, callGo, MC.get, MC.has, MC.put, mcTI, keyTI, emptyMC, effMakeMap, mapIn, hOf1, lookV, effLookup, mapBack, effUpdate, effNil, effMin, effIndexV, cutSlc, arrElem, cutOf, boxWord, boxRow, effBox3, allocWord, effAlloc2, loadWd, loadWord, loadSl, effLoad2, storeWd, storeWord, storeCi, storeSl, effStore2, buildWord, effBuild3, fieldWord, effField2, signOf, appWd, appWord, effAppend2, effClo, plainS, cloGo, callClo, argCl, inHs, calleeHs, resWd, effNil2, fieldCur, effField3, loadCu, loadOe, loadCe, effLoad3, storeCu, storeOe, effStore3, lenOf2, idxCs, idxCur, effIndex2, effConv, binU, effBin2, buildCur, effBuild4, boxCur, effBox4, cuX, cuArg, plainV, cuGo, callCu, callCo, effCall2, argCo, initC, eqPl, curIs, finC, noCur, wrHs, disj, AV.hs, A0.hs, Entry.hs, RC.elem, RC.sz, RC.len, RC.slice, RC.app, hA, initFr, initMem, initSt, resOf, resAll, compEq, compsEq, rowHs, outHds, outsEq, shapeOk, finOk, comps, A0.norm, AV.norm, specOf, t_int, t_bool, t_implForm, t_implMatrix, ts_int, ts_implForm, t_u8, t_u64, ts_u8, t_l1Cur, Option.getD_some, Option.getD_none, cond_true, cond_false, Nat.reduceBEq, List.map_cons, List.map_nil, List.set_cons_zero, List.set_cons_succ, List.getElem?_cons_zero, List.getElem?_cons_succ, List.drop_zero, List.drop_succ_cons, List.take_succ_cons, List.take_zero, Option.map_some, Option.map_none, Option.bind_some, Nat.zero_add, Nat.add_zero, Nat.reduceAdd, Nat.reduceMul, true_and, and_true, List.replicate_succ, List.replicate_zero, List.length_cons, List.length_nil, List.all_cons, List.all_nil, List.any_cons, List.any_nil, Bool.and_true, Bool.true_and, Bool.and_false, Bool.false_and, Bool.or_true, Bool.true_or, Bool.or_false, Bool.false_or, Bool.not_true, Bool.not_false, List.append_nil, List.nil_append, List.cons_append, List.flatMap_cons, List.flatMap_nil, List.contains_cons, List.contains_nil, List.filter_cons, List.filter_nil, beq_self_eq_true, Bool.not_eq_true, A0.b.injEq, A0.i.injEq, A0.s.injEq, A0.rw.injEq, A0.fn.injEq, List.cons.injEq, RC.ints.injEq, RC.recs.injEq, RC.bools.injEq, RC.mp.injEq, RC.grp.injEq, RC.rows.injEq, RC.wd.injEq, RC.bx.injEq, RC.clo.injEq, Entry.cu.injEq, Entry.st.injEq, MC.ints.injEq, MC.bools.injEq, AV.one.injEq, AV.tup.injEq, ble_dec, blt_dec, Nat.reduceLeDiff, Nat.reduceSub, decide_true, decide_false, and_self, List.toList_toArray, Option.isSome_some, Option.isSome_none, List.elem_nil, List.elem_cons, ite_true, ite_false, Bool.false_eq_true, if_true, if_false, reduceIte, flatB_2, flatB_3, flatB_4, List.headD_cons, List.tail_cons, cIsDef, fIsDef, cReduce, fReduce, cIsMatrix, fIsMatrix, Try.f6]
  cases h : defB a b c with
  | false => exact ⟨by kernel_rfl, ⟨rfl, rfl, rfl⟩, ⟨rfl, rfl, rfl, rfl⟩, rfl⟩
  | true =>
    have hm := def_mat h
    rw [hm]
    exact ⟨def_domB h, by kernel_rfl, by kernel_rfl, ⟨rfl, rfl, rfl⟩, ⟨rfl, rfl, rfl, rfl⟩, rfl⟩
def lpX (l m x y : Int) : Int := wrap64 (wrap64 (x * l) + wrap64 (y * m))
-- (not in this seat: LatPoint)
-- (not in this seat: LaPoint)
def rbA (a b c l m n : Int) : List Int := [rdP (laG a b c l m n).1 (laG a b c l m n).2.1 (laG a b c l m n).2.2, rdQ (laG a b c l m n).1 (laG a b c l m n).2.1 (laG a b c l m n).2.2, rdR (laG a b c l m n).1 (laG a b c l m n).2.1 (laG a b c l m n).2.2, rdS (laG a b c l m n).1 (laG a b c l m n).2.1 (laG a b c l m n).2.2]
def rbP (a b c l m n : Int) : Int := rdP (laG a b c l m n).1 (laG a b c l m n).2.1 (laG a b c l m n).2.2
def rbQ (a b c l m n : Int) : Int := rdQ (laG a b c l m n).1 (laG a b c l m n).2.1 (laG a b c l m n).2.2
def rbR (a b c l m n : Int) : Int := rdR (laG a b c l m n).1 (laG a b c l m n).2.1 (laG a b c l m n).2.2
def rbS (a b c l m n : Int) : Int := rdS (laG a b c l m n).1 (laG a b c l m n).2.1 (laG a b c l m n).2.2
-- (not in this seat: RedBasis)
-- (not in this seat: SRedBasis)
-- (not in this seat: LawRedBasis)
end Go.Proofs.Ythcnaeahmdapbad
