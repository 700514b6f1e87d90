/-
  Lists of structs: how rows read as lists of tuples; contracts of the laws' helpers on them. Conditions: none.
-/
import Derived.Test.YthcnaeahmdapbabCls
namespace Go.Proofs.Ythcnaeahmdapbab
open Go Go.RowKit
set_option maxRecDepth 100000
set_option linter.unusedSimpArgs false
set_option linter.unusedVariables false
set_option maxHeartbeats 4000000

/-! ### rows of structs of three integers -/
def toF (x : List Int) : F3 := (x.getD 0 0, x.getD 1 0, x.getD 2 0)
def nth3 (l : List (List Int)) (q : Nat) : F3 := toF (l.getD q [0, 0, 0])
def fl (L : List F3) : List (List Int) := L.map F3.l
def unfl (l : List (List Int)) : List F3 := l.map toF
theorem rng3 (l : List (List Int)) (q : Nat) : (List.range 3).map (fun j => (l.getD q [0, 0, 0]).getD j 0) = [(nth3 l q).1, (nth3 l q).2.1, (nth3 l q).2.2] := rfl
theorem fld3_0 (l : List (List Int)) (q : Nat) : (l.getD q [0, 0, 0]).getD 0 0 = (nth3 l q).1 := rfl
theorem fld3_1 (l : List (List Int)) (q : Nat) : (l.getD q [0, 0, 0]).getD 1 0 = (nth3 l q).2.1 := rfl
theorem fld3_2 (l : List (List Int)) (q : Nat) : (l.getD q [0, 0, 0]).getD 2 0 = (nth3 l q).2.2 := rfl
theorem unfl_fl (L : List F3) : unfl (fl L) = L := by
  unfold unfl fl
  rw [List.map_map]
  exact (List.map_congr_left (fun x _ => rfl)).trans (List.map_id L)
theorem fl_length (L : List F3) : (fl L).length = L.length := by simp [fl]
theorem unfl_length (l : List (List Int)) : (unfl l).length = l.length := by simp [unfl]
theorem fl_nil : fl [] = [] := rfl
theorem fl_snoc (L : List F3) (x : F3) : fl L ++ [[x.1, x.2.1, x.2.2]] = fl (L ++ [x]) := by simp [fl, F3.l]
theorem nth3_eq (l : List (List Int)) (q : Nat) : nth3 l q = (unfl l).getD q (0, 0, 0) := by
  unfold nth3 unfl
  simp only [List.getD_eq_getElem?_getD, List.getElem?_map]
  cases l[q]? <;> rfl
theorem unfl_take (l : List (List Int)) {n : Nat} (h : n < l.length) : (unfl l).take (n + 1) = (unfl l).take n ++ [nth3 l n] := by
  rw [List.take_add_one, nth3_eq]
  have : n < (unfl l).length := by rw [unfl_length]; exact h
  simp [List.getD_eq_getElem?_getD, this]
theorem unfl_mem (l : List (List Int)) {n : Nat} (h : n < l.length) : nth3 l n ∈ unfl l := by
  rw [nth3_eq]
  have : n < (unfl l).length := by rw [unfl_length]; exact h
  simp [List.getD_eq_getElem?_getD, this]
theorem unfl_at {l : List (List Int)} {n : Nat} (h : n < l.length) : (unfl l)[n]? = some (nth3 l n) := by
  rw [nth3_eq]
  have : n < (unfl l).length := by rw [unfl_length]; exact h
  simp [List.getD_eq_getElem?_getD, this]
theorem wsucc {n m : Nat} (h : n < m) (hm : m ≤ 100000000000) : wrap64 ((n : Int) + 1) = ((n + 1 : Nat) : Int) := by
  rw [wrap_id (by omega) (by omega)]; omega
theorem ilt_iff {n m : Nat} : decide ((n : Int) < (m : Int)) = true ↔ n < m := by simp
theorem inlt_iff {n m : Nat} : decide ((n : Int) < (m : Int)) = false ↔ m ≤ n := by simp

/-- the first q elements are alike -/
theorem take_eq_full {α : Type} {l m : List α} (hl : l.length = m.length) {q : Nat} (hq : l.length ≤ q) (h : l.take q = m.take q) : l = m := by
  rwa [List.take_of_length_le hq, List.take_of_length_le (by omega)] at h

abbrev fToForm : Nat := 5
def cToForm : Ctr
  | [.s [a, b, c]] => some ⟨True, .one (.s [a, b, c]), []⟩
  | _ => none
theorem okToForm : CtrOk Try.prog fToForm cToForm := by
  have hsp : SpecOk Try.prog (specOf []) := SpecOk.nil
  refine ctr_of (fn := Try.f5) mixed tab_ok hsp Try.func5 (by kernel_rfl) (by kernel_rfl) fun args ce h => ?_
  clear hsp
  unfold cToForm at h
  split at h
  case h_2 => cases h
  rename_i a b c
  simp only [Option.some.injEq] at h
  subst h
  refine ⟨by rfl, fun hp => ⟨0, 1000, ?_⟩⟩
  simp only [vc, out, effCopy, finD, St.drop, vwAt, Entry.vwO, RC.vwO, dropAt, A0.dr, AV.dr, noneNames, viewS, viewV, viewTo, A0.vwT, AV.vwT, viewOk, viewEn, appView, hdSlc, A0.mv1, AV.mv1, Entry.toO, toOf, A0.mv, AV.mv, mvTo, St.res, nxtH, makeRows, effMakeSl, storeRow, step, stepE, stepPick, stepG, stepO, stepC, eff, look, rem, St.put, St.setMem, setMems, St.after, St.eval, cst, setAt, val1, okNew, newHs, allHs, rdOf, outHs, Reg.item, Reg.next, Reg.skip, slotOf, effBox, effAlloc, entryRow, fieldOff, effField, loadI, load1, loadR, effLoad, storeI, storeB, storeR, szOk, storeTo, effStore, buildOf, effBuild, binInt, eqI, boolOf, binBool, effBin, effUn, effPick, effExtract, ivs, svs, rowOf, allParts, effBuildSlice, zeroRow, effMakeSlice, elemSz, idxA, idxS, effIndex, lenOf, readOf, subPre, maxRow, plainTI, appTo, effAppend, slcOf, effSlice, argOf, resA, resL, resV, outWr, nodupB, restOk, argsPre, argOk, callWr, effCall, effMax, RC.flat, effBox2, boxPair, compOf, innerOf, innerPre, fieldTwo, loadO, loadN, storeN, buildTwo, effBuild2, buildRows, effBuildSl, appRows, effApp2, plainA, callIn, outsEmpty, callGo, MC.get, MC.has, MC.put, mcTI, keyTI, emptyMC, effMakeMap, mapIn, hOf1, lookV, effLookup, mapBack, effUpdate, effNil, effMin, effIndexV, cutSlc, arrElem, cutOf, boxWord, boxRow, effBox3, allocWord, effAlloc2, loadWd, loadWord, loadSl, effLoad2, storeWd, storeWord, storeCi, storeSl, effStore2, buildWord, effBuild3, fieldWord, effField2, signOf, appWd, appWord, effAppend2, effClo, plainS, cloGo, callClo, argCl, inHs, calleeHs, resWd, wrHs, disj, AV.hs, A0.hs, Entry.hs, RC.elem, RC.sz, RC.len, RC.slice, RC.app, hA, initFr, initMem, initSt, resOf, resAll, compEq, compsEq, rowHs, outHds, outsEq, shapeOk, finOk, comps, A0.norm, AV.norm, specOf, t_int, t_bool, t_implForm, t_lawsForm, t_implMatrix, ts_int, t_implWord, Option.getD_some, Option.getD_none, cond_true, cond_false, Nat.reduceBEq, List.map_cons, List.map_nil, List.set_cons_zero, List.set_cons_succ, List.getElem?_cons_zero, List.getElem?_cons_succ, List.drop_zero, List.drop_succ_cons, List.take_succ_cons, List.take_zero, Option.map_some, Option.map_none, Option.bind_some, Nat.zero_add, Nat.add_zero, Nat.reduceAdd, Nat.reduceMul, true_and, and_true, List.replicate_succ, List.replicate_zero, List.length_cons, List.length_nil, List.all_cons, List.all_nil, List.any_cons, List.any_nil, Bool.and_true, Bool.true_and, Bool.and_false, Bool.false_and, Bool.or_true, Bool.true_or, Bool.or_false, Bool.false_or, Bool.not_true, Bool.not_false, List.append_nil, List.nil_append, List.cons_append, List.flatMap_cons, List.flatMap_nil, List.contains_cons, List.contains_nil, List.filter_cons, List.filter_nil, beq_self_eq_true, Bool.not_eq_true, A0.b.injEq, A0.i.injEq, A0.s.injEq, A0.rw.injEq, A0.fn.injEq, List.cons.injEq, RC.ints.injEq, RC.recs.injEq, RC.bools.injEq, RC.mp.injEq, RC.grp.injEq, RC.rows.injEq, RC.wd.injEq, RC.bx.injEq, RC.clo.injEq, MC.ints.injEq, MC.bools.injEq, AV.one.injEq, AV.tup.injEq, ble_dec, blt_dec, Nat.reduceLeDiff, Nat.reduceSub, decide_true, decide_false, and_self, List.toList_toArray, Option.isSome_some, Option.isSome_none, List.elem_nil, List.elem_cons, ite_true, ite_false, Bool.false_eq_true, if_true, if_false, reduceIte, flatB_2, flatB_3, flatB_4, List.headD_cons, List.tail_cons, Try.f5]

-- (not in this seat: EqForm)
theorem eq3_iff (x y : F3) : (x.1 == y.1 && (x.2.1 == y.2.1 && x.2.2 == y.2.2)) = true ↔ x = y := by
  obtain ⟨a, b, c⟩ := x
  obtain ⟨a', b', c'⟩ := y
  simp
-- (not in this seat: EqFormS)
/-- what a marked row holds: the numbers from k on, one after the other -/
def ramp3 (k : Int) (n : Nat) : List (List Int) := (List.range n).map fun j : Nat => [k + 3 * (j : Int), k + 3 * (j : Int) + 1, k + 3 * (j : Int) + 2]
theorem ramp3_length (k : Int) (n : Nat) : (ramp3 k n).length = n := by simp [ramp3]
theorem ramp3_succ (k : Int) (n : Nat) : ramp3 k (n + 1) = ramp3 k n ++ [[k + 3 * (n : Int), k + 3 * (n : Int) + 1, k + 3 * (n : Int) + 2]] := by simp [ramp3, List.range_succ]
theorem ramp3_at (k : Int) {n q : Nat} (h : q < n) : (ramp3 k n).getD q [0, 0, 0] = [k + 3 * (q : Int), k + 3 * (q : Int) + 1, k + 3 * (q : Int) + 2] := by
  simp [ramp3, List.getD_eq_getElem?_getD, h]
theorem set_part {α : Type} {A : List α} {l : List α} {n : Nat} (x : α) (hA : A.length = n) (hn : n < l.length) : (A ++ l.drop n).set n x = (A ++ [x]) ++ l.drop (n + 1) := by
  rw [List.set_append_right _ _ (by omega), show n - A.length = 0 by omega, List.drop_eq_getElem_cons hn, List.set_cons_zero, List.append_assoc]
  rfl
theorem get_part {α : Type} {A : List α} {l : List α} {n : Nat} (x d : α) (hA : A.length = n) : ((A ++ [x]) ++ l).getD n d = x := by
  rw [List.getD_eq_getElem?_getD, List.getElem?_append_left (by simp; omega), List.getElem?_append_right (by omega)]
  simp [hA]
theorem set_again {α : Type} {A : List α} {l : List α} {n : Nat} (x y : α) (hA : A.length = n) : ((A ++ [x]) ++ l).set n y = (A ++ [y]) ++ l := by
  rw [List.append_assoc, List.set_append_right _ _ (by omega), show n - A.length = 0 by omega, List.append_assoc]
  rfl
def wf3 (l : List (List Int)) : Prop := fl (unfl l) = l
theorem wf3_fl (L : List F3) : wf3 (fl L) := by unfold wf3; rw [unfl_fl]
theorem wf3_at {l : List (List Int)} (h : wf3 l) {n : Nat} (hn : n < l.length) : l.getD n [0, 0, 0] = [(nth3 l n).1, (nth3 l n).2.1, (nth3 l n).2.2] := by
  have h1 : (fl (unfl l)).getD n [0, 0, 0] = l.getD n [0, 0, 0] := by rw [h]
  rw [← h1, nth3_eq]
  have hn' : n < (unfl l).length := by rw [unfl_length]; exact hn
  simp only [fl, List.getD_eq_getElem?_getD, List.getElem?_map, List.getElem?_eq_getElem hn', Option.map_some, Option.getD_some, F3.l]
theorem drop_at {α : Type} {A l : List α} {n : Nat} (d : α) (hA : A.length = n) : (A ++ l.drop n).getD n d = l.getD n d := by
  rw [List.getD_eq_getElem?_getD, List.getElem?_append_right (by omega), List.getElem?_drop, List.getD_eq_getElem?_getD, show n + (n - A.length) = n by omega]
-- (not in this seat: MarkFormS)
-- (not in this seat: HeldFormS)
end Go.Proofs.Ythcnaeahmdapbab
