/-
  Rows of structs of 2 integers: how they read as lists of tuples; contracts of the laws' helpers on them. Conditions: none.
-/
import Derived.Test.YtikmbgaoflpndaaLst
namespace Go.Proofs.Ytikmbgaoflpndaa
open Go Go.RowKit
set_option maxRecDepth 100000
set_option linter.unusedSimpArgs false
set_option linter.unusedVariables false
set_option maxHeartbeats 4000000

abbrev P2 := Int × Int
def toP (x : List Int) : P2 := (x.getD 0 0, x.getD 1 0)
def P2.l2 (x : P2) : List Int := [x.1, x.2]
def nth2 (l : List (List Int)) (q : Nat) : P2 := toP (l.getD q [0, 0])
def fp (L : List P2) : List (List Int) := L.map P2.l2
def unfp (l : List (List Int)) : List P2 := l.map toP
theorem rng2 (l : List (List Int)) (q : Nat) : (List.range 2).map (fun j => (l.getD q [0, 0]).getD j 0) = [(nth2 l q).1, (nth2 l q).2] := rfl
theorem fld2_0 (l : List (List Int)) (q : Nat) : (l.getD q [0, 0]).getD 0 0 = (nth2 l q).1 := rfl
theorem fld2_1 (l : List (List Int)) (q : Nat) : (l.getD q [0, 0]).getD 1 0 = (nth2 l q).2 := rfl
theorem unfp_fp (L : List P2) : unfp (fp L) = L := by
  unfold unfp fp
  rw [List.map_map]
  exact (List.map_congr_left (fun x _ => rfl)).trans (List.map_id L)
theorem fp_length (L : List P2) : (fp L).length = L.length := by simp [fp]
theorem unfp_length (l : List (List Int)) : (unfp l).length = l.length := by simp [unfp]
theorem fp_nil : fp [] = [] := rfl
theorem fp_snoc (L : List P2) (x : P2) : fp L ++ [[x.1, x.2]] = fp (L ++ [x]) := by simp [fp, P2.l2]
theorem fp_append (L M : List P2) : fp L ++ fp M = fp (L ++ M) := by simp [fp]
theorem fp_take (L : List P2) (n : Nat) : (fp L).take n = fp (L.take n) := by simp [fp]
theorem fp_drop (L : List P2) (n : Nat) : (fp L).drop n = fp (L.drop n) := by simp [fp]
theorem nth2_eq (l : List (List Int)) (q : Nat) : nth2 l q = (unfp l).getD q (0, 0) := by
  unfold nth2 unfp
  simp only [List.getD_eq_getElem?_getD, List.getElem?_map]
  cases l[q]? <;> rfl
theorem unfp_take (l : List (List Int)) {n : Nat} (h : n < l.length) : (unfp l).take (n + 1) = (unfp l).take n ++ [nth2 l n] := by
  rw [List.take_add_one, nth2_eq]
  have : n < (unfp l).length := by rw [unfp_length]; exact h
  simp [List.getD_eq_getElem?_getD, this]
theorem unfp_mem (l : List (List Int)) {n : Nat} (h : n < l.length) : nth2 l n ∈ unfp l := by
  rw [nth2_eq]
  have : n < (unfp l).length := by rw [unfp_length]; exact h
  simp [List.getD_eq_getElem?_getD, this]
theorem unfp_at {l : List (List Int)} {n : Nat} (h : n < l.length) : (unfp l)[n]? = some (nth2 l n) := by
  rw [nth2_eq]
  have : n < (unfp l).length := by rw [unfp_length]; exact h
  simp [List.getD_eq_getElem?_getD, this]
def ramp2 (k : Int) (n : Nat) : List (List Int) := (List.range n).map fun j : Nat => [k + 2 * (j : Int), k + 2 * (j : Int) + 1]
theorem ramp2_length (k : Int) (n : Nat) : (ramp2 k n).length = n := by simp [ramp2]
theorem ramp2_succ (k : Int) (n : Nat) : ramp2 k (n + 1) = ramp2 k n ++ [[k + 2 * (n : Int), k + 2 * (n : Int) + 1]] := by simp [ramp2, List.range_succ]
theorem ramp2_at (k : Int) {n q : Nat} (h : q < n) : (ramp2 k n).getD q [0, 0] = [k + 2 * (q : Int), k + 2 * (q : Int) + 1] := by
  simp [ramp2, List.getD_eq_getElem?_getD, h]
theorem held2_pos (n : Nat) : decide (1 + 2 * (n : Int) < 0) = false := by rw [decide_eq_false_iff_not]; omega
def wf2 (l : List (List Int)) : Prop := fp (unfp l) = l
theorem wf2_fp (L : List P2) : wf2 (fp L) := by unfold wf2; rw [unfp_fp]
theorem wf2_at {l : List (List Int)} (h : wf2 l) {n : Nat} (hn : n < l.length) : l.getD n [0, 0] = [(nth2 l n).1, (nth2 l n).2] := by
  have h1 : (fp (unfp l)).getD n [0, 0] = l.getD n [0, 0] := by rw [h]
  rw [← h1, nth2_eq]
  have hn' : n < (unfp l).length := by rw [unfp_length]; exact hn
  simp only [fp, List.getD_eq_getElem?_getD, List.getElem?_map, List.getElem?_eq_getElem hn', Option.map_some, Option.getD_some, P2.l2]
theorem eq2_iff (x y : P2) : (x.1 == y.1 && x.2 == y.2) = true ↔ x = y := by
  obtain ⟨a, b⟩ := x
  obtain ⟨a', b'⟩ := y
  simp
abbrev fEqPoint : Nat := 43
def cEqPoint : Ctr
  | [.s [a, b], .s [x, y]] => some ⟨True, .one (.b (a == x && b == y)), []⟩
  | _ => none
theorem okEqPoint : CtrOk Try.prog fEqPoint cEqPoint := by
  have hsp : SpecOk Try.prog (specOf []) := SpecOk.nil
  refine ctr_of (fn := Try.f43) mixed tab_ok hsp Try.func43 (by kernel_rfl) (by kernel_rfl) fun args ce h => ?_
  clear hsp
  unfold cEqPoint at h
  split at h
  case h_2 => cases h
  rename_i a b x y
  simp only [Option.some.injEq] at h
  subst h
  refine ⟨by rfl, fun hp => ⟨0, 1000, ?_⟩⟩
  simp only [vc, out, step, stepE, stepPick, stepG, stepO, stepC, eff, look, rem, St.put, St.setMem, setMems, St.after, St.eval, cst, setAt, val1, okNew, newHs, allHs, rdOf, outHs, Reg.item, Reg.next, Reg.skip, slotOf, effBox, effAlloc, entryRow, fieldOff, effField, loadI, load1, loadR, effLoad, storeI, storeB, storeR, szOk, storeTo, effStore, buildOf, effBuild, binInt, eqI, boolOf, binBool, effBin, effUn, effPick, effExtract, ivs, svs, rowOf, allParts, effBuildSlice, zeroRow, effMakeSlice, elemSz, idxA, idxS, effIndex, lenOf, readOf, subPre, maxRow, plainTI, appTo, effAppend, slcOf, effSlice, argOf, resA, resL, resV, outWr, nodupB, restOk, argsPre, argOk, callWr, effCall, effMax, wrHs, disj, AV.hs, A0.hs, Entry.hs, RC.elem, RC.sz, RC.len, RC.slice, RC.app, hA, initFr, initMem, initSt, resOf, resAll, compEq, compsEq, rowHs, outHds, outsEq, shapeOk, finOk, comps, A0.norm, AV.norm, specOf, t_int, t_bool, t_implForm, t_lawsForm, t_implMatrix, t_implPoint, t_implLattice, t_lawsLattice, t_implTriple, t_lawsTriple, t_implSpot, t_implCube, t_implunited, t_implentries, t_a8int, ts_int, ts_implForm, ts_implSpot, Option.getD_some, Option.getD_none, cond_true, cond_false, Nat.reduceBEq, List.map_cons, List.map_nil, List.set_cons_zero, List.set_cons_succ, List.getElem?_cons_zero, List.getElem?_cons_succ, List.drop_zero, List.drop_succ_cons, List.take_succ_cons, List.take_zero, Option.map_some, Option.map_none, Option.bind_some, Nat.zero_add, Nat.add_zero, Nat.reduceAdd, Nat.reduceMul, true_and, and_true, List.replicate_succ, List.replicate_zero, List.length_cons, List.length_nil, List.all_cons, List.all_nil, List.any_cons, List.any_nil, Bool.and_true, Bool.true_and, Bool.and_false, Bool.false_and, Bool.or_true, Bool.true_or, Bool.or_false, Bool.false_or, Bool.not_true, Bool.not_false, List.append_nil, List.nil_append, List.cons_append, List.flatMap_cons, List.flatMap_nil, List.contains_cons, List.contains_nil, List.filter_cons, List.filter_nil, beq_self_eq_true, Bool.not_eq_true, A0.b.injEq, A0.i.injEq, A0.s.injEq, A0.rw.injEq, A0.fn.injEq, List.cons.injEq, RC.ints.injEq, RC.recs.injEq, RC.bools.injEq, AV.one.injEq, AV.tup.injEq, ble_dec, blt_dec, Nat.reduceLeDiff, Nat.reduceSub, decide_true, decide_false, and_self, List.toList_toArray, Option.isSome_some, Option.isSome_none, List.elem_nil, List.elem_cons, ite_true, ite_false, Bool.false_eq_true, if_true, if_false, reduceIte, flatB_2, flatB_3, flatB_4, List.headD_cons, List.tail_cons, Try.f43]
  unfold bne
  cases (a == x) <;> cases (b == y) <;> rfl
-- (not in this seat: EqPointS)
-- (not in this seat: MarkPointS)
-- (not in this seat: HeldPointS)
end Go.Proofs.Ytikmbgaoflpndaa
