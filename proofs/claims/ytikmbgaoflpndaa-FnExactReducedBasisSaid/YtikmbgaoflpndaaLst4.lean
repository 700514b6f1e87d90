/-
  Rows of structs of 4 integers: how they read as lists of tuples; contracts of the laws' helpers on them. Conditions: none.
-/
import Derived.Test.YtikmbgaoflpndaaLst
namespace Go.Proofs.Ytikmbgaoflpndaa
open Go Go.RowKit
set_option maxRecDepth 100000
set_option linter.unusedSimpArgs false
set_option linter.unusedVariables false
set_option maxHeartbeats 4000000

def toM (x : List Int) : M4 := (x.getD 0 0, x.getD 1 0, x.getD 2 0, x.getD 3 0)
def M4.l4 (x : M4) : List Int := [x.1, x.2.1, x.2.2.1, x.2.2.2]
def nth4 (l : List (List Int)) (q : Nat) : M4 := toM (l.getD q [0, 0, 0, 0])
def fm (L : List M4) : List (List Int) := L.map M4.l4
def unfm (l : List (List Int)) : List M4 := l.map toM
theorem rng4 (l : List (List Int)) (q : Nat) : (List.range 4).map (fun j => (l.getD q [0, 0, 0, 0]).getD j 0) = [(nth4 l q).1, (nth4 l q).2.1, (nth4 l q).2.2.1, (nth4 l q).2.2.2] := rfl
theorem fld4_0 (l : List (List Int)) (q : Nat) : (l.getD q [0, 0, 0, 0]).getD 0 0 = (nth4 l q).1 := rfl
theorem fld4_1 (l : List (List Int)) (q : Nat) : (l.getD q [0, 0, 0, 0]).getD 1 0 = (nth4 l q).2.1 := rfl
theorem fld4_2 (l : List (List Int)) (q : Nat) : (l.getD q [0, 0, 0, 0]).getD 2 0 = (nth4 l q).2.2.1 := rfl
theorem fld4_3 (l : List (List Int)) (q : Nat) : (l.getD q [0, 0, 0, 0]).getD 3 0 = (nth4 l q).2.2.2 := rfl
theorem unfm_fm (L : List M4) : unfm (fm L) = L := by
  unfold unfm fm
  rw [List.map_map]
  exact (List.map_congr_left (fun x _ => rfl)).trans (List.map_id L)
theorem fm_length (L : List M4) : (fm L).length = L.length := by simp [fm]
theorem unfm_length (l : List (List Int)) : (unfm l).length = l.length := by simp [unfm]
theorem fm_nil : fm [] = [] := rfl
theorem fm_snoc (L : List M4) (x : M4) : fm L ++ [[x.1, x.2.1, x.2.2.1, x.2.2.2]] = fm (L ++ [x]) := by simp [fm, M4.l4]
theorem fm_append (L M : List M4) : fm L ++ fm M = fm (L ++ M) := by simp [fm]
theorem fm_take (L : List M4) (n : Nat) : (fm L).take n = fm (L.take n) := by simp [fm]
theorem fm_drop (L : List M4) (n : Nat) : (fm L).drop n = fm (L.drop n) := by simp [fm]
theorem nth4_eq (l : List (List Int)) (q : Nat) : nth4 l q = (unfm l).getD q (0, 0, 0, 0) := by
  unfold nth4 unfm
  simp only [List.getD_eq_getElem?_getD, List.getElem?_map]
  cases l[q]? <;> rfl
theorem unfm_take (l : List (List Int)) {n : Nat} (h : n < l.length) : (unfm l).take (n + 1) = (unfm l).take n ++ [nth4 l n] := by
  rw [List.take_add_one, nth4_eq]
  have : n < (unfm l).length := by rw [unfm_length]; exact h
  simp [List.getD_eq_getElem?_getD, this]
theorem unfm_mem (l : List (List Int)) {n : Nat} (h : n < l.length) : nth4 l n ∈ unfm l := by
  rw [nth4_eq]
  have : n < (unfm l).length := by rw [unfm_length]; exact h
  simp [List.getD_eq_getElem?_getD, this]
theorem unfm_at {l : List (List Int)} {n : Nat} (h : n < l.length) : (unfm l)[n]? = some (nth4 l n) := by
  rw [nth4_eq]
  have : n < (unfm l).length := by rw [unfm_length]; exact h
  simp [List.getD_eq_getElem?_getD, this]
def ramp4 (k : Int) (n : Nat) : List (List Int) := (List.range n).map fun j : Nat => [k + 4 * (j : Int), k + 4 * (j : Int) + 1, k + 4 * (j : Int) + 2, k + 4 * (j : Int) + 3]
theorem ramp4_length (k : Int) (n : Nat) : (ramp4 k n).length = n := by simp [ramp4]
theorem ramp4_succ (k : Int) (n : Nat) : ramp4 k (n + 1) = ramp4 k n ++ [[k + 4 * (n : Int), k + 4 * (n : Int) + 1, k + 4 * (n : Int) + 2, k + 4 * (n : Int) + 3]] := by simp [ramp4, List.range_succ]
theorem ramp4_at (k : Int) {n q : Nat} (h : q < n) : (ramp4 k n).getD q [0, 0, 0, 0] = [k + 4 * (q : Int), k + 4 * (q : Int) + 1, k + 4 * (q : Int) + 2, k + 4 * (q : Int) + 3] := by
  simp [ramp4, List.getD_eq_getElem?_getD, h]
theorem held4_pos (n : Nat) : decide (1 + 4 * (n : Int) < 0) = false := by rw [decide_eq_false_iff_not]; omega
def wf4 (l : List (List Int)) : Prop := fm (unfm l) = l
theorem wf4_fm (L : List M4) : wf4 (fm L) := by unfold wf4; rw [unfm_fm]
theorem wf4_at {l : List (List Int)} (h : wf4 l) {n : Nat} (hn : n < l.length) : l.getD n [0, 0, 0, 0] = [(nth4 l n).1, (nth4 l n).2.1, (nth4 l n).2.2.1, (nth4 l n).2.2.2] := by
  have h1 : (fm (unfm l)).getD n [0, 0, 0, 0] = l.getD n [0, 0, 0, 0] := by rw [h]
  rw [← h1, nth4_eq]
  have hn' : n < (unfm l).length := by rw [unfm_length]; exact hn
  simp only [fm, List.getD_eq_getElem?_getD, List.getElem?_map, List.getElem?_eq_getElem hn', Option.map_some, Option.getD_some, M4.l4]
theorem eq4_iff (x y : M4) : (x.1 == y.1 && (x.2.1 == y.2.1 && (x.2.2.1 == y.2.2.1 && x.2.2.2 == y.2.2.2))) = true ↔ x = y := by
  obtain ⟨a, b, c, d⟩ := x
  obtain ⟨a', b', c', d'⟩ := y
  simp
abbrev fEqMatrix : Nat := 27
def cEqMatrix : Ctr
  | [.s [a, b, c, d], .s [x, y, z, w]] => some ⟨True, .one (.b (a == x && (b == y && (c == z && d == w)))), []⟩
  | _ => none
theorem okEqMatrix : CtrOk Try.prog fEqMatrix cEqMatrix := by
  have hsp : SpecOk Try.prog (specOf []) := SpecOk.nil
  refine ctr_of (fn := Try.f27) mixed tab_ok hsp Try.func27 (by kernel_rfl) (by kernel_rfl) fun args ce h => ?_
  clear hsp
  unfold cEqMatrix at h
  split at h
  case h_2 => cases h
  rename_i a b c d x y z w
  simp only [Option.some.injEq] at h
  subst h
  refine ⟨by rfl, fun hp => ⟨0, 1000, ?_⟩⟩
  simp only [vc, out, step, stepE, stepPick, stepG, stepO, stepC, eff, look, rem, St.put, St.setMem, setMems, St.after, St.eval, cst, setAt, val1, okNew, newHs, allHs, rdOf, outHs, Reg.item, Reg.next, Reg.skip, slotOf, effBox, effAlloc, entryRow, fieldOff, effField, loadI, load1, loadR, effLoad, storeI, storeB, storeR, szOk, storeTo, effStore, buildOf, effBuild, binInt, eqI, boolOf, binBool, effBin, effUn, effPick, effExtract, ivs, svs, rowOf, allParts, effBuildSlice, zeroRow, effMakeSlice, elemSz, idxA, idxS, effIndex, lenOf, readOf, subPre, maxRow, plainTI, appTo, effAppend, slcOf, effSlice, argOf, resA, resL, resV, outWr, nodupB, restOk, argsPre, argOk, callWr, effCall, effMax, wrHs, disj, AV.hs, A0.hs, Entry.hs, RC.elem, RC.sz, RC.len, RC.slice, RC.app, hA, initFr, initMem, initSt, resOf, resAll, compEq, compsEq, rowHs, outHds, outsEq, shapeOk, finOk, comps, A0.norm, AV.norm, specOf, t_int, t_bool, t_implForm, t_lawsForm, t_implMatrix, t_implPoint, t_implLattice, t_lawsLattice, t_implTriple, t_lawsTriple, t_implSpot, t_implCube, t_implunited, t_implentries, t_a8int, ts_int, ts_implForm, ts_implSpot, Option.getD_some, Option.getD_none, cond_true, cond_false, Nat.reduceBEq, List.map_cons, List.map_nil, List.set_cons_zero, List.set_cons_succ, List.getElem?_cons_zero, List.getElem?_cons_succ, List.drop_zero, List.drop_succ_cons, List.take_succ_cons, List.take_zero, Option.map_some, Option.map_none, Option.bind_some, Nat.zero_add, Nat.add_zero, Nat.reduceAdd, Nat.reduceMul, true_and, and_true, List.replicate_succ, List.replicate_zero, List.length_cons, List.length_nil, List.all_cons, List.all_nil, List.any_cons, List.any_nil, Bool.and_true, Bool.true_and, Bool.and_false, Bool.false_and, Bool.or_true, Bool.true_or, Bool.or_false, Bool.false_or, Bool.not_true, Bool.not_false, List.append_nil, List.nil_append, List.cons_append, List.flatMap_cons, List.flatMap_nil, List.contains_cons, List.contains_nil, List.filter_cons, List.filter_nil, beq_self_eq_true, Bool.not_eq_true, A0.b.injEq, A0.i.injEq, A0.s.injEq, A0.rw.injEq, A0.fn.injEq, List.cons.injEq, RC.ints.injEq, RC.recs.injEq, RC.bools.injEq, AV.one.injEq, AV.tup.injEq, ble_dec, blt_dec, Nat.reduceLeDiff, Nat.reduceSub, decide_true, decide_false, and_self, List.toList_toArray, Option.isSome_some, Option.isSome_none, List.elem_nil, List.elem_cons, ite_true, ite_false, Bool.false_eq_true, if_true, if_false, reduceIte, flatB_2, flatB_3, flatB_4, List.headD_cons, List.tail_cons, Try.f27]
  unfold bne
  cases (a == x) <;> cases (b == y) <;> cases (c == z) <;> cases (d == w) <;> rfl
-- (not in this seat: EqMatrixS)
-- (not in this seat: MarkMatrixS)
-- (not in this seat: HeldMatrixS)
end Go.Proofs.Ytikmbgaoflpndaa
