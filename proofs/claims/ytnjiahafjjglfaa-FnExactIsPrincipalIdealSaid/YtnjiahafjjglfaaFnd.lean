/-
  Contracts of square-free parts, of fundamental discriminants, of ideals and their classes, and of the laws on them. Conditions: none.
-/
import Derived.Test.YtnjiahafjjglfaaRt
namespace Go.Proofs.Ytnjiahafjjglfaa
open Go Go.RowKit
set_option maxRecDepth 100000
set_option linter.unusedSimpArgs false
set_option linter.unusedVariables false
set_option maxHeartbeats 4000000

def sfIn (n k p : Int) : Int × Int := if _h : n ≠ 0 ∧ 2 ≤ p ∧ n.tmod (p * p) = 0 then sfIn (n.tdiv (p * p)) (k * p) p else (n, k)
  termination_by n.natAbs
  decreasing_by
    rw [Int.natAbs_tdiv]
    have h1 : 4 ≤ (p * p).natAbs := by
      have : 2 * 2 ≤ p * p := Int.mul_le_mul _h.2.1 _h.2.1 (by omega) (by omega)
      omega
    exact Nat.div_lt_self (by omega) (by omega)
theorem sf_quo {n p : Int} (hn : n ≠ 0) (hp : 2 ≤ p) (h : n.tmod (p * p) = 0) : n.tdiv (p * p) ≠ 0 ∧ (n.tdiv (p * p)).natAbs < n.natAbs ∧ p * p * n.tdiv (p * p) = n := by
  have e := Int.mul_tdiv_add_tmod n (p * p)
  rw [h, Int.add_zero] at e
  refine ⟨fun h0 => by rw [h0, Int.mul_zero] at e; exact hn e.symm, ?_, e⟩
  rw [Int.natAbs_tdiv]
  have h1 : 4 ≤ (p * p).natAbs := by
    have : 2 * 2 ≤ p * p := Int.mul_le_mul hp hp (by omega) (by omega)
    omega
  exact Nat.div_lt_self (by omega) (by omega)
theorem sfIn_spec {n k p : Int} (hn : n ≠ 0) : (sfIn n k p).1 ≠ 0 ∧ (sfIn n k p).1.natAbs ≤ n.natAbs := by
  fun_induction sfIn n k p with
  | case1 n k h ih =>
    obtain ⟨h1, h2, _⟩ := sf_quo h.1 h.2.1 h.2.2
    have := ih h1
    omega
  | case2 n k h => exact ⟨hn, Nat.le_refl _⟩
def sfOut (n k p : Int) : Int × Int := if _h : n ≠ 0 ∧ 2 ≤ p ∧ p * p ≤ (n.natAbs : Int) then sfOut (sfIn n k p).1 (sfIn n k p).2 (p + 1) else (n, k)
  termination_by ((n.natAbs : Int) + 2 - p).toNat
  decreasing_by
    have h1 := (sfIn_spec (n := n) (k := k) (p := p) _h.1).2
    have h2 : 2 * p ≤ p * p := Int.mul_le_mul_of_nonneg_right _h.2.1 (by omega)
    omega
/-- what the loops keep -/
structure SfI (n k : Int) : Prop where
  n0 : n ≠ 0
  n1 : n.natAbs ≤ 1000000
  k0 : 1 ≤ k
  nk : k * k * (n.natAbs : Int) ≤ 1000000
theorem SfI.k1 {n k : Int} (h : SfI n k) : k ≤ 1000 := by
  have h1 := h.n0
  have h2 : k * k * 1 ≤ k * k * (n.natAbs : Int) := Int.mul_le_mul_of_nonneg_left (by omega) (sq_nonneg k)
  have h3 := h.nk
  exact (abs_le_of_sq (x := k) (n := 1000) (by omega) (by omega)).2
theorem SfI.step {n k p : Int} (h : SfI n k) (hp : 2 ≤ p) (hm : n.tmod (p * p) = 0) : SfI (n.tdiv (p * p)) (k * p) := by
  obtain ⟨h1, h2, h3⟩ := sf_quo h.n0 hp hm
  have hk := h.k0
  have hn := h.nk
  have hn1 := h.n1
  refine ⟨h1, by omega, ?_, ?_⟩
  · have : 1 * 2 ≤ k * p := Int.mul_le_mul hk hp (by omega) (by omega)
    omega
  · have e : (n.natAbs : Int) = p * p * ((n.tdiv (p * p)).natAbs : Int) := by
      have h4 : n.natAbs = (p * p).natAbs * (n.tdiv (p * p)).natAbs := by rw [← Int.natAbs_mul, h3]
      have h5 : ((p * p).natAbs : Int) = p * p := Int.natAbs_of_nonneg (sq_nonneg p)
      rw [h4, Int.natCast_mul, h5]
    have e2 : k * p * (k * p) * ((n.tdiv (p * p)).natAbs : Int) = k * k * (n.natAbs : Int) := by rw [e]; grind
    omega
theorem SfI.inn {n k p : Int} (h : SfI n k) : SfI (sfIn n k p).1 (sfIn n k p).2 := by
  fun_induction sfIn n k p with
  | case1 n k hc ih => exact ih (h.step hc.2.1 hc.2.2)
  | case2 n k hc => exact h
def sfI (n : Int) : Int × Int := sfOut n 1 2
def sfS (n : Int) : Int := (sfI n).1
def sfK (n : Int) : Int := (sfI n).2
theorem sf_init {n : Int} (hn : n ≠ 0) (h : n.natAbs ≤ 1000000) : SfI n 1 := ⟨hn, h, by omega, by omega⟩
theorem absI_eq {n : Int} (h : n.natAbs ≤ 1000000000) : absI n = n.natAbs := by
  unfold absI
  have h3 : max n (-9223372036854775807) = n := by omega
  rw [h3, wrap_id (by omega) (by omega)]
  omega
theorem labs_eq' {n : Int} (h : n.natAbs ≤ 1000000000) : labsI n = n.natAbs := by
  unfold labsI mostI
  rw [wrap_id (by omega) (by omega)]
  split <;> omega
abbrev fSquareFree : Nat := 172
def cSquareFree : Ctr
  | [.i n] => some ⟨n ≠ 0 ∧ n.natAbs ≤ 1000000, .tup [.i (sfS n), .i (sfK n)], []⟩
  | _ => none
theorem okSquareFree : CtrOk Try.prog fSquareFree cSquareFree := by
  have hsp : SpecOk Try.prog (specOf [(fAbs, cAbs)]) := (SpecOk.cons okAbs SpecOk.nil)
  refine ctr_of (fn := Try.f172) mixed tab_ok hsp Try.func172 (by kernel_rfl) (by kernel_rfl) fun args ce h => ?_
  clear hsp
  unfold cSquareFree at h
  split at h
  case h_2 => cases h
  rename_i n
  simp only [Option.some.injEq] at h
  subst h
  refine ⟨by rfl, fun hp => ⟨2, 1000, ?_⟩⟩
  simp only [vc, out, step, stepE, stepPick, stepG, stepO, stepC, eff, look, rem, St.put, St.setMem, setMems, St.after, St.eval, cst, setAt, val1, okNew, newHs, allHs, rdOf, outHs, Reg.item, Reg.next, Reg.skip, slotOf, effBox, effAlloc, entryRow, fieldOff, effField, loadI, load1, loadR, effLoad, storeI, storeB, storeR, szOk, storeTo, effStore, buildOf, effBuild, binInt, eqI, boolOf, binBool, effBin, effUn, effPick, effExtract, ivs, svs, rowOf, allParts, effBuildSlice, zeroRow, effMakeSlice, elemSz, idxA, idxS, effIndex, lenOf, readOf, subPre, maxRow, plainTI, appTo, effAppend, slcOf, effSlice, argOf, resA, resL, resV, outWr, nodupB, restOk, argsPre, argOk, callWr, effCall, effMax, wrHs, disj, AV.hs, A0.hs, Entry.hs, RC.elem, RC.sz, RC.len, RC.slice, RC.app, hA, initFr, initMem, initSt, resOf, resAll, compEq, compsEq, rowHs, outHds, outsEq, shapeOk, finOk, comps, A0.norm, AV.norm, specOf, t_int, t_bool, t_implForm, t_lawsForm, t_implMatrix, t_implPoint, t_implunited, t_implIdeal, t_lawsIdeal, t_implCharacter, ts_int, ts_implForm, ts_implPoint, ts_implCharacter, Option.getD_some, Option.getD_none, cond_true, cond_false, Nat.reduceBEq, List.map_cons, List.map_nil, List.set_cons_zero, List.set_cons_succ, List.getElem?_cons_zero, List.getElem?_cons_succ, List.drop_zero, List.drop_succ_cons, List.take_succ_cons, List.take_zero, Option.map_some, Option.map_none, Option.bind_some, Nat.zero_add, Nat.add_zero, Nat.reduceAdd, Nat.reduceMul, true_and, and_true, List.replicate_succ, List.replicate_zero, List.length_cons, List.length_nil, List.all_cons, List.all_nil, List.any_cons, List.any_nil, Bool.and_true, Bool.true_and, Bool.and_false, Bool.false_and, Bool.or_true, Bool.true_or, Bool.or_false, Bool.false_or, Bool.not_true, Bool.not_false, List.append_nil, List.nil_append, List.cons_append, List.flatMap_cons, List.flatMap_nil, List.contains_cons, List.contains_nil, List.filter_cons, List.filter_nil, beq_self_eq_true, Bool.not_eq_true, A0.b.injEq, A0.i.injEq, A0.s.injEq, A0.rw.injEq, A0.fn.injEq, List.cons.injEq, RC.ints.injEq, RC.recs.injEq, RC.bools.injEq, AV.one.injEq, AV.tup.injEq, ble_dec, blt_dec, Nat.reduceLeDiff, Nat.reduceSub, decide_true, decide_false, and_self, List.toList_toArray, Option.isSome_some, Option.isSome_none, List.elem_nil, List.elem_cons, ite_true, ite_false, Bool.false_eq_true, if_true, if_false, reduceIte, flatB_2, flatB_3, flatB_4, List.headD_cons, List.tail_cons, cAbs, fAbs, Try.f172]
  refine lp_intro (fun x : (Int × Int) × Int => ⟨[(0, .one (.i x.1.1)), (4, .one (.i x.1.2)), (5, .one (.i x.2))], []⟩) (fun x => SfI x.1.1 x.1.2 ∧ 2 ≤ x.2 ∧ x.2 ≤ 1001 ∧ sfOut x.1.1 x.1.2 x.2 = sfI n) (fun x => (1002 - x.2).toNat) ((n, 1), 2) [] ⟨sf_init hp.1 hp.2, by omega, by omega, rfl⟩ (by simp only [Cov, covOk, covFr, covMem, entEq, rn, nodupB, A0.ren, AV.ren, Entry.ren, Entry.norm, vc, out, step, stepE, stepPick, stepG, stepO, stepC, eff, look, rem, St.put, St.setMem, setMems, St.after, St.eval, cst, setAt, val1, okNew, newHs, allHs, rdOf, outHs, Reg.item, Reg.next, Reg.skip, slotOf, effBox, effAlloc, entryRow, fieldOff, effField, loadI, load1, loadR, effLoad, storeI, storeB, storeR, szOk, storeTo, effStore, buildOf, effBuild, binInt, eqI, boolOf, binBool, effBin, effUn, effPick, effExtract, ivs, svs, rowOf, allParts, effBuildSlice, zeroRow, effMakeSlice, elemSz, idxA, idxS, effIndex, lenOf, readOf, subPre, maxRow, plainTI, appTo, effAppend, slcOf, effSlice, argOf, resA, resL, resV, outWr, nodupB, restOk, argsPre, argOk, callWr, effCall, effMax, wrHs, disj, AV.hs, A0.hs, Entry.hs, RC.elem, RC.sz, RC.len, RC.slice, RC.app, hA, initFr, initMem, initSt, resOf, resAll, compEq, compsEq, rowHs, outHds, outsEq, shapeOk, finOk, comps, A0.norm, AV.norm, specOf, t_int, t_bool, t_implForm, t_lawsForm, t_implMatrix, t_implPoint, t_implunited, t_implIdeal, t_lawsIdeal, t_implCharacter, ts_int, ts_implForm, ts_implPoint, ts_implCharacter, Option.getD_some, Option.getD_none, cond_true, cond_false, Nat.reduceBEq, List.map_cons, List.map_nil, List.set_cons_zero, List.set_cons_succ, List.getElem?_cons_zero, List.getElem?_cons_succ, List.drop_zero, List.drop_succ_cons, List.take_succ_cons, List.take_zero, Option.map_some, Option.map_none, Option.bind_some, Nat.zero_add, Nat.add_zero, Nat.reduceAdd, Nat.reduceMul, true_and, and_true, List.replicate_succ, List.replicate_zero, List.length_cons, List.length_nil, List.all_cons, List.all_nil, List.any_cons, List.any_nil, Bool.and_true, Bool.true_and, Bool.and_false, Bool.false_and, Bool.or_true, Bool.true_or, Bool.or_false, Bool.false_or, Bool.not_true, Bool.not_false, List.append_nil, List.nil_append, List.cons_append, List.flatMap_cons, List.flatMap_nil, List.contains_cons, List.contains_nil, List.filter_cons, List.filter_nil, beq_self_eq_true, Bool.not_eq_true, A0.b.injEq, A0.i.injEq, A0.s.injEq, A0.rw.injEq, A0.fn.injEq, List.cons.injEq, RC.ints.injEq, RC.recs.injEq, RC.bools.injEq, AV.one.injEq, AV.tup.injEq, ble_dec, blt_dec, Nat.reduceLeDiff, Nat.reduceSub, decide_true, decide_false, and_self, List.toList_toArray, Option.isSome_some, Option.isSome_none, List.elem_nil, List.elem_cons, ite_true, ite_false, Bool.false_eq_true, if_true, if_false, reduceIte, flatB_2, flatB_3, flatB_4, List.headD_cons, List.tail_cons]) fun x hx J hJ => ⟨1000, ?_⟩
  obtain ⟨⟨m, k⟩, p⟩ := x
  obtain ⟨h1, h2, h3, h4⟩ := hx
  simp only at h1 h2 h3 h4 hJ
  simp only [vc, out, step, stepE, stepPick, stepG, stepO, stepC, eff, look, rem, St.put, St.setMem, setMems, St.after, St.eval, cst, setAt, val1, okNew, newHs, allHs, rdOf, outHs, Reg.item, Reg.next, Reg.skip, slotOf, effBox, effAlloc, entryRow, fieldOff, effField, loadI, load1, loadR, effLoad, storeI, storeB, storeR, szOk, storeTo, effStore, buildOf, effBuild, binInt, eqI, boolOf, binBool, effBin, effUn, effPick, effExtract, ivs, svs, rowOf, allParts, effBuildSlice, zeroRow, effMakeSlice, elemSz, idxA, idxS, effIndex, lenOf, readOf, subPre, maxRow, plainTI, appTo, effAppend, slcOf, effSlice, argOf, resA, resL, resV, outWr, nodupB, restOk, argsPre, argOk, callWr, effCall, effMax, wrHs, disj, AV.hs, A0.hs, Entry.hs, RC.elem, RC.sz, RC.len, RC.slice, RC.app, hA, initFr, initMem, initSt, resOf, resAll, compEq, compsEq, rowHs, outHds, outsEq, shapeOk, finOk, comps, A0.norm, AV.norm, specOf, t_int, t_bool, t_implForm, t_lawsForm, t_implMatrix, t_implPoint, t_implunited, t_implIdeal, t_lawsIdeal, t_implCharacter, ts_int, ts_implForm, ts_implPoint, ts_implCharacter, Option.getD_some, Option.getD_none, cond_true, cond_false, Nat.reduceBEq, List.map_cons, List.map_nil, List.set_cons_zero, List.set_cons_succ, List.getElem?_cons_zero, List.getElem?_cons_succ, List.drop_zero, List.drop_succ_cons, List.take_succ_cons, List.take_zero, Option.map_some, Option.map_none, Option.bind_some, Nat.zero_add, Nat.add_zero, Nat.reduceAdd, Nat.reduceMul, true_and, and_true, List.replicate_succ, List.replicate_zero, List.length_cons, List.length_nil, List.all_cons, List.all_nil, List.any_cons, List.any_nil, Bool.and_true, Bool.true_and, Bool.and_false, Bool.false_and, Bool.or_true, Bool.true_or, Bool.or_false, Bool.false_or, Bool.not_true, Bool.not_false, List.append_nil, List.nil_append, List.cons_append, List.flatMap_cons, List.flatMap_nil, List.contains_cons, List.contains_nil, List.filter_cons, List.filter_nil, beq_self_eq_true, Bool.not_eq_true, A0.b.injEq, A0.i.injEq, A0.s.injEq, A0.rw.injEq, A0.fn.injEq, List.cons.injEq, RC.ints.injEq, RC.recs.injEq, RC.bools.injEq, AV.one.injEq, AV.tup.injEq, ble_dec, blt_dec, Nat.reduceLeDiff, Nat.reduceSub, decide_true, decide_false, and_self, List.toList_toArray, Option.isSome_some, Option.isSome_none, List.elem_nil, List.elem_cons, ite_true, ite_false, Bool.false_eq_true, if_true, if_false, reduceIte, flatB_2, flatB_3, flatB_4, List.headD_cons, List.tail_cons, cAbs, fAbs]
  have hn1 := h1.n1
  have hpp : wrap64 (p * p) = p * p := mid_sq (by omega) (by omega)
  rw [hpp, absI_eq (by omega), bif_prop]
  refine ⟨fun hb => ?_, fun hb => ?_⟩
  · have hle := of_decide_eq_true hb
    have hp1 : p ≤ 1000 := (abs_le_of_sq (x := p) (n := 1000) (by omega) (by omega)).2
    rw [sfOut.eq_def, dif_pos ⟨h1.n0, h2, hle⟩] at h4
    refine lp_intro (fun y : Int × Int => ⟨[(0, .one (.i y.1)), (4, .one (.i y.2)), (5, .one (.i p))], []⟩) (fun y => SfI y.1 y.2 ∧ sfIn y.1 y.2 p = sfIn m k p) (fun y => y.1.natAbs) (m, k) [] ⟨h1, rfl⟩ (by simp only [Cov, covOk, covFr, covMem, entEq, rn, nodupB, A0.ren, AV.ren, Entry.ren, Entry.norm, vc, out, step, stepE, stepPick, stepG, stepO, stepC, eff, look, rem, St.put, St.setMem, setMems, St.after, St.eval, cst, setAt, val1, okNew, newHs, allHs, rdOf, outHs, Reg.item, Reg.next, Reg.skip, slotOf, effBox, effAlloc, entryRow, fieldOff, effField, loadI, load1, loadR, effLoad, storeI, storeB, storeR, szOk, storeTo, effStore, buildOf, effBuild, binInt, eqI, boolOf, binBool, effBin, effUn, effPick, effExtract, ivs, svs, rowOf, allParts, effBuildSlice, zeroRow, effMakeSlice, elemSz, idxA, idxS, effIndex, lenOf, readOf, subPre, maxRow, plainTI, appTo, effAppend, slcOf, effSlice, argOf, resA, resL, resV, outWr, nodupB, restOk, argsPre, argOk, callWr, effCall, effMax, wrHs, disj, AV.hs, A0.hs, Entry.hs, RC.elem, RC.sz, RC.len, RC.slice, RC.app, hA, initFr, initMem, initSt, resOf, resAll, compEq, compsEq, rowHs, outHds, outsEq, shapeOk, finOk, comps, A0.norm, AV.norm, specOf, t_int, t_bool, t_implForm, t_lawsForm, t_implMatrix, t_implPoint, t_implunited, t_implIdeal, t_lawsIdeal, t_implCharacter, ts_int, ts_implForm, ts_implPoint, ts_implCharacter, Option.getD_some, Option.getD_none, cond_true, cond_false, Nat.reduceBEq, List.map_cons, List.map_nil, List.set_cons_zero, List.set_cons_succ, List.getElem?_cons_zero, List.getElem?_cons_succ, List.drop_zero, List.drop_succ_cons, List.take_succ_cons, List.take_zero, Option.map_some, Option.map_none, Option.bind_some, Nat.zero_add, Nat.add_zero, Nat.reduceAdd, Nat.reduceMul, true_and, and_true, List.replicate_succ, List.replicate_zero, List.length_cons, List.length_nil, List.all_cons, List.all_nil, List.any_cons, List.any_nil, Bool.and_true, Bool.true_and, Bool.and_false, Bool.false_and, Bool.or_true, Bool.true_or, Bool.or_false, Bool.false_or, Bool.not_true, Bool.not_false, List.append_nil, List.nil_append, List.cons_append, List.flatMap_cons, List.flatMap_nil, List.contains_cons, List.contains_nil, List.filter_cons, List.filter_nil, beq_self_eq_true, Bool.not_eq_true, A0.b.injEq, A0.i.injEq, A0.s.injEq, A0.rw.injEq, A0.fn.injEq, List.cons.injEq, RC.ints.injEq, RC.recs.injEq, RC.bools.injEq, AV.one.injEq, AV.tup.injEq, ble_dec, blt_dec, Nat.reduceLeDiff, Nat.reduceSub, decide_true, decide_false, and_self, List.toList_toArray, Option.isSome_some, Option.isSome_none, List.elem_nil, List.elem_cons, ite_true, ite_false, Bool.false_eq_true, if_true, if_false, reduceIte, flatB_2, flatB_3, flatB_4, List.headD_cons, List.tail_cons]) fun y hy J' hJ' => ⟨1000, ?_⟩
    obtain ⟨m', k'⟩ := y
    obtain ⟨g1, g2⟩ := hy
    simp only at g1 g2 hJ'
    have hq := sq_ge h2
    simp only [vc, out, step, stepE, stepPick, stepG, stepO, stepC, eff, look, rem, St.put, St.setMem, setMems, St.after, St.eval, cst, setAt, val1, okNew, newHs, allHs, rdOf, outHs, Reg.item, Reg.next, Reg.skip, slotOf, effBox, effAlloc, entryRow, fieldOff, effField, loadI, load1, loadR, effLoad, storeI, storeB, storeR, szOk, storeTo, effStore, buildOf, effBuild, binInt, eqI, boolOf, binBool, effBin, effUn, effPick, effExtract, ivs, svs, rowOf, allParts, effBuildSlice, zeroRow, effMakeSlice, elemSz, idxA, idxS, effIndex, lenOf, readOf, subPre, maxRow, plainTI, appTo, effAppend, slcOf, effSlice, argOf, resA, resL, resV, outWr, nodupB, restOk, argsPre, argOk, callWr, effCall, effMax, wrHs, disj, AV.hs, A0.hs, Entry.hs, RC.elem, RC.sz, RC.len, RC.slice, RC.app, hA, initFr, initMem, initSt, resOf, resAll, compEq, compsEq, rowHs, outHds, outsEq, shapeOk, finOk, comps, A0.norm, AV.norm, specOf, t_int, t_bool, t_implForm, t_lawsForm, t_implMatrix, t_implPoint, t_implunited, t_implIdeal, t_lawsIdeal, t_implCharacter, ts_int, ts_implForm, ts_implPoint, ts_implCharacter, Option.getD_some, Option.getD_none, cond_true, cond_false, Nat.reduceBEq, List.map_cons, List.map_nil, List.set_cons_zero, List.set_cons_succ, List.getElem?_cons_zero, List.getElem?_cons_succ, List.drop_zero, List.drop_succ_cons, List.take_succ_cons, List.take_zero, Option.map_some, Option.map_none, Option.bind_some, Nat.zero_add, Nat.add_zero, Nat.reduceAdd, Nat.reduceMul, true_and, and_true, List.replicate_succ, List.replicate_zero, List.length_cons, List.length_nil, List.all_cons, List.all_nil, List.any_cons, List.any_nil, Bool.and_true, Bool.true_and, Bool.and_false, Bool.false_and, Bool.or_true, Bool.true_or, Bool.or_false, Bool.false_or, Bool.not_true, Bool.not_false, List.append_nil, List.nil_append, List.cons_append, List.flatMap_cons, List.flatMap_nil, List.contains_cons, List.contains_nil, List.filter_cons, List.filter_nil, beq_self_eq_true, Bool.not_eq_true, A0.b.injEq, A0.i.injEq, A0.s.injEq, A0.rw.injEq, A0.fn.injEq, List.cons.injEq, RC.ints.injEq, RC.recs.injEq, RC.bools.injEq, AV.one.injEq, AV.tup.injEq, ble_dec, blt_dec, Nat.reduceLeDiff, Nat.reduceSub, decide_true, decide_false, and_self, List.toList_toArray, Option.isSome_some, Option.isSome_none, List.elem_nil, List.elem_cons, ite_true, ite_false, Bool.false_eq_true, if_true, if_false, reduceIte, flatB_2, flatB_3, flatB_4, List.headD_cons, List.tail_cons, hpp]
    refine ⟨by omega, ?_⟩
    rw [bif_prop]
    refine ⟨fun hm => ⟨by omega, hJ' _ (m'.tdiv (p * p), k' * p) [] ?_ ?_ ?_⟩, fun hm => ?_⟩
    · have hm' : m'.tmod (p * p) = 0 := by simpa using hm
      rw [sfIn.eq_def m', dif_pos ⟨g1.n0, h2, hm'⟩] at g2
      exact ⟨g1.step h2 hm', g2⟩
    · have hm' : m'.tmod (p * p) = 0 := by simpa using hm
      exact (sf_quo g1.n0 h2 hm').2.1
    · have hm' : m'.tmod (p * p) = 0 := by simpa using hm
      have s1 := (g1.step h2 hm').n1
      have s2 := (g1.step h2 hm').k1
      have s3 := (g1.step h2 hm').k0
      simp only [Cov, covOk, covFr, covMem, entEq, rn, nodupB, A0.ren, AV.ren, Entry.ren, Entry.norm, vc, out, step, stepE, stepPick, stepG, stepO, stepC, eff, look, rem, St.put, St.setMem, setMems, St.after, St.eval, cst, setAt, val1, okNew, newHs, allHs, rdOf, outHs, Reg.item, Reg.next, Reg.skip, slotOf, effBox, effAlloc, entryRow, fieldOff, effField, loadI, load1, loadR, effLoad, storeI, storeB, storeR, szOk, storeTo, effStore, buildOf, effBuild, binInt, eqI, boolOf, binBool, effBin, effUn, effPick, effExtract, ivs, svs, rowOf, allParts, effBuildSlice, zeroRow, effMakeSlice, elemSz, idxA, idxS, effIndex, lenOf, readOf, subPre, maxRow, plainTI, appTo, effAppend, slcOf, effSlice, argOf, resA, resL, resV, outWr, nodupB, restOk, argsPre, argOk, callWr, effCall, effMax, wrHs, disj, AV.hs, A0.hs, Entry.hs, RC.elem, RC.sz, RC.len, RC.slice, RC.app, hA, initFr, initMem, initSt, resOf, resAll, compEq, compsEq, rowHs, outHds, outsEq, shapeOk, finOk, comps, A0.norm, AV.norm, specOf, t_int, t_bool, t_implForm, t_lawsForm, t_implMatrix, t_implPoint, t_implunited, t_implIdeal, t_lawsIdeal, t_implCharacter, ts_int, ts_implForm, ts_implPoint, ts_implCharacter, Option.getD_some, Option.getD_none, cond_true, cond_false, Nat.reduceBEq, List.map_cons, List.map_nil, List.set_cons_zero, List.set_cons_succ, List.getElem?_cons_zero, List.getElem?_cons_succ, List.drop_zero, List.drop_succ_cons, List.take_succ_cons, List.take_zero, Option.map_some, Option.map_none, Option.bind_some, Nat.zero_add, Nat.add_zero, Nat.reduceAdd, Nat.reduceMul, true_and, and_true, List.replicate_succ, List.replicate_zero, List.length_cons, List.length_nil, List.all_cons, List.all_nil, List.any_cons, List.any_nil, Bool.and_true, Bool.true_and, Bool.and_false, Bool.false_and, Bool.or_true, Bool.true_or, Bool.or_false, Bool.false_or, Bool.not_true, Bool.not_false, List.append_nil, List.nil_append, List.cons_append, List.flatMap_cons, List.flatMap_nil, List.contains_cons, List.contains_nil, List.filter_cons, List.filter_nil, beq_self_eq_true, Bool.not_eq_true, A0.b.injEq, A0.i.injEq, A0.s.injEq, A0.rw.injEq, A0.fn.injEq, List.cons.injEq, RC.ints.injEq, RC.recs.injEq, RC.bools.injEq, AV.one.injEq, AV.tup.injEq, ble_dec, blt_dec, Nat.reduceLeDiff, Nat.reduceSub, decide_true, decide_false, and_self, List.toList_toArray, Option.isSome_some, Option.isSome_none, List.elem_nil, List.elem_cons, ite_true, ite_false, Bool.false_eq_true, if_true, if_false, reduceIte, flatB_2, flatB_3, flatB_4, List.headD_cons, List.tail_cons, wrap_id (n := m'.tdiv (p * p)) (by omega) (by omega), wrap_id (n := k' * p) (by omega) (by omega)]
    · have hm' : ¬ m'.tmod (p * p) = 0 := by simpa using hm
      rw [sfIn.eq_def m', dif_neg (fun h => hm' h.2.2)] at g2
      rw [← g2] at h4
      exact hJ _ ((m', k'), p + 1) [] ⟨g1, by simp only; omega, by simp only; omega, h4⟩ (by simp only; omega) (by simp only [Cov, covOk, covFr, covMem, entEq, rn, nodupB, A0.ren, AV.ren, Entry.ren, Entry.norm, vc, out, step, stepE, stepPick, stepG, stepO, stepC, eff, look, rem, St.put, St.setMem, setMems, St.after, St.eval, cst, setAt, val1, okNew, newHs, allHs, rdOf, outHs, Reg.item, Reg.next, Reg.skip, slotOf, effBox, effAlloc, entryRow, fieldOff, effField, loadI, load1, loadR, effLoad, storeI, storeB, storeR, szOk, storeTo, effStore, buildOf, effBuild, binInt, eqI, boolOf, binBool, effBin, effUn, effPick, effExtract, ivs, svs, rowOf, allParts, effBuildSlice, zeroRow, effMakeSlice, elemSz, idxA, idxS, effIndex, lenOf, readOf, subPre, maxRow, plainTI, appTo, effAppend, slcOf, effSlice, argOf, resA, resL, resV, outWr, nodupB, restOk, argsPre, argOk, callWr, effCall, effMax, wrHs, disj, AV.hs, A0.hs, Entry.hs, RC.elem, RC.sz, RC.len, RC.slice, RC.app, hA, initFr, initMem, initSt, resOf, resAll, compEq, compsEq, rowHs, outHds, outsEq, shapeOk, finOk, comps, A0.norm, AV.norm, specOf, t_int, t_bool, t_implForm, t_lawsForm, t_implMatrix, t_implPoint, t_implunited, t_implIdeal, t_lawsIdeal, t_implCharacter, ts_int, ts_implForm, ts_implPoint, ts_implCharacter, Option.getD_some, Option.getD_none, cond_true, cond_false, Nat.reduceBEq, List.map_cons, List.map_nil, List.set_cons_zero, List.set_cons_succ, List.getElem?_cons_zero, List.getElem?_cons_succ, List.drop_zero, List.drop_succ_cons, List.take_succ_cons, List.take_zero, Option.map_some, Option.map_none, Option.bind_some, Nat.zero_add, Nat.add_zero, Nat.reduceAdd, Nat.reduceMul, true_and, and_true, List.replicate_succ, List.replicate_zero, List.length_cons, List.length_nil, List.all_cons, List.all_nil, List.any_cons, List.any_nil, Bool.and_true, Bool.true_and, Bool.and_false, Bool.false_and, Bool.or_true, Bool.true_or, Bool.or_false, Bool.false_or, Bool.not_true, Bool.not_false, List.append_nil, List.nil_append, List.cons_append, List.flatMap_cons, List.flatMap_nil, List.contains_cons, List.contains_nil, List.filter_cons, List.filter_nil, beq_self_eq_true, Bool.not_eq_true, A0.b.injEq, A0.i.injEq, A0.s.injEq, A0.rw.injEq, A0.fn.injEq, List.cons.injEq, RC.ints.injEq, RC.recs.injEq, RC.bools.injEq, AV.one.injEq, AV.tup.injEq, ble_dec, blt_dec, Nat.reduceLeDiff, Nat.reduceSub, decide_true, decide_false, and_self, List.toList_toArray, Option.isSome_some, Option.isSome_none, List.elem_nil, List.elem_cons, ite_true, ite_false, Bool.false_eq_true, if_true, if_false, reduceIte, flatB_2, flatB_3, flatB_4, List.headD_cons, List.tail_cons, wrap_id (n := p + 1) (by omega) (by omega)])
  · rw [sfOut.eq_def, dif_neg (fun h => of_decide_eq_false hb h.2.2)] at h4
    unfold sfS sfK
    rw [← h4]
    exact ⟨by kernel_rfl, rfl, rfl⟩
abbrev fNuFree : Nat := 184
def cNuFree : Ctr
  | [.i n] => some ⟨n ≠ 0 ∧ n.natAbs ≤ 1000000, .tup [.i (sfS n), .i (sfK n)], []⟩
  | _ => none
theorem okNuFree : CtrOk Try.prog fNuFree cNuFree := by
  have hsp : SpecOk Try.prog (specOf [(fLAbs, cLAbs)]) := (SpecOk.cons okLAbs SpecOk.nil)
  refine ctr_of (fn := Try.f184) mixed tab_ok hsp Try.func184 (by kernel_rfl) (by kernel_rfl) fun args ce h => ?_
  clear hsp
  unfold cNuFree at h
  split at h
  case h_2 => cases h
  rename_i n
  simp only [Option.some.injEq] at h
  subst h
  refine ⟨by rfl, fun hp => ⟨2, 1000, ?_⟩⟩
  simp only [vc, out, step, stepE, stepPick, stepG, stepO, stepC, eff, look, rem, St.put, St.setMem, setMems, St.after, St.eval, cst, setAt, val1, okNew, newHs, allHs, rdOf, outHs, Reg.item, Reg.next, Reg.skip, slotOf, effBox, effAlloc, entryRow, fieldOff, effField, loadI, load1, loadR, effLoad, storeI, storeB, storeR, szOk, storeTo, effStore, buildOf, effBuild, binInt, eqI, boolOf, binBool, effBin, effUn, effPick, effExtract, ivs, svs, rowOf, allParts, effBuildSlice, zeroRow, effMakeSlice, elemSz, idxA, idxS, effIndex, lenOf, readOf, subPre, maxRow, plainTI, appTo, effAppend, slcOf, effSlice, argOf, resA, resL, resV, outWr, nodupB, restOk, argsPre, argOk, callWr, effCall, effMax, wrHs, disj, AV.hs, A0.hs, Entry.hs, RC.elem, RC.sz, RC.len, RC.slice, RC.app, hA, initFr, initMem, initSt, resOf, resAll, compEq, compsEq, rowHs, outHds, outsEq, shapeOk, finOk, comps, A0.norm, AV.norm, specOf, t_int, t_bool, t_implForm, t_lawsForm, t_implMatrix, t_implPoint, t_implunited, t_implIdeal, t_lawsIdeal, t_implCharacter, ts_int, ts_implForm, ts_implPoint, ts_implCharacter, Option.getD_some, Option.getD_none, cond_true, cond_false, Nat.reduceBEq, List.map_cons, List.map_nil, List.set_cons_zero, List.set_cons_succ, List.getElem?_cons_zero, List.getElem?_cons_succ, List.drop_zero, List.drop_succ_cons, List.take_succ_cons, List.take_zero, Option.map_some, Option.map_none, Option.bind_some, Nat.zero_add, Nat.add_zero, Nat.reduceAdd, Nat.reduceMul, true_and, and_true, List.replicate_succ, List.replicate_zero, List.length_cons, List.length_nil, List.all_cons, List.all_nil, List.any_cons, List.any_nil, Bool.and_true, Bool.true_and, Bool.and_false, Bool.false_and, Bool.or_true, Bool.true_or, Bool.or_false, Bool.false_or, Bool.not_true, Bool.not_false, List.append_nil, List.nil_append, List.cons_append, List.flatMap_cons, List.flatMap_nil, List.contains_cons, List.contains_nil, List.filter_cons, List.filter_nil, beq_self_eq_true, Bool.not_eq_true, A0.b.injEq, A0.i.injEq, A0.s.injEq, A0.rw.injEq, A0.fn.injEq, List.cons.injEq, RC.ints.injEq, RC.recs.injEq, RC.bools.injEq, AV.one.injEq, AV.tup.injEq, ble_dec, blt_dec, Nat.reduceLeDiff, Nat.reduceSub, decide_true, decide_false, and_self, List.toList_toArray, Option.isSome_some, Option.isSome_none, List.elem_nil, List.elem_cons, ite_true, ite_false, Bool.false_eq_true, if_true, if_false, reduceIte, flatB_2, flatB_3, flatB_4, List.headD_cons, List.tail_cons, cLAbs, fLAbs, Try.f184]
  refine lp_intro (fun x : (Int × Int) × Int => ⟨[(0, .one (.i x.1.1)), (4, .one (.i x.1.2)), (5, .one (.i x.2))], []⟩) (fun x => SfI x.1.1 x.1.2 ∧ 2 ≤ x.2 ∧ x.2 ≤ 1001 ∧ sfOut x.1.1 x.1.2 x.2 = sfI n) (fun x => (1002 - x.2).toNat) ((n, 1), 2) [] ⟨sf_init hp.1 hp.2, by omega, by omega, rfl⟩ (by simp only [Cov, covOk, covFr, covMem, entEq, rn, nodupB, A0.ren, AV.ren, Entry.ren, Entry.norm, vc, out, step, stepE, stepPick, stepG, stepO, stepC, eff, look, rem, St.put, St.setMem, setMems, St.after, St.eval, cst, setAt, val1, okNew, newHs, allHs, rdOf, outHs, Reg.item, Reg.next, Reg.skip, slotOf, effBox, effAlloc, entryRow, fieldOff, effField, loadI, load1, loadR, effLoad, storeI, storeB, storeR, szOk, storeTo, effStore, buildOf, effBuild, binInt, eqI, boolOf, binBool, effBin, effUn, effPick, effExtract, ivs, svs, rowOf, allParts, effBuildSlice, zeroRow, effMakeSlice, elemSz, idxA, idxS, effIndex, lenOf, readOf, subPre, maxRow, plainTI, appTo, effAppend, slcOf, effSlice, argOf, resA, resL, resV, outWr, nodupB, restOk, argsPre, argOk, callWr, effCall, effMax, wrHs, disj, AV.hs, A0.hs, Entry.hs, RC.elem, RC.sz, RC.len, RC.slice, RC.app, hA, initFr, initMem, initSt, resOf, resAll, compEq, compsEq, rowHs, outHds, outsEq, shapeOk, finOk, comps, A0.norm, AV.norm, specOf, t_int, t_bool, t_implForm, t_lawsForm, t_implMatrix, t_implPoint, t_implunited, t_implIdeal, t_lawsIdeal, t_implCharacter, ts_int, ts_implForm, ts_implPoint, ts_implCharacter, Option.getD_some, Option.getD_none, cond_true, cond_false, Nat.reduceBEq, List.map_cons, List.map_nil, List.set_cons_zero, List.set_cons_succ, List.getElem?_cons_zero, List.getElem?_cons_succ, List.drop_zero, List.drop_succ_cons, List.take_succ_cons, List.take_zero, Option.map_some, Option.map_none, Option.bind_some, Nat.zero_add, Nat.add_zero, Nat.reduceAdd, Nat.reduceMul, true_and, and_true, List.replicate_succ, List.replicate_zero, List.length_cons, List.length_nil, List.all_cons, List.all_nil, List.any_cons, List.any_nil, Bool.and_true, Bool.true_and, Bool.and_false, Bool.false_and, Bool.or_true, Bool.true_or, Bool.or_false, Bool.false_or, Bool.not_true, Bool.not_false, List.append_nil, List.nil_append, List.cons_append, List.flatMap_cons, List.flatMap_nil, List.contains_cons, List.contains_nil, List.filter_cons, List.filter_nil, beq_self_eq_true, Bool.not_eq_true, A0.b.injEq, A0.i.injEq, A0.s.injEq, A0.rw.injEq, A0.fn.injEq, List.cons.injEq, RC.ints.injEq, RC.recs.injEq, RC.bools.injEq, AV.one.injEq, AV.tup.injEq, ble_dec, blt_dec, Nat.reduceLeDiff, Nat.reduceSub, decide_true, decide_false, and_self, List.toList_toArray, Option.isSome_some, Option.isSome_none, List.elem_nil, List.elem_cons, ite_true, ite_false, Bool.false_eq_true, if_true, if_false, reduceIte, flatB_2, flatB_3, flatB_4, List.headD_cons, List.tail_cons]) fun x hx J hJ => ⟨1000, ?_⟩
  obtain ⟨⟨m, k⟩, p⟩ := x
  obtain ⟨h1, h2, h3, h4⟩ := hx
  simp only at h1 h2 h3 h4 hJ
  simp only [vc, out, step, stepE, stepPick, stepG, stepO, stepC, eff, look, rem, St.put, St.setMem, setMems, St.after, St.eval, cst, setAt, val1, okNew, newHs, allHs, rdOf, outHs, Reg.item, Reg.next, Reg.skip, slotOf, effBox, effAlloc, entryRow, fieldOff, effField, loadI, load1, loadR, effLoad, storeI, storeB, storeR, szOk, storeTo, effStore, buildOf, effBuild, binInt, eqI, boolOf, binBool, effBin, effUn, effPick, effExtract, ivs, svs, rowOf, allParts, effBuildSlice, zeroRow, effMakeSlice, elemSz, idxA, idxS, effIndex, lenOf, readOf, subPre, maxRow, plainTI, appTo, effAppend, slcOf, effSlice, argOf, resA, resL, resV, outWr, nodupB, restOk, argsPre, argOk, callWr, effCall, effMax, wrHs, disj, AV.hs, A0.hs, Entry.hs, RC.elem, RC.sz, RC.len, RC.slice, RC.app, hA, initFr, initMem, initSt, resOf, resAll, compEq, compsEq, rowHs, outHds, outsEq, shapeOk, finOk, comps, A0.norm, AV.norm, specOf, t_int, t_bool, t_implForm, t_lawsForm, t_implMatrix, t_implPoint, t_implunited, t_implIdeal, t_lawsIdeal, t_implCharacter, ts_int, ts_implForm, ts_implPoint, ts_implCharacter, Option.getD_some, Option.getD_none, cond_true, cond_false, Nat.reduceBEq, List.map_cons, List.map_nil, List.set_cons_zero, List.set_cons_succ, List.getElem?_cons_zero, List.getElem?_cons_succ, List.drop_zero, List.drop_succ_cons, List.take_succ_cons, List.take_zero, Option.map_some, Option.map_none, Option.bind_some, Nat.zero_add, Nat.add_zero, Nat.reduceAdd, Nat.reduceMul, true_and, and_true, List.replicate_succ, List.replicate_zero, List.length_cons, List.length_nil, List.all_cons, List.all_nil, List.any_cons, List.any_nil, Bool.and_true, Bool.true_and, Bool.and_false, Bool.false_and, Bool.or_true, Bool.true_or, Bool.or_false, Bool.false_or, Bool.not_true, Bool.not_false, List.append_nil, List.nil_append, List.cons_append, List.flatMap_cons, List.flatMap_nil, List.contains_cons, List.contains_nil, List.filter_cons, List.filter_nil, beq_self_eq_true, Bool.not_eq_true, A0.b.injEq, A0.i.injEq, A0.s.injEq, A0.rw.injEq, A0.fn.injEq, List.cons.injEq, RC.ints.injEq, RC.recs.injEq, RC.bools.injEq, AV.one.injEq, AV.tup.injEq, ble_dec, blt_dec, Nat.reduceLeDiff, Nat.reduceSub, decide_true, decide_false, and_self, List.toList_toArray, Option.isSome_some, Option.isSome_none, List.elem_nil, List.elem_cons, ite_true, ite_false, Bool.false_eq_true, if_true, if_false, reduceIte, flatB_2, flatB_3, flatB_4, List.headD_cons, List.tail_cons, cLAbs, fLAbs]
  have hn1 := h1.n1
  have hpp : wrap64 (p * p) = p * p := mid_sq (by omega) (by omega)
  rw [hpp, labs_eq' (by omega), bif_prop]
  refine ⟨fun hb => ?_, fun hb => ?_⟩
  · have hle := of_decide_eq_true hb
    have hp1 : p ≤ 1000 := (abs_le_of_sq (x := p) (n := 1000) (by omega) (by omega)).2
    rw [sfOut.eq_def, dif_pos ⟨h1.n0, h2, hle⟩] at h4
    refine lp_intro (fun y : Int × Int => ⟨[(0, .one (.i y.1)), (4, .one (.i y.2)), (5, .one (.i p))], []⟩) (fun y => SfI y.1 y.2 ∧ sfIn y.1 y.2 p = sfIn m k p) (fun y => y.1.natAbs) (m, k) [] ⟨h1, rfl⟩ (by simp only [Cov, covOk, covFr, covMem, entEq, rn, nodupB, A0.ren, AV.ren, Entry.ren, Entry.norm, vc, out, step, stepE, stepPick, stepG, stepO, stepC, eff, look, rem, St.put, St.setMem, setMems, St.after, St.eval, cst, setAt, val1, okNew, newHs, allHs, rdOf, outHs, Reg.item, Reg.next, Reg.skip, slotOf, effBox, effAlloc, entryRow, fieldOff, effField, loadI, load1, loadR, effLoad, storeI, storeB, storeR, szOk, storeTo, effStore, buildOf, effBuild, binInt, eqI, boolOf, binBool, effBin, effUn, effPick, effExtract, ivs, svs, rowOf, allParts, effBuildSlice, zeroRow, effMakeSlice, elemSz, idxA, idxS, effIndex, lenOf, readOf, subPre, maxRow, plainTI, appTo, effAppend, slcOf, effSlice, argOf, resA, resL, resV, outWr, nodupB, restOk, argsPre, argOk, callWr, effCall, effMax, wrHs, disj, AV.hs, A0.hs, Entry.hs, RC.elem, RC.sz, RC.len, RC.slice, RC.app, hA, initFr, initMem, initSt, resOf, resAll, compEq, compsEq, rowHs, outHds, outsEq, shapeOk, finOk, comps, A0.norm, AV.norm, specOf, t_int, t_bool, t_implForm, t_lawsForm, t_implMatrix, t_implPoint, t_implunited, t_implIdeal, t_lawsIdeal, t_implCharacter, ts_int, ts_implForm, ts_implPoint, ts_implCharacter, Option.getD_some, Option.getD_none, cond_true, cond_false, Nat.reduceBEq, List.map_cons, List.map_nil, List.set_cons_zero, List.set_cons_succ, List.getElem?_cons_zero, List.getElem?_cons_succ, List.drop_zero, List.drop_succ_cons, List.take_succ_cons, List.take_zero, Option.map_some, Option.map_none, Option.bind_some, Nat.zero_add, Nat.add_zero, Nat.reduceAdd, Nat.reduceMul, true_and, and_true, List.replicate_succ, List.replicate_zero, List.length_cons, List.length_nil, List.all_cons, List.all_nil, List.any_cons, List.any_nil, Bool.and_true, Bool.true_and, Bool.and_false, Bool.false_and, Bool.or_true, Bool.true_or, Bool.or_false, Bool.false_or, Bool.not_true, Bool.not_false, List.append_nil, List.nil_append, List.cons_append, List.flatMap_cons, List.flatMap_nil, List.contains_cons, List.contains_nil, List.filter_cons, List.filter_nil, beq_self_eq_true, Bool.not_eq_true, A0.b.injEq, A0.i.injEq, A0.s.injEq, A0.rw.injEq, A0.fn.injEq, List.cons.injEq, RC.ints.injEq, RC.recs.injEq, RC.bools.injEq, AV.one.injEq, AV.tup.injEq, ble_dec, blt_dec, Nat.reduceLeDiff, Nat.reduceSub, decide_true, decide_false, and_self, List.toList_toArray, Option.isSome_some, Option.isSome_none, List.elem_nil, List.elem_cons, ite_true, ite_false, Bool.false_eq_true, if_true, if_false, reduceIte, flatB_2, flatB_3, flatB_4, List.headD_cons, List.tail_cons]) fun y hy J' hJ' => ⟨1000, ?_⟩
    obtain ⟨m', k'⟩ := y
    obtain ⟨g1, g2⟩ := hy
    simp only at g1 g2 hJ'
    have hq := sq_ge h2
    simp only [vc, out, step, stepE, stepPick, stepG, stepO, stepC, eff, look, rem, St.put, St.setMem, setMems, St.after, St.eval, cst, setAt, val1, okNew, newHs, allHs, rdOf, outHs, Reg.item, Reg.next, Reg.skip, slotOf, effBox, effAlloc, entryRow, fieldOff, effField, loadI, load1, loadR, effLoad, storeI, storeB, storeR, szOk, storeTo, effStore, buildOf, effBuild, binInt, eqI, boolOf, binBool, effBin, effUn, effPick, effExtract, ivs, svs, rowOf, allParts, effBuildSlice, zeroRow, effMakeSlice, elemSz, idxA, idxS, effIndex, lenOf, readOf, subPre, maxRow, plainTI, appTo, effAppend, slcOf, effSlice, argOf, resA, resL, resV, outWr, nodupB, restOk, argsPre, argOk, callWr, effCall, effMax, wrHs, disj, AV.hs, A0.hs, Entry.hs, RC.elem, RC.sz, RC.len, RC.slice, RC.app, hA, initFr, initMem, initSt, resOf, resAll, compEq, compsEq, rowHs, outHds, outsEq, shapeOk, finOk, comps, A0.norm, AV.norm, specOf, t_int, t_bool, t_implForm, t_lawsForm, t_implMatrix, t_implPoint, t_implunited, t_implIdeal, t_lawsIdeal, t_implCharacter, ts_int, ts_implForm, ts_implPoint, ts_implCharacter, Option.getD_some, Option.getD_none, cond_true, cond_false, Nat.reduceBEq, List.map_cons, List.map_nil, List.set_cons_zero, List.set_cons_succ, List.getElem?_cons_zero, List.getElem?_cons_succ, List.drop_zero, List.drop_succ_cons, List.take_succ_cons, List.take_zero, Option.map_some, Option.map_none, Option.bind_some, Nat.zero_add, Nat.add_zero, Nat.reduceAdd, Nat.reduceMul, true_and, and_true, List.replicate_succ, List.replicate_zero, List.length_cons, List.length_nil, List.all_cons, List.all_nil, List.any_cons, List.any_nil, Bool.and_true, Bool.true_and, Bool.and_false, Bool.false_and, Bool.or_true, Bool.true_or, Bool.or_false, Bool.false_or, Bool.not_true, Bool.not_false, List.append_nil, List.nil_append, List.cons_append, List.flatMap_cons, List.flatMap_nil, List.contains_cons, List.contains_nil, List.filter_cons, List.filter_nil, beq_self_eq_true, Bool.not_eq_true, A0.b.injEq, A0.i.injEq, A0.s.injEq, A0.rw.injEq, A0.fn.injEq, List.cons.injEq, RC.ints.injEq, RC.recs.injEq, RC.bools.injEq, AV.one.injEq, AV.tup.injEq, ble_dec, blt_dec, Nat.reduceLeDiff, Nat.reduceSub, decide_true, decide_false, and_self, List.toList_toArray, Option.isSome_some, Option.isSome_none, List.elem_nil, List.elem_cons, ite_true, ite_false, Bool.false_eq_true, if_true, if_false, reduceIte, flatB_2, flatB_3, flatB_4, List.headD_cons, List.tail_cons, hpp]
    refine ⟨by omega, ?_⟩
    rw [bif_prop]
    refine ⟨fun hm => ⟨by omega, hJ' _ (m'.tdiv (p * p), k' * p) [] ?_ ?_ ?_⟩, fun hm => ?_⟩
    · have hm' : m'.tmod (p * p) = 0 := by simpa using hm
      rw [sfIn.eq_def m', dif_pos ⟨g1.n0, h2, hm'⟩] at g2
      exact ⟨g1.step h2 hm', g2⟩
    · have hm' : m'.tmod (p * p) = 0 := by simpa using hm
      exact (sf_quo g1.n0 h2 hm').2.1
    · have hm' : m'.tmod (p * p) = 0 := by simpa using hm
      have s1 := (g1.step h2 hm').n1
      have s2 := (g1.step h2 hm').k1
      have s3 := (g1.step h2 hm').k0
      simp only [Cov, covOk, covFr, covMem, entEq, rn, nodupB, A0.ren, AV.ren, Entry.ren, Entry.norm, vc, out, step, stepE, stepPick, stepG, stepO, stepC, eff, look, rem, St.put, St.setMem, setMems, St.after, St.eval, cst, setAt, val1, okNew, newHs, allHs, rdOf, outHs, Reg.item, Reg.next, Reg.skip, slotOf, effBox, effAlloc, entryRow, fieldOff, effField, loadI, load1, loadR, effLoad, storeI, storeB, storeR, szOk, storeTo, effStore, buildOf, effBuild, binInt, eqI, boolOf, binBool, effBin, effUn, effPick, effExtract, ivs, svs, rowOf, allParts, effBuildSlice, zeroRow, effMakeSlice, elemSz, idxA, idxS, effIndex, lenOf, readOf, subPre, maxRow, plainTI, appTo, effAppend, slcOf, effSlice, argOf, resA, resL, resV, outWr, nodupB, restOk, argsPre, argOk, callWr, effCall, effMax, wrHs, disj, AV.hs, A0.hs, Entry.hs, RC.elem, RC.sz, RC.len, RC.slice, RC.app, hA, initFr, initMem, initSt, resOf, resAll, compEq, compsEq, rowHs, outHds, outsEq, shapeOk, finOk, comps, A0.norm, AV.norm, specOf, t_int, t_bool, t_implForm, t_lawsForm, t_implMatrix, t_implPoint, t_implunited, t_implIdeal, t_lawsIdeal, t_implCharacter, ts_int, ts_implForm, ts_implPoint, ts_implCharacter, Option.getD_some, Option.getD_none, cond_true, cond_false, Nat.reduceBEq, List.map_cons, List.map_nil, List.set_cons_zero, List.set_cons_succ, List.getElem?_cons_zero, List.getElem?_cons_succ, List.drop_zero, List.drop_succ_cons, List.take_succ_cons, List.take_zero, Option.map_some, Option.map_none, Option.bind_some, Nat.zero_add, Nat.add_zero, Nat.reduceAdd, Nat.reduceMul, true_and, and_true, List.replicate_succ, List.replicate_zero, List.length_cons, List.length_nil, List.all_cons, List.all_nil, List.any_cons, List.any_nil, Bool.and_true, Bool.true_and, Bool.and_false, Bool.false_and, Bool.or_true, Bool.true_or, Bool.or_false, Bool.false_or, Bool.not_true, Bool.not_false, List.append_nil, List.nil_append, List.cons_append, List.flatMap_cons, List.flatMap_nil, List.contains_cons, List.contains_nil, List.filter_cons, List.filter_nil, beq_self_eq_true, Bool.not_eq_true, A0.b.injEq, A0.i.injEq, A0.s.injEq, A0.rw.injEq, A0.fn.injEq, List.cons.injEq, RC.ints.injEq, RC.recs.injEq, RC.bools.injEq, AV.one.injEq, AV.tup.injEq, ble_dec, blt_dec, Nat.reduceLeDiff, Nat.reduceSub, decide_true, decide_false, and_self, List.toList_toArray, Option.isSome_some, Option.isSome_none, List.elem_nil, List.elem_cons, ite_true, ite_false, Bool.false_eq_true, if_true, if_false, reduceIte, flatB_2, flatB_3, flatB_4, List.headD_cons, List.tail_cons, wrap_id (n := m'.tdiv (p * p)) (by omega) (by omega), wrap_id (n := k' * p) (by omega) (by omega)]
    · have hm' : ¬ m'.tmod (p * p) = 0 := by simpa using hm
      rw [sfIn.eq_def m', dif_neg (fun h => hm' h.2.2)] at g2
      rw [← g2] at h4
      exact hJ _ ((m', k'), p + 1) [] ⟨g1, by simp only; omega, by simp only; omega, h4⟩ (by simp only; omega) (by simp only [Cov, covOk, covFr, covMem, entEq, rn, nodupB, A0.ren, AV.ren, Entry.ren, Entry.norm, vc, out, step, stepE, stepPick, stepG, stepO, stepC, eff, look, rem, St.put, St.setMem, setMems, St.after, St.eval, cst, setAt, val1, okNew, newHs, allHs, rdOf, outHs, Reg.item, Reg.next, Reg.skip, slotOf, effBox, effAlloc, entryRow, fieldOff, effField, loadI, load1, loadR, effLoad, storeI, storeB, storeR, szOk, storeTo, effStore, buildOf, effBuild, binInt, eqI, boolOf, binBool, effBin, effUn, effPick, effExtract, ivs, svs, rowOf, allParts, effBuildSlice, zeroRow, effMakeSlice, elemSz, idxA, idxS, effIndex, lenOf, readOf, subPre, maxRow, plainTI, appTo, effAppend, slcOf, effSlice, argOf, resA, resL, resV, outWr, nodupB, restOk, argsPre, argOk, callWr, effCall, effMax, wrHs, disj, AV.hs, A0.hs, Entry.hs, RC.elem, RC.sz, RC.len, RC.slice, RC.app, hA, initFr, initMem, initSt, resOf, resAll, compEq, compsEq, rowHs, outHds, outsEq, shapeOk, finOk, comps, A0.norm, AV.norm, specOf, t_int, t_bool, t_implForm, t_lawsForm, t_implMatrix, t_implPoint, t_implunited, t_implIdeal, t_lawsIdeal, t_implCharacter, ts_int, ts_implForm, ts_implPoint, ts_implCharacter, Option.getD_some, Option.getD_none, cond_true, cond_false, Nat.reduceBEq, List.map_cons, List.map_nil, List.set_cons_zero, List.set_cons_succ, List.getElem?_cons_zero, List.getElem?_cons_succ, List.drop_zero, List.drop_succ_cons, List.take_succ_cons, List.take_zero, Option.map_some, Option.map_none, Option.bind_some, Nat.zero_add, Nat.add_zero, Nat.reduceAdd, Nat.reduceMul, true_and, and_true, List.replicate_succ, List.replicate_zero, List.length_cons, List.length_nil, List.all_cons, List.all_nil, List.any_cons, List.any_nil, Bool.and_true, Bool.true_and, Bool.and_false, Bool.false_and, Bool.or_true, Bool.true_or, Bool.or_false, Bool.false_or, Bool.not_true, Bool.not_false, List.append_nil, List.nil_append, List.cons_append, List.flatMap_cons, List.flatMap_nil, List.contains_cons, List.contains_nil, List.filter_cons, List.filter_nil, beq_self_eq_true, Bool.not_eq_true, A0.b.injEq, A0.i.injEq, A0.s.injEq, A0.rw.injEq, A0.fn.injEq, List.cons.injEq, RC.ints.injEq, RC.recs.injEq, RC.bools.injEq, AV.one.injEq, AV.tup.injEq, ble_dec, blt_dec, Nat.reduceLeDiff, Nat.reduceSub, decide_true, decide_false, and_self, List.toList_toArray, Option.isSome_some, Option.isSome_none, List.elem_nil, List.elem_cons, ite_true, ite_false, Bool.false_eq_true, if_true, if_false, reduceIte, flatB_2, flatB_3, flatB_4, List.headD_cons, List.tail_cons, wrap_id (n := p + 1) (by omega) (by omega)])
  · rw [sfOut.eq_def, dif_neg (fun h => of_decide_eq_false hb h.2.2)] at h4
    unfold sfS sfK
    rw [← h4]
    exact ⟨by kernel_rfl, rfl, rfl⟩
def fuE (d : Int) : Int := bif modI (sfS d) 4 == 1 then sfS d else wrap64 (4 * sfS d)
def fuK (d : Int) : Int := bif modI (sfS d) 4 == 1 then sfK d else wrap64 ((sfK d).tdiv 2)
abbrev fFundamental : Nat := 150
def cFundamental : Ctr
  | [.i d] => some ⟨d ≠ 0 ∧ d.natAbs ≤ 1000000, .tup [.i (fuE d), .i (fuK d)], []⟩
  | _ => none
theorem okFundamental : CtrOk Try.prog fFundamental cFundamental := by
  have hsp : SpecOk Try.prog (specOf [(fSquareFree, cSquareFree), (fMod, cMod)]) := (SpecOk.cons okSquareFree (SpecOk.cons okMod SpecOk.nil))
  refine ctr_of (fn := Try.f150) mixed tab_ok hsp Try.func150 (by kernel_rfl) (by kernel_rfl) fun args ce h => ?_
  clear hsp
  unfold cFundamental at h
  split at h
  case h_2 => cases h
  rename_i d
  simp only [Option.some.injEq] at h
  subst h
  refine ⟨by rfl, fun hp => ⟨0, 1000, ?_⟩⟩
  simp only [vc, out, step, stepE, stepPick, stepG, stepO, stepC, eff, look, rem, St.put, St.setMem, setMems, St.after, St.eval, cst, setAt, val1, okNew, newHs, allHs, rdOf, outHs, Reg.item, Reg.next, Reg.skip, slotOf, effBox, effAlloc, entryRow, fieldOff, effField, loadI, load1, loadR, effLoad, storeI, storeB, storeR, szOk, storeTo, effStore, buildOf, effBuild, binInt, eqI, boolOf, binBool, effBin, effUn, effPick, effExtract, ivs, svs, rowOf, allParts, effBuildSlice, zeroRow, effMakeSlice, elemSz, idxA, idxS, effIndex, lenOf, readOf, subPre, maxRow, plainTI, appTo, effAppend, slcOf, effSlice, argOf, resA, resL, resV, outWr, nodupB, restOk, argsPre, argOk, callWr, effCall, effMax, wrHs, disj, AV.hs, A0.hs, Entry.hs, RC.elem, RC.sz, RC.len, RC.slice, RC.app, hA, initFr, initMem, initSt, resOf, resAll, compEq, compsEq, rowHs, outHds, outsEq, shapeOk, finOk, comps, A0.norm, AV.norm, specOf, t_int, t_bool, t_implForm, t_lawsForm, t_implMatrix, t_implPoint, t_implunited, t_implIdeal, t_lawsIdeal, t_implCharacter, ts_int, ts_implForm, ts_implPoint, ts_implCharacter, Option.getD_some, Option.getD_none, cond_true, cond_false, Nat.reduceBEq, List.map_cons, List.map_nil, List.set_cons_zero, List.set_cons_succ, List.getElem?_cons_zero, List.getElem?_cons_succ, List.drop_zero, List.drop_succ_cons, List.take_succ_cons, List.take_zero, Option.map_some, Option.map_none, Option.bind_some, Nat.zero_add, Nat.add_zero, Nat.reduceAdd, Nat.reduceMul, true_and, and_true, List.replicate_succ, List.replicate_zero, List.length_cons, List.length_nil, List.all_cons, List.all_nil, List.any_cons, List.any_nil, Bool.and_true, Bool.true_and, Bool.and_false, Bool.false_and, Bool.or_true, Bool.true_or, Bool.or_false, Bool.false_or, Bool.not_true, Bool.not_false, List.append_nil, List.nil_append, List.cons_append, List.flatMap_cons, List.flatMap_nil, List.contains_cons, List.contains_nil, List.filter_cons, List.filter_nil, beq_self_eq_true, Bool.not_eq_true, A0.b.injEq, A0.i.injEq, A0.s.injEq, A0.rw.injEq, A0.fn.injEq, List.cons.injEq, RC.ints.injEq, RC.recs.injEq, RC.bools.injEq, AV.one.injEq, AV.tup.injEq, ble_dec, blt_dec, Nat.reduceLeDiff, Nat.reduceSub, decide_true, decide_false, and_self, List.toList_toArray, Option.isSome_some, Option.isSome_none, List.elem_nil, List.elem_cons, ite_true, ite_false, Bool.false_eq_true, if_true, if_false, reduceIte, flatB_2, flatB_3, flatB_4, List.headD_cons, List.tail_cons, cSquareFree, fSquareFree, cMod, fMod, Try.f150]
  refine ⟨hp, by decide, ?_⟩
  unfold fuE fuK bne
  cases (modI (sfS d) 4 == 1)
  · exact ⟨by decide, by kernel_rfl, rfl, rfl⟩
  · exact ⟨by kernel_rfl, rfl, rfl⟩
abbrev fDiSplit : Nat := 170
def cDiSplit : Ctr
  | [.i d] => some ⟨d ≠ 0 ∧ d.natAbs ≤ 1000000, .tup [.i (fuE d), .i (fuK d)], []⟩
  | _ => none
theorem okDiSplit : CtrOk Try.prog fDiSplit cDiSplit := by
  have hsp : SpecOk Try.prog (specOf [(fNuFree, cNuFree), (fNuMod, cNuMod)]) := (SpecOk.cons okNuFree (SpecOk.cons okNuMod SpecOk.nil))
  refine ctr_of (fn := Try.f170) mixed tab_ok hsp Try.func170 (by kernel_rfl) (by kernel_rfl) fun args ce h => ?_
  clear hsp
  unfold cDiSplit at h
  split at h
  case h_2 => cases h
  rename_i d
  simp only [Option.some.injEq] at h
  subst h
  refine ⟨by rfl, fun hp => ⟨0, 1000, ?_⟩⟩
  simp only [vc, out, step, stepE, stepPick, stepG, stepO, stepC, eff, look, rem, St.put, St.setMem, setMems, St.after, St.eval, cst, setAt, val1, okNew, newHs, allHs, rdOf, outHs, Reg.item, Reg.next, Reg.skip, slotOf, effBox, effAlloc, entryRow, fieldOff, effField, loadI, load1, loadR, effLoad, storeI, storeB, storeR, szOk, storeTo, effStore, buildOf, effBuild, binInt, eqI, boolOf, binBool, effBin, effUn, effPick, effExtract, ivs, svs, rowOf, allParts, effBuildSlice, zeroRow, effMakeSlice, elemSz, idxA, idxS, effIndex, lenOf, readOf, subPre, maxRow, plainTI, appTo, effAppend, slcOf, effSlice, argOf, resA, resL, resV, outWr, nodupB, restOk, argsPre, argOk, callWr, effCall, effMax, wrHs, disj, AV.hs, A0.hs, Entry.hs, RC.elem, RC.sz, RC.len, RC.slice, RC.app, hA, initFr, initMem, initSt, resOf, resAll, compEq, compsEq, rowHs, outHds, outsEq, shapeOk, finOk, comps, A0.norm, AV.norm, specOf, t_int, t_bool, t_implForm, t_lawsForm, t_implMatrix, t_implPoint, t_implunited, t_implIdeal, t_lawsIdeal, t_implCharacter, ts_int, ts_implForm, ts_implPoint, ts_implCharacter, Option.getD_some, Option.getD_none, cond_true, cond_false, Nat.reduceBEq, List.map_cons, List.map_nil, List.set_cons_zero, List.set_cons_succ, List.getElem?_cons_zero, List.getElem?_cons_succ, List.drop_zero, List.drop_succ_cons, List.take_succ_cons, List.take_zero, Option.map_some, Option.map_none, Option.bind_some, Nat.zero_add, Nat.add_zero, Nat.reduceAdd, Nat.reduceMul, true_and, and_true, List.replicate_succ, List.replicate_zero, List.length_cons, List.length_nil, List.all_cons, List.all_nil, List.any_cons, List.any_nil, Bool.and_true, Bool.true_and, Bool.and_false, Bool.false_and, Bool.or_true, Bool.true_or, Bool.or_false, Bool.false_or, Bool.not_true, Bool.not_false, List.append_nil, List.nil_append, List.cons_append, List.flatMap_cons, List.flatMap_nil, List.contains_cons, List.contains_nil, List.filter_cons, List.filter_nil, beq_self_eq_true, Bool.not_eq_true, A0.b.injEq, A0.i.injEq, A0.s.injEq, A0.rw.injEq, A0.fn.injEq, List.cons.injEq, RC.ints.injEq, RC.recs.injEq, RC.bools.injEq, AV.one.injEq, AV.tup.injEq, ble_dec, blt_dec, Nat.reduceLeDiff, Nat.reduceSub, decide_true, decide_false, and_self, List.toList_toArray, Option.isSome_some, Option.isSome_none, List.elem_nil, List.elem_cons, ite_true, ite_false, Bool.false_eq_true, if_true, if_false, reduceIte, flatB_2, flatB_3, flatB_4, List.headD_cons, List.tail_cons, cNuFree, fNuFree, cNuMod, fNuMod, Try.f170]
  refine ⟨hp, by decide, ?_⟩
  unfold fuE fuK
  cases (modI (sfS d) 4 == 1)
  · exact ⟨by decide, by kernel_rfl, rfl, rfl⟩
  · exact ⟨by kernel_rfl, rfl, rfl⟩
def diB (d : Int) : Bool := goodI d && (decide (modI d 4 < 2) && !sqB d)
abbrev fDiIs : Nat := 169
def cDiIs : Ctr
  | [.i d] => some ⟨True, .one (.b (diB d)), []⟩
  | _ => none
theorem okDiIs : CtrOk Try.prog fDiIs cDiIs := by
  have hsp : SpecOk Try.prog (specOf [(fGood, cGood), (fNuMod, cNuMod), (fNuSquare, cNuSquare)]) := (SpecOk.cons okGood (SpecOk.cons okNuMod (SpecOk.cons okNuSquare SpecOk.nil)))
  refine ctr_of (fn := Try.f169) mixed tab_ok hsp Try.func169 (by kernel_rfl) (by kernel_rfl) fun args ce h => ?_
  clear hsp
  unfold cDiIs at h
  split at h
  case h_2 => cases h
  rename_i d
  simp only [Option.some.injEq] at h
  subst h
  refine ⟨by rfl, fun hp => ⟨0, 1000, ?_⟩⟩
  simp only [vc, out, step, stepE, stepPick, stepG, stepO, stepC, eff, look, rem, St.put, St.setMem, setMems, St.after, St.eval, cst, setAt, val1, okNew, newHs, allHs, rdOf, outHs, Reg.item, Reg.next, Reg.skip, slotOf, effBox, effAlloc, entryRow, fieldOff, effField, loadI, load1, loadR, effLoad, storeI, storeB, storeR, szOk, storeTo, effStore, buildOf, effBuild, binInt, eqI, boolOf, binBool, effBin, effUn, effPick, effExtract, ivs, svs, rowOf, allParts, effBuildSlice, zeroRow, effMakeSlice, elemSz, idxA, idxS, effIndex, lenOf, readOf, subPre, maxRow, plainTI, appTo, effAppend, slcOf, effSlice, argOf, resA, resL, resV, outWr, nodupB, restOk, argsPre, argOk, callWr, effCall, effMax, wrHs, disj, AV.hs, A0.hs, Entry.hs, RC.elem, RC.sz, RC.len, RC.slice, RC.app, hA, initFr, initMem, initSt, resOf, resAll, compEq, compsEq, rowHs, outHds, outsEq, shapeOk, finOk, comps, A0.norm, AV.norm, specOf, t_int, t_bool, t_implForm, t_lawsForm, t_implMatrix, t_implPoint, t_implunited, t_implIdeal, t_lawsIdeal, t_implCharacter, ts_int, ts_implForm, ts_implPoint, ts_implCharacter, Option.getD_some, Option.getD_none, cond_true, cond_false, Nat.reduceBEq, List.map_cons, List.map_nil, List.set_cons_zero, List.set_cons_succ, List.getElem?_cons_zero, List.getElem?_cons_succ, List.drop_zero, List.drop_succ_cons, List.take_succ_cons, List.take_zero, Option.map_some, Option.map_none, Option.bind_some, Nat.zero_add, Nat.add_zero, Nat.reduceAdd, Nat.reduceMul, true_and, and_true, List.replicate_succ, List.replicate_zero, List.length_cons, List.length_nil, List.all_cons, List.all_nil, List.any_cons, List.any_nil, Bool.and_true, Bool.true_and, Bool.and_false, Bool.false_and, Bool.or_true, Bool.true_or, Bool.or_false, Bool.false_or, Bool.not_true, Bool.not_false, List.append_nil, List.nil_append, List.cons_append, List.flatMap_cons, List.flatMap_nil, List.contains_cons, List.contains_nil, List.filter_cons, List.filter_nil, beq_self_eq_true, Bool.not_eq_true, A0.b.injEq, A0.i.injEq, A0.s.injEq, A0.rw.injEq, A0.fn.injEq, List.cons.injEq, RC.ints.injEq, RC.recs.injEq, RC.bools.injEq, AV.one.injEq, AV.tup.injEq, ble_dec, blt_dec, Nat.reduceLeDiff, Nat.reduceSub, decide_true, decide_false, and_self, List.toList_toArray, Option.isSome_some, Option.isSome_none, List.elem_nil, List.elem_cons, ite_true, ite_false, Bool.false_eq_true, if_true, if_false, reduceIte, flatB_2, flatB_3, flatB_4, List.headD_cons, List.tail_cons, cGood, fGood, cNuMod, fNuMod, cNuSquare, fNuSquare, Try.f169]
  unfold diB
  cases h : goodI d with
  | false => rfl
  | true =>
    refine ⟨by decide, ?_⟩
    cases h2 : decide (modI d 4 < 2) with
    | false => rfl
    | true =>
      rw [good_are, areB_iff] at h
      exact ⟨by omega, rfl⟩
theorem sqB_zero : sqB 0 = true := (sqB_iff (by omega)).2 ⟨0, rfl⟩
theorem diB_in {d : Int} (h : diB d = true) : d ≠ 0 ∧ d.natAbs ≤ 1000000 := by
  simp only [diB, Bool.and_eq_true, Bool.not_eq_true'] at h
  obtain ⟨h1, _, h3⟩ := h
  rw [good_are, areB_iff] at h1
  refine ⟨fun e => ?_, by omega⟩
  rw [e, sqB_zero] at h3
  cases h3
theorem diB_neg {d : Int} (h : negB d = true) : diB d = true := by
  have h1 := negB_in h
  have h2 := negB_mod h
  simp only [diB, Bool.and_eq_true, Bool.not_eq_true']
  refine ⟨?_, ?_, ?_⟩
  · rw [good_are, areB_iff]; omega
  · rw [decide_eq_true_iff, modI_eq (by omega) (by omega)]; omega
  · unfold sqB
    have : decide (d ≥ 0) = false := by rw [decide_eq_false_iff_not]; omega
    rw [this]; rfl
abbrev fSIsFund : Nat := 148
def cSIsFund : Ctr
  | [.i d] => some ⟨True, .tup [.b (diB d && fuK d == 1), .b (diB d)], []⟩
  | _ => none
theorem okSIsFund : CtrOk Try.prog fSIsFund cSIsFund := by
  have hsp : SpecOk Try.prog (specOf [(fDiIs, cDiIs), (fDiSplit, cDiSplit)]) := (SpecOk.cons okDiIs (SpecOk.cons okDiSplit SpecOk.nil))
  refine ctr_of (fn := Try.f148) mixed tab_ok hsp Try.func148 (by kernel_rfl) (by kernel_rfl) fun args ce h => ?_
  clear hsp
  unfold cSIsFund at h
  split at h
  case h_2 => cases h
  rename_i d
  simp only [Option.some.injEq] at h
  subst h
  refine ⟨by rfl, fun hp => ⟨0, 1000, ?_⟩⟩
  simp only [vc, out, step, stepE, stepPick, stepG, stepO, stepC, eff, look, rem, St.put, St.setMem, setMems, St.after, St.eval, cst, setAt, val1, okNew, newHs, allHs, rdOf, outHs, Reg.item, Reg.next, Reg.skip, slotOf, effBox, effAlloc, entryRow, fieldOff, effField, loadI, load1, loadR, effLoad, storeI, storeB, storeR, szOk, storeTo, effStore, buildOf, effBuild, binInt, eqI, boolOf, binBool, effBin, effUn, effPick, effExtract, ivs, svs, rowOf, allParts, effBuildSlice, zeroRow, effMakeSlice, elemSz, idxA, idxS, effIndex, lenOf, readOf, subPre, maxRow, plainTI, appTo, effAppend, slcOf, effSlice, argOf, resA, resL, resV, outWr, nodupB, restOk, argsPre, argOk, callWr, effCall, effMax, wrHs, disj, AV.hs, A0.hs, Entry.hs, RC.elem, RC.sz, RC.len, RC.slice, RC.app, hA, initFr, initMem, initSt, resOf, resAll, compEq, compsEq, rowHs, outHds, outsEq, shapeOk, finOk, comps, A0.norm, AV.norm, specOf, t_int, t_bool, t_implForm, t_lawsForm, t_implMatrix, t_implPoint, t_implunited, t_implIdeal, t_lawsIdeal, t_implCharacter, ts_int, ts_implForm, ts_implPoint, ts_implCharacter, Option.getD_some, Option.getD_none, cond_true, cond_false, Nat.reduceBEq, List.map_cons, List.map_nil, List.set_cons_zero, List.set_cons_succ, List.getElem?_cons_zero, List.getElem?_cons_succ, List.drop_zero, List.drop_succ_cons, List.take_succ_cons, List.take_zero, Option.map_some, Option.map_none, Option.bind_some, Nat.zero_add, Nat.add_zero, Nat.reduceAdd, Nat.reduceMul, true_and, and_true, List.replicate_succ, List.replicate_zero, List.length_cons, List.length_nil, List.all_cons, List.all_nil, List.any_cons, List.any_nil, Bool.and_true, Bool.true_and, Bool.and_false, Bool.false_and, Bool.or_true, Bool.true_or, Bool.or_false, Bool.false_or, Bool.not_true, Bool.not_false, List.append_nil, List.nil_append, List.cons_append, List.flatMap_cons, List.flatMap_nil, List.contains_cons, List.contains_nil, List.filter_cons, List.filter_nil, beq_self_eq_true, Bool.not_eq_true, A0.b.injEq, A0.i.injEq, A0.s.injEq, A0.rw.injEq, A0.fn.injEq, List.cons.injEq, RC.ints.injEq, RC.recs.injEq, RC.bools.injEq, AV.one.injEq, AV.tup.injEq, ble_dec, blt_dec, Nat.reduceLeDiff, Nat.reduceSub, decide_true, decide_false, and_self, List.toList_toArray, Option.isSome_some, Option.isSome_none, List.elem_nil, List.elem_cons, ite_true, ite_false, Bool.false_eq_true, if_true, if_false, reduceIte, flatB_2, flatB_3, flatB_4, List.headD_cons, List.tail_cons, cDiIs, fDiIs, cDiSplit, fDiSplit, Try.f148]
  cases h : diB d with
  | false => exact ⟨by kernel_rfl, rfl, rfl⟩
  | true => exact ⟨diB_in h, by kernel_rfl, rfl, rfl⟩
def fnB (d : Int) : Bool := negB d && fuK d == 1
abbrev fPiDisc : Nat := 113
def cPiDisc : Ctr
  | [.i d] => some ⟨True, .one (.b (fnB d)), []⟩
  | _ => none
theorem okPiDisc : CtrOk Try.prog fPiDisc cPiDisc := by
  have hsp : SpecOk Try.prog (specOf [(fSIsFund, cSIsFund), (fReDisc, cReDisc)]) := (SpecOk.cons okSIsFund (SpecOk.cons okReDisc SpecOk.nil))
  refine ctr_of (fn := Try.f113) mixed tab_ok hsp Try.func113 (by kernel_rfl) (by kernel_rfl) fun args ce h => ?_
  clear hsp
  unfold cPiDisc at h
  split at h
  case h_2 => cases h
  rename_i d
  simp only [Option.some.injEq] at h
  subst h
  refine ⟨by rfl, fun hp => ⟨0, 1000, ?_⟩⟩
  simp only [vc, out, step, stepE, stepPick, stepG, stepO, stepC, eff, look, rem, St.put, St.setMem, setMems, St.after, St.eval, cst, setAt, val1, okNew, newHs, allHs, rdOf, outHs, Reg.item, Reg.next, Reg.skip, slotOf, effBox, effAlloc, entryRow, fieldOff, effField, loadI, load1, loadR, effLoad, storeI, storeB, storeR, szOk, storeTo, effStore, buildOf, effBuild, binInt, eqI, boolOf, binBool, effBin, effUn, effPick, effExtract, ivs, svs, rowOf, allParts, effBuildSlice, zeroRow, effMakeSlice, elemSz, idxA, idxS, effIndex, lenOf, readOf, subPre, maxRow, plainTI, appTo, effAppend, slcOf, effSlice, argOf, resA, resL, resV, outWr, nodupB, restOk, argsPre, argOk, callWr, effCall, effMax, wrHs, disj, AV.hs, A0.hs, Entry.hs, RC.elem, RC.sz, RC.len, RC.slice, RC.app, hA, initFr, initMem, initSt, resOf, resAll, compEq, compsEq, rowHs, outHds, outsEq, shapeOk, finOk, comps, A0.norm, AV.norm, specOf, t_int, t_bool, t_implForm, t_lawsForm, t_implMatrix, t_implPoint, t_implunited, t_implIdeal, t_lawsIdeal, t_implCharacter, ts_int, ts_implForm, ts_implPoint, ts_implCharacter, Option.getD_some, Option.getD_none, cond_true, cond_false, Nat.reduceBEq, List.map_cons, List.map_nil, List.set_cons_zero, List.set_cons_succ, List.getElem?_cons_zero, List.getElem?_cons_succ, List.drop_zero, List.drop_succ_cons, List.take_succ_cons, List.take_zero, Option.map_some, Option.map_none, Option.bind_some, Nat.zero_add, Nat.add_zero, Nat.reduceAdd, Nat.reduceMul, true_and, and_true, List.replicate_succ, List.replicate_zero, List.length_cons, List.length_nil, List.all_cons, List.all_nil, List.any_cons, List.any_nil, Bool.and_true, Bool.true_and, Bool.and_false, Bool.false_and, Bool.or_true, Bool.true_or, Bool.or_false, Bool.false_or, Bool.not_true, Bool.not_false, List.append_nil, List.nil_append, List.cons_append, List.flatMap_cons, List.flatMap_nil, List.contains_cons, List.contains_nil, List.filter_cons, List.filter_nil, beq_self_eq_true, Bool.not_eq_true, A0.b.injEq, A0.i.injEq, A0.s.injEq, A0.rw.injEq, A0.fn.injEq, List.cons.injEq, RC.ints.injEq, RC.recs.injEq, RC.bools.injEq, AV.one.injEq, AV.tup.injEq, ble_dec, blt_dec, Nat.reduceLeDiff, Nat.reduceSub, decide_true, decide_false, and_self, List.toList_toArray, Option.isSome_some, Option.isSome_none, List.elem_nil, List.elem_cons, ite_true, ite_false, Bool.false_eq_true, if_true, if_false, reduceIte, flatB_2, flatB_3, flatB_4, List.headD_cons, List.tail_cons, cSIsFund, fSIsFund, cReDisc, fReDisc, Try.f113]
  unfold fnB
  cases h : negB d with
  | false => cases diB d <;> cases (fuK d == 1) <;> rfl
  | true =>
    rw [diB_neg h]
    cases (fuK d == 1) <;> rfl
abbrev fFundNeg : Nat := 119
def cFundNeg : Ctr
  | [.i d] => some ⟨True, .one (.b (fnB d)), []⟩
  | _ => none
theorem okFundNeg : CtrOk Try.prog fFundNeg cFundNeg := by
  have hsp : SpecOk Try.prog (specOf [(fIsNeg, cIsNeg), (fFundamental, cFundamental)]) := (SpecOk.cons okIsNeg (SpecOk.cons okFundamental SpecOk.nil))
  refine ctr_of (fn := Try.f119) mixed tab_ok hsp Try.func119 (by kernel_rfl) (by kernel_rfl) fun args ce h => ?_
  clear hsp
  unfold cFundNeg at h
  split at h
  case h_2 => cases h
  rename_i d
  simp only [Option.some.injEq] at h
  subst h
  refine ⟨by rfl, fun hp => ⟨0, 1000, ?_⟩⟩
  simp only [vc, out, step, stepE, stepPick, stepG, stepO, stepC, eff, look, rem, St.put, St.setMem, setMems, St.after, St.eval, cst, setAt, val1, okNew, newHs, allHs, rdOf, outHs, Reg.item, Reg.next, Reg.skip, slotOf, effBox, effAlloc, entryRow, fieldOff, effField, loadI, load1, loadR, effLoad, storeI, storeB, storeR, szOk, storeTo, effStore, buildOf, effBuild, binInt, eqI, boolOf, binBool, effBin, effUn, effPick, effExtract, ivs, svs, rowOf, allParts, effBuildSlice, zeroRow, effMakeSlice, elemSz, idxA, idxS, effIndex, lenOf, readOf, subPre, maxRow, plainTI, appTo, effAppend, slcOf, effSlice, argOf, resA, resL, resV, outWr, nodupB, restOk, argsPre, argOk, callWr, effCall, effMax, wrHs, disj, AV.hs, A0.hs, Entry.hs, RC.elem, RC.sz, RC.len, RC.slice, RC.app, hA, initFr, initMem, initSt, resOf, resAll, compEq, compsEq, rowHs, outHds, outsEq, shapeOk, finOk, comps, A0.norm, AV.norm, specOf, t_int, t_bool, t_implForm, t_lawsForm, t_implMatrix, t_implPoint, t_implunited, t_implIdeal, t_lawsIdeal, t_implCharacter, ts_int, ts_implForm, ts_implPoint, ts_implCharacter, Option.getD_some, Option.getD_none, cond_true, cond_false, Nat.reduceBEq, List.map_cons, List.map_nil, List.set_cons_zero, List.set_cons_succ, List.getElem?_cons_zero, List.getElem?_cons_succ, List.drop_zero, List.drop_succ_cons, List.take_succ_cons, List.take_zero, Option.map_some, Option.map_none, Option.bind_some, Nat.zero_add, Nat.add_zero, Nat.reduceAdd, Nat.reduceMul, true_and, and_true, List.replicate_succ, List.replicate_zero, List.length_cons, List.length_nil, List.all_cons, List.all_nil, List.any_cons, List.any_nil, Bool.and_true, Bool.true_and, Bool.and_false, Bool.false_and, Bool.or_true, Bool.true_or, Bool.or_false, Bool.false_or, Bool.not_true, Bool.not_false, List.append_nil, List.nil_append, List.cons_append, List.flatMap_cons, List.flatMap_nil, List.contains_cons, List.contains_nil, List.filter_cons, List.filter_nil, beq_self_eq_true, Bool.not_eq_true, A0.b.injEq, A0.i.injEq, A0.s.injEq, A0.rw.injEq, A0.fn.injEq, List.cons.injEq, RC.ints.injEq, RC.recs.injEq, RC.bools.injEq, AV.one.injEq, AV.tup.injEq, ble_dec, blt_dec, Nat.reduceLeDiff, Nat.reduceSub, decide_true, decide_false, and_self, List.toList_toArray, Option.isSome_some, Option.isSome_none, List.elem_nil, List.elem_cons, ite_true, ite_false, Bool.false_eq_true, if_true, if_false, reduceIte, flatB_2, flatB_3, flatB_4, List.headD_cons, List.tail_cons, cIsNeg, fIsNeg, cFundamental, fFundamental, Try.f119]
  unfold fnB
  cases h : negB d with
  | false => rfl
  | true => exact ⟨diB_in (diB_neg h), rfl⟩

/-! ### ideals -/
def idlB (d s a b : Int) : Bool := negB d && (inI s 1 10000 && (inI a 1 10000 && (inI b 0 (2 * a - 1) && (wrap64 (wrap64 (b * b) - d)).tmod (wrap64 (4 * a)) == 0)))
abbrev fIsIdeal : Nat := 120
def cIsIdeal : Ctr
  | [.i d, .s [s, a, b]] => some ⟨True, .one (.b (idlB d s a b)), []⟩
  | _ => none
theorem okIsIdeal : CtrOk Try.prog fIsIdeal cIsIdeal := by
  have hsp : SpecOk Try.prog (specOf [(fIsNeg, cIsNeg)]) := (SpecOk.cons okIsNeg SpecOk.nil)
  refine ctr_of (fn := Try.f120) mixed tab_ok hsp Try.func120 (by kernel_rfl) (by kernel_rfl) fun args ce h => ?_
  clear hsp
  unfold cIsIdeal at h
  split at h
  case h_2 => cases h
  rename_i d s a b
  simp only [Option.some.injEq] at h
  subst h
  refine ⟨by rfl, fun hp => ⟨0, 1000, ?_⟩⟩
  simp only [vc, out, step, stepE, stepPick, stepG, stepO, stepC, eff, look, rem, St.put, St.setMem, setMems, St.after, St.eval, cst, setAt, val1, okNew, newHs, allHs, rdOf, outHs, Reg.item, Reg.next, Reg.skip, slotOf, effBox, effAlloc, entryRow, fieldOff, effField, loadI, load1, loadR, effLoad, storeI, storeB, storeR, szOk, storeTo, effStore, buildOf, effBuild, binInt, eqI, boolOf, binBool, effBin, effUn, effPick, effExtract, ivs, svs, rowOf, allParts, effBuildSlice, zeroRow, effMakeSlice, elemSz, idxA, idxS, effIndex, lenOf, readOf, subPre, maxRow, plainTI, appTo, effAppend, slcOf, effSlice, argOf, resA, resL, resV, outWr, nodupB, restOk, argsPre, argOk, callWr, effCall, effMax, wrHs, disj, AV.hs, A0.hs, Entry.hs, RC.elem, RC.sz, RC.len, RC.slice, RC.app, hA, initFr, initMem, initSt, resOf, resAll, compEq, compsEq, rowHs, outHds, outsEq, shapeOk, finOk, comps, A0.norm, AV.norm, specOf, t_int, t_bool, t_implForm, t_lawsForm, t_implMatrix, t_implPoint, t_implunited, t_implIdeal, t_lawsIdeal, t_implCharacter, ts_int, ts_implForm, ts_implPoint, ts_implCharacter, Option.getD_some, Option.getD_none, cond_true, cond_false, Nat.reduceBEq, List.map_cons, List.map_nil, List.set_cons_zero, List.set_cons_succ, List.getElem?_cons_zero, List.getElem?_cons_succ, List.drop_zero, List.drop_succ_cons, List.take_succ_cons, List.take_zero, Option.map_some, Option.map_none, Option.bind_some, Nat.zero_add, Nat.add_zero, Nat.reduceAdd, Nat.reduceMul, true_and, and_true, List.replicate_succ, List.replicate_zero, List.length_cons, List.length_nil, List.all_cons, List.all_nil, List.any_cons, List.any_nil, Bool.and_true, Bool.true_and, Bool.and_false, Bool.false_and, Bool.or_true, Bool.true_or, Bool.or_false, Bool.false_or, Bool.not_true, Bool.not_false, List.append_nil, List.nil_append, List.cons_append, List.flatMap_cons, List.flatMap_nil, List.contains_cons, List.contains_nil, List.filter_cons, List.filter_nil, beq_self_eq_true, Bool.not_eq_true, A0.b.injEq, A0.i.injEq, A0.s.injEq, A0.rw.injEq, A0.fn.injEq, List.cons.injEq, RC.ints.injEq, RC.recs.injEq, RC.bools.injEq, AV.one.injEq, AV.tup.injEq, ble_dec, blt_dec, Nat.reduceLeDiff, Nat.reduceSub, decide_true, decide_false, and_self, List.toList_toArray, Option.isSome_some, Option.isSome_none, List.elem_nil, List.elem_cons, ite_true, ite_false, Bool.false_eq_true, if_true, if_false, reduceIte, flatB_2, flatB_3, flatB_4, List.headD_cons, List.tail_cons, cIsNeg, fIsNeg, Try.f120]
  unfold idlB inI
  cases h0 : negB d with
  | false => rfl
  | true =>
    cases h1 : decide (s ≥ 1) with
    | false => rfl
    | true =>
      cases h2 : decide (s ≤ 10000) with
      | false => rfl
      | true =>
        cases h3 : decide (a ≥ 1) with
        | false => rfl
        | true =>
          cases h4 : decide (a ≤ 10000) with
          | false => rfl
          | true =>
            have g3 := of_decide_eq_true h3
            have g4 := of_decide_eq_true h4
            have e1 : wrap64 (2 * a) = 2 * a := wrap_id (by omega) (by omega)
            have e2 : wrap64 (4 * a) = 4 * a := wrap_id (by omega) (by omega)
            have e3 : decide (b ≤ 2 * a - 1) = decide (b < 2 * a) := by rw [decide_eq_decide]; omega
            rw [e1, e2, e3]
            cases h5 : decide (b ≥ 0) with
            | false => rfl
            | true =>
              cases h6 : decide (b < 2 * a) with
              | false => rfl
              | true => exact ⟨by omega, rfl⟩
abbrev fIdGood : Nat := 114
def cIdGood : Ctr
  | [.i d, .s [s, a, b]] => some ⟨True, .one (.b (idlB d s a b)), []⟩
  | _ => none
theorem okIdGood : CtrOk Try.prog fIdGood cIdGood := by
  have hsp : SpecOk Try.prog (specOf [(fReDisc, cReDisc), (fIn, cIn)]) := (SpecOk.cons okReDisc (SpecOk.cons okIn SpecOk.nil))
  refine ctr_of (fn := Try.f114) mixed tab_ok hsp Try.func114 (by kernel_rfl) (by kernel_rfl) fun args ce h => ?_
  clear hsp
  unfold cIdGood at h
  split at h
  case h_2 => cases h
  rename_i d s a b
  simp only [Option.some.injEq] at h
  subst h
  refine ⟨by rfl, fun hp => ⟨0, 1000, ?_⟩⟩
  simp only [vc, out, step, stepE, stepPick, stepG, stepO, stepC, eff, look, rem, St.put, St.setMem, setMems, St.after, St.eval, cst, setAt, val1, okNew, newHs, allHs, rdOf, outHs, Reg.item, Reg.next, Reg.skip, slotOf, effBox, effAlloc, entryRow, fieldOff, effField, loadI, load1, loadR, effLoad, storeI, storeB, storeR, szOk, storeTo, effStore, buildOf, effBuild, binInt, eqI, boolOf, binBool, effBin, effUn, effPick, effExtract, ivs, svs, rowOf, allParts, effBuildSlice, zeroRow, effMakeSlice, elemSz, idxA, idxS, effIndex, lenOf, readOf, subPre, maxRow, plainTI, appTo, effAppend, slcOf, effSlice, argOf, resA, resL, resV, outWr, nodupB, restOk, argsPre, argOk, callWr, effCall, effMax, wrHs, disj, AV.hs, A0.hs, Entry.hs, RC.elem, RC.sz, RC.len, RC.slice, RC.app, hA, initFr, initMem, initSt, resOf, resAll, compEq, compsEq, rowHs, outHds, outsEq, shapeOk, finOk, comps, A0.norm, AV.norm, specOf, t_int, t_bool, t_implForm, t_lawsForm, t_implMatrix, t_implPoint, t_implunited, t_implIdeal, t_lawsIdeal, t_implCharacter, ts_int, ts_implForm, ts_implPoint, ts_implCharacter, Option.getD_some, Option.getD_none, cond_true, cond_false, Nat.reduceBEq, List.map_cons, List.map_nil, List.set_cons_zero, List.set_cons_succ, List.getElem?_cons_zero, List.getElem?_cons_succ, List.drop_zero, List.drop_succ_cons, List.take_succ_cons, List.take_zero, Option.map_some, Option.map_none, Option.bind_some, Nat.zero_add, Nat.add_zero, Nat.reduceAdd, Nat.reduceMul, true_and, and_true, List.replicate_succ, List.replicate_zero, List.length_cons, List.length_nil, List.all_cons, List.all_nil, List.any_cons, List.any_nil, Bool.and_true, Bool.true_and, Bool.and_false, Bool.false_and, Bool.or_true, Bool.true_or, Bool.or_false, Bool.false_or, Bool.not_true, Bool.not_false, List.append_nil, List.nil_append, List.cons_append, List.flatMap_cons, List.flatMap_nil, List.contains_cons, List.contains_nil, List.filter_cons, List.filter_nil, beq_self_eq_true, Bool.not_eq_true, A0.b.injEq, A0.i.injEq, A0.s.injEq, A0.rw.injEq, A0.fn.injEq, List.cons.injEq, RC.ints.injEq, RC.recs.injEq, RC.bools.injEq, AV.one.injEq, AV.tup.injEq, ble_dec, blt_dec, Nat.reduceLeDiff, Nat.reduceSub, decide_true, decide_false, and_self, List.toList_toArray, Option.isSome_some, Option.isSome_none, List.elem_nil, List.elem_cons, ite_true, ite_false, Bool.false_eq_true, if_true, if_false, reduceIte, flatB_2, flatB_3, flatB_4, List.headD_cons, List.tail_cons, cReDisc, fReDisc, cIn, fIn, Try.f114]
  unfold idlB
  cases h0 : negB d with
  | false => rfl
  | true =>
    cases h1 : inI s 1 10000 with
    | false => rfl
    | true =>
      cases h2 : inI a 1 10000 with
      | false => rfl
      | true =>
        have h3 : a ≥ 1 ∧ a ≤ 10000 := by simpa [inI] using h2
        have e1 : wrap64 (wrap64 (2 * a) - 1) = 2 * a - 1 := by rw [wrap_id (n := 2 * a) (by omega) (by omega), wrap_id (by omega) (by omega)]
        have e2 : wrap64 (4 * a) = 4 * a := wrap_id (by omega) (by omega)
        rw [e1, e2]
        cases h4 : inI b 0 (2 * a - 1) with
        | false => rfl
        | true => exact ⟨by omega, rfl⟩
def whoB (d s a b : Int) : Bool := fnB d && idlB d s a b
abbrev fIsWhole : Nat := 83
def cIsWhole : Ctr
  | [.i d, .s [s, a, b]] => some ⟨True, .one (.b (whoB d s a b)), []⟩
  | _ => none
theorem okIsWhole : CtrOk Try.prog fIsWhole cIsWhole := by
  have hsp : SpecOk Try.prog (specOf [(fFundNeg, cFundNeg), (fIsIdeal, cIsIdeal)]) := (SpecOk.cons okFundNeg (SpecOk.cons okIsIdeal SpecOk.nil))
  refine ctr_of (fn := Try.f83) mixed tab_ok hsp Try.func83 (by kernel_rfl) (by kernel_rfl) fun args ce h => ?_
  clear hsp
  unfold cIsWhole at h
  split at h
  case h_2 => cases h
  rename_i d s a b
  simp only [Option.some.injEq] at h
  subst h
  refine ⟨by rfl, fun hp => ⟨0, 1000, ?_⟩⟩
  simp only [vc, out, step, stepE, stepPick, stepG, stepO, stepC, eff, look, rem, St.put, St.setMem, setMems, St.after, St.eval, cst, setAt, val1, okNew, newHs, allHs, rdOf, outHs, Reg.item, Reg.next, Reg.skip, slotOf, effBox, effAlloc, entryRow, fieldOff, effField, loadI, load1, loadR, effLoad, storeI, storeB, storeR, szOk, storeTo, effStore, buildOf, effBuild, binInt, eqI, boolOf, binBool, effBin, effUn, effPick, effExtract, ivs, svs, rowOf, allParts, effBuildSlice, zeroRow, effMakeSlice, elemSz, idxA, idxS, effIndex, lenOf, readOf, subPre, maxRow, plainTI, appTo, effAppend, slcOf, effSlice, argOf, resA, resL, resV, outWr, nodupB, restOk, argsPre, argOk, callWr, effCall, effMax, wrHs, disj, AV.hs, A0.hs, Entry.hs, RC.elem, RC.sz, RC.len, RC.slice, RC.app, hA, initFr, initMem, initSt, resOf, resAll, compEq, compsEq, rowHs, outHds, outsEq, shapeOk, finOk, comps, A0.norm, AV.norm, specOf, t_int, t_bool, t_implForm, t_lawsForm, t_implMatrix, t_implPoint, t_implunited, t_implIdeal, t_lawsIdeal, t_implCharacter, ts_int, ts_implForm, ts_implPoint, ts_implCharacter, Option.getD_some, Option.getD_none, cond_true, cond_false, Nat.reduceBEq, List.map_cons, List.map_nil, List.set_cons_zero, List.set_cons_succ, List.getElem?_cons_zero, List.getElem?_cons_succ, List.drop_zero, List.drop_succ_cons, List.take_succ_cons, List.take_zero, Option.map_some, Option.map_none, Option.bind_some, Nat.zero_add, Nat.add_zero, Nat.reduceAdd, Nat.reduceMul, true_and, and_true, List.replicate_succ, List.replicate_zero, List.length_cons, List.length_nil, List.all_cons, List.all_nil, List.any_cons, List.any_nil, Bool.and_true, Bool.true_and, Bool.and_false, Bool.false_and, Bool.or_true, Bool.true_or, Bool.or_false, Bool.false_or, Bool.not_true, Bool.not_false, List.append_nil, List.nil_append, List.cons_append, List.flatMap_cons, List.flatMap_nil, List.contains_cons, List.contains_nil, List.filter_cons, List.filter_nil, beq_self_eq_true, Bool.not_eq_true, A0.b.injEq, A0.i.injEq, A0.s.injEq, A0.rw.injEq, A0.fn.injEq, List.cons.injEq, RC.ints.injEq, RC.recs.injEq, RC.bools.injEq, AV.one.injEq, AV.tup.injEq, ble_dec, blt_dec, Nat.reduceLeDiff, Nat.reduceSub, decide_true, decide_false, and_self, List.toList_toArray, Option.isSome_some, Option.isSome_none, List.elem_nil, List.elem_cons, ite_true, ite_false, Bool.false_eq_true, if_true, if_false, reduceIte, flatB_2, flatB_3, flatB_4, List.headD_cons, List.tail_cons, cFundNeg, fFundNeg, cIsIdeal, fIsIdeal, Try.f83]
  unfold whoB
  cases fnB d <;> rfl
abbrev fPiGood : Nat := 79
def cPiGood : Ctr
  | [.i d, .s [s, a, b]] => some ⟨True, .one (.b (whoB d s a b)), []⟩
  | _ => none
theorem okPiGood : CtrOk Try.prog fPiGood cPiGood := by
  have hsp : SpecOk Try.prog (specOf [(fPiDisc, cPiDisc), (fIdGood, cIdGood)]) := (SpecOk.cons okPiDisc (SpecOk.cons okIdGood SpecOk.nil))
  refine ctr_of (fn := Try.f79) mixed tab_ok hsp Try.func79 (by kernel_rfl) (by kernel_rfl) fun args ce h => ?_
  clear hsp
  unfold cPiGood at h
  split at h
  case h_2 => cases h
  rename_i d s a b
  simp only [Option.some.injEq] at h
  subst h
  refine ⟨by rfl, fun hp => ⟨0, 1000, ?_⟩⟩
  simp only [vc, out, step, stepE, stepPick, stepG, stepO, stepC, eff, look, rem, St.put, St.setMem, setMems, St.after, St.eval, cst, setAt, val1, okNew, newHs, allHs, rdOf, outHs, Reg.item, Reg.next, Reg.skip, slotOf, effBox, effAlloc, entryRow, fieldOff, effField, loadI, load1, loadR, effLoad, storeI, storeB, storeR, szOk, storeTo, effStore, buildOf, effBuild, binInt, eqI, boolOf, binBool, effBin, effUn, effPick, effExtract, ivs, svs, rowOf, allParts, effBuildSlice, zeroRow, effMakeSlice, elemSz, idxA, idxS, effIndex, lenOf, readOf, subPre, maxRow, plainTI, appTo, effAppend, slcOf, effSlice, argOf, resA, resL, resV, outWr, nodupB, restOk, argsPre, argOk, callWr, effCall, effMax, wrHs, disj, AV.hs, A0.hs, Entry.hs, RC.elem, RC.sz, RC.len, RC.slice, RC.app, hA, initFr, initMem, initSt, resOf, resAll, compEq, compsEq, rowHs, outHds, outsEq, shapeOk, finOk, comps, A0.norm, AV.norm, specOf, t_int, t_bool, t_implForm, t_lawsForm, t_implMatrix, t_implPoint, t_implunited, t_implIdeal, t_lawsIdeal, t_implCharacter, ts_int, ts_implForm, ts_implPoint, ts_implCharacter, Option.getD_some, Option.getD_none, cond_true, cond_false, Nat.reduceBEq, List.map_cons, List.map_nil, List.set_cons_zero, List.set_cons_succ, List.getElem?_cons_zero, List.getElem?_cons_succ, List.drop_zero, List.drop_succ_cons, List.take_succ_cons, List.take_zero, Option.map_some, Option.map_none, Option.bind_some, Nat.zero_add, Nat.add_zero, Nat.reduceAdd, Nat.reduceMul, true_and, and_true, List.replicate_succ, List.replicate_zero, List.length_cons, List.length_nil, List.all_cons, List.all_nil, List.any_cons, List.any_nil, Bool.and_true, Bool.true_and, Bool.and_false, Bool.false_and, Bool.or_true, Bool.true_or, Bool.or_false, Bool.false_or, Bool.not_true, Bool.not_false, List.append_nil, List.nil_append, List.cons_append, List.flatMap_cons, List.flatMap_nil, List.contains_cons, List.contains_nil, List.filter_cons, List.filter_nil, beq_self_eq_true, Bool.not_eq_true, A0.b.injEq, A0.i.injEq, A0.s.injEq, A0.rw.injEq, A0.fn.injEq, List.cons.injEq, RC.ints.injEq, RC.recs.injEq, RC.bools.injEq, AV.one.injEq, AV.tup.injEq, ble_dec, blt_dec, Nat.reduceLeDiff, Nat.reduceSub, decide_true, decide_false, and_self, List.toList_toArray, Option.isSome_some, Option.isSome_none, List.elem_nil, List.elem_cons, ite_true, ite_false, Bool.false_eq_true, if_true, if_false, reduceIte, flatB_2, flatB_3, flatB_4, List.headD_cons, List.tail_cons, cPiDisc, fPiDisc, cIdGood, fIdGood, Try.f79]
  unfold whoB
  cases fnB d <;> rfl
theorem idl_dom {d s a b : Int} (h : idlB d s a b = true) : domB a b (cOf d a b) = true ∧ wrap64 (4 * a) ≠ 0 ∧ discI a b (cOf d a b) = d := by
  simp only [idlB, Bool.and_eq_true, beq_iff_eq] at h
  obtain ⟨h0, _, h2, h3, h4⟩ := h
  have hd := negB_in h0
  have ha : a ≥ 1 ∧ a ≤ 10000 := by simpa [inI] using h2
  have hb : b ≥ 0 ∧ b ≤ 2 * a - 1 := by simpa [inI] using h3
  have hs := sq_in (n := 20000) (by omega) (show -20000 ≤ b ∧ b ≤ 20000 by omega)
  have e1 : wrap64 (wrap64 (b * b) - d) = b * b - d := by rw [wrap_id (n := b * b) (by omega) (by omega), wrap_id (by omega) (by omega)]
  have e2 : wrap64 (4 * a) = 4 * a := wrap_id (by omega) (by omega)
  rw [e1, e2] at h4
  have e := Int.mul_tdiv_add_tmod (b * b - d) (4 * a)
  rw [h4, Int.add_zero] at e
  have h5 : 0 ≤ (b * b - d).tdiv (4 * a) := Int.tdiv_nonneg (by omega) (by omega)
  have h6 := tdiv_bd' (a := b * b - d) (b := 4 * a) (k := 400002000) ⟨by omega, by omega⟩
  have e3 : cOf d a b = (b * b - d).tdiv (4 * a) := by unfold cOf; rw [e1, e2, wrap_id (by omega) (by omega)]
  have h7 : (b * b - d).tdiv (4 * a) ≠ 0 := fun h0 => by rw [h0, Int.mul_zero] at e; omega
  rw [e3]
  refine ⟨domB_iff.2 ⟨by omega, by omega, by omega, by omega, by omega, by omega⟩, by omega, ?_⟩
  rw [discI_eq, e, wrap_id (by omega) (by omega)]
  omega
abbrev fIForm : Nat := 84
def cIForm : Ctr
  | [.s [s, a, b], .i d] => some ⟨wrap64 (4 * a) ≠ 0, .one (.s [a, b, cOf d a b]), []⟩
  | _ => none
theorem okIForm : CtrOk Try.prog fIForm cIForm := by
  have hsp : SpecOk Try.prog (specOf []) := SpecOk.nil
  refine ctr_of (fn := Try.f84) mixed tab_ok hsp Try.func84 (by kernel_rfl) (by kernel_rfl) fun args ce h => ?_
  clear hsp
  unfold cIForm at h
  split at h
  case h_2 => cases h
  rename_i s a b d
  simp only [Option.some.injEq] at h
  subst h
  refine ⟨by rfl, fun hp => ⟨0, 1000, ?_⟩⟩
  simp only [vc, out, step, stepE, stepPick, stepG, stepO, stepC, eff, look, rem, St.put, St.setMem, setMems, St.after, St.eval, cst, setAt, val1, okNew, newHs, allHs, rdOf, outHs, Reg.item, Reg.next, Reg.skip, slotOf, effBox, effAlloc, entryRow, fieldOff, effField, loadI, load1, loadR, effLoad, storeI, storeB, storeR, szOk, storeTo, effStore, buildOf, effBuild, binInt, eqI, boolOf, binBool, effBin, effUn, effPick, effExtract, ivs, svs, rowOf, allParts, effBuildSlice, zeroRow, effMakeSlice, elemSz, idxA, idxS, effIndex, lenOf, readOf, subPre, maxRow, plainTI, appTo, effAppend, slcOf, effSlice, argOf, resA, resL, resV, outWr, nodupB, restOk, argsPre, argOk, callWr, effCall, effMax, wrHs, disj, AV.hs, A0.hs, Entry.hs, RC.elem, RC.sz, RC.len, RC.slice, RC.app, hA, initFr, initMem, initSt, resOf, resAll, compEq, compsEq, rowHs, outHds, outsEq, shapeOk, finOk, comps, A0.norm, AV.norm, specOf, t_int, t_bool, t_implForm, t_lawsForm, t_implMatrix, t_implPoint, t_implunited, t_implIdeal, t_lawsIdeal, t_implCharacter, ts_int, ts_implForm, ts_implPoint, ts_implCharacter, Option.getD_some, Option.getD_none, cond_true, cond_false, Nat.reduceBEq, List.map_cons, List.map_nil, List.set_cons_zero, List.set_cons_succ, List.getElem?_cons_zero, List.getElem?_cons_succ, List.drop_zero, List.drop_succ_cons, List.take_succ_cons, List.take_zero, Option.map_some, Option.map_none, Option.bind_some, Nat.zero_add, Nat.add_zero, Nat.reduceAdd, Nat.reduceMul, true_and, and_true, List.replicate_succ, List.replicate_zero, List.length_cons, List.length_nil, List.all_cons, List.all_nil, List.any_cons, List.any_nil, Bool.and_true, Bool.true_and, Bool.and_false, Bool.false_and, Bool.or_true, Bool.true_or, Bool.or_false, Bool.false_or, Bool.not_true, Bool.not_false, List.append_nil, List.nil_append, List.cons_append, List.flatMap_cons, List.flatMap_nil, List.contains_cons, List.contains_nil, List.filter_cons, List.filter_nil, beq_self_eq_true, Bool.not_eq_true, A0.b.injEq, A0.i.injEq, A0.s.injEq, A0.rw.injEq, A0.fn.injEq, List.cons.injEq, RC.ints.injEq, RC.recs.injEq, RC.bools.injEq, AV.one.injEq, AV.tup.injEq, ble_dec, blt_dec, Nat.reduceLeDiff, Nat.reduceSub, decide_true, decide_false, and_self, List.toList_toArray, Option.isSome_some, Option.isSome_none, List.elem_nil, List.elem_cons, ite_true, ite_false, Bool.false_eq_true, if_true, if_false, reduceIte, flatB_2, flatB_3, flatB_4, List.headD_cons, List.tail_cons, Try.f84]
  exact ⟨hp, by kernel_rfl, rfl⟩
abbrev fSIdForm : Nat := 115
def cSIdForm : Ctr
  | [.i d, .s [s, a, b]] => some ⟨wrap64 (4 * a) ≠ 0, .one (.s [a, b, cOf d a b]), []⟩
  | _ => none
theorem okSIdForm : CtrOk Try.prog fSIdForm cSIdForm := by
  have hsp : SpecOk Try.prog (specOf []) := SpecOk.nil
  refine ctr_of (fn := Try.f115) mixed tab_ok hsp Try.func115 (by kernel_rfl) (by kernel_rfl) fun args ce h => ?_
  clear hsp
  unfold cSIdForm at h
  split at h
  case h_2 => cases h
  rename_i d s a b
  simp only [Option.some.injEq] at h
  subst h
  refine ⟨by rfl, fun hp => ⟨0, 1000, ?_⟩⟩
  simp only [vc, out, step, stepE, stepPick, stepG, stepO, stepC, eff, look, rem, St.put, St.setMem, setMems, St.after, St.eval, cst, setAt, val1, okNew, newHs, allHs, rdOf, outHs, Reg.item, Reg.next, Reg.skip, slotOf, effBox, effAlloc, entryRow, fieldOff, effField, loadI, load1, loadR, effLoad, storeI, storeB, storeR, szOk, storeTo, effStore, buildOf, effBuild, binInt, eqI, boolOf, binBool, effBin, effUn, effPick, effExtract, ivs, svs, rowOf, allParts, effBuildSlice, zeroRow, effMakeSlice, elemSz, idxA, idxS, effIndex, lenOf, readOf, subPre, maxRow, plainTI, appTo, effAppend, slcOf, effSlice, argOf, resA, resL, resV, outWr, nodupB, restOk, argsPre, argOk, callWr, effCall, effMax, wrHs, disj, AV.hs, A0.hs, Entry.hs, RC.elem, RC.sz, RC.len, RC.slice, RC.app, hA, initFr, initMem, initSt, resOf, resAll, compEq, compsEq, rowHs, outHds, outsEq, shapeOk, finOk, comps, A0.norm, AV.norm, specOf, t_int, t_bool, t_implForm, t_lawsForm, t_implMatrix, t_implPoint, t_implunited, t_implIdeal, t_lawsIdeal, t_implCharacter, ts_int, ts_implForm, ts_implPoint, ts_implCharacter, Option.getD_some, Option.getD_none, cond_true, cond_false, Nat.reduceBEq, List.map_cons, List.map_nil, List.set_cons_zero, List.set_cons_succ, List.getElem?_cons_zero, List.getElem?_cons_succ, List.drop_zero, List.drop_succ_cons, List.take_succ_cons, List.take_zero, Option.map_some, Option.map_none, Option.bind_some, Nat.zero_add, Nat.add_zero, Nat.reduceAdd, Nat.reduceMul, true_and, and_true, List.replicate_succ, List.replicate_zero, List.length_cons, List.length_nil, List.all_cons, List.all_nil, List.any_cons, List.any_nil, Bool.and_true, Bool.true_and, Bool.and_false, Bool.false_and, Bool.or_true, Bool.true_or, Bool.or_false, Bool.false_or, Bool.not_true, Bool.not_false, List.append_nil, List.nil_append, List.cons_append, List.flatMap_cons, List.flatMap_nil, List.contains_cons, List.contains_nil, List.filter_cons, List.filter_nil, beq_self_eq_true, Bool.not_eq_true, A0.b.injEq, A0.i.injEq, A0.s.injEq, A0.rw.injEq, A0.fn.injEq, List.cons.injEq, RC.ints.injEq, RC.recs.injEq, RC.bools.injEq, AV.one.injEq, AV.tup.injEq, ble_dec, blt_dec, Nat.reduceLeDiff, Nat.reduceSub, decide_true, decide_false, and_self, List.toList_toArray, Option.isSome_some, Option.isSome_none, List.elem_nil, List.elem_cons, ite_true, ite_false, Bool.false_eq_true, if_true, if_false, reduceIte, flatB_2, flatB_3, flatB_4, List.headD_cons, List.tail_cons, Try.f115]
  exact ⟨hp, by kernel_rfl, rfl⟩
abbrev fPiClass : Nat := 80
def cPiClass : Ctr
  | [.i d, .s [s, a, b]] => some ⟨idlB d s a b = true, .one (.s [rdA a b (cOf d a b), rdB a b (cOf d a b), rdC a b (cOf d a b)]), []⟩
  | _ => none
theorem okPiClass : CtrOk Try.prog fPiClass cPiClass := by
  have hsp : SpecOk Try.prog (specOf [(fSIdForm, cSIdForm), (fReClass, cReClass)]) := (SpecOk.cons okSIdForm (SpecOk.cons okReClass SpecOk.nil))
  refine ctr_of (fn := Try.f80) mixed tab_ok hsp Try.func80 (by kernel_rfl) (by kernel_rfl) fun args ce h => ?_
  clear hsp
  unfold cPiClass at h
  split at h
  case h_2 => cases h
  rename_i d s a b
  simp only [Option.some.injEq] at h
  subst h
  refine ⟨by rfl, fun hp => ⟨0, 1000, ?_⟩⟩
  simp only [vc, out, step, stepE, stepPick, stepG, stepO, stepC, eff, look, rem, St.put, St.setMem, setMems, St.after, St.eval, cst, setAt, val1, okNew, newHs, allHs, rdOf, outHs, Reg.item, Reg.next, Reg.skip, slotOf, effBox, effAlloc, entryRow, fieldOff, effField, loadI, load1, loadR, effLoad, storeI, storeB, storeR, szOk, storeTo, effStore, buildOf, effBuild, binInt, eqI, boolOf, binBool, effBin, effUn, effPick, effExtract, ivs, svs, rowOf, allParts, effBuildSlice, zeroRow, effMakeSlice, elemSz, idxA, idxS, effIndex, lenOf, readOf, subPre, maxRow, plainTI, appTo, effAppend, slcOf, effSlice, argOf, resA, resL, resV, outWr, nodupB, restOk, argsPre, argOk, callWr, effCall, effMax, wrHs, disj, AV.hs, A0.hs, Entry.hs, RC.elem, RC.sz, RC.len, RC.slice, RC.app, hA, initFr, initMem, initSt, resOf, resAll, compEq, compsEq, rowHs, outHds, outsEq, shapeOk, finOk, comps, A0.norm, AV.norm, specOf, t_int, t_bool, t_implForm, t_lawsForm, t_implMatrix, t_implPoint, t_implunited, t_implIdeal, t_lawsIdeal, t_implCharacter, ts_int, ts_implForm, ts_implPoint, ts_implCharacter, Option.getD_some, Option.getD_none, cond_true, cond_false, Nat.reduceBEq, List.map_cons, List.map_nil, List.set_cons_zero, List.set_cons_succ, List.getElem?_cons_zero, List.getElem?_cons_succ, List.drop_zero, List.drop_succ_cons, List.take_succ_cons, List.take_zero, Option.map_some, Option.map_none, Option.bind_some, Nat.zero_add, Nat.add_zero, Nat.reduceAdd, Nat.reduceMul, true_and, and_true, List.replicate_succ, List.replicate_zero, List.length_cons, List.length_nil, List.all_cons, List.all_nil, List.any_cons, List.any_nil, Bool.and_true, Bool.true_and, Bool.and_false, Bool.false_and, Bool.or_true, Bool.true_or, Bool.or_false, Bool.false_or, Bool.not_true, Bool.not_false, List.append_nil, List.nil_append, List.cons_append, List.flatMap_cons, List.flatMap_nil, List.contains_cons, List.contains_nil, List.filter_cons, List.filter_nil, beq_self_eq_true, Bool.not_eq_true, A0.b.injEq, A0.i.injEq, A0.s.injEq, A0.rw.injEq, A0.fn.injEq, List.cons.injEq, RC.ints.injEq, RC.recs.injEq, RC.bools.injEq, AV.one.injEq, AV.tup.injEq, ble_dec, blt_dec, Nat.reduceLeDiff, Nat.reduceSub, decide_true, decide_false, and_self, List.toList_toArray, Option.isSome_some, Option.isSome_none, List.elem_nil, List.elem_cons, ite_true, ite_false, Bool.false_eq_true, if_true, if_false, reduceIte, flatB_2, flatB_3, flatB_4, List.headD_cons, List.tail_cons, cSIdForm, fSIdForm, cReClass, fReClass, Try.f80]
  obtain ⟨h1, h2, _⟩ := idl_dom hp
  exact ⟨h2, h1⟩
theorem who_idl {d s a b : Int} (h : whoB d s a b = true) : idlB d s a b = true := by
  simp only [whoB, Bool.and_eq_true] at h
  exact h.2
abbrev fIdealClass : Nat := 44
def cIdealClass : Ctr
  | [.i d, .s [s, a, b]] => some ⟨True, .tup [.s [onB (whoB d s a b) (rdA a b (cOf d a b)), onB (whoB d s a b) (rdB a b (cOf d a b)), onB (whoB d s a b) (rdC a b (cOf d a b))], .b (whoB d s a b)], []⟩
  | _ => none
theorem okIdealClass : CtrOk Try.prog fIdealClass cIdealClass := by
  have hsp : SpecOk Try.prog (specOf [(fIsWhole, cIsWhole), (fIForm, cIForm), (fReduced1, cReduced1)]) := (SpecOk.cons okIsWhole (SpecOk.cons okIForm (SpecOk.cons okReduced1 SpecOk.nil)))
  refine ctr_of (fn := Try.f44) mixed tab_ok hsp Try.func44 (by kernel_rfl) (by kernel_rfl) fun args ce h => ?_
  clear hsp
  unfold cIdealClass at h
  split at h
  case h_2 => cases h
  rename_i d s a b
  simp only [Option.some.injEq] at h
  subst h
  refine ⟨by rfl, fun hp => ⟨0, 1000, ?_⟩⟩
  simp only [vc, out, step, stepE, stepPick, stepG, stepO, stepC, eff, look, rem, St.put, St.setMem, setMems, St.after, St.eval, cst, setAt, val1, okNew, newHs, allHs, rdOf, outHs, Reg.item, Reg.next, Reg.skip, slotOf, effBox, effAlloc, entryRow, fieldOff, effField, loadI, load1, loadR, effLoad, storeI, storeB, storeR, szOk, storeTo, effStore, buildOf, effBuild, binInt, eqI, boolOf, binBool, effBin, effUn, effPick, effExtract, ivs, svs, rowOf, allParts, effBuildSlice, zeroRow, effMakeSlice, elemSz, idxA, idxS, effIndex, lenOf, readOf, subPre, maxRow, plainTI, appTo, effAppend, slcOf, effSlice, argOf, resA, resL, resV, outWr, nodupB, restOk, argsPre, argOk, callWr, effCall, effMax, wrHs, disj, AV.hs, A0.hs, Entry.hs, RC.elem, RC.sz, RC.len, RC.slice, RC.app, hA, initFr, initMem, initSt, resOf, resAll, compEq, compsEq, rowHs, outHds, outsEq, shapeOk, finOk, comps, A0.norm, AV.norm, specOf, t_int, t_bool, t_implForm, t_lawsForm, t_implMatrix, t_implPoint, t_implunited, t_implIdeal, t_lawsIdeal, t_implCharacter, ts_int, ts_implForm, ts_implPoint, ts_implCharacter, Option.getD_some, Option.getD_none, cond_true, cond_false, Nat.reduceBEq, List.map_cons, List.map_nil, List.set_cons_zero, List.set_cons_succ, List.getElem?_cons_zero, List.getElem?_cons_succ, List.drop_zero, List.drop_succ_cons, List.take_succ_cons, List.take_zero, Option.map_some, Option.map_none, Option.bind_some, Nat.zero_add, Nat.add_zero, Nat.reduceAdd, Nat.reduceMul, true_and, and_true, List.replicate_succ, List.replicate_zero, List.length_cons, List.length_nil, List.all_cons, List.all_nil, List.any_cons, List.any_nil, Bool.and_true, Bool.true_and, Bool.and_false, Bool.false_and, Bool.or_true, Bool.true_or, Bool.or_false, Bool.false_or, Bool.not_true, Bool.not_false, List.append_nil, List.nil_append, List.cons_append, List.flatMap_cons, List.flatMap_nil, List.contains_cons, List.contains_nil, List.filter_cons, List.filter_nil, beq_self_eq_true, Bool.not_eq_true, A0.b.injEq, A0.i.injEq, A0.s.injEq, A0.rw.injEq, A0.fn.injEq, List.cons.injEq, RC.ints.injEq, RC.recs.injEq, RC.bools.injEq, AV.one.injEq, AV.tup.injEq, ble_dec, blt_dec, Nat.reduceLeDiff, Nat.reduceSub, decide_true, decide_false, and_self, List.toList_toArray, Option.isSome_some, Option.isSome_none, List.elem_nil, List.elem_cons, ite_true, ite_false, Bool.false_eq_true, if_true, if_false, reduceIte, flatB_2, flatB_3, flatB_4, List.headD_cons, List.tail_cons, cIsWhole, fIsWhole, cIForm, fIForm, cReduced1, fReduced1, Try.f44]
  cases h : whoB d s a b with
  | false => exact ⟨rfl, ⟨rfl, rfl, rfl⟩, rfl⟩
  | true =>
    obtain ⟨h1, h2, _⟩ := idl_dom (who_idl h)
    exact ⟨h2, h1, rfl, ⟨rfl, rfl, rfl⟩, rfl⟩
abbrev fSIdealClass : Nat := 43
def cSIdealClass : Ctr
  | [.i d, .s [s, a, b]] => some ⟨True, .tup [.s [onB (whoB d s a b) (rdA a b (cOf d a b)), onB (whoB d s a b) (rdB a b (cOf d a b)), onB (whoB d s a b) (rdC a b (cOf d a b))], .b (whoB d s a b)], []⟩
  | _ => none
theorem okSIdealClass : CtrOk Try.prog fSIdealClass cSIdealClass := by
  have hsp : SpecOk Try.prog (specOf [(fPiGood, cPiGood), (fPiClass, cPiClass)]) := (SpecOk.cons okPiGood (SpecOk.cons okPiClass SpecOk.nil))
  refine ctr_of (fn := Try.f43) mixed tab_ok hsp Try.func43 (by kernel_rfl) (by kernel_rfl) fun args ce h => ?_
  clear hsp
  unfold cSIdealClass at h
  split at h
  case h_2 => cases h
  rename_i d s a b
  simp only [Option.some.injEq] at h
  subst h
  refine ⟨by rfl, fun hp => ⟨0, 1000, ?_⟩⟩
  simp only [vc, out, step, stepE, stepPick, stepG, stepO, stepC, eff, look, rem, St.put, St.setMem, setMems, St.after, St.eval, cst, setAt, val1, okNew, newHs, allHs, rdOf, outHs, Reg.item, Reg.next, Reg.skip, slotOf, effBox, effAlloc, entryRow, fieldOff, effField, loadI, load1, loadR, effLoad, storeI, storeB, storeR, szOk, storeTo, effStore, buildOf, effBuild, binInt, eqI, boolOf, binBool, effBin, effUn, effPick, effExtract, ivs, svs, rowOf, allParts, effBuildSlice, zeroRow, effMakeSlice, elemSz, idxA, idxS, effIndex, lenOf, readOf, subPre, maxRow, plainTI, appTo, effAppend, slcOf, effSlice, argOf, resA, resL, resV, outWr, nodupB, restOk, argsPre, argOk, callWr, effCall, effMax, wrHs, disj, AV.hs, A0.hs, Entry.hs, RC.elem, RC.sz, RC.len, RC.slice, RC.app, hA, initFr, initMem, initSt, resOf, resAll, compEq, compsEq, rowHs, outHds, outsEq, shapeOk, finOk, comps, A0.norm, AV.norm, specOf, t_int, t_bool, t_implForm, t_lawsForm, t_implMatrix, t_implPoint, t_implunited, t_implIdeal, t_lawsIdeal, t_implCharacter, ts_int, ts_implForm, ts_implPoint, ts_implCharacter, Option.getD_some, Option.getD_none, cond_true, cond_false, Nat.reduceBEq, List.map_cons, List.map_nil, List.set_cons_zero, List.set_cons_succ, List.getElem?_cons_zero, List.getElem?_cons_succ, List.drop_zero, List.drop_succ_cons, List.take_succ_cons, List.take_zero, Option.map_some, Option.map_none, Option.bind_some, Nat.zero_add, Nat.add_zero, Nat.reduceAdd, Nat.reduceMul, true_and, and_true, List.replicate_succ, List.replicate_zero, List.length_cons, List.length_nil, List.all_cons, List.all_nil, List.any_cons, List.any_nil, Bool.and_true, Bool.true_and, Bool.and_false, Bool.false_and, Bool.or_true, Bool.true_or, Bool.or_false, Bool.false_or, Bool.not_true, Bool.not_false, List.append_nil, List.nil_append, List.cons_append, List.flatMap_cons, List.flatMap_nil, List.contains_cons, List.contains_nil, List.filter_cons, List.filter_nil, beq_self_eq_true, Bool.not_eq_true, A0.b.injEq, A0.i.injEq, A0.s.injEq, A0.rw.injEq, A0.fn.injEq, List.cons.injEq, RC.ints.injEq, RC.recs.injEq, RC.bools.injEq, AV.one.injEq, AV.tup.injEq, ble_dec, blt_dec, Nat.reduceLeDiff, Nat.reduceSub, decide_true, decide_false, and_self, List.toList_toArray, Option.isSome_some, Option.isSome_none, List.elem_nil, List.elem_cons, ite_true, ite_false, Bool.false_eq_true, if_true, if_false, reduceIte, flatB_2, flatB_3, flatB_4, List.headD_cons, List.tail_cons, cPiGood, fPiGood, cPiClass, fPiClass, Try.f43]
  cases h : whoB d s a b with
  | false => exact ⟨rfl, ⟨rfl, rfl, rfl⟩, rfl⟩
  | true => exact ⟨who_idl h, rfl, ⟨rfl, rfl, rfl⟩, rfl⟩
abbrev fToIdeal : Nat := 36
def cToIdeal : Ctr
  | [.s [a, b, c]] => some ⟨True, .one (.s [a, b, c]), []⟩
  | _ => none
theorem okToIdeal : CtrOk Try.prog fToIdeal cToIdeal := by
  have hsp : SpecOk Try.prog (specOf []) := SpecOk.nil
  refine ctr_of (fn := Try.f36) mixed tab_ok hsp Try.func36 (by kernel_rfl) (by kernel_rfl) fun args ce h => ?_
  clear hsp
  unfold cToIdeal at h
  split at h
  case h_2 => cases h
  rename_i a b c
  simp only [Option.some.injEq] at h
  subst h
  refine ⟨by rfl, fun hp => ⟨0, 1000, ?_⟩⟩
  simp only [vc, out, step, stepE, stepPick, stepG, stepO, stepC, eff, look, rem, St.put, St.setMem, setMems, St.after, St.eval, cst, setAt, val1, okNew, newHs, allHs, rdOf, outHs, Reg.item, Reg.next, Reg.skip, slotOf, effBox, effAlloc, entryRow, fieldOff, effField, loadI, load1, loadR, effLoad, storeI, storeB, storeR, szOk, storeTo, effStore, buildOf, effBuild, binInt, eqI, boolOf, binBool, effBin, effUn, effPick, effExtract, ivs, svs, rowOf, allParts, effBuildSlice, zeroRow, effMakeSlice, elemSz, idxA, idxS, effIndex, lenOf, readOf, subPre, maxRow, plainTI, appTo, effAppend, slcOf, effSlice, argOf, resA, resL, resV, outWr, nodupB, restOk, argsPre, argOk, callWr, effCall, effMax, wrHs, disj, AV.hs, A0.hs, Entry.hs, RC.elem, RC.sz, RC.len, RC.slice, RC.app, hA, initFr, initMem, initSt, resOf, resAll, compEq, compsEq, rowHs, outHds, outsEq, shapeOk, finOk, comps, A0.norm, AV.norm, specOf, t_int, t_bool, t_implForm, t_lawsForm, t_implMatrix, t_implPoint, t_implunited, t_implIdeal, t_lawsIdeal, t_implCharacter, ts_int, ts_implForm, ts_implPoint, ts_implCharacter, Option.getD_some, Option.getD_none, cond_true, cond_false, Nat.reduceBEq, List.map_cons, List.map_nil, List.set_cons_zero, List.set_cons_succ, List.getElem?_cons_zero, List.getElem?_cons_succ, List.drop_zero, List.drop_succ_cons, List.take_succ_cons, List.take_zero, Option.map_some, Option.map_none, Option.bind_some, Nat.zero_add, Nat.add_zero, Nat.reduceAdd, Nat.reduceMul, true_and, and_true, List.replicate_succ, List.replicate_zero, List.length_cons, List.length_nil, List.all_cons, List.all_nil, List.any_cons, List.any_nil, Bool.and_true, Bool.true_and, Bool.and_false, Bool.false_and, Bool.or_true, Bool.true_or, Bool.or_false, Bool.false_or, Bool.not_true, Bool.not_false, List.append_nil, List.nil_append, List.cons_append, List.flatMap_cons, List.flatMap_nil, List.contains_cons, List.contains_nil, List.filter_cons, List.filter_nil, beq_self_eq_true, Bool.not_eq_true, A0.b.injEq, A0.i.injEq, A0.s.injEq, A0.rw.injEq, A0.fn.injEq, List.cons.injEq, RC.ints.injEq, RC.recs.injEq, RC.bools.injEq, AV.one.injEq, AV.tup.injEq, ble_dec, blt_dec, Nat.reduceLeDiff, Nat.reduceSub, decide_true, decide_false, and_self, List.toList_toArray, Option.isSome_some, Option.isSome_none, List.elem_nil, List.elem_cons, ite_true, ite_false, Bool.false_eq_true, if_true, if_false, reduceIte, flatB_2, flatB_3, flatB_4, List.headD_cons, List.tail_cons, Try.f36]

abbrev fLawIdealClass : Nat := 11
def cLawIdealClass : Ctr
  | [.i d, .s [s, a, b]] => some ⟨True, .one (.b true), []⟩
  | _ => none
theorem okLawIdealClass : CtrOk Try.prog fLawIdealClass cLawIdealClass := by
  have hsp : SpecOk Try.prog (specOf [(fToIdeal, cToIdeal), (fSIdealClass, cSIdealClass), (fIdealClass, cIdealClass), (fEqForm, cEqForm)]) := (SpecOk.cons okToIdeal (SpecOk.cons okSIdealClass (SpecOk.cons okIdealClass (SpecOk.cons okEqForm SpecOk.nil))))
  refine ctr_of (fn := Try.f11) mixed tab_ok hsp Try.func11 (by kernel_rfl) (by kernel_rfl) fun args ce h => ?_
  clear hsp
  unfold cLawIdealClass at h
  split at h
  case h_2 => cases h
  rename_i d s a b
  simp only [Option.some.injEq] at h
  subst h
  refine ⟨by rfl, fun hp => ⟨0, 1000, ?_⟩⟩
  simp only [vc, out, step, stepE, stepPick, stepG, stepO, stepC, eff, look, rem, St.put, St.setMem, setMems, St.after, St.eval, cst, setAt, val1, okNew, newHs, allHs, rdOf, outHs, Reg.item, Reg.next, Reg.skip, slotOf, effBox, effAlloc, entryRow, fieldOff, effField, loadI, load1, loadR, effLoad, storeI, storeB, storeR, szOk, storeTo, effStore, buildOf, effBuild, binInt, eqI, boolOf, binBool, effBin, effUn, effPick, effExtract, ivs, svs, rowOf, allParts, effBuildSlice, zeroRow, effMakeSlice, elemSz, idxA, idxS, effIndex, lenOf, readOf, subPre, maxRow, plainTI, appTo, effAppend, slcOf, effSlice, argOf, resA, resL, resV, outWr, nodupB, restOk, argsPre, argOk, callWr, effCall, effMax, wrHs, disj, AV.hs, A0.hs, Entry.hs, RC.elem, RC.sz, RC.len, RC.slice, RC.app, hA, initFr, initMem, initSt, resOf, resAll, compEq, compsEq, rowHs, outHds, outsEq, shapeOk, finOk, comps, A0.norm, AV.norm, specOf, t_int, t_bool, t_implForm, t_lawsForm, t_implMatrix, t_implPoint, t_implunited, t_implIdeal, t_lawsIdeal, t_implCharacter, ts_int, ts_implForm, ts_implPoint, ts_implCharacter, Option.getD_some, Option.getD_none, cond_true, cond_false, Nat.reduceBEq, List.map_cons, List.map_nil, List.set_cons_zero, List.set_cons_succ, List.getElem?_cons_zero, List.getElem?_cons_succ, List.drop_zero, List.drop_succ_cons, List.take_succ_cons, List.take_zero, Option.map_some, Option.map_none, Option.bind_some, Nat.zero_add, Nat.add_zero, Nat.reduceAdd, Nat.reduceMul, true_and, and_true, List.replicate_succ, List.replicate_zero, List.length_cons, List.length_nil, List.all_cons, List.all_nil, List.any_cons, List.any_nil, Bool.and_true, Bool.true_and, Bool.and_false, Bool.false_and, Bool.or_true, Bool.true_or, Bool.or_false, Bool.false_or, Bool.not_true, Bool.not_false, List.append_nil, List.nil_append, List.cons_append, List.flatMap_cons, List.flatMap_nil, List.contains_cons, List.contains_nil, List.filter_cons, List.filter_nil, beq_self_eq_true, Bool.not_eq_true, A0.b.injEq, A0.i.injEq, A0.s.injEq, A0.rw.injEq, A0.fn.injEq, List.cons.injEq, RC.ints.injEq, RC.recs.injEq, RC.bools.injEq, AV.one.injEq, AV.tup.injEq, ble_dec, blt_dec, Nat.reduceLeDiff, Nat.reduceSub, decide_true, decide_false, and_self, List.toList_toArray, Option.isSome_some, Option.isSome_none, List.elem_nil, List.elem_cons, ite_true, ite_false, Bool.false_eq_true, if_true, if_false, reduceIte, flatB_2, flatB_3, flatB_4, List.headD_cons, List.tail_cons, cToIdeal, fToIdeal, cSIdealClass, fSIdealClass, cIdealClass, fIdealClass, cEqForm, fEqForm, Try.f11]
  simp
def aieB (d s a b t x y : Int) : Bool := (whoB d s a b && whoB d t x y) && decide (rd3 a b (cOf d a b) = rd3 x y (cOf d x y))
abbrev fAreEqv : Nat := 37
def cAreEqv : Ctr
  | [.i d, .s [s, a, b], .s [t, x, y]] => some ⟨True, .tup [.b (aieB d s a b t x y), .b (whoB d s a b && whoB d t x y)], []⟩
  | _ => none
theorem okAreEqv : CtrOk Try.prog fAreEqv cAreEqv := by
  have hsp : SpecOk Try.prog (specOf [(fIdealClass, cIdealClass)]) := (SpecOk.cons okIdealClass SpecOk.nil)
  refine ctr_of (fn := Try.f37) mixed tab_ok hsp Try.func37 (by kernel_rfl) (by kernel_rfl) fun args ce h => ?_
  clear hsp
  unfold cAreEqv at h
  split at h
  case h_2 => cases h
  rename_i d s a b t x y
  simp only [Option.some.injEq] at h
  subst h
  refine ⟨by rfl, fun hp => ⟨0, 1000, ?_⟩⟩
  simp only [vc, out, step, stepE, stepPick, stepG, stepO, stepC, eff, look, rem, St.put, St.setMem, setMems, St.after, St.eval, cst, setAt, val1, okNew, newHs, allHs, rdOf, outHs, Reg.item, Reg.next, Reg.skip, slotOf, effBox, effAlloc, entryRow, fieldOff, effField, loadI, load1, loadR, effLoad, storeI, storeB, storeR, szOk, storeTo, effStore, buildOf, effBuild, binInt, eqI, boolOf, binBool, effBin, effUn, effPick, effExtract, ivs, svs, rowOf, allParts, effBuildSlice, zeroRow, effMakeSlice, elemSz, idxA, idxS, effIndex, lenOf, readOf, subPre, maxRow, plainTI, appTo, effAppend, slcOf, effSlice, argOf, resA, resL, resV, outWr, nodupB, restOk, argsPre, argOk, callWr, effCall, effMax, wrHs, disj, AV.hs, A0.hs, Entry.hs, RC.elem, RC.sz, RC.len, RC.slice, RC.app, hA, initFr, initMem, initSt, resOf, resAll, compEq, compsEq, rowHs, outHds, outsEq, shapeOk, finOk, comps, A0.norm, AV.norm, specOf, t_int, t_bool, t_implForm, t_lawsForm, t_implMatrix, t_implPoint, t_implunited, t_implIdeal, t_lawsIdeal, t_implCharacter, ts_int, ts_implForm, ts_implPoint, ts_implCharacter, Option.getD_some, Option.getD_none, cond_true, cond_false, Nat.reduceBEq, List.map_cons, List.map_nil, List.set_cons_zero, List.set_cons_succ, List.getElem?_cons_zero, List.getElem?_cons_succ, List.drop_zero, List.drop_succ_cons, List.take_succ_cons, List.take_zero, Option.map_some, Option.map_none, Option.bind_some, Nat.zero_add, Nat.add_zero, Nat.reduceAdd, Nat.reduceMul, true_and, and_true, List.replicate_succ, List.replicate_zero, List.length_cons, List.length_nil, List.all_cons, List.all_nil, List.any_cons, List.any_nil, Bool.and_true, Bool.true_and, Bool.and_false, Bool.false_and, Bool.or_true, Bool.true_or, Bool.or_false, Bool.false_or, Bool.not_true, Bool.not_false, List.append_nil, List.nil_append, List.cons_append, List.flatMap_cons, List.flatMap_nil, List.contains_cons, List.contains_nil, List.filter_cons, List.filter_nil, beq_self_eq_true, Bool.not_eq_true, A0.b.injEq, A0.i.injEq, A0.s.injEq, A0.rw.injEq, A0.fn.injEq, List.cons.injEq, RC.ints.injEq, RC.recs.injEq, RC.bools.injEq, AV.one.injEq, AV.tup.injEq, ble_dec, blt_dec, Nat.reduceLeDiff, Nat.reduceSub, decide_true, decide_false, and_self, List.toList_toArray, Option.isSome_some, Option.isSome_none, List.elem_nil, List.elem_cons, ite_true, ite_false, Bool.false_eq_true, if_true, if_false, reduceIte, flatB_2, flatB_3, flatB_4, List.headD_cons, List.tail_cons, cIdealClass, fIdealClass, Try.f37]
  rw [eqI_3]
  unfold aieB rd3
  cases h : whoB d s a b with
  | false => exact ⟨rfl, rfl, rfl⟩
  | true =>
    cases h : whoB d t x y with
    | false => exact ⟨rfl, rfl, rfl⟩
    | true => exact ⟨rfl, rfl, rfl⟩
abbrev fSAreEqv : Nat := 35
def cSAreEqv : Ctr
  | [.i d, .s [s, a, b], .s [t, x, y]] => some ⟨True, .tup [.b (aieB d s a b t x y), .b (whoB d s a b && whoB d t x y)], []⟩
  | _ => none
theorem okSAreEqv : CtrOk Try.prog fSAreEqv cSAreEqv := by
  have hsp : SpecOk Try.prog (specOf [(fPiGood, cPiGood), (fPiClass, cPiClass)]) := (SpecOk.cons okPiGood (SpecOk.cons okPiClass SpecOk.nil))
  refine ctr_of (fn := Try.f35) mixed tab_ok hsp Try.func35 (by kernel_rfl) (by kernel_rfl) fun args ce h => ?_
  clear hsp
  unfold cSAreEqv at h
  split at h
  case h_2 => cases h
  rename_i d s a b t x y
  simp only [Option.some.injEq] at h
  subst h
  refine ⟨by rfl, fun hp => ⟨0, 1000, ?_⟩⟩
  simp only [vc, out, step, stepE, stepPick, stepG, stepO, stepC, eff, look, rem, St.put, St.setMem, setMems, St.after, St.eval, cst, setAt, val1, okNew, newHs, allHs, rdOf, outHs, Reg.item, Reg.next, Reg.skip, slotOf, effBox, effAlloc, entryRow, fieldOff, effField, loadI, load1, loadR, effLoad, storeI, storeB, storeR, szOk, storeTo, effStore, buildOf, effBuild, binInt, eqI, boolOf, binBool, effBin, effUn, effPick, effExtract, ivs, svs, rowOf, allParts, effBuildSlice, zeroRow, effMakeSlice, elemSz, idxA, idxS, effIndex, lenOf, readOf, subPre, maxRow, plainTI, appTo, effAppend, slcOf, effSlice, argOf, resA, resL, resV, outWr, nodupB, restOk, argsPre, argOk, callWr, effCall, effMax, wrHs, disj, AV.hs, A0.hs, Entry.hs, RC.elem, RC.sz, RC.len, RC.slice, RC.app, hA, initFr, initMem, initSt, resOf, resAll, compEq, compsEq, rowHs, outHds, outsEq, shapeOk, finOk, comps, A0.norm, AV.norm, specOf, t_int, t_bool, t_implForm, t_lawsForm, t_implMatrix, t_implPoint, t_implunited, t_implIdeal, t_lawsIdeal, t_implCharacter, ts_int, ts_implForm, ts_implPoint, ts_implCharacter, Option.getD_some, Option.getD_none, cond_true, cond_false, Nat.reduceBEq, List.map_cons, List.map_nil, List.set_cons_zero, List.set_cons_succ, List.getElem?_cons_zero, List.getElem?_cons_succ, List.drop_zero, List.drop_succ_cons, List.take_succ_cons, List.take_zero, Option.map_some, Option.map_none, Option.bind_some, Nat.zero_add, Nat.add_zero, Nat.reduceAdd, Nat.reduceMul, true_and, and_true, List.replicate_succ, List.replicate_zero, List.length_cons, List.length_nil, List.all_cons, List.all_nil, List.any_cons, List.any_nil, Bool.and_true, Bool.true_and, Bool.and_false, Bool.false_and, Bool.or_true, Bool.true_or, Bool.or_false, Bool.false_or, Bool.not_true, Bool.not_false, List.append_nil, List.nil_append, List.cons_append, List.flatMap_cons, List.flatMap_nil, List.contains_cons, List.contains_nil, List.filter_cons, List.filter_nil, beq_self_eq_true, Bool.not_eq_true, A0.b.injEq, A0.i.injEq, A0.s.injEq, A0.rw.injEq, A0.fn.injEq, List.cons.injEq, RC.ints.injEq, RC.recs.injEq, RC.bools.injEq, AV.one.injEq, AV.tup.injEq, ble_dec, blt_dec, Nat.reduceLeDiff, Nat.reduceSub, decide_true, decide_false, and_self, List.toList_toArray, Option.isSome_some, Option.isSome_none, List.elem_nil, List.elem_cons, ite_true, ite_false, Bool.false_eq_true, if_true, if_false, reduceIte, flatB_2, flatB_3, flatB_4, List.headD_cons, List.tail_cons, cPiGood, fPiGood, cPiClass, fPiClass, Try.f35]
  rw [eqI_3]
  unfold aieB rd3
  cases h : whoB d s a b with
  | false => exact ⟨rfl, rfl, rfl⟩
  | true =>
    cases h2 : whoB d t x y with
    | false => exact ⟨rfl, rfl, rfl⟩
    | true => exact ⟨who_idl h, who_idl h2, by kernel_rfl, by kernel_rfl, rfl, rfl⟩
abbrev fLawAreEqv : Nat := 9
def cLawAreEqv : Ctr
  | [.i d, .s [s, a, b], .s [t, x, y]] => some ⟨True, .one (.b true), []⟩
  | _ => none
theorem okLawAreEqv : CtrOk Try.prog fLawAreEqv cLawAreEqv := by
  have hsp : SpecOk Try.prog (specOf [(fToIdeal, cToIdeal), (fSAreEqv, cSAreEqv), (fAreEqv, cAreEqv)]) := (SpecOk.cons okToIdeal (SpecOk.cons okSAreEqv (SpecOk.cons okAreEqv SpecOk.nil)))
  refine ctr_of (fn := Try.f9) mixed tab_ok hsp Try.func9 (by kernel_rfl) (by kernel_rfl) fun args ce h => ?_
  clear hsp
  unfold cLawAreEqv at h
  split at h
  case h_2 => cases h
  rename_i d s a b t x y
  simp only [Option.some.injEq] at h
  subst h
  refine ⟨by rfl, fun hp => ⟨0, 1000, ?_⟩⟩
  simp only [vc, out, step, stepE, stepPick, stepG, stepO, stepC, eff, look, rem, St.put, St.setMem, setMems, St.after, St.eval, cst, setAt, val1, okNew, newHs, allHs, rdOf, outHs, Reg.item, Reg.next, Reg.skip, slotOf, effBox, effAlloc, entryRow, fieldOff, effField, loadI, load1, loadR, effLoad, storeI, storeB, storeR, szOk, storeTo, effStore, buildOf, effBuild, binInt, eqI, boolOf, binBool, effBin, effUn, effPick, effExtract, ivs, svs, rowOf, allParts, effBuildSlice, zeroRow, effMakeSlice, elemSz, idxA, idxS, effIndex, lenOf, readOf, subPre, maxRow, plainTI, appTo, effAppend, slcOf, effSlice, argOf, resA, resL, resV, outWr, nodupB, restOk, argsPre, argOk, callWr, effCall, effMax, wrHs, disj, AV.hs, A0.hs, Entry.hs, RC.elem, RC.sz, RC.len, RC.slice, RC.app, hA, initFr, initMem, initSt, resOf, resAll, compEq, compsEq, rowHs, outHds, outsEq, shapeOk, finOk, comps, A0.norm, AV.norm, specOf, t_int, t_bool, t_implForm, t_lawsForm, t_implMatrix, t_implPoint, t_implunited, t_implIdeal, t_lawsIdeal, t_implCharacter, ts_int, ts_implForm, ts_implPoint, ts_implCharacter, Option.getD_some, Option.getD_none, cond_true, cond_false, Nat.reduceBEq, List.map_cons, List.map_nil, List.set_cons_zero, List.set_cons_succ, List.getElem?_cons_zero, List.getElem?_cons_succ, List.drop_zero, List.drop_succ_cons, List.take_succ_cons, List.take_zero, Option.map_some, Option.map_none, Option.bind_some, Nat.zero_add, Nat.add_zero, Nat.reduceAdd, Nat.reduceMul, true_and, and_true, List.replicate_succ, List.replicate_zero, List.length_cons, List.length_nil, List.all_cons, List.all_nil, List.any_cons, List.any_nil, Bool.and_true, Bool.true_and, Bool.and_false, Bool.false_and, Bool.or_true, Bool.true_or, Bool.or_false, Bool.false_or, Bool.not_true, Bool.not_false, List.append_nil, List.nil_append, List.cons_append, List.flatMap_cons, List.flatMap_nil, List.contains_cons, List.contains_nil, List.filter_cons, List.filter_nil, beq_self_eq_true, Bool.not_eq_true, A0.b.injEq, A0.i.injEq, A0.s.injEq, A0.rw.injEq, A0.fn.injEq, List.cons.injEq, RC.ints.injEq, RC.recs.injEq, RC.bools.injEq, AV.one.injEq, AV.tup.injEq, ble_dec, blt_dec, Nat.reduceLeDiff, Nat.reduceSub, decide_true, decide_false, and_self, List.toList_toArray, Option.isSome_some, Option.isSome_none, List.elem_nil, List.elem_cons, ite_true, ite_false, Bool.false_eq_true, if_true, if_false, reduceIte, flatB_2, flatB_3, flatB_4, List.headD_cons, List.tail_cons, cToIdeal, fToIdeal, cSAreEqv, fSAreEqv, cAreEqv, fAreEqv, Try.f9]
  refine ⟨by kernel_rfl, by kernel_rfl, ?_⟩
  cases aieB d s a b t x y <;> cases (whoB d s a b && whoB d t x y) <;> trivial
theorem rd_facts {a b c d : Int} (h : domB a b c = true) (hd : discI a b c = d) (hn : negB d = true) (hs : dsc (a, b, c) = d) : domB (rdA a b c) (rdB a b c) (rdC a b c) = true ∧ discI (rdA a b c) (rdB a b c) (rdC a b c) = d ∧ rd3 (rdA a b c) (rdB a b c) (rdC a b c) = rd3 a b c := by
  have e := rd3_eq h
  have hr := rdx_red (x := (a, b, c)) h
  rw [hs] at hr
  have h1 := negB_in hn
  have h3 := hr.small h1.1
  have e1 : rdx (a, b, c) = (rdA a b c, rdB a b c, rdC a b c) := e.symm
  rw [e1] at hr h3
  simp only at h3
  have hd1 : domB (rdA a b c) (rdB a b c) (rdC a b c) = true := red_domB (by omega) hr
  refine ⟨hd1, ?_, ?_⟩
  · rw [disc_id (by omega) (by omega) (by omega)]; exact hr.d
  · rw [rd3_eq hd1, rdx_of_red (red_of hr (by simp only; omega))]; rfl
def ipiB (d s a b : Int) : Bool := whoB d s a b && decide (rd3 a b (cOf d a b) = prI d)
theorem idl_dsc {d s a b : Int} (h : idlB d s a b = true) : dsc (a, b, cOf d a b) = d ∧ negB d = true := by
  simp only [idlB, Bool.and_eq_true, beq_iff_eq] at h
  obtain ⟨h0, _, h2, h3, h4⟩ := h
  have hd := negB_in h0
  have ha : a ≥ 1 ∧ a ≤ 10000 := by simpa [inI] using h2
  have hb : b ≥ 0 ∧ b ≤ 2 * a - 1 := by simpa [inI] using h3
  have hs := sq_in (n := 20000) (by omega) (show -20000 ≤ b ∧ b ≤ 20000 by omega)
  have e1 : wrap64 (wrap64 (b * b) - d) = b * b - d := by rw [wrap_id (n := b * b) (by omega) (by omega), wrap_id (by omega) (by omega)]
  have e2 : wrap64 (4 * a) = 4 * a := wrap_id (by omega) (by omega)
  rw [e1, e2] at h4
  have e := Int.mul_tdiv_add_tmod (b * b - d) (4 * a)
  rw [h4, Int.add_zero] at e
  have h6 := tdiv_bd' (a := b * b - d) (b := 4 * a) (k := 400002000) ⟨by omega, by omega⟩
  have e3 : cOf d a b = (b * b - d).tdiv (4 * a) := by unfold cOf; rw [e1, e2, wrap_id (by omega) (by omega)]
  refine ⟨?_, h0⟩
  unfold dsc
  simp only
  rw [e3, e]
  omega
abbrev fIsPrinc : Nat := 48
def cIsPrinc : Ctr
  | [.i d, .s [s, a, b]] => some ⟨True, .tup [.b (ipiB d s a b), .b (whoB d s a b)], []⟩
  | _ => none
theorem okIsPrinc : CtrOk Try.prog fIsPrinc cIsPrinc := by
  have hsp : SpecOk Try.prog (specOf [(fIdealClass, cIdealClass), (fIsId, cIsId)]) := (SpecOk.cons okIdealClass (SpecOk.cons okIsId SpecOk.nil))
  refine ctr_of (fn := Try.f48) mixed tab_ok hsp Try.func48 (by kernel_rfl) (by kernel_rfl) fun args ce h => ?_
  clear hsp
  unfold cIsPrinc at h
  split at h
  case h_2 => cases h
  rename_i d s a b
  simp only [Option.some.injEq] at h
  subst h
  refine ⟨by rfl, fun hp => ⟨0, 1000, ?_⟩⟩
  simp only [vc, out, step, stepE, stepPick, stepG, stepO, stepC, eff, look, rem, St.put, St.setMem, setMems, St.after, St.eval, cst, setAt, val1, okNew, newHs, allHs, rdOf, outHs, Reg.item, Reg.next, Reg.skip, slotOf, effBox, effAlloc, entryRow, fieldOff, effField, loadI, load1, loadR, effLoad, storeI, storeB, storeR, szOk, storeTo, effStore, buildOf, effBuild, binInt, eqI, boolOf, binBool, effBin, effUn, effPick, effExtract, ivs, svs, rowOf, allParts, effBuildSlice, zeroRow, effMakeSlice, elemSz, idxA, idxS, effIndex, lenOf, readOf, subPre, maxRow, plainTI, appTo, effAppend, slcOf, effSlice, argOf, resA, resL, resV, outWr, nodupB, restOk, argsPre, argOk, callWr, effCall, effMax, wrHs, disj, AV.hs, A0.hs, Entry.hs, RC.elem, RC.sz, RC.len, RC.slice, RC.app, hA, initFr, initMem, initSt, resOf, resAll, compEq, compsEq, rowHs, outHds, outsEq, shapeOk, finOk, comps, A0.norm, AV.norm, specOf, t_int, t_bool, t_implForm, t_lawsForm, t_implMatrix, t_implPoint, t_implunited, t_implIdeal, t_lawsIdeal, t_implCharacter, ts_int, ts_implForm, ts_implPoint, ts_implCharacter, Option.getD_some, Option.getD_none, cond_true, cond_false, Nat.reduceBEq, List.map_cons, List.map_nil, List.set_cons_zero, List.set_cons_succ, List.getElem?_cons_zero, List.getElem?_cons_succ, List.drop_zero, List.drop_succ_cons, List.take_succ_cons, List.take_zero, Option.map_some, Option.map_none, Option.bind_some, Nat.zero_add, Nat.add_zero, Nat.reduceAdd, Nat.reduceMul, true_and, and_true, List.replicate_succ, List.replicate_zero, List.length_cons, List.length_nil, List.all_cons, List.all_nil, List.any_cons, List.any_nil, Bool.and_true, Bool.true_and, Bool.and_false, Bool.false_and, Bool.or_true, Bool.true_or, Bool.or_false, Bool.false_or, Bool.not_true, Bool.not_false, List.append_nil, List.nil_append, List.cons_append, List.flatMap_cons, List.flatMap_nil, List.contains_cons, List.contains_nil, List.filter_cons, List.filter_nil, beq_self_eq_true, Bool.not_eq_true, A0.b.injEq, A0.i.injEq, A0.s.injEq, A0.rw.injEq, A0.fn.injEq, List.cons.injEq, RC.ints.injEq, RC.recs.injEq, RC.bools.injEq, AV.one.injEq, AV.tup.injEq, ble_dec, blt_dec, Nat.reduceLeDiff, Nat.reduceSub, decide_true, decide_false, and_self, List.toList_toArray, Option.isSome_some, Option.isSome_none, List.elem_nil, List.elem_cons, ite_true, ite_false, Bool.false_eq_true, if_true, if_false, reduceIte, flatB_2, flatB_3, flatB_4, List.headD_cons, List.tail_cons, cIdealClass, fIdealClass, cIsId, fIsId, Try.f48]
  unfold ipiB
  cases h : whoB d s a b with
  | false => exact ⟨rfl, rfl⟩
  | true =>
    obtain ⟨h1, h2, h3⟩ := idl_dom (who_idl h)
    obtain ⟨h4, h5⟩ := idl_dsc (who_idl h)
    obtain ⟨g1, g2, g3⟩ := rd_facts h1 h3 h5 h4
    simp only [onB, cond_true]
    refine ⟨⟨g1, by rw [g2]; exact h5⟩, rfl, ?_⟩
    unfold idB
    rw [g2, g3]
    rfl
abbrev fSIsPrinc : Nat := 47
def cSIsPrinc : Ctr
  | [.i d, .s [s, a, b]] => some ⟨True, .tup [.b (ipiB d s a b), .b (whoB d s a b)], []⟩
  | _ => none
theorem okSIsPrinc : CtrOk Try.prog fSIsPrinc cSIsPrinc := by
  have hsp : SpecOk Try.prog (specOf [(fPiGood, cPiGood), (fPiClass, cPiClass), (fCoOne, cCoOne)]) := (SpecOk.cons okPiGood (SpecOk.cons okPiClass (SpecOk.cons okCoOne SpecOk.nil)))
  refine ctr_of (fn := Try.f47) mixed tab_ok hsp Try.func47 (by kernel_rfl) (by kernel_rfl) fun args ce h => ?_
  clear hsp
  unfold cSIsPrinc at h
  split at h
  case h_2 => cases h
  rename_i d s a b
  simp only [Option.some.injEq] at h
  subst h
  refine ⟨by rfl, fun hp => ⟨0, 1000, ?_⟩⟩
  simp only [vc, out, step, stepE, stepPick, stepG, stepO, stepC, eff, look, rem, St.put, St.setMem, setMems, St.after, St.eval, cst, setAt, val1, okNew, newHs, allHs, rdOf, outHs, Reg.item, Reg.next, Reg.skip, slotOf, effBox, effAlloc, entryRow, fieldOff, effField, loadI, load1, loadR, effLoad, storeI, storeB, storeR, szOk, storeTo, effStore, buildOf, effBuild, binInt, eqI, boolOf, binBool, effBin, effUn, effPick, effExtract, ivs, svs, rowOf, allParts, effBuildSlice, zeroRow, effMakeSlice, elemSz, idxA, idxS, effIndex, lenOf, readOf, subPre, maxRow, plainTI, appTo, effAppend, slcOf, effSlice, argOf, resA, resL, resV, outWr, nodupB, restOk, argsPre, argOk, callWr, effCall, effMax, wrHs, disj, AV.hs, A0.hs, Entry.hs, RC.elem, RC.sz, RC.len, RC.slice, RC.app, hA, initFr, initMem, initSt, resOf, resAll, compEq, compsEq, rowHs, outHds, outsEq, shapeOk, finOk, comps, A0.norm, AV.norm, specOf, t_int, t_bool, t_implForm, t_lawsForm, t_implMatrix, t_implPoint, t_implunited, t_implIdeal, t_lawsIdeal, t_implCharacter, ts_int, ts_implForm, ts_implPoint, ts_implCharacter, Option.getD_some, Option.getD_none, cond_true, cond_false, Nat.reduceBEq, List.map_cons, List.map_nil, List.set_cons_zero, List.set_cons_succ, List.getElem?_cons_zero, List.getElem?_cons_succ, List.drop_zero, List.drop_succ_cons, List.take_succ_cons, List.take_zero, Option.map_some, Option.map_none, Option.bind_some, Nat.zero_add, Nat.add_zero, Nat.reduceAdd, Nat.reduceMul, true_and, and_true, List.replicate_succ, List.replicate_zero, List.length_cons, List.length_nil, List.all_cons, List.all_nil, List.any_cons, List.any_nil, Bool.and_true, Bool.true_and, Bool.and_false, Bool.false_and, Bool.or_true, Bool.true_or, Bool.or_false, Bool.false_or, Bool.not_true, Bool.not_false, List.append_nil, List.nil_append, List.cons_append, List.flatMap_cons, List.flatMap_nil, List.contains_cons, List.contains_nil, List.filter_cons, List.filter_nil, beq_self_eq_true, Bool.not_eq_true, A0.b.injEq, A0.i.injEq, A0.s.injEq, A0.rw.injEq, A0.fn.injEq, List.cons.injEq, RC.ints.injEq, RC.recs.injEq, RC.bools.injEq, AV.one.injEq, AV.tup.injEq, ble_dec, blt_dec, Nat.reduceLeDiff, Nat.reduceSub, decide_true, decide_false, and_self, List.toList_toArray, Option.isSome_some, Option.isSome_none, List.elem_nil, List.elem_cons, ite_true, ite_false, Bool.false_eq_true, if_true, if_false, reduceIte, flatB_2, flatB_3, flatB_4, List.headD_cons, List.tail_cons, cPiGood, fPiGood, cPiClass, fPiClass, cCoOne, fCoOne, Try.f47]
  rw [eqI_3]
  unfold ipiB
  cases h : whoB d s a b with
  | false => exact ⟨rfl, rfl, rfl⟩
  | true => exact ⟨who_idl h, rfl, rfl, rfl⟩
abbrev fLawIsPrinc : Nat := 13
def cLawIsPrinc : Ctr
  | [.i d, .s [s, a, b]] => some ⟨True, .one (.b true), []⟩
  | _ => none
theorem okLawIsPrinc : CtrOk Try.prog fLawIsPrinc cLawIsPrinc := by
  have hsp : SpecOk Try.prog (specOf [(fToIdeal, cToIdeal), (fSIsPrinc, cSIsPrinc), (fIsPrinc, cIsPrinc)]) := (SpecOk.cons okToIdeal (SpecOk.cons okSIsPrinc (SpecOk.cons okIsPrinc SpecOk.nil)))
  refine ctr_of (fn := Try.f13) mixed tab_ok hsp Try.func13 (by kernel_rfl) (by kernel_rfl) fun args ce h => ?_
  clear hsp
  unfold cLawIsPrinc at h
  split at h
  case h_2 => cases h
  rename_i d s a b
  simp only [Option.some.injEq] at h
  subst h
  refine ⟨by rfl, fun hp => ⟨0, 1000, ?_⟩⟩
  simp only [vc, out, step, stepE, stepPick, stepG, stepO, stepC, eff, look, rem, St.put, St.setMem, setMems, St.after, St.eval, cst, setAt, val1, okNew, newHs, allHs, rdOf, outHs, Reg.item, Reg.next, Reg.skip, slotOf, effBox, effAlloc, entryRow, fieldOff, effField, loadI, load1, loadR, effLoad, storeI, storeB, storeR, szOk, storeTo, effStore, buildOf, effBuild, binInt, eqI, boolOf, binBool, effBin, effUn, effPick, effExtract, ivs, svs, rowOf, allParts, effBuildSlice, zeroRow, effMakeSlice, elemSz, idxA, idxS, effIndex, lenOf, readOf, subPre, maxRow, plainTI, appTo, effAppend, slcOf, effSlice, argOf, resA, resL, resV, outWr, nodupB, restOk, argsPre, argOk, callWr, effCall, effMax, wrHs, disj, AV.hs, A0.hs, Entry.hs, RC.elem, RC.sz, RC.len, RC.slice, RC.app, hA, initFr, initMem, initSt, resOf, resAll, compEq, compsEq, rowHs, outHds, outsEq, shapeOk, finOk, comps, A0.norm, AV.norm, specOf, t_int, t_bool, t_implForm, t_lawsForm, t_implMatrix, t_implPoint, t_implunited, t_implIdeal, t_lawsIdeal, t_implCharacter, ts_int, ts_implForm, ts_implPoint, ts_implCharacter, Option.getD_some, Option.getD_none, cond_true, cond_false, Nat.reduceBEq, List.map_cons, List.map_nil, List.set_cons_zero, List.set_cons_succ, List.getElem?_cons_zero, List.getElem?_cons_succ, List.drop_zero, List.drop_succ_cons, List.take_succ_cons, List.take_zero, Option.map_some, Option.map_none, Option.bind_some, Nat.zero_add, Nat.add_zero, Nat.reduceAdd, Nat.reduceMul, true_and, and_true, List.replicate_succ, List.replicate_zero, List.length_cons, List.length_nil, List.all_cons, List.all_nil, List.any_cons, List.any_nil, Bool.and_true, Bool.true_and, Bool.and_false, Bool.false_and, Bool.or_true, Bool.true_or, Bool.or_false, Bool.false_or, Bool.not_true, Bool.not_false, List.append_nil, List.nil_append, List.cons_append, List.flatMap_cons, List.flatMap_nil, List.contains_cons, List.contains_nil, List.filter_cons, List.filter_nil, beq_self_eq_true, Bool.not_eq_true, A0.b.injEq, A0.i.injEq, A0.s.injEq, A0.rw.injEq, A0.fn.injEq, List.cons.injEq, RC.ints.injEq, RC.recs.injEq, RC.bools.injEq, AV.one.injEq, AV.tup.injEq, ble_dec, blt_dec, Nat.reduceLeDiff, Nat.reduceSub, decide_true, decide_false, and_self, List.toList_toArray, Option.isSome_some, Option.isSome_none, List.elem_nil, List.elem_cons, ite_true, ite_false, Bool.false_eq_true, if_true, if_false, reduceIte, flatB_2, flatB_3, flatB_4, List.headD_cons, List.tail_cons, cToIdeal, fToIdeal, cSIsPrinc, fSIsPrinc, cIsPrinc, fIsPrinc, Try.f13]
  cases ipiB d s a b <;> cases whoB d s a b <;> trivial
end Go.Proofs.Ytnjiahafjjglfaa
