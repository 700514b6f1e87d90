/-
  Contracts of the theta series on both sides. Conditions: none.
-/
import Derived.Test.YthcnaeahmdapbacVals
namespace Go.Proofs.Ythcnaeahmdapbac
open Go Go.RowKit
set_option maxRecDepth 100000
set_option linter.unusedSimpArgs false
set_option linter.unusedVariables false
set_option maxHeartbeats 4000000

def thL (f : F3) (n m : Int) : List Int := if _h : m ≤ n then ((ptI f m).length : Int) :: thL f n (m + 1) else []
  termination_by (n + 1 - m).toNat
  decreasing_by omega
theorem thL_len (f : F3) (n m : Int) : (thL f n m).length = (n + 1 - m).toNat := by
  fun_induction thL f n m with
  | case1 m h ih => rw [List.length_cons, ih]; omega
  | case2 m h => simp; omega
abbrev fTheta : Nat := 22
def cTheta : Ctr
  | [.s [a, b, c], .i n] => some ⟨(domB a b c = true ∧ VF (rdA a b c, rdB a b c, rdC a b c)) ∧ 0 ≤ n ∧ n ≤ 100, .one (.rw (.ints 3 (1 :: thL (rdA a b c, rdB a b c, rdC a b c) n 1))), []⟩
  | _ => none
theorem okTheta : CtrOk Try.prog fTheta cTheta := by
  have hsp : SpecOk Try.prog (specOf [(fReduced1, cReduced1), (fPoints, cPoints)]) := (SpecOk.cons okReduced1 (SpecOk.cons okPoints SpecOk.nil))
  refine ctr_of (fn := Try.f22) mixed tab_ok hsp Try.func22 (by kernel_rfl) (by kernel_rfl) fun args ce h => ?_
  clear hsp
  unfold cTheta at h
  split at h
  case h_2 => cases h
  rename_i a b c n
  simp only [Option.some.injEq] at h
  subst h
  refine ⟨by rfl, fun hp => ⟨1, 1000, ?_⟩⟩
  simp only [vc, out, effCopy, finD, St.drop, vwAt, Entry.vwO, RC.vwO, dropAt, A0.dr, AV.dr, noneNames, viewS, viewV, viewTo, A0.vwT, AV.vwT, viewOk, viewEn, appView, hdSlc, A0.mv1, AV.mv1, Entry.toO, toOf, A0.mv, AV.mv, mvTo, St.res, nxtH, makeRows, effMakeSl, storeRow, step, stepE, stepPick, stepG, stepO, stepC, eff, look, rem, St.put, St.setMem, setMems, St.after, St.eval, cst, setAt, val1, okNew, newHs, allHs, rdOf, outHs, Reg.item, Reg.next, Reg.skip, slotOf, effBox, effAlloc, entryRow, fieldOff, effField, loadI, load1, loadR, effLoad, storeI, storeB, storeR, szOk, storeTo, effStore, buildOf, effBuild, binInt, eqI, boolOf, binBool, effBin, effUn, effPick, effExtract, ivs, svs, rowOf, allParts, effBuildSlice, zeroRow, effMakeSlice, elemSz, idxA, idxS, effIndex, lenOf, readOf, subPre, maxRow, plainTI, appTo, effAppend, slcOf, effSlice, argOf, resA, resL, resV, outWr, nodupB, restOk, argsPre, argOk, callWr, effCall, effMax, RC.flat, effBox2, boxPair, compOf, innerOf, innerPre, fieldTwo, loadO, loadN, storeN, buildTwo, effBuild2, buildRows, effBuildSl, appRows, effApp2, plainA, callIn, outsEmpty, callGo, MC.get, MC.has, MC.put, mcTI, keyTI, emptyMC, effMakeMap, mapIn, hOf1, lookV, effLookup, mapBack, effUpdate, effNil, effMin, effIndexV, cutSlc, arrElem, cutOf, boxWord, boxRow, effBox3, allocWord, effAlloc2, loadWd, loadWord, loadSl, effLoad2, storeWd, storeWord, storeCi, storeSl, effStore2, buildWord, effBuild3, fieldWord, effField2, signOf, appWd, appWord, effAppend2, effClo, plainS, cloGo, callClo, argCl, inHs, calleeHs, resWd, wrHs, disj, AV.hs, A0.hs, Entry.hs, RC.elem, RC.sz, RC.len, RC.slice, RC.app, hA, initFr, initMem, initSt, resOf, resAll, compEq, compsEq, rowHs, outHds, outsEq, shapeOk, finOk, comps, A0.norm, AV.norm, specOf, t_int, t_bool, t_implForm, t_implMatrix, t_implPoint, ts_int, ts_implForm, ts_implPoint, Option.getD_some, Option.getD_none, cond_true, cond_false, Nat.reduceBEq, List.map_cons, List.map_nil, List.set_cons_zero, List.set_cons_succ, List.getElem?_cons_zero, List.getElem?_cons_succ, List.drop_zero, List.drop_succ_cons, List.take_succ_cons, List.take_zero, Option.map_some, Option.map_none, Option.bind_some, Nat.zero_add, Nat.add_zero, Nat.reduceAdd, Nat.reduceMul, true_and, and_true, List.replicate_succ, List.replicate_zero, List.length_cons, List.length_nil, List.all_cons, List.all_nil, List.any_cons, List.any_nil, Bool.and_true, Bool.true_and, Bool.and_false, Bool.false_and, Bool.or_true, Bool.true_or, Bool.or_false, Bool.false_or, Bool.not_true, Bool.not_false, List.append_nil, List.nil_append, List.cons_append, List.flatMap_cons, List.flatMap_nil, List.contains_cons, List.contains_nil, List.filter_cons, List.filter_nil, beq_self_eq_true, Bool.not_eq_true, A0.b.injEq, A0.i.injEq, A0.s.injEq, A0.rw.injEq, A0.fn.injEq, List.cons.injEq, RC.ints.injEq, RC.recs.injEq, RC.bools.injEq, RC.mp.injEq, RC.grp.injEq, RC.rows.injEq, RC.wd.injEq, RC.bx.injEq, RC.clo.injEq, MC.ints.injEq, MC.bools.injEq, AV.one.injEq, AV.tup.injEq, ble_dec, blt_dec, Nat.reduceLeDiff, Nat.reduceSub, decide_true, decide_false, and_self, List.toList_toArray, Option.isSome_some, Option.isSome_none, List.elem_nil, List.elem_cons, ite_true, ite_false, Bool.false_eq_true, if_true, if_false, reduceIte, flatB_2, flatB_3, flatB_4, List.headD_cons, List.tail_cons, cReduced1, fReduced1, cPoints, fPoints, Try.f22]
  obtain ⟨⟨hd, hv⟩, hn0, hn1⟩ : (domB a b c = true ∧ VF (rdA a b c, rdB a b c, rdC a b c)) ∧ 0 ≤ n ∧ n ≤ 100 := hp
  refine ⟨hd, ?_⟩
  generalize rdA a b c = A at *
  generalize rdB a b c = B at *
  generalize rdC a b c = C at *
  refine lp_intro (fun x : List Int × Int => ⟨[(1, .one (.i n)), (5, .one (.ref 5 0)), (6, .one (.row 10)), (7, .one (.i x.2))], [(5, .ibox 36 [A, B, C]), (10, .row (.ints 3 x.1))]⟩)
    (fun x => 1 ≤ x.2 ∧ x.2 ≤ 101 ∧ x.1 ++ thL (A, B, C) n x.2 = 1 :: thL (A, B, C) n 1) (fun x => (102 - x.2).toNat) ([1], 1) [] ⟨by simp only; omega, by simp only; omega, rfl⟩ (by simp only [Cov, covOk, covFr, covMem, entEq, rn, nodupB, A0.ren, AV.ren, Entry.ren, Entry.norm, look, rem, St.eval, cst, hA, finD, St.drop, vwAt, Entry.vwO, RC.vwO, dropAt, A0.dr, AV.dr, noneNames, viewS, viewV, viewTo, A0.vwT, AV.vwT, viewOk, viewEn, St.res, toOf, Entry.toO, mvTo, A0.mv, AV.mv, A0.mv1, AV.mv1, allHs, AV.hs, A0.hs, Entry.hs, A0.norm, AV.norm, RC.len, RC.flat, setAt, RC.elem, RC.sz, compOf, initFr, Option.getD_some, Option.getD_none, cond_true, cond_false, Nat.reduceBEq, List.map_cons, List.map_nil, List.set_cons_zero, List.set_cons_succ, List.getElem?_cons_zero, List.getElem?_cons_succ, List.drop_zero, List.drop_succ_cons, List.take_succ_cons, List.take_zero, Option.map_some, Option.map_none, Option.bind_some, Nat.zero_add, Nat.add_zero, Nat.reduceAdd, Nat.reduceMul, true_and, and_true, List.replicate_succ, List.replicate_zero, List.length_cons, List.length_nil, List.all_cons, List.all_nil, List.any_cons, List.any_nil, Bool.and_true, Bool.true_and, Bool.and_false, Bool.false_and, Bool.or_true, Bool.true_or, Bool.or_false, Bool.false_or, Bool.not_true, Bool.not_false, List.append_nil, List.nil_append, List.cons_append, List.flatMap_cons, List.flatMap_nil, List.contains_cons, List.contains_nil, List.filter_cons, List.filter_nil, beq_self_eq_true, Bool.not_eq_true, A0.b.injEq, A0.i.injEq, A0.s.injEq, A0.rw.injEq, A0.fn.injEq, List.cons.injEq, RC.ints.injEq, RC.recs.injEq, RC.bools.injEq, RC.mp.injEq, RC.grp.injEq, RC.rows.injEq, RC.wd.injEq, RC.bx.injEq, RC.clo.injEq, MC.ints.injEq, MC.bools.injEq, AV.one.injEq, AV.tup.injEq, ble_dec, blt_dec, Nat.reduceLeDiff, Nat.reduceSub, decide_true, decide_false, and_self, List.toList_toArray, Option.isSome_some, Option.isSome_none, List.elem_nil, List.elem_cons, ite_true, ite_false, Bool.false_eq_true, if_true, if_false, reduceIte, flatB_2, flatB_3, flatB_4, List.headD_cons, List.tail_cons]) fun x hx J hJ => ⟨1000, ?_⟩
  obtain ⟨acc, m⟩ := x
  obtain ⟨h1, h2, h3⟩ : 1 ≤ m ∧ m ≤ 101 ∧ acc ++ thL (A, B, C) n m = 1 :: thL (A, B, C) n 1 := hx
  have hlen : acc.length ≤ 200 := by
    have h4 := congrArg List.length h3
    rw [List.length_append, List.length_cons, thL_len, thL_len] at h4
    omega
  simp only [vc, out, effCopy, finD, St.drop, vwAt, Entry.vwO, RC.vwO, dropAt, A0.dr, AV.dr, noneNames, viewS, viewV, viewTo, A0.vwT, AV.vwT, viewOk, viewEn, appView, hdSlc, A0.mv1, AV.mv1, Entry.toO, toOf, A0.mv, AV.mv, mvTo, St.res, nxtH, makeRows, effMakeSl, storeRow, step, stepE, stepPick, stepG, stepO, stepC, eff, look, rem, St.put, St.setMem, setMems, St.after, St.eval, cst, setAt, val1, okNew, newHs, allHs, rdOf, outHs, Reg.item, Reg.next, Reg.skip, slotOf, effBox, effAlloc, entryRow, fieldOff, effField, loadI, load1, loadR, effLoad, storeI, storeB, storeR, szOk, storeTo, effStore, buildOf, effBuild, binInt, eqI, boolOf, binBool, effBin, effUn, effPick, effExtract, ivs, svs, rowOf, allParts, effBuildSlice, zeroRow, effMakeSlice, elemSz, idxA, idxS, effIndex, lenOf, readOf, subPre, maxRow, plainTI, appTo, effAppend, slcOf, effSlice, argOf, resA, resL, resV, outWr, nodupB, restOk, argsPre, argOk, callWr, effCall, effMax, RC.flat, effBox2, boxPair, compOf, innerOf, innerPre, fieldTwo, loadO, loadN, storeN, buildTwo, effBuild2, buildRows, effBuildSl, appRows, effApp2, plainA, callIn, outsEmpty, callGo, MC.get, MC.has, MC.put, mcTI, keyTI, emptyMC, effMakeMap, mapIn, hOf1, lookV, effLookup, mapBack, effUpdate, effNil, effMin, effIndexV, cutSlc, arrElem, cutOf, boxWord, boxRow, effBox3, allocWord, effAlloc2, loadWd, loadWord, loadSl, effLoad2, storeWd, storeWord, storeCi, storeSl, effStore2, buildWord, effBuild3, fieldWord, effField2, signOf, appWd, appWord, effAppend2, effClo, plainS, cloGo, callClo, argCl, inHs, calleeHs, resWd, wrHs, disj, AV.hs, A0.hs, Entry.hs, RC.elem, RC.sz, RC.len, RC.slice, RC.app, hA, initFr, initMem, initSt, resOf, resAll, compEq, compsEq, rowHs, outHds, outsEq, shapeOk, finOk, comps, A0.norm, AV.norm, specOf, t_int, t_bool, t_implForm, t_implMatrix, t_implPoint, ts_int, ts_implForm, ts_implPoint, Option.getD_some, Option.getD_none, cond_true, cond_false, Nat.reduceBEq, List.map_cons, List.map_nil, List.set_cons_zero, List.set_cons_succ, List.getElem?_cons_zero, List.getElem?_cons_succ, List.drop_zero, List.drop_succ_cons, List.take_succ_cons, List.take_zero, Option.map_some, Option.map_none, Option.bind_some, Nat.zero_add, Nat.add_zero, Nat.reduceAdd, Nat.reduceMul, true_and, and_true, List.replicate_succ, List.replicate_zero, List.length_cons, List.length_nil, List.all_cons, List.all_nil, List.any_cons, List.any_nil, Bool.and_true, Bool.true_and, Bool.and_false, Bool.false_and, Bool.or_true, Bool.true_or, Bool.or_false, Bool.false_or, Bool.not_true, Bool.not_false, List.append_nil, List.nil_append, List.cons_append, List.flatMap_cons, List.flatMap_nil, List.contains_cons, List.contains_nil, List.filter_cons, List.filter_nil, beq_self_eq_true, Bool.not_eq_true, A0.b.injEq, A0.i.injEq, A0.s.injEq, A0.rw.injEq, A0.fn.injEq, List.cons.injEq, RC.ints.injEq, RC.recs.injEq, RC.bools.injEq, RC.mp.injEq, RC.grp.injEq, RC.rows.injEq, RC.wd.injEq, RC.bx.injEq, RC.clo.injEq, MC.ints.injEq, MC.bools.injEq, AV.one.injEq, AV.tup.injEq, ble_dec, blt_dec, Nat.reduceLeDiff, Nat.reduceSub, decide_true, decide_false, and_self, List.toList_toArray, Option.isSome_some, Option.isSome_none, List.elem_nil, List.elem_cons, ite_true, ite_false, Bool.false_eq_true, if_true, if_false, reduceIte, flatB_2, flatB_3, flatB_4, List.headD_cons, List.tail_cons, cPoints, fPoints, fp_length]
  rw [bif_prop]
  refine ⟨fun hc => ?_, fun hc => ?_⟩
  · have hle := of_decide_eq_true hc
    have hw : wrap64 (m + 1) = m + 1 := wrap_id (by omega) (by omega)
    rw [thL.eq_def, dif_pos hle] at h3
    refine ⟨hv.vd ⟨h1, by omega⟩, by rw [List.length_append, List.length_singleton]; omega, hJ _ (acc ++ [((ptI (A, B, C) m).length : Int)], m + 1) [(10, 22)] ⟨by simp only; omega, by simp only; omega, ?_⟩ (by simp only; omega) (by simp only [Cov, covOk, covFr, covMem, entEq, rn, nodupB, A0.ren, AV.ren, Entry.ren, Entry.norm, look, rem, St.eval, cst, hA, finD, St.drop, vwAt, Entry.vwO, RC.vwO, dropAt, A0.dr, AV.dr, noneNames, viewS, viewV, viewTo, A0.vwT, AV.vwT, viewOk, viewEn, St.res, toOf, Entry.toO, mvTo, A0.mv, AV.mv, A0.mv1, AV.mv1, allHs, AV.hs, A0.hs, Entry.hs, A0.norm, AV.norm, RC.len, RC.flat, setAt, RC.elem, RC.sz, compOf, initFr, Option.getD_some, Option.getD_none, cond_true, cond_false, Nat.reduceBEq, List.map_cons, List.map_nil, List.set_cons_zero, List.set_cons_succ, List.getElem?_cons_zero, List.getElem?_cons_succ, List.drop_zero, List.drop_succ_cons, List.take_succ_cons, List.take_zero, Option.map_some, Option.map_none, Option.bind_some, Nat.zero_add, Nat.add_zero, Nat.reduceAdd, Nat.reduceMul, true_and, and_true, List.replicate_succ, List.replicate_zero, List.length_cons, List.length_nil, List.all_cons, List.all_nil, List.any_cons, List.any_nil, Bool.and_true, Bool.true_and, Bool.and_false, Bool.false_and, Bool.or_true, Bool.true_or, Bool.or_false, Bool.false_or, Bool.not_true, Bool.not_false, List.append_nil, List.nil_append, List.cons_append, List.flatMap_cons, List.flatMap_nil, List.contains_cons, List.contains_nil, List.filter_cons, List.filter_nil, beq_self_eq_true, Bool.not_eq_true, A0.b.injEq, A0.i.injEq, A0.s.injEq, A0.rw.injEq, A0.fn.injEq, List.cons.injEq, RC.ints.injEq, RC.recs.injEq, RC.bools.injEq, RC.mp.injEq, RC.grp.injEq, RC.rows.injEq, RC.wd.injEq, RC.bx.injEq, RC.clo.injEq, MC.ints.injEq, MC.bools.injEq, AV.one.injEq, AV.tup.injEq, ble_dec, blt_dec, Nat.reduceLeDiff, Nat.reduceSub, decide_true, decide_false, and_self, List.toList_toArray, Option.isSome_some, Option.isSome_none, List.elem_nil, List.elem_cons, ite_true, ite_false, Bool.false_eq_true, if_true, if_false, reduceIte, flatB_2, flatB_3, flatB_4, List.headD_cons, List.tail_cons, hw])⟩
    simp only
    rw [List.append_assoc]; exact h3
  · rw [thL.eq_def, dif_neg (of_decide_eq_false hc), List.append_nil] at h3
    rw [h3]

/-! ### the reference's walk through the box -/
def pts4 (x y : Int) : List P2 := [(x, y)] ++ ((if x = 0 then [] else [(-x, y)]) ++ ((if y = 0 then [] else [(x, -y)]) ++ (if x = 0 ∨ y = 0 then [] else [(-x, -y)])))
theorem mem_pts4 {x y : Int} {p : P2} : p ∈ pts4 x y ↔ (p.1 = x ∨ p.1 = -x) ∧ (p.2 = y ∨ p.2 = -y) := by
  obtain ⟨u, v⟩ := p
  unfold pts4
  by_cases hx : x = 0 <;> by_cases hy : y = 0 <;> simp [hx, hy, Prod.ext_iff] <;> omega
theorem nodup_pts4 (x y : Int) : (pts4 x y).Nodup := by
  unfold pts4
  by_cases hx : x = 0 <;> by_cases hy : y = 0 <;> simp [hx, hy, Prod.ext_iff] <;> omega
/-- how often the values 0 to n occur -/
def cntV (f : F3) (n : Nat) (S : List P2) : List Int := (List.range (n + 1)).map fun m : Nat => (((S.filter fun p => vl f p.1 p.2 == (m : Int)).length : Nat) : Int)
theorem cntV_get (f : F3) (n : Nat) (S : List P2) {m : Nat} (h : m ≤ n) : (cntV f n S).getD m 0 = (((S.filter fun p => vl f p.1 p.2 == (m : Int)).length : Nat) : Int) := by
  simp [cntV, List.getD_eq_getElem?_getD, show m < n + 1 by omega]
theorem cntV_miss {f : F3} {n : Nat} {S : List P2} {p : P2} (h : (n : Int) < vl f p.1 p.2) : cntV f n (S ++ [p]) = cntV f n S := by
  unfold cntV
  apply List.map_congr_left
  intro m hm
  rw [List.mem_range] at hm
  have : (vl f p.1 p.2 == (m : Int)) = false := by rw [beq_eq_false_iff_ne]; omega
  simp [List.filter_append, this]
theorem cntV_hit {f : F3} {n : Nat} {S : List P2} {p : P2} {m : Nat} (h : vl f p.1 p.2 = (m : Int)) (hm : m ≤ n) : cntV f n (S ++ [p]) = (cntV f n S).set m ((cntV f n S).getD m 0 + 1) := by
  rw [cntV_get f n S hm]
  apply List.ext_getElem
  · simp [cntV]
  · intro i h1 h2
    rw [List.getElem_set]
    by_cases hi : m = i
    · subst hi
      simp [cntV, List.filter_append, h]
    · rw [if_neg hi]
      have : (vl f p.1 p.2 == (i : Int)) = false := by rw [beq_eq_false_iff_ne]; omega
      simp [cntV, List.filter_append, this]
theorem cntV_len (f : F3) (n : Nat) (S : List P2) : (cntV f n S).length = n + 1 := by simp [cntV]
theorem sq_stop {C y N : Int} (h : 0 < C ∧ 0 ≤ y ∧ C * y * y ≤ N) : y ≤ N := by
  obtain ⟨h1, h2, h3⟩ := h
  have h4 : 1 * y ≤ C * y := Int.mul_le_mul_of_nonneg_right (by omega) h2
  by_cases h5 : y = 0
  · subst h5
    simp at h3
    exact h3
  · have h6 : C * y * 1 ≤ C * y * y := Int.mul_le_mul_of_nonneg_left (by omega) (by omega)
    omega
def colL (C N x y : Int) : List P2 := if _h : 0 < C ∧ 0 ≤ y ∧ C * y * y ≤ N then pts4 x y ++ colL C N x (y + 1) else []
  termination_by (N + 1 - y).toNat
  decreasing_by
    have := sq_stop _h
    omega
def boxL (A C N x : Int) : List P2 := if _h : 0 < A ∧ 0 ≤ x ∧ A * x * x ≤ N then colL C N x 0 ++ boxL A C N (x + 1) else []
  termination_by (N + 1 - x).toNat
  decreasing_by
    have := sq_stop _h
    omega
theorem sq_mono {C j k : Int} (hC : 0 < C) (h0 : 0 ≤ j) (h : j ≤ k) : C * j * j ≤ C * k * k := by
  have h1 : C * j ≤ C * k := Int.mul_le_mul_of_nonneg_left h (by omega)
  have h2 : 0 ≤ C * k := Int.mul_nonneg (by omega) (by omega)
  exact Int.mul_le_mul h1 h h0 h2
theorem mem_colL {C N x y : Int} (hC : 0 < C) (hy : 0 ≤ y) {p : P2} : p ∈ colL C N x y ↔ (p.1 = x ∨ p.1 = -x) ∧ ∃ j, y ≤ j ∧ C * j * j ≤ N ∧ (p.2 = j ∨ p.2 = -j) := by
  fun_induction colL C N x y with
  | case1 y h ih =>
    rw [List.mem_append, mem_pts4, ih (by omega)]
    constructor
    · rintro (⟨h1, h2⟩ | ⟨h1, j, h2, h3, h4⟩)
      · exact ⟨h1, y, by omega, h.2.2, h2⟩
      · exact ⟨h1, j, by omega, h3, h4⟩
    · rintro ⟨h1, j, h2, h3, h4⟩
      by_cases h5 : j = y
      · exact Or.inl ⟨h1, by rw [← h5]; exact h4⟩
      · exact Or.inr ⟨h1, j, by omega, h3, h4⟩
  | case2 y h =>
    constructor
    · intro h1; simp at h1
    · rintro ⟨h1, j, h2, h3, h4⟩
      exact absurd ⟨hC, hy, Int.le_trans (sq_mono hC hy h2) h3⟩ h
theorem mem_boxL {A C N x : Int} (hA : 0 < A) (hC : 0 < C) (hx : 0 ≤ x) {p : P2} : p ∈ boxL A C N x ↔ (∃ i, x ≤ i ∧ A * i * i ≤ N ∧ (p.1 = i ∨ p.1 = -i)) ∧ ∃ j, 0 ≤ j ∧ C * j * j ≤ N ∧ (p.2 = j ∨ p.2 = -j) := by
  fun_induction boxL A C N x with
  | case1 x h ih =>
    rw [List.mem_append, mem_colL hC (by omega), ih (by omega)]
    constructor
    · rintro (⟨h1, h2⟩ | ⟨⟨i, h1, h3, h4⟩, h2⟩)
      · exact ⟨⟨x, by omega, h.2.2, h1⟩, h2⟩
      · exact ⟨⟨i, by omega, h3, h4⟩, h2⟩
    · rintro ⟨⟨i, h1, h3, h4⟩, h2⟩
      by_cases h5 : i = x
      · exact Or.inl ⟨by rw [← h5]; exact h4, h2⟩
      · exact Or.inr ⟨⟨i, by omega, h3, h4⟩, h2⟩
  | case2 x h =>
    constructor
    · intro h1; simp at h1
    · rintro ⟨⟨i, h1, h3, h4⟩, h2⟩
      exact absurd ⟨hA, hx, Int.le_trans (sq_mono hA hx h1) h3⟩ h
theorem nodup_colL {C N x y : Int} (hC : 0 < C) (hy : 0 ≤ y) : (colL C N x y).Nodup := by
  fun_induction colL C N x y with
  | case1 y h ih =>
    rw [List.nodup_append]
    refine ⟨nodup_pts4 x y, ih (by omega), ?_⟩
    rintro p hp q hq rfl
    have h1 := (mem_pts4.1 hp).2
    obtain ⟨_, j, h2, _, h3⟩ := (mem_colL hC (by omega)).1 hq
    omega
  | case2 y h => exact List.nodup_nil
theorem nodup_boxL {A C N x : Int} (hA : 0 < A) (hC : 0 < C) (hx : 0 ≤ x) : (boxL A C N x).Nodup := by
  fun_induction boxL A C N x with
  | case1 x h ih =>
    rw [List.nodup_append]
    refine ⟨nodup_colL hC (by omega), ih (by omega), ?_⟩
    rintro p hp q hq rfl
    have h1 := ((mem_colL hC (by omega)).1 hp).1
    obtain ⟨⟨i, h2, _, h3⟩, _⟩ := (mem_boxL hA hC (by omega)).1 hq
    omega
  | case2 x h => exact List.nodup_nil
/-- points whose value is m, in a list without doubles that holds them all: as many as another such list's -/
theorem count_eq {f : F3} {m : Int} {S T : List P2} (hS : S.Nodup) (hT : T.Nodup) (hm : ∀ p, vl f p.1 p.2 = m → p ∈ S) (ht : ∀ p, p ∈ T ↔ vl f p.1 p.2 = m) : (S.filter fun p => vl f p.1 p.2 == m).length = T.length := by
  apply List.Perm.length_eq
  rw [List.perm_ext_iff_of_nodup (hS.filter _) hT]
  intro p
  rw [List.mem_filter, ht, beq_iff_eq]
  exact ⟨fun h => h.2, fun h => ⟨hm p h, h⟩⟩
theorem sorted_nodup {l : List P2} (h : SortedP l) : l.Nodup := by
  unfold SortedP at h
  exact h.imp fun {p q} hpq => by
    rintro rfl
    rw [ltP_irr] at hpq
    exact absurd hpq (by simp)
/-- a reduced form is at least half of its ends -/
theorem two_vl_box {a b c x y : Int} (h1 : -a ≤ b ∧ b ≤ a) (h2 : a ≤ c) (h0 : 0 < a) : a * x * x + c * y * y ≤ 2 * vl (a, b, c) x y := by
  have e : 2 * vl (a, b, c) x y = 2 * a * x * x + 2 * b * x * y + 2 * c * y * y := by simp only [vl]; grind
  have k1 : 0 ≤ (a - b) * (x * x + y * y) := Int.mul_nonneg (by omega) (Int.add_nonneg (sq_nonneg x) (sq_nonneg y))
  have k2 : 0 ≤ (a + b) * ((x + y) * (x + y)) := Int.mul_nonneg (by omega) (sq_nonneg _)
  have k3 : 0 ≤ (a - b) * ((x - y) * (x - y)) := Int.mul_nonneg (by omega) (sq_nonneg _)
  have k4 : 0 ≤ (c - a) * (y * y) := Int.mul_nonneg (by omega) (sq_nonneg y)
  have key : 2 * (2 * a * x * x + 2 * b * x * y + 2 * c * y * y - (a * x * x + c * y * y)) = (a + b) * ((x + y) * (x + y)) + (a - b) * ((x - y) * (x - y)) + 2 * ((c - a) * (y * y)) := by grind
  rw [e]
  omega
theorem in_box {f : F3} {n x y : Int} (h1 : -f.1 ≤ f.2.1 ∧ f.2.1 ≤ f.1) (h2 : f.1 ≤ f.2.2) (h0 : 0 < f.1) (hv : vl f x y ≤ n) : (x, y) ∈ boxL f.1 f.2.2 (2 * n) 0 := by
  obtain ⟨a, b, c⟩ := f
  simp only at h1 h2 h0 ⊢
  have hb := two_vl_box (x := x) (y := y) h1 h2 h0
  have q1 : 0 ≤ a * x * x := by rw [Int.mul_assoc]; exact Int.mul_nonneg (by omega) (sq_nonneg x)
  have q2 : 0 ≤ c * y * y := by rw [Int.mul_assoc]; exact Int.mul_nonneg (by omega) (sq_nonneg y)
  rw [mem_boxL h0 (by omega) (by omega)]
  have e1 : a * (x.natAbs : Int) * (x.natAbs : Int) = a * x * x := by rw [Int.mul_assoc, Int.natAbs_mul_self', Int.mul_assoc]
  have e2 : c * (y.natAbs : Int) * (y.natAbs : Int) = c * y * y := by rw [Int.mul_assoc, Int.natAbs_mul_self', Int.mul_assoc]
  exact ⟨⟨x.natAbs, by omega, by rw [e1]; omega, by simp only; omega⟩, ⟨y.natAbs, by omega, by rw [e2]; omega, by simp only; omega⟩⟩
theorem cntV_eq {f : F3} {n : Nat} (hv : VF f) (hn : n ≤ 10000) (h1 : -f.1 ≤ f.2.1 ∧ f.2.1 ≤ f.1) (h2 : f.1 ≤ f.2.2) {m : Nat} (hm : 1 ≤ m ∧ m ≤ n) :
    (cntV f n (boxL f.1 f.2.2 (2 * n) 0)).getD m 0 = ((ptI f m).length : Int) := by
  rw [cntV_get f n _ hm.2]
  have ha : 0 < f.1 := hv.a0
  have hvd : Vd f m := hv.vd ⟨by omega, by omega⟩
  rw [count_eq (f := f) (m := (m : Int)) (T := ptI f m) (nodup_boxL ha (by omega) (by omega)) (sorted_nodup (ptI_sorted (by omega))) (fun p hp => in_box h1 h2 ha (by rw [hp]; omega)) fun p => mem_ptI hvd]
theorem thL_get {f : F3} {n m : Int} {i : Nat} (h : m + i ≤ n) : (thL f n m).getD i 0 = ((ptI f (m + i)).length : Int) := by
  induction i generalizing m with
  | zero =>
    rw [thL.eq_def, dif_pos (by omega)]
    simp
  | succ i ih =>
    rw [thL.eq_def, dif_pos (by omega), List.getD_cons_succ, ih (by omega)]
    have e : m + 1 + (i : Int) = m + ((i + 1 : Nat) : Int) := by omega
    rw [e]
theorem vl_pos0 {f : F3} (h1 : -f.1 ≤ f.2.1 ∧ f.2.1 ≤ f.1) (h2 : f.1 ≤ f.2.2) (h0 : 0 < f.1) {p : P2} : vl f p.1 p.2 = 0 ↔ p = (0, 0) := by
  obtain ⟨a, b, c⟩ := f
  obtain ⟨x, y⟩ := p
  simp only at h1 h2 h0 ⊢
  constructor
  · intro h
    have hb := two_vl_box (x := x) (y := y) h1 h2 h0
    rw [h, Int.mul_assoc, Int.mul_assoc] at hb
    have q1 := Int.mul_nonneg (show 0 ≤ a by omega) (sq_nonneg x)
    have q2 := Int.mul_nonneg (show 0 ≤ c by omega) (sq_nonneg y)
    have r1 : a * (x * x) = 0 := by omega
    have r2 : c * (y * y) = 0 := by omega
    have s1 : x = 0 := by
      rcases Int.mul_eq_zero.1 r1 with h | h
      · omega
      · rcases Int.mul_eq_zero.1 h with h | h <;> exact h
    have s2 : y = 0 := by
      rcases Int.mul_eq_zero.1 r2 with h | h
      · omega
      · rcases Int.mul_eq_zero.1 h with h | h <;> exact h
    rw [s1, s2]
  · intro h
    rw [Prod.mk.injEq] at h
    rw [h.1, h.2]
    simp [vl]
theorem get_dD {l : List Int} {i : Nat} (h : i < l.length) : l.getD i 0 = l[i] := by simp [List.getD_eq_getElem?_getD, h]
theorem cntV_theta {f : F3} {n : Nat} (hv : VF f) (hn : n ≤ 10000) (h1 : -f.1 ≤ f.2.1 ∧ f.2.1 ≤ f.1) (h2 : f.1 ≤ f.2.2) :
    cntV f n (boxL f.1 f.2.2 (2 * n) 0) = 1 :: thL f n 1 := by
  have ha : 0 < f.1 := hv.a0
  have hl : (1 :: thL f n 1).length = n + 1 := by rw [List.length_cons, thL_len]; omega
  apply List.ext_getElem
  · rw [cntV_len, hl]
  · intro i g1 g2
    rw [cntV_len] at g1
    rw [← get_dD, ← get_dD]
    cases i with
    | zero =>
      rw [cntV_get f n _ (by omega), count_eq (f := f) (m := ((0 : Nat) : Int)) (T := [(0, 0)]) (nodup_boxL ha (by omega) (by omega)) (by simp) (fun p hp => in_box h1 h2 ha (by rw [hp]; omega)) fun p => by
        rw [List.mem_singleton]; exact (vl_pos0 h1 h2 ha).symm]
      rfl
    | succ i =>
      rw [cntV_eq hv hn h1 h2 ⟨by omega, by omega⟩, List.getD_cons_succ, thL_get (by omega)]
      have e : ((i + 1 : Nat) : Int) = 1 + (i : Int) := by omega
      rw [e]
end Go.Proofs.Ythcnaeahmdapbac
