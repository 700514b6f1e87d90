/-
  Contracts of the sublattice forms and classes of a prime index, and of neighbours, on both sides, and of their laws. Conditions: none.
-/
import Derived.Test.YtbhkndaejmnmkaaGea
import Derived.Test.YtbhkndaejmnmkaaLst4
import Derived.Test.YtbhkndaejmnmkaaPrm
namespace Go.Proofs.Ytbhkndaejmnmkaa
open Go Go.RowKit
set_option maxRecDepth 100000
set_option linter.unusedSimpArgs false
set_option linter.unusedVariables false
set_option maxHeartbeats 4000000

def idxB (p : Int) : Bool := decide (p ≤ 43) && primeI p
theorem idx_in {p : Int} (h : idxB p = true) : 2 ≤ p ∧ p ≤ 43 := by
  simp only [idxB, Bool.and_eq_true, decide_eq_true_eq] at h
  exact ⟨primeI_ge h.2, h.1⟩
abbrev fIsIndex : Nat := 96
def cIsIndex : Ctr
  | [.i p] => some ⟨True, .one (.b (idxB p)), []⟩
  | _ => none
theorem okIsIndex : CtrOk Try.prog fIsIndex cIsIndex := by
  have hsp : SpecOk Try.prog (specOf [(fIsPrime0, cIsPrime0)]) := (SpecOk.cons okIsPrime0 SpecOk.nil)
  refine ctr_of (fn := Try.f96) mixed tab_ok hsp Try.func96 (by kernel_rfl) (by kernel_rfl) fun args ce h => ?_
  clear hsp
  unfold cIsIndex at h
  split at h
  case h_2 => cases h
  rename_i p
  simp only [Option.some.injEq] at h
  subst h
  refine ⟨by rfl, fun hp => ⟨0, 1000, ?_⟩⟩
  simp only [vc, out, step, stepE, stepPick, stepG, stepO, stepC, eff, look, rem, St.put, St.setMem, setMems, St.after, St.eval, cst, setAt, val1, okNew, newHs, allHs, rdOf, outHs, Reg.item, Reg.next, Reg.skip, slotOf, effBox, effAlloc, entryRow, fieldOff, effField, loadI, load1, loadR, effLoad, storeI, storeB, storeR, szOk, storeTo, effStore, buildOf, effBuild, binInt, eqI, boolOf, binBool, effBin, effUn, effPick, effExtract, ivs, svs, rowOf, allParts, effBuildSlice, zeroRow, effMakeSlice, elemSz, idxA, idxS, effIndex, lenOf, readOf, subPre, maxRow, plainTI, appTo, effAppend, slcOf, effSlice, argOf, resA, resL, resV, outWr, nodupB, restOk, argsPre, argOk, callWr, effCall, effMax, wrHs, disj, AV.hs, A0.hs, Entry.hs, RC.elem, RC.sz, RC.len, RC.slice, RC.app, hA, initFr, initMem, initSt, resOf, resAll, compEq, compsEq, rowHs, outHds, outsEq, shapeOk, finOk, comps, A0.norm, AV.norm, specOf, t_int, t_bool, t_implForm, t_lawsForm, t_implMatrix, t_implPoint, t_implTriple, t_implSpot, t_implunited, ts_int, ts_implForm, ts_implSpot, ts_implPoint, ts_implMatrix, Option.getD_some, Option.getD_none, cond_true, cond_false, Nat.reduceBEq, List.map_cons, List.map_nil, List.set_cons_zero, List.set_cons_succ, List.getElem?_cons_zero, List.getElem?_cons_succ, List.drop_zero, List.drop_succ_cons, List.take_succ_cons, List.take_zero, Option.map_some, Option.map_none, Option.bind_some, Nat.zero_add, Nat.add_zero, Nat.reduceAdd, Nat.reduceMul, true_and, and_true, List.replicate_succ, List.replicate_zero, List.length_cons, List.length_nil, List.all_cons, List.all_nil, List.any_cons, List.any_nil, Bool.and_true, Bool.true_and, Bool.and_false, Bool.false_and, Bool.or_true, Bool.true_or, Bool.or_false, Bool.false_or, Bool.not_true, Bool.not_false, List.append_nil, List.nil_append, List.cons_append, List.flatMap_cons, List.flatMap_nil, List.contains_cons, List.contains_nil, List.filter_cons, List.filter_nil, beq_self_eq_true, Bool.not_eq_true, A0.b.injEq, A0.i.injEq, A0.s.injEq, A0.rw.injEq, A0.fn.injEq, List.cons.injEq, RC.ints.injEq, RC.recs.injEq, RC.bools.injEq, AV.one.injEq, AV.tup.injEq, ble_dec, blt_dec, Nat.reduceLeDiff, Nat.reduceSub, decide_true, decide_false, and_self, List.toList_toArray, Option.isSome_some, Option.isSome_none, List.elem_nil, List.elem_cons, ite_true, ite_false, Bool.false_eq_true, if_true, if_false, reduceIte, flatB_2, flatB_3, flatB_4, List.headD_cons, List.tail_cons, cIsPrime0, fIsPrime0, Try.f96]
  unfold idxB
  cases h : decide (p ≤ 43) with
  | false => rfl
  | true => exact ⟨by have := of_decide_eq_true h; omega, rfl⟩
abbrev fHkPrime : Nat := 59
def cHkPrime : Ctr
  | [.i p] => some ⟨True, .one (.b (idxB p)), []⟩
  | _ => none
theorem okHkPrime : CtrOk Try.prog fHkPrime cHkPrime := by
  have hsp : SpecOk Try.prog (specOf [(fIn, cIn), (fNuPrime, cNuPrime)]) := (SpecOk.cons okIn (SpecOk.cons okNuPrime SpecOk.nil))
  refine ctr_of (fn := Try.f59) mixed tab_ok hsp Try.func59 (by kernel_rfl) (by kernel_rfl) fun args ce h => ?_
  clear hsp
  unfold cHkPrime at h
  split at h
  case h_2 => cases h
  rename_i p
  simp only [Option.some.injEq] at h
  subst h
  refine ⟨by rfl, fun hp => ⟨0, 1000, ?_⟩⟩
  simp only [vc, out, step, stepE, stepPick, stepG, stepO, stepC, eff, look, rem, St.put, St.setMem, setMems, St.after, St.eval, cst, setAt, val1, okNew, newHs, allHs, rdOf, outHs, Reg.item, Reg.next, Reg.skip, slotOf, effBox, effAlloc, entryRow, fieldOff, effField, loadI, load1, loadR, effLoad, storeI, storeB, storeR, szOk, storeTo, effStore, buildOf, effBuild, binInt, eqI, boolOf, binBool, effBin, effUn, effPick, effExtract, ivs, svs, rowOf, allParts, effBuildSlice, zeroRow, effMakeSlice, elemSz, idxA, idxS, effIndex, lenOf, readOf, subPre, maxRow, plainTI, appTo, effAppend, slcOf, effSlice, argOf, resA, resL, resV, outWr, nodupB, restOk, argsPre, argOk, callWr, effCall, effMax, wrHs, disj, AV.hs, A0.hs, Entry.hs, RC.elem, RC.sz, RC.len, RC.slice, RC.app, hA, initFr, initMem, initSt, resOf, resAll, compEq, compsEq, rowHs, outHds, outsEq, shapeOk, finOk, comps, A0.norm, AV.norm, specOf, t_int, t_bool, t_implForm, t_lawsForm, t_implMatrix, t_implPoint, t_implTriple, t_implSpot, t_implunited, ts_int, ts_implForm, ts_implSpot, ts_implPoint, ts_implMatrix, Option.getD_some, Option.getD_none, cond_true, cond_false, Nat.reduceBEq, List.map_cons, List.map_nil, List.set_cons_zero, List.set_cons_succ, List.getElem?_cons_zero, List.getElem?_cons_succ, List.drop_zero, List.drop_succ_cons, List.take_succ_cons, List.take_zero, Option.map_some, Option.map_none, Option.bind_some, Nat.zero_add, Nat.add_zero, Nat.reduceAdd, Nat.reduceMul, true_and, and_true, List.replicate_succ, List.replicate_zero, List.length_cons, List.length_nil, List.all_cons, List.all_nil, List.any_cons, List.any_nil, Bool.and_true, Bool.true_and, Bool.and_false, Bool.false_and, Bool.or_true, Bool.true_or, Bool.or_false, Bool.false_or, Bool.not_true, Bool.not_false, List.append_nil, List.nil_append, List.cons_append, List.flatMap_cons, List.flatMap_nil, List.contains_cons, List.contains_nil, List.filter_cons, List.filter_nil, beq_self_eq_true, Bool.not_eq_true, A0.b.injEq, A0.i.injEq, A0.s.injEq, A0.rw.injEq, A0.fn.injEq, List.cons.injEq, RC.ints.injEq, RC.recs.injEq, RC.bools.injEq, AV.one.injEq, AV.tup.injEq, ble_dec, blt_dec, Nat.reduceLeDiff, Nat.reduceSub, decide_true, decide_false, and_self, List.toList_toArray, Option.isSome_some, Option.isSome_none, List.elem_nil, List.elem_cons, ite_true, ite_false, Bool.false_eq_true, if_true, if_false, reduceIte, flatB_2, flatB_3, flatB_4, List.headD_cons, List.tail_cons, cIn, fIn, cNuPrime, fNuPrime, Try.f59]
  unfold idxB inI
  cases h : decide (p ≤ 43) with
  | false => rw [Bool.and_false]; rfl
  | true =>
    cases h2 : decide (p ≥ 2) with
    | false =>
      have : primeI p = false := by
        have h3 : decide (2 ≤ p) = false := h2
        unfold primeI
        rw [h3]; rfl
      rw [this]; rfl
    | true => exact ⟨by have := of_decide_eq_true h; omega, rfl⟩
/-- the matrices of an index: those before the last one, from k on -/
def smK (p k : Int) : List M4 := if _h : k < p then (1, 0, k, p) :: smK p (k + 1) else [(p, 0, 0, 1)]
  termination_by (p - k).toNat
  decreasing_by omega
def smL (p : Int) : List M4 := smK p 0
theorem smK_len (p k : Int) : (smK p k).length = (p - k).toNat + 1 := by
  fun_induction smK p k with
  | case1 k h ih => rw [List.length_cons, ih]; omega
  | case2 k h => simp; omega
theorem mem_smK {p : Int} {m : M4} (k : Int) (hk : 0 ≤ k) (h : m ∈ smK p k) : (m.1 = 1 ∧ m.2.1 = 0 ∧ (0 ≤ m.2.2.1 ∧ m.2.2.1 < p) ∧ m.2.2.2 = p) ∨ m = (p, 0, 0, 1) := by
  fun_induction smK p k with
  | case1 k hc ih =>
    simp only [List.mem_cons] at h
    rcases h with rfl | h
    · exact .inl ⟨rfl, rfl, ⟨hk, hc⟩, rfl⟩
    · exact ih (by omega) h
  | case2 k hc => right; simpa using h
theorem fm_snoc4 (L : List M4) (a b c d : Int) : fm L ++ [[a, b, c, d]] = fm (L ++ [(a, b, c, d)]) := fm_snoc L (a, b, c, d)
abbrev fIndexM : Nat := 176
def cIndexM : Ctr
  | [.i p] => some ⟨2 ≤ p ∧ p ≤ 43, .one (.rw (.recs 115 4 (fm (smL p)))), []⟩
  | _ => none
theorem okIndexM : CtrOk Try.prog fIndexM cIndexM := by
  have hsp : SpecOk Try.prog (specOf []) := SpecOk.nil
  refine ctr_of (fn := Try.f176) mixed tab_ok hsp Try.func176 (by kernel_rfl) (by kernel_rfl) fun args ce h => ?_
  clear hsp
  unfold cIndexM at h
  split at h
  case h_2 => cases h
  rename_i p
  simp only [Option.some.injEq] at h
  subst h
  refine ⟨by rfl, fun hp => ⟨1, 1000, ?_⟩⟩
  simp only [vc, out, step, stepE, stepPick, stepG, stepO, stepC, eff, look, rem, St.put, St.setMem, setMems, St.after, St.eval, cst, setAt, val1, okNew, newHs, allHs, rdOf, outHs, Reg.item, Reg.next, Reg.skip, slotOf, effBox, effAlloc, entryRow, fieldOff, effField, loadI, load1, loadR, effLoad, storeI, storeB, storeR, szOk, storeTo, effStore, buildOf, effBuild, binInt, eqI, boolOf, binBool, effBin, effUn, effPick, effExtract, ivs, svs, rowOf, allParts, effBuildSlice, zeroRow, effMakeSlice, elemSz, idxA, idxS, effIndex, lenOf, readOf, subPre, maxRow, plainTI, appTo, effAppend, slcOf, effSlice, argOf, resA, resL, resV, outWr, nodupB, restOk, argsPre, argOk, callWr, effCall, effMax, wrHs, disj, AV.hs, A0.hs, Entry.hs, RC.elem, RC.sz, RC.len, RC.slice, RC.app, hA, initFr, initMem, initSt, resOf, resAll, compEq, compsEq, rowHs, outHds, outsEq, shapeOk, finOk, comps, A0.norm, AV.norm, specOf, t_int, t_bool, t_implForm, t_lawsForm, t_implMatrix, t_implPoint, t_implTriple, t_implSpot, t_implunited, ts_int, ts_implForm, ts_implSpot, ts_implPoint, ts_implMatrix, Option.getD_some, Option.getD_none, cond_true, cond_false, Nat.reduceBEq, List.map_cons, List.map_nil, List.set_cons_zero, List.set_cons_succ, List.getElem?_cons_zero, List.getElem?_cons_succ, List.drop_zero, List.drop_succ_cons, List.take_succ_cons, List.take_zero, Option.map_some, Option.map_none, Option.bind_some, Nat.zero_add, Nat.add_zero, Nat.reduceAdd, Nat.reduceMul, true_and, and_true, List.replicate_succ, List.replicate_zero, List.length_cons, List.length_nil, List.all_cons, List.all_nil, List.any_cons, List.any_nil, Bool.and_true, Bool.true_and, Bool.and_false, Bool.false_and, Bool.or_true, Bool.true_or, Bool.or_false, Bool.false_or, Bool.not_true, Bool.not_false, List.append_nil, List.nil_append, List.cons_append, List.flatMap_cons, List.flatMap_nil, List.contains_cons, List.contains_nil, List.filter_cons, List.filter_nil, beq_self_eq_true, Bool.not_eq_true, A0.b.injEq, A0.i.injEq, A0.s.injEq, A0.rw.injEq, A0.fn.injEq, List.cons.injEq, RC.ints.injEq, RC.recs.injEq, RC.bools.injEq, AV.one.injEq, AV.tup.injEq, ble_dec, blt_dec, Nat.reduceLeDiff, Nat.reduceSub, decide_true, decide_false, and_self, List.toList_toArray, Option.isSome_some, Option.isSome_none, List.elem_nil, List.elem_cons, ite_true, ite_false, Bool.false_eq_true, if_true, if_false, reduceIte, flatB_2, flatB_3, flatB_4, List.headD_cons, List.tail_cons, Try.f176]
  obtain ⟨h0, h1⟩ : 2 ≤ p ∧ p ≤ 43 := hp
  refine lp_intro (fun x : List M4 × Int => ⟨[(0, .one (.i p)), (3, .one (.row 5)), (4, .one (.i x.2))], [(5, .row (.recs 115 4 (fm x.1)))]⟩)
    (fun x => 0 ≤ x.2 ∧ x.2 ≤ p ∧ x.1.length ≤ x.2.toNat ∧ x.1 ++ smK p x.2 = smL p) (fun x => (p - x.2).toNat) ([], 0) [] ⟨by omega, by omega, by simp, rfl⟩ (by simp only [Cov, covOk, covFr, covMem, entEq, rn, nodupB, A0.ren, AV.ren, Entry.ren, Entry.norm, vc, out, step, stepE, stepPick, stepG, stepO, stepC, eff, look, rem, St.put, St.setMem, setMems, St.after, St.eval, cst, setAt, val1, okNew, newHs, allHs, rdOf, outHs, Reg.item, Reg.next, Reg.skip, slotOf, effBox, effAlloc, entryRow, fieldOff, effField, loadI, load1, loadR, effLoad, storeI, storeB, storeR, szOk, storeTo, effStore, buildOf, effBuild, binInt, eqI, boolOf, binBool, effBin, effUn, effPick, effExtract, ivs, svs, rowOf, allParts, effBuildSlice, zeroRow, effMakeSlice, elemSz, idxA, idxS, effIndex, lenOf, readOf, subPre, maxRow, plainTI, appTo, effAppend, slcOf, effSlice, argOf, resA, resL, resV, outWr, nodupB, restOk, argsPre, argOk, callWr, effCall, effMax, wrHs, disj, AV.hs, A0.hs, Entry.hs, RC.elem, RC.sz, RC.len, RC.slice, RC.app, hA, initFr, initMem, initSt, resOf, resAll, compEq, compsEq, rowHs, outHds, outsEq, shapeOk, finOk, comps, A0.norm, AV.norm, specOf, t_int, t_bool, t_implForm, t_lawsForm, t_implMatrix, t_implPoint, t_implTriple, t_implSpot, t_implunited, ts_int, ts_implForm, ts_implSpot, ts_implPoint, ts_implMatrix, Option.getD_some, Option.getD_none, cond_true, cond_false, Nat.reduceBEq, List.map_cons, List.map_nil, List.set_cons_zero, List.set_cons_succ, List.getElem?_cons_zero, List.getElem?_cons_succ, List.drop_zero, List.drop_succ_cons, List.take_succ_cons, List.take_zero, Option.map_some, Option.map_none, Option.bind_some, Nat.zero_add, Nat.add_zero, Nat.reduceAdd, Nat.reduceMul, true_and, and_true, List.replicate_succ, List.replicate_zero, List.length_cons, List.length_nil, List.all_cons, List.all_nil, List.any_cons, List.any_nil, Bool.and_true, Bool.true_and, Bool.and_false, Bool.false_and, Bool.or_true, Bool.true_or, Bool.or_false, Bool.false_or, Bool.not_true, Bool.not_false, List.append_nil, List.nil_append, List.cons_append, List.flatMap_cons, List.flatMap_nil, List.contains_cons, List.contains_nil, List.filter_cons, List.filter_nil, beq_self_eq_true, Bool.not_eq_true, A0.b.injEq, A0.i.injEq, A0.s.injEq, A0.rw.injEq, A0.fn.injEq, List.cons.injEq, RC.ints.injEq, RC.recs.injEq, RC.bools.injEq, AV.one.injEq, AV.tup.injEq, ble_dec, blt_dec, Nat.reduceLeDiff, Nat.reduceSub, decide_true, decide_false, and_self, List.toList_toArray, Option.isSome_some, Option.isSome_none, List.elem_nil, List.elem_cons, ite_true, ite_false, Bool.false_eq_true, if_true, if_false, reduceIte, flatB_2, flatB_3, flatB_4, List.headD_cons, List.tail_cons, fm_nil]) fun x hx J hJ => ⟨1000, ?_⟩
  obtain ⟨acc, k⟩ := x
  obtain ⟨h2, h3, h4, h5⟩ := hx
  simp only at h2 h3 h4 h5 hJ
  simp only [vc, out, step, stepE, stepPick, stepG, stepO, stepC, eff, look, rem, St.put, St.setMem, setMems, St.after, St.eval, cst, setAt, val1, okNew, newHs, allHs, rdOf, outHs, Reg.item, Reg.next, Reg.skip, slotOf, effBox, effAlloc, entryRow, fieldOff, effField, loadI, load1, loadR, effLoad, storeI, storeB, storeR, szOk, storeTo, effStore, buildOf, effBuild, binInt, eqI, boolOf, binBool, effBin, effUn, effPick, effExtract, ivs, svs, rowOf, allParts, effBuildSlice, zeroRow, effMakeSlice, elemSz, idxA, idxS, effIndex, lenOf, readOf, subPre, maxRow, plainTI, appTo, effAppend, slcOf, effSlice, argOf, resA, resL, resV, outWr, nodupB, restOk, argsPre, argOk, callWr, effCall, effMax, wrHs, disj, AV.hs, A0.hs, Entry.hs, RC.elem, RC.sz, RC.len, RC.slice, RC.app, hA, initFr, initMem, initSt, resOf, resAll, compEq, compsEq, rowHs, outHds, outsEq, shapeOk, finOk, comps, A0.norm, AV.norm, specOf, t_int, t_bool, t_implForm, t_lawsForm, t_implMatrix, t_implPoint, t_implTriple, t_implSpot, t_implunited, ts_int, ts_implForm, ts_implSpot, ts_implPoint, ts_implMatrix, Option.getD_some, Option.getD_none, cond_true, cond_false, Nat.reduceBEq, List.map_cons, List.map_nil, List.set_cons_zero, List.set_cons_succ, List.getElem?_cons_zero, List.getElem?_cons_succ, List.drop_zero, List.drop_succ_cons, List.take_succ_cons, List.take_zero, Option.map_some, Option.map_none, Option.bind_some, Nat.zero_add, Nat.add_zero, Nat.reduceAdd, Nat.reduceMul, true_and, and_true, List.replicate_succ, List.replicate_zero, List.length_cons, List.length_nil, List.all_cons, List.all_nil, List.any_cons, List.any_nil, Bool.and_true, Bool.true_and, Bool.and_false, Bool.false_and, Bool.or_true, Bool.true_or, Bool.or_false, Bool.false_or, Bool.not_true, Bool.not_false, List.append_nil, List.nil_append, List.cons_append, List.flatMap_cons, List.flatMap_nil, List.contains_cons, List.contains_nil, List.filter_cons, List.filter_nil, beq_self_eq_true, Bool.not_eq_true, A0.b.injEq, A0.i.injEq, A0.s.injEq, A0.rw.injEq, A0.fn.injEq, List.cons.injEq, RC.ints.injEq, RC.recs.injEq, RC.bools.injEq, AV.one.injEq, AV.tup.injEq, ble_dec, blt_dec, Nat.reduceLeDiff, Nat.reduceSub, decide_true, decide_false, and_self, List.toList_toArray, Option.isSome_some, Option.isSome_none, List.elem_nil, List.elem_cons, ite_true, ite_false, Bool.false_eq_true, if_true, if_false, reduceIte, flatB_2, flatB_3, flatB_4, List.headD_cons, List.tail_cons, fm_snoc4, fm_length]
  rw [smK.eq_def] at h5
  rw [bif_prop]
  refine ⟨fun hc => ⟨by rw [List.length_append, List.length_singleton]; omega, hJ _ (acc ++ [(1, 0, k, p)], k + 1) [(5, 16)] ⟨by simp only; omega, by have := of_decide_eq_true hc; simp only; omega, by rw [List.length_append, List.length_singleton]; simp only; omega, by rw [dif_pos (of_decide_eq_true hc)] at h5; simpa using h5⟩ (by have := of_decide_eq_true hc; simp only; omega) (by simp only [Cov, covOk, covFr, covMem, entEq, rn, nodupB, A0.ren, AV.ren, Entry.ren, Entry.norm, vc, out, step, stepE, stepPick, stepG, stepO, stepC, eff, look, rem, St.put, St.setMem, setMems, St.after, St.eval, cst, setAt, val1, okNew, newHs, allHs, rdOf, outHs, Reg.item, Reg.next, Reg.skip, slotOf, effBox, effAlloc, entryRow, fieldOff, effField, loadI, load1, loadR, effLoad, storeI, storeB, storeR, szOk, storeTo, effStore, buildOf, effBuild, binInt, eqI, boolOf, binBool, effBin, effUn, effPick, effExtract, ivs, svs, rowOf, allParts, effBuildSlice, zeroRow, effMakeSlice, elemSz, idxA, idxS, effIndex, lenOf, readOf, subPre, maxRow, plainTI, appTo, effAppend, slcOf, effSlice, argOf, resA, resL, resV, outWr, nodupB, restOk, argsPre, argOk, callWr, effCall, effMax, wrHs, disj, AV.hs, A0.hs, Entry.hs, RC.elem, RC.sz, RC.len, RC.slice, RC.app, hA, initFr, initMem, initSt, resOf, resAll, compEq, compsEq, rowHs, outHds, outsEq, shapeOk, finOk, comps, A0.norm, AV.norm, specOf, t_int, t_bool, t_implForm, t_lawsForm, t_implMatrix, t_implPoint, t_implTriple, t_implSpot, t_implunited, ts_int, ts_implForm, ts_implSpot, ts_implPoint, ts_implMatrix, Option.getD_some, Option.getD_none, cond_true, cond_false, Nat.reduceBEq, List.map_cons, List.map_nil, List.set_cons_zero, List.set_cons_succ, List.getElem?_cons_zero, List.getElem?_cons_succ, List.drop_zero, List.drop_succ_cons, List.take_succ_cons, List.take_zero, Option.map_some, Option.map_none, Option.bind_some, Nat.zero_add, Nat.add_zero, Nat.reduceAdd, Nat.reduceMul, true_and, and_true, List.replicate_succ, List.replicate_zero, List.length_cons, List.length_nil, List.all_cons, List.all_nil, List.any_cons, List.any_nil, Bool.and_true, Bool.true_and, Bool.and_false, Bool.false_and, Bool.or_true, Bool.true_or, Bool.or_false, Bool.false_or, Bool.not_true, Bool.not_false, List.append_nil, List.nil_append, List.cons_append, List.flatMap_cons, List.flatMap_nil, List.contains_cons, List.contains_nil, List.filter_cons, List.filter_nil, beq_self_eq_true, Bool.not_eq_true, A0.b.injEq, A0.i.injEq, A0.s.injEq, A0.rw.injEq, A0.fn.injEq, List.cons.injEq, RC.ints.injEq, RC.recs.injEq, RC.bools.injEq, AV.one.injEq, AV.tup.injEq, ble_dec, blt_dec, Nat.reduceLeDiff, Nat.reduceSub, decide_true, decide_false, and_self, List.toList_toArray, Option.isSome_some, Option.isSome_none, List.elem_nil, List.elem_cons, ite_true, ite_false, Bool.false_eq_true, if_true, if_false, reduceIte, flatB_2, flatB_3, flatB_4, List.headD_cons, List.tail_cons, wrap_id (n := k + 1) (by omega) (by omega)])⟩, fun hc => ?_⟩
  rw [dif_neg (of_decide_eq_false hc)] at h5
  refine ⟨by rw [List.length_append, List.length_singleton]; omega, ?_⟩
  rw [h5]
abbrev fHkMat : Nat := 160
def cHkMat : Ctr
  | [.i p] => some ⟨2 ≤ p ∧ p ≤ 43, .one (.rw (.recs 115 4 (fm (smL p)))), []⟩
  | _ => none
theorem okHkMat : CtrOk Try.prog fHkMat cHkMat := by
  have hsp : SpecOk Try.prog (specOf []) := SpecOk.nil
  refine ctr_of (fn := Try.f160) mixed tab_ok hsp Try.func160 (by kernel_rfl) (by kernel_rfl) fun args ce h => ?_
  clear hsp
  unfold cHkMat at h
  split at h
  case h_2 => cases h
  rename_i p
  simp only [Option.some.injEq] at h
  subst h
  refine ⟨by rfl, fun hp => ⟨1, 1000, ?_⟩⟩
  simp only [vc, out, step, stepE, stepPick, stepG, stepO, stepC, eff, look, rem, St.put, St.setMem, setMems, St.after, St.eval, cst, setAt, val1, okNew, newHs, allHs, rdOf, outHs, Reg.item, Reg.next, Reg.skip, slotOf, effBox, effAlloc, entryRow, fieldOff, effField, loadI, load1, loadR, effLoad, storeI, storeB, storeR, szOk, storeTo, effStore, buildOf, effBuild, binInt, eqI, boolOf, binBool, effBin, effUn, effPick, effExtract, ivs, svs, rowOf, allParts, effBuildSlice, zeroRow, effMakeSlice, elemSz, idxA, idxS, effIndex, lenOf, readOf, subPre, maxRow, plainTI, appTo, effAppend, slcOf, effSlice, argOf, resA, resL, resV, outWr, nodupB, restOk, argsPre, argOk, callWr, effCall, effMax, wrHs, disj, AV.hs, A0.hs, Entry.hs, RC.elem, RC.sz, RC.len, RC.slice, RC.app, hA, initFr, initMem, initSt, resOf, resAll, compEq, compsEq, rowHs, outHds, outsEq, shapeOk, finOk, comps, A0.norm, AV.norm, specOf, t_int, t_bool, t_implForm, t_lawsForm, t_implMatrix, t_implPoint, t_implTriple, t_implSpot, t_implunited, ts_int, ts_implForm, ts_implSpot, ts_implPoint, ts_implMatrix, Option.getD_some, Option.getD_none, cond_true, cond_false, Nat.reduceBEq, List.map_cons, List.map_nil, List.set_cons_zero, List.set_cons_succ, List.getElem?_cons_zero, List.getElem?_cons_succ, List.drop_zero, List.drop_succ_cons, List.take_succ_cons, List.take_zero, Option.map_some, Option.map_none, Option.bind_some, Nat.zero_add, Nat.add_zero, Nat.reduceAdd, Nat.reduceMul, true_and, and_true, List.replicate_succ, List.replicate_zero, List.length_cons, List.length_nil, List.all_cons, List.all_nil, List.any_cons, List.any_nil, Bool.and_true, Bool.true_and, Bool.and_false, Bool.false_and, Bool.or_true, Bool.true_or, Bool.or_false, Bool.false_or, Bool.not_true, Bool.not_false, List.append_nil, List.nil_append, List.cons_append, List.flatMap_cons, List.flatMap_nil, List.contains_cons, List.contains_nil, List.filter_cons, List.filter_nil, beq_self_eq_true, Bool.not_eq_true, A0.b.injEq, A0.i.injEq, A0.s.injEq, A0.rw.injEq, A0.fn.injEq, List.cons.injEq, RC.ints.injEq, RC.recs.injEq, RC.bools.injEq, AV.one.injEq, AV.tup.injEq, ble_dec, blt_dec, Nat.reduceLeDiff, Nat.reduceSub, decide_true, decide_false, and_self, List.toList_toArray, Option.isSome_some, Option.isSome_none, List.elem_nil, List.elem_cons, ite_true, ite_false, Bool.false_eq_true, if_true, if_false, reduceIte, flatB_2, flatB_3, flatB_4, List.headD_cons, List.tail_cons, Try.f160]
  obtain ⟨h0, h1⟩ : 2 ≤ p ∧ p ≤ 43 := hp
  refine lp_seed [(3, 2000000, .recs 115 4 [])] (fun x : List M4 × Int => ⟨[(0, .one (.i p)), (3, .one (.row 2000000)), (4, .one (.i x.2))], [(2000000, .row (.recs 115 4 (fm x.1)))]⟩)
    (fun x => 0 ≤ x.2 ∧ x.2 ≤ p ∧ x.1.length ≤ x.2.toNat ∧ x.1 ++ smK p x.2 = smL p) (fun x => (p - x.2).toNat) ([], 0) [] (by kernel_rfl) ⟨by omega, by omega, by simp, rfl⟩ (by simp only [Cov, covOk, covFr, covMem, entEq, rn, nodupB, A0.ren, AV.ren, Entry.ren, Entry.norm, vc, out, step, stepE, stepPick, stepG, stepO, stepC, eff, look, rem, St.put, St.setMem, setMems, St.after, St.eval, cst, setAt, val1, okNew, newHs, allHs, rdOf, outHs, Reg.item, Reg.next, Reg.skip, slotOf, effBox, effAlloc, entryRow, fieldOff, effField, loadI, load1, loadR, effLoad, storeI, storeB, storeR, szOk, storeTo, effStore, buildOf, effBuild, binInt, eqI, boolOf, binBool, effBin, effUn, effPick, effExtract, ivs, svs, rowOf, allParts, effBuildSlice, zeroRow, effMakeSlice, elemSz, idxA, idxS, effIndex, lenOf, readOf, subPre, maxRow, plainTI, appTo, effAppend, slcOf, effSlice, argOf, resA, resL, resV, outWr, nodupB, restOk, argsPre, argOk, callWr, effCall, effMax, wrHs, disj, AV.hs, A0.hs, Entry.hs, RC.elem, RC.sz, RC.len, RC.slice, RC.app, hA, initFr, initMem, initSt, resOf, resAll, compEq, compsEq, rowHs, outHds, outsEq, shapeOk, finOk, comps, A0.norm, AV.norm, specOf, t_int, t_bool, t_implForm, t_lawsForm, t_implMatrix, t_implPoint, t_implTriple, t_implSpot, t_implunited, ts_int, ts_implForm, ts_implSpot, ts_implPoint, ts_implMatrix, Option.getD_some, Option.getD_none, cond_true, cond_false, Nat.reduceBEq, List.map_cons, List.map_nil, List.set_cons_zero, List.set_cons_succ, List.getElem?_cons_zero, List.getElem?_cons_succ, List.drop_zero, List.drop_succ_cons, List.take_succ_cons, List.take_zero, Option.map_some, Option.map_none, Option.bind_some, Nat.zero_add, Nat.add_zero, Nat.reduceAdd, Nat.reduceMul, true_and, and_true, List.replicate_succ, List.replicate_zero, List.length_cons, List.length_nil, List.all_cons, List.all_nil, List.any_cons, List.any_nil, Bool.and_true, Bool.true_and, Bool.and_false, Bool.false_and, Bool.or_true, Bool.true_or, Bool.or_false, Bool.false_or, Bool.not_true, Bool.not_false, List.append_nil, List.nil_append, List.cons_append, List.flatMap_cons, List.flatMap_nil, List.contains_cons, List.contains_nil, List.filter_cons, List.filter_nil, beq_self_eq_true, Bool.not_eq_true, A0.b.injEq, A0.i.injEq, A0.s.injEq, A0.rw.injEq, A0.fn.injEq, List.cons.injEq, RC.ints.injEq, RC.recs.injEq, RC.bools.injEq, AV.one.injEq, AV.tup.injEq, ble_dec, blt_dec, Nat.reduceLeDiff, Nat.reduceSub, decide_true, decide_false, and_self, List.toList_toArray, Option.isSome_some, Option.isSome_none, List.elem_nil, List.elem_cons, ite_true, ite_false, Bool.false_eq_true, if_true, if_false, reduceIte, flatB_2, flatB_3, flatB_4, List.headD_cons, List.tail_cons, fm_nil, seeds, seed1]) fun x hx J hJ => ⟨1000, ?_⟩
  obtain ⟨acc, k⟩ := x
  obtain ⟨h2, h3, h4, h5⟩ := hx
  simp only at h2 h3 h4 h5 hJ
  simp only [vc, out, step, stepE, stepPick, stepG, stepO, stepC, eff, look, rem, St.put, St.setMem, setMems, St.after, St.eval, cst, setAt, val1, okNew, newHs, allHs, rdOf, outHs, Reg.item, Reg.next, Reg.skip, slotOf, effBox, effAlloc, entryRow, fieldOff, effField, loadI, load1, loadR, effLoad, storeI, storeB, storeR, szOk, storeTo, effStore, buildOf, effBuild, binInt, eqI, boolOf, binBool, effBin, effUn, effPick, effExtract, ivs, svs, rowOf, allParts, effBuildSlice, zeroRow, effMakeSlice, elemSz, idxA, idxS, effIndex, lenOf, readOf, subPre, maxRow, plainTI, appTo, effAppend, slcOf, effSlice, argOf, resA, resL, resV, outWr, nodupB, restOk, argsPre, argOk, callWr, effCall, effMax, wrHs, disj, AV.hs, A0.hs, Entry.hs, RC.elem, RC.sz, RC.len, RC.slice, RC.app, hA, initFr, initMem, initSt, resOf, resAll, compEq, compsEq, rowHs, outHds, outsEq, shapeOk, finOk, comps, A0.norm, AV.norm, specOf, t_int, t_bool, t_implForm, t_lawsForm, t_implMatrix, t_implPoint, t_implTriple, t_implSpot, t_implunited, ts_int, ts_implForm, ts_implSpot, ts_implPoint, ts_implMatrix, Option.getD_some, Option.getD_none, cond_true, cond_false, Nat.reduceBEq, List.map_cons, List.map_nil, List.set_cons_zero, List.set_cons_succ, List.getElem?_cons_zero, List.getElem?_cons_succ, List.drop_zero, List.drop_succ_cons, List.take_succ_cons, List.take_zero, Option.map_some, Option.map_none, Option.bind_some, Nat.zero_add, Nat.add_zero, Nat.reduceAdd, Nat.reduceMul, true_and, and_true, List.replicate_succ, List.replicate_zero, List.length_cons, List.length_nil, List.all_cons, List.all_nil, List.any_cons, List.any_nil, Bool.and_true, Bool.true_and, Bool.and_false, Bool.false_and, Bool.or_true, Bool.true_or, Bool.or_false, Bool.false_or, Bool.not_true, Bool.not_false, List.append_nil, List.nil_append, List.cons_append, List.flatMap_cons, List.flatMap_nil, List.contains_cons, List.contains_nil, List.filter_cons, List.filter_nil, beq_self_eq_true, Bool.not_eq_true, A0.b.injEq, A0.i.injEq, A0.s.injEq, A0.rw.injEq, A0.fn.injEq, List.cons.injEq, RC.ints.injEq, RC.recs.injEq, RC.bools.injEq, AV.one.injEq, AV.tup.injEq, ble_dec, blt_dec, Nat.reduceLeDiff, Nat.reduceSub, decide_true, decide_false, and_self, List.toList_toArray, Option.isSome_some, Option.isSome_none, List.elem_nil, List.elem_cons, ite_true, ite_false, Bool.false_eq_true, if_true, if_false, reduceIte, flatB_2, flatB_3, flatB_4, List.headD_cons, List.tail_cons, fm_snoc4, fm_length]
  rw [smK.eq_def] at h5
  rw [bif_prop]
  refine ⟨fun hc => ⟨by rw [List.length_append, List.length_singleton]; omega, hJ _ (acc ++ [(1, 0, k, p)], k + 1) [(2000000, 15)] ⟨by simp only; omega, by have := of_decide_eq_true hc; simp only; omega, by rw [List.length_append, List.length_singleton]; simp only; omega, by rw [dif_pos (of_decide_eq_true hc)] at h5; simpa using h5⟩ (by have := of_decide_eq_true hc; simp only; omega) (by simp only [Cov, covOk, covFr, covMem, entEq, rn, nodupB, A0.ren, AV.ren, Entry.ren, Entry.norm, vc, out, step, stepE, stepPick, stepG, stepO, stepC, eff, look, rem, St.put, St.setMem, setMems, St.after, St.eval, cst, setAt, val1, okNew, newHs, allHs, rdOf, outHs, Reg.item, Reg.next, Reg.skip, slotOf, effBox, effAlloc, entryRow, fieldOff, effField, loadI, load1, loadR, effLoad, storeI, storeB, storeR, szOk, storeTo, effStore, buildOf, effBuild, binInt, eqI, boolOf, binBool, effBin, effUn, effPick, effExtract, ivs, svs, rowOf, allParts, effBuildSlice, zeroRow, effMakeSlice, elemSz, idxA, idxS, effIndex, lenOf, readOf, subPre, maxRow, plainTI, appTo, effAppend, slcOf, effSlice, argOf, resA, resL, resV, outWr, nodupB, restOk, argsPre, argOk, callWr, effCall, effMax, wrHs, disj, AV.hs, A0.hs, Entry.hs, RC.elem, RC.sz, RC.len, RC.slice, RC.app, hA, initFr, initMem, initSt, resOf, resAll, compEq, compsEq, rowHs, outHds, outsEq, shapeOk, finOk, comps, A0.norm, AV.norm, specOf, t_int, t_bool, t_implForm, t_lawsForm, t_implMatrix, t_implPoint, t_implTriple, t_implSpot, t_implunited, ts_int, ts_implForm, ts_implSpot, ts_implPoint, ts_implMatrix, Option.getD_some, Option.getD_none, cond_true, cond_false, Nat.reduceBEq, List.map_cons, List.map_nil, List.set_cons_zero, List.set_cons_succ, List.getElem?_cons_zero, List.getElem?_cons_succ, List.drop_zero, List.drop_succ_cons, List.take_succ_cons, List.take_zero, Option.map_some, Option.map_none, Option.bind_some, Nat.zero_add, Nat.add_zero, Nat.reduceAdd, Nat.reduceMul, true_and, and_true, List.replicate_succ, List.replicate_zero, List.length_cons, List.length_nil, List.all_cons, List.all_nil, List.any_cons, List.any_nil, Bool.and_true, Bool.true_and, Bool.and_false, Bool.false_and, Bool.or_true, Bool.true_or, Bool.or_false, Bool.false_or, Bool.not_true, Bool.not_false, List.append_nil, List.nil_append, List.cons_append, List.flatMap_cons, List.flatMap_nil, List.contains_cons, List.contains_nil, List.filter_cons, List.filter_nil, beq_self_eq_true, Bool.not_eq_true, A0.b.injEq, A0.i.injEq, A0.s.injEq, A0.rw.injEq, A0.fn.injEq, List.cons.injEq, RC.ints.injEq, RC.recs.injEq, RC.bools.injEq, AV.one.injEq, AV.tup.injEq, ble_dec, blt_dec, Nat.reduceLeDiff, Nat.reduceSub, decide_true, decide_false, and_self, List.toList_toArray, Option.isSome_some, Option.isSome_none, List.elem_nil, List.elem_cons, ite_true, ite_false, Bool.false_eq_true, if_true, if_false, reduceIte, flatB_2, flatB_3, flatB_4, List.headD_cons, List.tail_cons, wrap_id (n := k + 1) (by omega) (by omega)])⟩, fun hc => ?_⟩
  rw [dif_neg (of_decide_eq_false hc)] at h5
  refine ⟨by rw [List.length_append, List.length_singleton]; omega, ?_⟩
  rw [h5]

/-! ### the forms on them -/
theorem mul3_bd {a x y : Int} (ha : -1000 ≤ a ∧ a ≤ 1000) (hx : -100 ≤ x ∧ x ≤ 100) (hy : -100 ≤ y ∧ y ≤ 100) : -10000000 ≤ a * x * y ∧ a * x * y ≤ 10000000 := by
  have h1 := mul_bd (a := a) (b := x) (j := 1000) (k := 100) (by omega) (by omega) ha hx
  have h2 := mul_bd (a := a * x) (b := y) (j := 100000) (k := 100) (by omega) (by omega) ⟨by omega, by omega⟩ hy
  omega
theorem actI_act {f : F3} {m : M4} (ha : -1000 ≤ f.1 ∧ f.1 ≤ 1000) (hb : -1000 ≤ f.2.1 ∧ f.2.1 ≤ 1000) (hc : -1000 ≤ f.2.2 ∧ f.2.2 ≤ 1000) (h1 : -100 ≤ m.1 ∧ m.1 ≤ 100) (h2 : -100 ≤ m.2.1 ∧ m.2.1 ≤ 100) (h3 : -100 ≤ m.2.2.1 ∧ m.2.2.1 ≤ 100) (h4 : -100 ≤ m.2.2.2 ∧ m.2.2.2 ≤ 100) :
    (valI f.1 f.2.1 f.2.2 m.1 m.2.2.1 = (act f m).1 ∧ polI f.1 f.2.1 f.2.2 m.1 m.2.2.1 m.2.1 m.2.2.2 = (act f m).2.1 ∧ valI f.1 f.2.1 f.2.2 m.2.1 m.2.2.2 = (act f m).2.2) ∧
    (-100000000 ≤ (act f m).1 ∧ (act f m).1 ≤ 100000000) ∧ (-100000000 ≤ (act f m).2.1 ∧ (act f m).2.1 ≤ 100000000) ∧ (-100000000 ≤ (act f m).2.2 ∧ (act f m).2.2 ≤ 100000000) := by
  rw [valI_eq, valI_eq, polI_eq]
  have a1 := mul3_bd ha h1 h1
  have a2 := mul3_bd hb h1 h3
  have a3 := mul3_bd hc h3 h3
  have b1 := mul3_bd ha h2 h2
  have b2 := mul3_bd hb h2 h4
  have b3 := mul3_bd hc h4 h4
  have c1 := mul3_bd ha h1 h2
  have c2 := mul3_bd hb h1 h4
  have c3 := mul3_bd hb h3 h2
  have c4 := mul3_bd hc h3 h4
  have e1 : (act f m).1 = f.1 * m.1 * m.1 + f.2.1 * m.1 * m.2.2.1 + f.2.2 * m.2.2.1 * m.2.2.1 := rfl
  have e2 : (act f m).2.1 = 2 * f.1 * m.1 * m.2.1 + f.2.1 * (m.1 * m.2.2.2 + m.2.2.1 * m.2.1) + 2 * f.2.2 * m.2.2.1 * m.2.2.2 := rfl
  have e3 : (act f m).2.2 = f.1 * m.2.1 * m.2.1 + f.2.1 * m.2.1 * m.2.2.2 + f.2.2 * m.2.2.2 * m.2.2.2 := rfl
  have e4 : 2 * f.1 * m.1 * m.2.1 + f.2.1 * (m.1 * m.2.2.2 + m.2.2.1 * m.2.1) + 2 * f.2.2 * m.2.2.1 * m.2.2.2 = 2 * (f.1 * m.1 * m.2.1) + (f.2.1 * m.1 * m.2.2.2 + f.2.1 * m.2.2.1 * m.2.1) + 2 * (f.2.2 * m.2.2.1 * m.2.2.2) := by grind
  rw [e1, e2, e3, e4]
  refine ⟨⟨wrap_id (by omega) (by omega), wrap_id (by omega) (by omega), wrap_id (by omega) (by omega)⟩, by omega, by omega, by omega⟩
/-- a reduced form of this chapter's discriminants -/
def RedP (f : F3) : Prop := (-2000 ≤ dsc f ∧ dsc f ≤ -3) ∧ IsRed (dsc f) f
theorem RedP.of {d : Int} {f : F3} (hd : -2000 ≤ d ∧ d ≤ -3) (h : IsRed d f) : RedP f := by
  have e : dsc f = d := h.d
  unfold RedP
  rw [e]; exact ⟨hd, h⟩
theorem RedP.small {f : F3} (h : RedP f) : 0 < f.1 ∧ f.1 ≤ 25 ∧ -25 ≤ f.2.1 ∧ f.2.1 ≤ 25 ∧ 0 < f.2.2 ∧ f.2.2 ≤ 700 := h.2.small h.1.1
theorem sub_act {f : F3} (h : RedP f) {p : Int} (hp : 2 ≤ p ∧ p ≤ 43) {m : M4} (hm : m ∈ smL p) :
    (valI f.1 f.2.1 f.2.2 m.1 m.2.2.1 = (act f m).1 ∧ polI f.1 f.2.1 f.2.2 m.1 m.2.2.1 m.2.1 m.2.2.2 = (act f m).2.1 ∧ valI f.1 f.2.1 f.2.2 m.2.1 m.2.2.2 = (act f m).2.2) ∧ (act f m).dom = true ∧
      (-100000000 ≤ (act f m).1 ∧ (act f m).1 ≤ 100000000) ∧ (-100000000 ≤ (act f m).2.1 ∧ (act f m).2.1 ≤ 100000000) ∧ (-100000000 ≤ (act f m).2.2 ∧ (act f m).2.2 ≤ 100000000) ∧ det m = p := by
  have hs := h.small
  have hk := mem_smK 0 (by omega) hm
  have hsm : (-100 ≤ m.1 ∧ m.1 ≤ 100) ∧ (-100 ≤ m.2.1 ∧ m.2.1 ≤ 100) ∧ (-100 ≤ m.2.2.1 ∧ m.2.2.1 ≤ 100) ∧ (-100 ≤ m.2.2.2 ∧ m.2.2.2 ≤ 100) ∧ det m = p ∧ (m.1 ≠ 0 ∨ m.2.2.1 ≠ 0) ∧ (m.2.1 ≠ 0 ∨ m.2.2.2 ≠ 0) := by
    rcases hk with ⟨h1, h2, h3, h4⟩ | h1
    · have : det m = p := by unfold det; rw [h1, h2, h4]; omega
      exact ⟨by omega, by omega, by omega, by omega, this, by omega, by omega⟩
    · have : det m = p := by unfold det; rw [h1]; simp
      rw [h1]
      exact ⟨⟨by simp only; omega, by simp only; omega⟩, by simp, by simp, by simp, by rw [← h1]; exact this, by simp only; omega, by simp⟩
  obtain ⟨m1, m2, m3, m4, m5, m6, m7⟩ := hsm
  obtain ⟨e1, e2, e3, e4⟩ := actI_act (f := f) (m := m) (by omega) (by omega) (by omega) m1 m2 m3 m4
  refine ⟨e1, ?_, e2, e3, e4, m5⟩
  have v1 : f.1 ≤ (act f m).1 := vl_min (by omega) h.2.abs h.2.le m6
  have v2 : f.1 ≤ (act f m).2.2 := vl_min (by omega) h.2.abs h.2.le m7
  have hd : dsc (act f m) = p * p * dsc f := by rw [dsc_act, m5]
  have hp2 : 0 < p * p := Int.mul_pos (by omega) (by omega)
  have hneg : p * p * dsc f < 0 := Int.mul_neg_of_pos_of_neg hp2 (by have := h.1; omega)
  rw [← hd] at hneg
  unfold dsc at hneg
  exact domB_iff.2 ⟨by omega, by omega, by omega, by omega, by omega, by omega⟩
def sfL (f : F3) (p : Int) : List F3 := (smL p).map (act f)
theorem sfL_len (f : F3) {p : Int} (hp : 2 ≤ p ∧ p ≤ 43) : (sfL f p).length ≤ 50 := by
  unfold sfL smL
  rw [List.length_map, smK_len]; omega
theorem smL_len {p : Int} (hp : 2 ≤ p ∧ p ≤ 43) : (smL p).length ≤ 50 := by
  unfold smL
  rw [smK_len]; omega
abbrev fSubForms : Nat := 144
def cSubForms : Ctr
  | [.s [a, b, c], .i p] => some ⟨RedP (a, b, c) ∧ 2 ≤ p ∧ p ≤ 43, .one (.rw (.recs 27 3 (fl (sfL (a, b, c) p)))), []⟩
  | _ => none
theorem okSubForms : CtrOk Try.prog fSubForms cSubForms := by
  have hsp : SpecOk Try.prog (specOf [(fIndexM, cIndexM), (fSubstitute, cSubstitute)]) := (SpecOk.cons okIndexM (SpecOk.cons okSubstitute SpecOk.nil))
  refine ctr_of (fn := Try.f144) mixed tab_ok hsp Try.func144 (by kernel_rfl) (by kernel_rfl) fun args ce h => ?_
  clear hsp
  unfold cSubForms at h
  split at h
  case h_2 => cases h
  rename_i a b c p
  simp only [Option.some.injEq] at h
  subst h
  refine ⟨by rfl, fun hp => ⟨1, 1000, ?_⟩⟩
  simp only [vc, out, step, stepE, stepPick, stepG, stepO, stepC, eff, look, rem, St.put, St.setMem, setMems, St.after, St.eval, cst, setAt, val1, okNew, newHs, allHs, rdOf, outHs, Reg.item, Reg.next, Reg.skip, slotOf, effBox, effAlloc, entryRow, fieldOff, effField, loadI, load1, loadR, effLoad, storeI, storeB, storeR, szOk, storeTo, effStore, buildOf, effBuild, binInt, eqI, boolOf, binBool, effBin, effUn, effPick, effExtract, ivs, svs, rowOf, allParts, effBuildSlice, zeroRow, effMakeSlice, elemSz, idxA, idxS, effIndex, lenOf, readOf, subPre, maxRow, plainTI, appTo, effAppend, slcOf, effSlice, argOf, resA, resL, resV, outWr, nodupB, restOk, argsPre, argOk, callWr, effCall, effMax, wrHs, disj, AV.hs, A0.hs, Entry.hs, RC.elem, RC.sz, RC.len, RC.slice, RC.app, hA, initFr, initMem, initSt, resOf, resAll, compEq, compsEq, rowHs, outHds, outsEq, shapeOk, finOk, comps, A0.norm, AV.norm, specOf, t_int, t_bool, t_implForm, t_lawsForm, t_implMatrix, t_implPoint, t_implTriple, t_implSpot, t_implunited, ts_int, ts_implForm, ts_implSpot, ts_implPoint, ts_implMatrix, Option.getD_some, Option.getD_none, cond_true, cond_false, Nat.reduceBEq, List.map_cons, List.map_nil, List.set_cons_zero, List.set_cons_succ, List.getElem?_cons_zero, List.getElem?_cons_succ, List.drop_zero, List.drop_succ_cons, List.take_succ_cons, List.take_zero, Option.map_some, Option.map_none, Option.bind_some, Nat.zero_add, Nat.add_zero, Nat.reduceAdd, Nat.reduceMul, true_and, and_true, List.replicate_succ, List.replicate_zero, List.length_cons, List.length_nil, List.all_cons, List.all_nil, List.any_cons, List.any_nil, Bool.and_true, Bool.true_and, Bool.and_false, Bool.false_and, Bool.or_true, Bool.true_or, Bool.or_false, Bool.false_or, Bool.not_true, Bool.not_false, List.append_nil, List.nil_append, List.cons_append, List.flatMap_cons, List.flatMap_nil, List.contains_cons, List.contains_nil, List.filter_cons, List.filter_nil, beq_self_eq_true, Bool.not_eq_true, A0.b.injEq, A0.i.injEq, A0.s.injEq, A0.rw.injEq, A0.fn.injEq, List.cons.injEq, RC.ints.injEq, RC.recs.injEq, RC.bools.injEq, AV.one.injEq, AV.tup.injEq, ble_dec, blt_dec, Nat.reduceLeDiff, Nat.reduceSub, decide_true, decide_false, and_self, List.toList_toArray, Option.isSome_some, Option.isSome_none, List.elem_nil, List.elem_cons, ite_true, ite_false, Bool.false_eq_true, if_true, if_false, reduceIte, flatB_2, flatB_3, flatB_4, List.headD_cons, List.tail_cons, cIndexM, fIndexM, cSubstitute, fSubstitute, actI, Try.f144]
  obtain ⟨hr, hp1⟩ : RedP (a, b, c) ∧ 2 ≤ p ∧ p ≤ 43 := hp
  have hlen := smL_len hp1
  refine ⟨hp1, ?_⟩
  refine lp_intro (fun k : Nat => ⟨[(2, .one (.ref 2 0)), (5, .one (.row 8)), (10, .one (.row 10)), (11, .one (.i (smL p).length)), (12, .one (.i k))], [(2, .ibox 27 [a, b, c]), (10, .row (.recs 115 4 (fm (smL p)))), (8, .row (.recs 27 3 (fl (((smL p).take k).map (act (a, b, c))))))]⟩)
    (fun k => k ≤ (smL p).length) (fun k => (smL p).length - k) 0 [] (Nat.zero_le _) (by simp only [Cov, covOk, covFr, covMem, entEq, rn, nodupB, A0.ren, AV.ren, Entry.ren, Entry.norm, vc, out, step, stepE, stepPick, stepG, stepO, stepC, eff, look, rem, St.put, St.setMem, setMems, St.after, St.eval, cst, setAt, val1, okNew, newHs, allHs, rdOf, outHs, Reg.item, Reg.next, Reg.skip, slotOf, effBox, effAlloc, entryRow, fieldOff, effField, loadI, load1, loadR, effLoad, storeI, storeB, storeR, szOk, storeTo, effStore, buildOf, effBuild, binInt, eqI, boolOf, binBool, effBin, effUn, effPick, effExtract, ivs, svs, rowOf, allParts, effBuildSlice, zeroRow, effMakeSlice, elemSz, idxA, idxS, effIndex, lenOf, readOf, subPre, maxRow, plainTI, appTo, effAppend, slcOf, effSlice, argOf, resA, resL, resV, outWr, nodupB, restOk, argsPre, argOk, callWr, effCall, effMax, wrHs, disj, AV.hs, A0.hs, Entry.hs, RC.elem, RC.sz, RC.len, RC.slice, RC.app, hA, initFr, initMem, initSt, resOf, resAll, compEq, compsEq, rowHs, outHds, outsEq, shapeOk, finOk, comps, A0.norm, AV.norm, specOf, t_int, t_bool, t_implForm, t_lawsForm, t_implMatrix, t_implPoint, t_implTriple, t_implSpot, t_implunited, ts_int, ts_implForm, ts_implSpot, ts_implPoint, ts_implMatrix, Option.getD_some, Option.getD_none, cond_true, cond_false, Nat.reduceBEq, List.map_cons, List.map_nil, List.set_cons_zero, List.set_cons_succ, List.getElem?_cons_zero, List.getElem?_cons_succ, List.drop_zero, List.drop_succ_cons, List.take_succ_cons, List.take_zero, Option.map_some, Option.map_none, Option.bind_some, Nat.zero_add, Nat.add_zero, Nat.reduceAdd, Nat.reduceMul, true_and, and_true, List.replicate_succ, List.replicate_zero, List.length_cons, List.length_nil, List.all_cons, List.all_nil, List.any_cons, List.any_nil, Bool.and_true, Bool.true_and, Bool.and_false, Bool.false_and, Bool.or_true, Bool.true_or, Bool.or_false, Bool.false_or, Bool.not_true, Bool.not_false, List.append_nil, List.nil_append, List.cons_append, List.flatMap_cons, List.flatMap_nil, List.contains_cons, List.contains_nil, List.filter_cons, List.filter_nil, beq_self_eq_true, Bool.not_eq_true, A0.b.injEq, A0.i.injEq, A0.s.injEq, A0.rw.injEq, A0.fn.injEq, List.cons.injEq, RC.ints.injEq, RC.recs.injEq, RC.bools.injEq, AV.one.injEq, AV.tup.injEq, ble_dec, blt_dec, Nat.reduceLeDiff, Nat.reduceSub, decide_true, decide_false, and_self, List.toList_toArray, Option.isSome_some, Option.isSome_none, List.elem_nil, List.elem_cons, ite_true, ite_false, Bool.false_eq_true, if_true, if_false, reduceIte, flatB_2, flatB_3, flatB_4, List.headD_cons, List.tail_cons, fm_length]; simp [fl_nil]) fun k hk J hJ => ⟨1000, ?_⟩
  simp only [vc, out, step, stepE, stepPick, stepG, stepO, stepC, eff, look, rem, St.put, St.setMem, setMems, St.after, St.eval, cst, setAt, val1, okNew, newHs, allHs, rdOf, outHs, Reg.item, Reg.next, Reg.skip, slotOf, effBox, effAlloc, entryRow, fieldOff, effField, loadI, load1, loadR, effLoad, storeI, storeB, storeR, szOk, storeTo, effStore, buildOf, effBuild, binInt, eqI, boolOf, binBool, effBin, effUn, effPick, effExtract, ivs, svs, rowOf, allParts, effBuildSlice, zeroRow, effMakeSlice, elemSz, idxA, idxS, effIndex, lenOf, readOf, subPre, maxRow, plainTI, appTo, effAppend, slcOf, effSlice, argOf, resA, resL, resV, outWr, nodupB, restOk, argsPre, argOk, callWr, effCall, effMax, wrHs, disj, AV.hs, A0.hs, Entry.hs, RC.elem, RC.sz, RC.len, RC.slice, RC.app, hA, initFr, initMem, initSt, resOf, resAll, compEq, compsEq, rowHs, outHds, outsEq, shapeOk, finOk, comps, A0.norm, AV.norm, specOf, t_int, t_bool, t_implForm, t_lawsForm, t_implMatrix, t_implPoint, t_implTriple, t_implSpot, t_implunited, ts_int, ts_implForm, ts_implSpot, ts_implPoint, ts_implMatrix, Option.getD_some, Option.getD_none, cond_true, cond_false, Nat.reduceBEq, List.map_cons, List.map_nil, List.set_cons_zero, List.set_cons_succ, List.getElem?_cons_zero, List.getElem?_cons_succ, List.drop_zero, List.drop_succ_cons, List.take_succ_cons, List.take_zero, Option.map_some, Option.map_none, Option.bind_some, Nat.zero_add, Nat.add_zero, Nat.reduceAdd, Nat.reduceMul, true_and, and_true, List.replicate_succ, List.replicate_zero, List.length_cons, List.length_nil, List.all_cons, List.all_nil, List.any_cons, List.any_nil, Bool.and_true, Bool.true_and, Bool.and_false, Bool.false_and, Bool.or_true, Bool.true_or, Bool.or_false, Bool.false_or, Bool.not_true, Bool.not_false, List.append_nil, List.nil_append, List.cons_append, List.flatMap_cons, List.flatMap_nil, List.contains_cons, List.contains_nil, List.filter_cons, List.filter_nil, beq_self_eq_true, Bool.not_eq_true, A0.b.injEq, A0.i.injEq, A0.s.injEq, A0.rw.injEq, A0.fn.injEq, List.cons.injEq, RC.ints.injEq, RC.recs.injEq, RC.bools.injEq, AV.one.injEq, AV.tup.injEq, ble_dec, blt_dec, Nat.reduceLeDiff, Nat.reduceSub, decide_true, decide_false, and_self, List.toList_toArray, Option.isSome_some, Option.isSome_none, List.elem_nil, List.elem_cons, ite_true, ite_false, Bool.false_eq_true, if_true, if_false, reduceIte, flatB_2, flatB_3, flatB_4, List.headD_cons, List.tail_cons, cSubstitute, fSubstitute, actI, rng4, Int.toNat_natCast, fm_length]
  rw [bif_prop]
  refine ⟨fun hc => ?_, fun hc => ?_⟩
  · have hlt := ilt_iff.1 hc
    have hw := wsucc hlt (Nat.le_trans hlen (by omega))
    have hlt' : k < (fm (smL p)).length := by rw [fm_length]; exact hlt
    have ht := unfm_take (fm (smL p)) hlt'
    have hm := unfm_mem (fm (smL p)) hlt'
    rw [unfm_fm] at ht hm
    obtain ⟨⟨g1, g2, g3⟩, _⟩ := sub_act hr hp1 hm
    simp only at g1 g2 g3
    refine ⟨⟨by omega, by omega⟩, hlt, ?_, hJ _ (k + 1) [(8, 21)] hlt (by omega) ?_⟩
    · rw [List.length_append, fl_length, List.length_map, List.length_take, List.length_singleton]; omega
    · simp only [Cov, covOk, covFr, covMem, entEq, rn, nodupB, A0.ren, AV.ren, Entry.ren, Entry.norm, vc, out, step, stepE, stepPick, stepG, stepO, stepC, eff, look, rem, St.put, St.setMem, setMems, St.after, St.eval, cst, setAt, val1, okNew, newHs, allHs, rdOf, outHs, Reg.item, Reg.next, Reg.skip, slotOf, effBox, effAlloc, entryRow, fieldOff, effField, loadI, load1, loadR, effLoad, storeI, storeB, storeR, szOk, storeTo, effStore, buildOf, effBuild, binInt, eqI, boolOf, binBool, effBin, effUn, effPick, effExtract, ivs, svs, rowOf, allParts, effBuildSlice, zeroRow, effMakeSlice, elemSz, idxA, idxS, effIndex, lenOf, readOf, subPre, maxRow, plainTI, appTo, effAppend, slcOf, effSlice, argOf, resA, resL, resV, outWr, nodupB, restOk, argsPre, argOk, callWr, effCall, effMax, wrHs, disj, AV.hs, A0.hs, Entry.hs, RC.elem, RC.sz, RC.len, RC.slice, RC.app, hA, initFr, initMem, initSt, resOf, resAll, compEq, compsEq, rowHs, outHds, outsEq, shapeOk, finOk, comps, A0.norm, AV.norm, specOf, t_int, t_bool, t_implForm, t_lawsForm, t_implMatrix, t_implPoint, t_implTriple, t_implSpot, t_implunited, ts_int, ts_implForm, ts_implSpot, ts_implPoint, ts_implMatrix, Option.getD_some, Option.getD_none, cond_true, cond_false, Nat.reduceBEq, List.map_cons, List.map_nil, List.set_cons_zero, List.set_cons_succ, List.getElem?_cons_zero, List.getElem?_cons_succ, List.drop_zero, List.drop_succ_cons, List.take_succ_cons, List.take_zero, Option.map_some, Option.map_none, Option.bind_some, Nat.zero_add, Nat.add_zero, Nat.reduceAdd, Nat.reduceMul, true_and, and_true, List.replicate_succ, List.replicate_zero, List.length_cons, List.length_nil, List.all_cons, List.all_nil, List.any_cons, List.any_nil, Bool.and_true, Bool.true_and, Bool.and_false, Bool.false_and, Bool.or_true, Bool.true_or, Bool.or_false, Bool.false_or, Bool.not_true, Bool.not_false, List.append_nil, List.nil_append, List.cons_append, List.flatMap_cons, List.flatMap_nil, List.contains_cons, List.contains_nil, List.filter_cons, List.filter_nil, beq_self_eq_true, Bool.not_eq_true, A0.b.injEq, A0.i.injEq, A0.s.injEq, A0.rw.injEq, A0.fn.injEq, List.cons.injEq, RC.ints.injEq, RC.recs.injEq, RC.bools.injEq, AV.one.injEq, AV.tup.injEq, ble_dec, blt_dec, Nat.reduceLeDiff, Nat.reduceSub, decide_true, decide_false, and_self, List.toList_toArray, Option.isSome_some, Option.isSome_none, List.elem_nil, List.elem_cons, ite_true, ite_false, Bool.false_eq_true, if_true, if_false, reduceIte, flatB_2, flatB_3, flatB_4, List.headD_cons, List.tail_cons, hw, ht, g1, g2, g3, fl_snoc, List.map_append]
  · have := inlt_iff.1 hc
    rw [List.take_of_length_le this]
    rfl
abbrev fHkForms : Nat := 125
def cHkForms : Ctr
  | [.s [a, b, c], .i p] => some ⟨(domB a b c = true ∧ RedP (rdA a b c, rdB a b c, rdC a b c)) ∧ 2 ≤ p ∧ p ≤ 43, .one (.rw (.recs 27 3 (fl (sfL (rdA a b c, rdB a b c, rdC a b c) p)))), []⟩
  | _ => none
theorem okHkForms : CtrOk Try.prog fHkForms cHkForms := by
  have hsp : SpecOk Try.prog (specOf [(fReClass, cReClass), (fHkMat, cHkMat), (fFoAct, cFoAct)]) := (SpecOk.cons okReClass (SpecOk.cons okHkMat (SpecOk.cons okFoAct SpecOk.nil)))
  refine ctr_of (fn := Try.f125) mixed tab_ok hsp Try.func125 (by kernel_rfl) (by kernel_rfl) fun args ce h => ?_
  clear hsp
  unfold cHkForms at h
  split at h
  case h_2 => cases h
  rename_i a b c p
  simp only [Option.some.injEq] at h
  subst h
  refine ⟨by rfl, fun hp => ⟨1, 1000, ?_⟩⟩
  simp only [vc, out, step, stepE, stepPick, stepG, stepO, stepC, eff, look, rem, St.put, St.setMem, setMems, St.after, St.eval, cst, setAt, val1, okNew, newHs, allHs, rdOf, outHs, Reg.item, Reg.next, Reg.skip, slotOf, effBox, effAlloc, entryRow, fieldOff, effField, loadI, load1, loadR, effLoad, storeI, storeB, storeR, szOk, storeTo, effStore, buildOf, effBuild, binInt, eqI, boolOf, binBool, effBin, effUn, effPick, effExtract, ivs, svs, rowOf, allParts, effBuildSlice, zeroRow, effMakeSlice, elemSz, idxA, idxS, effIndex, lenOf, readOf, subPre, maxRow, plainTI, appTo, effAppend, slcOf, effSlice, argOf, resA, resL, resV, outWr, nodupB, restOk, argsPre, argOk, callWr, effCall, effMax, wrHs, disj, AV.hs, A0.hs, Entry.hs, RC.elem, RC.sz, RC.len, RC.slice, RC.app, hA, initFr, initMem, initSt, resOf, resAll, compEq, compsEq, rowHs, outHds, outsEq, shapeOk, finOk, comps, A0.norm, AV.norm, specOf, t_int, t_bool, t_implForm, t_lawsForm, t_implMatrix, t_implPoint, t_implTriple, t_implSpot, t_implunited, ts_int, ts_implForm, ts_implSpot, ts_implPoint, ts_implMatrix, Option.getD_some, Option.getD_none, cond_true, cond_false, Nat.reduceBEq, List.map_cons, List.map_nil, List.set_cons_zero, List.set_cons_succ, List.getElem?_cons_zero, List.getElem?_cons_succ, List.drop_zero, List.drop_succ_cons, List.take_succ_cons, List.take_zero, Option.map_some, Option.map_none, Option.bind_some, Nat.zero_add, Nat.add_zero, Nat.reduceAdd, Nat.reduceMul, true_and, and_true, List.replicate_succ, List.replicate_zero, List.length_cons, List.length_nil, List.all_cons, List.all_nil, List.any_cons, List.any_nil, Bool.and_true, Bool.true_and, Bool.and_false, Bool.false_and, Bool.or_true, Bool.true_or, Bool.or_false, Bool.false_or, Bool.not_true, Bool.not_false, List.append_nil, List.nil_append, List.cons_append, List.flatMap_cons, List.flatMap_nil, List.contains_cons, List.contains_nil, List.filter_cons, List.filter_nil, beq_self_eq_true, Bool.not_eq_true, A0.b.injEq, A0.i.injEq, A0.s.injEq, A0.rw.injEq, A0.fn.injEq, List.cons.injEq, RC.ints.injEq, RC.recs.injEq, RC.bools.injEq, AV.one.injEq, AV.tup.injEq, ble_dec, blt_dec, Nat.reduceLeDiff, Nat.reduceSub, decide_true, decide_false, and_self, List.toList_toArray, Option.isSome_some, Option.isSome_none, List.elem_nil, List.elem_cons, ite_true, ite_false, Bool.false_eq_true, if_true, if_false, reduceIte, flatB_2, flatB_3, flatB_4, List.headD_cons, List.tail_cons, cReClass, fReClass, cHkMat, fHkMat, cFoAct, fFoAct, actI, Try.f125]
  obtain ⟨⟨hd, hr⟩, hp1⟩ : (domB a b c = true ∧ RedP (rdA a b c, rdB a b c, rdC a b c)) ∧ 2 ≤ p ∧ p ≤ 43 := hp
  have hlen := smL_len hp1
  refine ⟨hd, hp1, ?_⟩
  generalize rdA a b c = A at *
  generalize rdB a b c = B at *
  generalize rdC a b c = C at *
  refine lp_seed [(6, 2000000, .recs 27 3 [])] (fun k : Nat => ⟨[(5, .one (.ref 5 0)), (6, .one (.row 2000000)), (12, .one (.row 12)), (13, .one (.i (smL p).length)), (14, .one (.i k))], [(5, .ibox 27 [A, B, C]), (12, .row (.recs 115 4 (fm (smL p)))), (2000000, .row (.recs 27 3 (fl (((smL p).take k).map (act (A, B, C))))))]⟩)
    (fun k => k ≤ (smL p).length) (fun k => (smL p).length - k) 0 [] (by kernel_rfl) (Nat.zero_le _) (by simp only [Cov, covOk, covFr, covMem, entEq, rn, nodupB, A0.ren, AV.ren, Entry.ren, Entry.norm, vc, out, step, stepE, stepPick, stepG, stepO, stepC, eff, look, rem, St.put, St.setMem, setMems, St.after, St.eval, cst, setAt, val1, okNew, newHs, allHs, rdOf, outHs, Reg.item, Reg.next, Reg.skip, slotOf, effBox, effAlloc, entryRow, fieldOff, effField, loadI, load1, loadR, effLoad, storeI, storeB, storeR, szOk, storeTo, effStore, buildOf, effBuild, binInt, eqI, boolOf, binBool, effBin, effUn, effPick, effExtract, ivs, svs, rowOf, allParts, effBuildSlice, zeroRow, effMakeSlice, elemSz, idxA, idxS, effIndex, lenOf, readOf, subPre, maxRow, plainTI, appTo, effAppend, slcOf, effSlice, argOf, resA, resL, resV, outWr, nodupB, restOk, argsPre, argOk, callWr, effCall, effMax, wrHs, disj, AV.hs, A0.hs, Entry.hs, RC.elem, RC.sz, RC.len, RC.slice, RC.app, hA, initFr, initMem, initSt, resOf, resAll, compEq, compsEq, rowHs, outHds, outsEq, shapeOk, finOk, comps, A0.norm, AV.norm, specOf, t_int, t_bool, t_implForm, t_lawsForm, t_implMatrix, t_implPoint, t_implTriple, t_implSpot, t_implunited, ts_int, ts_implForm, ts_implSpot, ts_implPoint, ts_implMatrix, Option.getD_some, Option.getD_none, cond_true, cond_false, Nat.reduceBEq, List.map_cons, List.map_nil, List.set_cons_zero, List.set_cons_succ, List.getElem?_cons_zero, List.getElem?_cons_succ, List.drop_zero, List.drop_succ_cons, List.take_succ_cons, List.take_zero, Option.map_some, Option.map_none, Option.bind_some, Nat.zero_add, Nat.add_zero, Nat.reduceAdd, Nat.reduceMul, true_and, and_true, List.replicate_succ, List.replicate_zero, List.length_cons, List.length_nil, List.all_cons, List.all_nil, List.any_cons, List.any_nil, Bool.and_true, Bool.true_and, Bool.and_false, Bool.false_and, Bool.or_true, Bool.true_or, Bool.or_false, Bool.false_or, Bool.not_true, Bool.not_false, List.append_nil, List.nil_append, List.cons_append, List.flatMap_cons, List.flatMap_nil, List.contains_cons, List.contains_nil, List.filter_cons, List.filter_nil, beq_self_eq_true, Bool.not_eq_true, A0.b.injEq, A0.i.injEq, A0.s.injEq, A0.rw.injEq, A0.fn.injEq, List.cons.injEq, RC.ints.injEq, RC.recs.injEq, RC.bools.injEq, AV.one.injEq, AV.tup.injEq, ble_dec, blt_dec, Nat.reduceLeDiff, Nat.reduceSub, decide_true, decide_false, and_self, List.toList_toArray, Option.isSome_some, Option.isSome_none, List.elem_nil, List.elem_cons, ite_true, ite_false, Bool.false_eq_true, if_true, if_false, reduceIte, flatB_2, flatB_3, flatB_4, List.headD_cons, List.tail_cons, fm_length, seeds, seed1]; simp [fl_nil]) fun k hk J hJ => ⟨1000, ?_⟩
  simp only [vc, out, step, stepE, stepPick, stepG, stepO, stepC, eff, look, rem, St.put, St.setMem, setMems, St.after, St.eval, cst, setAt, val1, okNew, newHs, allHs, rdOf, outHs, Reg.item, Reg.next, Reg.skip, slotOf, effBox, effAlloc, entryRow, fieldOff, effField, loadI, load1, loadR, effLoad, storeI, storeB, storeR, szOk, storeTo, effStore, buildOf, effBuild, binInt, eqI, boolOf, binBool, effBin, effUn, effPick, effExtract, ivs, svs, rowOf, allParts, effBuildSlice, zeroRow, effMakeSlice, elemSz, idxA, idxS, effIndex, lenOf, readOf, subPre, maxRow, plainTI, appTo, effAppend, slcOf, effSlice, argOf, resA, resL, resV, outWr, nodupB, restOk, argsPre, argOk, callWr, effCall, effMax, wrHs, disj, AV.hs, A0.hs, Entry.hs, RC.elem, RC.sz, RC.len, RC.slice, RC.app, hA, initFr, initMem, initSt, resOf, resAll, compEq, compsEq, rowHs, outHds, outsEq, shapeOk, finOk, comps, A0.norm, AV.norm, specOf, t_int, t_bool, t_implForm, t_lawsForm, t_implMatrix, t_implPoint, t_implTriple, t_implSpot, t_implunited, ts_int, ts_implForm, ts_implSpot, ts_implPoint, ts_implMatrix, Option.getD_some, Option.getD_none, cond_true, cond_false, Nat.reduceBEq, List.map_cons, List.map_nil, List.set_cons_zero, List.set_cons_succ, List.getElem?_cons_zero, List.getElem?_cons_succ, List.drop_zero, List.drop_succ_cons, List.take_succ_cons, List.take_zero, Option.map_some, Option.map_none, Option.bind_some, Nat.zero_add, Nat.add_zero, Nat.reduceAdd, Nat.reduceMul, true_and, and_true, List.replicate_succ, List.replicate_zero, List.length_cons, List.length_nil, List.all_cons, List.all_nil, List.any_cons, List.any_nil, Bool.and_true, Bool.true_and, Bool.and_false, Bool.false_and, Bool.or_true, Bool.true_or, Bool.or_false, Bool.false_or, Bool.not_true, Bool.not_false, List.append_nil, List.nil_append, List.cons_append, List.flatMap_cons, List.flatMap_nil, List.contains_cons, List.contains_nil, List.filter_cons, List.filter_nil, beq_self_eq_true, Bool.not_eq_true, A0.b.injEq, A0.i.injEq, A0.s.injEq, A0.rw.injEq, A0.fn.injEq, List.cons.injEq, RC.ints.injEq, RC.recs.injEq, RC.bools.injEq, AV.one.injEq, AV.tup.injEq, ble_dec, blt_dec, Nat.reduceLeDiff, Nat.reduceSub, decide_true, decide_false, and_self, List.toList_toArray, Option.isSome_some, Option.isSome_none, List.elem_nil, List.elem_cons, ite_true, ite_false, Bool.false_eq_true, if_true, if_false, reduceIte, flatB_2, flatB_3, flatB_4, List.headD_cons, List.tail_cons, cFoAct, fFoAct, actI, rng4, Int.toNat_natCast, fm_length]
  rw [bif_prop]
  refine ⟨fun hc => ?_, fun hc => ?_⟩
  · have hlt := ilt_iff.1 hc
    have hw := wsucc hlt (Nat.le_trans hlen (by omega))
    have hlt' : k < (fm (smL p)).length := by rw [fm_length]; exact hlt
    have ht := unfm_take (fm (smL p)) hlt'
    have hm := unfm_mem (fm (smL p)) hlt'
    rw [unfm_fm] at ht hm
    obtain ⟨⟨g1, g2, g3⟩, _⟩ := sub_act hr hp1 hm
    simp only at g1 g2 g3
    refine ⟨⟨by omega, by omega⟩, hlt, ?_, hJ _ (k + 1) [(2000000, 23)] hlt (by omega) ?_⟩
    · rw [List.length_append, fl_length, List.length_map, List.length_take, List.length_singleton]; omega
    · simp only [Cov, covOk, covFr, covMem, entEq, rn, nodupB, A0.ren, AV.ren, Entry.ren, Entry.norm, vc, out, step, stepE, stepPick, stepG, stepO, stepC, eff, look, rem, St.put, St.setMem, setMems, St.after, St.eval, cst, setAt, val1, okNew, newHs, allHs, rdOf, outHs, Reg.item, Reg.next, Reg.skip, slotOf, effBox, effAlloc, entryRow, fieldOff, effField, loadI, load1, loadR, effLoad, storeI, storeB, storeR, szOk, storeTo, effStore, buildOf, effBuild, binInt, eqI, boolOf, binBool, effBin, effUn, effPick, effExtract, ivs, svs, rowOf, allParts, effBuildSlice, zeroRow, effMakeSlice, elemSz, idxA, idxS, effIndex, lenOf, readOf, subPre, maxRow, plainTI, appTo, effAppend, slcOf, effSlice, argOf, resA, resL, resV, outWr, nodupB, restOk, argsPre, argOk, callWr, effCall, effMax, wrHs, disj, AV.hs, A0.hs, Entry.hs, RC.elem, RC.sz, RC.len, RC.slice, RC.app, hA, initFr, initMem, initSt, resOf, resAll, compEq, compsEq, rowHs, outHds, outsEq, shapeOk, finOk, comps, A0.norm, AV.norm, specOf, t_int, t_bool, t_implForm, t_lawsForm, t_implMatrix, t_implPoint, t_implTriple, t_implSpot, t_implunited, ts_int, ts_implForm, ts_implSpot, ts_implPoint, ts_implMatrix, Option.getD_some, Option.getD_none, cond_true, cond_false, Nat.reduceBEq, List.map_cons, List.map_nil, List.set_cons_zero, List.set_cons_succ, List.getElem?_cons_zero, List.getElem?_cons_succ, List.drop_zero, List.drop_succ_cons, List.take_succ_cons, List.take_zero, Option.map_some, Option.map_none, Option.bind_some, Nat.zero_add, Nat.add_zero, Nat.reduceAdd, Nat.reduceMul, true_and, and_true, List.replicate_succ, List.replicate_zero, List.length_cons, List.length_nil, List.all_cons, List.all_nil, List.any_cons, List.any_nil, Bool.and_true, Bool.true_and, Bool.and_false, Bool.false_and, Bool.or_true, Bool.true_or, Bool.or_false, Bool.false_or, Bool.not_true, Bool.not_false, List.append_nil, List.nil_append, List.cons_append, List.flatMap_cons, List.flatMap_nil, List.contains_cons, List.contains_nil, List.filter_cons, List.filter_nil, beq_self_eq_true, Bool.not_eq_true, A0.b.injEq, A0.i.injEq, A0.s.injEq, A0.rw.injEq, A0.fn.injEq, List.cons.injEq, RC.ints.injEq, RC.recs.injEq, RC.bools.injEq, AV.one.injEq, AV.tup.injEq, ble_dec, blt_dec, Nat.reduceLeDiff, Nat.reduceSub, decide_true, decide_false, and_self, List.toList_toArray, Option.isSome_some, Option.isSome_none, List.elem_nil, List.elem_cons, ite_true, ite_false, Bool.false_eq_true, if_true, if_false, reduceIte, flatB_2, flatB_3, flatB_4, List.headD_cons, List.tail_cons, hw, ht, g1, g2, g3, fl_snoc, List.map_append]
  · have := inlt_iff.1 hc
    rw [List.take_of_length_le this]
    rfl
theorem class_redP {a b c : Int} (h : classB a b c = true) : RedP (rdA a b c, rdB a b c, rdC a b c) := by
  have hd := class_domB h
  obtain ⟨_, h1, h2, _⟩ := class_disc h
  have hr := rdx_red (x := (a, b, c)) hd
  have e : rdx (a, b, c) = (rdA a b c, rdB a b c, rdC a b c) := (rd3_eq hd).symm
  rw [e] at hr
  exact RedP.of ⟨h1, h2⟩ hr
def slB (a b c p : Int) : Bool := classB a b c && idxB p
def slL (a b c p : Int) : List F3 := sfL (rdA a b c, rdB a b c, rdC a b c) p
-- (not in this seat: SublForms)
-- (not in this seat: SSublForms)
theorem onl_le {b : Bool} {L : List F3} {n : Nat} (h : b = true → L.length ≤ n) : (fl (onL b L)).length ≤ n := by
  rw [fl_length]
  cases b with
  | false => simp [onL]
  | true => exact h rfl
theorem slB_idx {a b c p : Int} (h : slB a b c p = true) : 2 ≤ p ∧ p ≤ 43 := by
  unfold slB at h
  rw [Bool.and_eq_true] at h
  exact idx_in h.2
-- (not in this seat: LawSublForms)
end Go.Proofs.Ytbhkndaejmnmkaa
