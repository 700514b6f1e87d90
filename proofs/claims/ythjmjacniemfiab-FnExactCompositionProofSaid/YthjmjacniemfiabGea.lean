/-
  Contracts of the lists of ambiguous classes on both sides, of exponents, and of the laws on them. Conditions: none.
-/
import Derived.Test.YthjmjacniemfiabAm
namespace Go.Proofs.Ythjmjacniemfiab
open Go Go.RowKit
set_option maxRecDepth 100000
set_option linter.unusedSimpArgs false
set_option linter.unusedVariables false
set_option maxHeartbeats 4000000

theorem mem_redF {d : Int} (hd : -2000 ≤ d ∧ d ≤ -3) {x : F3} : x ∈ redF d ↔ IsRed d x ∧ primB x = true := by
  unfold redF
  rw [List.mem_filter, mem_allRed hd]
theorem red_rd3 {d : Int} (hd : -2000 ≤ d) {x : F3} (h : IsRed d x) : domB x.1 x.2.1 x.2.2 = true ∧ rd3 x.1 x.2.1 x.2.2 = x := by
  have h1 := red_domB (by omega) h
  have h2 := (h.small hd).2.1
  exact ⟨h1, (rd3_eq h1).trans (rdx_of_red (red_of h (by omega)))⟩
def ambL (d : Int) : List F3 := (redF d).filter ambB
theorem ambL_len {d : Int} (hd : -2000 ≤ d) : (ambL d).length ≤ 1300 := Nat.le_trans (List.length_filter_le _ _) (redF_len hd)
-- (not in this seat: Ambiguous)
-- (not in this seat: GeAll)
-- (not in this seat: AmbClasses)
-- (not in this seat: SAmbClasses)
theorem held_pos (n : Nat) : decide (1 + 3 * (n : Int) < 0) = false := by rw [decide_eq_false_iff_not]; omega
-- (not in this seat: LawAmbClasses)
def allAmbB (d : Int) : Bool := (((ambL d).length : Int) == ((redF d).length : Int))
-- (not in this seat: AllAmb)
-- (not in this seat: SAllAmb)
-- (not in this seat: LawAllAmb)
def idoB (n : Int) : Bool := allAmbB (-4 * n)
-- (not in this seat: IsIdo)
-- (not in this seat: IpIdo)
def facB (n : Int) : Bool := inI n 1 500
-- (not in this seat: IsFactor)
theorem facB_in {n : Int} (h : facB n = true) : 1 ≤ n ∧ n ≤ 500 := by
  simp only [facB, inI, Bool.and_eq_true, decide_eq_true_eq] at h
  exact h
-- (not in this seat: IsIdoneal)
-- (not in this seat: SIsIdoneal)
-- (not in this seat: LawIsIdoneal)

/-! ### exponents -/
def expI (n p : Int) : Int := if _h : 0 < n ∧ 1 < p ∧ n.tmod p = 0 then expI (n.tdiv p) p + 1 else 0
  termination_by n.natAbs
  decreasing_by
    rw [Int.natAbs_tdiv]
    exact Nat.div_lt_self (by omega) (by omega)
theorem quo_pos {n p : Int} (hn : 0 < n) (hp : 1 < p) (h : n.tmod p = 0) : 0 < n.tdiv p ∧ n.tdiv p < n := by
  have h1 : n.tdiv p = n / p := Int.tdiv_eq_ediv_of_nonneg (by omega)
  have h2 : n.tmod p = n % p := Int.tmod_eq_emod_of_nonneg (by omega)
  have h3 := Int.mul_ediv_add_emod n p
  rw [h2] at h
  rw [h1]
  have h4 : 0 ≤ n / p := Int.ediv_nonneg (by omega) (by omega)
  have h5 : n / p ≠ 0 := fun e => by rw [e, h] at h3; simp at h3; omega
  have h6 : 2 * (n / p) ≤ p * (n / p) := Int.mul_le_mul_of_nonneg_right (by omega) h4
  omega
-- (not in this seat: Exponent)
abbrev fNuExponent : Nat := 96
def cNuExponent : Ctr
  | [.i n, .i p] => some ⟨0 < n ∧ n ≤ 1000000000 ∧ 1 < p, .one (.i (expI n p)), []⟩
  | _ => none
theorem okNuExponent : CtrOk Try.prog fNuExponent cNuExponent := by
  have hsp : SpecOk Try.prog (specOf []) := SpecOk.nil
  refine ctr_of (fn := Try.f96) mixed tab_ok hsp Try.func96 (by kernel_rfl) (by kernel_rfl) fun args ce h => ?_
  clear hsp
  unfold cNuExponent at h
  split at h
  case h_2 => cases h
  rename_i n p
  simp only [Option.some.injEq] at h
  subst h
  refine ⟨by rfl, fun hp => ⟨1, 1000, ?_⟩⟩
  simp only [vc, out, step, stepE, stepPick, stepG, stepO, stepC, eff, look, rem, St.put, St.setMem, setMems, St.after, St.eval, cst, setAt, val1, okNew, newHs, allHs, rdOf, outHs, Reg.item, Reg.next, Reg.skip, slotOf, effBox, effAlloc, entryRow, fieldOff, effField, loadI, load1, loadR, effLoad, storeI, storeB, storeR, szOk, storeTo, effStore, buildOf, effBuild, binInt, eqI, boolOf, binBool, effBin, effUn, effPick, effExtract, ivs, svs, rowOf, allParts, effBuildSlice, zeroRow, effMakeSlice, elemSz, idxA, idxS, effIndex, lenOf, readOf, subPre, maxRow, plainTI, appTo, effAppend, slcOf, effSlice, argOf, resA, resL, resV, outWr, nodupB, restOk, argsPre, argOk, callWr, effCall, effMax, cutSlc, arrElem, cutOf, wrHs, disj, AV.hs, A0.hs, Entry.hs, RC.elem, RC.sz, RC.len, RC.slice, RC.app, hA, initFr, initMem, initSt, resOf, resAll, compEq, compsEq, rowHs, outHds, outsEq, shapeOk, finOk, comps, A0.norm, AV.norm, specOf, t_int, t_bool, t_implForm, t_lawsForm, t_implMatrix, t_implTriple, t_lawsTriple, t_implSpot, t_implunited, t_implCharacter, t_implSymbolStep, t_implbilinear, t_a3int, t_a4int, ts_int, ts_implCharacter, Option.getD_some, Option.getD_none, cond_true, cond_false, Nat.reduceBEq, List.map_cons, List.map_nil, List.set_cons_zero, List.set_cons_succ, List.getElem?_cons_zero, List.getElem?_cons_succ, List.drop_zero, List.drop_succ_cons, List.take_succ_cons, List.take_zero, Option.map_some, Option.map_none, Option.bind_some, Nat.zero_add, Nat.add_zero, Nat.reduceAdd, Nat.reduceMul, true_and, and_true, List.replicate_succ, List.replicate_zero, List.length_cons, List.length_nil, List.all_cons, List.all_nil, List.any_cons, List.any_nil, Bool.and_true, Bool.true_and, Bool.and_false, Bool.false_and, Bool.or_true, Bool.true_or, Bool.or_false, Bool.false_or, Bool.not_true, Bool.not_false, List.append_nil, List.nil_append, List.cons_append, List.flatMap_cons, List.flatMap_nil, List.contains_cons, List.contains_nil, List.filter_cons, List.filter_nil, beq_self_eq_true, Bool.not_eq_true, A0.b.injEq, A0.i.injEq, A0.s.injEq, A0.rw.injEq, A0.fn.injEq, List.cons.injEq, RC.ints.injEq, RC.recs.injEq, RC.bools.injEq, AV.one.injEq, AV.tup.injEq, ble_dec, blt_dec, Nat.reduceLeDiff, Nat.reduceSub, decide_true, decide_false, and_self, List.toList_toArray, Option.isSome_some, Option.isSome_none, List.elem_nil, List.elem_cons, ite_true, ite_false, Bool.false_eq_true, if_true, if_false, reduceIte, flatB_2, flatB_3, flatB_4, List.headD_cons, List.tail_cons, Try.f96]
  obtain ⟨hn, hn1, hp1⟩ : 0 < n ∧ n ≤ 1000000000 ∧ 1 < p := hp
  refine lp_intro (fun x : Int × Int => ⟨[(0, .one (.i x.1)), (1, .one (.i p)), (5, .one (.i x.2))], []⟩) (fun x => 0 < x.1 ∧ 0 ≤ x.2 ∧ x.1 + x.2 ≤ n ∧ x.2 + expI x.1 p = expI n p) (fun x => x.1.toNat) (n, 0) [] ⟨hn, Int.le_refl _, by simp, by simp⟩ (by simp only [Cov, covOk, covFr, covMem, entEq, rn, nodupB, A0.ren, AV.ren, Entry.ren, Entry.norm, vc, out, step, stepE, stepPick, stepG, stepO, stepC, eff, look, rem, St.put, St.setMem, setMems, St.after, St.eval, cst, setAt, val1, okNew, newHs, allHs, rdOf, outHs, Reg.item, Reg.next, Reg.skip, slotOf, effBox, effAlloc, entryRow, fieldOff, effField, loadI, load1, loadR, effLoad, storeI, storeB, storeR, szOk, storeTo, effStore, buildOf, effBuild, binInt, eqI, boolOf, binBool, effBin, effUn, effPick, effExtract, ivs, svs, rowOf, allParts, effBuildSlice, zeroRow, effMakeSlice, elemSz, idxA, idxS, effIndex, lenOf, readOf, subPre, maxRow, plainTI, appTo, effAppend, slcOf, effSlice, argOf, resA, resL, resV, outWr, nodupB, restOk, argsPre, argOk, callWr, effCall, effMax, cutSlc, arrElem, cutOf, wrHs, disj, AV.hs, A0.hs, Entry.hs, RC.elem, RC.sz, RC.len, RC.slice, RC.app, hA, initFr, initMem, initSt, resOf, resAll, compEq, compsEq, rowHs, outHds, outsEq, shapeOk, finOk, comps, A0.norm, AV.norm, specOf, t_int, t_bool, t_implForm, t_lawsForm, t_implMatrix, t_implTriple, t_lawsTriple, t_implSpot, t_implunited, t_implCharacter, t_implSymbolStep, t_implbilinear, t_a3int, t_a4int, ts_int, ts_implCharacter, Option.getD_some, Option.getD_none, cond_true, cond_false, Nat.reduceBEq, List.map_cons, List.map_nil, List.set_cons_zero, List.set_cons_succ, List.getElem?_cons_zero, List.getElem?_cons_succ, List.drop_zero, List.drop_succ_cons, List.take_succ_cons, List.take_zero, Option.map_some, Option.map_none, Option.bind_some, Nat.zero_add, Nat.add_zero, Nat.reduceAdd, Nat.reduceMul, true_and, and_true, List.replicate_succ, List.replicate_zero, List.length_cons, List.length_nil, List.all_cons, List.all_nil, List.any_cons, List.any_nil, Bool.and_true, Bool.true_and, Bool.and_false, Bool.false_and, Bool.or_true, Bool.true_or, Bool.or_false, Bool.false_or, Bool.not_true, Bool.not_false, List.append_nil, List.nil_append, List.cons_append, List.flatMap_cons, List.flatMap_nil, List.contains_cons, List.contains_nil, List.filter_cons, List.filter_nil, beq_self_eq_true, Bool.not_eq_true, A0.b.injEq, A0.i.injEq, A0.s.injEq, A0.rw.injEq, A0.fn.injEq, List.cons.injEq, RC.ints.injEq, RC.recs.injEq, RC.bools.injEq, AV.one.injEq, AV.tup.injEq, ble_dec, blt_dec, Nat.reduceLeDiff, Nat.reduceSub, decide_true, decide_false, and_self, List.toList_toArray, Option.isSome_some, Option.isSome_none, List.elem_nil, List.elem_cons, ite_true, ite_false, Bool.false_eq_true, if_true, if_false, reduceIte, flatB_2, flatB_3, flatB_4, List.headD_cons, List.tail_cons]) fun x hx J hJ => ⟨1000, ?_⟩
  obtain ⟨h1, h2, h3, h4⟩ := hx
  simp only [vc, out, step, stepE, stepPick, stepG, stepO, stepC, eff, look, rem, St.put, St.setMem, setMems, St.after, St.eval, cst, setAt, val1, okNew, newHs, allHs, rdOf, outHs, Reg.item, Reg.next, Reg.skip, slotOf, effBox, effAlloc, entryRow, fieldOff, effField, loadI, load1, loadR, effLoad, storeI, storeB, storeR, szOk, storeTo, effStore, buildOf, effBuild, binInt, eqI, boolOf, binBool, effBin, effUn, effPick, effExtract, ivs, svs, rowOf, allParts, effBuildSlice, zeroRow, effMakeSlice, elemSz, idxA, idxS, effIndex, lenOf, readOf, subPre, maxRow, plainTI, appTo, effAppend, slcOf, effSlice, argOf, resA, resL, resV, outWr, nodupB, restOk, argsPre, argOk, callWr, effCall, effMax, cutSlc, arrElem, cutOf, wrHs, disj, AV.hs, A0.hs, Entry.hs, RC.elem, RC.sz, RC.len, RC.slice, RC.app, hA, initFr, initMem, initSt, resOf, resAll, compEq, compsEq, rowHs, outHds, outsEq, shapeOk, finOk, comps, A0.norm, AV.norm, specOf, t_int, t_bool, t_implForm, t_lawsForm, t_implMatrix, t_implTriple, t_lawsTriple, t_implSpot, t_implunited, t_implCharacter, t_implSymbolStep, t_implbilinear, t_a3int, t_a4int, ts_int, ts_implCharacter, Option.getD_some, Option.getD_none, cond_true, cond_false, Nat.reduceBEq, List.map_cons, List.map_nil, List.set_cons_zero, List.set_cons_succ, List.getElem?_cons_zero, List.getElem?_cons_succ, List.drop_zero, List.drop_succ_cons, List.take_succ_cons, List.take_zero, Option.map_some, Option.map_none, Option.bind_some, Nat.zero_add, Nat.add_zero, Nat.reduceAdd, Nat.reduceMul, true_and, and_true, List.replicate_succ, List.replicate_zero, List.length_cons, List.length_nil, List.all_cons, List.all_nil, List.any_cons, List.any_nil, Bool.and_true, Bool.true_and, Bool.and_false, Bool.false_and, Bool.or_true, Bool.true_or, Bool.or_false, Bool.false_or, Bool.not_true, Bool.not_false, List.append_nil, List.nil_append, List.cons_append, List.flatMap_cons, List.flatMap_nil, List.contains_cons, List.contains_nil, List.filter_cons, List.filter_nil, beq_self_eq_true, Bool.not_eq_true, A0.b.injEq, A0.i.injEq, A0.s.injEq, A0.rw.injEq, A0.fn.injEq, List.cons.injEq, RC.ints.injEq, RC.recs.injEq, RC.bools.injEq, AV.one.injEq, AV.tup.injEq, ble_dec, blt_dec, Nat.reduceLeDiff, Nat.reduceSub, decide_true, decide_false, and_self, List.toList_toArray, Option.isSome_some, Option.isSome_none, List.elem_nil, List.elem_cons, ite_true, ite_false, Bool.false_eq_true, if_true, if_false, reduceIte, flatB_2, flatB_3, flatB_4, List.headD_cons, List.tail_cons]
  refine ⟨by omega, ?_⟩
  rw [bif_prop]
  refine ⟨fun hb => ?_, fun hb => ?_⟩
  · have hb' : x.1.tmod p = 0 := by simpa using hb
    obtain ⟨q1, q2⟩ := quo_pos h1 hp1 hb'
    refine ⟨by omega, hJ _ (x.1.tdiv p, x.2 + 1) [] ⟨q1, by simp only; omega, by simp only; omega, ?_⟩ (by simp only; omega) (by simp only [Cov, covOk, covFr, covMem, entEq, rn, nodupB, A0.ren, AV.ren, Entry.ren, Entry.norm, vc, out, step, stepE, stepPick, stepG, stepO, stepC, eff, look, rem, St.put, St.setMem, setMems, St.after, St.eval, cst, setAt, val1, okNew, newHs, allHs, rdOf, outHs, Reg.item, Reg.next, Reg.skip, slotOf, effBox, effAlloc, entryRow, fieldOff, effField, loadI, load1, loadR, effLoad, storeI, storeB, storeR, szOk, storeTo, effStore, buildOf, effBuild, binInt, eqI, boolOf, binBool, effBin, effUn, effPick, effExtract, ivs, svs, rowOf, allParts, effBuildSlice, zeroRow, effMakeSlice, elemSz, idxA, idxS, effIndex, lenOf, readOf, subPre, maxRow, plainTI, appTo, effAppend, slcOf, effSlice, argOf, resA, resL, resV, outWr, nodupB, restOk, argsPre, argOk, callWr, effCall, effMax, cutSlc, arrElem, cutOf, wrHs, disj, AV.hs, A0.hs, Entry.hs, RC.elem, RC.sz, RC.len, RC.slice, RC.app, hA, initFr, initMem, initSt, resOf, resAll, compEq, compsEq, rowHs, outHds, outsEq, shapeOk, finOk, comps, A0.norm, AV.norm, specOf, t_int, t_bool, t_implForm, t_lawsForm, t_implMatrix, t_implTriple, t_lawsTriple, t_implSpot, t_implunited, t_implCharacter, t_implSymbolStep, t_implbilinear, t_a3int, t_a4int, ts_int, ts_implCharacter, Option.getD_some, Option.getD_none, cond_true, cond_false, Nat.reduceBEq, List.map_cons, List.map_nil, List.set_cons_zero, List.set_cons_succ, List.getElem?_cons_zero, List.getElem?_cons_succ, List.drop_zero, List.drop_succ_cons, List.take_succ_cons, List.take_zero, Option.map_some, Option.map_none, Option.bind_some, Nat.zero_add, Nat.add_zero, Nat.reduceAdd, Nat.reduceMul, true_and, and_true, List.replicate_succ, List.replicate_zero, List.length_cons, List.length_nil, List.all_cons, List.all_nil, List.any_cons, List.any_nil, Bool.and_true, Bool.true_and, Bool.and_false, Bool.false_and, Bool.or_true, Bool.true_or, Bool.or_false, Bool.false_or, Bool.not_true, Bool.not_false, List.append_nil, List.nil_append, List.cons_append, List.flatMap_cons, List.flatMap_nil, List.contains_cons, List.contains_nil, List.filter_cons, List.filter_nil, beq_self_eq_true, Bool.not_eq_true, A0.b.injEq, A0.i.injEq, A0.s.injEq, A0.rw.injEq, A0.fn.injEq, List.cons.injEq, RC.ints.injEq, RC.recs.injEq, RC.bools.injEq, AV.one.injEq, AV.tup.injEq, ble_dec, blt_dec, Nat.reduceLeDiff, Nat.reduceSub, decide_true, decide_false, and_self, List.toList_toArray, Option.isSome_some, Option.isSome_none, List.elem_nil, List.elem_cons, ite_true, ite_false, Bool.false_eq_true, if_true, if_false, reduceIte, flatB_2, flatB_3, flatB_4, List.headD_cons, List.tail_cons, wrap_id (n := x.2 + 1) (by omega) (by omega), wrap_id (n := x.1.tdiv p) (by omega) (by omega)])⟩
    rw [expI.eq_def x.1, dif_pos ⟨h1, hp1, hb'⟩] at h4
    simp only
    omega
  · have hb' : ¬ x.1.tmod p = 0 := by simpa using hb
    rw [expI.eq_def x.1, dif_neg (fun h => hb' h.2.2)] at h4
    omega
theorem gcdL_1 (n : Int) (hn : n.natAbs ≤ 1000000000) : gcdI 1 n = 1 := by
  rw [gcdI_eq (by omega) hn]; simp
theorem prI_mem {d : Int} (h : negB d = true) : prI d ∈ ambL d := by
  have hd := negB_in h
  obtain ⟨e, hr⟩ := prI_eq (d := d) ⟨by omega, by omega⟩ (negB_mod h)
  unfold ambL
  rw [List.mem_filter, mem_redF hd]
  have hs := hr.small hd.1
  have e1 : (prI d).1 = 1 := by rw [e]
  refine ⟨⟨hr, ?_⟩, ?_⟩
  · unfold primB
    rw [e1, gcdL_1]
    · rfl
    · have h2 := gcd_le (a := (prI d).2.1) (b := (prI d).2.2) (by omega) (by omega)
      rw [gcdI_eq (by omega) (by omega)]
      omega
  · have h3 : (prI d).2.1 = 0 ∨ (prI d).2.1 = 1 := by rw [e]; simp only; omega
    unfold ambB
    rw [e1]
    rcases h3 with h3 | h3 <;> rw [h3] <;> rfl
theorem ambL_pos {d : Int} (h : negB d = true) : 0 < (ambL d).length := List.length_pos_of_mem (prI_mem h)
-- (not in this seat: TwoRank)
-- (not in this seat: STwoRank)
-- (not in this seat: LawTwoRank)
end Go.Proofs.Ythjmjacniemfiab
