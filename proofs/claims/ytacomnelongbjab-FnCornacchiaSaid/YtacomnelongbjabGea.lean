/-
  Contracts of the lists of ambiguous classes on both sides, of exponents, and of the laws on them. Conditions: none.
-/
import Derived.Test.YtacomnelongbjabAm
namespace Go.Proofs.Ytacomnelongbjab
open Go Go.RowKit
set_option maxRecDepth 100000
set_option linter.unusedSimpArgs false
set_option linter.unusedVariables false
set_option maxHeartbeats 4000000

theorem mem_redF {d : Int} (hd : -2000 ≤ d ∧ d ≤ -3) {x : F3} : x ∈ redF d ↔ IsRed d x ∧ primB x = true := by
  unfold redF
  rw [List.mem_filter, mem_allRed hd]
theorem red_rd3 {d : Int} (hd : -2000 ≤ d) {x : F3} (h : IsRed d x) : domB x.1 x.2.1 x.2.2 = true ∧ rd3 x.1 x.2.1 x.2.2 = x := by
  have h1 := red_domB (by omega) h
  have h2 := (h.small hd).2.1
  exact ⟨h1, (rd3_eq h1).trans (rdx_of_red (red_of h (by omega)))⟩
def ambL (d : Int) : List F3 := (redF d).filter ambB
theorem ambL_len {d : Int} (hd : -2000 ≤ d) : (ambL d).length ≤ 1300 := Nat.le_trans (List.length_filter_le _ _) (redF_len hd)
abbrev fFormsLike : Nat := 48
def cFormsLike : Ctr
  | [.i d, .fn f] => some ⟨(-2000 ≤ d ∧ d ≤ -3) ∧ f = fIsAmb, .one (.rw (.recs 66 3 (fl (ambL d)))), []⟩
  | _ => none
theorem okFormsLike : CtrOk Try.prog fFormsLike cFormsLike := by
  have hsp : SpecOk Try.prog (specOf [(fRedForms, cRedForms), (fIsAmb, cIsAmb)]) := (SpecOk.cons okRedForms (SpecOk.cons okIsAmb SpecOk.nil))
  refine ctr_of (fn := Try.f48) mixed tab_ok hsp Try.func48 (by kernel_rfl) (by kernel_rfl) fun args ce h => ?_
  clear hsp
  unfold cFormsLike at h
  split at h
  case h_2 => cases h
  rename_i d f
  simp only [Option.some.injEq] at h
  subst h
  refine ⟨by rfl, fun hp => ⟨1, 1000, ?_⟩⟩
  obtain ⟨hd, hf⟩ : (-2000 ≤ d ∧ d ≤ -3) ∧ f = fIsAmb := hp
  subst hf
  simp only [vc, out, Entry.toO, toOf, St.res, step, stepE, stepPick, stepO, eff, look, rem, St.put, St.setMem, setMems, St.after, St.eval, cst, val1, okNew, newHs, allHs, rdOf, Reg.item, Reg.next, entryRow, svs, rowOf, allParts, effBuildSlice, elemSz, lenOf, subPre, argOf, resA, resV, argsPre, argOk, callWr, effCall, RC.flat, effBuildSl, callGo, calleeHs, lenOf2, effCall2, wrHs, disj, AV.hs, A0.hs, Entry.hs, RC.sz, RC.len, hA, initFr, initMem, initSt, specOf, t_implForm, ts_implForm, Option.getD_some, cond_true, cond_false, Nat.reduceBEq, List.map_cons, List.map_nil, Option.map_some, Nat.zero_add, true_and, and_true, List.all_cons, List.all_nil, Bool.and_true, Bool.or_false, Bool.not_false, List.append_nil, List.nil_append, List.cons_append, List.flatMap_cons, List.flatMap_nil, List.contains_cons, List.contains_nil, List.filter_cons, List.filter_nil, beq_self_eq_true, ble_dec, blt_dec, Nat.reduceLeDiff, decide_true, and_self, List.toList_toArray, Option.isSome_some, ite_true, cRedForms, fRedForms, fIsAmb, Try.f48]
  have hlen := redF_len hd.1
  refine ⟨hd, ?_⟩
  refine lp_intro (fun n : Nat => ⟨[(1, .one (.fn fIsAmb)), (5, .one (.row 8)), (10, .one (.row 10)), (11, .one (.i (redF d).length)), (12, .one (.i n))], [(10, .row (.recs 66 3 (fl (redF d)))), (8, .row (.recs 66 3 (fl (((redF d).take n).filter ambB))))]⟩)
    (fun n => n ≤ (redF d).length) (fun n => (redF d).length - n) 0 [] (Nat.zero_le _) (by simp only [Cov, covOk, covFr, covMem, entEq, rn, nodupB, A0.ren, AV.ren, Entry.ren, Entry.norm, look, St.eval, A0.norm, AV.norm, Option.getD_some, Option.getD_none, cond_true, cond_false, Nat.reduceBEq, List.map_cons, List.map_nil, List.take_zero, true_and, and_true, List.all_nil, Bool.and_true, Bool.or_false, Bool.not_false, List.contains_cons, List.contains_nil, List.filter_nil, beq_self_eq_true, A0.i.injEq, AV.one.injEq, fl_length]; simp [fl_nil]) fun n hn J hJ => ⟨1000, ?_⟩
  simp only [vc, out, finD, St.drop, vwAt, Entry.vwO, RC.vwO, Entry.toO, toOf, St.res, step, stepE, stepPick, stepO, stepC, eff, look, rem, St.put, St.setMem, setMems, St.after, St.eval, cst, setAt, val1, okNew, newHs, allHs, rdOf, Reg.item, Reg.next, effAlloc, entryRow, loadI, loadR, effLoad, storeI, szOk, storeTo, effStore, binInt, effBin, svs, rowOf, allParts, effBuildSlice, idxS, effIndex, readOf, subPre, maxRow, plainTI, appTo, effAppend, argOf, resA, resV, nodupB, argsPre, argOk, callWr, effCall, RC.flat, effBuildSl, callGo, effAlloc2, effLoad2, effStore2, effAppend2, calleeHs, effLoad3, effStore3, effIndex2, effBin2, effCall2, wrHs, disj, AV.hs, A0.hs, Entry.hs, RC.elem, RC.sz, RC.len, RC.app, resOf, resAll, compEq, compsEq, rowHs, outHds, outsEq, shapeOk, finOk, comps, specOf, t_implForm, ts_implForm, Option.getD_some, cond_true, cond_false, Nat.reduceBEq, List.map_cons, List.map_nil, List.set_cons_zero, List.set_cons_succ, List.drop_zero, List.take_succ_cons, List.take_zero, Option.map_some, Nat.zero_add, Nat.reduceAdd, true_and, and_true, List.replicate_succ, List.replicate_zero, List.length_cons, List.length_nil, List.all_cons, List.all_nil, Bool.and_true, Bool.or_false, Bool.not_true, Bool.not_false, List.append_nil, List.nil_append, List.cons_append, List.flatMap_cons, List.flatMap_nil, List.contains_cons, List.contains_nil, List.filter_cons, List.filter_nil, beq_self_eq_true, RC.recs.injEq, ble_dec, blt_dec, Nat.reduceLeDiff, decide_true, and_self, ite_true, ite_false, Bool.false_eq_true, cIsAmb, fIsAmb, rng3, Int.toNat_natCast, fl_length]
  rw [bif_prop]
  refine ⟨fun hc => ?_, fun hc => ?_⟩
  · have hlt := ilt_iff.1 hc
    have hw := wsucc hlt (Nat.le_trans hlen (by omega))
    have hl := fl_take_len (l := fl (redF d)) ambB n
    have ht := unfl_take (fl (redF d)) (by rw [fl_length]; exact hlt)
    rw [unfl_fl] at ht hl
    rw [fl_length] at hl
    refine ⟨⟨by omega, by omega⟩, hlt, ?_⟩
    rw [bif_prop]
    refine ⟨fun h1 => ⟨?_, hJ _ (n + 1) [(8, 22)] hlt (by omega) ?_⟩, fun h1 => hJ _ (n + 1) [] hlt (by omega) ?_⟩
    · rw [List.length_append, fl_length, List.length_singleton]; omega
    · have h2 : ambB (nth3 (fl (redF d)) n) = true := h1
      simp only [Cov, covOk, covFr, covMem, entEq, rn, nodupB, A0.ren, AV.ren, Entry.ren, Entry.norm, look, St.eval, A0.norm, AV.norm, Option.getD_some, Option.getD_none, cond_true, cond_false, Nat.reduceBEq, List.map_cons, List.map_nil, List.all_nil, Bool.and_true, Bool.or_false, Bool.not_false, List.contains_cons, List.contains_nil, beq_self_eq_true, and_self, ite_true, hw, ht, filter_snoc, h2, fl_snoc]
    · have h2 : ambB (nth3 (fl (redF d)) n) = false := h1
      simp only [Cov, covOk, covFr, covMem, entEq, rn, nodupB, A0.ren, AV.ren, Entry.ren, Entry.norm, look, St.eval, A0.norm, AV.norm, Option.getD_some, Option.getD_none, cond_true, cond_false, Nat.reduceBEq, List.map_cons, List.map_nil, List.all_nil, Bool.and_true, Bool.or_false, Bool.not_false, List.append_nil, List.contains_cons, List.contains_nil, beq_self_eq_true, and_self, ite_false, Bool.false_eq_true, hw, ht, filter_snoc, h2]
  · have := inlt_iff.1 hc
    rw [List.take_of_length_le this]
    rfl
abbrev fAmbiguous : Nat := 44
def cAmbiguous : Ctr
  | [.i d] => some ⟨-2000 ≤ d ∧ d ≤ -3, .one (.rw (.recs 66 3 (fl (ambL d)))), []⟩
  | _ => none
theorem okAmbiguous : CtrOk Try.prog fAmbiguous cAmbiguous := by
  have hsp : SpecOk Try.prog (specOf [(fFormsLike, cFormsLike)]) := (SpecOk.cons okFormsLike SpecOk.nil)
  refine ctr_of (fn := Try.f44) mixed tab_ok hsp Try.func44 (by kernel_rfl) (by kernel_rfl) fun args ce h => ?_
  clear hsp
  unfold cAmbiguous at h
  split at h
  case h_2 => cases h
  rename_i d
  simp only [Option.some.injEq] at h
  subst h
  refine ⟨by rfl, fun hp => ⟨0, 1000, ?_⟩⟩
  simp only [vc, out, finD, St.drop, vwAt, Entry.vwO, RC.vwO, Entry.toO, toOf, St.res, step, stepE, stepPick, stepO, eff, look, rem, St.put, St.setMem, setMems, St.after, St.eval, cst, val1, okNew, newHs, allHs, rdOf, Reg.item, Reg.next, subPre, argOf, resA, resV, nodupB, argsPre, argOk, callWr, effCall, RC.flat, callGo, calleeHs, effCall2, wrHs, disj, AV.hs, A0.hs, Entry.hs, hA, initFr, initMem, initSt, resOf, resAll, compEq, compsEq, rowHs, outHds, outsEq, shapeOk, finOk, comps, specOf, Option.getD_some, cond_true, cond_false, Nat.reduceBEq, List.map_cons, List.map_nil, Option.map_some, Nat.zero_add, true_and, and_true, List.length_cons, List.length_nil, List.all_cons, List.all_nil, Bool.and_true, Bool.not_false, List.append_nil, List.flatMap_cons, List.flatMap_nil, List.contains_nil, List.filter_cons, List.filter_nil, beq_self_eq_true, and_self, List.toList_toArray, ite_true, cFormsLike, fFormsLike, Try.f44]
  exact hp
-- (not in this seat: GeAll)
-- (not in this seat: AmbClasses)
-- (not in this seat: SAmbClasses)
theorem held_pos (n : Nat) : decide (1 + 3 * (n : Int) < 0) = false := by rw [decide_eq_false_iff_not]; omega
-- (not in this seat: LawAmbClasses)
def allAmbB (d : Int) : Bool := (((ambL d).length : Int) == ((redF d).length : Int))
-- (not in this seat: AllAmb)
-- (not in this seat: SAllAmb)
-- (not in this seat: LawAllAmb)
def idoB (n : Int) : Bool := allAmbB (-4 * n)
abbrev fIsIdo : Nat := 31
def cIsIdo : Ctr
  | [.i n] => some ⟨1 ≤ n ∧ n ≤ 500, .one (.b (idoB n)), []⟩
  | _ => none
theorem okIsIdo : CtrOk Try.prog fIsIdo cIsIdo := by
  have hsp : SpecOk Try.prog (specOf [(fAmbiguous, cAmbiguous), (fRedForms, cRedForms)]) := (SpecOk.cons okAmbiguous (SpecOk.cons okRedForms SpecOk.nil))
  refine ctr_of (fn := Try.f31) mixed tab_ok hsp Try.func31 (by kernel_rfl) (by kernel_rfl) fun args ce h => ?_
  clear hsp
  unfold cIsIdo at h
  split at h
  case h_2 => cases h
  rename_i n
  simp only [Option.some.injEq] at h
  subst h
  refine ⟨by rfl, fun hp => ⟨0, 1000, ?_⟩⟩
  simp only [vc, out, finD, St.drop, vwAt, Entry.vwO, RC.vwO, Entry.toO, toOf, St.res, step, stepE, stepPick, stepO, eff, look, rem, St.put, St.setMem, setMems, St.after, St.eval, cst, val1, okNew, newHs, allHs, rdOf, Reg.item, Reg.next, entryRow, binInt, effBin, elemSz, lenOf, subPre, argOf, resA, resV, nodupB, argsPre, argOk, callWr, effCall, RC.flat, callGo, calleeHs, lenOf2, effBin2, effCall2, wrHs, disj, AV.hs, A0.hs, Entry.hs, RC.len, hA, initFr, initMem, initSt, resOf, resAll, compEq, compsEq, rowHs, outHds, outsEq, shapeOk, finOk, comps, A0.norm, specOf, t_implForm, ts_implForm, Option.getD_some, cond_true, cond_false, Nat.reduceBEq, List.map_cons, List.map_nil, Option.map_some, Nat.zero_add, true_and, and_true, List.length_cons, List.length_nil, List.all_cons, List.all_nil, Bool.and_true, Bool.or_false, Bool.not_false, List.append_nil, List.nil_append, List.cons_append, List.flatMap_cons, List.flatMap_nil, List.contains_cons, List.contains_nil, List.filter_cons, List.filter_nil, beq_self_eq_true, A0.b.injEq, and_self, List.toList_toArray, Option.isSome_some, ite_true, cAmbiguous, fAmbiguous, cRedForms, fRedForms, Try.f31]
  have h : 1 ≤ n ∧ n ≤ 500 := hp
  have e : wrap64 (-4 * n) = -4 * n := wrap_id (by omega) (by omega)
  rw [e]
  refine ⟨⟨by omega, by omega⟩, ⟨by omega, by omega⟩, ?_⟩
  simp only [fl_length]; rfl
-- (not in this seat: IpIdo)
def facB (n : Int) : Bool := inI n 1 500
abbrev fIsFactor : Nat := 25
def cIsFactor : Ctr
  | [.i n] => some ⟨True, .one (.b (facB n)), []⟩
  | _ => none
theorem okIsFactor : CtrOk Try.prog fIsFactor cIsFactor := by
  have hsp : SpecOk Try.prog (specOf []) := SpecOk.nil
  refine ctr_of (fn := Try.f25) mixed tab_ok hsp Try.func25 (by kernel_rfl) (by kernel_rfl) fun args ce h => ?_
  clear hsp
  unfold cIsFactor at h
  split at h
  case h_2 => cases h
  rename_i n
  simp only [Option.some.injEq] at h
  subst h
  refine ⟨by rfl, fun hp => ⟨0, 1000, ?_⟩⟩
  simp only [vc, out, finD, St.drop, vwAt, toOf, St.res, step, stepE, stepPick, stepG, stepO, eff, look, rem, St.put, setMems, St.after, St.eval, cst, val1, okNew, Reg.item, Reg.next, Reg.skip, slotOf, binInt, effBin, effPick, nodupB, argOk, effBin2, disj, initFr, initMem, initSt, resOf, resAll, compEq, compsEq, rowHs, outHds, outsEq, shapeOk, finOk, comps, A0.norm, t_int, Option.getD_some, cond_true, cond_false, Nat.reduceBEq, List.getElem?_cons_zero, List.getElem?_cons_succ, Option.map_some, Option.bind_some, Nat.zero_add, true_and, and_true, List.length_cons, List.length_nil, List.all_nil, Bool.and_true, Bool.not_false, List.contains_nil, beq_self_eq_true, A0.b.injEq, List.toList_toArray, Try.f25]
  unfold facB inI
  cases decide (n ≥ 1) <;> rfl
theorem facB_in {n : Int} (h : facB n = true) : 1 ≤ n ∧ n ≤ 500 := by
  simp only [facB, inI, Bool.and_eq_true, decide_eq_true_eq] at h
  exact h
abbrev fIsIdoneal : Nat := 9
def cIsIdoneal : Ctr
  | [.i n] => some ⟨True, .tup [.b (facB n && idoB n), .b (facB n)], []⟩
  | _ => none
theorem okIsIdoneal : CtrOk Try.prog fIsIdoneal cIsIdoneal := by
  have hsp : SpecOk Try.prog (specOf [(fIsFactor, cIsFactor), (fIsIdo, cIsIdo)]) := (SpecOk.cons okIsFactor (SpecOk.cons okIsIdo SpecOk.nil))
  refine ctr_of (fn := Try.f9) mixed tab_ok hsp Try.func9 (by kernel_rfl) (by kernel_rfl) fun args ce h => ?_
  clear hsp
  unfold cIsIdoneal at h
  split at h
  case h_2 => cases h
  rename_i n
  simp only [Option.some.injEq] at h
  subst h
  refine ⟨by rfl, fun hp => ⟨0, 1000, ?_⟩⟩
  simp only [vc, out, finD, St.drop, vwAt, toOf, St.res, step, stepE, stepPick, stepO, stepC, eff, look, rem, St.put, setMems, St.after, St.eval, cst, val1, okNew, Reg.item, Reg.next, effUn, subPre, argOf, resA, resV, nodupB, argsPre, argOk, callWr, effCall, callGo, effCall2, wrHs, disj, AV.hs, A0.hs, initFr, initMem, initSt, resOf, resAll, compEq, compsEq, rowHs, outHds, outsEq, shapeOk, finOk, comps, A0.norm, specOf, Option.getD_some, cond_true, cond_false, Nat.reduceBEq, List.map_cons, List.map_nil, Option.map_some, Nat.zero_add, Nat.reduceAdd, true_and, and_true, List.length_cons, List.length_nil, List.all_cons, List.all_nil, Bool.and_true, Bool.true_and, Bool.not_false, List.append_nil, List.flatMap_cons, List.flatMap_nil, List.contains_nil, beq_self_eq_true, A0.b.injEq, and_self, List.toList_toArray, cIsFactor, fIsFactor, cIsIdo, fIsIdo, Try.f9]
  cases h : facB n with
  | false => exact ⟨rfl, rfl, rfl⟩
  | true => exact ⟨facB_in h, rfl, rfl, rfl⟩
-- (not in this seat: SIsIdoneal)
-- (not in this seat: LawIsIdoneal)

/-! ### exponents -/
def expI (n p : Int) : Int := if _h : 0 < n ∧ 1 < p ∧ n.tmod p = 0 then expI (n.tdiv p) p + 1 else 0
  termination_by n.natAbs
  decreasing_by
    rw [Int.natAbs_tdiv]
    exact Nat.div_lt_self (by omega) (by omega)
theorem quo_pos {n p : Int} (hn : 0 < n) (hp : 1 < p) (h : n.tmod p = 0) : 0 < n.tdiv p ∧ n.tdiv p < n := by
  have h1 : n.tdiv p = n / p := Int.tdiv_eq_ediv_of_nonneg (by omega)
  have h2 : n.tmod p = n % p := Int.tmod_eq_emod_of_nonneg (by omega)
  have h3 := Int.mul_ediv_add_emod n p
  rw [h2] at h
  rw [h1]
  have h4 : 0 ≤ n / p := Int.ediv_nonneg (by omega) (by omega)
  have h5 : n / p ≠ 0 := fun e => by rw [e, h] at h3; simp at h3; omega
  have h6 : 2 * (n / p) ≤ p * (n / p) := Int.mul_le_mul_of_nonneg_right (by omega) h4
  omega
-- (not in this seat: Exponent)
-- (not in this seat: NuExponent)
theorem gcdL_1 (n : Int) (hn : n.natAbs ≤ 1000000000) : gcdI 1 n = 1 := by
  rw [gcdI_eq (by omega) hn]; simp
theorem prI_mem {d : Int} (h : negB d = true) : prI d ∈ ambL d := by
  have hd := negB_in h
  obtain ⟨e, hr⟩ := prI_eq (d := d) ⟨by omega, by omega⟩ (negB_mod h)
  unfold ambL
  rw [List.mem_filter, mem_redF hd]
  have hs := hr.small hd.1
  have e1 : (prI d).1 = 1 := by rw [e]
  refine ⟨⟨hr, ?_⟩, ?_⟩
  · unfold primB
    rw [e1, gcdL_1]
    · rfl
    · have h2 := gcd_le (a := (prI d).2.1) (b := (prI d).2.2) (by omega) (by omega)
      rw [gcdI_eq (by omega) (by omega)]
      omega
  · have h3 : (prI d).2.1 = 0 ∨ (prI d).2.1 = 1 := by rw [e]; simp only; omega
    unfold ambB
    rw [e1]
    rcases h3 with h3 | h3 <;> rw [h3] <;> rfl
theorem ambL_pos {d : Int} (h : negB d = true) : 0 < (ambL d).length := List.length_pos_of_mem (prI_mem h)
-- (not in this seat: TwoRank)
-- (not in this seat: STwoRank)
-- (not in this seat: LawTwoRank)
end Go.Proofs.Ytacomnelongbjab
