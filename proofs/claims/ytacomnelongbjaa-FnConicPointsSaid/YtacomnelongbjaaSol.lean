/-
  Contracts of SolutionsUpTo on both sides, and of its law. Conditions: none.
-/
import Derived.Test.YtacomnelongbjaaRt
namespace Go.Proofs.Ytacomnelongbjaa
open Go Go.RowKit
set_option maxRecDepth 100000
set_option linter.unusedSimpArgs false
set_option linter.unusedVariables false
set_option maxHeartbeats 4000000

-- (not in this seat: ToTriple)
-- (not in this seat: EqSpot)
-- (not in this seat: EqSpotS)
-- (not in this seat: MarkSpotS)
-- (not in this seat: HeldSpotS)

/-! ### triples -/
def coefB (n : Int) : Bool := (n != 0) && decide (absI n ≤ 400)
abbrev fIsCoef : Nat := 34
def cIsCoef : Ctr
  | [.i n] => some ⟨True, .one (.b (coefB n)), []⟩
  | _ => none
theorem okIsCoef : CtrOk Try.prog fIsCoef cIsCoef := by
  have hsp : SpecOk Try.prog (specOf [(fAbs, cAbs)]) := (SpecOk.cons okAbs SpecOk.nil)
  refine ctr_of (fn := Try.f34) mixed tab_ok hsp Try.func34 (by kernel_rfl) (by kernel_rfl) fun args ce h => ?_
  clear hsp
  unfold cIsCoef at h
  split at h
  case h_2 => cases h
  rename_i n
  simp only [Option.some.injEq] at h
  subst h
  refine ⟨by rfl, fun hp => ⟨0, 1000, ?_⟩⟩
  simp only [vc, out, finD, St.drop, vwAt, toOf, St.res, step, stepE, stepPick, stepG, stepO, eff, look, rem, St.put, setMems, St.after, St.eval, cst, val1, okNew, Reg.item, Reg.next, Reg.skip, slotOf, binInt, effBin, effPick, subPre, argOf, resA, resV, nodupB, argsPre, argOk, callWr, effCall, callGo, effBin2, effCall2, wrHs, disj, AV.hs, A0.hs, initFr, initMem, initSt, resOf, resAll, compEq, compsEq, rowHs, outHds, outsEq, shapeOk, finOk, comps, A0.norm, specOf, t_int, Option.getD_some, cond_true, cond_false, Nat.reduceBEq, List.map_cons, List.map_nil, List.getElem?_cons_zero, List.getElem?_cons_succ, Option.map_some, Option.bind_some, Nat.zero_add, true_and, and_true, List.length_cons, List.length_nil, List.all_cons, List.all_nil, Bool.and_true, Bool.not_false, List.append_nil, List.flatMap_cons, List.flatMap_nil, List.contains_nil, beq_self_eq_true, A0.b.injEq, and_self, List.toList_toArray, cAbs, fAbs, Try.f34]
  unfold coefB
  cases (n != 0) <;> rfl
theorem coefB_eq (n : Int) : coefB n = (inI n (-400) 400 && (n != 0)) := by
  rw [Bool.eq_iff_iff]
  simp only [coefB, inI, Bool.and_eq_true, decide_eq_true_eq, bne_iff_ne]
  unfold absI
  by_cases h : n ≤ -401
  · rw [wrap_id (by omega) (by omega)]; omega
  · by_cases h1 : n ≤ 9000000000000000000
    · rw [wrap_id (by omega) (by omega)]; omega
    · omega
def triB (a b c : Int) : Bool := coefB a && (coefB b && coefB c)
theorem triB_iff {a b c : Int} (h : triB a b c = true) : ((-400 ≤ a ∧ a ≤ 400) ∧ (-400 ≤ b ∧ b ≤ 400) ∧ (-400 ≤ c ∧ c ≤ 400)) ∧ a ≠ 0 := by
  simp only [triB, coefB_eq, inI, Bool.and_eq_true, decide_eq_true_eq, bne_iff_ne] at h
  omega
abbrev fIsTriple : Nat := 17
def cIsTriple : Ctr
  | [.s [a, b, c]] => some ⟨True, .one (.b (triB a b c)), []⟩
  | _ => none
theorem okIsTriple : CtrOk Try.prog fIsTriple cIsTriple := by
  have hsp : SpecOk Try.prog (specOf [(fIsCoef, cIsCoef)]) := (SpecOk.cons okIsCoef SpecOk.nil)
  refine ctr_of (fn := Try.f17) mixed tab_ok hsp Try.func17 (by kernel_rfl) (by kernel_rfl) fun args ce h => ?_
  clear hsp
  unfold cIsTriple at h
  split at h
  case h_2 => cases h
  rename_i a b c
  simp only [Option.some.injEq] at h
  subst h
  refine ⟨by rfl, fun hp => ⟨0, 1000, ?_⟩⟩
  simp only [vc, out, finD, St.drop, vwAt, Entry.vwO, Entry.toO, toOf, St.res, step, stepE, stepPick, stepG, stepO, eff, look, rem, St.put, St.setMem, setMems, St.after, St.eval, cst, val1, okNew, newHs, allHs, rdOf, Reg.item, Reg.next, Reg.skip, slotOf, effBox, fieldOff, effField, loadI, effLoad, effPick, subPre, argOf, resA, resV, nodupB, argsPre, argOk, callWr, effCall, effBox2, callGo, effBox3, effLoad2, effField2, effField3, effLoad3, effBox4, effCall2, wrHs, disj, AV.hs, A0.hs, Entry.hs, hA, initFr, initMem, initSt, resOf, resAll, compEq, compsEq, rowHs, outHds, outsEq, shapeOk, finOk, comps, A0.norm, specOf, t_int, t_implTriple, Option.getD_some, cond_true, cond_false, Nat.reduceBEq, List.map_cons, List.map_nil, List.getElem?_cons_zero, List.getElem?_cons_succ, Option.map_some, Option.bind_some, Nat.zero_add, Nat.add_zero, true_and, and_true, List.length_cons, List.length_nil, List.all_cons, List.all_nil, Bool.and_true, Bool.not_false, List.append_nil, List.flatMap_cons, List.flatMap_nil, List.contains_nil, List.filter_cons, List.filter_nil, beq_self_eq_true, A0.b.injEq, and_self, List.toList_toArray, ite_true, cIsCoef, fIsCoef, Try.f17]
  unfold triB
  cases coefB a <;> cases coefB b <;> cases coefB c <;> rfl
abbrev fLAll : Nat := 22
def cLAll : Ctr
  | [.rw (.ints e l), .i lo, .i hi] => some ⟨l.length ≤ 1000000000, .one (.b (l.all fun n => inI n lo hi)), []⟩
  | _ => none
theorem okLAll : CtrOk Try.prog fLAll cLAll := by
  have hsp : SpecOk Try.prog (specOf [(fIn, cIn)]) := (SpecOk.cons okIn SpecOk.nil)
  refine ctr_of (fn := Try.f22) mixed tab_ok hsp Try.func22 (by kernel_rfl) (by kernel_rfl) fun args ce h => ?_
  clear hsp
  unfold cLAll at h
  split at h
  case h_2 => cases h
  rename_i e l lo hi
  simp only [Option.some.injEq] at h
  subst h
  refine ⟨by rfl, fun hp => ⟨1, 1000, ?_⟩⟩
  simp only [vc, out, Entry.toO, toOf, St.res, step, stepE, stepPick, stepO, eff, look, rem, St.put, setMems, St.after, St.eval, cst, val1, okNew, Reg.item, Reg.next, entryRow, elemSz, lenOf, RC.flat, lenOf2, RC.len, hA, initFr, initMem, initSt, t_int, ts_int, Option.getD_some, cond_true, cond_false, Nat.reduceBEq, List.map_nil, Option.map_some, Nat.zero_add, Nat.add_zero, Nat.reduceAdd, true_and, List.any_nil, beq_self_eq_true, List.toList_toArray, Option.isSome_some, fIn, Try.f22]
  have hp' : l.length ≤ 1000000000 := hp
  refine lp_intro (fun n : Nat => ⟨[(1, .one (.i lo)), (2, .one (.i hi)), (9, .one (.row 1000000)), (10, .one (.i l.length)), (11, .one (.i n))], [(1000000, .ro (.ints e l))]⟩) (fun n => n ≤ l.length ∧ ((l.take n).all fun n => inI n lo hi) = true) (fun n => l.length - n) 0 [] ⟨Nat.zero_le _, rfl⟩ (by simp only [Cov, covOk, covFr, covMem, entEq, rn, nodupB, A0.ren, AV.ren, Entry.ren, Entry.norm, look, St.eval, A0.norm, AV.norm, Option.getD_some, Option.getD_none, cond_true, cond_false, Nat.reduceBEq, List.map_cons, List.map_nil, true_and, and_true, List.all_nil, Bool.and_true, Bool.not_false, List.contains_nil, beq_self_eq_true, A0.i.injEq, AV.one.injEq, and_self]; simp) fun n hn J hJ => ⟨1000, ?_⟩
  simp only [vc, out, finD, St.drop, vwAt, Entry.vwO, Entry.toO, toOf, St.res, step, stepE, stepPick, stepO, stepC, eff, look, rem, St.put, setMems, St.after, St.eval, cst, val1, okNew, Reg.item, Reg.next, entryRow, loadR, effLoad, binInt, effBin, effUn, idxS, effIndex, subPre, argOf, resA, resV, nodupB, argsPre, argOk, callWr, effCall, RC.flat, callGo, effLoad2, effLoad3, effIndex2, effBin2, effCall2, wrHs, disj, AV.hs, A0.hs, RC.sz, RC.len, resOf, resAll, compEq, compsEq, rowHs, outHds, outsEq, shapeOk, finOk, comps, A0.norm, specOf, t_int, ts_int, Option.getD_some, cond_true, cond_false, Nat.reduceBEq, List.map_cons, List.map_nil, Option.map_some, Nat.zero_add, true_and, and_true, List.length_cons, List.length_nil, List.all_cons, List.all_nil, Bool.and_true, Bool.not_false, List.append_nil, List.flatMap_cons, List.flatMap_nil, List.contains_nil, beq_self_eq_true, A0.b.injEq, and_self, cIn]
  rw [bif_prop]
  obtain ⟨hn, ht⟩ := hn
  refine ⟨fun hb => ?_, fun hb => ?_⟩
  · have hlt : n < l.length := by simpa using hb
    have htk : l.take (n + 1) = l.take n ++ [l.getD n 0] := by
      rw [List.take_add_one]; simp [List.getD, hlt]
    have hmem : l.getD n 0 ∈ l := by simp [List.getD, hlt]
    refine ⟨⟨by omega, by omega⟩, by simpa using hlt, ?_⟩
    rw [Int.toNat_natCast]
    generalize l.getD n 0 = z at htk hmem ⊢
    rw [bif_prop]
    refine ⟨fun h1 => ?_, fun h1 => hJ _ (n + 1) [] ⟨hlt, ?_⟩ (by omega) ?_⟩
    · symm
      rw [List.all_eq_false]
      exact ⟨z, hmem, by simpa using h1⟩
    · rw [htk, List.all_append, ht]
      have h2 : inI z lo hi = true := by simpa using h1
      simp [h2]
    · simp only [Cov, covOk, covFr, covMem, entEq, rn, nodupB, A0.ren, AV.ren, Entry.ren, Entry.norm, look, St.eval, A0.norm, AV.norm, Option.getD_some, Option.getD_none, cond_true, cond_false, Nat.reduceBEq, List.map_cons, List.map_nil, true_and, and_true, List.all_nil, Bool.and_true, Bool.not_false, List.contains_nil, beq_self_eq_true, A0.i.injEq, AV.one.injEq, and_self]
      rw [IntWalk.wrap64_in _ (by omega)]; simp
  · have : n = l.length := by have h1 : ¬ n < l.length := by simpa using hb
                              omega
    subst this
    rw [List.take_length] at ht
    exact ht.symm
abbrev fCnGood : Nat := 21
def cCnGood : Ctr
  | [.s [a, b, c]] => some ⟨True, .one (.b (triB a b c)), []⟩
  | _ => none
theorem okCnGood : CtrOk Try.prog fCnGood cCnGood := by
  have hsp : SpecOk Try.prog (specOf [(fLAll, cLAll)]) := (SpecOk.cons okLAll SpecOk.nil)
  refine ctr_of (fn := Try.f21) mixed tab_ok hsp Try.func21 (by kernel_rfl) (by kernel_rfl) fun args ce h => ?_
  clear hsp
  unfold cCnGood at h
  split at h
  case h_2 => cases h
  rename_i a b c
  simp only [Option.some.injEq] at h
  subst h
  refine ⟨by rfl, fun hp => ⟨1, 1000, ?_⟩⟩
  simp only [vc, out, finD, St.drop, vwAt, Entry.vwO, RC.vwO, Entry.toO, toOf, St.res, step, stepE, stepPick, stepG, stepO, eff, look, rem, St.put, St.setMem, setMems, St.after, St.eval, cst, val1, okNew, newHs, allHs, rdOf, Reg.item, Reg.next, Reg.skip, slotOf, effBox, entryRow, fieldOff, effField, loadI, effLoad, binInt, effBin, effPick, ivs, rowOf, allParts, effBuildSlice, subPre, argOf, resA, resV, nodupB, argsPre, argOk, callWr, effCall, RC.flat, effBox2, effBuildSl, callGo, effBox3, effLoad2, effField2, effField3, effLoad3, effBin2, effBox4, effCall2, wrHs, disj, AV.hs, A0.hs, Entry.hs, RC.sz, hA, initFr, initMem, initSt, resOf, resAll, compEq, compsEq, rowHs, outHds, outsEq, shapeOk, finOk, comps, A0.norm, specOf, t_int, t_implTriple, ts_int, Option.getD_some, cond_true, cond_false, Nat.reduceBEq, List.map_cons, List.map_nil, List.getElem?_cons_zero, List.getElem?_cons_succ, Option.map_some, Option.bind_some, Nat.zero_add, Nat.add_zero, Nat.reduceAdd, true_and, and_true, List.length_cons, List.length_nil, List.all_cons, List.all_nil, Bool.and_true, Bool.or_false, Bool.not_false, List.append_nil, List.nil_append, List.cons_append, List.flatMap_cons, List.flatMap_nil, List.contains_cons, List.contains_nil, List.filter_cons, List.filter_nil, beq_self_eq_true, A0.b.injEq, ble_dec, Nat.reduceLeDiff, decide_true, and_self, List.toList_toArray, ite_true, cLAll, fLAll, Try.f21]
  unfold triB
  rw [coefB_eq, coefB_eq, coefB_eq]
  cases inI a (-400) 400 <;> cases inI b (-400) 400 <;> cases inI c (-400) 400 <;> cases (a != 0) <;> cases (b != 0) <;> cases (c != 0) <;> first | rfl | exact ⟨by decide, rfl⟩

/-! ### the third coordinate -/
def thR (b c y z : Int) : Int := wrap64 (wrap64 (wrap64 (wrap64 (0 - b) * y) * y) - wrap64 (wrap64 (c * z) * z))
def thQ (a b c y z : Int) : Int := wrap64 ((thR b c y z).tdiv a)
def thB (a b c y z : Int) : Bool := ((thR b c y z).tmod a == 0) && sqB (thQ a b c y z)
def thX (a b c y z : Int) : Int := if thB a b c y z = true then rootI (thQ a b c y z) else 0
def Tr (a b c y z : Int) : Prop := (((-400 ≤ a ∧ a ≤ 400) ∧ (-400 ≤ b ∧ b ≤ 400) ∧ (-400 ≤ c ∧ c ≤ 400)) ∧ a ≠ 0) ∧ (0 ≤ y ∧ y ≤ 400) ∧ 0 ≤ z ∧ z ≤ 400
theorem quad_bd {b y : Int} (hb : -400 ≤ b ∧ b ≤ 400) (hy : 0 ≤ y ∧ y ≤ 400) : (-160000 ≤ b * y ∧ b * y ≤ 160000) ∧ -64000000 ≤ b * y * y ∧ b * y * y ≤ 64000000 := by
  have h1 := mul_bd (a := b) (b := y) (j := 400) (k := 400) (by omega) (by omega) hb ⟨by omega, by omega⟩
  have h2 := mul_bd (a := b * y) (b := y) (j := 160000) (k := 400) (by omega) (by omega) ⟨by omega, by omega⟩ ⟨by omega, by omega⟩
  omega
theorem thR_eq {a b c y z : Int} (h : Tr a b c y z) : thR b c y z = -b * y * y - c * z * z ∧ -128000000 ≤ thR b c y z ∧ thR b c y z ≤ 128000000 := by
  obtain ⟨⟨⟨_, hb, hc⟩, _⟩, hy, hz⟩ := h
  obtain ⟨h1, h2⟩ := quad_bd (b := -b) (y := y) ⟨by omega, by omega⟩ hy
  obtain ⟨h3, h4⟩ := quad_bd (b := c) (y := z) hc hz
  have e : thR b c y z = -b * y * y - c * z * z := by
    unfold thR
    rw [Int.zero_sub, wrap_id (n := -b) (by omega) (by omega), wrap_id (n := -b * y) (by omega) (by omega), wrap_id (n := -b * y * y) (by omega) (by omega), wrap_id (n := c * z) (by omega) (by omega), wrap_id (n := c * z * z) (by omega) (by omega), wrap_id (by omega) (by omega)]
  rw [e]
  exact ⟨rfl, by omega, by omega⟩
theorem thQ_in {a b c y z : Int} (h : Tr a b c y z) : thQ a b c y z = (thR b c y z).tdiv a ∧ -128000000 ≤ thQ a b c y z ∧ thQ a b c y z ≤ 128000000 := by
  obtain ⟨_, h1⟩ := thR_eq h
  have h2 := tdiv_bd' (b := a) (k := 128000000) ⟨h1.1, h1.2⟩
  have e : thQ a b c y z = (thR b c y z).tdiv a := by unfold thQ; exact wrap_id (by omega) (by omega)
  rw [e]; exact ⟨rfl, h2⟩
theorem thX_sq {a b c y z : Int} (h : Tr a b c y z) (hB : thB a b c y z = true) : a * thX a b c y z * thX a b c y z + b * y * y + c * z * z = 0 ∧ 0 ≤ thX a b c y z ∧ thX a b c y z ≤ 12000 := by
  obtain ⟨e1, _⟩ := thR_eq h
  obtain ⟨e2, q1, q2⟩ := thQ_in h
  have eX : thX a b c y z = rootI (thQ a b c y z) := by unfold thX; rw [if_pos hB]
  simp only [thB, Bool.and_eq_true, beq_iff_eq, sqB, decide_eq_true_eq] at hB
  obtain ⟨hm, h0, hs⟩ := hB
  obtain ⟨b1, b2, b3⟩ := rootI_spec (n := thQ a b c y z) h0 (by omega)
  have hle : rootI (thQ a b c y z) ≤ 12000 := root_le h0 (by omega) (by omega) (by omega)
  rw [mid_sq b1 (by omega)] at hs
  rw [eX]
  have hdm := Int.tmod_add_mul_tdiv (thR b c y z) a
  rw [hm, ← e2, e1, ← hs] at hdm
  refine ⟨?_, b1, hle⟩
  generalize rootI (thQ a b c y z) = x at *
  grind
theorem thB_no1 {a b c y z : Int} (h : ((thR b c y z).tmod a != 0) = true) : thB a b c y z = false := by
  have : ((thR b c y z).tmod a == 0) = false := by simpa using h
  unfold thB; rw [this]; rfl
theorem thB_no2 {a b c y z : Int} (h : (!sqB (thQ a b c y z)) = true) : thB a b c y z = false := by
  have : sqB (thQ a b c y z) = false := by simpa using h
  unfold thB; rw [this, Bool.and_false]
theorem thB_yes {a b c y z : Int} (h1 : ((thR b c y z).tmod a != 0) = false) (h2 : (!sqB (thQ a b c y z)) = false) : thB a b c y z = true := by
  have g1 : ((thR b c y z).tmod a == 0) = true := by simpa using h1
  have g2 : sqB (thQ a b c y z) = true := by simpa using h2
  unfold thB; rw [g1, g2]; rfl
theorem thX_no {a b c y z : Int} (h : thB a b c y z = false) : thX a b c y z = 0 := by unfold thX; rw [h]; rfl
theorem thX_yes {a b c y z : Int} (h : thB a b c y z = true) : thX a b c y z = rootI (thQ a b c y z) := by unfold thX; rw [h]; rfl
abbrev fThird : Nat := 26
def cThird : Ctr
  | [.s [a, b, c], .i y, .i z] => some ⟨a ≠ 0, .tup [.i (thX a b c y z), .b (thB a b c y z)], []⟩
  | _ => none
theorem okThird : CtrOk Try.prog fThird cThird := by
  have hsp : SpecOk Try.prog (specOf [(fIsSquare, cIsSquare), (fRoot, cRoot)]) := (SpecOk.cons okIsSquare (SpecOk.cons okRoot SpecOk.nil))
  refine ctr_of (fn := Try.f26) mixed tab_ok hsp Try.func26 (by kernel_rfl) (by kernel_rfl) fun args ce h => ?_
  clear hsp
  unfold cThird at h
  split at h
  case h_2 => cases h
  rename_i a b c y z
  simp only [Option.some.injEq] at h
  subst h
  refine ⟨by rfl, fun hp => ⟨0, 1000, ?_⟩⟩
  simp only [vc, out, finD, St.drop, vwAt, Entry.vwO, Entry.toO, toOf, St.res, step, stepE, stepPick, stepG, stepO, stepC, eff, look, rem, St.put, St.setMem, setMems, St.after, St.eval, cst, val1, okNew, newHs, allHs, rdOf, Reg.item, Reg.next, Reg.skip, slotOf, effBox, fieldOff, effField, loadI, effLoad, binInt, effBin, effUn, effPick, subPre, argOf, resA, resV, nodupB, argsPre, argOk, callWr, effCall, effBox2, callGo, effBox3, effLoad2, effField2, effField3, effLoad3, effBin2, effBox4, effCall2, wrHs, disj, AV.hs, A0.hs, Entry.hs, hA, initFr, initMem, initSt, resOf, resAll, compEq, compsEq, rowHs, outHds, outsEq, shapeOk, finOk, comps, A0.norm, specOf, t_int, t_implTriple, Option.getD_some, cond_true, cond_false, Nat.reduceBEq, List.map_cons, List.map_nil, List.getElem?_cons_zero, List.getElem?_cons_succ, Option.map_some, Option.bind_some, Nat.zero_add, Nat.add_zero, Nat.reduceAdd, true_and, and_true, List.length_cons, List.length_nil, List.all_cons, List.all_nil, Bool.and_true, Bool.true_and, Bool.not_false, List.append_nil, List.flatMap_cons, List.flatMap_nil, List.contains_nil, List.filter_cons, List.filter_nil, beq_self_eq_true, A0.b.injEq, A0.i.injEq, and_self, List.toList_toArray, ite_true, cIsSquare, fIsSquare, cRoot, fRoot, Try.f26]
  refine ⟨hp, ?_⟩
  rw [bif_prop]
  refine ⟨fun h1 => ?_, fun h1 => ⟨hp, ?_⟩⟩
  · have hB := thB_no1 h1
    rw [thX_no hB, hB]; exact ⟨rfl, rfl, rfl⟩
  rw [bif_prop]
  refine ⟨fun h2 => ?_, fun h2 => ⟨hp, rfl, ?_⟩⟩
  · have hB := thB_no2 h2
    rw [thX_no hB, hB]; exact ⟨rfl, rfl, rfl⟩
  have hB := thB_yes h1 h2
  rw [thX_yes hB, hB]; exact ⟨rfl, rfl⟩
def isB (a b c x y z : Int) : Bool := (wrap64 (wrap64 (wrap64 (wrap64 (a * x) * x) + wrap64 (wrap64 (b * y) * y)) + wrap64 (wrap64 (c * z) * z)) == 0) && ((x != 0) || ((y != 0) || (z != 0)))
abbrev fCnIs : Nat := 23
def cCnIs : Ctr
  | [.s [a, b, c], .s [x, y, z]] => some ⟨True, .one (.b (isB a b c x y z)), []⟩
  | _ => none
theorem okCnIs : CtrOk Try.prog fCnIs cCnIs := by
  have hsp : SpecOk Try.prog (specOf []) := SpecOk.nil
  refine ctr_of (fn := Try.f23) mixed tab_ok hsp Try.func23 (by kernel_rfl) (by kernel_rfl) fun args ce h => ?_
  clear hsp
  unfold cCnIs at h
  split at h
  case h_2 => cases h
  rename_i a b c x y z
  simp only [Option.some.injEq] at h
  subst h
  refine ⟨by rfl, fun hp => ⟨0, 1000, ?_⟩⟩
  simp only [vc, out, finD, St.drop, vwAt, Entry.vwO, Entry.toO, toOf, St.res, step, stepE, stepPick, stepG, stepO, eff, look, rem, St.put, St.setMem, setMems, St.after, St.eval, cst, val1, okNew, newHs, allHs, rdOf, Reg.item, Reg.next, Reg.skip, slotOf, effBox, fieldOff, effField, loadI, effLoad, binInt, effBin, effPick, nodupB, argOk, effBox2, effBox3, effLoad2, effField2, effField3, effLoad3, effBin2, effBox4, wrHs, disj, AV.hs, A0.hs, Entry.hs, hA, initFr, initMem, initSt, resOf, resAll, compEq, compsEq, rowHs, outHds, outsEq, shapeOk, finOk, comps, A0.norm, t_int, t_implTriple, t_implSpot, Option.getD_some, cond_true, cond_false, Nat.reduceBEq, List.map_cons, List.map_nil, List.getElem?_cons_zero, List.getElem?_cons_succ, Option.map_some, Option.bind_some, Nat.zero_add, Nat.add_zero, true_and, and_true, List.length_cons, List.length_nil, List.all_cons, List.all_nil, Bool.and_true, Bool.or_false, Bool.not_false, List.append_nil, List.nil_append, List.cons_append, List.flatMap_cons, List.flatMap_nil, List.contains_cons, List.contains_nil, List.filter_cons, List.filter_nil, beq_self_eq_true, A0.b.injEq, List.toList_toArray, ite_true, Try.f23]
  unfold isB
  cases (x != 0) <;> cases (y != 0) <;> cases (z != 0) <;> cases (wrap64 (wrap64 (wrap64 (wrap64 (a * x) * x) + wrap64 (wrap64 (b * y) * y)) + wrap64 (wrap64 (c * z) * z)) == 0) <;> rfl
abbrev fCnGcd : Nat := 24
def cCnGcd : Ctr
  | [.s [x, y, z]] => some ⟨True, .one (.i (nuGcdI (nuGcdI x y) z)), []⟩
  | _ => none
theorem okCnGcd : CtrOk Try.prog fCnGcd cCnGcd := by
  have hsp : SpecOk Try.prog (specOf [(fNuGcd, cNuGcd)]) := (SpecOk.cons okNuGcd SpecOk.nil)
  refine ctr_of (fn := Try.f24) mixed tab_ok hsp Try.func24 (by kernel_rfl) (by kernel_rfl) fun args ce h => ?_
  clear hsp
  unfold cCnGcd at h
  split at h
  case h_2 => cases h
  rename_i x y z
  simp only [Option.some.injEq] at h
  subst h
  refine ⟨by rfl, fun hp => ⟨0, 1000, ?_⟩⟩
  simp only [vc, out, finD, St.drop, vwAt, Entry.vwO, Entry.toO, toOf, St.res, step, stepE, stepPick, stepO, eff, look, rem, St.put, St.setMem, setMems, St.after, St.eval, cst, val1, okNew, newHs, allHs, rdOf, outHs, Reg.item, Reg.next, effBox, fieldOff, effField, loadI, effLoad, subPre, argOf, resA, resV, nodupB, argsPre, argOk, callWr, effCall, effBox2, callGo, effBox3, effLoad2, effField2, inHs, calleeHs, effField3, effLoad3, effBox4, effCall2, wrHs, disj, AV.hs, A0.hs, Entry.hs, hA, initFr, initMem, initSt, resOf, resAll, compEq, compsEq, rowHs, outHds, outsEq, shapeOk, finOk, comps, A0.norm, specOf, t_int, t_implSpot, Option.getD_some, cond_true, cond_false, Nat.reduceBEq, List.map_cons, List.map_nil, List.getElem?_cons_zero, List.getElem?_cons_succ, Option.map_some, Nat.zero_add, Nat.add_zero, true_and, and_true, List.length_cons, List.length_nil, List.all_cons, List.all_nil, Bool.and_true, Bool.not_false, List.append_nil, List.nil_append, List.cons_append, List.flatMap_cons, List.flatMap_nil, List.contains_nil, List.filter_cons, List.filter_nil, beq_self_eq_true, and_self, List.toList_toArray, ite_true, cNuGcd, fNuGcd, Try.f24]
  kernel_rfl
theorem isB_eq {a b c y z : Int} (h : Tr a b c y z) (hB : thB a b c y z = true) : isB a b c (thX a b c y z) y z = ((thX a b c y z != 0) || ((y != 0) || (z != 0))) := by
  obtain ⟨e1, x0, x1⟩ := thX_sq h hB
  obtain ⟨⟨⟨ha, hb, hc⟩, _⟩, hy, hz⟩ := h
  obtain ⟨h1, h2⟩ := quad_bd (b := b) (y := y) hb hy
  obtain ⟨h3, h4⟩ := quad_bd (b := c) (y := z) hc hz
  generalize thX a b c y z = x at *
  have g1 := mul_bd (a := a) (b := x) (j := 400) (k := 12000) (by omega) (by omega) ha ⟨by omega, by omega⟩
  unfold isB
  rw [wrap_id (n := a * x) (by omega) (by omega), wrap_id (n := a * x * x) (by omega) (by omega), wrap_id (n := b * y) (by omega) (by omega), wrap_id (n := b * y * y) (by omega) (by omega), wrap_id (n := c * z) (by omega) (by omega), wrap_id (n := c * z * z) (by omega) (by omega), wrap_id (n := a * x * x + b * y * y) (by omega) (by omega), e1]
  have e0 : (wrap64 0 == 0) = true := by rw [wrap_id (by omega) (by omega)]; rfl
  rw [e0]; rfl
def cxB (a b c y z : Int) : Bool := thB a b c y z && ((thX a b c y z != 0) || ((y != 0) || (z != 0)))
theorem cxB_no {a b c y z : Int} (h : thB a b c y z = false) : cxB a b c y z = false := by unfold cxB; rw [h]; rfl
-- (not in this seat: CnX)

/-! ### the solutions in a box -/
def slP (a b c m y z : Int) : Bool := thB a b c y z && (decide (thX a b c y z ≤ m) && (gcdI (thX a b c y z) (gcdI y z) == 1))
def slX (a b c y z : Int) : F3 := (thX a b c y z, y, z)
def rowL (a b c m z y : Int) : List F3 := if _h : y ≤ m then (if slP a b c m y z = true then [slX a b c y z] else []) ++ rowL a b c m z (y + 1) else []
  termination_by (m + 1 - y).toNat
  decreasing_by omega
def outL (a b c m z : Int) : List F3 := if _h : z ≤ m then rowL a b c m z 0 ++ outL a b c m (z + 1) else []
  termination_by (m + 1 - z).toNat
  decreasing_by omega
theorem rowL_len (a b c m z y : Int) : (rowL a b c m z y).length ≤ (m + 1 - y).toNat := by
  fun_induction rowL a b c m z y with
  | case1 y h ih =>
    rw [List.length_append]
    have : (if slP a b c m y z = true then [slX a b c y z] else []).length ≤ 1 := by split <;> simp
    omega
  | case2 => simp
theorem outL_len {a b c m z : Int} (hm : m ≤ 60) : (outL a b c m z).length ≤ 61 * (m + 1 - z).toNat := by
  fun_induction outL a b c m z with
  | case1 z h ih =>
    rw [List.length_append]
    have := rowL_len a b c m z 0
    omega
  | case2 => simp
theorem rowL_yes {a b c m z y : Int} (h : y ≤ m) (hP : slP a b c m y z = true) : rowL a b c m z y = slX a b c y z :: rowL a b c m z (y + 1) := by
  rw [rowL.eq_def, dif_pos h, if_pos hP]; rfl
theorem rowL_no {a b c m z y : Int} (h : y ≤ m) (hP : slP a b c m y z = false) : rowL a b c m z y = rowL a b c m z (y + 1) := by
  rw [rowL.eq_def, dif_pos h, if_neg (by rw [hP]; simp)]; rfl
theorem rowL_end {a b c m z y : Int} (h : ¬ y ≤ m) : rowL a b c m z y = [] := by rw [rowL.eq_def, dif_neg h]
theorem outL_yes {a b c m z : Int} (h : z ≤ m) : outL a b c m z = rowL a b c m z 0 ++ outL a b c m (z + 1) := by rw [outL.eq_def, dif_pos h]
theorem outL_end {a b c m z : Int} (h : ¬ z ≤ m) : outL a b c m z = [] := by rw [outL.eq_def, dif_neg h]
def solB (a b c m : Int) : Bool := triB a b c && inI m 0 60
def solL (a b c m : Int) : List F3 := outL a b c m 0
theorem fl_slX (L : List F3) (a b c y z : Int) : fl L ++ [[thX a b c y z, y, z]] = fl (L ++ [slX a b c y z]) := fl_snoc L (slX a b c y z)
theorem sol_len {a b c m z y : Int} {acc : List F3} (hm : 0 ≤ m ∧ m ≤ 60) (h : acc ++ rowL a b c m z y ++ outL a b c m (z + 1) = solL a b c m) : acc.length ≤ 3800 := by
  have h1 := congrArg List.length h
  have h2 : (solL a b c m).length ≤ 61 * (m + 1 - 0).toNat := outL_len hm.2
  rw [List.length_append, List.length_append] at h1
  omega
abbrev fSols : Nat := 9
def cSols : Ctr
  | [.s [a, b, c], .i m] => some ⟨True, .tup [.rw (.recs 27 3 (fl (onL (solB a b c m) (solL a b c m)))), .b (solB a b c m)], []⟩
  | _ => none
theorem okSols : CtrOk Try.prog fSols cSols := by
  have hsp : SpecOk Try.prog (specOf [(fIsTriple, cIsTriple), (fThird, cThird), (fGcd, cGcd)]) := (SpecOk.cons okIsTriple (SpecOk.cons okThird (SpecOk.cons okGcd SpecOk.nil)))
  refine ctr_of (fn := Try.f9) mixed tab_ok hsp Try.func9 (by kernel_rfl) (by kernel_rfl) fun args ce h => ?_
  clear hsp
  unfold cSols at h
  split at h
  case h_2 => cases h
  rename_i a b c m
  simp only [Option.some.injEq] at h
  subst h
  refine ⟨by rfl, fun hp => ⟨2, 1000, ?_⟩⟩
  simp only [vc, out, finD, St.drop, vwAt, Entry.vwO, RC.vwO, Entry.toO, toOf, St.res, step, stepE, stepPick, stepG, stepO, stepC, eff, look, rem, St.put, St.setMem, setMems, St.after, St.eval, cst, val1, okNew, newHs, allHs, rdOf, Reg.item, Reg.next, Reg.skip, slotOf, effBox, loadI, effLoad, binInt, effBin, effUn, effPick, svs, rowOf, allParts, effBuildSlice, subPre, argOf, resA, resV, nodupB, argsPre, argOk, callWr, effCall, RC.flat, effBox2, effBuildSl, callGo, effBox3, effLoad2, effLoad3, effBin2, effBox4, effCall2, wrHs, disj, AV.hs, A0.hs, Entry.hs, RC.sz, hA, initFr, initMem, initSt, resOf, resAll, compEq, compsEq, rowHs, outHds, outsEq, shapeOk, finOk, comps, A0.norm, specOf, t_int, t_implTriple, t_implSpot, ts_implSpot, Option.getD_some, cond_true, cond_false, Nat.reduceBEq, List.map_cons, List.map_nil, List.getElem?_cons_zero, List.getElem?_cons_succ, List.drop_zero, List.take_succ_cons, List.take_zero, Option.map_some, Option.bind_some, Nat.zero_add, Nat.reduceAdd, true_and, and_true, List.length_cons, List.length_nil, List.all_cons, List.all_nil, Bool.and_true, Bool.true_and, Bool.or_false, Bool.not_false, List.append_nil, List.nil_append, List.cons_append, List.flatMap_cons, List.flatMap_nil, List.contains_cons, List.contains_nil, List.filter_cons, List.filter_nil, beq_self_eq_true, A0.b.injEq, RC.recs.injEq, ble_dec, blt_dec, Nat.reduceLeDiff, decide_true, and_self, List.toList_toArray, ite_true, cIsTriple, fIsTriple, fThird, fGcd, Try.f9]
  have hno : solB a b c m = false → (2 != 1) = true ∧ [] = fl (onL (solB a b c m) (solL a b c m)) ∧ false = solB a b c m := fun h => by
    rw [h]; exact ⟨rfl, rfl, rfl⟩
  rw [bif_prop]
  refine ⟨fun h1 => hno (by unfold solB; simp_all), fun h1 => ?_⟩
  rw [bif_prop]
  refine ⟨fun h2 => hno (by have := of_decide_eq_true h2; unfold solB inI; rw [decide_eq_false (show ¬ m ≥ 0 by omega)]; simp), fun h2 => ?_⟩
  rw [bif_prop]
  refine ⟨fun h3 => hno (by have := of_decide_eq_true h3; unfold solB inI; rw [decide_eq_false (show ¬ m ≤ 60 by omega)]; simp), fun h3 => ?_⟩
  have h1' : triB a b c = true := by simpa using h1
  have hm0 : 0 ≤ m := by have := of_decide_eq_false h2; omega
  have hm1 : m ≤ 60 := by have := of_decide_eq_false h3; omega
  have hB : solB a b c m = true := by
    unfold solB inI
    rw [h1', decide_eq_true (show m ≥ 0 by omega), decide_eq_true hm1]; rfl
  rw [hB]
  have ht := triB_iff h1'
  clear hno h1 h2 h3 hB h1'
  show lpN _ _ _ _ _ _ _ _
  refine lp_intro (fun x : List F3 × Int => ⟨[(1, .one (.i m)), (2, .one (.ref 2 0)), (6, .one (.row 23)), (7, .one (.i x.2))], [(2, .ibox 25 [a, b, c]), (23, .row (.recs 27 3 (fl x.1)))]⟩)
    (fun x => 0 ≤ x.2 ∧ x.2 ≤ 61 ∧ x.1 ++ outL a b c m x.2 = solL a b c m) (fun x => (62 - x.2).toNat) ([], 0) [] ⟨by simp only; omega, by simp only; omega, rfl⟩ (by simp only [Cov, covOk, covFr, covMem, entEq, rn, nodupB, A0.ren, AV.ren, Entry.ren, Entry.norm, look, St.eval, A0.norm, AV.norm, Option.getD_some, Option.getD_none, cond_true, cond_false, Nat.reduceBEq, List.map_cons, List.map_nil, true_and, and_true, List.all_nil, Bool.and_true, Bool.or_false, Bool.not_false, List.contains_cons, List.contains_nil, beq_self_eq_true, and_self]; simp [fl_nil]) fun x hx J hJ => ⟨1000, ?_⟩
  obtain ⟨acc, z⟩ := x
  obtain ⟨hz0, hz1, hacc⟩ : 0 ≤ z ∧ z ≤ 61 ∧ acc ++ outL a b c m z = solL a b c m := hx
  simp only [vc, out, finD, St.drop, vwAt, Entry.vwO, RC.vwO, Entry.toO, toOf, St.res, step, stepE, stepPick, stepO, stepC, eff, look, rem, St.put, setMems, St.after, St.eval, cst, val1, okNew, Reg.item, Reg.next, binInt, effBin, nodupB, argOk, RC.flat, effBin2, disj, resOf, resAll, compEq, compsEq, rowHs, outHds, outsEq, shapeOk, finOk, comps, A0.norm, Option.getD_some, cond_true, cond_false, Nat.reduceBEq, Option.map_some, Nat.zero_add, Nat.reduceAdd, true_and, and_true, List.length_cons, List.length_nil, List.all_cons, List.all_nil, Bool.and_true, Bool.true_and, Bool.not_false, List.contains_nil, beq_self_eq_true, RC.recs.injEq, and_self]
  rw [bif_prop]
  refine ⟨fun hc => ?_, fun hc => ?_⟩
  · have hzm := of_decide_eq_true hc
    rw [outL_yes hzm, ← List.append_assoc] at hacc
    refine lp_intro (fun x : List F3 × Int => ⟨[(1, .one (.i m)), (2, .one (.ref 2 0)), (6, .one (.row 23)), (7, .one (.i z)), (8, .one (.i x.2))], [(2, .ibox 25 [a, b, c]), (23, .row (.recs 27 3 (fl x.1)))]⟩)
      (fun x => 0 ≤ x.2 ∧ x.2 ≤ 61 ∧ x.1 ++ rowL a b c m z x.2 ++ outL a b c m (z + 1) = solL a b c m) (fun x => (62 - x.2).toNat) (acc, 0) [] ⟨by simp only; omega, by simp only; omega, hacc⟩ (by simp only [Cov, covOk, covFr, covMem, entEq, rn, nodupB, A0.ren, AV.ren, Entry.ren, Entry.norm, look, St.eval, A0.norm, AV.norm, Option.getD_some, Option.getD_none, cond_true, cond_false, Nat.reduceBEq, List.map_cons, List.map_nil, List.all_nil, Bool.and_true, Bool.or_false, Bool.not_false, List.contains_cons, List.contains_nil, beq_self_eq_true, and_self]) fun x hx J2 hJ2 => ⟨1000, ?_⟩
    obtain ⟨acc2, y⟩ := x
    obtain ⟨hy0, hy1, hacc2⟩ : 0 ≤ y ∧ y ≤ 61 ∧ acc2 ++ rowL a b c m z y ++ outL a b c m (z + 1) = solL a b c m := hx
    have hlen := sol_len ⟨hm0, hm1⟩ hacc2
    simp only [vc, out, Entry.toO, toOf, St.res, step, stepE, stepPick, stepG, stepO, stepC, eff, look, rem, St.put, St.setMem, setMems, St.after, St.eval, cst, val1, okNew, newHs, allHs, rdOf, Reg.item, Reg.next, Reg.skip, slotOf, entryRow, loadI, effLoad, buildOf, effBuild, binInt, effBin, effPick, effExtract, svs, rowOf, allParts, effBuildSlice, readOf, subPre, maxRow, plainTI, appTo, effAppend, argOf, resA, resL, resV, argsPre, argOk, callWr, effCall, RC.flat, effBuild2, effBuildSl, callGo, effLoad2, effBuild3, effAppend2, calleeHs, effLoad3, effBin2, effBuild4, effCall2, wrHs, disj, AV.hs, A0.hs, Entry.hs, RC.elem, RC.sz, RC.len, RC.app, specOf, t_int, t_implTriple, t_implSpot, ts_implSpot, Option.getD_some, cond_true, cond_false, Nat.reduceBEq, List.map_cons, List.map_nil, List.set_cons_zero, List.set_cons_succ, List.getElem?_cons_zero, List.getElem?_cons_succ, List.drop_zero, List.take_succ_cons, List.take_zero, Option.map_some, Option.bind_some, Nat.zero_add, Nat.reduceAdd, true_and, and_true, List.replicate_succ, List.replicate_zero, List.length_cons, List.length_nil, List.all_cons, List.all_nil, Bool.and_true, Bool.and_false, Bool.or_false, Bool.not_true, Bool.not_false, List.append_nil, List.nil_append, List.cons_append, List.flatMap_cons, List.flatMap_nil, List.contains_cons, List.contains_nil, List.filter_cons, List.filter_nil, beq_self_eq_true, ble_dec, blt_dec, Nat.reduceLeDiff, decide_true, and_self, ite_true, ite_false, Bool.false_eq_true, cThird, cGcd, fl_slX, fl_length]
    rw [bif_prop]
    refine ⟨fun hd => ?_, fun hd => ?_⟩
    · have hym := of_decide_eq_true hd
      have hw : wrap64 (y + 1) = y + 1 := wrap_id (by omega) (by omega)
      have hN : slP a b c m y z = false → acc2 ++ rowL a b c m z (y + 1) ++ outL a b c m (z + 1) = solL a b c m := fun h => by
        rw [rowL_no hym h] at hacc2; exact hacc2
      have hY : slP a b c m y z = true → acc2 ++ [slX a b c y z] ++ rowL a b c m z (y + 1) ++ outL a b c m (z + 1) = solL a b c m := fun h => by
        rw [rowL_yes hym h] at hacc2
        rw [List.append_assoc acc2]; exact hacc2
      refine ⟨ht.2, ?_⟩
      rw [bif_prop]
      refine ⟨fun g1 => ?_, fun g1 => hJ2 _ (acc2, y + 1) [] ⟨by simp only; omega, by simp only; omega, hN (by unfold slP; rw [g1]; rfl)⟩ (by simp only; omega) (by simp only [Cov, covOk, covFr, covMem, entEq, rn, nodupB, A0.ren, AV.ren, Entry.ren, Entry.norm, look, St.eval, A0.norm, AV.norm, Option.getD_some, Option.getD_none, cond_true, cond_false, Nat.reduceBEq, List.map_cons, List.map_nil, List.all_nil, Bool.and_true, Bool.or_false, Bool.not_false, List.contains_cons, List.contains_nil, beq_self_eq_true, and_self, hw])⟩
      rw [bif_prop]
      refine ⟨fun g2 => ?_, fun g2 => hJ2 _ (acc2, y + 1) [] ⟨by simp only; omega, by simp only; omega, hN (by unfold slP; rw [g1, g2]; rfl)⟩ (by simp only; omega) (by simp only [Cov, covOk, covFr, covMem, entEq, rn, nodupB, A0.ren, AV.ren, Entry.ren, Entry.norm, look, St.eval, A0.norm, AV.norm, Option.getD_some, Option.getD_none, cond_true, cond_false, Nat.reduceBEq, List.map_cons, List.map_nil, List.all_nil, Bool.and_true, Bool.or_false, Bool.not_false, List.contains_cons, List.contains_nil, beq_self_eq_true, and_self, hw])⟩
      rw [bif_prop]
      refine ⟨fun g3 => ⟨by rw [List.length_append, List.length_singleton]; omega, hJ2 _ (acc2 ++ [slX a b c y z], y + 1) [(23, 61)] ⟨by simp only; omega, by simp only; omega, hY (by unfold slP; rw [g1, g2, g3]; rfl)⟩ (by simp only; omega) (by simp only [Cov, covOk, covFr, covMem, entEq, rn, nodupB, A0.ren, AV.ren, Entry.ren, Entry.norm, look, St.eval, A0.norm, AV.norm, Option.getD_some, Option.getD_none, cond_true, cond_false, Nat.reduceBEq, List.map_cons, List.map_nil, List.all_nil, Bool.and_true, Bool.or_false, Bool.not_false, List.contains_cons, List.contains_nil, beq_self_eq_true, and_self, hw])⟩, fun g3 => hJ2 _ (acc2, y + 1) [] ⟨by simp only; omega, by simp only; omega, hN (by unfold slP; rw [g1, g2, g3]; rfl)⟩ (by simp only; omega) (by simp only [Cov, covOk, covFr, covMem, entEq, rn, nodupB, A0.ren, AV.ren, Entry.ren, Entry.norm, look, St.eval, A0.norm, AV.norm, Option.getD_some, Option.getD_none, cond_true, cond_false, Nat.reduceBEq, List.map_cons, List.map_nil, List.all_nil, Bool.and_true, Bool.or_false, Bool.not_false, List.contains_cons, List.contains_nil, beq_self_eq_true, and_self, hw])⟩
    · have hwz : wrap64 (z + 1) = z + 1 := wrap_id (by omega) (by omega)
      refine hJ _ (acc2, z + 1) [] ⟨by simp only; omega, by simp only; omega, ?_⟩ (by simp only; omega) (by simp only [Cov, covOk, covFr, covMem, entEq, rn, nodupB, A0.ren, AV.ren, Entry.ren, Entry.norm, look, St.eval, A0.norm, AV.norm, Option.getD_some, Option.getD_none, cond_true, cond_false, Nat.reduceBEq, List.map_cons, List.map_nil, List.all_nil, Bool.and_true, Bool.or_false, Bool.not_false, List.contains_cons, List.contains_nil, beq_self_eq_true, and_self, hwz])
      rw [rowL_end (of_decide_eq_false hd), List.append_nil] at hacc2
      exact hacc2
  · rw [outL_end (of_decide_eq_false hc), List.append_nil] at hacc
    rw [hacc]
    exact ⟨by kernel_rfl, rfl⟩
theorem slP_no {a b c m y z : Int} (h : cxB a b c y z = false) : slP a b c m y z = false := by
  unfold slP
  cases hB : thB a b c y z with
  | false => rfl
  | true =>
    unfold cxB at h
    rw [hB] at h
    simp only [Bool.true_and, Bool.or_eq_false_iff, bne_eq_false_iff_eq] at h
    obtain ⟨h1, h2, h3⟩ := h
    have e0 : gcdI 0 0 = 0 := by rw [gcdI_eq (by decide) (by decide)]; rfl
    rw [h1, h2, h3, e0, e0]; simp
theorem slP_eq {a b c m y z : Int} (hT : Tr a b c y z) (h : cxB a b c y z = true) : slP a b c m y z = (decide (thX a b c y z ≤ m) && (nuGcdI (nuGcdI (thX a b c y z) y) z == 1)) ∧ thB a b c y z = true := by
  have hB : thB a b c y z = true := by
    unfold cxB at h; simp only [Bool.and_eq_true] at h; exact h.1
  obtain ⟨_, x0, x1⟩ := thX_sq hT hB
  obtain ⟨_, hy, hz⟩ := hT
  rw [content_eq (by omega) (by omega) (by omega)]
  unfold slP; rw [hB]; exact ⟨rfl, rfl⟩
-- (not in this seat: SSols)
theorem heldS_pos (n : Nat) : decide (1 + 3 * (n : Int) < 0) = false := by rw [decide_eq_false_iff_not]; omega
theorem solL_le {a b c m : Int} : (fl (onL (solB a b c m) (solL a b c m))).length ≤ 4000 := by
  rw [fl_length]
  cases h : solB a b c m with
  | false => simp [onL]
  | true =>
    simp only [solB, inI, Bool.and_eq_true, decide_eq_true_eq] at h
    have h2 : (solL a b c m).length ≤ 61 * (m + 1 - 0).toNat := outL_len (by omega)
    show (solL a b c m).length ≤ 4000
    omega
-- (not in this seat: LawSols)
end Go.Proofs.Ytacomnelongbjaa
