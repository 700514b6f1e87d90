/-
  Residue symbols: a plain definition of the Jacobi symbol, and contracts of the symbols on both sides. Conditions: none.
-/
import Derived.Test.YthjmjacniemfiabCls
import Derived.Test.YthjmjacniemfiabIte
namespace Go.Proofs.Ythjmjacniemfiab
open Go Go.RowKit
set_option maxRecDepth 100000
set_option linter.unusedSimpArgs false
set_option linter.unusedVariables false
set_option maxHeartbeats 4000000

def two8 (n : Int) : Int := if n % 8 = 1 ∨ n % 8 = 7 then 1 else if n % 8 = 3 ∨ n % 8 = 5 then -1 else 0
def flp (a n : Int) : Int := if a % 4 = 3 ∧ n % 4 = 3 then -1 else 1
theorem two8_odd {n : Int} (h : n % 2 = 1) : two8 n = 1 ∨ two8 n = -1 := by
  unfold two8
  split
  · exact .inl rfl
  · rw [if_pos (by omega)]; exact .inr rfl
theorem two8_abs (n : Int) : -1 ≤ two8 n ∧ two8 n ≤ 1 := by
  unfold two8
  split
  · omega
  · split <;> omega
theorem flp_cases (a n : Int) : flp a n = 1 ∨ flp a n = -1 := by
  unfold flp
  split
  · exact .inr rfl
  · exact .inl rfl
/-- the symbol for 0 ≤ a < n, n odd -/
def jac (a n : Int) : Int := if _h : 2 ≤ a then (if a % 2 = 0 then two8 n * jac (a / 2) n else flp a n * jac (n % a) a) else if a = 1 then 1 else if n = 1 then 1 else 0
  termination_by a.toNat
  decreasing_by
  · omega
  · have := Int.emod_lt_of_pos n (show 0 < a by omega)
    have := Int.emod_nonneg n (show a ≠ 0 by omega)
    omega
theorem jac_even {a n : Int} (h : 2 ≤ a) (h2 : a % 2 = 0) : jac a n = two8 n * jac (a / 2) n := by
  rw [jac.eq_def, dif_pos h, if_pos h2]
theorem jac_one (n : Int) : jac 1 n = 1 := by
  rw [jac.eq_def, dif_neg (by omega), if_pos rfl]
theorem jac_zero (n : Int) : jac 0 n = if n = 1 then 1 else 0 := by
  rw [jac.eq_def, dif_neg (by omega), if_neg (by omega)]
theorem jac_odd {a n : Int} (h : 1 ≤ a) (h2 : a % 2 = 1) : jac a n = flp a n * jac (n % a) a := by
  by_cases h1 : a = 1
  · subst h1
    rw [jac_one, Int.emod_one, jac_zero, if_pos rfl]
    unfold flp
    rw [if_neg (by omega)]; rfl
  · rw [jac.eq_def, dif_pos (by omega), if_neg (by omega)]
theorem jac_abs : ∀ (m : Nat) (a n : Int), a.toNat ≤ m → -1 ≤ jac a n ∧ jac a n ≤ 1 := by
  intro m
  induction m with
  | zero =>
    intro a n h
    rw [jac.eq_def, dif_neg (by omega)]
    split
    · omega
    · split <;> omega
  | succ m ih =>
    intro a n h
    rw [jac.eq_def]
    by_cases h2 : 2 ≤ a
    · rw [dif_pos h2]
      split
      · have h3 := ih (a / 2) n (by omega)
        have h4 := two8_abs n
        have h5 : two8 n = -1 ∨ two8 n = 0 ∨ two8 n = 1 := by omega
        rcases h5 with h5 | h5 | h5 <;> rw [h5] <;> omega
      · have := Int.emod_lt_of_pos n (show 0 < a by omega)
        have := Int.emod_nonneg n (show a ≠ 0 by omega)
        have h3 := ih (n % a) a (by omega)
        have h5 := flp_cases a n
        rcases h5 with h5 | h5 <;> rw [h5] <;> omega
    · rw [dif_neg h2]
      split
      · omega
      · split <;> omega
def jacI (a n : Int) : Int := jac (a % n) n
theorem jacI_abs (a n : Int) : -1 ≤ jacI a n ∧ jacI a n ≤ 1 := jac_abs _ _ _ (Nat.le_refl _)
theorem tmod_nn {a b : Int} (h : 0 ≤ a) : a.tmod b = a % b := by
  rw [Int.tmod_eq_emod]
  split <;> omega
theorem tdiv_nn {a b : Int} (h : 0 ≤ a) : a.tdiv b = a / b := Int.tdiv_eq_ediv_of_nonneg h
/-- one of the two signs -/
def Sg (s : Int) : Prop := s = 1 ∨ s = -1
theorem Sg.wrap_mul {s t : Int} (hs : Sg s) (ht : -1 ≤ t ∧ t ≤ 1) : wrap64 (s * t) = s * t := by
  rcases hs with h | h <;> rw [h] <;> exact wrap_id (by omega) (by omega)
theorem Sg.mul {s t : Int} (hs : Sg s) (ht : Sg t) : Sg (s * t) := by
  rcases hs with h | h <;> rcases ht with g | g <;> rw [h, g] <;> first | exact .inl rfl | exact .inr rfl
abbrev fSymTwo : Nat := 119
def cSymTwo : Ctr
  | [.i n] => some ⟨n % 2 = 1, .one (.i (two8 n)), []⟩
  | _ => none
theorem okSymTwo : CtrOk Try.prog fSymTwo cSymTwo := by
  have hsp : SpecOk Try.prog (specOf [(fMod, cMod)]) := (SpecOk.cons okMod SpecOk.nil)
  refine ctr_of (fn := Try.f119) mixed tab_ok hsp Try.func119 (by kernel_rfl) (by kernel_rfl) fun args ce h => ?_
  clear hsp
  unfold cSymTwo at h
  split at h
  case h_2 => cases h
  rename_i n
  simp only [Option.some.injEq] at h
  subst h
  refine ⟨by rfl, fun hp => ⟨0, 1000, ?_⟩⟩
  simp only [↓cond_to_ite, ↓reduceIte, vc, out, step, stepE, stepPick, stepG, stepO, stepC, eff, look, rem, St.put, St.setMem, setMems, St.after, St.eval, cst, setAt, val1, okNew, newHs, allHs, rdOf, outHs, Reg.item, Reg.next, Reg.skip, slotOf, effBox, effAlloc, entryRow, fieldOff, effField, loadI, load1, loadR, effLoad, storeI, storeB, storeR, szOk, storeTo, effStore, buildOf, effBuild, binInt, eqI, boolOf, binBool, effBin, effUn, effPick, effExtract, ivs, svs, rowOf, allParts, effBuildSlice, zeroRow, effMakeSlice, elemSz, idxA, idxS, effIndex, lenOf, readOf, subPre, maxRow, plainTI, appTo, effAppend, slcOf, effSlice, argOf, resA, resL, resV, outWr, nodupB, restOk, argsPre, argOk, callWr, effCall, effMax, wrHs, disj, AV.hs, A0.hs, Entry.hs, RC.elem, RC.sz, RC.len, RC.slice, RC.app, hA, initFr, initMem, initSt, resOf, resAll, compEq, compsEq, rowHs, outHds, outsEq, shapeOk, finOk, comps, A0.norm, AV.norm, specOf, t_int, t_bool, t_implForm, t_lawsForm, t_implMatrix, t_implTriple, t_lawsTriple, t_implSpot, t_implunited, t_implCharacter, t_implSymbolStep, t_implbilinear, t_a3int, t_a4int, ts_int, ts_implCharacter, Option.getD_some, Option.getD_none, cond_true, cond_false, Nat.reduceBEq, List.map_cons, List.map_nil, List.set_cons_zero, List.set_cons_succ, List.getElem?_cons_zero, List.getElem?_cons_succ, List.drop_zero, List.drop_succ_cons, List.take_succ_cons, List.take_zero, Option.map_some, Option.map_none, Option.bind_some, Nat.zero_add, Nat.add_zero, Nat.reduceAdd, Nat.reduceMul, true_and, and_true, List.replicate_succ, List.replicate_zero, List.length_cons, List.length_nil, List.all_cons, List.all_nil, List.any_cons, List.any_nil, Bool.and_true, Bool.true_and, Bool.and_false, Bool.false_and, Bool.or_true, Bool.true_or, Bool.or_false, Bool.false_or, Bool.not_true, Bool.not_false, List.append_nil, List.nil_append, List.cons_append, List.flatMap_cons, List.flatMap_nil, List.contains_cons, List.contains_nil, List.filter_cons, List.filter_nil, beq_self_eq_true, Bool.not_eq_true, A0.b.injEq, A0.i.injEq, A0.s.injEq, A0.rw.injEq, A0.fn.injEq, List.cons.injEq, RC.ints.injEq, RC.recs.injEq, RC.bools.injEq, AV.one.injEq, AV.tup.injEq, ble_dec, blt_dec, Nat.reduceLeDiff, Nat.reduceSub, decide_true, decide_false, and_self, List.toList_toArray, Option.isSome_some, Option.isSome_none, List.elem_nil, List.elem_cons, ite_true, ite_false, Bool.false_eq_true, if_true, if_false, reduceIte, flatB_2, flatB_3, flatB_4, List.headD_cons, List.tail_cons, cMod, fMod, Try.f119]
  have h : n % 2 = 1 := hp
  rw [modI_eq (by omega) (by omega)]
  unfold two8
  simp only [beq_iff_eq]
  refine ⟨by decide, ?_⟩
  (repeat' split) <;> omega
abbrev fSyTwo : Nat := 115
def cSyTwo : Ctr
  | [.i n] => some ⟨True, .one (.i (two8 n)), []⟩
  | _ => none
theorem okSyTwo : CtrOk Try.prog fSyTwo cSyTwo := by
  have hsp : SpecOk Try.prog (specOf [(fNuMod, cNuMod)]) := (SpecOk.cons okNuMod SpecOk.nil)
  refine ctr_of (fn := Try.f115) mixed tab_ok hsp Try.func115 (by kernel_rfl) (by kernel_rfl) fun args ce h => ?_
  clear hsp
  unfold cSyTwo at h
  split at h
  case h_2 => cases h
  rename_i n
  simp only [Option.some.injEq] at h
  subst h
  refine ⟨by rfl, fun hp => ⟨0, 1000, ?_⟩⟩
  simp only [↓cond_to_ite, ↓reduceIte, vc, out, step, stepE, stepPick, stepG, stepO, stepC, eff, look, rem, St.put, St.setMem, setMems, St.after, St.eval, cst, setAt, val1, okNew, newHs, allHs, rdOf, outHs, Reg.item, Reg.next, Reg.skip, slotOf, effBox, effAlloc, entryRow, fieldOff, effField, loadI, load1, loadR, effLoad, storeI, storeB, storeR, szOk, storeTo, effStore, buildOf, effBuild, binInt, eqI, boolOf, binBool, effBin, effUn, effPick, effExtract, ivs, svs, rowOf, allParts, effBuildSlice, zeroRow, effMakeSlice, elemSz, idxA, idxS, effIndex, lenOf, readOf, subPre, maxRow, plainTI, appTo, effAppend, slcOf, effSlice, argOf, resA, resL, resV, outWr, nodupB, restOk, argsPre, argOk, callWr, effCall, effMax, wrHs, disj, AV.hs, A0.hs, Entry.hs, RC.elem, RC.sz, RC.len, RC.slice, RC.app, hA, initFr, initMem, initSt, resOf, resAll, compEq, compsEq, rowHs, outHds, outsEq, shapeOk, finOk, comps, A0.norm, AV.norm, specOf, t_int, t_bool, t_implForm, t_lawsForm, t_implMatrix, t_implTriple, t_lawsTriple, t_implSpot, t_implunited, t_implCharacter, t_implSymbolStep, t_implbilinear, t_a3int, t_a4int, ts_int, ts_implCharacter, Option.getD_some, Option.getD_none, cond_true, cond_false, Nat.reduceBEq, List.map_cons, List.map_nil, List.set_cons_zero, List.set_cons_succ, List.getElem?_cons_zero, List.getElem?_cons_succ, List.drop_zero, List.drop_succ_cons, List.take_succ_cons, List.take_zero, Option.map_some, Option.map_none, Option.bind_some, Nat.zero_add, Nat.add_zero, Nat.reduceAdd, Nat.reduceMul, true_and, and_true, List.replicate_succ, List.replicate_zero, List.length_cons, List.length_nil, List.all_cons, List.all_nil, List.any_cons, List.any_nil, Bool.and_true, Bool.true_and, Bool.and_false, Bool.false_and, Bool.or_true, Bool.true_or, Bool.or_false, Bool.false_or, Bool.not_true, Bool.not_false, List.append_nil, List.nil_append, List.cons_append, List.flatMap_cons, List.flatMap_nil, List.contains_cons, List.contains_nil, List.filter_cons, List.filter_nil, beq_self_eq_true, Bool.not_eq_true, A0.b.injEq, A0.i.injEq, A0.s.injEq, A0.rw.injEq, A0.fn.injEq, List.cons.injEq, RC.ints.injEq, RC.recs.injEq, RC.bools.injEq, AV.one.injEq, AV.tup.injEq, ble_dec, blt_dec, Nat.reduceLeDiff, Nat.reduceSub, decide_true, decide_false, and_self, List.toList_toArray, Option.isSome_some, Option.isSome_none, List.elem_nil, List.elem_cons, ite_true, ite_false, Bool.false_eq_true, if_true, if_false, reduceIte, flatB_2, flatB_3, flatB_4, List.headD_cons, List.tail_cons, cNuMod, fNuMod, Try.f115]
  rw [modI_eq (by omega) (by omega)]
  unfold two8
  simp only [beq_iff_eq]
  refine ⟨by decide, ?_⟩
  (repeat' split) <;> omega
def suT (t b : Int) : Int := if 0 ≤ t ∧ t ≤ b - 1 then (if t % 2 = 0 then t / 2 else b) else t % b
def suB (t b : Int) : Int := if 0 ≤ t ∧ t ≤ b - 1 then (if t % 2 = 0 then b else t) else b
def suS (t b s : Int) : Int := if 0 ≤ t ∧ t ≤ b - 1 then (if t % 2 = 0 then s * two8 b else s * flp t b) else s
def suM (t b : Int) : Nat := if 0 ≤ t ∧ t ≤ b - 1 then (2 * t + 1).toNat else (2 * b).toNat
def SuPre (t b s : Int) : Prop := (1 ≤ b ∧ b ≤ 1000000000 ∧ b % 2 = 1) ∧ (-1000000000000000 ≤ t ∧ t ≤ 1000000000000000) ∧ Sg s
abbrev fSySucc : Nat := 126
def cSySucc : Ctr
  | [.s [t, b, s]] => some ⟨SuPre t b s, .one (.s [suT t b, suB t b, suS t b s]), []⟩
  | _ => none
theorem okSySucc : CtrOk Try.prog fSySucc cSySucc := by
  have hsp : SpecOk Try.prog (specOf [(fIn, cIn), (fNuMod, cNuMod), (fSyTwo, cSyTwo)]) := (SpecOk.cons okIn (SpecOk.cons okNuMod (SpecOk.cons okSyTwo SpecOk.nil)))
  refine ctr_of (fn := Try.f126) mixed tab_ok hsp Try.func126 (by kernel_rfl) (by kernel_rfl) fun args ce h => ?_
  clear hsp
  unfold cSySucc at h
  split at h
  case h_2 => cases h
  rename_i t b s
  simp only [Option.some.injEq] at h
  subst h
  refine ⟨by rfl, fun hp => ⟨0, 1000, ?_⟩⟩
  simp only [↓cond_to_ite, ↓reduceIte, vc, out, step, stepE, stepPick, stepG, stepO, stepC, eff, look, rem, St.put, St.setMem, setMems, St.after, St.eval, cst, setAt, val1, okNew, newHs, allHs, rdOf, outHs, Reg.item, Reg.next, Reg.skip, slotOf, effBox, effAlloc, entryRow, fieldOff, effField, loadI, load1, loadR, effLoad, storeI, storeB, storeR, szOk, storeTo, effStore, buildOf, effBuild, binInt, eqI, boolOf, binBool, effBin, effUn, effPick, effExtract, ivs, svs, rowOf, allParts, effBuildSlice, zeroRow, effMakeSlice, elemSz, idxA, idxS, effIndex, lenOf, readOf, subPre, maxRow, plainTI, appTo, effAppend, slcOf, effSlice, argOf, resA, resL, resV, outWr, nodupB, restOk, argsPre, argOk, callWr, effCall, effMax, wrHs, disj, AV.hs, A0.hs, Entry.hs, RC.elem, RC.sz, RC.len, RC.slice, RC.app, hA, initFr, initMem, initSt, resOf, resAll, compEq, compsEq, rowHs, outHds, outsEq, shapeOk, finOk, comps, A0.norm, AV.norm, specOf, t_int, t_bool, t_implForm, t_lawsForm, t_implMatrix, t_implTriple, t_lawsTriple, t_implSpot, t_implunited, t_implCharacter, t_implSymbolStep, t_implbilinear, t_a3int, t_a4int, ts_int, ts_implCharacter, Option.getD_some, Option.getD_none, cond_true, cond_false, Nat.reduceBEq, List.map_cons, List.map_nil, List.set_cons_zero, List.set_cons_succ, List.getElem?_cons_zero, List.getElem?_cons_succ, List.drop_zero, List.drop_succ_cons, List.take_succ_cons, List.take_zero, Option.map_some, Option.map_none, Option.bind_some, Nat.zero_add, Nat.add_zero, Nat.reduceAdd, Nat.reduceMul, true_and, and_true, List.replicate_succ, List.replicate_zero, List.length_cons, List.length_nil, List.all_cons, List.all_nil, List.any_cons, List.any_nil, Bool.and_true, Bool.true_and, Bool.and_false, Bool.false_and, Bool.or_true, Bool.true_or, Bool.or_false, Bool.false_or, Bool.not_true, Bool.not_false, List.append_nil, List.nil_append, List.cons_append, List.flatMap_cons, List.flatMap_nil, List.contains_cons, List.contains_nil, List.filter_cons, List.filter_nil, beq_self_eq_true, Bool.not_eq_true, A0.b.injEq, A0.i.injEq, A0.s.injEq, A0.rw.injEq, A0.fn.injEq, List.cons.injEq, RC.ints.injEq, RC.recs.injEq, RC.bools.injEq, AV.one.injEq, AV.tup.injEq, ble_dec, blt_dec, Nat.reduceLeDiff, Nat.reduceSub, decide_true, decide_false, and_self, List.toList_toArray, Option.isSome_some, Option.isSome_none, List.elem_nil, List.elem_cons, ite_true, ite_false, Bool.false_eq_true, if_true, if_false, reduceIte, flatB_2, flatB_3, flatB_4, List.headD_cons, List.tail_cons, cIn, fIn, cNuMod, fNuMod, cSyTwo, fSyTwo, Try.f126]
  obtain ⟨⟨hb1, hb2, hb3⟩, ⟨ht1, ht2⟩, hs⟩ : SuPre t b s := hp
  have w1 : wrap64 (b - 1) = b - 1 := wrap_id (by omega) (by omega)
  have e1 : inI t 0 (wrap64 (b - 1)) = decide (0 ≤ t ∧ t ≤ b - 1) := by
    rw [w1]; unfold inI
    rw [Bool.eq_iff_iff]; simp
  have e2 : modI t b = t % b := modI_eq (by omega) (by omega)
  unfold suT suB suS
  rw [e1, e2]
  by_cases h : 0 ≤ t ∧ t ≤ b - 1
  · have e3 : t.tmod 2 = t % 2 := tmod_nn h.1
    have e4 : t.tmod 4 = t % 4 := tmod_nn h.1
    have e5 : b.tmod 4 = b % 4 := tmod_nn (by omega)
    have e6 : wrap64 (t.tdiv 2) = t / 2 := by rw [tdiv_nn h.1, wrap_id (by omega) (by omega)]
    have e7 : wrap64 (s * two8 b) = s * two8 b := hs.wrap_mul (two8_abs b)
    simp only [h, and_self, decide_true, Bool.not_true, Bool.false_eq_true, if_false, if_true, e3, e4, e5, e6, e7]
    refine ⟨by decide, ite_prop (fun g => ?_) fun g => ?_⟩
    · have g1 : t % 2 = 0 := by simpa using g
      simp only [g1, if_true]
      exact ⟨by decide, by kernel_rfl, trivial, trivial, trivial⟩
    · have g1 : ¬ t % 2 = 0 := by simpa using g
      simp only [g1, if_false, beq_iff_eq, flp, true_and]
      refine ⟨by decide, ?_⟩
      have e8 : wrap64 (0 - s) = -s := by rcases hs with h | h <;> rw [h] <;> rw [wrap_id (by omega) (by omega)] <;> rfl
      by_cases g2 : t % 4 = 3
      · by_cases g3 : b % 4 = 3
        · simp only [g2, g3, and_self, if_true, e8]
          exact ⟨by decide, by omega⟩
        · simp only [g2, g3, and_false, if_true, if_false, Int.mul_one]
          exact ⟨by decide, trivial⟩
      · simp only [g2, false_and, if_false, Int.mul_one]
  · simp only [h, decide_false, Bool.not_false, if_true, if_false]
    exact ⟨by omega, trivial, trivial, trivial⟩
abbrev fSyEnd : Nat := 125
def cSyEnd : Ctr
  | [.s [t, b, s]] => some ⟨True, .one (.b (t == 0 || t == 1)), []⟩
  | _ => none
theorem okSyEnd : CtrOk Try.prog fSyEnd cSyEnd := by
  have hsp : SpecOk Try.prog (specOf []) := SpecOk.nil
  refine ctr_of (fn := Try.f125) mixed tab_ok hsp Try.func125 (by kernel_rfl) (by kernel_rfl) fun args ce h => ?_
  clear hsp
  unfold cSyEnd at h
  split at h
  case h_2 => cases h
  rename_i t b s
  simp only [Option.some.injEq] at h
  subst h
  refine ⟨by rfl, fun hp => ⟨0, 1000, ?_⟩⟩
  simp only [↓cond_to_ite, ↓reduceIte, vc, out, step, stepE, stepPick, stepG, stepO, stepC, eff, look, rem, St.put, St.setMem, setMems, St.after, St.eval, cst, setAt, val1, okNew, newHs, allHs, rdOf, outHs, Reg.item, Reg.next, Reg.skip, slotOf, effBox, effAlloc, entryRow, fieldOff, effField, loadI, load1, loadR, effLoad, storeI, storeB, storeR, szOk, storeTo, effStore, buildOf, effBuild, binInt, eqI, boolOf, binBool, effBin, effUn, effPick, effExtract, ivs, svs, rowOf, allParts, effBuildSlice, zeroRow, effMakeSlice, elemSz, idxA, idxS, effIndex, lenOf, readOf, subPre, maxRow, plainTI, appTo, effAppend, slcOf, effSlice, argOf, resA, resL, resV, outWr, nodupB, restOk, argsPre, argOk, callWr, effCall, effMax, wrHs, disj, AV.hs, A0.hs, Entry.hs, RC.elem, RC.sz, RC.len, RC.slice, RC.app, hA, initFr, initMem, initSt, resOf, resAll, compEq, compsEq, rowHs, outHds, outsEq, shapeOk, finOk, comps, A0.norm, AV.norm, specOf, t_int, t_bool, t_implForm, t_lawsForm, t_implMatrix, t_implTriple, t_lawsTriple, t_implSpot, t_implunited, t_implCharacter, t_implSymbolStep, t_implbilinear, t_a3int, t_a4int, ts_int, ts_implCharacter, Option.getD_some, Option.getD_none, cond_true, cond_false, Nat.reduceBEq, List.map_cons, List.map_nil, List.set_cons_zero, List.set_cons_succ, List.getElem?_cons_zero, List.getElem?_cons_succ, List.drop_zero, List.drop_succ_cons, List.take_succ_cons, List.take_zero, Option.map_some, Option.map_none, Option.bind_some, Nat.zero_add, Nat.add_zero, Nat.reduceAdd, Nat.reduceMul, true_and, and_true, List.replicate_succ, List.replicate_zero, List.length_cons, List.length_nil, List.all_cons, List.all_nil, List.any_cons, List.any_nil, Bool.and_true, Bool.true_and, Bool.and_false, Bool.false_and, Bool.or_true, Bool.true_or, Bool.or_false, Bool.false_or, Bool.not_true, Bool.not_false, List.append_nil, List.nil_append, List.cons_append, List.flatMap_cons, List.flatMap_nil, List.contains_cons, List.contains_nil, List.filter_cons, List.filter_nil, beq_self_eq_true, Bool.not_eq_true, A0.b.injEq, A0.i.injEq, A0.s.injEq, A0.rw.injEq, A0.fn.injEq, List.cons.injEq, RC.ints.injEq, RC.recs.injEq, RC.bools.injEq, AV.one.injEq, AV.tup.injEq, ble_dec, blt_dec, Nat.reduceLeDiff, Nat.reduceSub, decide_true, decide_false, and_self, List.toList_toArray, Option.isSome_some, Option.isSome_none, List.elem_nil, List.elem_cons, ite_true, ite_false, Bool.false_eq_true, if_true, if_false, reduceIte, flatB_2, flatB_3, flatB_4, List.headD_cons, List.tail_cons, Try.f125]
  cases h : (t == 0) with
  | true => rfl
  | false =>
    exact ite_prop (fun g => absurd g (by decide)) fun _ => by simp only [Bool.false_or]
theorem su_next {t b s : Int} (h : SuPre t b s) (h0 : t ≠ 0) (h1 : t ≠ 1) : SuPre (suT t b) (suB t b) (suS t b s) ∧ suS t b s * jac (suT t b % suB t b) (suB t b) = s * jac (t % b) b ∧ suM (suT t b) (suB t b) < suM t b := by
  obtain ⟨⟨hb1, hb2, hb3⟩, ⟨ht1, ht2⟩, hs⟩ := h
  unfold suT suB suS
  by_cases hr : 0 ≤ t ∧ t ≤ b - 1
  · simp only [hr, and_self, if_true]
    have hm : t % b = t := Int.emod_eq_of_lt hr.1 (by omega)
    by_cases g : t % 2 = 0
    · simp only [g, if_true]
      have hm2 : t / 2 % b = t / 2 := Int.emod_eq_of_lt (by omega) (by omega)
      rw [hm, hm2, jac_even (by omega) g, Int.mul_assoc]
      refine ⟨⟨⟨hb1, hb2, hb3⟩, ⟨by omega, by omega⟩, hs.mul (two8_odd hb3)⟩, rfl, ?_⟩
      unfold suM
      rw [if_pos (by omega), if_pos (by omega)]
      omega
    · simp only [g, if_false]
      rw [hm, jac_odd (a := t) (by omega) (by omega), Int.mul_assoc]
      refine ⟨⟨⟨by omega, by omega, by omega⟩, ⟨by omega, by omega⟩, hs.mul (flp_cases t b)⟩, rfl, ?_⟩
      unfold suM
      rw [if_neg (by omega), if_pos (by omega)]
      omega
  · simp only [hr, if_false]
    have h2 := Int.emod_nonneg t (show b ≠ 0 by omega)
    have h3 := Int.emod_lt_of_pos t (show 0 < b by omega)
    refine ⟨⟨⟨hb1, hb2, hb3⟩, ⟨by omega, by omega⟩, hs⟩, by rw [Int.emod_emod], ?_⟩
    unfold suM
    rw [if_pos (by omega), if_neg hr]
    omega
def JcPre (a n : Int) : Prop := (1 ≤ n ∧ n ≤ 1000000000 ∧ n % 2 = 1) ∧ (-1000000000000000 ≤ a ∧ a ≤ 1000000000000000)
abbrev fSyJac : Nat := 114
def cSyJac : Ctr
  | [.i a, .i n] => some ⟨JcPre a n, .one (.i (jacI a n)), []⟩
  | _ => none
theorem okSyJac : CtrOk Try.prog fSyJac cSyJac := by
  have hsp : SpecOk Try.prog (specOf [(fSyEnd, cSyEnd), (fSySucc, cSySucc)]) := (SpecOk.cons okSyEnd (SpecOk.cons okSySucc SpecOk.nil))
  refine ctr_of (fn := Try.f114) mixed tab_ok hsp Try.func114 (by kernel_rfl) (by kernel_rfl) fun args ce h => ?_
  clear hsp
  unfold cSyJac at h
  split at h
  case h_2 => cases h
  rename_i a n
  simp only [Option.some.injEq] at h
  subst h
  refine ⟨by rfl, fun hp => ⟨1, 1000, ?_⟩⟩
  simp only [↓cond_to_ite, ↓reduceIte, vc, out, step, stepE, stepPick, stepG, stepO, stepC, eff, look, rem, St.put, St.setMem, setMems, St.after, St.eval, cst, setAt, val1, okNew, newHs, allHs, rdOf, outHs, Reg.item, Reg.next, Reg.skip, slotOf, effBox, effAlloc, entryRow, fieldOff, effField, loadI, load1, loadR, effLoad, storeI, storeB, storeR, szOk, storeTo, effStore, buildOf, effBuild, binInt, eqI, boolOf, binBool, effBin, effUn, effPick, effExtract, ivs, svs, rowOf, allParts, effBuildSlice, zeroRow, effMakeSlice, elemSz, idxA, idxS, effIndex, lenOf, readOf, subPre, maxRow, plainTI, appTo, effAppend, slcOf, effSlice, argOf, resA, resL, resV, outWr, nodupB, restOk, argsPre, argOk, callWr, effCall, effMax, wrHs, disj, AV.hs, A0.hs, Entry.hs, RC.elem, RC.sz, RC.len, RC.slice, RC.app, hA, initFr, initMem, initSt, resOf, resAll, compEq, compsEq, rowHs, outHds, outsEq, shapeOk, finOk, comps, A0.norm, AV.norm, specOf, t_int, t_bool, t_implForm, t_lawsForm, t_implMatrix, t_implTriple, t_lawsTriple, t_implSpot, t_implunited, t_implCharacter, t_implSymbolStep, t_implbilinear, t_a3int, t_a4int, ts_int, ts_implCharacter, Option.getD_some, Option.getD_none, cond_true, cond_false, Nat.reduceBEq, List.map_cons, List.map_nil, List.set_cons_zero, List.set_cons_succ, List.getElem?_cons_zero, List.getElem?_cons_succ, List.drop_zero, List.drop_succ_cons, List.take_succ_cons, List.take_zero, Option.map_some, Option.map_none, Option.bind_some, Nat.zero_add, Nat.add_zero, Nat.reduceAdd, Nat.reduceMul, true_and, and_true, List.replicate_succ, List.replicate_zero, List.length_cons, List.length_nil, List.all_cons, List.all_nil, List.any_cons, List.any_nil, Bool.and_true, Bool.true_and, Bool.and_false, Bool.false_and, Bool.or_true, Bool.true_or, Bool.or_false, Bool.false_or, Bool.not_true, Bool.not_false, List.append_nil, List.nil_append, List.cons_append, List.flatMap_cons, List.flatMap_nil, List.contains_cons, List.contains_nil, List.filter_cons, List.filter_nil, beq_self_eq_true, Bool.not_eq_true, A0.b.injEq, A0.i.injEq, A0.s.injEq, A0.rw.injEq, A0.fn.injEq, List.cons.injEq, RC.ints.injEq, RC.recs.injEq, RC.bools.injEq, AV.one.injEq, AV.tup.injEq, ble_dec, blt_dec, Nat.reduceLeDiff, Nat.reduceSub, decide_true, decide_false, and_self, List.toList_toArray, Option.isSome_some, Option.isSome_none, List.elem_nil, List.elem_cons, ite_true, ite_false, Bool.false_eq_true, if_true, if_false, reduceIte, flatB_2, flatB_3, flatB_4, List.headD_cons, List.tail_cons, cSyEnd, fSyEnd, cSySucc, fSySucc, Try.f114]
  obtain ⟨⟨hn1, hn2, hn3⟩, ha1, ha2⟩ : JcPre a n := hp
  refine lp_intro (fun x : Int × Int × Int => ⟨[(5, .one (.ref 5 0))], [(5, .ibox 112 [x.1, x.2.1, x.2.2])]⟩)
    (fun x => SuPre x.1 x.2.1 x.2.2 ∧ x.2.2 * jac (x.1 % x.2.1) x.2.1 = jacI a n) (fun x => suM x.1 x.2.1) (a, n, 1) [] ⟨⟨⟨hn1, hn2, hn3⟩, ⟨ha1, ha2⟩, .inl rfl⟩, by simp only [Int.one_mul, jacI]⟩ (by simp only [Cov, covOk, covFr, covMem, entEq, rn, nodupB, A0.ren, AV.ren, Entry.ren, Entry.norm, vc, out, step, stepE, stepPick, stepG, stepO, stepC, eff, look, rem, St.put, St.setMem, setMems, St.after, St.eval, cst, setAt, val1, okNew, newHs, allHs, rdOf, outHs, Reg.item, Reg.next, Reg.skip, slotOf, effBox, effAlloc, entryRow, fieldOff, effField, loadI, load1, loadR, effLoad, storeI, storeB, storeR, szOk, storeTo, effStore, buildOf, effBuild, binInt, eqI, boolOf, binBool, effBin, effUn, effPick, effExtract, ivs, svs, rowOf, allParts, effBuildSlice, zeroRow, effMakeSlice, elemSz, idxA, idxS, effIndex, lenOf, readOf, subPre, maxRow, plainTI, appTo, effAppend, slcOf, effSlice, argOf, resA, resL, resV, outWr, nodupB, restOk, argsPre, argOk, callWr, effCall, effMax, wrHs, disj, AV.hs, A0.hs, Entry.hs, RC.elem, RC.sz, RC.len, RC.slice, RC.app, hA, initFr, initMem, initSt, resOf, resAll, compEq, compsEq, rowHs, outHds, outsEq, shapeOk, finOk, comps, A0.norm, AV.norm, specOf, t_int, t_bool, t_implForm, t_lawsForm, t_implMatrix, t_implTriple, t_lawsTriple, t_implSpot, t_implunited, t_implCharacter, t_implSymbolStep, t_implbilinear, t_a3int, t_a4int, ts_int, ts_implCharacter, Option.getD_some, Option.getD_none, cond_true, cond_false, Nat.reduceBEq, List.map_cons, List.map_nil, List.set_cons_zero, List.set_cons_succ, List.getElem?_cons_zero, List.getElem?_cons_succ, List.drop_zero, List.drop_succ_cons, List.take_succ_cons, List.take_zero, Option.map_some, Option.map_none, Option.bind_some, Nat.zero_add, Nat.add_zero, Nat.reduceAdd, Nat.reduceMul, true_and, and_true, List.replicate_succ, List.replicate_zero, List.length_cons, List.length_nil, List.all_cons, List.all_nil, List.any_cons, List.any_nil, Bool.and_true, Bool.true_and, Bool.and_false, Bool.false_and, Bool.or_true, Bool.true_or, Bool.or_false, Bool.false_or, Bool.not_true, Bool.not_false, List.append_nil, List.nil_append, List.cons_append, List.flatMap_cons, List.flatMap_nil, List.contains_cons, List.contains_nil, List.filter_cons, List.filter_nil, beq_self_eq_true, Bool.not_eq_true, A0.b.injEq, A0.i.injEq, A0.s.injEq, A0.rw.injEq, A0.fn.injEq, List.cons.injEq, RC.ints.injEq, RC.recs.injEq, RC.bools.injEq, AV.one.injEq, AV.tup.injEq, ble_dec, blt_dec, Nat.reduceLeDiff, Nat.reduceSub, decide_true, decide_false, and_self, List.toList_toArray, Option.isSome_some, Option.isSome_none, List.elem_nil, List.elem_cons, ite_true, ite_false, Bool.false_eq_true, if_true, if_false, reduceIte, flatB_2, flatB_3, flatB_4, List.headD_cons, List.tail_cons]) fun x hx J hJ => ⟨1000, ?_⟩
  obtain ⟨t, b, s⟩ := x
  obtain ⟨hpre, hv⟩ : SuPre t b s ∧ s * jac (t % b) b = jacI a n := hx
  have hpre' := hpre
  obtain ⟨⟨hb1, hb2, hb3⟩, ⟨ht1, ht2⟩, hs⟩ := hpre'
  simp only at hJ
  by_cases h0 : t = 0
  · subst h0
    have e1 : ((0 : Int) == 0 || (0 : Int) == 1) = true := rfl
    rw [Int.zero_emod, jac_zero] at hv
    simp only [↓cond_to_ite, ↓reduceIte, vc, out, step, stepE, stepPick, stepG, stepO, stepC, eff, look, rem, St.put, St.setMem, setMems, St.after, St.eval, cst, setAt, val1, okNew, newHs, allHs, rdOf, outHs, Reg.item, Reg.next, Reg.skip, slotOf, effBox, effAlloc, entryRow, fieldOff, effField, loadI, load1, loadR, effLoad, storeI, storeB, storeR, szOk, storeTo, effStore, buildOf, effBuild, binInt, eqI, boolOf, binBool, effBin, effUn, effPick, effExtract, ivs, svs, rowOf, allParts, effBuildSlice, zeroRow, effMakeSlice, elemSz, idxA, idxS, effIndex, lenOf, readOf, subPre, maxRow, plainTI, appTo, effAppend, slcOf, effSlice, argOf, resA, resL, resV, outWr, nodupB, restOk, argsPre, argOk, callWr, effCall, effMax, wrHs, disj, AV.hs, A0.hs, Entry.hs, RC.elem, RC.sz, RC.len, RC.slice, RC.app, hA, initFr, initMem, initSt, resOf, resAll, compEq, compsEq, rowHs, outHds, outsEq, shapeOk, finOk, comps, A0.norm, AV.norm, specOf, t_int, t_bool, t_implForm, t_lawsForm, t_implMatrix, t_implTriple, t_lawsTriple, t_implSpot, t_implunited, t_implCharacter, t_implSymbolStep, t_implbilinear, t_a3int, t_a4int, ts_int, ts_implCharacter, Option.getD_some, Option.getD_none, cond_true, cond_false, Nat.reduceBEq, List.map_cons, List.map_nil, List.set_cons_zero, List.set_cons_succ, List.getElem?_cons_zero, List.getElem?_cons_succ, List.drop_zero, List.drop_succ_cons, List.take_succ_cons, List.take_zero, Option.map_some, Option.map_none, Option.bind_some, Nat.zero_add, Nat.add_zero, Nat.reduceAdd, Nat.reduceMul, true_and, and_true, List.replicate_succ, List.replicate_zero, List.length_cons, List.length_nil, List.all_cons, List.all_nil, List.any_cons, List.any_nil, Bool.and_true, Bool.true_and, Bool.and_false, Bool.false_and, Bool.or_true, Bool.true_or, Bool.or_false, Bool.false_or, Bool.not_true, Bool.not_false, List.append_nil, List.nil_append, List.cons_append, List.flatMap_cons, List.flatMap_nil, List.contains_cons, List.contains_nil, List.filter_cons, List.filter_nil, beq_self_eq_true, Bool.not_eq_true, A0.b.injEq, A0.i.injEq, A0.s.injEq, A0.rw.injEq, A0.fn.injEq, List.cons.injEq, RC.ints.injEq, RC.recs.injEq, RC.bools.injEq, AV.one.injEq, AV.tup.injEq, ble_dec, blt_dec, Nat.reduceLeDiff, Nat.reduceSub, decide_true, decide_false, and_self, List.toList_toArray, Option.isSome_some, Option.isSome_none, List.elem_nil, List.elem_cons, ite_true, ite_false, Bool.false_eq_true, if_true, if_false, reduceIte, flatB_2, flatB_3, flatB_4, List.headD_cons, List.tail_cons, cSyEnd, fSyEnd, e1]
    by_cases hb : b > 1
    · rw [if_neg (by omega)] at hv
      have e2 : decide (b > 1) = true := decide_eq_true hb
      simp only [e2, if_true]
      omega
    · rw [if_pos (by omega)] at hv
      have e2 : decide (b > 1) = false := decide_eq_false hb
      simp only [e2, Bool.false_eq_true, if_false]
      omega
  · have e0 : (t == 0) = false := by simpa using h0
    by_cases h1 : t = 1
    · subst h1
      have e1 : ((1 : Int) == 0 || (1 : Int) == 1) = true := rfl
      have hv' : s = jacI a n := by
        by_cases hb : b = 1
        · subst hb
          rw [Int.emod_one, jac_zero, if_pos rfl] at hv
          omega
        · rw [Int.emod_eq_of_lt (by omega) (by omega), jac_one] at hv
          omega
      simp only [↓cond_to_ite, ↓reduceIte, vc, out, step, stepE, stepPick, stepG, stepO, stepC, eff, look, rem, St.put, St.setMem, setMems, St.after, St.eval, cst, setAt, val1, okNew, newHs, allHs, rdOf, outHs, Reg.item, Reg.next, Reg.skip, slotOf, effBox, effAlloc, entryRow, fieldOff, effField, loadI, load1, loadR, effLoad, storeI, storeB, storeR, szOk, storeTo, effStore, buildOf, effBuild, binInt, eqI, boolOf, binBool, effBin, effUn, effPick, effExtract, ivs, svs, rowOf, allParts, effBuildSlice, zeroRow, effMakeSlice, elemSz, idxA, idxS, effIndex, lenOf, readOf, subPre, maxRow, plainTI, appTo, effAppend, slcOf, effSlice, argOf, resA, resL, resV, outWr, nodupB, restOk, argsPre, argOk, callWr, effCall, effMax, wrHs, disj, AV.hs, A0.hs, Entry.hs, RC.elem, RC.sz, RC.len, RC.slice, RC.app, hA, initFr, initMem, initSt, resOf, resAll, compEq, compsEq, rowHs, outHds, outsEq, shapeOk, finOk, comps, A0.norm, AV.norm, specOf, t_int, t_bool, t_implForm, t_lawsForm, t_implMatrix, t_implTriple, t_lawsTriple, t_implSpot, t_implunited, t_implCharacter, t_implSymbolStep, t_implbilinear, t_a3int, t_a4int, ts_int, ts_implCharacter, Option.getD_some, Option.getD_none, cond_true, cond_false, Nat.reduceBEq, List.map_cons, List.map_nil, List.set_cons_zero, List.set_cons_succ, List.getElem?_cons_zero, List.getElem?_cons_succ, List.drop_zero, List.drop_succ_cons, List.take_succ_cons, List.take_zero, Option.map_some, Option.map_none, Option.bind_some, Nat.zero_add, Nat.add_zero, Nat.reduceAdd, Nat.reduceMul, true_and, and_true, List.replicate_succ, List.replicate_zero, List.length_cons, List.length_nil, List.all_cons, List.all_nil, List.any_cons, List.any_nil, Bool.and_true, Bool.true_and, Bool.and_false, Bool.false_and, Bool.or_true, Bool.true_or, Bool.or_false, Bool.false_or, Bool.not_true, Bool.not_false, List.append_nil, List.nil_append, List.cons_append, List.flatMap_cons, List.flatMap_nil, List.contains_cons, List.contains_nil, List.filter_cons, List.filter_nil, beq_self_eq_true, Bool.not_eq_true, A0.b.injEq, A0.i.injEq, A0.s.injEq, A0.rw.injEq, A0.fn.injEq, List.cons.injEq, RC.ints.injEq, RC.recs.injEq, RC.bools.injEq, AV.one.injEq, AV.tup.injEq, ble_dec, blt_dec, Nat.reduceLeDiff, Nat.reduceSub, decide_true, decide_false, and_self, List.toList_toArray, Option.isSome_some, Option.isSome_none, List.elem_nil, List.elem_cons, ite_true, ite_false, Bool.false_eq_true, if_true, if_false, reduceIte, flatB_2, flatB_3, flatB_4, List.headD_cons, List.tail_cons, cSyEnd, fSyEnd, e1, e0]
      exact hv'
    · have e1 : (t == 0 || t == 1) = false := by simp [h0, h1]
      obtain ⟨n1, n2, n3⟩ := su_next hpre h0 h1
      simp only [↓cond_to_ite, ↓reduceIte, vc, out, step, stepE, stepPick, stepG, stepO, stepC, eff, look, rem, St.put, St.setMem, setMems, St.after, St.eval, cst, setAt, val1, okNew, newHs, allHs, rdOf, outHs, Reg.item, Reg.next, Reg.skip, slotOf, effBox, effAlloc, entryRow, fieldOff, effField, loadI, load1, loadR, effLoad, storeI, storeB, storeR, szOk, storeTo, effStore, buildOf, effBuild, binInt, eqI, boolOf, binBool, effBin, effUn, effPick, effExtract, ivs, svs, rowOf, allParts, effBuildSlice, zeroRow, effMakeSlice, elemSz, idxA, idxS, effIndex, lenOf, readOf, subPre, maxRow, plainTI, appTo, effAppend, slcOf, effSlice, argOf, resA, resL, resV, outWr, nodupB, restOk, argsPre, argOk, callWr, effCall, effMax, wrHs, disj, AV.hs, A0.hs, Entry.hs, RC.elem, RC.sz, RC.len, RC.slice, RC.app, hA, initFr, initMem, initSt, resOf, resAll, compEq, compsEq, rowHs, outHds, outsEq, shapeOk, finOk, comps, A0.norm, AV.norm, specOf, t_int, t_bool, t_implForm, t_lawsForm, t_implMatrix, t_implTriple, t_lawsTriple, t_implSpot, t_implunited, t_implCharacter, t_implSymbolStep, t_implbilinear, t_a3int, t_a4int, ts_int, ts_implCharacter, Option.getD_some, Option.getD_none, cond_true, cond_false, Nat.reduceBEq, List.map_cons, List.map_nil, List.set_cons_zero, List.set_cons_succ, List.getElem?_cons_zero, List.getElem?_cons_succ, List.drop_zero, List.drop_succ_cons, List.take_succ_cons, List.take_zero, Option.map_some, Option.map_none, Option.bind_some, Nat.zero_add, Nat.add_zero, Nat.reduceAdd, Nat.reduceMul, true_and, and_true, List.replicate_succ, List.replicate_zero, List.length_cons, List.length_nil, List.all_cons, List.all_nil, List.any_cons, List.any_nil, Bool.and_true, Bool.true_and, Bool.and_false, Bool.false_and, Bool.or_true, Bool.true_or, Bool.or_false, Bool.false_or, Bool.not_true, Bool.not_false, List.append_nil, List.nil_append, List.cons_append, List.flatMap_cons, List.flatMap_nil, List.contains_cons, List.contains_nil, List.filter_cons, List.filter_nil, beq_self_eq_true, Bool.not_eq_true, A0.b.injEq, A0.i.injEq, A0.s.injEq, A0.rw.injEq, A0.fn.injEq, List.cons.injEq, RC.ints.injEq, RC.recs.injEq, RC.bools.injEq, AV.one.injEq, AV.tup.injEq, ble_dec, blt_dec, Nat.reduceLeDiff, Nat.reduceSub, decide_true, decide_false, and_self, List.toList_toArray, Option.isSome_some, Option.isSome_none, List.elem_nil, List.elem_cons, ite_true, ite_false, Bool.false_eq_true, if_true, if_false, reduceIte, flatB_2, flatB_3, flatB_4, List.headD_cons, List.tail_cons, cSyEnd, fSyEnd, cSySucc, fSySucc, e1]
      exact ⟨hpre, hJ _ (suT t b, suB t b, suS t b s) [] ⟨n1, by rw [← hv]; exact n2⟩ n3 (by simp only [Cov, covOk, covFr, covMem, entEq, rn, nodupB, A0.ren, AV.ren, Entry.ren, Entry.norm, vc, out, step, stepE, stepPick, stepG, stepO, stepC, eff, look, rem, St.put, St.setMem, setMems, St.after, St.eval, cst, setAt, val1, okNew, newHs, allHs, rdOf, outHs, Reg.item, Reg.next, Reg.skip, slotOf, effBox, effAlloc, entryRow, fieldOff, effField, loadI, load1, loadR, effLoad, storeI, storeB, storeR, szOk, storeTo, effStore, buildOf, effBuild, binInt, eqI, boolOf, binBool, effBin, effUn, effPick, effExtract, ivs, svs, rowOf, allParts, effBuildSlice, zeroRow, effMakeSlice, elemSz, idxA, idxS, effIndex, lenOf, readOf, subPre, maxRow, plainTI, appTo, effAppend, slcOf, effSlice, argOf, resA, resL, resV, outWr, nodupB, restOk, argsPre, argOk, callWr, effCall, effMax, wrHs, disj, AV.hs, A0.hs, Entry.hs, RC.elem, RC.sz, RC.len, RC.slice, RC.app, hA, initFr, initMem, initSt, resOf, resAll, compEq, compsEq, rowHs, outHds, outsEq, shapeOk, finOk, comps, A0.norm, AV.norm, specOf, t_int, t_bool, t_implForm, t_lawsForm, t_implMatrix, t_implTriple, t_lawsTriple, t_implSpot, t_implunited, t_implCharacter, t_implSymbolStep, t_implbilinear, t_a3int, t_a4int, ts_int, ts_implCharacter, Option.getD_some, Option.getD_none, cond_true, cond_false, Nat.reduceBEq, List.map_cons, List.map_nil, List.set_cons_zero, List.set_cons_succ, List.getElem?_cons_zero, List.getElem?_cons_succ, List.drop_zero, List.drop_succ_cons, List.take_succ_cons, List.take_zero, Option.map_some, Option.map_none, Option.bind_some, Nat.zero_add, Nat.add_zero, Nat.reduceAdd, Nat.reduceMul, true_and, and_true, List.replicate_succ, List.replicate_zero, List.length_cons, List.length_nil, List.all_cons, List.all_nil, List.any_cons, List.any_nil, Bool.and_true, Bool.true_and, Bool.and_false, Bool.false_and, Bool.or_true, Bool.true_or, Bool.or_false, Bool.false_or, Bool.not_true, Bool.not_false, List.append_nil, List.nil_append, List.cons_append, List.flatMap_cons, List.flatMap_nil, List.contains_cons, List.contains_nil, List.filter_cons, List.filter_nil, beq_self_eq_true, Bool.not_eq_true, A0.b.injEq, A0.i.injEq, A0.s.injEq, A0.rw.injEq, A0.fn.injEq, List.cons.injEq, RC.ints.injEq, RC.recs.injEq, RC.bools.injEq, AV.one.injEq, AV.tup.injEq, ble_dec, blt_dec, Nat.reduceLeDiff, Nat.reduceSub, decide_true, decide_false, and_self, List.toList_toArray, Option.isSome_some, Option.isSome_none, List.elem_nil, List.elem_cons, ite_true, ite_false, Bool.false_eq_true, if_true, if_false, reduceIte, flatB_2, flatB_3, flatB_4, List.headD_cons, List.tail_cons])⟩
abbrev fJac : Nat := 118
def cJac : Ctr
  | [.i a, .i n] => some ⟨JcPre a n, .one (.i (jacI a n)), []⟩
  | _ => none
theorem okJac : CtrOk Try.prog fJac cJac := by
  have hsp : SpecOk Try.prog (specOf [(fMod, cMod), (fSymTwo, cSymTwo)]) := (SpecOk.cons okMod (SpecOk.cons okSymTwo SpecOk.nil))
  refine ctr_of (fn := Try.f118) mixed tab_ok hsp Try.func118 (by kernel_rfl) (by kernel_rfl) fun args ce h => ?_
  clear hsp
  unfold cJac at h
  split at h
  case h_2 => cases h
  rename_i a n
  simp only [Option.some.injEq] at h
  subst h
  refine ⟨by rfl, fun hp => ⟨2, 1000, ?_⟩⟩
  simp only [↓cond_to_ite, ↓reduceIte, vc, out, step, stepE, stepPick, stepG, stepO, stepC, eff, look, rem, St.put, St.setMem, setMems, St.after, St.eval, cst, setAt, val1, okNew, newHs, allHs, rdOf, outHs, Reg.item, Reg.next, Reg.skip, slotOf, effBox, effAlloc, entryRow, fieldOff, effField, loadI, load1, loadR, effLoad, storeI, storeB, storeR, szOk, storeTo, effStore, buildOf, effBuild, binInt, eqI, boolOf, binBool, effBin, effUn, effPick, effExtract, ivs, svs, rowOf, allParts, effBuildSlice, zeroRow, effMakeSlice, elemSz, idxA, idxS, effIndex, lenOf, readOf, subPre, maxRow, plainTI, appTo, effAppend, slcOf, effSlice, argOf, resA, resL, resV, outWr, nodupB, restOk, argsPre, argOk, callWr, effCall, effMax, wrHs, disj, AV.hs, A0.hs, Entry.hs, RC.elem, RC.sz, RC.len, RC.slice, RC.app, hA, initFr, initMem, initSt, resOf, resAll, compEq, compsEq, rowHs, outHds, outsEq, shapeOk, finOk, comps, A0.norm, AV.norm, specOf, t_int, t_bool, t_implForm, t_lawsForm, t_implMatrix, t_implTriple, t_lawsTriple, t_implSpot, t_implunited, t_implCharacter, t_implSymbolStep, t_implbilinear, t_a3int, t_a4int, ts_int, ts_implCharacter, Option.getD_some, Option.getD_none, cond_true, cond_false, Nat.reduceBEq, List.map_cons, List.map_nil, List.set_cons_zero, List.set_cons_succ, List.getElem?_cons_zero, List.getElem?_cons_succ, List.drop_zero, List.drop_succ_cons, List.take_succ_cons, List.take_zero, Option.map_some, Option.map_none, Option.bind_some, Nat.zero_add, Nat.add_zero, Nat.reduceAdd, Nat.reduceMul, true_and, and_true, List.replicate_succ, List.replicate_zero, List.length_cons, List.length_nil, List.all_cons, List.all_nil, List.any_cons, List.any_nil, Bool.and_true, Bool.true_and, Bool.and_false, Bool.false_and, Bool.or_true, Bool.true_or, Bool.or_false, Bool.false_or, Bool.not_true, Bool.not_false, List.append_nil, List.nil_append, List.cons_append, List.flatMap_cons, List.flatMap_nil, List.contains_cons, List.contains_nil, List.filter_cons, List.filter_nil, beq_self_eq_true, Bool.not_eq_true, A0.b.injEq, A0.i.injEq, A0.s.injEq, A0.rw.injEq, A0.fn.injEq, List.cons.injEq, RC.ints.injEq, RC.recs.injEq, RC.bools.injEq, AV.one.injEq, AV.tup.injEq, ble_dec, blt_dec, Nat.reduceLeDiff, Nat.reduceSub, decide_true, decide_false, and_self, List.toList_toArray, Option.isSome_some, Option.isSome_none, List.elem_nil, List.elem_cons, ite_true, ite_false, Bool.false_eq_true, if_true, if_false, reduceIte, flatB_2, flatB_3, flatB_4, List.headD_cons, List.tail_cons, cMod, fMod, cSymTwo, fSymTwo, Try.f118]
  obtain ⟨⟨hn1, hn2, hn3⟩, ha1, ha2⟩ : JcPre a n := hp
  rw [modI_eq (by omega) (by omega)]
  have q2 := Int.emod_nonneg a (show n ≠ 0 by omega)
  have q3 := Int.emod_lt_of_pos a (show 0 < n by omega)
  refine ⟨by omega, ?_⟩
  refine lp_intro (fun x : Int × Int × Int => ⟨[(0, .one (.i x.1)), (1, .one (.i x.2.1)), (5, .one (.i x.2.2))], []⟩)
    (fun x => (1 ≤ x.2.1 ∧ x.2.1 ≤ 1000000000 ∧ x.2.1 % 2 = 1) ∧ (0 ≤ x.1 ∧ x.1 < x.2.1) ∧ Sg x.2.2 ∧ x.2.2 * jac x.1 x.2.1 = jacI a n) (fun x => x.1.toNat) (a % n, n, 1) [] ⟨⟨hn1, hn2, hn3⟩, ⟨q2, q3⟩, .inl rfl, by simp only [Int.one_mul, jacI]⟩ (by simp only [Cov, covOk, covFr, covMem, entEq, rn, nodupB, A0.ren, AV.ren, Entry.ren, Entry.norm, vc, out, step, stepE, stepPick, stepG, stepO, stepC, eff, look, rem, St.put, St.setMem, setMems, St.after, St.eval, cst, setAt, val1, okNew, newHs, allHs, rdOf, outHs, Reg.item, Reg.next, Reg.skip, slotOf, effBox, effAlloc, entryRow, fieldOff, effField, loadI, load1, loadR, effLoad, storeI, storeB, storeR, szOk, storeTo, effStore, buildOf, effBuild, binInt, eqI, boolOf, binBool, effBin, effUn, effPick, effExtract, ivs, svs, rowOf, allParts, effBuildSlice, zeroRow, effMakeSlice, elemSz, idxA, idxS, effIndex, lenOf, readOf, subPre, maxRow, plainTI, appTo, effAppend, slcOf, effSlice, argOf, resA, resL, resV, outWr, nodupB, restOk, argsPre, argOk, callWr, effCall, effMax, wrHs, disj, AV.hs, A0.hs, Entry.hs, RC.elem, RC.sz, RC.len, RC.slice, RC.app, hA, initFr, initMem, initSt, resOf, resAll, compEq, compsEq, rowHs, outHds, outsEq, shapeOk, finOk, comps, A0.norm, AV.norm, specOf, t_int, t_bool, t_implForm, t_lawsForm, t_implMatrix, t_implTriple, t_lawsTriple, t_implSpot, t_implunited, t_implCharacter, t_implSymbolStep, t_implbilinear, t_a3int, t_a4int, ts_int, ts_implCharacter, Option.getD_some, Option.getD_none, cond_true, cond_false, Nat.reduceBEq, List.map_cons, List.map_nil, List.set_cons_zero, List.set_cons_succ, List.getElem?_cons_zero, List.getElem?_cons_succ, List.drop_zero, List.drop_succ_cons, List.take_succ_cons, List.take_zero, Option.map_some, Option.map_none, Option.bind_some, Nat.zero_add, Nat.add_zero, Nat.reduceAdd, Nat.reduceMul, true_and, and_true, List.replicate_succ, List.replicate_zero, List.length_cons, List.length_nil, List.all_cons, List.all_nil, List.any_cons, List.any_nil, Bool.and_true, Bool.true_and, Bool.and_false, Bool.false_and, Bool.or_true, Bool.true_or, Bool.or_false, Bool.false_or, Bool.not_true, Bool.not_false, List.append_nil, List.nil_append, List.cons_append, List.flatMap_cons, List.flatMap_nil, List.contains_cons, List.contains_nil, List.filter_cons, List.filter_nil, beq_self_eq_true, Bool.not_eq_true, A0.b.injEq, A0.i.injEq, A0.s.injEq, A0.rw.injEq, A0.fn.injEq, List.cons.injEq, RC.ints.injEq, RC.recs.injEq, RC.bools.injEq, AV.one.injEq, AV.tup.injEq, ble_dec, blt_dec, Nat.reduceLeDiff, Nat.reduceSub, decide_true, decide_false, and_self, List.toList_toArray, Option.isSome_some, Option.isSome_none, List.elem_nil, List.elem_cons, ite_true, ite_false, Bool.false_eq_true, if_true, if_false, reduceIte, flatB_2, flatB_3, flatB_4, List.headD_cons, List.tail_cons]) fun x hx J hJ => ⟨1000, ?_⟩
  obtain ⟨t, b, s⟩ := x
  obtain ⟨⟨hb1, hb2, hb3⟩, ⟨ht1, ht2⟩, hs, hv⟩ : (1 ≤ b ∧ b ≤ 1000000000 ∧ b % 2 = 1) ∧ (0 ≤ t ∧ t < b) ∧ Sg s ∧ s * jac t b = jacI a n := hx
  simp only at hJ
  by_cases h0 : t = 0
  · subst h0
    have e1 : ((0 : Int) != 0) = false := rfl
    rw [jac_zero] at hv
    simp only [↓cond_to_ite, ↓reduceIte, vc, out, step, stepE, stepPick, stepG, stepO, stepC, eff, look, rem, St.put, St.setMem, setMems, St.after, St.eval, cst, setAt, val1, okNew, newHs, allHs, rdOf, outHs, Reg.item, Reg.next, Reg.skip, slotOf, effBox, effAlloc, entryRow, fieldOff, effField, loadI, load1, loadR, effLoad, storeI, storeB, storeR, szOk, storeTo, effStore, buildOf, effBuild, binInt, eqI, boolOf, binBool, effBin, effUn, effPick, effExtract, ivs, svs, rowOf, allParts, effBuildSlice, zeroRow, effMakeSlice, elemSz, idxA, idxS, effIndex, lenOf, readOf, subPre, maxRow, plainTI, appTo, effAppend, slcOf, effSlice, argOf, resA, resL, resV, outWr, nodupB, restOk, argsPre, argOk, callWr, effCall, effMax, wrHs, disj, AV.hs, A0.hs, Entry.hs, RC.elem, RC.sz, RC.len, RC.slice, RC.app, hA, initFr, initMem, initSt, resOf, resAll, compEq, compsEq, rowHs, outHds, outsEq, shapeOk, finOk, comps, A0.norm, AV.norm, specOf, t_int, t_bool, t_implForm, t_lawsForm, t_implMatrix, t_implTriple, t_lawsTriple, t_implSpot, t_implunited, t_implCharacter, t_implSymbolStep, t_implbilinear, t_a3int, t_a4int, ts_int, ts_implCharacter, Option.getD_some, Option.getD_none, cond_true, cond_false, Nat.reduceBEq, List.map_cons, List.map_nil, List.set_cons_zero, List.set_cons_succ, List.getElem?_cons_zero, List.getElem?_cons_succ, List.drop_zero, List.drop_succ_cons, List.take_succ_cons, List.take_zero, Option.map_some, Option.map_none, Option.bind_some, Nat.zero_add, Nat.add_zero, Nat.reduceAdd, Nat.reduceMul, true_and, and_true, List.replicate_succ, List.replicate_zero, List.length_cons, List.length_nil, List.all_cons, List.all_nil, List.any_cons, List.any_nil, Bool.and_true, Bool.true_and, Bool.and_false, Bool.false_and, Bool.or_true, Bool.true_or, Bool.or_false, Bool.false_or, Bool.not_true, Bool.not_false, List.append_nil, List.nil_append, List.cons_append, List.flatMap_cons, List.flatMap_nil, List.contains_cons, List.contains_nil, List.filter_cons, List.filter_nil, beq_self_eq_true, Bool.not_eq_true, A0.b.injEq, A0.i.injEq, A0.s.injEq, A0.rw.injEq, A0.fn.injEq, List.cons.injEq, RC.ints.injEq, RC.recs.injEq, RC.bools.injEq, AV.one.injEq, AV.tup.injEq, ble_dec, blt_dec, Nat.reduceLeDiff, Nat.reduceSub, decide_true, decide_false, and_self, List.toList_toArray, Option.isSome_some, Option.isSome_none, List.elem_nil, List.elem_cons, ite_true, ite_false, Bool.false_eq_true, if_true, if_false, reduceIte, flatB_2, flatB_3, flatB_4, List.headD_cons, List.tail_cons, e1]
    by_cases hb : b = 1
    · rw [if_pos hb] at hv
      have e2 : (b != 1) = false := by simp [hb]
      simp only [e2, Bool.false_eq_true, if_false]
      omega
    · rw [if_neg hb] at hv
      have e2 : (b != 1) = true := by simp [hb]
      simp only [e2, if_true]
      omega
  · have e0 : (t != 0) = true := by simp [h0]
    simp only [↓cond_to_ite, ↓reduceIte, vc, out, step, stepE, stepPick, stepG, stepO, stepC, eff, look, rem, St.put, St.setMem, setMems, St.after, St.eval, cst, setAt, val1, okNew, newHs, allHs, rdOf, outHs, Reg.item, Reg.next, Reg.skip, slotOf, effBox, effAlloc, entryRow, fieldOff, effField, loadI, load1, loadR, effLoad, storeI, storeB, storeR, szOk, storeTo, effStore, buildOf, effBuild, binInt, eqI, boolOf, binBool, effBin, effUn, effPick, effExtract, ivs, svs, rowOf, allParts, effBuildSlice, zeroRow, effMakeSlice, elemSz, idxA, idxS, effIndex, lenOf, readOf, subPre, maxRow, plainTI, appTo, effAppend, slcOf, effSlice, argOf, resA, resL, resV, outWr, nodupB, restOk, argsPre, argOk, callWr, effCall, effMax, wrHs, disj, AV.hs, A0.hs, Entry.hs, RC.elem, RC.sz, RC.len, RC.slice, RC.app, hA, initFr, initMem, initSt, resOf, resAll, compEq, compsEq, rowHs, outHds, outsEq, shapeOk, finOk, comps, A0.norm, AV.norm, specOf, t_int, t_bool, t_implForm, t_lawsForm, t_implMatrix, t_implTriple, t_lawsTriple, t_implSpot, t_implunited, t_implCharacter, t_implSymbolStep, t_implbilinear, t_a3int, t_a4int, ts_int, ts_implCharacter, Option.getD_some, Option.getD_none, cond_true, cond_false, Nat.reduceBEq, List.map_cons, List.map_nil, List.set_cons_zero, List.set_cons_succ, List.getElem?_cons_zero, List.getElem?_cons_succ, List.drop_zero, List.drop_succ_cons, List.take_succ_cons, List.take_zero, Option.map_some, Option.map_none, Option.bind_some, Nat.zero_add, Nat.add_zero, Nat.reduceAdd, Nat.reduceMul, true_and, and_true, List.replicate_succ, List.replicate_zero, List.length_cons, List.length_nil, List.all_cons, List.all_nil, List.any_cons, List.any_nil, Bool.and_true, Bool.true_and, Bool.and_false, Bool.false_and, Bool.or_true, Bool.true_or, Bool.or_false, Bool.false_or, Bool.not_true, Bool.not_false, List.append_nil, List.nil_append, List.cons_append, List.flatMap_cons, List.flatMap_nil, List.contains_cons, List.contains_nil, List.filter_cons, List.filter_nil, beq_self_eq_true, Bool.not_eq_true, A0.b.injEq, A0.i.injEq, A0.s.injEq, A0.rw.injEq, A0.fn.injEq, List.cons.injEq, RC.ints.injEq, RC.recs.injEq, RC.bools.injEq, AV.one.injEq, AV.tup.injEq, ble_dec, blt_dec, Nat.reduceLeDiff, Nat.reduceSub, decide_true, decide_false, and_self, List.toList_toArray, Option.isSome_some, Option.isSome_none, List.elem_nil, List.elem_cons, ite_true, ite_false, Bool.false_eq_true, if_true, if_false, reduceIte, flatB_2, flatB_3, flatB_4, List.headD_cons, List.tail_cons, e0]
    refine lp_intro (fun x : Int × Int => ⟨[(0, .one (.i x.1)), (1, .one (.i b)), (5, .one (.i x.2))], []⟩)
      (fun x => (1 ≤ x.1 ∧ x.1 ≤ t) ∧ Sg x.2 ∧ x.2 * jac x.1 b = jacI a n) (fun x => x.1.toNat) (t, s) [] ⟨⟨by omega, by omega⟩, hs, hv⟩ (by simp only [Cov, covOk, covFr, covMem, entEq, rn, nodupB, A0.ren, AV.ren, Entry.ren, Entry.norm, vc, out, step, stepE, stepPick, stepG, stepO, stepC, eff, look, rem, St.put, St.setMem, setMems, St.after, St.eval, cst, setAt, val1, okNew, newHs, allHs, rdOf, outHs, Reg.item, Reg.next, Reg.skip, slotOf, effBox, effAlloc, entryRow, fieldOff, effField, loadI, load1, loadR, effLoad, storeI, storeB, storeR, szOk, storeTo, effStore, buildOf, effBuild, binInt, eqI, boolOf, binBool, effBin, effUn, effPick, effExtract, ivs, svs, rowOf, allParts, effBuildSlice, zeroRow, effMakeSlice, elemSz, idxA, idxS, effIndex, lenOf, readOf, subPre, maxRow, plainTI, appTo, effAppend, slcOf, effSlice, argOf, resA, resL, resV, outWr, nodupB, restOk, argsPre, argOk, callWr, effCall, effMax, wrHs, disj, AV.hs, A0.hs, Entry.hs, RC.elem, RC.sz, RC.len, RC.slice, RC.app, hA, initFr, initMem, initSt, resOf, resAll, compEq, compsEq, rowHs, outHds, outsEq, shapeOk, finOk, comps, A0.norm, AV.norm, specOf, t_int, t_bool, t_implForm, t_lawsForm, t_implMatrix, t_implTriple, t_lawsTriple, t_implSpot, t_implunited, t_implCharacter, t_implSymbolStep, t_implbilinear, t_a3int, t_a4int, ts_int, ts_implCharacter, Option.getD_some, Option.getD_none, cond_true, cond_false, Nat.reduceBEq, List.map_cons, List.map_nil, List.set_cons_zero, List.set_cons_succ, List.getElem?_cons_zero, List.getElem?_cons_succ, List.drop_zero, List.drop_succ_cons, List.take_succ_cons, List.take_zero, Option.map_some, Option.map_none, Option.bind_some, Nat.zero_add, Nat.add_zero, Nat.reduceAdd, Nat.reduceMul, true_and, and_true, List.replicate_succ, List.replicate_zero, List.length_cons, List.length_nil, List.all_cons, List.all_nil, List.any_cons, List.any_nil, Bool.and_true, Bool.true_and, Bool.and_false, Bool.false_and, Bool.or_true, Bool.true_or, Bool.or_false, Bool.false_or, Bool.not_true, Bool.not_false, List.append_nil, List.nil_append, List.cons_append, List.flatMap_cons, List.flatMap_nil, List.contains_cons, List.contains_nil, List.filter_cons, List.filter_nil, beq_self_eq_true, Bool.not_eq_true, A0.b.injEq, A0.i.injEq, A0.s.injEq, A0.rw.injEq, A0.fn.injEq, List.cons.injEq, RC.ints.injEq, RC.recs.injEq, RC.bools.injEq, AV.one.injEq, AV.tup.injEq, ble_dec, blt_dec, Nat.reduceLeDiff, Nat.reduceSub, decide_true, decide_false, and_self, List.toList_toArray, Option.isSome_some, Option.isSome_none, List.elem_nil, List.elem_cons, ite_true, ite_false, Bool.false_eq_true, if_true, if_false, reduceIte, flatB_2, flatB_3, flatB_4, List.headD_cons, List.tail_cons]) fun x hx J2 hJ2 => ⟨1000, ?_⟩
    obtain ⟨u, z⟩ := x
    obtain ⟨⟨hu1, hu2⟩, hz, hv2⟩ : (1 ≤ u ∧ u ≤ t) ∧ Sg z ∧ z * jac u b = jacI a n := hx
    simp only at hJ2
    have e3 : u.tmod 2 = u % 2 := tmod_nn (by omega)
    by_cases g : u % 2 = 0
    · have e4 : (u.tmod 2 == 0) = true := by rw [e3]; simpa using g
      rw [jac_even (by omega) g, ← Int.mul_assoc] at hv2
      have e5 : wrap64 (u.tdiv 2) = u / 2 := by rw [tdiv_nn (by omega), wrap_id (by omega) (by omega)]
      have e6 : wrap64 (z * two8 b) = z * two8 b := hz.wrap_mul (two8_abs b)
      simp only [↓cond_to_ite, ↓reduceIte, vc, out, step, stepE, stepPick, stepG, stepO, stepC, eff, look, rem, St.put, St.setMem, setMems, St.after, St.eval, cst, setAt, val1, okNew, newHs, allHs, rdOf, outHs, Reg.item, Reg.next, Reg.skip, slotOf, effBox, effAlloc, entryRow, fieldOff, effField, loadI, load1, loadR, effLoad, storeI, storeB, storeR, szOk, storeTo, effStore, buildOf, effBuild, binInt, eqI, boolOf, binBool, effBin, effUn, effPick, effExtract, ivs, svs, rowOf, allParts, effBuildSlice, zeroRow, effMakeSlice, elemSz, idxA, idxS, effIndex, lenOf, readOf, subPre, maxRow, plainTI, appTo, effAppend, slcOf, effSlice, argOf, resA, resL, resV, outWr, nodupB, restOk, argsPre, argOk, callWr, effCall, effMax, wrHs, disj, AV.hs, A0.hs, Entry.hs, RC.elem, RC.sz, RC.len, RC.slice, RC.app, hA, initFr, initMem, initSt, resOf, resAll, compEq, compsEq, rowHs, outHds, outsEq, shapeOk, finOk, comps, A0.norm, AV.norm, specOf, t_int, t_bool, t_implForm, t_lawsForm, t_implMatrix, t_implTriple, t_lawsTriple, t_implSpot, t_implunited, t_implCharacter, t_implSymbolStep, t_implbilinear, t_a3int, t_a4int, ts_int, ts_implCharacter, Option.getD_some, Option.getD_none, cond_true, cond_false, Nat.reduceBEq, List.map_cons, List.map_nil, List.set_cons_zero, List.set_cons_succ, List.getElem?_cons_zero, List.getElem?_cons_succ, List.drop_zero, List.drop_succ_cons, List.take_succ_cons, List.take_zero, Option.map_some, Option.map_none, Option.bind_some, Nat.zero_add, Nat.add_zero, Nat.reduceAdd, Nat.reduceMul, true_and, and_true, List.replicate_succ, List.replicate_zero, List.length_cons, List.length_nil, List.all_cons, List.all_nil, List.any_cons, List.any_nil, Bool.and_true, Bool.true_and, Bool.and_false, Bool.false_and, Bool.or_true, Bool.true_or, Bool.or_false, Bool.false_or, Bool.not_true, Bool.not_false, List.append_nil, List.nil_append, List.cons_append, List.flatMap_cons, List.flatMap_nil, List.contains_cons, List.contains_nil, List.filter_cons, List.filter_nil, beq_self_eq_true, Bool.not_eq_true, A0.b.injEq, A0.i.injEq, A0.s.injEq, A0.rw.injEq, A0.fn.injEq, List.cons.injEq, RC.ints.injEq, RC.recs.injEq, RC.bools.injEq, AV.one.injEq, AV.tup.injEq, ble_dec, blt_dec, Nat.reduceLeDiff, Nat.reduceSub, decide_true, decide_false, and_self, List.toList_toArray, Option.isSome_some, Option.isSome_none, List.elem_nil, List.elem_cons, ite_true, ite_false, Bool.false_eq_true, if_true, if_false, reduceIte, flatB_2, flatB_3, flatB_4, List.headD_cons, List.tail_cons, cSymTwo, fSymTwo, e4]
      exact ⟨by decide, by decide, hb3, hJ2 _ (u / 2, z * two8 b) [] ⟨⟨by simp only; omega, by simp only; omega⟩, hz.mul (two8_odd hb3), hv2⟩ (by simp only; omega) (by simp only [Cov, covOk, covFr, covMem, entEq, rn, nodupB, A0.ren, AV.ren, Entry.ren, Entry.norm, vc, out, step, stepE, stepPick, stepG, stepO, stepC, eff, look, rem, St.put, St.setMem, setMems, St.after, St.eval, cst, setAt, val1, okNew, newHs, allHs, rdOf, outHs, Reg.item, Reg.next, Reg.skip, slotOf, effBox, effAlloc, entryRow, fieldOff, effField, loadI, load1, loadR, effLoad, storeI, storeB, storeR, szOk, storeTo, effStore, buildOf, effBuild, binInt, eqI, boolOf, binBool, effBin, effUn, effPick, effExtract, ivs, svs, rowOf, allParts, effBuildSlice, zeroRow, effMakeSlice, elemSz, idxA, idxS, effIndex, lenOf, readOf, subPre, maxRow, plainTI, appTo, effAppend, slcOf, effSlice, argOf, resA, resL, resV, outWr, nodupB, restOk, argsPre, argOk, callWr, effCall, effMax, wrHs, disj, AV.hs, A0.hs, Entry.hs, RC.elem, RC.sz, RC.len, RC.slice, RC.app, hA, initFr, initMem, initSt, resOf, resAll, compEq, compsEq, rowHs, outHds, outsEq, shapeOk, finOk, comps, A0.norm, AV.norm, specOf, t_int, t_bool, t_implForm, t_lawsForm, t_implMatrix, t_implTriple, t_lawsTriple, t_implSpot, t_implunited, t_implCharacter, t_implSymbolStep, t_implbilinear, t_a3int, t_a4int, ts_int, ts_implCharacter, Option.getD_some, Option.getD_none, cond_true, cond_false, Nat.reduceBEq, List.map_cons, List.map_nil, List.set_cons_zero, List.set_cons_succ, List.getElem?_cons_zero, List.getElem?_cons_succ, List.drop_zero, List.drop_succ_cons, List.take_succ_cons, List.take_zero, Option.map_some, Option.map_none, Option.bind_some, Nat.zero_add, Nat.add_zero, Nat.reduceAdd, Nat.reduceMul, true_and, and_true, List.replicate_succ, List.replicate_zero, List.length_cons, List.length_nil, List.all_cons, List.all_nil, List.any_cons, List.any_nil, Bool.and_true, Bool.true_and, Bool.and_false, Bool.false_and, Bool.or_true, Bool.true_or, Bool.or_false, Bool.false_or, Bool.not_true, Bool.not_false, List.append_nil, List.nil_append, List.cons_append, List.flatMap_cons, List.flatMap_nil, List.contains_cons, List.contains_nil, List.filter_cons, List.filter_nil, beq_self_eq_true, Bool.not_eq_true, A0.b.injEq, A0.i.injEq, A0.s.injEq, A0.rw.injEq, A0.fn.injEq, List.cons.injEq, RC.ints.injEq, RC.recs.injEq, RC.bools.injEq, AV.one.injEq, AV.tup.injEq, ble_dec, blt_dec, Nat.reduceLeDiff, Nat.reduceSub, decide_true, decide_false, and_self, List.toList_toArray, Option.isSome_some, Option.isSome_none, List.elem_nil, List.elem_cons, ite_true, ite_false, Bool.false_eq_true, if_true, if_false, reduceIte, flatB_2, flatB_3, flatB_4, List.headD_cons, List.tail_cons, e5, e6])⟩
    · have e4 : (u.tmod 2 == 0) = false := by rw [e3]; simpa using g
      rw [jac_odd (by omega) (by omega), ← Int.mul_assoc] at hv2
      have e7 : u.tmod 4 = u % 4 := tmod_nn (by omega)
      have e8 : b.tmod 4 = b % 4 := tmod_nn (by omega)
      have e9 : b.tmod u = b % u := tmod_nn (by omega)
      have e10 : wrap64 (0 - z) = -z := by rcases hz with h | h <;> rw [h] <;> rw [wrap_id (by omega) (by omega)] <;> rfl
      have r1 := Int.emod_nonneg b (show u ≠ 0 by omega)
      have r2 := Int.emod_lt_of_pos b (show 0 < u by omega)
      simp only [↓cond_to_ite, ↓reduceIte, vc, out, step, stepE, stepPick, stepG, stepO, stepC, eff, look, rem, St.put, St.setMem, setMems, St.after, St.eval, cst, setAt, val1, okNew, newHs, allHs, rdOf, outHs, Reg.item, Reg.next, Reg.skip, slotOf, effBox, effAlloc, entryRow, fieldOff, effField, loadI, load1, loadR, effLoad, storeI, storeB, storeR, szOk, storeTo, effStore, buildOf, effBuild, binInt, eqI, boolOf, binBool, effBin, effUn, effPick, effExtract, ivs, svs, rowOf, allParts, effBuildSlice, zeroRow, effMakeSlice, elemSz, idxA, idxS, effIndex, lenOf, readOf, subPre, maxRow, plainTI, appTo, effAppend, slcOf, effSlice, argOf, resA, resL, resV, outWr, nodupB, restOk, argsPre, argOk, callWr, effCall, effMax, wrHs, disj, AV.hs, A0.hs, Entry.hs, RC.elem, RC.sz, RC.len, RC.slice, RC.app, hA, initFr, initMem, initSt, resOf, resAll, compEq, compsEq, rowHs, outHds, outsEq, shapeOk, finOk, comps, A0.norm, AV.norm, specOf, t_int, t_bool, t_implForm, t_lawsForm, t_implMatrix, t_implTriple, t_lawsTriple, t_implSpot, t_implunited, t_implCharacter, t_implSymbolStep, t_implbilinear, t_a3int, t_a4int, ts_int, ts_implCharacter, Option.getD_some, Option.getD_none, cond_true, cond_false, Nat.reduceBEq, List.map_cons, List.map_nil, List.set_cons_zero, List.set_cons_succ, List.getElem?_cons_zero, List.getElem?_cons_succ, List.drop_zero, List.drop_succ_cons, List.take_succ_cons, List.take_zero, Option.map_some, Option.map_none, Option.bind_some, Nat.zero_add, Nat.add_zero, Nat.reduceAdd, Nat.reduceMul, true_and, and_true, List.replicate_succ, List.replicate_zero, List.length_cons, List.length_nil, List.all_cons, List.all_nil, List.any_cons, List.any_nil, Bool.and_true, Bool.true_and, Bool.and_false, Bool.false_and, Bool.or_true, Bool.true_or, Bool.or_false, Bool.false_or, Bool.not_true, Bool.not_false, List.append_nil, List.nil_append, List.cons_append, List.flatMap_cons, List.flatMap_nil, List.contains_cons, List.contains_nil, List.filter_cons, List.filter_nil, beq_self_eq_true, Bool.not_eq_true, A0.b.injEq, A0.i.injEq, A0.s.injEq, A0.rw.injEq, A0.fn.injEq, List.cons.injEq, RC.ints.injEq, RC.recs.injEq, RC.bools.injEq, AV.one.injEq, AV.tup.injEq, ble_dec, blt_dec, Nat.reduceLeDiff, Nat.reduceSub, decide_true, decide_false, and_self, List.toList_toArray, Option.isSome_some, Option.isSome_none, List.elem_nil, List.elem_cons, ite_true, ite_false, Bool.false_eq_true, if_true, if_false, reduceIte, flatB_2, flatB_3, flatB_4, List.headD_cons, List.tail_cons, e4, e7, e8]
      by_cases g2 : u % 4 = 3
      · have f1 : (u % 4 == 3) = true := by simpa using g2
        by_cases g3 : b % 4 = 3
        · have f2 : (b % 4 == 3) = true := by simpa using g3
          have f3 : flp u b = -1 := by unfold flp; rw [if_pos ⟨g2, g3⟩]
          rw [f3] at hv2
          simp only [f1, f2, if_true]
          exact ⟨by decide, by decide, by decide, by omega, hJ _ (b % u, u, -z) [] ⟨⟨by simp only; omega, by simp only; omega, by simp only; omega⟩, ⟨by simp only; omega, by simp only; omega⟩, (by rcases hz with h | h <;> rw [h] <;> first | exact .inl rfl | exact .inr rfl), by simp only; rw [← hv2]; grind⟩ (by simp only; omega) (by simp only [Cov, covOk, covFr, covMem, entEq, rn, nodupB, A0.ren, AV.ren, Entry.ren, Entry.norm, vc, out, step, stepE, stepPick, stepG, stepO, stepC, eff, look, rem, St.put, St.setMem, setMems, St.after, St.eval, cst, setAt, val1, okNew, newHs, allHs, rdOf, outHs, Reg.item, Reg.next, Reg.skip, slotOf, effBox, effAlloc, entryRow, fieldOff, effField, loadI, load1, loadR, effLoad, storeI, storeB, storeR, szOk, storeTo, effStore, buildOf, effBuild, binInt, eqI, boolOf, binBool, effBin, effUn, effPick, effExtract, ivs, svs, rowOf, allParts, effBuildSlice, zeroRow, effMakeSlice, elemSz, idxA, idxS, effIndex, lenOf, readOf, subPre, maxRow, plainTI, appTo, effAppend, slcOf, effSlice, argOf, resA, resL, resV, outWr, nodupB, restOk, argsPre, argOk, callWr, effCall, effMax, wrHs, disj, AV.hs, A0.hs, Entry.hs, RC.elem, RC.sz, RC.len, RC.slice, RC.app, hA, initFr, initMem, initSt, resOf, resAll, compEq, compsEq, rowHs, outHds, outsEq, shapeOk, finOk, comps, A0.norm, AV.norm, specOf, t_int, t_bool, t_implForm, t_lawsForm, t_implMatrix, t_implTriple, t_lawsTriple, t_implSpot, t_implunited, t_implCharacter, t_implSymbolStep, t_implbilinear, t_a3int, t_a4int, ts_int, ts_implCharacter, Option.getD_some, Option.getD_none, cond_true, cond_false, Nat.reduceBEq, List.map_cons, List.map_nil, List.set_cons_zero, List.set_cons_succ, List.getElem?_cons_zero, List.getElem?_cons_succ, List.drop_zero, List.drop_succ_cons, List.take_succ_cons, List.take_zero, Option.map_some, Option.map_none, Option.bind_some, Nat.zero_add, Nat.add_zero, Nat.reduceAdd, Nat.reduceMul, true_and, and_true, List.replicate_succ, List.replicate_zero, List.length_cons, List.length_nil, List.all_cons, List.all_nil, List.any_cons, List.any_nil, Bool.and_true, Bool.true_and, Bool.and_false, Bool.false_and, Bool.or_true, Bool.true_or, Bool.or_false, Bool.false_or, Bool.not_true, Bool.not_false, List.append_nil, List.nil_append, List.cons_append, List.flatMap_cons, List.flatMap_nil, List.contains_cons, List.contains_nil, List.filter_cons, List.filter_nil, beq_self_eq_true, Bool.not_eq_true, A0.b.injEq, A0.i.injEq, A0.s.injEq, A0.rw.injEq, A0.fn.injEq, List.cons.injEq, RC.ints.injEq, RC.recs.injEq, RC.bools.injEq, AV.one.injEq, AV.tup.injEq, ble_dec, blt_dec, Nat.reduceLeDiff, Nat.reduceSub, decide_true, decide_false, and_self, List.toList_toArray, Option.isSome_some, Option.isSome_none, List.elem_nil, List.elem_cons, ite_true, ite_false, Bool.false_eq_true, if_true, if_false, reduceIte, flatB_2, flatB_3, flatB_4, List.headD_cons, List.tail_cons, e9, e10])⟩
        · have f2 : (b % 4 == 3) = false := by simpa using g3
          have f3 : flp u b = 1 := by unfold flp; rw [if_neg (by omega)]
          rw [f3] at hv2
          simp only [f1, f2, if_true, Bool.false_eq_true, if_false]
          exact ⟨by decide, by decide, by decide, by omega, hJ _ (b % u, u, z) [] ⟨⟨by simp only; omega, by simp only; omega, by simp only; omega⟩, ⟨by simp only; omega, by simp only; omega⟩, hz, by simp only; rw [← hv2]; grind⟩ (by simp only; omega) (by simp only [Cov, covOk, covFr, covMem, entEq, rn, nodupB, A0.ren, AV.ren, Entry.ren, Entry.norm, vc, out, step, stepE, stepPick, stepG, stepO, stepC, eff, look, rem, St.put, St.setMem, setMems, St.after, St.eval, cst, setAt, val1, okNew, newHs, allHs, rdOf, outHs, Reg.item, Reg.next, Reg.skip, slotOf, effBox, effAlloc, entryRow, fieldOff, effField, loadI, load1, loadR, effLoad, storeI, storeB, storeR, szOk, storeTo, effStore, buildOf, effBuild, binInt, eqI, boolOf, binBool, effBin, effUn, effPick, effExtract, ivs, svs, rowOf, allParts, effBuildSlice, zeroRow, effMakeSlice, elemSz, idxA, idxS, effIndex, lenOf, readOf, subPre, maxRow, plainTI, appTo, effAppend, slcOf, effSlice, argOf, resA, resL, resV, outWr, nodupB, restOk, argsPre, argOk, callWr, effCall, effMax, wrHs, disj, AV.hs, A0.hs, Entry.hs, RC.elem, RC.sz, RC.len, RC.slice, RC.app, hA, initFr, initMem, initSt, resOf, resAll, compEq, compsEq, rowHs, outHds, outsEq, shapeOk, finOk, comps, A0.norm, AV.norm, specOf, t_int, t_bool, t_implForm, t_lawsForm, t_implMatrix, t_implTriple, t_lawsTriple, t_implSpot, t_implunited, t_implCharacter, t_implSymbolStep, t_implbilinear, t_a3int, t_a4int, ts_int, ts_implCharacter, Option.getD_some, Option.getD_none, cond_true, cond_false, Nat.reduceBEq, List.map_cons, List.map_nil, List.set_cons_zero, List.set_cons_succ, List.getElem?_cons_zero, List.getElem?_cons_succ, List.drop_zero, List.drop_succ_cons, List.take_succ_cons, List.take_zero, Option.map_some, Option.map_none, Option.bind_some, Nat.zero_add, Nat.add_zero, Nat.reduceAdd, Nat.reduceMul, true_and, and_true, List.replicate_succ, List.replicate_zero, List.length_cons, List.length_nil, List.all_cons, List.all_nil, List.any_cons, List.any_nil, Bool.and_true, Bool.true_and, Bool.and_false, Bool.false_and, Bool.or_true, Bool.true_or, Bool.or_false, Bool.false_or, Bool.not_true, Bool.not_false, List.append_nil, List.nil_append, List.cons_append, List.flatMap_cons, List.flatMap_nil, List.contains_cons, List.contains_nil, List.filter_cons, List.filter_nil, beq_self_eq_true, Bool.not_eq_true, A0.b.injEq, A0.i.injEq, A0.s.injEq, A0.rw.injEq, A0.fn.injEq, List.cons.injEq, RC.ints.injEq, RC.recs.injEq, RC.bools.injEq, AV.one.injEq, AV.tup.injEq, ble_dec, blt_dec, Nat.reduceLeDiff, Nat.reduceSub, decide_true, decide_false, and_self, List.toList_toArray, Option.isSome_some, Option.isSome_none, List.elem_nil, List.elem_cons, ite_true, ite_false, Bool.false_eq_true, if_true, if_false, reduceIte, flatB_2, flatB_3, flatB_4, List.headD_cons, List.tail_cons, e9])⟩
      · have f1 : (u % 4 == 3) = false := by simpa using g2
        have f3 : flp u b = 1 := by unfold flp; rw [if_neg (by omega)]
        rw [f3] at hv2
        simp only [f1, Bool.false_eq_true, if_false]
        exact ⟨by decide, by decide, by omega, hJ _ (b % u, u, z) [] ⟨⟨by simp only; omega, by simp only; omega, by simp only; omega⟩, ⟨by simp only; omega, by simp only; omega⟩, hz, by simp only; rw [← hv2]; grind⟩ (by simp only; omega) (by simp only [Cov, covOk, covFr, covMem, entEq, rn, nodupB, A0.ren, AV.ren, Entry.ren, Entry.norm, vc, out, step, stepE, stepPick, stepG, stepO, stepC, eff, look, rem, St.put, St.setMem, setMems, St.after, St.eval, cst, setAt, val1, okNew, newHs, allHs, rdOf, outHs, Reg.item, Reg.next, Reg.skip, slotOf, effBox, effAlloc, entryRow, fieldOff, effField, loadI, load1, loadR, effLoad, storeI, storeB, storeR, szOk, storeTo, effStore, buildOf, effBuild, binInt, eqI, boolOf, binBool, effBin, effUn, effPick, effExtract, ivs, svs, rowOf, allParts, effBuildSlice, zeroRow, effMakeSlice, elemSz, idxA, idxS, effIndex, lenOf, readOf, subPre, maxRow, plainTI, appTo, effAppend, slcOf, effSlice, argOf, resA, resL, resV, outWr, nodupB, restOk, argsPre, argOk, callWr, effCall, effMax, wrHs, disj, AV.hs, A0.hs, Entry.hs, RC.elem, RC.sz, RC.len, RC.slice, RC.app, hA, initFr, initMem, initSt, resOf, resAll, compEq, compsEq, rowHs, outHds, outsEq, shapeOk, finOk, comps, A0.norm, AV.norm, specOf, t_int, t_bool, t_implForm, t_lawsForm, t_implMatrix, t_implTriple, t_lawsTriple, t_implSpot, t_implunited, t_implCharacter, t_implSymbolStep, t_implbilinear, t_a3int, t_a4int, ts_int, ts_implCharacter, Option.getD_some, Option.getD_none, cond_true, cond_false, Nat.reduceBEq, List.map_cons, List.map_nil, List.set_cons_zero, List.set_cons_succ, List.getElem?_cons_zero, List.getElem?_cons_succ, List.drop_zero, List.drop_succ_cons, List.take_succ_cons, List.take_zero, Option.map_some, Option.map_none, Option.bind_some, Nat.zero_add, Nat.add_zero, Nat.reduceAdd, Nat.reduceMul, true_and, and_true, List.replicate_succ, List.replicate_zero, List.length_cons, List.length_nil, List.all_cons, List.all_nil, List.any_cons, List.any_nil, Bool.and_true, Bool.true_and, Bool.and_false, Bool.false_and, Bool.or_true, Bool.true_or, Bool.or_false, Bool.false_or, Bool.not_true, Bool.not_false, List.append_nil, List.nil_append, List.cons_append, List.flatMap_cons, List.flatMap_nil, List.contains_cons, List.contains_nil, List.filter_cons, List.filter_nil, beq_self_eq_true, Bool.not_eq_true, A0.b.injEq, A0.i.injEq, A0.s.injEq, A0.rw.injEq, A0.fn.injEq, List.cons.injEq, RC.ints.injEq, RC.recs.injEq, RC.bools.injEq, AV.one.injEq, AV.tup.injEq, ble_dec, blt_dec, Nat.reduceLeDiff, Nat.reduceSub, decide_true, decide_false, and_self, List.toList_toArray, Option.isSome_some, Option.isSome_none, List.elem_nil, List.elem_cons, ite_true, ite_false, Bool.false_eq_true, if_true, if_false, reduceIte, flatB_2, flatB_3, flatB_4, List.headD_cons, List.tail_cons, e9])⟩
def krL (a n : Int) : Int := if _h : 2 ≤ n ∧ n % 2 = 0 then two8 a * krL a (n / 2) else jacI a n
  termination_by n.toNat
  decreasing_by omega
theorem krL_even {a n : Int} (h : 2 ≤ n) (h2 : n % 2 = 0) : krL a n = two8 a * krL a (n / 2) := by
  rw [krL.eq_def, dif_pos ⟨h, h2⟩]
theorem krL_odd {a n : Int} (h2 : n % 2 = 1) : krL a n = jacI a n := by
  rw [krL.eq_def, dif_neg (by omega)]
theorem mul_abs {x y : Int} (h1 : -1 ≤ x ∧ x ≤ 1) (h2 : -1 ≤ y ∧ y ≤ 1) : -1 ≤ x * y ∧ x * y ≤ 1 := by
  have h : x = -1 ∨ x = 0 ∨ x = 1 := by omega
  rcases h with h | h | h <;> rw [h] <;> omega
theorem krL_abs (a : Int) : ∀ (m : Nat) (n : Int), n.toNat ≤ m → -1 ≤ krL a n ∧ krL a n ≤ 1 := by
  intro m
  induction m with
  | zero =>
    intro n h
    rw [krL.eq_def, dif_neg (by omega)]
    exact jacI_abs a n
  | succ m ih =>
    intro n h
    by_cases h2 : 2 ≤ n ∧ n % 2 = 0
    · rw [krL.eq_def, dif_pos h2]
      exact mul_abs (two8_abs a) (ih _ (by omega))
    · rw [krL.eq_def, dif_neg h2]
      exact jacI_abs a n
theorem two8_even {a : Int} (h : a % 2 = 0) : two8 a = 0 := by
  unfold two8
  rw [if_neg (by omega), if_neg (by omega)]
theorem wrap_abs {x y : Int} (h1 : -1 ≤ x ∧ x ≤ 1) (h2 : -1 ≤ y ∧ y ≤ 1) : wrap64 (x * y) = x * y := by
  have := mul_abs h1 h2
  exact wrap_id (by omega) (by omega)
theorem tmod2 (a : Int) : (a.tmod 2 == 0) = decide (a % 2 = 0) := by
  rw [Bool.eq_iff_iff, beq_iff_eq, decide_eq_true_iff, Int.tmod_eq_emod]
  split <;> omega
def KrPre (a n : Int) : Prop := (1 ≤ n ∧ n ≤ 1000000000) ∧ (-1000000000000000 ≤ a ∧ a ≤ 1000000000000000)
-- (not in this seat: Kron)
-- (not in this seat: SyKron)
end Go.Proofs.Ythjmjacniemfiab
