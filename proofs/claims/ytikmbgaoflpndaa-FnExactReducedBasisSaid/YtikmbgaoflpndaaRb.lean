/-
  Contracts of ReducedBasis on both sides, and of its law. Conditions: none.
-/
import Derived.Test.YtikmbgaoflpndaaRt
import Derived.Test.YtikmbgaoflpndaaLst2
namespace Go.Proofs.Ytikmbgaoflpndaa
open Go Go.RowKit
set_option maxRecDepth 100000
set_option linter.unusedSimpArgs false
set_option linter.unusedVariables false
set_option maxHeartbeats 4000000

abbrev fToLattice : Nat := 41
def cToLattice : Ctr
  | [.s [a, b, c]] => some ⟨True, .one (.s [a, b, c]), []⟩
  | _ => none
theorem okToLattice : CtrOk Try.prog fToLattice cToLattice := by
  have hsp : SpecOk Try.prog (specOf []) := SpecOk.nil
  refine ctr_of (fn := Try.f41) mixed tab_ok hsp Try.func41 (by kernel_rfl) (by kernel_rfl) fun args ce h => ?_
  clear hsp
  unfold cToLattice at h
  split at h
  case h_2 => cases h
  rename_i a b c
  simp only [Option.some.injEq] at h
  subst h
  refine ⟨by rfl, fun hp => ⟨0, 1000, ?_⟩⟩
  simp only [vc, out, step, stepE, stepPick, stepG, stepO, stepC, eff, look, rem, St.put, St.setMem, setMems, St.after, St.eval, cst, setAt, val1, okNew, newHs, allHs, rdOf, outHs, Reg.item, Reg.next, Reg.skip, slotOf, effBox, effAlloc, entryRow, fieldOff, effField, loadI, load1, loadR, effLoad, storeI, storeB, storeR, szOk, storeTo, effStore, buildOf, effBuild, binInt, eqI, boolOf, binBool, effBin, effUn, effPick, effExtract, ivs, svs, rowOf, allParts, effBuildSlice, zeroRow, effMakeSlice, elemSz, idxA, idxS, effIndex, lenOf, readOf, subPre, maxRow, plainTI, appTo, effAppend, slcOf, effSlice, argOf, resA, resL, resV, outWr, nodupB, restOk, argsPre, argOk, callWr, effCall, effMax, wrHs, disj, AV.hs, A0.hs, Entry.hs, RC.elem, RC.sz, RC.len, RC.slice, RC.app, hA, initFr, initMem, initSt, resOf, resAll, compEq, compsEq, rowHs, outHds, outsEq, shapeOk, finOk, comps, A0.norm, AV.norm, specOf, t_int, t_bool, t_implForm, t_lawsForm, t_implMatrix, t_implPoint, t_implLattice, t_lawsLattice, t_implTriple, t_lawsTriple, t_implSpot, t_implCube, t_implunited, t_implentries, t_a8int, ts_int, ts_implForm, ts_implSpot, Option.getD_some, Option.getD_none, cond_true, cond_false, Nat.reduceBEq, List.map_cons, List.map_nil, List.set_cons_zero, List.set_cons_succ, List.getElem?_cons_zero, List.getElem?_cons_succ, List.drop_zero, List.drop_succ_cons, List.take_succ_cons, List.take_zero, Option.map_some, Option.map_none, Option.bind_some, Nat.zero_add, Nat.add_zero, Nat.reduceAdd, Nat.reduceMul, true_and, and_true, List.replicate_succ, List.replicate_zero, List.length_cons, List.length_nil, List.all_cons, List.all_nil, List.any_cons, List.any_nil, Bool.and_true, Bool.true_and, Bool.and_false, Bool.false_and, Bool.or_true, Bool.true_or, Bool.or_false, Bool.false_or, Bool.not_true, Bool.not_false, List.append_nil, List.nil_append, List.cons_append, List.flatMap_cons, List.flatMap_nil, List.contains_cons, List.contains_nil, List.filter_cons, List.filter_nil, beq_self_eq_true, Bool.not_eq_true, A0.b.injEq, A0.i.injEq, A0.s.injEq, A0.rw.injEq, A0.fn.injEq, List.cons.injEq, RC.ints.injEq, RC.recs.injEq, RC.bools.injEq, AV.one.injEq, AV.tup.injEq, ble_dec, blt_dec, Nat.reduceLeDiff, Nat.reduceSub, decide_true, decide_false, and_self, List.toList_toArray, Option.isSome_some, Option.isSome_none, List.elem_nil, List.elem_cons, ite_true, ite_false, Bool.false_eq_true, if_true, if_false, reduceIte, flatB_2, flatB_3, flatB_4, List.headD_cons, List.tail_cons, Try.f41]

/-! ### lattices -/
def latB (l m n : Int) : Bool := inI l 1 1000 && (inI n 1 1000 && (decide (m ≥ 0) && decide (m < l)))
theorem latB_iff {l m n : Int} (h : latB l m n = true) : (1 ≤ l ∧ l ≤ 1000) ∧ (1 ≤ n ∧ n ≤ 1000) ∧ 0 ≤ m ∧ m < l := by
  simp only [latB, inI, Bool.and_eq_true, decide_eq_true_eq] at h
  omega
abbrev fIsLattice : Nat := 142
def cIsLattice : Ctr
  | [.s [l, m, n]] => some ⟨True, .one (.b (latB l m n)), []⟩
  | _ => none
theorem okIsLattice : CtrOk Try.prog fIsLattice cIsLattice := by
  have hsp : SpecOk Try.prog (specOf []) := SpecOk.nil
  refine ctr_of (fn := Try.f142) mixed tab_ok hsp Try.func142 (by kernel_rfl) (by kernel_rfl) fun args ce h => ?_
  clear hsp
  unfold cIsLattice at h
  split at h
  case h_2 => cases h
  rename_i l m n
  simp only [Option.some.injEq] at h
  subst h
  refine ⟨by rfl, fun hp => ⟨0, 1000, ?_⟩⟩
  simp only [vc, out, step, stepE, stepPick, stepG, stepO, stepC, eff, look, rem, St.put, St.setMem, setMems, St.after, St.eval, cst, setAt, val1, okNew, newHs, allHs, rdOf, outHs, Reg.item, Reg.next, Reg.skip, slotOf, effBox, effAlloc, entryRow, fieldOff, effField, loadI, load1, loadR, effLoad, storeI, storeB, storeR, szOk, storeTo, effStore, buildOf, effBuild, binInt, eqI, boolOf, binBool, effBin, effUn, effPick, effExtract, ivs, svs, rowOf, allParts, effBuildSlice, zeroRow, effMakeSlice, elemSz, idxA, idxS, effIndex, lenOf, readOf, subPre, maxRow, plainTI, appTo, effAppend, slcOf, effSlice, argOf, resA, resL, resV, outWr, nodupB, restOk, argsPre, argOk, callWr, effCall, effMax, wrHs, disj, AV.hs, A0.hs, Entry.hs, RC.elem, RC.sz, RC.len, RC.slice, RC.app, hA, initFr, initMem, initSt, resOf, resAll, compEq, compsEq, rowHs, outHds, outsEq, shapeOk, finOk, comps, A0.norm, AV.norm, specOf, t_int, t_bool, t_implForm, t_lawsForm, t_implMatrix, t_implPoint, t_implLattice, t_lawsLattice, t_implTriple, t_lawsTriple, t_implSpot, t_implCube, t_implunited, t_implentries, t_a8int, ts_int, ts_implForm, ts_implSpot, Option.getD_some, Option.getD_none, cond_true, cond_false, Nat.reduceBEq, List.map_cons, List.map_nil, List.set_cons_zero, List.set_cons_succ, List.getElem?_cons_zero, List.getElem?_cons_succ, List.drop_zero, List.drop_succ_cons, List.take_succ_cons, List.take_zero, Option.map_some, Option.map_none, Option.bind_some, Nat.zero_add, Nat.add_zero, Nat.reduceAdd, Nat.reduceMul, true_and, and_true, List.replicate_succ, List.replicate_zero, List.length_cons, List.length_nil, List.all_cons, List.all_nil, List.any_cons, List.any_nil, Bool.and_true, Bool.true_and, Bool.and_false, Bool.false_and, Bool.or_true, Bool.true_or, Bool.or_false, Bool.false_or, Bool.not_true, Bool.not_false, List.append_nil, List.nil_append, List.cons_append, List.flatMap_cons, List.flatMap_nil, List.contains_cons, List.contains_nil, List.filter_cons, List.filter_nil, beq_self_eq_true, Bool.not_eq_true, A0.b.injEq, A0.i.injEq, A0.s.injEq, A0.rw.injEq, A0.fn.injEq, List.cons.injEq, RC.ints.injEq, RC.recs.injEq, RC.bools.injEq, AV.one.injEq, AV.tup.injEq, ble_dec, blt_dec, Nat.reduceLeDiff, Nat.reduceSub, decide_true, decide_false, and_self, List.toList_toArray, Option.isSome_some, Option.isSome_none, List.elem_nil, List.elem_cons, ite_true, ite_false, Bool.false_eq_true, if_true, if_false, reduceIte, flatB_2, flatB_3, flatB_4, List.headD_cons, List.tail_cons, Try.f142]
  unfold latB inI
  cases decide (l ≥ 1) <;> cases decide (l ≤ 1000) <;> cases decide (n ≥ 1) <;> cases decide (n ≤ 1000) <;> cases decide (m ≥ 0) <;> rfl
abbrev fLaGood : Nat := 141
def cLaGood : Ctr
  | [.s [l, m, n]] => some ⟨True, .one (.b (latB l m n)), []⟩
  | _ => none
theorem okLaGood : CtrOk Try.prog fLaGood cLaGood := by
  have hsp : SpecOk Try.prog (specOf [(fIn, cIn)]) := (SpecOk.cons okIn SpecOk.nil)
  refine ctr_of (fn := Try.f141) mixed tab_ok hsp Try.func141 (by kernel_rfl) (by kernel_rfl) fun args ce h => ?_
  clear hsp
  unfold cLaGood at h
  split at h
  case h_2 => cases h
  rename_i l m n
  simp only [Option.some.injEq] at h
  subst h
  refine ⟨by rfl, fun hp => ⟨0, 1000, ?_⟩⟩
  simp only [vc, out, step, stepE, stepPick, stepG, stepO, stepC, eff, look, rem, St.put, St.setMem, setMems, St.after, St.eval, cst, setAt, val1, okNew, newHs, allHs, rdOf, outHs, Reg.item, Reg.next, Reg.skip, slotOf, effBox, effAlloc, entryRow, fieldOff, effField, loadI, load1, loadR, effLoad, storeI, storeB, storeR, szOk, storeTo, effStore, buildOf, effBuild, binInt, eqI, boolOf, binBool, effBin, effUn, effPick, effExtract, ivs, svs, rowOf, allParts, effBuildSlice, zeroRow, effMakeSlice, elemSz, idxA, idxS, effIndex, lenOf, readOf, subPre, maxRow, plainTI, appTo, effAppend, slcOf, effSlice, argOf, resA, resL, resV, outWr, nodupB, restOk, argsPre, argOk, callWr, effCall, effMax, wrHs, disj, AV.hs, A0.hs, Entry.hs, RC.elem, RC.sz, RC.len, RC.slice, RC.app, hA, initFr, initMem, initSt, resOf, resAll, compEq, compsEq, rowHs, outHds, outsEq, shapeOk, finOk, comps, A0.norm, AV.norm, specOf, t_int, t_bool, t_implForm, t_lawsForm, t_implMatrix, t_implPoint, t_implLattice, t_lawsLattice, t_implTriple, t_lawsTriple, t_implSpot, t_implCube, t_implunited, t_implentries, t_a8int, ts_int, ts_implForm, ts_implSpot, Option.getD_some, Option.getD_none, cond_true, cond_false, Nat.reduceBEq, List.map_cons, List.map_nil, List.set_cons_zero, List.set_cons_succ, List.getElem?_cons_zero, List.getElem?_cons_succ, List.drop_zero, List.drop_succ_cons, List.take_succ_cons, List.take_zero, Option.map_some, Option.map_none, Option.bind_some, Nat.zero_add, Nat.add_zero, Nat.reduceAdd, Nat.reduceMul, true_and, and_true, List.replicate_succ, List.replicate_zero, List.length_cons, List.length_nil, List.all_cons, List.all_nil, List.any_cons, List.any_nil, Bool.and_true, Bool.true_and, Bool.and_false, Bool.false_and, Bool.or_true, Bool.true_or, Bool.or_false, Bool.false_or, Bool.not_true, Bool.not_false, List.append_nil, List.nil_append, List.cons_append, List.flatMap_cons, List.flatMap_nil, List.contains_cons, List.contains_nil, List.filter_cons, List.filter_nil, beq_self_eq_true, Bool.not_eq_true, A0.b.injEq, A0.i.injEq, A0.s.injEq, A0.rw.injEq, A0.fn.injEq, List.cons.injEq, RC.ints.injEq, RC.recs.injEq, RC.bools.injEq, AV.one.injEq, AV.tup.injEq, ble_dec, blt_dec, Nat.reduceLeDiff, Nat.reduceSub, decide_true, decide_false, and_self, List.toList_toArray, Option.isSome_some, Option.isSome_none, List.elem_nil, List.elem_cons, ite_true, ite_false, Bool.false_eq_true, if_true, if_false, reduceIte, flatB_2, flatB_3, flatB_4, List.headD_cons, List.tail_cons, cIn, fIn, Try.f141]
  unfold latB
  cases h : inI l 1 1000 with
  | false => rfl
  | true =>
    cases inI n 1 1000 with
    | false => rfl
    | true =>
      have h1 : 1 ≤ l ∧ l ≤ 1000 := by simpa [inI] using h
      have e : inI m 0 (wrap64 (l - 1)) = (decide (m ≥ 0) && decide (m < l)) := by
        unfold inI
        rw [wrap_id (by omega) (by omega)]
        have : decide (m ≤ l - 1) = decide (m < l) := by rw [decide_eq_decide]; omega
        rw [this]
      exact e
def laG (a b c l m n : Int) : F3 := (valI a b c l 0, polI a b c l 0 m n, valI a b c m n)
def olB (a b c l m n : Int) : Bool := defB a b c && (latB l m n && formB (laG a b c l m n).1 (laG a b c l m n).2.1 (laG a b c l m n).2.2)
abbrev fLaForm : Nat := 92
def cLaForm : Ctr
  | [.s [a, b, c], .s [l, m, n]] => some ⟨True, .one (.s [(laG a b c l m n).1, (laG a b c l m n).2.1, (laG a b c l m n).2.2]), []⟩
  | _ => none
theorem okLaForm : CtrOk Try.prog fLaForm cLaForm := by
  have hsp : SpecOk Try.prog (specOf [(fFoAct, cFoAct)]) := (SpecOk.cons okFoAct SpecOk.nil)
  refine ctr_of (fn := Try.f92) mixed tab_ok hsp Try.func92 (by kernel_rfl) (by kernel_rfl) fun args ce h => ?_
  clear hsp
  unfold cLaForm at h
  split at h
  case h_2 => cases h
  rename_i a b c l m n
  simp only [Option.some.injEq] at h
  subst h
  refine ⟨by rfl, fun hp => ⟨0, 1000, ?_⟩⟩
  simp only [vc, out, step, stepE, stepPick, stepG, stepO, stepC, eff, look, rem, St.put, St.setMem, setMems, St.after, St.eval, cst, setAt, val1, okNew, newHs, allHs, rdOf, outHs, Reg.item, Reg.next, Reg.skip, slotOf, effBox, effAlloc, entryRow, fieldOff, effField, loadI, load1, loadR, effLoad, storeI, storeB, storeR, szOk, storeTo, effStore, buildOf, effBuild, binInt, eqI, boolOf, binBool, effBin, effUn, effPick, effExtract, ivs, svs, rowOf, allParts, effBuildSlice, zeroRow, effMakeSlice, elemSz, idxA, idxS, effIndex, lenOf, readOf, subPre, maxRow, plainTI, appTo, effAppend, slcOf, effSlice, argOf, resA, resL, resV, outWr, nodupB, restOk, argsPre, argOk, callWr, effCall, effMax, wrHs, disj, AV.hs, A0.hs, Entry.hs, RC.elem, RC.sz, RC.len, RC.slice, RC.app, hA, initFr, initMem, initSt, resOf, resAll, compEq, compsEq, rowHs, outHds, outsEq, shapeOk, finOk, comps, A0.norm, AV.norm, specOf, t_int, t_bool, t_implForm, t_lawsForm, t_implMatrix, t_implPoint, t_implLattice, t_lawsLattice, t_implTriple, t_lawsTriple, t_implSpot, t_implCube, t_implunited, t_implentries, t_a8int, ts_int, ts_implForm, ts_implSpot, Option.getD_some, Option.getD_none, cond_true, cond_false, Nat.reduceBEq, List.map_cons, List.map_nil, List.set_cons_zero, List.set_cons_succ, List.getElem?_cons_zero, List.getElem?_cons_succ, List.drop_zero, List.drop_succ_cons, List.take_succ_cons, List.take_zero, Option.map_some, Option.map_none, Option.bind_some, Nat.zero_add, Nat.add_zero, Nat.reduceAdd, Nat.reduceMul, true_and, and_true, List.replicate_succ, List.replicate_zero, List.length_cons, List.length_nil, List.all_cons, List.all_nil, List.any_cons, List.any_nil, Bool.and_true, Bool.true_and, Bool.and_false, Bool.false_and, Bool.or_true, Bool.true_or, Bool.or_false, Bool.false_or, Bool.not_true, Bool.not_false, List.append_nil, List.nil_append, List.cons_append, List.flatMap_cons, List.flatMap_nil, List.contains_cons, List.contains_nil, List.filter_cons, List.filter_nil, beq_self_eq_true, Bool.not_eq_true, A0.b.injEq, A0.i.injEq, A0.s.injEq, A0.rw.injEq, A0.fn.injEq, List.cons.injEq, RC.ints.injEq, RC.recs.injEq, RC.bools.injEq, AV.one.injEq, AV.tup.injEq, ble_dec, blt_dec, Nat.reduceLeDiff, Nat.reduceSub, decide_true, decide_false, and_self, List.toList_toArray, Option.isSome_some, Option.isSome_none, List.elem_nil, List.elem_cons, ite_true, ite_false, Bool.false_eq_true, if_true, if_false, reduceIte, flatB_2, flatB_3, flatB_4, List.headD_cons, List.tail_cons, cFoAct, fFoAct, actI, Try.f92]
  exact ⟨rfl, rfl, rfl⟩
theorem mul3L {a x y : Int} (ha : -2000000 ≤ a ∧ a ≤ 2000000) (hx : -1000 ≤ x ∧ x ≤ 1000) (hy : -1000 ≤ y ∧ y ≤ 1000) : -2000000000000 ≤ a * x * y ∧ a * x * y ≤ 2000000000000 := by
  have h1 := mul_bd (a := a) (b := x) (j := 2000000) (k := 1000) (by omega) (by omega) ha hx
  have h2 := mul_bd (a := a * x) (b := y) (j := 2000000000) (k := 1000) (by omega) (by omega) ⟨by omega, by omega⟩ hy
  omega
theorem lat_eq {a b c l m n : Int} (ha : -1000000 ≤ a ∧ a ≤ 1000000) (hb : -1000000 ≤ b ∧ b ≤ 1000000) (hc : -1000000 ≤ c ∧ c ≤ 1000000) (hl : 1 ≤ l ∧ l ≤ 1000) (hn : 1 ≤ n ∧ n ≤ 1000) (hm : 0 ≤ m ∧ m < l) :
    (laG a b c l m n).1 = a * l * l ∧ (laG a b c l m n).2.1 = 2 * a * l * m + b * l * n ∧ (laG a b c l m n).2.2 = a * m * m + b * m * n + c * n * n := by
  have k1 := mul3L (a := a) (x := l) (y := l) (by omega) (by omega) (by omega)
  have k2 := mul3L (a := 2 * a) (x := l) (y := m) (by omega) (by omega) (by omega)
  have k3 := mul3L (a := b) (x := l) (y := n) (by omega) (by omega) (by omega)
  have k4 := mul3L (a := a) (x := m) (y := m) (by omega) (by omega) (by omega)
  have k5 := mul3L (a := b) (x := m) (y := n) (by omega) (by omega) (by omega)
  have k6 := mul3L (a := c) (x := n) (y := n) (by omega) (by omega) (by omega)
  unfold laG
  simp only
  rw [valI_eq, valI_eq, polI_eq]
  have e1 : a * l * l + b * l * 0 + c * 0 * 0 = a * l * l := by simp
  have e2 : 2 * a * l * m + b * (l * n + 0 * m) + 2 * c * 0 * n = 2 * a * l * m + b * l * n := by simp [Int.mul_assoc]
  rw [e1, e2]
  clear e1 e2 ha hb hc hl hn hm
  exact ⟨wrap_id (by omega) (by omega), wrap_id (by omega) (by omega), wrap_id (by omega) (by omega)⟩
theorem lat_def {a b c l m n : Int} (h : olB a b c l m n = true) : defB (laG a b c l m n).1 (laG a b c l m n).2.1 (laG a b c l m n).2.2 = true := by
  simp only [olB, Bool.and_eq_true] at h
  obtain ⟨h1, h2, h3⟩ := h
  obtain ⟨hl, hn, hm⟩ := latB_iff h2
  simp only [defB, formB, Bool.and_eq_true, decide_eq_true_eq, areB_iff] at h1
  obtain ⟨⟨ha, hb, hc⟩, hd, hp⟩ := h1
  rw [disc_id ha hb hc] at hd
  have g := h3
  simp only [formB, Bool.and_eq_true, areB_iff] at g
  obtain ⟨ga, gb, gc⟩ := g
  obtain ⟨e1, e2, e3⟩ := lat_eq ha hb hc hl hn hm
  unfold defB
  rw [h3, disc_id ga gb gc, e1, e2, e3]
  have key : (2 * a * l * m + b * l * n) * (2 * a * l * m + b * l * n) - 4 * (a * l * l) * (a * m * m + b * m * n + c * n * n) = l * n * (l * n) * (b * b - 4 * a * c) := by grind
  have p1 : 0 < l * n := Int.mul_pos (by omega) (by omega)
  have p2 := Int.mul_neg_of_pos_of_neg (Int.mul_pos p1 p1) hd
  have p3 : a * l * l > 0 := Int.mul_pos (Int.mul_pos hp (by omega)) (by omega)
  rw [key, decide_eq_true p2, decide_eq_true p3]; rfl
abbrev fFormOnLat : Nat := 94
def cFormOnLat : Ctr
  | [.s [a, b, c], .s [l, m, n]] => some ⟨True, .tup [.s [onB (olB a b c l m n) (laG a b c l m n).1, onB (olB a b c l m n) (laG a b c l m n).2.1, onB (olB a b c l m n) (laG a b c l m n).2.2], .b (olB a b c l m n)], []⟩
  | _ => none
theorem okFormOnLat : CtrOk Try.prog fFormOnLat cFormOnLat := by
  have hsp : SpecOk Try.prog (specOf [(fIsDef, cIsDef), (fIsLattice, cIsLattice), (fSubstitute, cSubstitute), (fIsForm, cIsForm)]) := (SpecOk.cons okIsDef (SpecOk.cons okIsLattice (SpecOk.cons okSubstitute (SpecOk.cons okIsForm SpecOk.nil))))
  refine ctr_of (fn := Try.f94) mixed tab_ok hsp Try.func94 (by kernel_rfl) (by kernel_rfl) fun args ce h => ?_
  clear hsp
  unfold cFormOnLat at h
  split at h
  case h_2 => cases h
  rename_i a b c l m n
  simp only [Option.some.injEq] at h
  subst h
  refine ⟨by rfl, fun hp => ⟨0, 1000, ?_⟩⟩
  simp only [vc, out, step, stepE, stepPick, stepG, stepO, stepC, eff, look, rem, St.put, St.setMem, setMems, St.after, St.eval, cst, setAt, val1, okNew, newHs, allHs, rdOf, outHs, Reg.item, Reg.next, Reg.skip, slotOf, effBox, effAlloc, entryRow, fieldOff, effField, loadI, load1, loadR, effLoad, storeI, storeB, storeR, szOk, storeTo, effStore, buildOf, effBuild, binInt, eqI, boolOf, binBool, effBin, effUn, effPick, effExtract, ivs, svs, rowOf, allParts, effBuildSlice, zeroRow, effMakeSlice, elemSz, idxA, idxS, effIndex, lenOf, readOf, subPre, maxRow, plainTI, appTo, effAppend, slcOf, effSlice, argOf, resA, resL, resV, outWr, nodupB, restOk, argsPre, argOk, callWr, effCall, effMax, wrHs, disj, AV.hs, A0.hs, Entry.hs, RC.elem, RC.sz, RC.len, RC.slice, RC.app, hA, initFr, initMem, initSt, resOf, resAll, compEq, compsEq, rowHs, outHds, outsEq, shapeOk, finOk, comps, A0.norm, AV.norm, specOf, t_int, t_bool, t_implForm, t_lawsForm, t_implMatrix, t_implPoint, t_implLattice, t_lawsLattice, t_implTriple, t_lawsTriple, t_implSpot, t_implCube, t_implunited, t_implentries, t_a8int, ts_int, ts_implForm, ts_implSpot, Option.getD_some, Option.getD_none, cond_true, cond_false, Nat.reduceBEq, List.map_cons, List.map_nil, List.set_cons_zero, List.set_cons_succ, List.getElem?_cons_zero, List.getElem?_cons_succ, List.drop_zero, List.drop_succ_cons, List.take_succ_cons, List.take_zero, Option.map_some, Option.map_none, Option.bind_some, Nat.zero_add, Nat.add_zero, Nat.reduceAdd, Nat.reduceMul, true_and, and_true, List.replicate_succ, List.replicate_zero, List.length_cons, List.length_nil, List.all_cons, List.all_nil, List.any_cons, List.any_nil, Bool.and_true, Bool.true_and, Bool.and_false, Bool.false_and, Bool.or_true, Bool.true_or, Bool.or_false, Bool.false_or, Bool.not_true, Bool.not_false, List.append_nil, List.nil_append, List.cons_append, List.flatMap_cons, List.flatMap_nil, List.contains_cons, List.contains_nil, List.filter_cons, List.filter_nil, beq_self_eq_true, Bool.not_eq_true, A0.b.injEq, A0.i.injEq, A0.s.injEq, A0.rw.injEq, A0.fn.injEq, List.cons.injEq, RC.ints.injEq, RC.recs.injEq, RC.bools.injEq, AV.one.injEq, AV.tup.injEq, ble_dec, blt_dec, Nat.reduceLeDiff, Nat.reduceSub, decide_true, decide_false, and_self, List.toList_toArray, Option.isSome_some, Option.isSome_none, List.elem_nil, List.elem_cons, ite_true, ite_false, Bool.false_eq_true, if_true, if_false, reduceIte, flatB_2, flatB_3, flatB_4, List.headD_cons, List.tail_cons, cIsDef, fIsDef, cIsLattice, fIsLattice, cSubstitute, fSubstitute, cIsForm, fIsForm, actI, Try.f94]
  have eG : formB (valI a b c l 0) (polI a b c l 0 m n) (valI a b c m n) = formB (laG a b c l m n).1 (laG a b c l m n).2.1 (laG a b c l m n).2.2 := rfl
  rw [eG]
  unfold olB
  cases h1 : defB a b c with
  | false => exact ⟨by kernel_rfl, ⟨rfl, rfl, rfl⟩, rfl⟩
  | true =>
    cases h2 : latB l m n with
    | false => exact ⟨by kernel_rfl, ⟨rfl, rfl, rfl⟩, rfl⟩
    | true =>
      cases h3 : formB (laG a b c l m n).1 (laG a b c l m n).2.1 (laG a b c l m n).2.2 with
      | false => exact ⟨by kernel_rfl, ⟨rfl, rfl, rfl⟩, rfl⟩
      | true => exact ⟨by kernel_rfl, ⟨rfl, rfl, rfl⟩, rfl⟩
abbrev fLaAsked : Nat := 91
def cLaAsked : Ctr
  | [.s [a, b, c], .s [l, m, n]] => some ⟨True, .one (.b (olB a b c l m n)), []⟩
  | _ => none
theorem okLaAsked : CtrOk Try.prog fLaAsked cLaAsked := by
  have hsp : SpecOk Try.prog (specOf [(fFoDef, cFoDef), (fLaGood, cLaGood), (fLaForm, cLaForm), (fFoGood, cFoGood)]) := (SpecOk.cons okFoDef (SpecOk.cons okLaGood (SpecOk.cons okLaForm (SpecOk.cons okFoGood SpecOk.nil))))
  refine ctr_of (fn := Try.f91) mixed tab_ok hsp Try.func91 (by kernel_rfl) (by kernel_rfl) fun args ce h => ?_
  clear hsp
  unfold cLaAsked at h
  split at h
  case h_2 => cases h
  rename_i a b c l m n
  simp only [Option.some.injEq] at h
  subst h
  refine ⟨by rfl, fun hp => ⟨0, 1000, ?_⟩⟩
  simp only [vc, out, step, stepE, stepPick, stepG, stepO, stepC, eff, look, rem, St.put, St.setMem, setMems, St.after, St.eval, cst, setAt, val1, okNew, newHs, allHs, rdOf, outHs, Reg.item, Reg.next, Reg.skip, slotOf, effBox, effAlloc, entryRow, fieldOff, effField, loadI, load1, loadR, effLoad, storeI, storeB, storeR, szOk, storeTo, effStore, buildOf, effBuild, binInt, eqI, boolOf, binBool, effBin, effUn, effPick, effExtract, ivs, svs, rowOf, allParts, effBuildSlice, zeroRow, effMakeSlice, elemSz, idxA, idxS, effIndex, lenOf, readOf, subPre, maxRow, plainTI, appTo, effAppend, slcOf, effSlice, argOf, resA, resL, resV, outWr, nodupB, restOk, argsPre, argOk, callWr, effCall, effMax, wrHs, disj, AV.hs, A0.hs, Entry.hs, RC.elem, RC.sz, RC.len, RC.slice, RC.app, hA, initFr, initMem, initSt, resOf, resAll, compEq, compsEq, rowHs, outHds, outsEq, shapeOk, finOk, comps, A0.norm, AV.norm, specOf, t_int, t_bool, t_implForm, t_lawsForm, t_implMatrix, t_implPoint, t_implLattice, t_lawsLattice, t_implTriple, t_lawsTriple, t_implSpot, t_implCube, t_implunited, t_implentries, t_a8int, ts_int, ts_implForm, ts_implSpot, Option.getD_some, Option.getD_none, cond_true, cond_false, Nat.reduceBEq, List.map_cons, List.map_nil, List.set_cons_zero, List.set_cons_succ, List.getElem?_cons_zero, List.getElem?_cons_succ, List.drop_zero, List.drop_succ_cons, List.take_succ_cons, List.take_zero, Option.map_some, Option.map_none, Option.bind_some, Nat.zero_add, Nat.add_zero, Nat.reduceAdd, Nat.reduceMul, true_and, and_true, List.replicate_succ, List.replicate_zero, List.length_cons, List.length_nil, List.all_cons, List.all_nil, List.any_cons, List.any_nil, Bool.and_true, Bool.true_and, Bool.and_false, Bool.false_and, Bool.or_true, Bool.true_or, Bool.or_false, Bool.false_or, Bool.not_true, Bool.not_false, List.append_nil, List.nil_append, List.cons_append, List.flatMap_cons, List.flatMap_nil, List.contains_cons, List.contains_nil, List.filter_cons, List.filter_nil, beq_self_eq_true, Bool.not_eq_true, A0.b.injEq, A0.i.injEq, A0.s.injEq, A0.rw.injEq, A0.fn.injEq, List.cons.injEq, RC.ints.injEq, RC.recs.injEq, RC.bools.injEq, AV.one.injEq, AV.tup.injEq, ble_dec, blt_dec, Nat.reduceLeDiff, Nat.reduceSub, decide_true, decide_false, and_self, List.toList_toArray, Option.isSome_some, Option.isSome_none, List.elem_nil, List.elem_cons, ite_true, ite_false, Bool.false_eq_true, if_true, if_false, reduceIte, flatB_2, flatB_3, flatB_4, List.headD_cons, List.tail_cons, cFoDef, fFoDef, cLaGood, fLaGood, cLaForm, fLaForm, cFoGood, fFoGood, Try.f91]
  have eS : sformB (laG a b c l m n).1 (laG a b c l m n).2.1 (laG a b c l m n).2.2 = formB (laG a b c l m n).1 (laG a b c l m n).2.1 (laG a b c l m n).2.2 := by simp [sformB, formB, good_are]
  rw [sdef_eq, eS]
  unfold olB
  cases defB a b c <;> cases latB l m n <;> rfl
theorem def_mat {a b c : Int} (h : defB a b c = true) : matB (rdP a b c) (rdQ a b c) (rdR a b c) (rdS a b c) = true := by
  have hd : F3.dom (a, b, c) = true := def_domB h
  have hs := redM_small0 hd
  have e := redL_eq hd
  unfold rdP rdQ rdR rdS
  rw [e]
  simp only [matB, Bool.and_eq_true, areB_iff]
  have h1 := hs.h1; have h2 := hs.h2; have h3 := hs.h3; have h4 := hs.h4
  omega
abbrev fReduceForm : Nat := 95
def cReduceForm : Ctr
  | [.s [a, b, c]] => some ⟨True, .tup [.s [onB (defB a b c) (rdA a b c), onB (defB a b c) (rdB a b c), onB (defB a b c) (rdC a b c)], .s [onB (defB a b c) (rdP a b c), onB (defB a b c) (rdQ a b c), onB (defB a b c) (rdR a b c), onB (defB a b c) (rdS a b c)], .b (defB a b c)], []⟩
  | _ => none
theorem okReduceForm : CtrOk Try.prog fReduceForm cReduceForm := by
  have hsp : SpecOk Try.prog (specOf [(fIsDef, cIsDef), (fReduce, cReduce), (fIsMatrix, cIsMatrix)]) := (SpecOk.cons okIsDef (SpecOk.cons okReduce (SpecOk.cons okIsMatrix SpecOk.nil)))
  refine ctr_of (fn := Try.f95) mixed tab_ok hsp Try.func95 (by kernel_rfl) (by kernel_rfl) fun args ce h => ?_
  clear hsp
  unfold cReduceForm at h
  split at h
  case h_2 => cases h
  rename_i a b c
  simp only [Option.some.injEq] at h
  subst h
  refine ⟨by rfl, fun hp => ⟨0, 1000, ?_⟩⟩
  simp only [vc, out, step, stepE, stepPick, stepG, stepO, stepC, eff, look, rem, St.put, St.setMem, setMems, St.after, St.eval, cst, setAt, val1, okNew, newHs, allHs, rdOf, outHs, Reg.item, Reg.next, Reg.skip, slotOf, effBox, effAlloc, entryRow, fieldOff, effField, loadI, load1, loadR, effLoad, storeI, storeB, storeR, szOk, storeTo, effStore, buildOf, effBuild, binInt, eqI, boolOf, binBool, effBin, effUn, effPick, effExtract, ivs, svs, rowOf, allParts, effBuildSlice, zeroRow, effMakeSlice, elemSz, idxA, idxS, effIndex, lenOf, readOf, subPre, maxRow, plainTI, appTo, effAppend, slcOf, effSlice, argOf, resA, resL, resV, outWr, nodupB, restOk, argsPre, argOk, callWr, effCall, effMax, wrHs, disj, AV.hs, A0.hs, Entry.hs, RC.elem, RC.sz, RC.len, RC.slice, RC.app, hA, initFr, initMem, initSt, resOf, resAll, compEq, compsEq, rowHs, outHds, outsEq, shapeOk, finOk, comps, A0.norm, AV.norm, specOf, t_int, t_bool, t_implForm, t_lawsForm, t_implMatrix, t_implPoint, t_implLattice, t_lawsLattice, t_implTriple, t_lawsTriple, t_implSpot, t_implCube, t_implunited, t_implentries, t_a8int, ts_int, ts_implForm, ts_implSpot, Option.getD_some, Option.getD_none, cond_true, cond_false, Nat.reduceBEq, List.map_cons, List.map_nil, List.set_cons_zero, List.set_cons_succ, List.getElem?_cons_zero, List.getElem?_cons_succ, List.drop_zero, List.drop_succ_cons, List.take_succ_cons, List.take_zero, Option.map_some, Option.map_none, Option.bind_some, Nat.zero_add, Nat.add_zero, Nat.reduceAdd, Nat.reduceMul, true_and, and_true, List.replicate_succ, List.replicate_zero, List.length_cons, List.length_nil, List.all_cons, List.all_nil, List.any_cons, List.any_nil, Bool.and_true, Bool.true_and, Bool.and_false, Bool.false_and, Bool.or_true, Bool.true_or, Bool.or_false, Bool.false_or, Bool.not_true, Bool.not_false, List.append_nil, List.nil_append, List.cons_append, List.flatMap_cons, List.flatMap_nil, List.contains_cons, List.contains_nil, List.filter_cons, List.filter_nil, beq_self_eq_true, Bool.not_eq_true, A0.b.injEq, A0.i.injEq, A0.s.injEq, A0.rw.injEq, A0.fn.injEq, List.cons.injEq, RC.ints.injEq, RC.recs.injEq, RC.bools.injEq, AV.one.injEq, AV.tup.injEq, ble_dec, blt_dec, Nat.reduceLeDiff, Nat.reduceSub, decide_true, decide_false, and_self, List.toList_toArray, Option.isSome_some, Option.isSome_none, List.elem_nil, List.elem_cons, ite_true, ite_false, Bool.false_eq_true, if_true, if_false, reduceIte, flatB_2, flatB_3, flatB_4, List.headD_cons, List.tail_cons, cIsDef, fIsDef, cReduce, fReduce, cIsMatrix, fIsMatrix, Try.f95]
  cases h : defB a b c with
  | false => exact ⟨by kernel_rfl, ⟨rfl, rfl, rfl⟩, ⟨rfl, rfl, rfl, rfl⟩, rfl⟩
  | true =>
    have hm := def_mat h
    rw [hm]
    exact ⟨def_domB h, by kernel_rfl, by kernel_rfl, ⟨rfl, rfl, rfl⟩, ⟨rfl, rfl, rfl, rfl⟩, rfl⟩
def lpX (l m x y : Int) : Int := wrap64 (wrap64 (x * l) + wrap64 (y * m))
abbrev fLatPoint : Nat := 96
def cLatPoint : Ctr
  | [.s [l, m, n], .i x, .i y] => some ⟨True, .one (.s [lpX l m x y, wrap64 (y * n)]), []⟩
  | _ => none
theorem okLatPoint : CtrOk Try.prog fLatPoint cLatPoint := by
  have hsp : SpecOk Try.prog (specOf []) := SpecOk.nil
  refine ctr_of (fn := Try.f96) mixed tab_ok hsp Try.func96 (by kernel_rfl) (by kernel_rfl) fun args ce h => ?_
  clear hsp
  unfold cLatPoint at h
  split at h
  case h_2 => cases h
  rename_i l m n x y
  simp only [Option.some.injEq] at h
  subst h
  refine ⟨by rfl, fun hp => ⟨0, 1000, ?_⟩⟩
  simp only [vc, out, step, stepE, stepPick, stepG, stepO, stepC, eff, look, rem, St.put, St.setMem, setMems, St.after, St.eval, cst, setAt, val1, okNew, newHs, allHs, rdOf, outHs, Reg.item, Reg.next, Reg.skip, slotOf, effBox, effAlloc, entryRow, fieldOff, effField, loadI, load1, loadR, effLoad, storeI, storeB, storeR, szOk, storeTo, effStore, buildOf, effBuild, binInt, eqI, boolOf, binBool, effBin, effUn, effPick, effExtract, ivs, svs, rowOf, allParts, effBuildSlice, zeroRow, effMakeSlice, elemSz, idxA, idxS, effIndex, lenOf, readOf, subPre, maxRow, plainTI, appTo, effAppend, slcOf, effSlice, argOf, resA, resL, resV, outWr, nodupB, restOk, argsPre, argOk, callWr, effCall, effMax, wrHs, disj, AV.hs, A0.hs, Entry.hs, RC.elem, RC.sz, RC.len, RC.slice, RC.app, hA, initFr, initMem, initSt, resOf, resAll, compEq, compsEq, rowHs, outHds, outsEq, shapeOk, finOk, comps, A0.norm, AV.norm, specOf, t_int, t_bool, t_implForm, t_lawsForm, t_implMatrix, t_implPoint, t_implLattice, t_lawsLattice, t_implTriple, t_lawsTriple, t_implSpot, t_implCube, t_implunited, t_implentries, t_a8int, ts_int, ts_implForm, ts_implSpot, Option.getD_some, Option.getD_none, cond_true, cond_false, Nat.reduceBEq, List.map_cons, List.map_nil, List.set_cons_zero, List.set_cons_succ, List.getElem?_cons_zero, List.getElem?_cons_succ, List.drop_zero, List.drop_succ_cons, List.take_succ_cons, List.take_zero, Option.map_some, Option.map_none, Option.bind_some, Nat.zero_add, Nat.add_zero, Nat.reduceAdd, Nat.reduceMul, true_and, and_true, List.replicate_succ, List.replicate_zero, List.length_cons, List.length_nil, List.all_cons, List.all_nil, List.any_cons, List.any_nil, Bool.and_true, Bool.true_and, Bool.and_false, Bool.false_and, Bool.or_true, Bool.true_or, Bool.or_false, Bool.false_or, Bool.not_true, Bool.not_false, List.append_nil, List.nil_append, List.cons_append, List.flatMap_cons, List.flatMap_nil, List.contains_cons, List.contains_nil, List.filter_cons, List.filter_nil, beq_self_eq_true, Bool.not_eq_true, A0.b.injEq, A0.i.injEq, A0.s.injEq, A0.rw.injEq, A0.fn.injEq, List.cons.injEq, RC.ints.injEq, RC.recs.injEq, RC.bools.injEq, AV.one.injEq, AV.tup.injEq, ble_dec, blt_dec, Nat.reduceLeDiff, Nat.reduceSub, decide_true, decide_false, and_self, List.toList_toArray, Option.isSome_some, Option.isSome_none, List.elem_nil, List.elem_cons, ite_true, ite_false, Bool.false_eq_true, if_true, if_false, reduceIte, flatB_2, flatB_3, flatB_4, List.headD_cons, List.tail_cons, Try.f96]
  rfl
abbrev fLaPoint : Nat := 93
def cLaPoint : Ctr
  | [.s [l, m, n], .i x, .i y] => some ⟨True, .one (.s [lpX l m x y, wrap64 (y * n)]), []⟩
  | _ => none
theorem okLaPoint : CtrOk Try.prog fLaPoint cLaPoint := by
  have hsp : SpecOk Try.prog (specOf []) := SpecOk.nil
  refine ctr_of (fn := Try.f93) mixed tab_ok hsp Try.func93 (by kernel_rfl) (by kernel_rfl) fun args ce h => ?_
  clear hsp
  unfold cLaPoint at h
  split at h
  case h_2 => cases h
  rename_i l m n x y
  simp only [Option.some.injEq] at h
  subst h
  refine ⟨by rfl, fun hp => ⟨0, 1000, ?_⟩⟩
  simp only [vc, out, step, stepE, stepPick, stepG, stepO, stepC, eff, look, rem, St.put, St.setMem, setMems, St.after, St.eval, cst, setAt, val1, okNew, newHs, allHs, rdOf, outHs, Reg.item, Reg.next, Reg.skip, slotOf, effBox, effAlloc, entryRow, fieldOff, effField, loadI, load1, loadR, effLoad, storeI, storeB, storeR, szOk, storeTo, effStore, buildOf, effBuild, binInt, eqI, boolOf, binBool, effBin, effUn, effPick, effExtract, ivs, svs, rowOf, allParts, effBuildSlice, zeroRow, effMakeSlice, elemSz, idxA, idxS, effIndex, lenOf, readOf, subPre, maxRow, plainTI, appTo, effAppend, slcOf, effSlice, argOf, resA, resL, resV, outWr, nodupB, restOk, argsPre, argOk, callWr, effCall, effMax, wrHs, disj, AV.hs, A0.hs, Entry.hs, RC.elem, RC.sz, RC.len, RC.slice, RC.app, hA, initFr, initMem, initSt, resOf, resAll, compEq, compsEq, rowHs, outHds, outsEq, shapeOk, finOk, comps, A0.norm, AV.norm, specOf, t_int, t_bool, t_implForm, t_lawsForm, t_implMatrix, t_implPoint, t_implLattice, t_lawsLattice, t_implTriple, t_lawsTriple, t_implSpot, t_implCube, t_implunited, t_implentries, t_a8int, ts_int, ts_implForm, ts_implSpot, Option.getD_some, Option.getD_none, cond_true, cond_false, Nat.reduceBEq, List.map_cons, List.map_nil, List.set_cons_zero, List.set_cons_succ, List.getElem?_cons_zero, List.getElem?_cons_succ, List.drop_zero, List.drop_succ_cons, List.take_succ_cons, List.take_zero, Option.map_some, Option.map_none, Option.bind_some, Nat.zero_add, Nat.add_zero, Nat.reduceAdd, Nat.reduceMul, true_and, and_true, List.replicate_succ, List.replicate_zero, List.length_cons, List.length_nil, List.all_cons, List.all_nil, List.any_cons, List.any_nil, Bool.and_true, Bool.true_and, Bool.and_false, Bool.false_and, Bool.or_true, Bool.true_or, Bool.or_false, Bool.false_or, Bool.not_true, Bool.not_false, List.append_nil, List.nil_append, List.cons_append, List.flatMap_cons, List.flatMap_nil, List.contains_cons, List.contains_nil, List.filter_cons, List.filter_nil, beq_self_eq_true, Bool.not_eq_true, A0.b.injEq, A0.i.injEq, A0.s.injEq, A0.rw.injEq, A0.fn.injEq, List.cons.injEq, RC.ints.injEq, RC.recs.injEq, RC.bools.injEq, AV.one.injEq, AV.tup.injEq, ble_dec, blt_dec, Nat.reduceLeDiff, Nat.reduceSub, decide_true, decide_false, and_self, List.toList_toArray, Option.isSome_some, Option.isSome_none, List.elem_nil, List.elem_cons, ite_true, ite_false, Bool.false_eq_true, if_true, if_false, reduceIte, flatB_2, flatB_3, flatB_4, List.headD_cons, List.tail_cons, Try.f93]
  rfl
def rbA (a b c l m n : Int) : List Int := [rdP (laG a b c l m n).1 (laG a b c l m n).2.1 (laG a b c l m n).2.2, rdQ (laG a b c l m n).1 (laG a b c l m n).2.1 (laG a b c l m n).2.2, rdR (laG a b c l m n).1 (laG a b c l m n).2.1 (laG a b c l m n).2.2, rdS (laG a b c l m n).1 (laG a b c l m n).2.1 (laG a b c l m n).2.2]
def rbP (a b c l m n : Int) : Int := rdP (laG a b c l m n).1 (laG a b c l m n).2.1 (laG a b c l m n).2.2
def rbQ (a b c l m n : Int) : Int := rdQ (laG a b c l m n).1 (laG a b c l m n).2.1 (laG a b c l m n).2.2
def rbR (a b c l m n : Int) : Int := rdR (laG a b c l m n).1 (laG a b c l m n).2.1 (laG a b c l m n).2.2
def rbS (a b c l m n : Int) : Int := rdS (laG a b c l m n).1 (laG a b c l m n).2.1 (laG a b c l m n).2.2
abbrev fRedBasis : Nat := 42
def cRedBasis : Ctr
  | [.s [a, b, c], .s [l, m, n]] => some ⟨True, .tup [.s [onB (olB a b c l m n) (lpX l m (rbP a b c l m n) (rbR a b c l m n)), onB (olB a b c l m n) (wrap64 (rbR a b c l m n * n))], .s [onB (olB a b c l m n) (lpX l m (rbQ a b c l m n) (rbS a b c l m n)), onB (olB a b c l m n) (wrap64 (rbS a b c l m n * n))], .b (olB a b c l m n)], []⟩
  | _ => none
theorem okRedBasis : CtrOk Try.prog fRedBasis cRedBasis := by
  have hsp : SpecOk Try.prog (specOf [(fFormOnLat, cFormOnLat), (fReduceForm, cReduceForm), (fLatPoint, cLatPoint)]) := (SpecOk.cons okFormOnLat (SpecOk.cons okReduceForm (SpecOk.cons okLatPoint SpecOk.nil)))
  refine ctr_of (fn := Try.f42) mixed tab_ok hsp Try.func42 (by kernel_rfl) (by kernel_rfl) fun args ce h => ?_
  clear hsp
  unfold cRedBasis at h
  split at h
  case h_2 => cases h
  rename_i a b c l m n
  simp only [Option.some.injEq] at h
  subst h
  refine ⟨by rfl, fun hp => ⟨0, 1000, ?_⟩⟩
  simp only [vc, out, step, stepE, stepPick, stepG, stepO, stepC, eff, look, rem, St.put, St.setMem, setMems, St.after, St.eval, cst, setAt, val1, okNew, newHs, allHs, rdOf, outHs, Reg.item, Reg.next, Reg.skip, slotOf, effBox, effAlloc, entryRow, fieldOff, effField, loadI, load1, loadR, effLoad, storeI, storeB, storeR, szOk, storeTo, effStore, buildOf, effBuild, binInt, eqI, boolOf, binBool, effBin, effUn, effPick, effExtract, ivs, svs, rowOf, allParts, effBuildSlice, zeroRow, effMakeSlice, elemSz, idxA, idxS, effIndex, lenOf, readOf, subPre, maxRow, plainTI, appTo, effAppend, slcOf, effSlice, argOf, resA, resL, resV, outWr, nodupB, restOk, argsPre, argOk, callWr, effCall, effMax, wrHs, disj, AV.hs, A0.hs, Entry.hs, RC.elem, RC.sz, RC.len, RC.slice, RC.app, hA, initFr, initMem, initSt, resOf, resAll, compEq, compsEq, rowHs, outHds, outsEq, shapeOk, finOk, comps, A0.norm, AV.norm, specOf, t_int, t_bool, t_implForm, t_lawsForm, t_implMatrix, t_implPoint, t_implLattice, t_lawsLattice, t_implTriple, t_lawsTriple, t_implSpot, t_implCube, t_implunited, t_implentries, t_a8int, ts_int, ts_implForm, ts_implSpot, Option.getD_some, Option.getD_none, cond_true, cond_false, Nat.reduceBEq, List.map_cons, List.map_nil, List.set_cons_zero, List.set_cons_succ, List.getElem?_cons_zero, List.getElem?_cons_succ, List.drop_zero, List.drop_succ_cons, List.take_succ_cons, List.take_zero, Option.map_some, Option.map_none, Option.bind_some, Nat.zero_add, Nat.add_zero, Nat.reduceAdd, Nat.reduceMul, true_and, and_true, List.replicate_succ, List.replicate_zero, List.length_cons, List.length_nil, List.all_cons, List.all_nil, List.any_cons, List.any_nil, Bool.and_true, Bool.true_and, Bool.and_false, Bool.false_and, Bool.or_true, Bool.true_or, Bool.or_false, Bool.false_or, Bool.not_true, Bool.not_false, List.append_nil, List.nil_append, List.cons_append, List.flatMap_cons, List.flatMap_nil, List.contains_cons, List.contains_nil, List.filter_cons, List.filter_nil, beq_self_eq_true, Bool.not_eq_true, A0.b.injEq, A0.i.injEq, A0.s.injEq, A0.rw.injEq, A0.fn.injEq, List.cons.injEq, RC.ints.injEq, RC.recs.injEq, RC.bools.injEq, AV.one.injEq, AV.tup.injEq, ble_dec, blt_dec, Nat.reduceLeDiff, Nat.reduceSub, decide_true, decide_false, and_self, List.toList_toArray, Option.isSome_some, Option.isSome_none, List.elem_nil, List.elem_cons, ite_true, ite_false, Bool.false_eq_true, if_true, if_false, reduceIte, flatB_2, flatB_3, flatB_4, List.headD_cons, List.tail_cons, cFormOnLat, fFormOnLat, cReduceForm, fReduceForm, cLatPoint, fLatPoint, Try.f42]
  cases h : olB a b c l m n with
  | false => exact ⟨by kernel_rfl, ⟨rfl, rfl⟩, ⟨rfl, rfl⟩, rfl⟩
  | true =>
    have hd := lat_def h
    simp only [onB, cond_true]
    rw [hd]
    exact ⟨by kernel_rfl, rfl, ⟨rfl, rfl⟩, ⟨rfl, rfl⟩, trivial⟩
abbrev fSRedBasis : Nat := 40
def cSRedBasis : Ctr
  | [.s [a, b, c], .s [l, m, n]] => some ⟨True, .tup [.s [onB (olB a b c l m n) (lpX l m (rbP a b c l m n) (rbR a b c l m n)), onB (olB a b c l m n) (wrap64 (rbR a b c l m n * n))], .s [onB (olB a b c l m n) (lpX l m (rbQ a b c l m n) (rbS a b c l m n)), onB (olB a b c l m n) (wrap64 (rbS a b c l m n * n))], .b (olB a b c l m n)], []⟩
  | _ => none
theorem okSRedBasis : CtrOk Try.prog fSRedBasis cSRedBasis := by
  have hsp : SpecOk Try.prog (specOf [(fLaAsked, cLaAsked), (fLaForm, cLaForm), (fReReduce, cReReduce), (fLaPoint, cLaPoint)]) := (SpecOk.cons okLaAsked (SpecOk.cons okLaForm (SpecOk.cons okReReduce (SpecOk.cons okLaPoint SpecOk.nil))))
  refine ctr_of (fn := Try.f40) mixed tab_ok hsp Try.func40 (by kernel_rfl) (by kernel_rfl) fun args ce h => ?_
  clear hsp
  unfold cSRedBasis at h
  split at h
  case h_2 => cases h
  rename_i a b c l m n
  simp only [Option.some.injEq] at h
  subst h
  refine ⟨by rfl, fun hp => ⟨0, 1000, ?_⟩⟩
  simp only [vc, out, step, stepE, stepPick, stepG, stepO, stepC, eff, look, rem, St.put, St.setMem, setMems, St.after, St.eval, cst, setAt, val1, okNew, newHs, allHs, rdOf, outHs, Reg.item, Reg.next, Reg.skip, slotOf, effBox, effAlloc, entryRow, fieldOff, effField, loadI, load1, loadR, effLoad, storeI, storeB, storeR, szOk, storeTo, effStore, buildOf, effBuild, binInt, eqI, boolOf, binBool, effBin, effUn, effPick, effExtract, ivs, svs, rowOf, allParts, effBuildSlice, zeroRow, effMakeSlice, elemSz, idxA, idxS, effIndex, lenOf, readOf, subPre, maxRow, plainTI, appTo, effAppend, slcOf, effSlice, argOf, resA, resL, resV, outWr, nodupB, restOk, argsPre, argOk, callWr, effCall, effMax, wrHs, disj, AV.hs, A0.hs, Entry.hs, RC.elem, RC.sz, RC.len, RC.slice, RC.app, hA, initFr, initMem, initSt, resOf, resAll, compEq, compsEq, rowHs, outHds, outsEq, shapeOk, finOk, comps, A0.norm, AV.norm, specOf, t_int, t_bool, t_implForm, t_lawsForm, t_implMatrix, t_implPoint, t_implLattice, t_lawsLattice, t_implTriple, t_lawsTriple, t_implSpot, t_implCube, t_implunited, t_implentries, t_a8int, ts_int, ts_implForm, ts_implSpot, Option.getD_some, Option.getD_none, cond_true, cond_false, Nat.reduceBEq, List.map_cons, List.map_nil, List.set_cons_zero, List.set_cons_succ, List.getElem?_cons_zero, List.getElem?_cons_succ, List.drop_zero, List.drop_succ_cons, List.take_succ_cons, List.take_zero, Option.map_some, Option.map_none, Option.bind_some, Nat.zero_add, Nat.add_zero, Nat.reduceAdd, Nat.reduceMul, true_and, and_true, List.replicate_succ, List.replicate_zero, List.length_cons, List.length_nil, List.all_cons, List.all_nil, List.any_cons, List.any_nil, Bool.and_true, Bool.true_and, Bool.and_false, Bool.false_and, Bool.or_true, Bool.true_or, Bool.or_false, Bool.false_or, Bool.not_true, Bool.not_false, List.append_nil, List.nil_append, List.cons_append, List.flatMap_cons, List.flatMap_nil, List.contains_cons, List.contains_nil, List.filter_cons, List.filter_nil, beq_self_eq_true, Bool.not_eq_true, A0.b.injEq, A0.i.injEq, A0.s.injEq, A0.rw.injEq, A0.fn.injEq, List.cons.injEq, RC.ints.injEq, RC.recs.injEq, RC.bools.injEq, AV.one.injEq, AV.tup.injEq, ble_dec, blt_dec, Nat.reduceLeDiff, Nat.reduceSub, decide_true, decide_false, and_self, List.toList_toArray, Option.isSome_some, Option.isSome_none, List.elem_nil, List.elem_cons, ite_true, ite_false, Bool.false_eq_true, if_true, if_false, reduceIte, flatB_2, flatB_3, flatB_4, List.headD_cons, List.tail_cons, cLaAsked, fLaAsked, cLaForm, fLaForm, cReReduce, fReReduce, cLaPoint, fLaPoint, Try.f40]
  cases h : olB a b c l m n with
  | false => exact ⟨by kernel_rfl, ⟨rfl, rfl⟩, ⟨rfl, rfl⟩, rfl⟩
  | true =>
    have hd := def_domB (lat_def h)
    first | exact ⟨hd, by kernel_rfl, rfl, ⟨rfl, rfl⟩, ⟨rfl, rfl⟩, trivial⟩ | exact ⟨hd, by kernel_rfl, rfl, ⟨rfl, rfl⟩, rfl, rfl⟩ | exact ⟨hd, by kernel_rfl, rfl, ⟨rfl, rfl⟩, ⟨rfl, rfl⟩, rfl⟩
abbrev fLawRedBasis : Nat := 12
def cLawRedBasis : Ctr
  | [.s [a, b, c], .s [l, m, n]] => some ⟨True, .one (.b true), []⟩
  | _ => none
theorem okLawRedBasis : CtrOk Try.prog fLawRedBasis cLawRedBasis := by
  have hsp : SpecOk Try.prog (specOf [(fToForm, cToForm), (fToLattice, cToLattice), (fSRedBasis, cSRedBasis), (fRedBasis, cRedBasis), (fEqPoint, cEqPoint)]) := (SpecOk.cons okToForm (SpecOk.cons okToLattice (SpecOk.cons okSRedBasis (SpecOk.cons okRedBasis (SpecOk.cons okEqPoint SpecOk.nil)))))
  refine ctr_of (fn := Try.f12) mixed tab_ok hsp Try.func12 (by kernel_rfl) (by kernel_rfl) fun args ce h => ?_
  clear hsp
  unfold cLawRedBasis at h
  split at h
  case h_2 => cases h
  rename_i a b c l m n
  simp only [Option.some.injEq] at h
  subst h
  refine ⟨by rfl, fun hp => ⟨0, 1000, ?_⟩⟩
  simp only [vc, out, step, stepE, stepPick, stepG, stepO, stepC, eff, look, rem, St.put, St.setMem, setMems, St.after, St.eval, cst, setAt, val1, okNew, newHs, allHs, rdOf, outHs, Reg.item, Reg.next, Reg.skip, slotOf, effBox, effAlloc, entryRow, fieldOff, effField, loadI, load1, loadR, effLoad, storeI, storeB, storeR, szOk, storeTo, effStore, buildOf, effBuild, binInt, eqI, boolOf, binBool, effBin, effUn, effPick, effExtract, ivs, svs, rowOf, allParts, effBuildSlice, zeroRow, effMakeSlice, elemSz, idxA, idxS, effIndex, lenOf, readOf, subPre, maxRow, plainTI, appTo, effAppend, slcOf, effSlice, argOf, resA, resL, resV, outWr, nodupB, restOk, argsPre, argOk, callWr, effCall, effMax, wrHs, disj, AV.hs, A0.hs, Entry.hs, RC.elem, RC.sz, RC.len, RC.slice, RC.app, hA, initFr, initMem, initSt, resOf, resAll, compEq, compsEq, rowHs, outHds, outsEq, shapeOk, finOk, comps, A0.norm, AV.norm, specOf, t_int, t_bool, t_implForm, t_lawsForm, t_implMatrix, t_implPoint, t_implLattice, t_lawsLattice, t_implTriple, t_lawsTriple, t_implSpot, t_implCube, t_implunited, t_implentries, t_a8int, ts_int, ts_implForm, ts_implSpot, Option.getD_some, Option.getD_none, cond_true, cond_false, Nat.reduceBEq, List.map_cons, List.map_nil, List.set_cons_zero, List.set_cons_succ, List.getElem?_cons_zero, List.getElem?_cons_succ, List.drop_zero, List.drop_succ_cons, List.take_succ_cons, List.take_zero, Option.map_some, Option.map_none, Option.bind_some, Nat.zero_add, Nat.add_zero, Nat.reduceAdd, Nat.reduceMul, true_and, and_true, List.replicate_succ, List.replicate_zero, List.length_cons, List.length_nil, List.all_cons, List.all_nil, List.any_cons, List.any_nil, Bool.and_true, Bool.true_and, Bool.and_false, Bool.false_and, Bool.or_true, Bool.true_or, Bool.or_false, Bool.false_or, Bool.not_true, Bool.not_false, List.append_nil, List.nil_append, List.cons_append, List.flatMap_cons, List.flatMap_nil, List.contains_cons, List.contains_nil, List.filter_cons, List.filter_nil, beq_self_eq_true, Bool.not_eq_true, A0.b.injEq, A0.i.injEq, A0.s.injEq, A0.rw.injEq, A0.fn.injEq, List.cons.injEq, RC.ints.injEq, RC.recs.injEq, RC.bools.injEq, AV.one.injEq, AV.tup.injEq, ble_dec, blt_dec, Nat.reduceLeDiff, Nat.reduceSub, decide_true, decide_false, and_self, List.toList_toArray, Option.isSome_some, Option.isSome_none, List.elem_nil, List.elem_cons, ite_true, ite_false, Bool.false_eq_true, if_true, if_false, reduceIte, flatB_2, flatB_3, flatB_4, List.headD_cons, List.tail_cons, cToForm, fToForm, cToLattice, fToLattice, cSRedBasis, fSRedBasis, cRedBasis, fRedBasis, cEqPoint, fEqPoint, Try.f12]
  refine ⟨by kernel_rfl, by kernel_rfl, ?_⟩
  simp
end Go.Proofs.Ytikmbgaoflpndaa
