/-
  Matrices in the order of their entries: an ordered list is told by its members. Conditions: none.
-/
import Derived.Test.YtclpoenfcpefmaaLst4
import Derived.Test.YtclpoenfcpefmaaIte
namespace Go.Proofs.Ytclpoenfcpefmaa
open Go Go.RowKit
set_option maxRecDepth 100000
set_option linter.unusedSimpArgs false
set_option linter.unusedVariables false
set_option maxHeartbeats 4000000

def ltM (m n : M4) : Bool := if (m.1 != n.1) = true then decide (m.1 < n.1) else if (m.2.1 != n.2.1) = true then decide (m.2.1 < n.2.1) else if (m.2.2.1 != n.2.2.1) = true then decide (m.2.2.1 < n.2.2.1) else decide (m.2.2.2 < n.2.2.2)
def Lt4 (m n : M4) : Prop := m.1 < n.1 ∨ m.1 = n.1 ∧ (m.2.1 < n.2.1 ∨ m.2.1 = n.2.1 ∧ (m.2.2.1 < n.2.2.1 ∨ m.2.2.1 = n.2.2.1 ∧ m.2.2.2 < n.2.2.2))
theorem ltM_iff {m n : M4} : ltM m n = true ↔ Lt4 m n := by
  unfold ltM Lt4
  split
  · rename_i h; simp at h; simp; omega
  · rename_i h
    simp at h
    split
    · rename_i h2; simp at h2; simp; omega
    · rename_i h2
      simp at h2
      split
      · rename_i h3; simp at h3; simp; omega
      · rename_i h3; simp at h3; simp; omega
theorem Lt4.trans {a b c : M4} (h1 : Lt4 a b) (h2 : ¬ Lt4 c b) : Lt4 a c := by
  unfold Lt4 at *
  omega
theorem Lt4.asymm {a b : M4} (h1 : Lt4 a b) : ¬ Lt4 b a := by
  unfold Lt4 at *
  omega
theorem Lt4.le_trans {a b c : M4} (h1 : ¬ Lt4 b a) (h2 : ¬ Lt4 c b) : ¬ Lt4 c a := by
  unfold Lt4 at *
  omega
theorem Lt4.anti {a b : M4} (h1 : ¬ Lt4 b a) (h2 : ¬ Lt4 a b) : a = b := by
  obtain ⟨a1, a2, a3, a4⟩ := a
  obtain ⟨b1, b2, b3, b4⟩ := b
  unfold Lt4 at *
  simp only at *
  have e1 : a1 = b1 := by omega
  have e2 : a2 = b2 := by omega
  have e3 : a3 = b3 := by omega
  have e4 : a4 = b4 := by omega
  rw [e1, e2, e3, e4]
def posM (m : M4) (l : List M4) : Nat → Nat
  | 0 => 0
  | k + 1 => if ltM m (l.getD k (0, 0, 0, 0)) = true then posM m l k else k + 1
def insM (m : M4) (l : List M4) : List M4 := l.take (posM m l l.length) ++ m :: l.drop (posM m l l.length)
def srtM (L : List M4) : List M4 := L.foldl (fun l m => insM m l) []
def Sorted (l : List M4) : Prop := l.Pairwise fun a b => ¬ Lt4 b a
theorem posM_spec (m : M4) (l : List M4) : ∀ n, n ≤ l.length → posM m l n ≤ n ∧ (∀ j (h : j < l.length), posM m l n ≤ j → j < n → Lt4 m l[j]) ∧ ∀ (h : 0 < posM m l n), ¬ Lt4 m (l.getD (posM m l n - 1) (0, 0, 0, 0))
  | 0, _ => ⟨Nat.le_refl _, fun j _ _ h => by omega, fun h => by simp [posM] at h⟩
  | n + 1, hn => by
    obtain ⟨h1, h2, h3⟩ := posM_spec m l n (by omega)
    have hg : l.getD n (0, 0, 0, 0) = l[n] := by simp [show n < l.length from hn]
    unfold posM
    split
    · rename_i h
      refine ⟨by omega, fun j hj hp hjn => ?_, h3⟩
      by_cases hjn' : j = n
      · subst hjn'
        rw [hg] at h
        exact ltM_iff.1 h
      · exact h2 j hj hp (by omega)
    · rename_i h
      refine ⟨Nat.le_refl _, fun j _ hp hjn => by omega, fun _ => ?_⟩
      rw [Nat.add_sub_cancel]
      exact fun hl => h (ltM_iff.2 hl)
theorem sorted_at {l : List M4} (h : Sorted l) {i j : Nat} (hij : i < j) (hj : j < l.length) : ¬ Lt4 l[j] l[i] := List.pairwise_iff_getElem.1 h i j (by omega) hj hij
theorem insM_sorted {m : M4} {l : List M4} (h : Sorted l) : Sorted (insM m l) := by
  obtain ⟨h1, h2, h3⟩ := posM_spec m l l.length (Nat.le_refl _)
  unfold insM
  generalize posM m l l.length = p at *
  have hT : ∀ x ∈ l.take p, ¬ Lt4 m x := by
    intro x hx
    obtain ⟨i, hi, rfl⟩ := List.getElem_of_mem hx
    rw [List.length_take] at hi
    rw [List.getElem_take]
    have hp := h3 (by omega)
    have hg : l.getD (p - 1) (0, 0, 0, 0) = l[p - 1]'(by omega) := by simp [show p - 1 < l.length by omega]
    rw [hg] at hp
    rcases Nat.lt_or_ge i (p - 1) with hlt | hge
    · exact fun hm => hp (hm.trans (sorted_at h hlt (by omega)))
    · have e : i = p - 1 := by omega
      subst e
      exact hp
  have hD : ∀ x ∈ l.drop p, Lt4 m x := by
    intro x hx
    obtain ⟨i, hi, rfl⟩ := List.getElem_of_mem hx
    rw [List.length_drop] at hi
    rw [List.getElem_drop]
    exact h2 (p + i) (by omega) (by omega) (by omega)
  refine List.pairwise_append.2 ⟨h.sublist (List.take_sublist _ _), List.pairwise_cons.2 ⟨fun x hx => (hD x hx).asymm, h.sublist (List.drop_sublist _ _)⟩, fun x hx y hy => ?_⟩
  rcases List.mem_cons.1 hy with rfl | hy
  · exact hT x hx
  · exact Lt4.le_trans (hT x hx) (hD y hy).asymm
theorem insM_perm (m : M4) (l : List M4) : (insM m l).Perm (m :: l) := by
  unfold insM
  exact List.perm_middle.trans (by rw [List.take_append_drop])
theorem srt_acc : ∀ (L acc : List M4), Sorted acc → Sorted (L.foldl (fun l m => insM m l) acc) ∧ (L.foldl (fun l m => insM m l) acc).Perm (L ++ acc)
  | [], acc, h => ⟨h, List.Perm.refl _⟩
  | m :: L, acc, h => by
    obtain ⟨h1, h2⟩ := srt_acc L (insM m acc) (insM_sorted h)
    refine ⟨h1, h2.trans ?_⟩
    refine (List.Perm.append_left L (insM_perm m acc)).trans ?_
    exact List.perm_middle
theorem srtM_perm {X Y : List M4} (h : X.Perm Y) : srtM X = srtM Y := by
  obtain ⟨h1, h2⟩ := srt_acc X [] List.Pairwise.nil
  obtain ⟨h3, h4⟩ := srt_acc Y [] List.Pairwise.nil
  rw [List.append_nil] at h2 h4
  exact List.Perm.eq_of_pairwise (le := fun a b => ¬ Lt4 b a) (fun a b _ _ hab hba => Lt4.anti hab hba) h1 h3 (h2.trans (h.trans h4.symm))
theorem srtM_snoc (L : List M4) (m : M4) : srtM (L ++ [m]) = insM m (srtM L) := by unfold srtM; rw [List.foldl_append]; rfl
theorem srtM_len (L : List M4) : (srtM L).length = L.length := by
  have := (srt_acc L [] List.Pairwise.nil).2.length_eq
  rw [List.append_nil] at this
  exact this
abbrev fLessMat : Nat := 38
def cLessMat : Ctr
  | [.s [a, b, c, d], .s [x, y, z, w]] => some ⟨True, .one (.b (ltM (a, b, c, d) (x, y, z, w))), []⟩
  | _ => none
theorem okLessMat : CtrOk Try.prog fLessMat cLessMat := by
  have hsp : SpecOk Try.prog (specOf []) := SpecOk.nil
  refine ctr_of (fn := Try.f38) mixed tab_ok hsp Try.func38 (by kernel_rfl) (by kernel_rfl) fun args ce h => ?_
  clear hsp
  unfold cLessMat at h
  split at h
  case h_2 => cases h
  rename_i a b c d x y z w
  simp only [Option.some.injEq] at h
  subst h
  refine ⟨by rfl, fun hp => ⟨0, 1000, ?_⟩⟩
  simp only [↓cond_to_ite, ↓reduceIte, vc, out, effCopy, finD, St.drop, vwAt, Entry.vwO, RC.vwO, dropAt, A0.dr, AV.dr, noneNames, viewS, viewV, viewTo, A0.vwT, AV.vwT, viewOk, viewEn, appView, hdSlc, A0.mv1, AV.mv1, Entry.toO, toOf, A0.mv, AV.mv, mvTo, St.res, nxtH, makeRows, effMakeSl, storeRow, step, stepE, stepPick, stepG, stepO, stepC, eff, look, rem, St.put, St.setMem, setMems, St.after, St.eval, cst, setAt, val1, okNew, newHs, allHs, rdOf, outHs, Reg.item, Reg.next, Reg.skip, slotOf, effBox, effAlloc, entryRow, fieldOff, effField, loadI, load1, loadR, effLoad, storeI, storeB, storeR, szOk, storeTo, effStore, buildOf, effBuild, binInt, eqI, boolOf, binBool, effBin, effUn, effPick, effExtract, ivs, svs, rowOf, allParts, effBuildSlice, zeroRow, effMakeSlice, elemSz, idxA, idxS, effIndex, lenOf, readOf, subPre, maxRow, plainTI, appTo, effAppend, slcOf, effSlice, argOf, resA, resL, resV, outWr, nodupB, restOk, argsPre, argOk, callWr, effCall, effMax, RC.flat, effBox2, boxPair, compOf, innerOf, innerPre, fieldTwo, loadO, loadN, storeN, buildTwo, effBuild2, buildRows, effBuildSl, appRows, effApp2, plainA, callIn, outsEmpty, callGo, MC.get, MC.has, MC.put, mcTI, keyTI, emptyMC, effMakeMap, mapIn, hOf1, lookV, effLookup, mapBack, effUpdate, effNil, effMin, effIndexV, cutSlc, arrElem, cutOf, wrHs, disj, AV.hs, A0.hs, Entry.hs, RC.elem, RC.sz, RC.len, RC.slice, RC.app, hA, initFr, initMem, initSt, resOf, resAll, compEq, compsEq, rowHs, outHds, outsEq, shapeOk, finOk, comps, A0.norm, AV.norm, specOf, t_int, t_bool, t_implForm, t_lawsForm, t_implMatrix, t_implPoint, ts_int, ts_implForm, ts_implPoint, ts_implMatrix, tm_implForm, tm_implPoint, Option.getD_some, Option.getD_none, cond_true, cond_false, Nat.reduceBEq, List.map_cons, List.map_nil, List.set_cons_zero, List.set_cons_succ, List.getElem?_cons_zero, List.getElem?_cons_succ, List.drop_zero, List.drop_succ_cons, List.take_succ_cons, List.take_zero, Option.map_some, Option.map_none, Option.bind_some, Nat.zero_add, Nat.add_zero, Nat.reduceAdd, Nat.reduceMul, true_and, and_true, List.replicate_succ, List.replicate_zero, List.length_cons, List.length_nil, List.all_cons, List.all_nil, List.any_cons, List.any_nil, Bool.and_true, Bool.true_and, Bool.and_false, Bool.false_and, Bool.or_true, Bool.true_or, Bool.or_false, Bool.false_or, Bool.not_true, Bool.not_false, List.append_nil, List.nil_append, List.cons_append, List.flatMap_cons, List.flatMap_nil, List.contains_cons, List.contains_nil, List.filter_cons, List.filter_nil, beq_self_eq_true, Bool.not_eq_true, A0.b.injEq, A0.i.injEq, A0.s.injEq, A0.rw.injEq, A0.fn.injEq, List.cons.injEq, RC.ints.injEq, RC.recs.injEq, RC.bools.injEq, RC.mp.injEq, RC.grp.injEq, RC.rows.injEq, MC.ints.injEq, MC.bools.injEq, AV.one.injEq, AV.tup.injEq, ble_dec, blt_dec, Nat.reduceLeDiff, Nat.reduceSub, decide_true, decide_false, and_self, List.toList_toArray, Option.isSome_some, Option.isSome_none, List.elem_nil, List.elem_cons, ite_true, ite_false, Bool.false_eq_true, if_true, if_false, reduceIte, flatB_2, flatB_3, flatB_4, List.headD_cons, List.tail_cons, Try.f38]
  unfold ltM
  dsimp only
  cases (a != x) <;> cases (b != y) <;> cases (c != z) <;> rfl
abbrev fReLess : Nat := 59
def cReLess : Ctr
  | [.s [a, b, c, d], .s [x, y, z, w]] => some ⟨True, .one (.b (ltM (a, b, c, d) (x, y, z, w))), []⟩
  | _ => none
theorem okReLess : CtrOk Try.prog fReLess cReLess := by
  have hsp : SpecOk Try.prog (specOf []) := SpecOk.nil
  refine ctr_of (fn := Try.f59) mixed tab_ok hsp Try.func59 (by kernel_rfl) (by kernel_rfl) fun args ce h => ?_
  clear hsp
  unfold cReLess at h
  split at h
  case h_2 => cases h
  rename_i a b c d x y z w
  simp only [Option.some.injEq] at h
  subst h
  refine ⟨by rfl, fun hp => ⟨0, 1000, ?_⟩⟩
  simp only [↓cond_to_ite, ↓reduceIte, vc, out, effCopy, finD, St.drop, vwAt, Entry.vwO, RC.vwO, dropAt, A0.dr, AV.dr, noneNames, viewS, viewV, viewTo, A0.vwT, AV.vwT, viewOk, viewEn, appView, hdSlc, A0.mv1, AV.mv1, Entry.toO, toOf, A0.mv, AV.mv, mvTo, St.res, nxtH, makeRows, effMakeSl, storeRow, step, stepE, stepPick, stepG, stepO, stepC, eff, look, rem, St.put, St.setMem, setMems, St.after, St.eval, cst, setAt, val1, okNew, newHs, allHs, rdOf, outHs, Reg.item, Reg.next, Reg.skip, slotOf, effBox, effAlloc, entryRow, fieldOff, effField, loadI, load1, loadR, effLoad, storeI, storeB, storeR, szOk, storeTo, effStore, buildOf, effBuild, binInt, eqI, boolOf, binBool, effBin, effUn, effPick, effExtract, ivs, svs, rowOf, allParts, effBuildSlice, zeroRow, effMakeSlice, elemSz, idxA, idxS, effIndex, lenOf, readOf, subPre, maxRow, plainTI, appTo, effAppend, slcOf, effSlice, argOf, resA, resL, resV, outWr, nodupB, restOk, argsPre, argOk, callWr, effCall, effMax, RC.flat, effBox2, boxPair, compOf, innerOf, innerPre, fieldTwo, loadO, loadN, storeN, buildTwo, effBuild2, buildRows, effBuildSl, appRows, effApp2, plainA, callIn, outsEmpty, callGo, MC.get, MC.has, MC.put, mcTI, keyTI, emptyMC, effMakeMap, mapIn, hOf1, lookV, effLookup, mapBack, effUpdate, effNil, effMin, effIndexV, cutSlc, arrElem, cutOf, wrHs, disj, AV.hs, A0.hs, Entry.hs, RC.elem, RC.sz, RC.len, RC.slice, RC.app, hA, initFr, initMem, initSt, resOf, resAll, compEq, compsEq, rowHs, outHds, outsEq, shapeOk, finOk, comps, A0.norm, AV.norm, specOf, t_int, t_bool, t_implForm, t_lawsForm, t_implMatrix, t_implPoint, ts_int, ts_implForm, ts_implPoint, ts_implMatrix, tm_implForm, tm_implPoint, Option.getD_some, Option.getD_none, cond_true, cond_false, Nat.reduceBEq, List.map_cons, List.map_nil, List.set_cons_zero, List.set_cons_succ, List.getElem?_cons_zero, List.getElem?_cons_succ, List.drop_zero, List.drop_succ_cons, List.take_succ_cons, List.take_zero, Option.map_some, Option.map_none, Option.bind_some, Nat.zero_add, Nat.add_zero, Nat.reduceAdd, Nat.reduceMul, true_and, and_true, List.replicate_succ, List.replicate_zero, List.length_cons, List.length_nil, List.all_cons, List.all_nil, List.any_cons, List.any_nil, Bool.and_true, Bool.true_and, Bool.and_false, Bool.false_and, Bool.or_true, Bool.true_or, Bool.or_false, Bool.false_or, Bool.not_true, Bool.not_false, List.append_nil, List.nil_append, List.cons_append, List.flatMap_cons, List.flatMap_nil, List.contains_cons, List.contains_nil, List.filter_cons, List.filter_nil, beq_self_eq_true, Bool.not_eq_true, A0.b.injEq, A0.i.injEq, A0.s.injEq, A0.rw.injEq, A0.fn.injEq, List.cons.injEq, RC.ints.injEq, RC.recs.injEq, RC.bools.injEq, RC.mp.injEq, RC.grp.injEq, RC.rows.injEq, MC.ints.injEq, MC.bools.injEq, AV.one.injEq, AV.tup.injEq, ble_dec, blt_dec, Nat.reduceLeDiff, Nat.reduceSub, decide_true, decide_false, and_self, List.toList_toArray, Option.isSome_some, Option.isSome_none, List.elem_nil, List.elem_cons, ite_true, ite_false, Bool.false_eq_true, if_true, if_false, reduceIte, flatB_2, flatB_3, flatB_4, List.headD_cons, List.tail_cons, Try.f59]
  unfold ltM
  dsimp only
  cases (a != x) <;> cases (b != y) <;> cases (c != z) <;> rfl
end Go.Proofs.Ytclpoenfcpefmaa
