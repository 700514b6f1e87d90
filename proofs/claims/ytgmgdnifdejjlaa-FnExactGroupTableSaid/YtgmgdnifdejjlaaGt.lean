/-
  Contracts of the orders of all classes and of the table of a class group on both sides, and of the law ClassOrders. Conditions: none.
-/
import Derived.Test.YtgmgdnifdejjlaaGr
import Derived.Test.YtgmgdnifdejjlaaLsti
namespace Go.Proofs.Ytgmgdnifdejjlaa
open Go Go.RowKit
set_option maxRecDepth 100000
set_option linter.unusedSimpArgs false
set_option linter.unusedVariables false
set_option maxHeartbeats 4000000

/-! ### the group -/
def GrAt (l : List (List Int)) (m : List (List Int × Int)) : Prop := ∃ d, negB d = true ∧ l = fl (redF d) ∧ m = ixM (redF d)
theorem nth_mem {d : Int} (h : negB d = true) {i : Nat} (hi : i < (fl (redF d)).length) : RP d (nth3 (fl (redF d)) i) := by
  have := unfl_mem (fl (redF d)) hi
  rw [unfl_fl] at this
  exact (mem_redF_rp (negB_in h)).1 this
theorem nth_idx {L : List F3} {x : F3} (h : x ∈ L) : nth3 (fl L) (L.idxOf x) = x := by
  have hl : L.idxOf x < L.length := List.idxOf_lt_length_of_mem h
  have h1 := unfl_at (l := fl L) (n := L.idxOf x) (by rw [fl_length]; exact hl)
  rw [unfl_fl, List.getElem?_eq_getElem hl] at h1
  rw [← Option.some.inj h1]
  exact List.getElem_idxOf hl
theorem rp_dsc {d : Int} {x : F3} (h : RP d x) : dsc x = d := h.red.d
theorem rp_pair {d : Int} {x y : F3} (hx : RP d x) (hy : RP d y) : CuPre x.1 x.2.1 x.2.2 y.1 y.2.1 y.2.2 ∧ coxA x.1 x.2.1 x.2.2 y.1 y.2.1 y.2.2 = (cmp x y).1 ∧ coxB x.1 x.2.1 x.2.2 y.1 y.2.1 y.2.2 = (cmp x y).2.1 ∧ coxC x.1 x.2.1 x.2.2 y.1 y.2.1 y.2.2 = (cmp x y).2.2 := un_cu ⟨_, hx, hy⟩
def tmI (l : List (List Int)) (i k : Int) : Int := (((unfl l).idxOf (cmp (nth3 l i.toNat) (nth3 l k.toNat)) : Nat) : Int)
theorem idx_zero {d : Int} (h : negB d = true) {x : F3} (hx : RP d x) : (redF d).idxOf x = 0 ↔ x = prI d := by
  obtain ⟨T, hT⟩ := redF_head h
  rw [hT, List.idxOf_cons]
  by_cases he : x = prI d
  · subst he; simp
  · have hb : (prI d == x) = false := by simpa using fun e : prI d = x => he e.symm
    rw [hb]
    simp [he]
abbrev fGTimes : Nat := 19
def cGTimes : Ctr
  | [.rw (.grp e 3 l 3 (.ints m)), .i i, .i k] => some ⟨GrAt l m ∧ (0 ≤ i ∧ i < l.length) ∧ 0 ≤ k ∧ k < l.length, .one (.i (tmI l i k)), []⟩
  | _ => none
theorem okGTimes : CtrOk Try.prog fGTimes cGTimes := by
  have hsp : SpecOk Try.prog (specOf [(fCompose, cCompose)]) := (SpecOk.cons okCompose SpecOk.nil)
  refine ctr_of (fn := Try.f19) mixed tab_ok hsp Try.func19 (by kernel_rfl) (by kernel_rfl) fun args ce h => ?_
  clear hsp
  unfold cGTimes at h
  split at h
  case h_2 => cases h
  rename_i e l m i k
  simp only [Option.some.injEq] at h
  subst h
  refine ⟨by rfl, fun hp => ⟨0, 1000, ?_⟩⟩
  simp only [↓cond_to_ite, ↓reduceIte, vc, out, Entry.toO, toOf, A0.mv, AV.mv, mvTo, St.res, nxtH, makeRows, effMakeSl, storeRow, step, stepE, stepPick, stepG, stepO, stepC, eff, look, rem, St.put, St.setMem, setMems, St.after, St.eval, cst, setAt, val1, okNew, newHs, allHs, rdOf, outHs, Reg.item, Reg.next, Reg.skip, slotOf, effBox, effAlloc, entryRow, fieldOff, effField, loadI, load1, loadR, effLoad, storeI, storeB, storeR, szOk, storeTo, effStore, buildOf, effBuild, binInt, eqI, boolOf, binBool, effBin, effUn, effPick, effExtract, ivs, svs, rowOf, allParts, effBuildSlice, zeroRow, effMakeSlice, elemSz, idxA, idxS, effIndex, lenOf, readOf, subPre, maxRow, plainTI, appTo, effAppend, slcOf, effSlice, argOf, resA, resL, resV, outWr, nodupB, restOk, argsPre, argOk, callWr, effCall, effMax, RC.flat, effBox2, boxPair, compOf, innerOf, innerPre, fieldTwo, loadO, loadN, storeN, buildTwo, effBuild2, buildRows, effBuildSl, appRows, effApp2, plainA, callIn, outsEmpty, callGo, MC.get, MC.has, MC.put, mcTI, keyTI, emptyMC, effMakeMap, mapIn, hOf1, lookV, effLookup, mapBack, effUpdate, effNil, effMin, effIndexV, cutSlc, arrElem, cutOf, wrHs, disj, AV.hs, A0.hs, Entry.hs, RC.elem, RC.sz, RC.len, RC.slice, RC.app, hA, initFr, initMem, initSt, resOf, resAll, compEq, compsEq, rowHs, outHds, outsEq, shapeOk, finOk, comps, A0.norm, AV.norm, specOf, t_int, t_bool, t_implForm, t_implMatrix, t_implunited, ts_int, ts_implForm, ts_implMatrix, tss_int, tm_implForm, t_implclassGroup, Option.getD_some, Option.getD_none, cond_true, cond_false, Nat.reduceBEq, List.map_cons, List.map_nil, List.set_cons_zero, List.set_cons_succ, List.getElem?_cons_zero, List.getElem?_cons_succ, List.drop_zero, List.drop_succ_cons, List.take_succ_cons, List.take_zero, Option.map_some, Option.map_none, Option.bind_some, Nat.zero_add, Nat.add_zero, Nat.reduceAdd, Nat.reduceMul, true_and, and_true, List.replicate_succ, List.replicate_zero, List.length_cons, List.length_nil, List.all_cons, List.all_nil, List.any_cons, List.any_nil, Bool.and_true, Bool.true_and, Bool.and_false, Bool.false_and, Bool.or_true, Bool.true_or, Bool.or_false, Bool.false_or, Bool.not_true, Bool.not_false, List.append_nil, List.nil_append, List.cons_append, List.flatMap_cons, List.flatMap_nil, List.contains_cons, List.contains_nil, List.filter_cons, List.filter_nil, beq_self_eq_true, Bool.not_eq_true, A0.b.injEq, A0.i.injEq, A0.s.injEq, A0.rw.injEq, A0.fn.injEq, List.cons.injEq, RC.ints.injEq, RC.recs.injEq, RC.bools.injEq, RC.mp.injEq, RC.grp.injEq, RC.rows.injEq, MC.ints.injEq, MC.bools.injEq, AV.one.injEq, AV.tup.injEq, ble_dec, blt_dec, Nat.reduceLeDiff, Nat.reduceSub, decide_true, decide_false, and_self, List.toList_toArray, Option.isSome_some, Option.isSome_none, List.elem_nil, List.elem_cons, ite_true, ite_false, Bool.false_eq_true, if_true, if_false, reduceIte, flatB_2, flatB_3, flatB_4, List.headD_cons, List.tail_cons, cCompose, fCompose, rng3, Try.f19]
  obtain ⟨⟨d, hd, rfl, rfl⟩, hi, hk⟩ : GrAt l m ∧ (0 ≤ i ∧ i < l.length) ∧ 0 ≤ k ∧ k < l.length := hp
  have r1 := nth_mem hd (i := i.toNat) (by omega)
  have r2 := nth_mem hd (i := k.toNat) (by omega)
  obtain ⟨hcu, c1, c2, c3⟩ := rp_pair r1 r2
  simp only [rng3, c1, c2, c3]
  have hm := getL_ix (L := redF d) (a := (cmp (nth3 (fl (redF d)) i.toNat) (nth3 (fl (redF d)) k.toNat)).1) (b := (cmp (nth3 (fl (redF d)) i.toNat) (nth3 (fl (redF d)) k.toNat)).2.1) (c := (cmp (nth3 (fl (redF d)) i.toNat) (nth3 (fl (redF d)) k.toNat)).2.2) (rp_mem (cmp_rp r1 r2))
  have ht : tmI (fl (redF d)) i k = (((redF d).idxOf (cmp (nth3 (fl (redF d)) i.toNat) (nth3 (fl (redF d)) k.toNat)) : Nat) : Int) := by unfold tmI; rw [unfl_fl]
  rw [hm, ht]
  exact ⟨hi, by omega, hk, by omega, hcu, by kernel_rfl, rfl⟩
def ixO (L : List F3) (x : F3) (n : Nat) : Int := ((L.idxOf (orb x n) : Nat) : Int)
noncomputable def psL (L : List F3) (x : F3) : List Int := (0 : Int) :: (List.range (ordN (dsc x) x)).map (ixO L x)
theorem idx_nth {L : List F3} (hn : L.Nodup) {k : Nat} (hk : k < (fl L).length) : L.idxOf (nth3 (fl L) k) = k := by
  have := idx_at hk rfl (by rw [unfl_fl]; exact nd_not hn hk)
  rwa [unfl_fl] at this
theorem tm_orb {d : Int} (h : negB d = true) {i : Int} (hi : 0 ≤ i ∧ i < (fl (redF d)).length) (n : Nat) : tmI (fl (redF d)) (ixO (redF d) (nth3 (fl (redF d)) i.toNat) n) i = ixO (redF d) (nth3 (fl (redF d)) i.toNat) (n + 1) := by
  have r1 := nth_mem h (i := i.toNat) (by omega)
  have ho := orb_rp r1 n
  unfold tmI ixO
  rw [Int.toNat_natCast, nth_idx (rp_mem ho), unfl_fl]
  rfl
theorem ixO_rng {d : Int} (h : negB d = true) {x : F3} (hx : RP d x) (n : Nat) : 0 ≤ ixO (redF d) x n ∧ ixO (redF d) x n < (fl (redF d)).length := by
  have := List.idxOf_lt_length_of_mem (rp_mem (orb_rp hx n))
  unfold ixO
  rw [fl_length]
  omega
theorem ixO_zero {d : Int} (h : negB d = true) {x : F3} (hx : RP d x) (n : Nat) : ixO (redF d) x n = 0 ↔ orb x n = prI d := by
  rw [← idx_zero h (orb_rp hx n)]
  unfold ixO
  omega
theorem neg_mod {d : Int} (h : negB d = true) : d % 4 = 0 ∨ d % 4 = 1 := by
  have hd := negB_in h
  simp only [negB, Bool.and_eq_true, decide_eq_true_eq] at h
  have := modI_eq (x := d) (m := 4) (by omega) (by omega)
  omega
theorem ord_gr {d : Int} (h : negB d = true) {x : F3} (hx : RP d x) : OrdAt d x (ordN (dsc x) x) ∧ ordN (dsc x) x < 1300 := by
  obtain ⟨n, hn, ho⟩ := ord_ex hx (neg_mod h)
  rw [rp_dsc hx, ordN_eq ho]
  exact ⟨ho, Nat.lt_of_lt_of_le hn (redF_len hx.lo)⟩
-- (not in this seat: GPowers)
noncomputable def oL (L : List F3) : List Int := L.map fun x => ((ordN (dsc x) x : Nat) : Int) + 1
theorem psL_len (L : List F3) (x : F3) : (psL L x).length = ordN (dsc x) x + 1 := by unfold psL; simp
theorem oL_take {l : List (List Int)} {k : Nat} (hk : k < l.length) : oL ((unfl l).take (k + 1)) = oL ((unfl l).take k) ++ [((ordN (dsc (nth3 l k)) (nth3 l k) : Nat) : Int) + 1] := by
  unfold oL
  rw [unfl_take l hk, List.map_append]
  rfl
theorem oL_len (L : List F3) : (oL L).length = L.length := by unfold oL; simp
-- (not in this seat: GOrders)
/-! ### partly filled rows -/
def pf {α : Type} (L : List α) (z : α) (k : Nat) : List α := L.take k ++ List.replicate (L.length - k) z
theorem pf_zero {α : Type} (L : List α) (z : α) : pf L z 0 = List.replicate L.length z := by simp [pf]
theorem pf_full {α : Type} (L : List α) (z : α) : pf L z L.length = L := by simp [pf]
theorem pf_length {α : Type} (L : List α) (z : α) {k : Nat} (hk : k ≤ L.length) : (pf L z k).length = L.length := by
  unfold pf
  rw [List.length_append, List.length_take, List.length_replicate]; omega
theorem pf_set {α : Type} (L : List α) (z : α) {k : Nat} (hk : k < L.length) : (pf L z k).set k L[k] = pf L z (k + 1) := by
  unfold pf
  have e : L.length - k = (L.length - (k + 1)) + 1 := by omega
  have hl : (L.take k).length = k := by rw [List.length_take]; omega
  rw [e, List.replicate_succ, List.set_append_right _ _ (by omega), hl, Nat.sub_self, List.set_cons_zero, List.take_succ_eq_append_getElem hk, List.append_assoc]
  rfl
theorem pf_set' {α : Type} (L : List α) (z v : α) {k : Nat} (hk : k < L.length) (hv : L.getD k z = v) : (pf L z k).set k v = pf L z (k + 1) := by
  rw [← pf_set L z hk, ← hv]
  simp [hk]
def trow (L : List F3) (f : F3) : List Int := L.map fun g => ((L.idxOf (cmp f g) : Nat) : Int)
def tbL (L : List F3) : List (List Int) := L.map (trow L)
theorem trow_len (L : List F3) (f : F3) : (trow L f).length = L.length := by unfold trow; simp
theorem tbL_len (L : List F3) : (tbL L).length = L.length := by unfold tbL; simp
theorem tbL_at {L : List F3} {k : Nat} (hk : k < (fl L).length) : (tbL L).getD k [] = trow L (nth3 (fl L) k) := by
  have h1 := unfl_at hk
  rw [unfl_fl] at h1
  unfold tbL
  simp [List.getD_eq_getElem?_getD, List.getElem?_map, h1]
theorem trow_at {L : List F3} {f : F3} {k : Nat} (hk : k < (fl L).length) : (trow L f).getD k 0 = ((L.idxOf (cmp f (nth3 (fl L) k)) : Nat) : Int) := by
  have h1 := unfl_at hk
  rw [unfl_fl] at h1
  unfold trow
  simp [List.getD_eq_getElem?_getD, List.getElem?_map, h1]
theorem set_getD {α : Type} (l : List α) (k : Nat) (v z : α) (h : k < l.length) : (l.set k v).getD k z = v := by simp [h]
abbrev fGrTable : Nat := 16
def cGrTable : Ctr
  | [.i d] => some ⟨negB d = true, .one (.rw (.rows 39 3 (tbL (redF d)))), []⟩
  | _ => none
theorem okGrTable : CtrOk Try.prog fGrTable cGrTable := by
  have hsp : SpecOk Try.prog (specOf [(fReList, cReList), (fCoMul, cCoMul), (fGrIndex, cGrIndex)]) := (SpecOk.cons okReList (SpecOk.cons okCoMul (SpecOk.cons okGrIndex SpecOk.nil)))
  refine ctr_of (fn := Try.f16) mixed tab_ok hsp Try.func16 (by kernel_rfl) (by kernel_rfl) fun args ce h => ?_
  clear hsp
  unfold cGrTable at h
  split at h
  case h_2 => cases h
  rename_i d
  simp only [Option.some.injEq] at h
  subst h
  refine ⟨by rfl, fun hp => ⟨2, 1000, ?_⟩⟩
  simp only [↓cond_to_ite, ↓reduceIte, vc, out, Entry.toO, toOf, A0.mv, AV.mv, mvTo, St.res, nxtH, makeRows, effMakeSl, storeRow, step, stepE, stepPick, stepG, stepO, stepC, eff, look, rem, St.put, St.setMem, setMems, St.after, St.eval, cst, setAt, val1, okNew, newHs, allHs, rdOf, outHs, Reg.item, Reg.next, Reg.skip, slotOf, effBox, effAlloc, entryRow, fieldOff, effField, loadI, load1, loadR, effLoad, storeI, storeB, storeR, szOk, storeTo, effStore, buildOf, effBuild, binInt, eqI, boolOf, binBool, effBin, effUn, effPick, effExtract, ivs, svs, rowOf, allParts, effBuildSlice, zeroRow, effMakeSlice, elemSz, idxA, idxS, effIndex, lenOf, readOf, subPre, maxRow, plainTI, appTo, effAppend, slcOf, effSlice, argOf, resA, resL, resV, outWr, nodupB, restOk, argsPre, argOk, callWr, effCall, effMax, RC.flat, effBox2, boxPair, compOf, innerOf, innerPre, fieldTwo, loadO, loadN, storeN, buildTwo, effBuild2, buildRows, effBuildSl, appRows, effApp2, plainA, callIn, outsEmpty, callGo, MC.get, MC.has, MC.put, mcTI, keyTI, emptyMC, effMakeMap, mapIn, hOf1, lookV, effLookup, mapBack, effUpdate, effNil, effMin, effIndexV, cutSlc, arrElem, cutOf, wrHs, disj, AV.hs, A0.hs, Entry.hs, RC.elem, RC.sz, RC.len, RC.slice, RC.app, hA, initFr, initMem, initSt, resOf, resAll, compEq, compsEq, rowHs, outHds, outsEq, shapeOk, finOk, comps, A0.norm, AV.norm, specOf, t_int, t_bool, t_implForm, t_implMatrix, t_implunited, ts_int, ts_implForm, ts_implMatrix, tss_int, tm_implForm, t_implclassGroup, Option.getD_some, Option.getD_none, cond_true, cond_false, Nat.reduceBEq, List.map_cons, List.map_nil, List.set_cons_zero, List.set_cons_succ, List.getElem?_cons_zero, List.getElem?_cons_succ, List.drop_zero, List.drop_succ_cons, List.take_succ_cons, List.take_zero, Option.map_some, Option.map_none, Option.bind_some, Nat.zero_add, Nat.add_zero, Nat.reduceAdd, Nat.reduceMul, true_and, and_true, List.replicate_succ, List.replicate_zero, List.length_cons, List.length_nil, List.all_cons, List.all_nil, List.any_cons, List.any_nil, Bool.and_true, Bool.true_and, Bool.and_false, Bool.false_and, Bool.or_true, Bool.true_or, Bool.or_false, Bool.false_or, Bool.not_true, Bool.not_false, List.append_nil, List.nil_append, List.cons_append, List.flatMap_cons, List.flatMap_nil, List.contains_cons, List.contains_nil, List.filter_cons, List.filter_nil, beq_self_eq_true, Bool.not_eq_true, A0.b.injEq, A0.i.injEq, A0.s.injEq, A0.rw.injEq, A0.fn.injEq, List.cons.injEq, RC.ints.injEq, RC.recs.injEq, RC.bools.injEq, RC.mp.injEq, RC.grp.injEq, RC.rows.injEq, MC.ints.injEq, MC.bools.injEq, AV.one.injEq, AV.tup.injEq, ble_dec, blt_dec, Nat.reduceLeDiff, Nat.reduceSub, decide_true, decide_false, and_self, List.toList_toArray, Option.isSome_some, Option.isSome_none, List.elem_nil, List.elem_cons, ite_true, ite_false, Bool.false_eq_true, if_true, if_false, reduceIte, flatB_2, flatB_3, flatB_4, List.headD_cons, List.tail_cons, cReList, fReList, cCoMul, fCoMul, cGrIndex, fGrIndex, rng3, Try.f16]
  have hd : negB d = true := hp
  have hin := negB_in hd
  have hlen := redF_len hin.1
  have hrp : ∀ n, n < (fl (redF d)).length → RP d (nth3 (fl (redF d)) n) := fun n hn => nth_mem hd hn
  have hz : tbL (redF d) = pf (tbL (redF d)) [] (redF d).length := by rw [← tbL_len, pf_full]
  refine ⟨hin, ⟨by omega, by rw [fl_length]; omega⟩, ?_⟩
  generalize hL : redF d = L at *
  have hTl := tbL_len L
  refine lp_intro (fun k : Nat => ⟨[(3, .one (.row 10)), (4, .one (.co 13)), (14, .one (.row 10)), (15, .one (.i L.length)), (16, .one (.i k))], [(10, .row (.recs 46 3 (fl L))), (13, .row (.rows 39 3 (pf (tbL L) [] k)))]⟩)
    (fun k => k ≤ L.length) (fun k => L.length - k) 0 [] (Nat.zero_le _) (by simp only [Cov, covOk, covFr, covMem, entEq, rn, nodupB, A0.ren, AV.ren, Entry.ren, Entry.norm, vc, out, Entry.toO, toOf, A0.mv, AV.mv, mvTo, St.res, nxtH, makeRows, effMakeSl, storeRow, step, stepE, stepPick, stepG, stepO, stepC, eff, look, rem, St.put, St.setMem, setMems, St.after, St.eval, cst, setAt, val1, okNew, newHs, allHs, rdOf, outHs, Reg.item, Reg.next, Reg.skip, slotOf, effBox, effAlloc, entryRow, fieldOff, effField, loadI, load1, loadR, effLoad, storeI, storeB, storeR, szOk, storeTo, effStore, buildOf, effBuild, binInt, eqI, boolOf, binBool, effBin, effUn, effPick, effExtract, ivs, svs, rowOf, allParts, effBuildSlice, zeroRow, effMakeSlice, elemSz, idxA, idxS, effIndex, lenOf, readOf, subPre, maxRow, plainTI, appTo, effAppend, slcOf, effSlice, argOf, resA, resL, resV, outWr, nodupB, restOk, argsPre, argOk, callWr, effCall, effMax, RC.flat, effBox2, boxPair, compOf, innerOf, innerPre, fieldTwo, loadO, loadN, storeN, buildTwo, effBuild2, buildRows, effBuildSl, appRows, effApp2, plainA, callIn, outsEmpty, callGo, MC.get, MC.has, MC.put, mcTI, keyTI, emptyMC, effMakeMap, mapIn, hOf1, lookV, effLookup, mapBack, effUpdate, effNil, effMin, effIndexV, cutSlc, arrElem, cutOf, wrHs, disj, AV.hs, A0.hs, Entry.hs, RC.elem, RC.sz, RC.len, RC.slice, RC.app, hA, initFr, initMem, initSt, resOf, resAll, compEq, compsEq, rowHs, outHds, outsEq, shapeOk, finOk, comps, A0.norm, AV.norm, specOf, t_int, t_bool, t_implForm, t_implMatrix, t_implunited, ts_int, ts_implForm, ts_implMatrix, tss_int, tm_implForm, t_implclassGroup, Option.getD_some, Option.getD_none, cond_true, cond_false, Nat.reduceBEq, List.map_cons, List.map_nil, List.set_cons_zero, List.set_cons_succ, List.getElem?_cons_zero, List.getElem?_cons_succ, List.drop_zero, List.drop_succ_cons, List.take_succ_cons, List.take_zero, Option.map_some, Option.map_none, Option.bind_some, Nat.zero_add, Nat.add_zero, Nat.reduceAdd, Nat.reduceMul, true_and, and_true, List.replicate_succ, List.replicate_zero, List.length_cons, List.length_nil, List.all_cons, List.all_nil, List.any_cons, List.any_nil, Bool.and_true, Bool.true_and, Bool.and_false, Bool.false_and, Bool.or_true, Bool.true_or, Bool.or_false, Bool.false_or, Bool.not_true, Bool.not_false, List.append_nil, List.nil_append, List.cons_append, List.flatMap_cons, List.flatMap_nil, List.contains_cons, List.contains_nil, List.filter_cons, List.filter_nil, beq_self_eq_true, Bool.not_eq_true, A0.b.injEq, A0.i.injEq, A0.s.injEq, A0.rw.injEq, A0.fn.injEq, List.cons.injEq, RC.ints.injEq, RC.recs.injEq, RC.bools.injEq, RC.mp.injEq, RC.grp.injEq, RC.rows.injEq, MC.ints.injEq, MC.bools.injEq, AV.one.injEq, AV.tup.injEq, ble_dec, blt_dec, Nat.reduceLeDiff, Nat.reduceSub, decide_true, decide_false, and_self, List.toList_toArray, Option.isSome_some, Option.isSome_none, List.elem_nil, List.elem_cons, ite_true, ite_false, Bool.false_eq_true, if_true, if_false, reduceIte, flatB_2, flatB_3, flatB_4, List.headD_cons, List.tail_cons, pf_zero, tbL_len, fl_length, Int.toNat_natCast]; trivial) fun k hk J hJ => ⟨1000, ?_⟩
  simp only [↓cond_to_ite, ↓reduceIte, vc, out, Entry.toO, toOf, A0.mv, AV.mv, mvTo, St.res, nxtH, makeRows, effMakeSl, storeRow, step, stepE, stepPick, stepG, stepO, stepC, eff, look, rem, St.put, St.setMem, setMems, St.after, St.eval, cst, setAt, val1, okNew, newHs, allHs, rdOf, outHs, Reg.item, Reg.next, Reg.skip, slotOf, effBox, effAlloc, entryRow, fieldOff, effField, loadI, load1, loadR, effLoad, storeI, storeB, storeR, szOk, storeTo, effStore, buildOf, effBuild, binInt, eqI, boolOf, binBool, effBin, effUn, effPick, effExtract, ivs, svs, rowOf, allParts, effBuildSlice, zeroRow, effMakeSlice, elemSz, idxA, idxS, effIndex, lenOf, readOf, subPre, maxRow, plainTI, appTo, effAppend, slcOf, effSlice, argOf, resA, resL, resV, outWr, nodupB, restOk, argsPre, argOk, callWr, effCall, effMax, RC.flat, effBox2, boxPair, compOf, innerOf, innerPre, fieldTwo, loadO, loadN, storeN, buildTwo, effBuild2, buildRows, effBuildSl, appRows, effApp2, plainA, callIn, outsEmpty, callGo, MC.get, MC.has, MC.put, mcTI, keyTI, emptyMC, effMakeMap, mapIn, hOf1, lookV, effLookup, mapBack, effUpdate, effNil, effMin, effIndexV, cutSlc, arrElem, cutOf, wrHs, disj, AV.hs, A0.hs, Entry.hs, RC.elem, RC.sz, RC.len, RC.slice, RC.app, hA, initFr, initMem, initSt, resOf, resAll, compEq, compsEq, rowHs, outHds, outsEq, shapeOk, finOk, comps, A0.norm, AV.norm, specOf, t_int, t_bool, t_implForm, t_implMatrix, t_implunited, ts_int, ts_implForm, ts_implMatrix, tss_int, tm_implForm, t_implclassGroup, Option.getD_some, Option.getD_none, cond_true, cond_false, Nat.reduceBEq, List.map_cons, List.map_nil, List.set_cons_zero, List.set_cons_succ, List.getElem?_cons_zero, List.getElem?_cons_succ, List.drop_zero, List.drop_succ_cons, List.take_succ_cons, List.take_zero, Option.map_some, Option.map_none, Option.bind_some, Nat.zero_add, Nat.add_zero, Nat.reduceAdd, Nat.reduceMul, true_and, and_true, List.replicate_succ, List.replicate_zero, List.length_cons, List.length_nil, List.all_cons, List.all_nil, List.any_cons, List.any_nil, Bool.and_true, Bool.true_and, Bool.and_false, Bool.false_and, Bool.or_true, Bool.true_or, Bool.or_false, Bool.false_or, Bool.not_true, Bool.not_false, List.append_nil, List.nil_append, List.cons_append, List.flatMap_cons, List.flatMap_nil, List.contains_cons, List.contains_nil, List.filter_cons, List.filter_nil, beq_self_eq_true, Bool.not_eq_true, A0.b.injEq, A0.i.injEq, A0.s.injEq, A0.rw.injEq, A0.fn.injEq, List.cons.injEq, RC.ints.injEq, RC.recs.injEq, RC.bools.injEq, RC.mp.injEq, RC.grp.injEq, RC.rows.injEq, MC.ints.injEq, MC.bools.injEq, AV.one.injEq, AV.tup.injEq, ble_dec, blt_dec, Nat.reduceLeDiff, Nat.reduceSub, decide_true, decide_false, and_self, List.toList_toArray, Option.isSome_some, Option.isSome_none, List.elem_nil, List.elem_cons, ite_true, ite_false, Bool.false_eq_true, if_true, if_false, reduceIte, flatB_2, flatB_3, flatB_4, List.headD_cons, List.tail_cons, rng3, Int.toNat_natCast, fl_length]
  refine ite_prop (fun hc => ?_) fun hc => ?_
  · have hlt := ilt_iff.1 hc
    have hw := wsucc hlt (Nat.le_trans hlen (by omega))
    have hpl : (pf (tbL L) [] k).length = L.length := by rw [pf_length _ _ (by omega), hTl]
    have hk3 : k < (fl L).length := by rw [fl_length]; exact hlt
    have r1 := hrp k hk3
    have hrow := tbL_at hk3
    generalize hX : nth3 (fl L) k = x at *
    have hrl := trow_len L x
    refine ⟨⟨by omega, by omega⟩, hlt, ⟨by omega, by omega⟩, ⟨by omega, by omega⟩, by omega, ?_⟩
    refine lp_intro (fun j : Nat => ⟨[(3, .one (.row 10)), (4, .one (.co 13)), (5, .one (.i k)), (6, .one (.ref 6 0)), (14, .one (.row 10)), (15, .one (.i L.length)), (16, .one (.i k)), (27, .one (.row 10)), (28, .one (.i L.length)), (29, .one (.i j))],
        [(10, .row (.recs 46 3 (fl L))), (6, .ibox 46 [x.1, x.2.1, x.2.2]), (13, .row (.rows 39 3 ((pf (tbL L) [] k).set k (pf (trow L x) 0 j))))]⟩)
      (fun j => j ≤ L.length) (fun j => L.length - j) 0 [(13, 40013)] (Nat.zero_le _) (by simp only [Cov, covOk, covFr, covMem, entEq, rn, nodupB, A0.ren, AV.ren, Entry.ren, Entry.norm, vc, out, Entry.toO, toOf, A0.mv, AV.mv, mvTo, St.res, nxtH, makeRows, effMakeSl, storeRow, step, stepE, stepPick, stepG, stepO, stepC, eff, look, rem, St.put, St.setMem, setMems, St.after, St.eval, cst, setAt, val1, okNew, newHs, allHs, rdOf, outHs, Reg.item, Reg.next, Reg.skip, slotOf, effBox, effAlloc, entryRow, fieldOff, effField, loadI, load1, loadR, effLoad, storeI, storeB, storeR, szOk, storeTo, effStore, buildOf, effBuild, binInt, eqI, boolOf, binBool, effBin, effUn, effPick, effExtract, ivs, svs, rowOf, allParts, effBuildSlice, zeroRow, effMakeSlice, elemSz, idxA, idxS, effIndex, lenOf, readOf, subPre, maxRow, plainTI, appTo, effAppend, slcOf, effSlice, argOf, resA, resL, resV, outWr, nodupB, restOk, argsPre, argOk, callWr, effCall, effMax, RC.flat, effBox2, boxPair, compOf, innerOf, innerPre, fieldTwo, loadO, loadN, storeN, buildTwo, effBuild2, buildRows, effBuildSl, appRows, effApp2, plainA, callIn, outsEmpty, callGo, MC.get, MC.has, MC.put, mcTI, keyTI, emptyMC, effMakeMap, mapIn, hOf1, lookV, effLookup, mapBack, effUpdate, effNil, effMin, effIndexV, cutSlc, arrElem, cutOf, wrHs, disj, AV.hs, A0.hs, Entry.hs, RC.elem, RC.sz, RC.len, RC.slice, RC.app, hA, initFr, initMem, initSt, resOf, resAll, compEq, compsEq, rowHs, outHds, outsEq, shapeOk, finOk, comps, A0.norm, AV.norm, specOf, t_int, t_bool, t_implForm, t_implMatrix, t_implunited, ts_int, ts_implForm, ts_implMatrix, tss_int, tm_implForm, t_implclassGroup, Option.getD_some, Option.getD_none, cond_true, cond_false, Nat.reduceBEq, List.map_cons, List.map_nil, List.set_cons_zero, List.set_cons_succ, List.getElem?_cons_zero, List.getElem?_cons_succ, List.drop_zero, List.drop_succ_cons, List.take_succ_cons, List.take_zero, Option.map_some, Option.map_none, Option.bind_some, Nat.zero_add, Nat.add_zero, Nat.reduceAdd, Nat.reduceMul, true_and, and_true, List.replicate_succ, List.replicate_zero, List.length_cons, List.length_nil, List.all_cons, List.all_nil, List.any_cons, List.any_nil, Bool.and_true, Bool.true_and, Bool.and_false, Bool.false_and, Bool.or_true, Bool.true_or, Bool.or_false, Bool.false_or, Bool.not_true, Bool.not_false, List.append_nil, List.nil_append, List.cons_append, List.flatMap_cons, List.flatMap_nil, List.contains_cons, List.contains_nil, List.filter_cons, List.filter_nil, beq_self_eq_true, Bool.not_eq_true, A0.b.injEq, A0.i.injEq, A0.s.injEq, A0.rw.injEq, A0.fn.injEq, List.cons.injEq, RC.ints.injEq, RC.recs.injEq, RC.bools.injEq, RC.mp.injEq, RC.grp.injEq, RC.rows.injEq, MC.ints.injEq, MC.bools.injEq, AV.one.injEq, AV.tup.injEq, ble_dec, blt_dec, Nat.reduceLeDiff, Nat.reduceSub, decide_true, decide_false, and_self, List.toList_toArray, Option.isSome_some, Option.isSome_none, List.elem_nil, List.elem_cons, ite_true, ite_false, Bool.false_eq_true, if_true, if_false, reduceIte, flatB_2, flatB_3, flatB_4, List.headD_cons, List.tail_cons, pf_zero, hrl]; trivial) fun j hj J' hJ' => ⟨1000, ?_⟩
    simp only [↓cond_to_ite, ↓reduceIte, vc, out, Entry.toO, toOf, A0.mv, AV.mv, mvTo, St.res, nxtH, makeRows, effMakeSl, storeRow, step, stepE, stepPick, stepG, stepO, stepC, eff, look, rem, St.put, St.setMem, setMems, St.after, St.eval, cst, setAt, val1, okNew, newHs, allHs, rdOf, outHs, Reg.item, Reg.next, Reg.skip, slotOf, effBox, effAlloc, entryRow, fieldOff, effField, loadI, load1, loadR, effLoad, storeI, storeB, storeR, szOk, storeTo, effStore, buildOf, effBuild, binInt, eqI, boolOf, binBool, effBin, effUn, effPick, effExtract, ivs, svs, rowOf, allParts, effBuildSlice, zeroRow, effMakeSlice, elemSz, idxA, idxS, effIndex, lenOf, readOf, subPre, maxRow, plainTI, appTo, effAppend, slcOf, effSlice, argOf, resA, resL, resV, outWr, nodupB, restOk, argsPre, argOk, callWr, effCall, effMax, RC.flat, effBox2, boxPair, compOf, innerOf, innerPre, fieldTwo, loadO, loadN, storeN, buildTwo, effBuild2, buildRows, effBuildSl, appRows, effApp2, plainA, callIn, outsEmpty, callGo, MC.get, MC.has, MC.put, mcTI, keyTI, emptyMC, effMakeMap, mapIn, hOf1, lookV, effLookup, mapBack, effUpdate, effNil, effMin, effIndexV, cutSlc, arrElem, cutOf, wrHs, disj, AV.hs, A0.hs, Entry.hs, RC.elem, RC.sz, RC.len, RC.slice, RC.app, hA, initFr, initMem, initSt, resOf, resAll, compEq, compsEq, rowHs, outHds, outsEq, shapeOk, finOk, comps, A0.norm, AV.norm, specOf, t_int, t_bool, t_implForm, t_implMatrix, t_implunited, ts_int, ts_implForm, ts_implMatrix, tss_int, tm_implForm, t_implclassGroup, Option.getD_some, Option.getD_none, cond_true, cond_false, Nat.reduceBEq, List.map_cons, List.map_nil, List.set_cons_zero, List.set_cons_succ, List.getElem?_cons_zero, List.getElem?_cons_succ, List.drop_zero, List.drop_succ_cons, List.take_succ_cons, List.take_zero, Option.map_some, Option.map_none, Option.bind_some, Nat.zero_add, Nat.add_zero, Nat.reduceAdd, Nat.reduceMul, true_and, and_true, List.replicate_succ, List.replicate_zero, List.length_cons, List.length_nil, List.all_cons, List.all_nil, List.any_cons, List.any_nil, Bool.and_true, Bool.true_and, Bool.and_false, Bool.false_and, Bool.or_true, Bool.true_or, Bool.or_false, Bool.false_or, Bool.not_true, Bool.not_false, List.append_nil, List.nil_append, List.cons_append, List.flatMap_cons, List.flatMap_nil, List.contains_cons, List.contains_nil, List.filter_cons, List.filter_nil, beq_self_eq_true, Bool.not_eq_true, A0.b.injEq, A0.i.injEq, A0.s.injEq, A0.rw.injEq, A0.fn.injEq, List.cons.injEq, RC.ints.injEq, RC.recs.injEq, RC.bools.injEq, RC.mp.injEq, RC.grp.injEq, RC.rows.injEq, MC.ints.injEq, MC.bools.injEq, AV.one.injEq, AV.tup.injEq, ble_dec, blt_dec, Nat.reduceLeDiff, Nat.reduceSub, decide_true, decide_false, and_self, List.toList_toArray, Option.isSome_some, Option.isSome_none, List.elem_nil, List.elem_cons, ite_true, ite_false, Bool.false_eq_true, if_true, if_false, reduceIte, flatB_2, flatB_3, flatB_4, List.headD_cons, List.tail_cons, rng3, Int.toNat_natCast, fl_length, cCoMul, fCoMul, cGrIndex, fGrIndex]
    refine ite_prop (fun hj0 => ?_) fun hj0 => ?_
    · have hjlt := ilt_iff.1 hj0
      have hwj := wsucc hjlt (Nat.le_trans hlen (by omega))
      have hj3 : j < (fl L).length := by rw [fl_length]; exact hjlt
      have r2 := hrp j hj3
      have hta := trow_at (f := x) hj3
      have hg := set_getD (pf (tbL L) [] k) k (pf (trow L x) 0 j) [] (by omega)
      have hsl : ((pf (tbL L) [] k).set k (pf (trow L x) 0 j)).length = L.length := by rw [List.length_set]; exact hpl
      have hpr : (pf (trow L x) 0 j).length = L.length := by rw [pf_length _ _ (by omega), hrl]
      obtain ⟨hcu, c1, c2, c3⟩ := rp_pair r1 r2
      have hm : cmp x (nth3 (fl L) j) ∈ L := by
        have h5 := rp_mem (cmp_rp r1 r2)
        rwa [hL] at h5
      have hst := pf_set' (trow L x) 0 _ (k := j) (by omega) hta
      simp only [c1, c2, c3, hg, hsl, hpr, unfl_fl, List.set_set]
      refine ⟨⟨by omega, by omega⟩, hjlt, ⟨by omega, by omega⟩, hlt, hcu, ⟨by omega, hm⟩, ⟨hlt, by omega, by omega⟩, ⟨hlt, hjlt⟩, by kernel_rfl, hJ' _ (j + 1) [] hjlt (by omega) ?_⟩
      have hst' : (pf (trow L x) 0 j).set j ↑(List.idxOf ((cmp x (nth3 (fl L) j)).fst, (cmp x (nth3 (fl L) j)).snd.fst, (cmp x (nth3 (fl L) j)).snd.snd) L) = pf (trow L x) 0 (j + 1) := hst
      simp only [Cov, covOk, covFr, covMem, entEq, rn, nodupB, A0.ren, AV.ren, Entry.ren, Entry.norm, vc, out, Entry.toO, toOf, A0.mv, AV.mv, mvTo, St.res, nxtH, makeRows, effMakeSl, storeRow, step, stepE, stepPick, stepG, stepO, stepC, eff, look, rem, St.put, St.setMem, setMems, St.after, St.eval, cst, setAt, val1, okNew, newHs, allHs, rdOf, outHs, Reg.item, Reg.next, Reg.skip, slotOf, effBox, effAlloc, entryRow, fieldOff, effField, loadI, load1, loadR, effLoad, storeI, storeB, storeR, szOk, storeTo, effStore, buildOf, effBuild, binInt, eqI, boolOf, binBool, effBin, effUn, effPick, effExtract, ivs, svs, rowOf, allParts, effBuildSlice, zeroRow, effMakeSlice, elemSz, idxA, idxS, effIndex, lenOf, readOf, subPre, maxRow, plainTI, appTo, effAppend, slcOf, effSlice, argOf, resA, resL, resV, outWr, nodupB, restOk, argsPre, argOk, callWr, effCall, effMax, RC.flat, effBox2, boxPair, compOf, innerOf, innerPre, fieldTwo, loadO, loadN, storeN, buildTwo, effBuild2, buildRows, effBuildSl, appRows, effApp2, plainA, callIn, outsEmpty, callGo, MC.get, MC.has, MC.put, mcTI, keyTI, emptyMC, effMakeMap, mapIn, hOf1, lookV, effLookup, mapBack, effUpdate, effNil, effMin, effIndexV, cutSlc, arrElem, cutOf, wrHs, disj, AV.hs, A0.hs, Entry.hs, RC.elem, RC.sz, RC.len, RC.slice, RC.app, hA, initFr, initMem, initSt, resOf, resAll, compEq, compsEq, rowHs, outHds, outsEq, shapeOk, finOk, comps, A0.norm, AV.norm, specOf, t_int, t_bool, t_implForm, t_implMatrix, t_implunited, ts_int, ts_implForm, ts_implMatrix, tss_int, tm_implForm, t_implclassGroup, Option.getD_some, Option.getD_none, cond_true, cond_false, Nat.reduceBEq, List.map_cons, List.map_nil, List.set_cons_zero, List.set_cons_succ, List.getElem?_cons_zero, List.getElem?_cons_succ, List.drop_zero, List.drop_succ_cons, List.take_succ_cons, List.take_zero, Option.map_some, Option.map_none, Option.bind_some, Nat.zero_add, Nat.add_zero, Nat.reduceAdd, Nat.reduceMul, true_and, and_true, List.replicate_succ, List.replicate_zero, List.length_cons, List.length_nil, List.all_cons, List.all_nil, List.any_cons, List.any_nil, Bool.and_true, Bool.true_and, Bool.and_false, Bool.false_and, Bool.or_true, Bool.true_or, Bool.or_false, Bool.false_or, Bool.not_true, Bool.not_false, List.append_nil, List.nil_append, List.cons_append, List.flatMap_cons, List.flatMap_nil, List.contains_cons, List.contains_nil, List.filter_cons, List.filter_nil, beq_self_eq_true, Bool.not_eq_true, A0.b.injEq, A0.i.injEq, A0.s.injEq, A0.rw.injEq, A0.fn.injEq, List.cons.injEq, RC.ints.injEq, RC.recs.injEq, RC.bools.injEq, RC.mp.injEq, RC.grp.injEq, RC.rows.injEq, MC.ints.injEq, MC.bools.injEq, AV.one.injEq, AV.tup.injEq, ble_dec, blt_dec, Nat.reduceLeDiff, Nat.reduceSub, decide_true, decide_false, and_self, List.toList_toArray, Option.isSome_some, Option.isSome_none, List.elem_nil, List.elem_cons, ite_true, ite_false, Bool.false_eq_true, if_true, if_false, reduceIte, flatB_2, flatB_3, flatB_4, List.headD_cons, List.tail_cons, hwj, hst']
    · have hge := inlt_iff.1 (eq_false_of_ne_true hj0)
      have hjl : j = L.length := by omega
      have hfull : pf (trow L x) 0 j = trow L x := by rw [hjl, ← hrl, pf_full]
      have hst := pf_set' (tbL L) [] _ (k := k) (by omega) hrow
      refine hJ _ (k + 1) [] hlt (by omega) ?_
      simp only [Cov, covOk, covFr, covMem, entEq, rn, nodupB, A0.ren, AV.ren, Entry.ren, Entry.norm, vc, out, Entry.toO, toOf, A0.mv, AV.mv, mvTo, St.res, nxtH, makeRows, effMakeSl, storeRow, step, stepE, stepPick, stepG, stepO, stepC, eff, look, rem, St.put, St.setMem, setMems, St.after, St.eval, cst, setAt, val1, okNew, newHs, allHs, rdOf, outHs, Reg.item, Reg.next, Reg.skip, slotOf, effBox, effAlloc, entryRow, fieldOff, effField, loadI, load1, loadR, effLoad, storeI, storeB, storeR, szOk, storeTo, effStore, buildOf, effBuild, binInt, eqI, boolOf, binBool, effBin, effUn, effPick, effExtract, ivs, svs, rowOf, allParts, effBuildSlice, zeroRow, effMakeSlice, elemSz, idxA, idxS, effIndex, lenOf, readOf, subPre, maxRow, plainTI, appTo, effAppend, slcOf, effSlice, argOf, resA, resL, resV, outWr, nodupB, restOk, argsPre, argOk, callWr, effCall, effMax, RC.flat, effBox2, boxPair, compOf, innerOf, innerPre, fieldTwo, loadO, loadN, storeN, buildTwo, effBuild2, buildRows, effBuildSl, appRows, effApp2, plainA, callIn, outsEmpty, callGo, MC.get, MC.has, MC.put, mcTI, keyTI, emptyMC, effMakeMap, mapIn, hOf1, lookV, effLookup, mapBack, effUpdate, effNil, effMin, effIndexV, cutSlc, arrElem, cutOf, wrHs, disj, AV.hs, A0.hs, Entry.hs, RC.elem, RC.sz, RC.len, RC.slice, RC.app, hA, initFr, initMem, initSt, resOf, resAll, compEq, compsEq, rowHs, outHds, outsEq, shapeOk, finOk, comps, A0.norm, AV.norm, specOf, t_int, t_bool, t_implForm, t_implMatrix, t_implunited, ts_int, ts_implForm, ts_implMatrix, tss_int, tm_implForm, t_implclassGroup, Option.getD_some, Option.getD_none, cond_true, cond_false, Nat.reduceBEq, List.map_cons, List.map_nil, List.set_cons_zero, List.set_cons_succ, List.getElem?_cons_zero, List.getElem?_cons_succ, List.drop_zero, List.drop_succ_cons, List.take_succ_cons, List.take_zero, Option.map_some, Option.map_none, Option.bind_some, Nat.zero_add, Nat.add_zero, Nat.reduceAdd, Nat.reduceMul, true_and, and_true, List.replicate_succ, List.replicate_zero, List.length_cons, List.length_nil, List.all_cons, List.all_nil, List.any_cons, List.any_nil, Bool.and_true, Bool.true_and, Bool.and_false, Bool.false_and, Bool.or_true, Bool.true_or, Bool.or_false, Bool.false_or, Bool.not_true, Bool.not_false, List.append_nil, List.nil_append, List.cons_append, List.flatMap_cons, List.flatMap_nil, List.contains_cons, List.contains_nil, List.filter_cons, List.filter_nil, beq_self_eq_true, Bool.not_eq_true, A0.b.injEq, A0.i.injEq, A0.s.injEq, A0.rw.injEq, A0.fn.injEq, List.cons.injEq, RC.ints.injEq, RC.recs.injEq, RC.bools.injEq, RC.mp.injEq, RC.grp.injEq, RC.rows.injEq, MC.ints.injEq, MC.bools.injEq, AV.one.injEq, AV.tup.injEq, ble_dec, blt_dec, Nat.reduceLeDiff, Nat.reduceSub, decide_true, decide_false, and_self, List.toList_toArray, Option.isSome_some, Option.isSome_none, List.elem_nil, List.elem_cons, ite_true, ite_false, Bool.false_eq_true, if_true, if_false, reduceIte, flatB_2, flatB_3, flatB_4, List.headD_cons, List.tail_cons, hw, hfull, hst]
  · have hge := inlt_iff.1 (eq_false_of_ne_true hc)
    have hk' : k = L.length := by omega
    subst hk'
    rw [← hz]
/-! ### orders from the table -/
def tIt (ll : List (List Int)) (i : Int) : Nat → Int
  | 0 => i
  | n + 1 => (ll.getD (tIt ll i n).toNat []).getD i.toNat 0
structure TOk (ll : List (List Int)) (i : Int) (N : Nat) : Prop where
  fin : tIt ll i N = 0
  ne : ∀ m, m < N → tIt ll i m ≠ 0
  rng : ∀ m, m ≤ N → 0 ≤ tIt ll i m ∧ (tIt ll i m).toNat < ll.length ∧ i.toNat < (ll.getD (tIt ll i m).toNat []).length
  le : N ≤ 1300
  i0 : 0 ≤ i
theorem TOk.unique {ll : List (List Int)} {i : Int} {m n : Nat} (h1 : TOk ll i m) (h2 : TOk ll i n) : m = n := by
  rcases Nat.lt_trichotomy m n with h | h | h
  · exact absurd h1.fin (h2.ne m h)
  · exact h
  · exact absurd h2.fin (h1.ne n h)
open Classical in
noncomputable def tord (ll : List (List Int)) (i : Int) : Nat := if h : ∃ n, TOk ll i n then Classical.choose h else 0
theorem tord_eq {ll : List (List Int)} {i : Int} {n : Nat} (h : TOk ll i n) : tord ll i = n := by
  unfold tord
  rw [dif_pos ⟨n, h⟩]
  exact (Classical.choose_spec (p := fun n => TOk ll i n) ⟨n, h⟩).unique h
-- (not in this seat: GrOrder)
noncomputable def toL (ll : List (List Int)) : List Int := (List.range ll.length).map fun (i : Nat) => ((tord ll (i : Int) : Nat) : Int) + 1
theorem toL_len (ll : List (List Int)) : (toL ll).length = ll.length := by unfold toL; simp
theorem toL_at {ll : List (List Int)} {k : Nat} (hk : k < ll.length) : (toL ll).getD k 0 = ((tord ll (k : Int) : Nat) : Int) + 1 := by
  unfold toL
  simp [List.getD_eq_getElem?_getD, hk]
-- (not in this seat: GrOrders)
theorem tIt_orb {d : Int} (h : negB d = true) {k : Nat} (hk : k < (fl (redF d)).length) : ∀ n, tIt (tbL (redF d)) (k : Int) n = ixO (redF d) (nth3 (fl (redF d)) k) n
  | 0 => by
    have := idx_nth (redF_nodup d) hk
    unfold tIt ixO
    rw [show orb (nth3 (fl (redF d)) k) 0 = nth3 (fl (redF d)) k from rfl, this]
  | n + 1 => by
    have r1 := nth_mem h hk
    have ho := rp_mem (orb_rp r1 n)
    have hlt : (redF d).idxOf (orb (nth3 (fl (redF d)) k) n) < (fl (redF d)).length := by rw [fl_length]; exact List.idxOf_lt_length_of_mem ho
    have hx : (ixO (redF d) (nth3 (fl (redF d)) k) n).toNat = (redF d).idxOf (orb (nth3 (fl (redF d)) k) n) := by unfold ixO; exact Int.toNat_natCast _
    rw [tIt, tIt_orb h hk n, hx, tbL_at hlt, nth_idx ho, Int.toNat_natCast, trow_at hk]
    rfl
theorem tok_tb {d : Int} (h : negB d = true) {k : Nat} (hk : k < (fl (redF d)).length) : TOk (tbL (redF d)) (k : Int) (ordN (dsc (nth3 (fl (redF d)) k)) (nth3 (fl (redF d)) k)) := by
  have r1 := nth_mem h hk
  obtain ⟨ho, hlt⟩ := ord_gr h r1
  have hT := tIt_orb h hk
  refine ⟨?_, fun m hm => ?_, fun m hm => ?_, by omega, by omega⟩
  · rw [hT, ixO_zero h r1]; exact ho.1
  · rw [hT, ne_eq, ixO_zero h r1]; exact ho.2 m hm
  · have hr := ixO_rng h r1 m
    have hlt2 : (ixO (redF d) (nth3 (fl (redF d)) k) m).toNat < (fl (redF d)).length := by omega
    rw [hT]
    refine ⟨hr.1, by rw [tbL_len, ← fl_length]; exact hlt2, ?_⟩
    rw [tbL_at hlt2, trow_len, Int.toNat_natCast, ← fl_length]
    exact hk
theorem toL_tb {d : Int} (h : negB d = true) : toL (tbL (redF d)) = oL (redF d) := by
  apply List.ext_getElem?
  intro k
  by_cases hk : k < (redF d).length
  · have hk3 : k < (fl (redF d)).length := by rw [fl_length]; exact hk
    have h1 := unfl_at hk3
    rw [unfl_fl] at h1
    unfold toL oL
    rw [List.getElem?_map, List.getElem?_map, h1, tbL_len, List.getElem?_range hk, Option.map_some, Option.map_some, tord_eq (tok_tb h hk3)]
  · rw [List.getElem?_eq_none (by rw [toL_len, tbL_len]; omega), List.getElem?_eq_none (by rw [oL_len]; omega)]
def onZ (h : Bool) (l : List Int) : List Int := bif h then l else []
-- (not in this seat: ClassOrders)
-- (not in this seat: SClassOrders)
theorem oz_len (d : Int) : (onZ (negB d) (oL (redF d))).length ≤ 1300 := by
  cases h : negB d with
  | false => exact Nat.zero_le _
  | true =>
    show (oL (redF d)).length ≤ 1300
    rw [oL_len]; exact redF_len (negB_in h).1
-- (not in this seat: LawClassOrders)
end Go.Proofs.Ytgmgdnifdejjlaa
