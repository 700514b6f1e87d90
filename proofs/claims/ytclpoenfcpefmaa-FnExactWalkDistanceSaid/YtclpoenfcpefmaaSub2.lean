/-
  Contracts of the sublattice classes, the lower classes and the neighbours, on both sides, and of their laws. Conditions: none.
-/
import Derived.Test.YtclpoenfcpefmaaSub
namespace Go.Proofs.Ytclpoenfcpefmaa
open Go Go.RowKit
set_option maxRecDepth 100000
set_option linter.unusedSimpArgs false
set_option linter.unusedVariables false
set_option maxHeartbeats 4000000

def rdF (x : F3) : F3 := rd3 x.1 x.2.1 x.2.2
theorem fl_rdF (L : List F3) (a b c : Int) : fl L ++ [[rdA a b c, rdB a b c, rdC a b c]] = fl (L ++ [rdF (a, b, c)]) := fl_snoc L (rdF (a, b, c))
theorem sfL_dom {f : F3} (h : RedP f) {p : Int} (hp : 2 ≤ p ∧ p ≤ 43) {x : F3} (hx : x ∈ sfL f p) : domB x.1 x.2.1 x.2.2 = true ∧ (-100000000 ≤ x.1 ∧ x.1 ≤ 100000000) ∧ (-100000000 ≤ x.2.1 ∧ x.2.1 ≤ 100000000) ∧ (-100000000 ≤ x.2.2 ∧ x.2.2 ≤ 100000000) ∧ dsc x = p * p * dsc f := by
  unfold sfL at hx
  rw [List.mem_map] at hx
  obtain ⟨m, hm, rfl⟩ := hx
  obtain ⟨_, h1, h2, h3, h4, h5⟩ := sub_act h hp hm
  exact ⟨h1, h2, h3, h4, by rw [dsc_act, h5]⟩
def scL (f : F3) (p : Int) : List F3 := (sfL f p).map rdF
theorem scL_len (f : F3) {p : Int} (hp : 2 ≤ p ∧ p ≤ 43) : (scL f p).length ≤ 50 := by
  unfold scL
  rw [List.length_map]; exact sfL_len f hp
-- (not in this seat: SubCl)
-- (not in this seat: HkCl)
def sclL (a b c p : Int) : List F3 := scL (rdA a b c, rdB a b c, rdC a b c) p
-- (not in this seat: SublCl)
-- (not in this seat: SSublCl)
theorem sclL_len {a b c p : Int} : (fl (onL (slB a b c p) (sclL a b c p))).length ≤ 50 := onl_le fun h => scL_len _ (slB_idx h)
-- (not in this seat: LawSublCl)

/-! ### lower classes -/
theorem rdF_small {f : F3} (h : RedP f) {p : Int} (hp : 2 ≤ p ∧ p ≤ 43) {x : F3} (hx : x ∈ scL f p) : x.1.natAbs ≤ 1000000000 ∧ x.2.1.natAbs ≤ 1000000000 ∧ x.2.2.natAbs ≤ 1000000000 := by
  unfold scL at hx
  rw [List.mem_map] at hx
  obtain ⟨y, hy, rfl⟩ := hx
  obtain ⟨h1, h2, h3, h4, h5⟩ := sfL_dom h hp hy
  have e : rdF y = rdx y := rd3_eq h1
  have hd := domB_iff.1 (rdx_dom (x := y) h1)
  rw [e]
  have d1 := hd.a0; have d2 := hd.a1; have d3 := hd.c0; have d4 := hd.c1
  have hr := (rdx_red (x := y) h1).abs
  omega
-- (not in this seat: Lower)
-- (not in this seat: SLower)
-- (not in this seat: LawLower)

/-! ### neighbours -/
def ctP (p : Int) (x : F3) : Bool := gcdI x.1 (gcdI x.2.1 x.2.2) == p
def quoF (p : Int) (x : F3) : F3 := (x.1.tdiv p, x.2.1.tdiv p, x.2.2.tdiv p)
def nbL (f : F3) (p : Int) : List F3 := ((sfL f p).filter (ctP p)).map fun x => rdF (quoF p x)
theorem gcd_dvd3 {a b c p : Int} (ha : a.natAbs ≤ 1000000000) (hb : b.natAbs ≤ 1000000000) (hc : c.natAbs ≤ 1000000000) (h : gcdI a (gcdI b c) = p) : p ∣ a ∧ p ∣ b ∧ p ∣ c := by
  have h1 := gcd_le hb hc
  rw [gcdI_eq hb hc, gcdI_eq ha (by omega)] at h
  subst h
  have d1 : (Int.gcd a (Int.gcd b c : Int) : Int) ∣ a := Int.gcd_dvd_left _ _
  have d2 : (Int.gcd a (Int.gcd b c : Int) : Int) ∣ (Int.gcd b c : Int) := Int.gcd_dvd_right _ _
  exact ⟨d1, Int.dvd_trans d2 (Int.gcd_dvd_left _ _), Int.dvd_trans d2 (Int.gcd_dvd_right _ _)⟩
theorem quo_dom {f : F3} (h : RedP f) {p : Int} (hp : 2 ≤ p ∧ p ≤ 43) {x : F3} (hx : x ∈ sfL f p) (hc : ctP p x = true) :
    domB (quoF p x).1 (quoF p x).2.1 (quoF p x).2.2 = true ∧ dsc (quoF p x) = dsc f ∧ wrap64 (x.1.tdiv p) = x.1.tdiv p ∧ wrap64 (x.2.1.tdiv p) = x.2.1.tdiv p ∧ wrap64 (x.2.2.tdiv p) = x.2.2.tdiv p := by
  obtain ⟨h1, h2, h3, h4, h5⟩ := sfL_dom h hp hx
  have D := domB_iff.1 h1
  have hc' : gcdI x.1 (gcdI x.2.1 x.2.2) = p := by simpa [ctP] using hc
  obtain ⟨⟨a, ha⟩, ⟨b, hb⟩, ⟨c, hcc⟩⟩ := gcd_dvd3 (by omega) (by omega) (by omega) hc'
  have ea : x.1.tdiv p = a := by rw [ha]; exact Int.mul_tdiv_cancel_left _ (by omega)
  have eb : x.2.1.tdiv p = b := by rw [hb]; exact Int.mul_tdiv_cancel_left _ (by omega)
  have ec : x.2.2.tdiv p = c := by rw [hcc]; exact Int.mul_tdiv_cancel_left _ (by omega)
  have t1 := tdiv_bd' (a := x.1) (b := p) (k := 100000000) h2
  have t2 := tdiv_bd' (a := x.2.1) (b := p) (k := 100000000) h3
  have t3 := tdiv_bd' (a := x.2.2) (b := p) (k := 100000000) h4
  have eq : quoF p x = (a, b, c) := by unfold quoF; rw [ea, eb, ec]
  have hpp : 0 < p * p := Int.mul_pos (by omega) (by omega)
  have hd : p * p * dsc (a, b, c) = p * p * dsc f := by
    rw [← h5]
    unfold dsc
    simp only
    rw [ha, hb, hcc]; grind
  have hd' : dsc (a, b, c) = dsc f := Int.eq_of_mul_eq_mul_left (by omega) hd
  rw [eq]
  refine ⟨?_, hd', wrap_id (by omega) (by omega), wrap_id (by omega) (by omega), wrap_id (by omega) (by omega)⟩
  have a0 : 0 < a := by have := D.a0; rw [ha] at this; exact Int.pos_of_mul_pos_right this (by omega)
  have c0 : 0 < c := by have := D.c0; rw [hcc] at this; exact Int.pos_of_mul_pos_right this (by omega)
  have hneg := h.1.2
  rw [← hd'] at hneg
  unfold dsc at hneg
  simp only at hneg
  exact domB_iff.2 ⟨a0, c0, by simp only; omega, by simp only; omega, by simp only; omega, by simp only; omega⟩
theorem nb_snoc (L : List F3) (p : Int) (x : F3) : ((L ++ [x]).filter (ctP p)).map (fun x => rdF (quoF p x)) = (L.filter (ctP p)).map (fun x => rdF (quoF p x)) ++ (if ctP p x = true then [rdF (quoF p x)] else []) := by
  rw [filter_snoc, List.map_append]
  split <;> rfl
theorem nb_take_len {L : List F3} {p : Int} (n : Nat) : (((L.take n).filter (ctP p)).map fun x => rdF (quoF p x)).length ≤ L.length := by
  rw [List.length_map]
  refine Nat.le_trans (List.length_filter_le _ _) ?_
  rw [List.length_take]; omega
abbrev fNbs : Nat := 29
def cNbs : Ctr
  | [.s [a, b, c], .i p] => some ⟨RedP (a, b, c) ∧ 2 ≤ p ∧ p ≤ 43, .one (.rw (.recs 27 3 (fl (nbL (a, b, c) p)))), []⟩
  | _ => none
theorem okNbs : CtrOk Try.prog fNbs cNbs := by
  have hsp : SpecOk Try.prog (specOf [(fSubForms, cSubForms), (fContent, cContent), (fReduced1, cReduced1)]) := (SpecOk.cons okSubForms (SpecOk.cons okContent (SpecOk.cons okReduced1 SpecOk.nil)))
  refine ctr_of (fn := Try.f29) mixed tab_ok hsp Try.func29 (by kernel_rfl) (by kernel_rfl) fun args ce h => ?_
  clear hsp
  unfold cNbs at h
  split at h
  case h_2 => cases h
  rename_i a b c p
  simp only [Option.some.injEq] at h
  subst h
  refine ⟨by rfl, fun hp => ⟨1, 1000, ?_⟩⟩
  simp only [vc, out, effCopy, finD, St.drop, vwAt, Entry.vwO, RC.vwO, dropAt, A0.dr, AV.dr, noneNames, viewS, viewV, viewTo, A0.vwT, AV.vwT, viewOk, viewEn, appView, hdSlc, A0.mv1, AV.mv1, Entry.toO, toOf, A0.mv, AV.mv, mvTo, St.res, nxtH, makeRows, effMakeSl, storeRow, step, stepE, stepPick, stepG, stepO, stepC, eff, look, rem, St.put, St.setMem, setMems, St.after, St.eval, cst, setAt, val1, okNew, newHs, allHs, rdOf, outHs, Reg.item, Reg.next, Reg.skip, slotOf, effBox, effAlloc, entryRow, fieldOff, effField, loadI, load1, loadR, effLoad, storeI, storeB, storeR, szOk, storeTo, effStore, buildOf, effBuild, binInt, eqI, boolOf, binBool, effBin, effUn, effPick, effExtract, ivs, svs, rowOf, allParts, effBuildSlice, zeroRow, effMakeSlice, elemSz, idxA, idxS, effIndex, lenOf, readOf, subPre, maxRow, plainTI, appTo, effAppend, slcOf, effSlice, argOf, resA, resL, resV, outWr, nodupB, restOk, argsPre, argOk, callWr, effCall, effMax, RC.flat, effBox2, boxPair, compOf, innerOf, innerPre, fieldTwo, loadO, loadN, storeN, buildTwo, effBuild2, buildRows, effBuildSl, appRows, effApp2, plainA, callIn, outsEmpty, callGo, MC.get, MC.has, MC.put, mcTI, keyTI, emptyMC, effMakeMap, mapIn, hOf1, lookV, effLookup, mapBack, effUpdate, effNil, effMin, effIndexV, cutSlc, arrElem, cutOf, wrHs, disj, AV.hs, A0.hs, Entry.hs, RC.elem, RC.sz, RC.len, RC.slice, RC.app, hA, initFr, initMem, initSt, resOf, resAll, compEq, compsEq, rowHs, outHds, outsEq, shapeOk, finOk, comps, A0.norm, AV.norm, specOf, t_int, t_bool, t_implForm, t_lawsForm, t_implMatrix, t_implPoint, ts_int, ts_implForm, ts_implPoint, ts_implMatrix, tm_implForm, tm_implPoint, Option.getD_some, Option.getD_none, cond_true, cond_false, Nat.reduceBEq, List.map_cons, List.map_nil, List.set_cons_zero, List.set_cons_succ, List.getElem?_cons_zero, List.getElem?_cons_succ, List.drop_zero, List.drop_succ_cons, List.take_succ_cons, List.take_zero, Option.map_some, Option.map_none, Option.bind_some, Nat.zero_add, Nat.add_zero, Nat.reduceAdd, Nat.reduceMul, true_and, and_true, List.replicate_succ, List.replicate_zero, List.length_cons, List.length_nil, List.all_cons, List.all_nil, List.any_cons, List.any_nil, Bool.and_true, Bool.true_and, Bool.and_false, Bool.false_and, Bool.or_true, Bool.true_or, Bool.or_false, Bool.false_or, Bool.not_true, Bool.not_false, List.append_nil, List.nil_append, List.cons_append, List.flatMap_cons, List.flatMap_nil, List.contains_cons, List.contains_nil, List.filter_cons, List.filter_nil, beq_self_eq_true, Bool.not_eq_true, A0.b.injEq, A0.i.injEq, A0.s.injEq, A0.rw.injEq, A0.fn.injEq, List.cons.injEq, RC.ints.injEq, RC.recs.injEq, RC.bools.injEq, RC.mp.injEq, RC.grp.injEq, RC.rows.injEq, MC.ints.injEq, MC.bools.injEq, AV.one.injEq, AV.tup.injEq, ble_dec, blt_dec, Nat.reduceLeDiff, Nat.reduceSub, decide_true, decide_false, and_self, List.toList_toArray, Option.isSome_some, Option.isSome_none, List.elem_nil, List.elem_cons, ite_true, ite_false, Bool.false_eq_true, if_true, if_false, reduceIte, flatB_2, flatB_3, flatB_4, List.headD_cons, List.tail_cons, cSubForms, fSubForms, cContent, fContent, cReduced1, fReduced1, Try.f29]
  obtain ⟨hr, hp1⟩ : RedP (a, b, c) ∧ 2 ≤ p ∧ p ≤ 43 := hp
  have hlen := sfL_len (a, b, c) hp1
  have hdom : ∀ x ∈ sfL (a, b, c) p, ctP p x = true → domB (quoF p x).1 (quoF p x).2.1 (quoF p x).2.2 = true ∧ wrap64 (x.1.tdiv p) = x.1.tdiv p ∧ wrap64 (x.2.1.tdiv p) = x.2.1.tdiv p ∧ wrap64 (x.2.2.tdiv p) = x.2.2.tdiv p := fun x hx hc => by
    obtain ⟨g1, _, g2⟩ := quo_dom hr hp1 hx hc
    exact ⟨g1, g2⟩
  refine ⟨⟨hr, hp1⟩, ?_⟩
  unfold nbL
  generalize sfL (a, b, c) p = L at *
  refine lp_intro (fun k : Nat => ⟨[(1, .one (.i p)), (5, .one (.row 8)), (11, .one (.row 11)), (12, .one (.i L.length)), (13, .one (.i k))], [(11, .row (.recs 27 3 (fl L))), (8, .row (.recs 27 3 (fl (((L.take k).filter (ctP p)).map fun x => rdF (quoF p x)))))]⟩)
    (fun k => k ≤ L.length) (fun k => L.length - k) 0 [] (Nat.zero_le _) (by simp only [Cov, covOk, covFr, covMem, entEq, rn, nodupB, A0.ren, AV.ren, Entry.ren, Entry.norm, look, rem, St.eval, cst, hA, finD, St.drop, vwAt, Entry.vwO, RC.vwO, dropAt, A0.dr, AV.dr, noneNames, viewS, viewV, viewTo, A0.vwT, AV.vwT, viewOk, viewEn, St.res, toOf, Entry.toO, mvTo, A0.mv, AV.mv, A0.mv1, AV.mv1, allHs, AV.hs, A0.hs, Entry.hs, A0.norm, AV.norm, RC.len, RC.flat, setAt, RC.elem, RC.sz, compOf, initFr, Option.getD_some, Option.getD_none, cond_true, cond_false, Nat.reduceBEq, List.map_cons, List.map_nil, List.set_cons_zero, List.set_cons_succ, List.getElem?_cons_zero, List.getElem?_cons_succ, List.drop_zero, List.drop_succ_cons, List.take_succ_cons, List.take_zero, Option.map_some, Option.map_none, Option.bind_some, Nat.zero_add, Nat.add_zero, Nat.reduceAdd, Nat.reduceMul, true_and, and_true, List.replicate_succ, List.replicate_zero, List.length_cons, List.length_nil, List.all_cons, List.all_nil, List.any_cons, List.any_nil, Bool.and_true, Bool.true_and, Bool.and_false, Bool.false_and, Bool.or_true, Bool.true_or, Bool.or_false, Bool.false_or, Bool.not_true, Bool.not_false, List.append_nil, List.nil_append, List.cons_append, List.flatMap_cons, List.flatMap_nil, List.contains_cons, List.contains_nil, List.filter_cons, List.filter_nil, beq_self_eq_true, Bool.not_eq_true, A0.b.injEq, A0.i.injEq, A0.s.injEq, A0.rw.injEq, A0.fn.injEq, List.cons.injEq, RC.ints.injEq, RC.recs.injEq, RC.bools.injEq, RC.mp.injEq, RC.grp.injEq, RC.rows.injEq, MC.ints.injEq, MC.bools.injEq, AV.one.injEq, AV.tup.injEq, ble_dec, blt_dec, Nat.reduceLeDiff, Nat.reduceSub, decide_true, decide_false, and_self, List.toList_toArray, Option.isSome_some, Option.isSome_none, List.elem_nil, List.elem_cons, ite_true, ite_false, Bool.false_eq_true, if_true, if_false, reduceIte, flatB_2, flatB_3, flatB_4, List.headD_cons, List.tail_cons, fl_length]; simp [fl_nil]) fun k hk J hJ => ⟨1000, ?_⟩
  simp only [vc, out, effCopy, finD, St.drop, vwAt, Entry.vwO, RC.vwO, dropAt, A0.dr, AV.dr, noneNames, viewS, viewV, viewTo, A0.vwT, AV.vwT, viewOk, viewEn, appView, hdSlc, A0.mv1, AV.mv1, Entry.toO, toOf, A0.mv, AV.mv, mvTo, St.res, nxtH, makeRows, effMakeSl, storeRow, step, stepE, stepPick, stepG, stepO, stepC, eff, look, rem, St.put, St.setMem, setMems, St.after, St.eval, cst, setAt, val1, okNew, newHs, allHs, rdOf, outHs, Reg.item, Reg.next, Reg.skip, slotOf, effBox, effAlloc, entryRow, fieldOff, effField, loadI, load1, loadR, effLoad, storeI, storeB, storeR, szOk, storeTo, effStore, buildOf, effBuild, binInt, eqI, boolOf, binBool, effBin, effUn, effPick, effExtract, ivs, svs, rowOf, allParts, effBuildSlice, zeroRow, effMakeSlice, elemSz, idxA, idxS, effIndex, lenOf, readOf, subPre, maxRow, plainTI, appTo, effAppend, slcOf, effSlice, argOf, resA, resL, resV, outWr, nodupB, restOk, argsPre, argOk, callWr, effCall, effMax, RC.flat, effBox2, boxPair, compOf, innerOf, innerPre, fieldTwo, loadO, loadN, storeN, buildTwo, effBuild2, buildRows, effBuildSl, appRows, effApp2, plainA, callIn, outsEmpty, callGo, MC.get, MC.has, MC.put, mcTI, keyTI, emptyMC, effMakeMap, mapIn, hOf1, lookV, effLookup, mapBack, effUpdate, effNil, effMin, effIndexV, cutSlc, arrElem, cutOf, wrHs, disj, AV.hs, A0.hs, Entry.hs, RC.elem, RC.sz, RC.len, RC.slice, RC.app, hA, initFr, initMem, initSt, resOf, resAll, compEq, compsEq, rowHs, outHds, outsEq, shapeOk, finOk, comps, A0.norm, AV.norm, specOf, t_int, t_bool, t_implForm, t_lawsForm, t_implMatrix, t_implPoint, ts_int, ts_implForm, ts_implPoint, ts_implMatrix, tm_implForm, tm_implPoint, Option.getD_some, Option.getD_none, cond_true, cond_false, Nat.reduceBEq, List.map_cons, List.map_nil, List.set_cons_zero, List.set_cons_succ, List.getElem?_cons_zero, List.getElem?_cons_succ, List.drop_zero, List.drop_succ_cons, List.take_succ_cons, List.take_zero, Option.map_some, Option.map_none, Option.bind_some, Nat.zero_add, Nat.add_zero, Nat.reduceAdd, Nat.reduceMul, true_and, and_true, List.replicate_succ, List.replicate_zero, List.length_cons, List.length_nil, List.all_cons, List.all_nil, List.any_cons, List.any_nil, Bool.and_true, Bool.true_and, Bool.and_false, Bool.false_and, Bool.or_true, Bool.true_or, Bool.or_false, Bool.false_or, Bool.not_true, Bool.not_false, List.append_nil, List.nil_append, List.cons_append, List.flatMap_cons, List.flatMap_nil, List.contains_cons, List.contains_nil, List.filter_cons, List.filter_nil, beq_self_eq_true, Bool.not_eq_true, A0.b.injEq, A0.i.injEq, A0.s.injEq, A0.rw.injEq, A0.fn.injEq, List.cons.injEq, RC.ints.injEq, RC.recs.injEq, RC.bools.injEq, RC.mp.injEq, RC.grp.injEq, RC.rows.injEq, MC.ints.injEq, MC.bools.injEq, AV.one.injEq, AV.tup.injEq, ble_dec, blt_dec, Nat.reduceLeDiff, Nat.reduceSub, decide_true, decide_false, and_self, List.toList_toArray, Option.isSome_some, Option.isSome_none, List.elem_nil, List.elem_cons, ite_true, ite_false, Bool.false_eq_true, if_true, if_false, reduceIte, flatB_2, flatB_3, flatB_4, List.headD_cons, List.tail_cons, cContent, fContent, cReduced1, fReduced1, rng3, fld3_0, fld3_1, fld3_2, Int.toNat_natCast, fl_length, fl_rdF]
  rw [bif_prop]
  refine ⟨fun hc => ?_, fun hc => ?_⟩
  · have hlt := ilt_iff.1 hc
    have hw := wsucc hlt (Nat.le_trans hlen (by omega))
    have hlt' : k < (fl L).length := by rw [fl_length]; exact hlt
    have ht := unfl_take (fl L) hlt'
    have hm := unfl_mem (fl L) hlt'
    rw [unfl_fl] at ht hm
    have hq := hdom _ hm
    have hnl := nb_take_len (L := L) (p := p) k
    have hp0 : p ≠ 0 := by omega
    refine ⟨⟨by omega, by omega⟩, hlt, ?_⟩
    rw [bif_prop]
    refine ⟨fun h1 => ?_, fun h1 => hJ _ (k + 1) [] hlt (by omega) ?_⟩
    · have h2 : ctP p (nth3 (fl L) k) = true := h1
      obtain ⟨q1, q2, q3, q4⟩ := hq h2
      have q1' : domB ((nth3 (fl L) k).1.tdiv p) ((nth3 (fl L) k).2.1.tdiv p) ((nth3 (fl L) k).2.2.tdiv p) = true := q1
      simp only [q2, q3, q4]
      refine ⟨hp0, hp0, hp0, q1', ?_, by kernel_rfl, hJ _ (k + 1) [(8, 37)] hlt (by omega) ?_⟩
      · rw [List.length_append, List.length_singleton]; omega
      · have q5 : rdF ((nth3 (fl L) k).1.tdiv p, (nth3 (fl L) k).2.1.tdiv p, (nth3 (fl L) k).2.2.tdiv p) = rdF (quoF p (nth3 (fl L) k)) := rfl
        simp only [Cov, covOk, covFr, covMem, entEq, rn, nodupB, A0.ren, AV.ren, Entry.ren, Entry.norm, look, rem, St.eval, cst, hA, finD, St.drop, vwAt, Entry.vwO, RC.vwO, dropAt, A0.dr, AV.dr, noneNames, viewS, viewV, viewTo, A0.vwT, AV.vwT, viewOk, viewEn, St.res, toOf, Entry.toO, mvTo, A0.mv, AV.mv, A0.mv1, AV.mv1, allHs, AV.hs, A0.hs, Entry.hs, A0.norm, AV.norm, RC.len, RC.flat, setAt, RC.elem, RC.sz, compOf, initFr, Option.getD_some, Option.getD_none, cond_true, cond_false, Nat.reduceBEq, List.map_cons, List.map_nil, List.set_cons_zero, List.set_cons_succ, List.getElem?_cons_zero, List.getElem?_cons_succ, List.drop_zero, List.drop_succ_cons, List.take_succ_cons, List.take_zero, Option.map_some, Option.map_none, Option.bind_some, Nat.zero_add, Nat.add_zero, Nat.reduceAdd, Nat.reduceMul, true_and, and_true, List.replicate_succ, List.replicate_zero, List.length_cons, List.length_nil, List.all_cons, List.all_nil, List.any_cons, List.any_nil, Bool.and_true, Bool.true_and, Bool.and_false, Bool.false_and, Bool.or_true, Bool.true_or, Bool.or_false, Bool.false_or, Bool.not_true, Bool.not_false, List.append_nil, List.nil_append, List.cons_append, List.flatMap_cons, List.flatMap_nil, List.contains_cons, List.contains_nil, List.filter_cons, List.filter_nil, beq_self_eq_true, Bool.not_eq_true, A0.b.injEq, A0.i.injEq, A0.s.injEq, A0.rw.injEq, A0.fn.injEq, List.cons.injEq, RC.ints.injEq, RC.recs.injEq, RC.bools.injEq, RC.mp.injEq, RC.grp.injEq, RC.rows.injEq, MC.ints.injEq, MC.bools.injEq, AV.one.injEq, AV.tup.injEq, ble_dec, blt_dec, Nat.reduceLeDiff, Nat.reduceSub, decide_true, decide_false, and_self, List.toList_toArray, Option.isSome_some, Option.isSome_none, List.elem_nil, List.elem_cons, ite_true, ite_false, Bool.false_eq_true, if_true, if_false, reduceIte, flatB_2, flatB_3, flatB_4, List.headD_cons, List.tail_cons, hw, ht, nb_snoc, h2, q5]
    · have h2 : ctP p (nth3 (fl L) k) = false := h1
      simp only [Cov, covOk, covFr, covMem, entEq, rn, nodupB, A0.ren, AV.ren, Entry.ren, Entry.norm, look, rem, St.eval, cst, hA, finD, St.drop, vwAt, Entry.vwO, RC.vwO, dropAt, A0.dr, AV.dr, noneNames, viewS, viewV, viewTo, A0.vwT, AV.vwT, viewOk, viewEn, St.res, toOf, Entry.toO, mvTo, A0.mv, AV.mv, A0.mv1, AV.mv1, allHs, AV.hs, A0.hs, Entry.hs, A0.norm, AV.norm, RC.len, RC.flat, setAt, RC.elem, RC.sz, compOf, initFr, Option.getD_some, Option.getD_none, cond_true, cond_false, Nat.reduceBEq, List.map_cons, List.map_nil, List.set_cons_zero, List.set_cons_succ, List.getElem?_cons_zero, List.getElem?_cons_succ, List.drop_zero, List.drop_succ_cons, List.take_succ_cons, List.take_zero, Option.map_some, Option.map_none, Option.bind_some, Nat.zero_add, Nat.add_zero, Nat.reduceAdd, Nat.reduceMul, true_and, and_true, List.replicate_succ, List.replicate_zero, List.length_cons, List.length_nil, List.all_cons, List.all_nil, List.any_cons, List.any_nil, Bool.and_true, Bool.true_and, Bool.and_false, Bool.false_and, Bool.or_true, Bool.true_or, Bool.or_false, Bool.false_or, Bool.not_true, Bool.not_false, List.append_nil, List.nil_append, List.cons_append, List.flatMap_cons, List.flatMap_nil, List.contains_cons, List.contains_nil, List.filter_cons, List.filter_nil, beq_self_eq_true, Bool.not_eq_true, A0.b.injEq, A0.i.injEq, A0.s.injEq, A0.rw.injEq, A0.fn.injEq, List.cons.injEq, RC.ints.injEq, RC.recs.injEq, RC.bools.injEq, RC.mp.injEq, RC.grp.injEq, RC.rows.injEq, MC.ints.injEq, MC.bools.injEq, AV.one.injEq, AV.tup.injEq, ble_dec, blt_dec, Nat.reduceLeDiff, Nat.reduceSub, decide_true, decide_false, and_self, List.toList_toArray, Option.isSome_some, Option.isSome_none, List.elem_nil, List.elem_cons, ite_true, ite_false, Bool.false_eq_true, if_true, if_false, reduceIte, flatB_2, flatB_3, flatB_4, List.headD_cons, List.tail_cons, hw, ht, nb_snoc, h2, List.append_nil]
  · have := inlt_iff.1 hc
    rw [List.take_of_length_le this]
abbrev fHkNbs : Nat := 24
def cHkNbs : Ctr
  | [.s [a, b, c], .i p] => some ⟨(domB a b c = true ∧ RedP (rdA a b c, rdB a b c, rdC a b c)) ∧ 2 ≤ p ∧ p ≤ 43, .one (.rw (.recs 27 3 (fl (nbL (rdA a b c, rdB a b c, rdC a b c) p)))), []⟩
  | _ => none
theorem okHkNbs : CtrOk Try.prog fHkNbs cHkNbs := by
  have hsp : SpecOk Try.prog (specOf [(fHkForms, cHkForms), (fFoContent, cFoContent), (fReClass, cReClass)]) := (SpecOk.cons okHkForms (SpecOk.cons okFoContent (SpecOk.cons okReClass SpecOk.nil)))
  refine ctr_of (fn := Try.f24) mixed tab_ok hsp Try.func24 (by kernel_rfl) (by kernel_rfl) fun args ce h => ?_
  clear hsp
  unfold cHkNbs at h
  split at h
  case h_2 => cases h
  rename_i a b c p
  simp only [Option.some.injEq] at h
  subst h
  refine ⟨by rfl, fun hp => ⟨1, 1000, ?_⟩⟩
  simp only [vc, out, effCopy, finD, St.drop, vwAt, Entry.vwO, RC.vwO, dropAt, A0.dr, AV.dr, noneNames, viewS, viewV, viewTo, A0.vwT, AV.vwT, viewOk, viewEn, appView, hdSlc, A0.mv1, AV.mv1, Entry.toO, toOf, A0.mv, AV.mv, mvTo, St.res, nxtH, makeRows, effMakeSl, storeRow, step, stepE, stepPick, stepG, stepO, stepC, eff, look, rem, St.put, St.setMem, setMems, St.after, St.eval, cst, setAt, val1, okNew, newHs, allHs, rdOf, outHs, Reg.item, Reg.next, Reg.skip, slotOf, effBox, effAlloc, entryRow, fieldOff, effField, loadI, load1, loadR, effLoad, storeI, storeB, storeR, szOk, storeTo, effStore, buildOf, effBuild, binInt, eqI, boolOf, binBool, effBin, effUn, effPick, effExtract, ivs, svs, rowOf, allParts, effBuildSlice, zeroRow, effMakeSlice, elemSz, idxA, idxS, effIndex, lenOf, readOf, subPre, maxRow, plainTI, appTo, effAppend, slcOf, effSlice, argOf, resA, resL, resV, outWr, nodupB, restOk, argsPre, argOk, callWr, effCall, effMax, RC.flat, effBox2, boxPair, compOf, innerOf, innerPre, fieldTwo, loadO, loadN, storeN, buildTwo, effBuild2, buildRows, effBuildSl, appRows, effApp2, plainA, callIn, outsEmpty, callGo, MC.get, MC.has, MC.put, mcTI, keyTI, emptyMC, effMakeMap, mapIn, hOf1, lookV, effLookup, mapBack, effUpdate, effNil, effMin, effIndexV, cutSlc, arrElem, cutOf, wrHs, disj, AV.hs, A0.hs, Entry.hs, RC.elem, RC.sz, RC.len, RC.slice, RC.app, hA, initFr, initMem, initSt, resOf, resAll, compEq, compsEq, rowHs, outHds, outsEq, shapeOk, finOk, comps, A0.norm, AV.norm, specOf, t_int, t_bool, t_implForm, t_lawsForm, t_implMatrix, t_implPoint, ts_int, ts_implForm, ts_implPoint, ts_implMatrix, tm_implForm, tm_implPoint, Option.getD_some, Option.getD_none, cond_true, cond_false, Nat.reduceBEq, List.map_cons, List.map_nil, List.set_cons_zero, List.set_cons_succ, List.getElem?_cons_zero, List.getElem?_cons_succ, List.drop_zero, List.drop_succ_cons, List.take_succ_cons, List.take_zero, Option.map_some, Option.map_none, Option.bind_some, Nat.zero_add, Nat.add_zero, Nat.reduceAdd, Nat.reduceMul, true_and, and_true, List.replicate_succ, List.replicate_zero, List.length_cons, List.length_nil, List.all_cons, List.all_nil, List.any_cons, List.any_nil, Bool.and_true, Bool.true_and, Bool.and_false, Bool.false_and, Bool.or_true, Bool.true_or, Bool.or_false, Bool.false_or, Bool.not_true, Bool.not_false, List.append_nil, List.nil_append, List.cons_append, List.flatMap_cons, List.flatMap_nil, List.contains_cons, List.contains_nil, List.filter_cons, List.filter_nil, beq_self_eq_true, Bool.not_eq_true, A0.b.injEq, A0.i.injEq, A0.s.injEq, A0.rw.injEq, A0.fn.injEq, List.cons.injEq, RC.ints.injEq, RC.recs.injEq, RC.bools.injEq, RC.mp.injEq, RC.grp.injEq, RC.rows.injEq, MC.ints.injEq, MC.bools.injEq, AV.one.injEq, AV.tup.injEq, ble_dec, blt_dec, Nat.reduceLeDiff, Nat.reduceSub, decide_true, decide_false, and_self, List.toList_toArray, Option.isSome_some, Option.isSome_none, List.elem_nil, List.elem_cons, ite_true, ite_false, Bool.false_eq_true, if_true, if_false, reduceIte, flatB_2, flatB_3, flatB_4, List.headD_cons, List.tail_cons, cHkForms, fHkForms, cFoContent, fFoContent, cReClass, fReClass, Try.f24]
  obtain ⟨⟨hd, hr⟩, hp1⟩ : (domB a b c = true ∧ RedP (rdA a b c, rdB a b c, rdC a b c)) ∧ 2 ≤ p ∧ p ≤ 43 := hp
  have hlen := sfL_len (rdA a b c, rdB a b c, rdC a b c) hp1
  have hdom : ∀ x ∈ sfL (rdA a b c, rdB a b c, rdC a b c) p, ctP p x = true → domB (quoF p x).1 (quoF p x).2.1 (quoF p x).2.2 = true ∧ wrap64 (x.1.tdiv p) = x.1.tdiv p ∧ wrap64 (x.2.1.tdiv p) = x.2.1.tdiv p ∧ wrap64 (x.2.2.tdiv p) = x.2.2.tdiv p := fun x hx hc => by
    obtain ⟨g1, _, g2⟩ := quo_dom hr hp1 hx hc
    exact ⟨g1, g2⟩
  have hct : ∀ x ∈ sfL (rdA a b c, rdB a b c, rdC a b c) p, (nuGcdI (nuGcdI x.1 x.2.1) x.2.2 == p) = ctP p x := fun x hx => by
    obtain ⟨_, g1, g2, g3, _⟩ := sfL_dom hr hp1 hx
    unfold ctP
    rw [content_eq (by omega) (by omega) (by omega)]
  refine ⟨⟨⟨hd, hr⟩, hp1⟩, ?_⟩
  unfold nbL
  generalize sfL (rdA a b c, rdB a b c, rdC a b c) p = L at *
  refine lp_seed [(5, 2000000, .recs 27 3 [])] (fun k : Nat => ⟨[(1, .one (.i p)), (5, .one (.row 2000000)), (10, .one (.row 10)), (11, .one (.i L.length)), (12, .one (.i k))], [(10, .row (.recs 27 3 (fl L))), (2000000, .row (.recs 27 3 (fl (((L.take k).filter (ctP p)).map fun x => rdF (quoF p x)))))]⟩)
    (fun k => k ≤ L.length) (fun k => L.length - k) 0 [] (by kernel_rfl) (Nat.zero_le _) (by simp only [Cov, covOk, covFr, covMem, entEq, rn, nodupB, A0.ren, AV.ren, Entry.ren, Entry.norm, look, rem, St.eval, cst, hA, finD, St.drop, vwAt, Entry.vwO, RC.vwO, dropAt, A0.dr, AV.dr, noneNames, viewS, viewV, viewTo, A0.vwT, AV.vwT, viewOk, viewEn, St.res, toOf, Entry.toO, mvTo, A0.mv, AV.mv, A0.mv1, AV.mv1, allHs, AV.hs, A0.hs, Entry.hs, A0.norm, AV.norm, RC.len, RC.flat, setAt, RC.elem, RC.sz, compOf, initFr, Option.getD_some, Option.getD_none, cond_true, cond_false, Nat.reduceBEq, List.map_cons, List.map_nil, List.set_cons_zero, List.set_cons_succ, List.getElem?_cons_zero, List.getElem?_cons_succ, List.drop_zero, List.drop_succ_cons, List.take_succ_cons, List.take_zero, Option.map_some, Option.map_none, Option.bind_some, Nat.zero_add, Nat.add_zero, Nat.reduceAdd, Nat.reduceMul, true_and, and_true, List.replicate_succ, List.replicate_zero, List.length_cons, List.length_nil, List.all_cons, List.all_nil, List.any_cons, List.any_nil, Bool.and_true, Bool.true_and, Bool.and_false, Bool.false_and, Bool.or_true, Bool.true_or, Bool.or_false, Bool.false_or, Bool.not_true, Bool.not_false, List.append_nil, List.nil_append, List.cons_append, List.flatMap_cons, List.flatMap_nil, List.contains_cons, List.contains_nil, List.filter_cons, List.filter_nil, beq_self_eq_true, Bool.not_eq_true, A0.b.injEq, A0.i.injEq, A0.s.injEq, A0.rw.injEq, A0.fn.injEq, List.cons.injEq, RC.ints.injEq, RC.recs.injEq, RC.bools.injEq, RC.mp.injEq, RC.grp.injEq, RC.rows.injEq, MC.ints.injEq, MC.bools.injEq, AV.one.injEq, AV.tup.injEq, ble_dec, blt_dec, Nat.reduceLeDiff, Nat.reduceSub, decide_true, decide_false, and_self, List.toList_toArray, Option.isSome_some, Option.isSome_none, List.elem_nil, List.elem_cons, ite_true, ite_false, Bool.false_eq_true, if_true, if_false, reduceIte, flatB_2, flatB_3, flatB_4, List.headD_cons, List.tail_cons, fl_length, seeds, seed1]; simp [fl_nil]) fun k hk J hJ => ⟨1000, ?_⟩
  simp only [vc, out, effCopy, finD, St.drop, vwAt, Entry.vwO, RC.vwO, dropAt, A0.dr, AV.dr, noneNames, viewS, viewV, viewTo, A0.vwT, AV.vwT, viewOk, viewEn, appView, hdSlc, A0.mv1, AV.mv1, Entry.toO, toOf, A0.mv, AV.mv, mvTo, St.res, nxtH, makeRows, effMakeSl, storeRow, step, stepE, stepPick, stepG, stepO, stepC, eff, look, rem, St.put, St.setMem, setMems, St.after, St.eval, cst, setAt, val1, okNew, newHs, allHs, rdOf, outHs, Reg.item, Reg.next, Reg.skip, slotOf, effBox, effAlloc, entryRow, fieldOff, effField, loadI, load1, loadR, effLoad, storeI, storeB, storeR, szOk, storeTo, effStore, buildOf, effBuild, binInt, eqI, boolOf, binBool, effBin, effUn, effPick, effExtract, ivs, svs, rowOf, allParts, effBuildSlice, zeroRow, effMakeSlice, elemSz, idxA, idxS, effIndex, lenOf, readOf, subPre, maxRow, plainTI, appTo, effAppend, slcOf, effSlice, argOf, resA, resL, resV, outWr, nodupB, restOk, argsPre, argOk, callWr, effCall, effMax, RC.flat, effBox2, boxPair, compOf, innerOf, innerPre, fieldTwo, loadO, loadN, storeN, buildTwo, effBuild2, buildRows, effBuildSl, appRows, effApp2, plainA, callIn, outsEmpty, callGo, MC.get, MC.has, MC.put, mcTI, keyTI, emptyMC, effMakeMap, mapIn, hOf1, lookV, effLookup, mapBack, effUpdate, effNil, effMin, effIndexV, cutSlc, arrElem, cutOf, wrHs, disj, AV.hs, A0.hs, Entry.hs, RC.elem, RC.sz, RC.len, RC.slice, RC.app, hA, initFr, initMem, initSt, resOf, resAll, compEq, compsEq, rowHs, outHds, outsEq, shapeOk, finOk, comps, A0.norm, AV.norm, specOf, t_int, t_bool, t_implForm, t_lawsForm, t_implMatrix, t_implPoint, ts_int, ts_implForm, ts_implPoint, ts_implMatrix, tm_implForm, tm_implPoint, Option.getD_some, Option.getD_none, cond_true, cond_false, Nat.reduceBEq, List.map_cons, List.map_nil, List.set_cons_zero, List.set_cons_succ, List.getElem?_cons_zero, List.getElem?_cons_succ, List.drop_zero, List.drop_succ_cons, List.take_succ_cons, List.take_zero, Option.map_some, Option.map_none, Option.bind_some, Nat.zero_add, Nat.add_zero, Nat.reduceAdd, Nat.reduceMul, true_and, and_true, List.replicate_succ, List.replicate_zero, List.length_cons, List.length_nil, List.all_cons, List.all_nil, List.any_cons, List.any_nil, Bool.and_true, Bool.true_and, Bool.and_false, Bool.false_and, Bool.or_true, Bool.true_or, Bool.or_false, Bool.false_or, Bool.not_true, Bool.not_false, List.append_nil, List.nil_append, List.cons_append, List.flatMap_cons, List.flatMap_nil, List.contains_cons, List.contains_nil, List.filter_cons, List.filter_nil, beq_self_eq_true, Bool.not_eq_true, A0.b.injEq, A0.i.injEq, A0.s.injEq, A0.rw.injEq, A0.fn.injEq, List.cons.injEq, RC.ints.injEq, RC.recs.injEq, RC.bools.injEq, RC.mp.injEq, RC.grp.injEq, RC.rows.injEq, MC.ints.injEq, MC.bools.injEq, AV.one.injEq, AV.tup.injEq, ble_dec, blt_dec, Nat.reduceLeDiff, Nat.reduceSub, decide_true, decide_false, and_self, List.toList_toArray, Option.isSome_some, Option.isSome_none, List.elem_nil, List.elem_cons, ite_true, ite_false, Bool.false_eq_true, if_true, if_false, reduceIte, flatB_2, flatB_3, flatB_4, List.headD_cons, List.tail_cons, cFoContent, fFoContent, cReClass, fReClass, rng3, fld3_0, fld3_1, fld3_2, Int.toNat_natCast, fl_length, fl_rdF]
  rw [bif_prop]
  refine ⟨fun hc => ?_, fun hc => ?_⟩
  · have hlt := ilt_iff.1 hc
    have hw := wsucc hlt (Nat.le_trans hlen (by omega))
    have hlt' : k < (fl L).length := by rw [fl_length]; exact hlt
    have ht := unfl_take (fl L) hlt'
    have hm := unfl_mem (fl L) hlt'
    rw [unfl_fl] at ht hm
    have hq := hdom _ hm
    have hnl := nb_take_len (L := L) (p := p) k
    have hp0 : p ≠ 0 := by omega
    rw [hct _ hm]
    refine ⟨⟨by omega, by omega⟩, hlt, ?_⟩
    rw [bif_prop]
    refine ⟨fun h2 => ?_, fun h2 => hJ _ (k + 1) [] hlt (by omega) ?_⟩
    · obtain ⟨q1, q2, q3, q4⟩ := hq h2
      have q1' : domB ((nth3 (fl L) k).1.tdiv p) ((nth3 (fl L) k).2.1.tdiv p) ((nth3 (fl L) k).2.2.tdiv p) = true := q1
      simp only [q2, q3, q4]
      refine ⟨hp0, hp0, hp0, q1', ?_, by kernel_rfl, hJ _ (k + 1) [(2000000, 36)] hlt (by omega) ?_⟩
      · rw [List.length_append, List.length_singleton]; omega
      · have q5 : rdF ((nth3 (fl L) k).1.tdiv p, (nth3 (fl L) k).2.1.tdiv p, (nth3 (fl L) k).2.2.tdiv p) = rdF (quoF p (nth3 (fl L) k)) := rfl
        simp only [Cov, covOk, covFr, covMem, entEq, rn, nodupB, A0.ren, AV.ren, Entry.ren, Entry.norm, look, rem, St.eval, cst, hA, finD, St.drop, vwAt, Entry.vwO, RC.vwO, dropAt, A0.dr, AV.dr, noneNames, viewS, viewV, viewTo, A0.vwT, AV.vwT, viewOk, viewEn, St.res, toOf, Entry.toO, mvTo, A0.mv, AV.mv, A0.mv1, AV.mv1, allHs, AV.hs, A0.hs, Entry.hs, A0.norm, AV.norm, RC.len, RC.flat, setAt, RC.elem, RC.sz, compOf, initFr, Option.getD_some, Option.getD_none, cond_true, cond_false, Nat.reduceBEq, List.map_cons, List.map_nil, List.set_cons_zero, List.set_cons_succ, List.getElem?_cons_zero, List.getElem?_cons_succ, List.drop_zero, List.drop_succ_cons, List.take_succ_cons, List.take_zero, Option.map_some, Option.map_none, Option.bind_some, Nat.zero_add, Nat.add_zero, Nat.reduceAdd, Nat.reduceMul, true_and, and_true, List.replicate_succ, List.replicate_zero, List.length_cons, List.length_nil, List.all_cons, List.all_nil, List.any_cons, List.any_nil, Bool.and_true, Bool.true_and, Bool.and_false, Bool.false_and, Bool.or_true, Bool.true_or, Bool.or_false, Bool.false_or, Bool.not_true, Bool.not_false, List.append_nil, List.nil_append, List.cons_append, List.flatMap_cons, List.flatMap_nil, List.contains_cons, List.contains_nil, List.filter_cons, List.filter_nil, beq_self_eq_true, Bool.not_eq_true, A0.b.injEq, A0.i.injEq, A0.s.injEq, A0.rw.injEq, A0.fn.injEq, List.cons.injEq, RC.ints.injEq, RC.recs.injEq, RC.bools.injEq, RC.mp.injEq, RC.grp.injEq, RC.rows.injEq, MC.ints.injEq, MC.bools.injEq, AV.one.injEq, AV.tup.injEq, ble_dec, blt_dec, Nat.reduceLeDiff, Nat.reduceSub, decide_true, decide_false, and_self, List.toList_toArray, Option.isSome_some, Option.isSome_none, List.elem_nil, List.elem_cons, ite_true, ite_false, Bool.false_eq_true, if_true, if_false, reduceIte, flatB_2, flatB_3, flatB_4, List.headD_cons, List.tail_cons, hw, ht, nb_snoc, h2, q5]
    · simp only [Cov, covOk, covFr, covMem, entEq, rn, nodupB, A0.ren, AV.ren, Entry.ren, Entry.norm, look, rem, St.eval, cst, hA, finD, St.drop, vwAt, Entry.vwO, RC.vwO, dropAt, A0.dr, AV.dr, noneNames, viewS, viewV, viewTo, A0.vwT, AV.vwT, viewOk, viewEn, St.res, toOf, Entry.toO, mvTo, A0.mv, AV.mv, A0.mv1, AV.mv1, allHs, AV.hs, A0.hs, Entry.hs, A0.norm, AV.norm, RC.len, RC.flat, setAt, RC.elem, RC.sz, compOf, initFr, Option.getD_some, Option.getD_none, cond_true, cond_false, Nat.reduceBEq, List.map_cons, List.map_nil, List.set_cons_zero, List.set_cons_succ, List.getElem?_cons_zero, List.getElem?_cons_succ, List.drop_zero, List.drop_succ_cons, List.take_succ_cons, List.take_zero, Option.map_some, Option.map_none, Option.bind_some, Nat.zero_add, Nat.add_zero, Nat.reduceAdd, Nat.reduceMul, true_and, and_true, List.replicate_succ, List.replicate_zero, List.length_cons, List.length_nil, List.all_cons, List.all_nil, List.any_cons, List.any_nil, Bool.and_true, Bool.true_and, Bool.and_false, Bool.false_and, Bool.or_true, Bool.true_or, Bool.or_false, Bool.false_or, Bool.not_true, Bool.not_false, List.append_nil, List.nil_append, List.cons_append, List.flatMap_cons, List.flatMap_nil, List.contains_cons, List.contains_nil, List.filter_cons, List.filter_nil, beq_self_eq_true, Bool.not_eq_true, A0.b.injEq, A0.i.injEq, A0.s.injEq, A0.rw.injEq, A0.fn.injEq, List.cons.injEq, RC.ints.injEq, RC.recs.injEq, RC.bools.injEq, RC.mp.injEq, RC.grp.injEq, RC.rows.injEq, MC.ints.injEq, MC.bools.injEq, AV.one.injEq, AV.tup.injEq, ble_dec, blt_dec, Nat.reduceLeDiff, Nat.reduceSub, decide_true, decide_false, and_self, List.toList_toArray, Option.isSome_some, Option.isSome_none, List.elem_nil, List.elem_cons, ite_true, ite_false, Bool.false_eq_true, if_true, if_false, reduceIte, flatB_2, flatB_3, flatB_4, List.headD_cons, List.tail_cons, hw, ht, nb_snoc, h2, List.append_nil]
  · have := inlt_iff.1 hc
    rw [List.take_of_length_le this]
def nbcL (a b c p : Int) : List F3 := nbL (rdA a b c, rdB a b c, rdC a b c) p
theorem nbL_len (f : F3) {p : Int} (hp : 2 ≤ p ∧ p ≤ 43) : (nbL f p).length ≤ 50 := by
  unfold nbL
  rw [List.length_map]
  exact Nat.le_trans (List.length_filter_le _ _) (sfL_len f hp)
-- (not in this seat: NbCl)
-- (not in this seat: SNbCl)
-- (not in this seat: LawNbCl)
end Go.Proofs.Ytclpoenfcpefmaa
