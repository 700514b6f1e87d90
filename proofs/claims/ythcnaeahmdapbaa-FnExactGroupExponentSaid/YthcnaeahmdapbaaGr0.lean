/-
  Contracts of a class group's list and of the map of its places, and of places in a list, on both sides. Conditions: none.
-/
import Derived.Test.YthcnaeahmdapbaaUn
import Derived.Test.YthcnaeahmdapbaaGea
import Derived.Test.YthcnaeahmdapbaaIte
namespace Go.Proofs.Ythcnaeahmdapbaa
open Go Go.RowKit
set_option maxRecDepth 100000
set_option linter.unusedSimpArgs false
set_option linter.unusedVariables false
set_option maxHeartbeats 4000000

theorem prim_gcd {f : F3} (h : Prim f) : Int.gcd f.1 (Int.gcd f.2.1 f.2.2 : Nat) = 1 := by
  obtain ⟨x, y, z, hz⟩ := h
  have d1 : ((Int.gcd f.1 (Int.gcd f.2.1 f.2.2 : Nat) : Nat) : Int) ∣ f.1 := Int.gcd_dvd_left ..
  have d0 : ((Int.gcd f.1 (Int.gcd f.2.1 f.2.2 : Nat) : Nat) : Int) ∣ ((Int.gcd f.2.1 f.2.2 : Nat) : Int) := Int.gcd_dvd_right ..
  have d2 := Int.dvd_trans d0 (Int.gcd_dvd_left (a := f.2.1) (b := f.2.2))
  have d3 := Int.dvd_trans d0 (Int.gcd_dvd_right (a := f.2.1) (b := f.2.2))
  have d : ((Int.gcd f.1 (Int.gcd f.2.1 f.2.2 : Nat) : Nat) : Int) ∣ 1 := by
    rw [← hz]
    exact Int.dvd_add (Int.dvd_add (Int.dvd_mul_of_dvd_right d1) (Int.dvd_mul_of_dvd_right d2)) (Int.dvd_mul_of_dvd_right d3)
  have := Int.le_of_dvd (by omega) d
  have h0 : Int.gcd f.1 (Int.gcd f.2.1 f.2.2 : Nat) ≠ 0 := fun h => by
    rw [h] at d
    have := Int.zero_dvd.1 d
    omega
  omega
theorem rp_mem {D : Int} {g : F3} (h : RP D g) : g ∈ redF D := by
  have ha := h.a25
  have hb := h.red.abs
  have hc := h.c700
  refine (mem_redF ⟨h.lo, h.hi⟩).2 ⟨h.red, ?_⟩
  have hg := prim_gcd h.prim
  have k := gcd_le (a := g.2.1) (b := g.2.2) (by omega) (by omega)
  unfold primB
  rw [gcdI_eq (a := g.2.1) (by omega) (by omega), gcdI_eq (by omega) (by omega), hg]
  rfl
/-! ### places in a list -/
def ixM (L : List F3) : List (List Int × Int) := L.zipIdx.map fun p => (p.1.l, (p.2 : Int))
theorem l_inj {x y : F3} : x.l = y.l ↔ x = y := by
  obtain ⟨a, b, c⟩ := x
  obtain ⟨a', b', c'⟩ := y
  simp [F3.l]
theorem l_beq (x y : F3) : (x.l == y.l) = decide (x = y) := by
  rw [Bool.eq_iff_iff, beq_iff_eq, decide_eq_true_iff, l_inj]
theorem getL_ixk (x : F3) : ∀ (L : List F3) (k : Nat), x ∈ L → getL (0 : Int) x.l ((L.zipIdx k).map fun p => (p.1.l, (p.2 : Int))) = ((k + L.idxOf x : Nat) : Int)
  | [], _, h => by cases h
  | y :: L, k, h => by
    simp only [List.zipIdx_cons, List.map_cons, getL, l_beq, List.idxOf_cons]
    by_cases hy : y = x
    · subst hy; simp
    · have hb : (y == x) = false := by simpa using hy
      have hm : x ∈ L := by
        rcases List.mem_cons.1 h with h | h
        · exact absurd h.symm hy
        · exact h
      rw [hb, decide_eq_false hy, cond_false, cond_false, getL_ixk x L (k + 1) hm]
      congr 1
      omega
theorem getL_ix {L : List F3} {a b c : Int} (h : (a, b, c) ∈ L) : getL (0 : Int) [a, b, c] (ixM L) = ((L.idxOf (a, b, c) : Nat) : Int) := by
  have := getL_ixk (a, b, c) L 0 h
  rw [Nat.zero_add] at this
  exact this
theorem putL_new {α : Type} (x : F3) (v : α) : ∀ (l : List (List Int × α)), (∀ p ∈ l, p.1 ≠ x.l) → putL x.l v l = l ++ [(x.l, v)]
  | [], _ => rfl
  | p :: l, h => by
    have hp : (p.1 == x.l) = false := by simpa using h p (by simp)
    simp only [putL, hp, cond_false, putL_new x v l fun q hq => h q (by simp [hq]), List.cons_append]
theorem nd_not {L : List F3} (hn : L.Nodup) {k : Nat} (hk : k < (fl L).length) : nth3 (fl L) k ∉ L.take k := by
  have ht := unfl_take (fl L) hk
  rw [unfl_fl] at ht
  have h1 : (L.take (k + 1)).Nodup := hn.sublist (List.take_sublist _ _)
  rw [ht] at h1
  intro hm
  exact (List.nodup_append.1 h1).2.2 _ hm _ (by simp) rfl
theorem ixM_take {L : List F3} (hn : L.Nodup) {k : Nat} (hk : k < (fl L).length) : putL [(nth3 (fl L) k).1, (nth3 (fl L) k).2.1, (nth3 (fl L) k).2.2] (k : Int) (ixM (L.take k)) = ixM (L.take (k + 1)) := by
  have ht := unfl_take (fl L) hk
  rw [unfl_fl] at ht
  have hkl : k < L.length := by rwa [fl_length] at hk
  have hlen : (L.take k).length = k := by rw [List.length_take]; omega
  have hnot := nd_not hn hk
  have e : ixM (L.take (k + 1)) = ixM (L.take k) ++ [((nth3 (fl L) k).l, (k : Int))] := by
    rw [ht]
    unfold ixM
    rw [List.zipIdx_append, List.map_append, hlen]
    simp
  rw [e]
  refine putL_new (nth3 (fl L) k) (k : Int) _ fun p hp => ?_
  unfold ixM at hp
  obtain ⟨q, hq, rfl⟩ := List.mem_map.1 hp
  intro he
  have h3 : q.1 = nth3 (fl L) k := l_inj.1 he
  have h4 : q.1 ∈ L.take k := by
    obtain ⟨_, h5, h6⟩ := List.mem_zipIdx hq
    rw [h6]; exact List.getElem_mem _
  exact hnot (h3 ▸ h4)
/-! ### the list of classes -/
theorem mem_redF_rp {d : Int} (hd : -2000 ≤ d ∧ d ≤ -3) {x : F3} : x ∈ redF d ↔ RP d x := by
  refine ⟨fun h => ?_, rp_mem⟩
  obtain ⟨h1, h2⟩ := (mem_redF hd).1 h
  have h3 := h1.small hd.1
  obtain ⟨a, b, c⟩ := x
  simp only at h3
  unfold primB at h2
  simp only [beq_iff_eq] at h2
  have k := gcd_le (a := b) (b := c) (by omega) (by omega)
  rw [gcdI_eq (a := b) (by omega) (by omega), gcdI_eq (by omega) (by omega)] at h2
  exact ⟨h1, prim_of (by omega), hd.1, hd.2⟩
theorem allB_nodup (d a b : Int) : (allB d a b).Nodup := by
  fun_induction allB d a b with
  | case1 b h ih =>
    refine List.nodup_append.2 ⟨by split <;> simp, ih, fun x hx y hy he => ?_⟩
    subst he
    have h2 := (mem_allB (d := d) (a := a) (x := x) (b + 1)).1 hy
    split at hx
    · rw [List.mem_singleton] at hx
      subst hx
      simp only at h2
      omega
    · cases hx
  | case2 b h => simp
theorem allA_nodup (d a : Int) (ha : 0 < a) : (allA d a).Nodup := by
  fun_induction allA d a with
  | case1 a h ih =>
    refine List.nodup_append.2 ⟨allB_nodup _ _ _, ih (by omega), fun x hx y hy he => ?_⟩
    subst he
    have h1 := (mem_allA (a + 1) (by omega)).1 hy
    have h2 := (mem_allB _).1 hx
    omega
  | case2 a h => simp
theorem redF_nodup (d : Int) : (redF d).Nodup := (allA_nodup d 1 (by omega)).filter _
theorem nth_mem {d : Int} (h : negB d = true) {i : Nat} (hi : i < (fl (redF d)).length) : RP d (nth3 (fl (redF d)) i) := by
  have := unfl_mem (fl (redF d)) hi
  rw [unfl_fl] at this
  exact (mem_redF_rp (negB_in h)).1 this
theorem rp_rd3 {D : Int} {x : F3} (h : RP D x) : (rdA x.1 x.2.1 x.2.2, rdB x.1 x.2.1 x.2.2, rdC x.1 x.2.1 x.2.2) = x := by
  have h1 : (rdA x.1 x.2.1 x.2.2, rdB x.1 x.2.1 x.2.2, rdC x.1 x.2.1 x.2.2) = rdx x := rd3_eq h.dom
  rw [h1]
  exact rdx_of_red (red_of h.red (by have := h.a25; omega))
/-! ### the walks -/
abbrev fGroupOf : Nat := 11
def cGroupOf : Ctr
  | [.i d] => some ⟨-2000 ≤ d ∧ d ≤ -3, .one (.rw (.grp 39 3 (fl (redF d)) 3 (.ints (ixM (redF d))))), []⟩
  | _ => none
theorem okGroupOf : CtrOk Try.prog fGroupOf cGroupOf := by
  have hsp : SpecOk Try.prog (specOf [(fRedForms, cRedForms)]) := (SpecOk.cons okRedForms SpecOk.nil)
  refine ctr_of (fn := Try.f11) mixed tab_ok hsp Try.func11 (by kernel_rfl) (by kernel_rfl) fun args ce h => ?_
  clear hsp
  unfold cGroupOf at h
  split at h
  case h_2 => cases h
  rename_i d
  simp only [Option.some.injEq] at h
  subst h
  refine ⟨by rfl, fun hp => ⟨1, 1000, ?_⟩⟩
  simp only [↓cond_to_ite, ↓reduceIte, vc, out, effCopy, finD, St.drop, vwAt, Entry.vwO, RC.vwO, dropAt, A0.dr, AV.dr, noneNames, viewS, viewV, viewTo, A0.vwT, AV.vwT, viewOk, viewEn, appView, hdSlc, A0.mv1, AV.mv1, Entry.toO, toOf, A0.mv, AV.mv, mvTo, St.res, nxtH, makeRows, effMakeSl, storeRow, step, stepE, stepPick, stepG, stepO, stepC, eff, look, rem, St.put, St.setMem, setMems, St.after, St.eval, cst, setAt, val1, okNew, newHs, allHs, rdOf, outHs, Reg.item, Reg.next, Reg.skip, slotOf, effBox, effAlloc, entryRow, fieldOff, effField, loadI, load1, loadR, effLoad, storeI, storeB, storeR, szOk, storeTo, effStore, buildOf, effBuild, binInt, eqI, boolOf, binBool, effBin, effUn, effPick, effExtract, ivs, svs, rowOf, allParts, effBuildSlice, zeroRow, effMakeSlice, elemSz, idxA, idxS, effIndex, lenOf, readOf, subPre, maxRow, plainTI, appTo, effAppend, slcOf, effSlice, argOf, resA, resL, resV, outWr, nodupB, restOk, argsPre, argOk, callWr, effCall, effMax, RC.flat, effBox2, boxPair, compOf, innerOf, innerPre, fieldTwo, loadO, loadN, storeN, buildTwo, effBuild2, buildRows, effBuildSl, appRows, effApp2, plainA, callIn, outsEmpty, callGo, MC.get, MC.has, MC.put, mcTI, keyTI, emptyMC, effMakeMap, mapIn, hOf1, lookV, effLookup, mapBack, effUpdate, effNil, effMin, effIndexV, cutSlc, arrElem, cutOf, wrHs, disj, AV.hs, A0.hs, Entry.hs, RC.elem, RC.sz, RC.len, RC.slice, RC.app, hA, initFr, initMem, initSt, resOf, resAll, compEq, compsEq, rowHs, outHds, outsEq, shapeOk, finOk, comps, A0.norm, AV.norm, specOf, t_int, t_bool, t_implForm, t_implMatrix, t_implunited, ts_int, ts_implForm, tss_int, tm_implForm, t_implclassGroup, Option.getD_some, Option.getD_none, cond_true, cond_false, Nat.reduceBEq, List.map_cons, List.map_nil, List.set_cons_zero, List.set_cons_succ, List.getElem?_cons_zero, List.getElem?_cons_succ, List.drop_zero, List.drop_succ_cons, List.take_succ_cons, List.take_zero, Option.map_some, Option.map_none, Option.bind_some, Nat.zero_add, Nat.add_zero, Nat.reduceAdd, Nat.reduceMul, true_and, and_true, List.replicate_succ, List.replicate_zero, List.length_cons, List.length_nil, List.all_cons, List.all_nil, List.any_cons, List.any_nil, Bool.and_true, Bool.true_and, Bool.and_false, Bool.false_and, Bool.or_true, Bool.true_or, Bool.or_false, Bool.false_or, Bool.not_true, Bool.not_false, List.append_nil, List.nil_append, List.cons_append, List.flatMap_cons, List.flatMap_nil, List.contains_cons, List.contains_nil, List.filter_cons, List.filter_nil, beq_self_eq_true, Bool.not_eq_true, A0.b.injEq, A0.i.injEq, A0.s.injEq, A0.rw.injEq, A0.fn.injEq, List.cons.injEq, RC.ints.injEq, RC.recs.injEq, RC.bools.injEq, RC.mp.injEq, RC.grp.injEq, RC.rows.injEq, MC.ints.injEq, MC.bools.injEq, AV.one.injEq, AV.tup.injEq, ble_dec, blt_dec, Nat.reduceLeDiff, Nat.reduceSub, decide_true, decide_false, and_self, List.toList_toArray, Option.isSome_some, Option.isSome_none, List.elem_nil, List.elem_cons, ite_true, ite_false, Bool.false_eq_true, if_true, if_false, reduceIte, flatB_2, flatB_3, flatB_4, List.headD_cons, List.tail_cons, cRedForms, fRedForms, Try.f11]
  have hd : -2000 ≤ d ∧ d ≤ -3 := hp
  have hlen := redF_len hd.1
  have hnd := redF_nodup d
  refine ⟨hd, ?_⟩
  generalize redF d = L at *
  refine lp_intro (fun k : Nat => ⟨[(3, .one (.co 10)), (14, .one (.ci 10 0)), (15, .one (.i L.length)), (16, .one (.i k))], [(10, .row (.grp 39 3 (fl L) 3 (.ints (ixM (L.take k)))))]⟩)
    (fun k => k ≤ L.length) (fun k => L.length - k) 0 [] (Nat.zero_le _) (by simp only [Cov, covOk, covFr, covMem, entEq, rn, nodupB, A0.ren, AV.ren, Entry.ren, Entry.norm, look, rem, St.eval, cst, hA, finD, St.drop, vwAt, Entry.vwO, RC.vwO, dropAt, A0.dr, AV.dr, noneNames, viewS, viewV, viewTo, A0.vwT, AV.vwT, viewOk, viewEn, St.res, toOf, Entry.toO, mvTo, A0.mv, AV.mv, A0.mv1, AV.mv1, allHs, AV.hs, A0.hs, Entry.hs, A0.norm, AV.norm, RC.len, RC.flat, setAt, RC.elem, RC.sz, compOf, initFr, Option.getD_some, Option.getD_none, cond_true, cond_false, Nat.reduceBEq, List.map_cons, List.map_nil, List.set_cons_zero, List.set_cons_succ, List.getElem?_cons_zero, List.getElem?_cons_succ, List.drop_zero, List.drop_succ_cons, List.take_succ_cons, List.take_zero, Option.map_some, Option.map_none, Option.bind_some, Nat.zero_add, Nat.add_zero, Nat.reduceAdd, Nat.reduceMul, true_and, and_true, List.replicate_succ, List.replicate_zero, List.length_cons, List.length_nil, List.all_cons, List.all_nil, List.any_cons, List.any_nil, Bool.and_true, Bool.true_and, Bool.and_false, Bool.false_and, Bool.or_true, Bool.true_or, Bool.or_false, Bool.false_or, Bool.not_true, Bool.not_false, List.append_nil, List.nil_append, List.cons_append, List.flatMap_cons, List.flatMap_nil, List.contains_cons, List.contains_nil, List.filter_cons, List.filter_nil, beq_self_eq_true, Bool.not_eq_true, A0.b.injEq, A0.i.injEq, A0.s.injEq, A0.rw.injEq, A0.fn.injEq, List.cons.injEq, RC.ints.injEq, RC.recs.injEq, RC.bools.injEq, RC.mp.injEq, RC.grp.injEq, RC.rows.injEq, MC.ints.injEq, MC.bools.injEq, AV.one.injEq, AV.tup.injEq, ble_dec, blt_dec, Nat.reduceLeDiff, Nat.reduceSub, decide_true, decide_false, and_self, List.toList_toArray, Option.isSome_some, Option.isSome_none, List.elem_nil, List.elem_cons, ite_true, ite_false, Bool.false_eq_true, if_true, if_false, reduceIte, flatB_2, flatB_3, flatB_4, List.headD_cons, List.tail_cons, fl_length]; simp [ixM]) fun k hk J hJ => ⟨1000, ?_⟩
  simp only [↓cond_to_ite, ↓reduceIte, vc, out, effCopy, finD, St.drop, vwAt, Entry.vwO, RC.vwO, dropAt, A0.dr, AV.dr, noneNames, viewS, viewV, viewTo, A0.vwT, AV.vwT, viewOk, viewEn, appView, hdSlc, A0.mv1, AV.mv1, Entry.toO, toOf, A0.mv, AV.mv, mvTo, St.res, nxtH, makeRows, effMakeSl, storeRow, step, stepE, stepPick, stepG, stepO, stepC, eff, look, rem, St.put, St.setMem, setMems, St.after, St.eval, cst, setAt, val1, okNew, newHs, allHs, rdOf, outHs, Reg.item, Reg.next, Reg.skip, slotOf, effBox, effAlloc, entryRow, fieldOff, effField, loadI, load1, loadR, effLoad, storeI, storeB, storeR, szOk, storeTo, effStore, buildOf, effBuild, binInt, eqI, boolOf, binBool, effBin, effUn, effPick, effExtract, ivs, svs, rowOf, allParts, effBuildSlice, zeroRow, effMakeSlice, elemSz, idxA, idxS, effIndex, lenOf, readOf, subPre, maxRow, plainTI, appTo, effAppend, slcOf, effSlice, argOf, resA, resL, resV, outWr, nodupB, restOk, argsPre, argOk, callWr, effCall, effMax, RC.flat, effBox2, boxPair, compOf, innerOf, innerPre, fieldTwo, loadO, loadN, storeN, buildTwo, effBuild2, buildRows, effBuildSl, appRows, effApp2, plainA, callIn, outsEmpty, callGo, MC.get, MC.has, MC.put, mcTI, keyTI, emptyMC, effMakeMap, mapIn, hOf1, lookV, effLookup, mapBack, effUpdate, effNil, effMin, effIndexV, cutSlc, arrElem, cutOf, wrHs, disj, AV.hs, A0.hs, Entry.hs, RC.elem, RC.sz, RC.len, RC.slice, RC.app, hA, initFr, initMem, initSt, resOf, resAll, compEq, compsEq, rowHs, outHds, outsEq, shapeOk, finOk, comps, A0.norm, AV.norm, specOf, t_int, t_bool, t_implForm, t_implMatrix, t_implunited, ts_int, ts_implForm, tss_int, tm_implForm, t_implclassGroup, Option.getD_some, Option.getD_none, cond_true, cond_false, Nat.reduceBEq, List.map_cons, List.map_nil, List.set_cons_zero, List.set_cons_succ, List.getElem?_cons_zero, List.getElem?_cons_succ, List.drop_zero, List.drop_succ_cons, List.take_succ_cons, List.take_zero, Option.map_some, Option.map_none, Option.bind_some, Nat.zero_add, Nat.add_zero, Nat.reduceAdd, Nat.reduceMul, true_and, and_true, List.replicate_succ, List.replicate_zero, List.length_cons, List.length_nil, List.all_cons, List.all_nil, List.any_cons, List.any_nil, Bool.and_true, Bool.true_and, Bool.and_false, Bool.false_and, Bool.or_true, Bool.true_or, Bool.or_false, Bool.false_or, Bool.not_true, Bool.not_false, List.append_nil, List.nil_append, List.cons_append, List.flatMap_cons, List.flatMap_nil, List.contains_cons, List.contains_nil, List.filter_cons, List.filter_nil, beq_self_eq_true, Bool.not_eq_true, A0.b.injEq, A0.i.injEq, A0.s.injEq, A0.rw.injEq, A0.fn.injEq, List.cons.injEq, RC.ints.injEq, RC.recs.injEq, RC.bools.injEq, RC.mp.injEq, RC.grp.injEq, RC.rows.injEq, MC.ints.injEq, MC.bools.injEq, AV.one.injEq, AV.tup.injEq, ble_dec, blt_dec, Nat.reduceLeDiff, Nat.reduceSub, decide_true, decide_false, and_self, List.toList_toArray, Option.isSome_some, Option.isSome_none, List.elem_nil, List.elem_cons, ite_true, ite_false, Bool.false_eq_true, if_true, if_false, reduceIte, flatB_2, flatB_3, flatB_4, List.headD_cons, List.tail_cons, rng3, Int.toNat_natCast, fl_length]
  refine ite_prop (fun hc => ?_) fun hc => ?_
  · have hlt := ilt_iff.1 hc
    have hw := wsucc hlt (Nat.le_trans hlen (by omega))
    have hx := ixM_take hnd (k := k) (by rw [fl_length]; exact hlt)
    refine ⟨⟨by omega, by omega⟩, hlt, by kernel_rfl, hJ _ (k + 1) [] hlt (by omega) ?_⟩
    simp only [Cov, covOk, covFr, covMem, entEq, rn, nodupB, A0.ren, AV.ren, Entry.ren, Entry.norm, look, rem, St.eval, cst, hA, finD, St.drop, vwAt, Entry.vwO, RC.vwO, dropAt, A0.dr, AV.dr, noneNames, viewS, viewV, viewTo, A0.vwT, AV.vwT, viewOk, viewEn, St.res, toOf, Entry.toO, mvTo, A0.mv, AV.mv, A0.mv1, AV.mv1, allHs, AV.hs, A0.hs, Entry.hs, A0.norm, AV.norm, RC.len, RC.flat, setAt, RC.elem, RC.sz, compOf, initFr, Option.getD_some, Option.getD_none, cond_true, cond_false, Nat.reduceBEq, List.map_cons, List.map_nil, List.set_cons_zero, List.set_cons_succ, List.getElem?_cons_zero, List.getElem?_cons_succ, List.drop_zero, List.drop_succ_cons, List.take_succ_cons, List.take_zero, Option.map_some, Option.map_none, Option.bind_some, Nat.zero_add, Nat.add_zero, Nat.reduceAdd, Nat.reduceMul, true_and, and_true, List.replicate_succ, List.replicate_zero, List.length_cons, List.length_nil, List.all_cons, List.all_nil, List.any_cons, List.any_nil, Bool.and_true, Bool.true_and, Bool.and_false, Bool.false_and, Bool.or_true, Bool.true_or, Bool.or_false, Bool.false_or, Bool.not_true, Bool.not_false, List.append_nil, List.nil_append, List.cons_append, List.flatMap_cons, List.flatMap_nil, List.contains_cons, List.contains_nil, List.filter_cons, List.filter_nil, beq_self_eq_true, Bool.not_eq_true, A0.b.injEq, A0.i.injEq, A0.s.injEq, A0.rw.injEq, A0.fn.injEq, List.cons.injEq, RC.ints.injEq, RC.recs.injEq, RC.bools.injEq, RC.mp.injEq, RC.grp.injEq, RC.rows.injEq, MC.ints.injEq, MC.bools.injEq, AV.one.injEq, AV.tup.injEq, ble_dec, blt_dec, Nat.reduceLeDiff, Nat.reduceSub, decide_true, decide_false, and_self, List.toList_toArray, Option.isSome_some, Option.isSome_none, List.elem_nil, List.elem_cons, ite_true, ite_false, Bool.false_eq_true, if_true, if_false, reduceIte, flatB_2, flatB_3, flatB_4, List.headD_cons, List.tail_cons, hw, hx]
  · have hge := inlt_iff.1 (eq_false_of_ne_true hc)
    have hk' : k = L.length := by omega
    subst hk'
    rw [List.take_length]
theorem idx_at {l : List (List Int)} {x : F3} {n : Nat} (hn : n < l.length) (he : nth3 l n = x) (ht : x ∉ (unfl l).take n) : (unfl l).idxOf x = n := by
  have hl : n < (unfl l).length := by rw [unfl_length]; exact hn
  have h1 : (unfl l)[n] = x := by
    have := unfl_at hn
    rw [List.getElem?_eq_getElem hl] at this
    rw [← he]; exact Option.some.inj this
  have e : unfl l = (unfl l).take n ++ x :: (unfl l).drop (n + 1) := by
    conv => lhs; rw [← List.take_append_drop n (unfl l)]
    rw [List.drop_eq_getElem_cons hl, h1]
  rw [e, List.idxOf_append, if_neg ht, List.idxOf_cons, List.length_take]
  simp
  omega
abbrev fGrIndex : Nat := 19
def cGrIndex : Ctr
  | [.rw (.recs e 3 l), .s [a, b, c]] => some ⟨l.length ≤ 1000000000 ∧ (a, b, c) ∈ unfl l, .one (.i (((unfl l).idxOf (a, b, c) : Nat) : Int)), []⟩
  | _ => none
theorem okGrIndex : CtrOk Try.prog fGrIndex cGrIndex := by
  have hsp : SpecOk Try.prog (specOf []) := SpecOk.nil
  refine ctr_of (fn := Try.f19) mixed tab_ok hsp Try.func19 (by kernel_rfl) (by kernel_rfl) fun args ce h => ?_
  clear hsp
  unfold cGrIndex at h
  split at h
  case h_2 => cases h
  rename_i e l a b c
  simp only [Option.some.injEq] at h
  subst h
  refine ⟨by rfl, fun hp => ⟨1, 1000, ?_⟩⟩
  simp only [↓cond_to_ite, ↓reduceIte, vc, out, effCopy, finD, St.drop, vwAt, Entry.vwO, RC.vwO, dropAt, A0.dr, AV.dr, noneNames, viewS, viewV, viewTo, A0.vwT, AV.vwT, viewOk, viewEn, appView, hdSlc, A0.mv1, AV.mv1, Entry.toO, toOf, A0.mv, AV.mv, mvTo, St.res, nxtH, makeRows, effMakeSl, storeRow, step, stepE, stepPick, stepG, stepO, stepC, eff, look, rem, St.put, St.setMem, setMems, St.after, St.eval, cst, setAt, val1, okNew, newHs, allHs, rdOf, outHs, Reg.item, Reg.next, Reg.skip, slotOf, effBox, effAlloc, entryRow, fieldOff, effField, loadI, load1, loadR, effLoad, storeI, storeB, storeR, szOk, storeTo, effStore, buildOf, effBuild, binInt, eqI, boolOf, binBool, effBin, effUn, effPick, effExtract, ivs, svs, rowOf, allParts, effBuildSlice, zeroRow, effMakeSlice, elemSz, idxA, idxS, effIndex, lenOf, readOf, subPre, maxRow, plainTI, appTo, effAppend, slcOf, effSlice, argOf, resA, resL, resV, outWr, nodupB, restOk, argsPre, argOk, callWr, effCall, effMax, RC.flat, effBox2, boxPair, compOf, innerOf, innerPre, fieldTwo, loadO, loadN, storeN, buildTwo, effBuild2, buildRows, effBuildSl, appRows, effApp2, plainA, callIn, outsEmpty, callGo, MC.get, MC.has, MC.put, mcTI, keyTI, emptyMC, effMakeMap, mapIn, hOf1, lookV, effLookup, mapBack, effUpdate, effNil, effMin, effIndexV, cutSlc, arrElem, cutOf, wrHs, disj, AV.hs, A0.hs, Entry.hs, RC.elem, RC.sz, RC.len, RC.slice, RC.app, hA, initFr, initMem, initSt, resOf, resAll, compEq, compsEq, rowHs, outHds, outsEq, shapeOk, finOk, comps, A0.norm, AV.norm, specOf, t_int, t_bool, t_implForm, t_implMatrix, t_implunited, ts_int, ts_implForm, tss_int, tm_implForm, t_implclassGroup, Option.getD_some, Option.getD_none, cond_true, cond_false, Nat.reduceBEq, List.map_cons, List.map_nil, List.set_cons_zero, List.set_cons_succ, List.getElem?_cons_zero, List.getElem?_cons_succ, List.drop_zero, List.drop_succ_cons, List.take_succ_cons, List.take_zero, Option.map_some, Option.map_none, Option.bind_some, Nat.zero_add, Nat.add_zero, Nat.reduceAdd, Nat.reduceMul, true_and, and_true, List.replicate_succ, List.replicate_zero, List.length_cons, List.length_nil, List.all_cons, List.all_nil, List.any_cons, List.any_nil, Bool.and_true, Bool.true_and, Bool.and_false, Bool.false_and, Bool.or_true, Bool.true_or, Bool.or_false, Bool.false_or, Bool.not_true, Bool.not_false, List.append_nil, List.nil_append, List.cons_append, List.flatMap_cons, List.flatMap_nil, List.contains_cons, List.contains_nil, List.filter_cons, List.filter_nil, beq_self_eq_true, Bool.not_eq_true, A0.b.injEq, A0.i.injEq, A0.s.injEq, A0.rw.injEq, A0.fn.injEq, List.cons.injEq, RC.ints.injEq, RC.recs.injEq, RC.bools.injEq, RC.mp.injEq, RC.grp.injEq, RC.rows.injEq, MC.ints.injEq, MC.bools.injEq, AV.one.injEq, AV.tup.injEq, ble_dec, blt_dec, Nat.reduceLeDiff, Nat.reduceSub, decide_true, decide_false, and_self, List.toList_toArray, Option.isSome_some, Option.isSome_none, List.elem_nil, List.elem_cons, ite_true, ite_false, Bool.false_eq_true, if_true, if_false, reduceIte, flatB_2, flatB_3, flatB_4, List.headD_cons, List.tail_cons, Try.f19]
  obtain ⟨hp', hm⟩ : l.length ≤ 1000000000 ∧ (a, b, c) ∈ unfl l := hp
  refine lp_intro (fun n : Nat => ⟨[(3, .one (.ref 3 0)), (7, .one (.row 1000000)), (8, .one (.i l.length)), (9, .one (.i n))], [(1000000, .ro (.recs e 3 l)), (3, .ibox 39 [a, b, c])]⟩)
    (fun n => n ≤ l.length ∧ (a, b, c) ∉ (unfl l).take n) (fun n => l.length - n) 0 [] ⟨Nat.zero_le _, by simp⟩ (by simp only [Cov, covOk, covFr, covMem, entEq, rn, nodupB, A0.ren, AV.ren, Entry.ren, Entry.norm, look, rem, St.eval, cst, hA, finD, St.drop, vwAt, Entry.vwO, RC.vwO, dropAt, A0.dr, AV.dr, noneNames, viewS, viewV, viewTo, A0.vwT, AV.vwT, viewOk, viewEn, St.res, toOf, Entry.toO, mvTo, A0.mv, AV.mv, A0.mv1, AV.mv1, allHs, AV.hs, A0.hs, Entry.hs, A0.norm, AV.norm, RC.len, RC.flat, setAt, RC.elem, RC.sz, compOf, initFr, Option.getD_some, Option.getD_none, cond_true, cond_false, Nat.reduceBEq, List.map_cons, List.map_nil, List.set_cons_zero, List.set_cons_succ, List.getElem?_cons_zero, List.getElem?_cons_succ, List.drop_zero, List.drop_succ_cons, List.take_succ_cons, List.take_zero, Option.map_some, Option.map_none, Option.bind_some, Nat.zero_add, Nat.add_zero, Nat.reduceAdd, Nat.reduceMul, true_and, and_true, List.replicate_succ, List.replicate_zero, List.length_cons, List.length_nil, List.all_cons, List.all_nil, List.any_cons, List.any_nil, Bool.and_true, Bool.true_and, Bool.and_false, Bool.false_and, Bool.or_true, Bool.true_or, Bool.or_false, Bool.false_or, Bool.not_true, Bool.not_false, List.append_nil, List.nil_append, List.cons_append, List.flatMap_cons, List.flatMap_nil, List.contains_cons, List.contains_nil, List.filter_cons, List.filter_nil, beq_self_eq_true, Bool.not_eq_true, A0.b.injEq, A0.i.injEq, A0.s.injEq, A0.rw.injEq, A0.fn.injEq, List.cons.injEq, RC.ints.injEq, RC.recs.injEq, RC.bools.injEq, RC.mp.injEq, RC.grp.injEq, RC.rows.injEq, MC.ints.injEq, MC.bools.injEq, AV.one.injEq, AV.tup.injEq, ble_dec, blt_dec, Nat.reduceLeDiff, Nat.reduceSub, decide_true, decide_false, and_self, List.toList_toArray, Option.isSome_some, Option.isSome_none, List.elem_nil, List.elem_cons, ite_true, ite_false, Bool.false_eq_true, if_true, if_false, reduceIte, flatB_2, flatB_3, flatB_4, List.headD_cons, List.tail_cons]; simp) fun n hn J hJ => ⟨1000, ?_⟩
  simp only [vc, out, effCopy, finD, St.drop, vwAt, Entry.vwO, RC.vwO, dropAt, A0.dr, AV.dr, noneNames, viewS, viewV, viewTo, A0.vwT, AV.vwT, viewOk, viewEn, appView, hdSlc, A0.mv1, AV.mv1, Entry.toO, toOf, A0.mv, AV.mv, mvTo, St.res, nxtH, makeRows, effMakeSl, storeRow, step, stepE, stepPick, stepG, stepO, stepC, eff, look, rem, St.put, St.setMem, setMems, St.after, St.eval, cst, setAt, val1, okNew, newHs, allHs, rdOf, outHs, Reg.item, Reg.next, Reg.skip, slotOf, effBox, effAlloc, entryRow, fieldOff, effField, loadI, load1, loadR, effLoad, storeI, storeB, storeR, szOk, storeTo, effStore, buildOf, effBuild, binInt, eqI, boolOf, binBool, effBin, effUn, effPick, effExtract, ivs, svs, rowOf, allParts, effBuildSlice, zeroRow, effMakeSlice, elemSz, idxA, idxS, effIndex, lenOf, readOf, subPre, maxRow, plainTI, appTo, effAppend, slcOf, effSlice, argOf, resA, resL, resV, outWr, nodupB, restOk, argsPre, argOk, callWr, effCall, effMax, RC.flat, effBox2, boxPair, compOf, innerOf, innerPre, fieldTwo, loadO, loadN, storeN, buildTwo, effBuild2, buildRows, effBuildSl, appRows, effApp2, plainA, callIn, outsEmpty, callGo, MC.get, MC.has, MC.put, mcTI, keyTI, emptyMC, effMakeMap, mapIn, hOf1, lookV, effLookup, mapBack, effUpdate, effNil, effMin, effIndexV, cutSlc, arrElem, cutOf, wrHs, disj, AV.hs, A0.hs, Entry.hs, RC.elem, RC.sz, RC.len, RC.slice, RC.app, hA, initFr, initMem, initSt, resOf, resAll, compEq, compsEq, rowHs, outHds, outsEq, shapeOk, finOk, comps, A0.norm, AV.norm, specOf, t_int, t_bool, t_implForm, t_implMatrix, t_implunited, ts_int, ts_implForm, tss_int, tm_implForm, t_implclassGroup, Option.getD_some, Option.getD_none, cond_true, cond_false, Nat.reduceBEq, List.map_cons, List.map_nil, List.set_cons_zero, List.set_cons_succ, List.getElem?_cons_zero, List.getElem?_cons_succ, List.drop_zero, List.drop_succ_cons, List.take_succ_cons, List.take_zero, Option.map_some, Option.map_none, Option.bind_some, Nat.zero_add, Nat.add_zero, Nat.reduceAdd, Nat.reduceMul, true_and, and_true, List.replicate_succ, List.replicate_zero, List.length_cons, List.length_nil, List.all_cons, List.all_nil, List.any_cons, List.any_nil, Bool.and_true, Bool.true_and, Bool.and_false, Bool.false_and, Bool.or_true, Bool.true_or, Bool.or_false, Bool.false_or, Bool.not_true, Bool.not_false, List.append_nil, List.nil_append, List.cons_append, List.flatMap_cons, List.flatMap_nil, List.contains_cons, List.contains_nil, List.filter_cons, List.filter_nil, beq_self_eq_true, Bool.not_eq_true, A0.b.injEq, A0.i.injEq, A0.s.injEq, A0.rw.injEq, A0.fn.injEq, List.cons.injEq, RC.ints.injEq, RC.recs.injEq, RC.bools.injEq, RC.mp.injEq, RC.grp.injEq, RC.rows.injEq, MC.ints.injEq, MC.bools.injEq, AV.one.injEq, AV.tup.injEq, ble_dec, blt_dec, Nat.reduceLeDiff, Nat.reduceSub, decide_true, decide_false, and_self, List.toList_toArray, Option.isSome_some, Option.isSome_none, List.elem_nil, List.elem_cons, ite_true, ite_false, Bool.false_eq_true, if_true, if_false, reduceIte, flatB_2, flatB_3, flatB_4, List.headD_cons, List.tail_cons, rng3, Int.toNat_natCast]
  obtain ⟨hn, ht⟩ := hn
  rw [bif_prop]
  refine ⟨fun hc => ?_, fun hc => ?_⟩
  · have hlt := ilt_iff.1 hc
    refine ⟨⟨by omega, by omega⟩, hlt, ?_⟩
    rw [eqI_3, bif_prop]
    refine ⟨fun h1 => ?_, fun h1 => hJ _ (n + 1) [] ⟨hlt, ?_⟩ (by omega) (by simp only [Cov, covOk, covFr, covMem, entEq, rn, nodupB, A0.ren, AV.ren, Entry.ren, Entry.norm, look, rem, St.eval, cst, hA, finD, St.drop, vwAt, Entry.vwO, RC.vwO, dropAt, A0.dr, AV.dr, noneNames, viewS, viewV, viewTo, A0.vwT, AV.vwT, viewOk, viewEn, St.res, toOf, Entry.toO, mvTo, A0.mv, AV.mv, A0.mv1, AV.mv1, allHs, AV.hs, A0.hs, Entry.hs, A0.norm, AV.norm, RC.len, RC.flat, setAt, RC.elem, RC.sz, compOf, initFr, Option.getD_some, Option.getD_none, cond_true, cond_false, Nat.reduceBEq, List.map_cons, List.map_nil, List.set_cons_zero, List.set_cons_succ, List.getElem?_cons_zero, List.getElem?_cons_succ, List.drop_zero, List.drop_succ_cons, List.take_succ_cons, List.take_zero, Option.map_some, Option.map_none, Option.bind_some, Nat.zero_add, Nat.add_zero, Nat.reduceAdd, Nat.reduceMul, true_and, and_true, List.replicate_succ, List.replicate_zero, List.length_cons, List.length_nil, List.all_cons, List.all_nil, List.any_cons, List.any_nil, Bool.and_true, Bool.true_and, Bool.and_false, Bool.false_and, Bool.or_true, Bool.true_or, Bool.or_false, Bool.false_or, Bool.not_true, Bool.not_false, List.append_nil, List.nil_append, List.cons_append, List.flatMap_cons, List.flatMap_nil, List.contains_cons, List.contains_nil, List.filter_cons, List.filter_nil, beq_self_eq_true, Bool.not_eq_true, A0.b.injEq, A0.i.injEq, A0.s.injEq, A0.rw.injEq, A0.fn.injEq, List.cons.injEq, RC.ints.injEq, RC.recs.injEq, RC.bools.injEq, RC.mp.injEq, RC.grp.injEq, RC.rows.injEq, MC.ints.injEq, MC.bools.injEq, AV.one.injEq, AV.tup.injEq, ble_dec, blt_dec, Nat.reduceLeDiff, Nat.reduceSub, decide_true, decide_false, and_self, List.toList_toArray, Option.isSome_some, Option.isSome_none, List.elem_nil, List.elem_cons, ite_true, ite_false, Bool.false_eq_true, if_true, if_false, reduceIte, flatB_2, flatB_3, flatB_4, List.headD_cons, List.tail_cons, wsucc hlt (Nat.le_trans hp' (by omega))])⟩
    · rw [idx_at hlt (of_decide_eq_true h1) ht]
    · rw [unfl_take l hlt, List.mem_append, not_or]
      refine ⟨ht, ?_⟩
      rw [List.mem_singleton]
      intro h2
      exact of_decide_eq_false h1 h2.symm
  · have := inlt_iff.1 hc
    rw [List.take_of_length_le (by rw [unfl_length]; exact this)] at ht
    exact absurd hm ht
end Go.Proofs.Ythcnaeahmdapbaa
