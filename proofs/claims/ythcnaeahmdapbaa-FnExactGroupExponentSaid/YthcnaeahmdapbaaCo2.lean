/-
  Contracts of the completed form and of united forms, on both sides. Conditions: none.
-/
import Derived.Test.YthcnaeahmdapbaaCo
namespace Go.Proofs.Ythcnaeahmdapbaa
open Go Go.RowKit
set_option maxRecDepth 100000
set_option linter.unusedSimpArgs false
set_option linter.unusedVariables false
set_option maxHeartbeats 4000000

structure CpPre (a b c x y : Int) : Prop where
  a1 : 1 ≤ a ∧ a ≤ 25
  b1 : -25 ≤ b ∧ b ≤ 25
  c1 : 1 ≤ c ∧ c ≤ 700
  x1 : 0 ≤ x ∧ x ≤ 5
  y1 : 0 ≤ y ∧ y ≤ 5
  g : Int.gcd x y = 1
  v : 0 < vl (a, b, c) x y ∧ vl (a, b, c) x y ≤ 35000
def cpB (a b c x y : Int) : Int := (cpF (a, b, c) x y).2.1
def cpC (a b c x y : Int) : Int := (cpF (a, b, c) x y).2.2
def cpU (a b c x y : Int) : Int := cpQ x y + cpT (a, b, c) x y * x
def cpV (a b c x y : Int) : Int := cpS x y + cpT (a, b, c) x y * y
theorem cp_small {x y : Int} (hx : 0 ≤ x ∧ x ≤ 5) (hy : 0 ≤ y ∧ y ≤ 5) (hg : Int.gcd x y = 1) : (0 ≤ cpS x y ∧ cpS x y ≤ 5) ∧ (-1 ≤ cpQ x y ∧ cpQ x y ≤ 25) := by
  have h := cp_det0 hx.1 hy.1 hg
  unfold cpS cpQ at *
  by_cases h0 : y = 0
  · subst h0
    simp only [if_true]
    omega
  · rw [if_neg h0, if_neg h0] at *
    obtain ⟨⟨h1, h2⟩, ⟨k, hk⟩⟩ := iv_spec (a := x) (m := y) (by omega) hx.1 hg
    have h3 := mul_bd (a := x) (b := ivI x y) (j := 5) (k := 5) (by omega) (by omega) ⟨by omega, by omega⟩ ⟨by omega, by omega⟩
    have h5 : 0 ≤ x * ivI x y := Int.mul_nonneg hx.1 h1
    have h4 : (x * ivI x y - 1) / y = k := by rw [Int.mul_comm x, hk, Int.mul_ediv_cancel_left _ (by omega)]
    rw [h4]
    rw [Int.mul_comm x] at h3 h5
    refine ⟨⟨h1, by omega⟩, ?_, ?_⟩
    · by_cases hc : -1 ≤ k
      · exact hc
      · exfalso
        have : y * k ≤ y * (-2) := Int.mul_le_mul_of_nonneg_left (by omega) (by omega)
        omega
    · by_cases hc : k ≤ 25
      · exact hc
      · exfalso
        have : y * 26 ≤ y * k := Int.mul_le_mul_of_nonneg_left (by omega) (by omega)
        omega
/-- bounds of a value of the polar form -/
theorem pl_small {a b c x y u v K : Int} (ha : 1 ≤ a ∧ a ≤ 25) (hb : -25 ≤ b ∧ b ≤ 25) (hc : 1 ≤ c ∧ c ≤ 700) (hx : 0 ≤ x ∧ x ≤ 5) (hy : 0 ≤ y ∧ y ≤ 5) (hK : 0 ≤ K ∧ K ≤ 2000000) (hu : -K ≤ u ∧ u ≤ K) (hv : -K ≤ v ∧ v ≤ K) :
    -(10000 * K) ≤ pl (a, b, c) x y u v ∧ pl (a, b, c) x y u v ≤ 10000 * K := by
  have h1 := mul_bd (a := 2 * a) (b := x) (j := 50) (k := 5) (by omega) (by omega) ⟨by omega, by omega⟩ ⟨by omega, by omega⟩
  have h2 := mul_bd (a := 2 * a * x) (b := u) (j := 250) (k := K) (by omega) (by omega) ⟨by omega, by omega⟩ ⟨by omega, by omega⟩
  have h3 := mul_bd (a := x) (b := v) (j := 5) (k := K) (by omega) (by omega) ⟨by omega, by omega⟩ ⟨by omega, by omega⟩
  have h4 := mul_bd (a := y) (b := u) (j := 5) (k := K) (by omega) (by omega) ⟨by omega, by omega⟩ ⟨by omega, by omega⟩
  have h5 := mul_bd (a := b) (b := x * v + y * u) (j := 25) (k := 10 * K) (by omega) (by omega) ⟨by omega, by omega⟩ ⟨by omega, by omega⟩
  have h6 := mul_bd (a := 2 * c) (b := y) (j := 1400) (k := 5) (by omega) (by omega) ⟨by omega, by omega⟩ ⟨by omega, by omega⟩
  have h7 := mul_bd (a := 2 * c * y) (b := v) (j := 7000) (k := K) (by omega) (by omega) ⟨by omega, by omega⟩ ⟨by omega, by omega⟩
  unfold pl
  simp only
  omega
theorem vl_mid {a b c u v : Int} (ha : 1 ≤ a ∧ a ≤ 25) (hb : -25 ≤ b ∧ b ≤ 25) (hc : 1 ≤ c ∧ c ≤ 700) (hu : -2000000 ≤ u ∧ u ≤ 2000000) (hv : -2000000 ≤ v ∧ v ≤ 2000000) : valI a b c u v = vl (a, b, c) u v := by
  have h1 := mul_bd (a := a) (b := u) (j := 25) (k := 2000000) (by omega) (by omega) ⟨by omega, by omega⟩ ⟨by omega, by omega⟩
  have h2 := mul_bd (a := a * u) (b := u) (j := 50000000) (k := 2000000) (by omega) (by omega) ⟨by omega, by omega⟩ ⟨by omega, by omega⟩
  have h3 := mul_bd (a := b) (b := u) (j := 25) (k := 2000000) (by omega) (by omega) ⟨by omega, by omega⟩ ⟨by omega, by omega⟩
  have h4 := mul_bd (a := b * u) (b := v) (j := 50000000) (k := 2000000) (by omega) (by omega) ⟨by omega, by omega⟩ ⟨by omega, by omega⟩
  have h5 := mul_bd (a := c) (b := v) (j := 700) (k := 2000000) (by omega) (by omega) ⟨by omega, by omega⟩ ⟨by omega, by omega⟩
  have h6 := mul_bd (a := c * v) (b := v) (j := 1400000000) (k := 2000000) (by omega) (by omega) ⟨by omega, by omega⟩ ⟨by omega, by omega⟩
  rw [valI_eq, wrap_id (by omega) (by omega)]
  rfl
theorem cpT_small {a b c x y : Int} (h : CpPre a b c x y) : (-250000 ≤ pl (a, b, c) x y (cpQ x y) (cpS x y) ∧ pl (a, b, c) x y (cpQ x y) (cpS x y) ≤ 250000) ∧ (-250000 ≤ cpT (a, b, c) x y ∧ cpT (a, b, c) x y ≤ 250001) := by
  obtain ⟨h1, h2⟩ := cp_small h.x1 h.y1 h.g
  have h3 := pl_small (u := cpQ x y) (v := cpS x y) (K := 25) h.a1 h.b1 h.c1 h.x1 h.y1 ⟨by omega, by omega⟩ ⟨by omega, by omega⟩ ⟨by omega, by omega⟩
  refine ⟨by omega, ?_⟩
  have hv := h.v
  unfold cpT
  have e1 := Int.mul_ediv_add_emod (pl (a, b, c) x y (cpQ x y) (cpS x y)) (2 * vl (a, b, c) x y)
  have e2 := Int.emod_nonneg (pl (a, b, c) x y (cpQ x y) (cpS x y)) (show 2 * vl (a, b, c) x y ≠ 0 by omega)
  have e3 := Int.emod_lt_of_pos (pl (a, b, c) x y (cpQ x y) (cpS x y)) (show 0 < 2 * vl (a, b, c) x y by omega)
  generalize pl (a, b, c) x y (cpQ x y) (cpS x y) / (2 * vl (a, b, c) x y) = q at *
  generalize pl (a, b, c) x y (cpQ x y) (cpS x y) % (2 * vl (a, b, c) x y) = r at *
  generalize vl (a, b, c) x y = w at *
  have f1 : q ≤ 250000 := by
    by_cases hc : q ≤ 250000
    · exact hc
    · have : 2 * 250001 ≤ 2 * w * q := Int.mul_le_mul (by omega) (by omega) (by omega) (by omega)
      omega
  have f2 : -250001 ≤ q := by
    by_cases hc : -250001 ≤ q
    · exact hc
    · have h5 : 2 * w * q ≤ 2 * w * (-250002) := Int.mul_le_mul_of_nonneg_left (by omega) (by omega)
      omega
  omega
theorem cpUV {a b c x y : Int} (h : CpPre a b c x y) : (-1250025 ≤ cpT (a, b, c) x y * x ∧ cpT (a, b, c) x y * x ≤ 1250025) ∧ (-1250025 ≤ cpT (a, b, c) x y * y ∧ cpT (a, b, c) x y * y ≤ 1250025) ∧ (-1300000 ≤ cpU a b c x y ∧ cpU a b c x y ≤ 1300000) ∧ (-1300000 ≤ cpV a b c x y ∧ cpV a b c x y ≤ 1300000) := by
  obtain ⟨h1, h2⟩ := cp_small h.x1 h.y1 h.g
  obtain ⟨_, h3⟩ := cpT_small h
  have hx := h.x1
  have hy := h.y1
  have h4 := mul_bd (a := cpT (a, b, c) x y) (b := x) (j := 250005) (k := 5) (by omega) (by omega) ⟨by omega, by omega⟩ ⟨by omega, by omega⟩
  have h5 := mul_bd (a := cpT (a, b, c) x y) (b := y) (j := 250005) (k := 5) (by omega) (by omega) ⟨by omega, by omega⟩ ⟨by omega, by omega⟩
  unfold cpU cpV
  omega
theorem polI_small {a b c x y u v : Int} (ha : 1 ≤ a ∧ a ≤ 25) (hb : -25 ≤ b ∧ b ≤ 25) (hc : 1 ≤ c ∧ c ≤ 700) (hx : 0 ≤ x ∧ x ≤ 5) (hy : 0 ≤ y ∧ y ≤ 5) (hu : -2000000 ≤ u ∧ u ≤ 2000000) (hv : -2000000 ≤ v ∧ v ≤ 2000000) : polI a b c x y u v = pl (a, b, c) x y u v := by
  have h := pl_small (K := 2000000) ha hb hc hx hy ⟨by omega, by omega⟩ hu hv
  rw [polI_eq]
  unfold pl at h ⊢
  simp only at h ⊢
  exact wrap_id (by omega) (by omega)
theorem cp_eqs {a b c x y Q0 S0 : Int} (h : CpPre a b c x y) (hQ : Q0 = cpQ x y) (hS : S0 = cpS x y) :
    valI a b c x y = vl (a, b, c) x y ∧ wrap64 (2 * valI a b c x y) ≠ 0 ∧ wrap64 (0 - fdivI (polI a b c x y Q0 S0) (wrap64 (2 * valI a b c x y))) = cpT (a, b, c) x y ∧
    wrap64 (Q0 + wrap64 (cpT (a, b, c) x y * x)) = cpU a b c x y ∧ wrap64 (S0 + wrap64 (cpT (a, b, c) x y * y)) = cpV a b c x y ∧
    polI a b c x y (cpU a b c x y) (cpV a b c x y) = cpB a b c x y ∧ valI a b c (cpU a b c x y) (cpV a b c x y) = cpC a b c x y := by
  obtain ⟨h1, h2⟩ := cp_small h.x1 h.y1 h.g
  obtain ⟨h3, h4⟩ := cpT_small h
  obtain ⟨h5, h6, h7, h8⟩ := cpUV h
  have hx := h.x1
  have hy := h.y1
  have hv := h.v
  have e1 : valI a b c x y = vl (a, b, c) x y := vl_mid h.a1 h.b1 h.c1 ⟨by omega, by omega⟩ ⟨by omega, by omega⟩
  subst hQ hS
  have e2 : polI a b c x y (cpQ x y) (cpS x y) = pl (a, b, c) x y (cpQ x y) (cpS x y) := polI_small h.a1 h.b1 h.c1 hx hy ⟨by omega, by omega⟩ ⟨by omega, by omega⟩
  have e3 : wrap64 (2 * vl (a, b, c) x y) = 2 * vl (a, b, c) x y := wrap_id (by omega) (by omega)
  rw [e1, e2, e3, fdivI_eq (by omega) (by omega) ⟨by omega, by omega⟩]
  have e4 : -(pl (a, b, c) x y (cpQ x y) (cpS x y) / (2 * vl (a, b, c) x y)) = cpT (a, b, c) x y := rfl
  refine ⟨rfl, by omega, ?_, ?_, ?_, polI_small h.a1 h.b1 h.c1 hx hy ⟨by omega, by omega⟩ ⟨by omega, by omega⟩, vl_mid h.a1 h.b1 h.c1 ⟨by omega, by omega⟩ ⟨by omega, by omega⟩⟩
  · rw [← e4]; rw [← e4] at h4
    rw [wrap_id (by omega) (by omega)]; omega
  · unfold cpU at *
    rw [wrap_id (n := cpT (a, b, c) x y * x) (by omega) (by omega), wrap_id (by omega) (by omega)]
  · unfold cpV at *
    rw [wrap_id (n := cpT (a, b, c) x y * y) (by omega) (by omega), wrap_id (by omega) (by omega)]
theorem abs_pos {y : Int} (h : 0 ≤ y ∧ y ≤ 1000000000) : absI y = y := by
  unfold absI
  rw [wrap_id (by omega) (by omega)]; omega
theorem cp_quo {x y : Int} (hx : 0 ≤ x ∧ x ≤ 5) (hy : 0 ≤ y ∧ y ≤ 5) (hg : Int.gcd x y = 1) (h0 : y ≠ 0) : cpS x y = ivI x y ∧ wrap64 ((wrap64 (wrap64 (x * ivI x y) - 1)).tdiv y) = cpQ x y ∧ wrap64 ((wrap64 (1 - wrap64 (x * ivI x y))).tdiv y) = -cpQ x y := by
  obtain ⟨h1, h2⟩ := cp_small hx hy hg
  have eS : cpS x y = ivI x y := by unfold cpS; rw [if_neg h0]
  have eQ : cpQ x y = (x * ivI x y - 1) / y := by unfold cpQ; rw [if_neg h0]
  have hd := cp_det0 hx.1 hy.1 hg
  rw [eS] at h1 hd
  have h3 := mul_bd (a := x) (b := ivI x y) (j := 5) (k := 5) (by omega) (by omega) ⟨by omega, by omega⟩ ⟨by omega, by omega⟩
  have e1 : x * ivI x y - 1 = y * cpQ x y := by rw [Int.mul_comm y]; omega
  have e2 : 1 - x * ivI x y = y * -cpQ x y := by rw [Int.mul_neg, Int.mul_comm y]; omega
  refine ⟨eS, ?_, ?_⟩
  · rw [wrap_id (n := x * ivI x y) (by omega) (by omega), wrap_id (n := x * ivI x y - 1) (by omega) (by omega), e1, Int.mul_tdiv_cancel_left _ h0, wrap_id (by omega) (by omega)]
  · rw [wrap_id (n := x * ivI x y) (by omega) (by omega), wrap_id (n := 1 - x * ivI x y) (by omega) (by omega), e2, Int.mul_tdiv_cancel_left _ h0, wrap_id (by omega) (by omega)]
abbrev fComplete : Nat := 60
def cComplete : Ctr
  | [.s [a, b, c], .i x, .i y] => some ⟨CpPre a b c x y, .tup [.s [vl (a, b, c) x y, cpB a b c x y, cpC a b c x y], .s [x, cpU a b c x y, y, cpV a b c x y]], []⟩
  | _ => none
theorem okComplete : CtrOk Try.prog fComplete cComplete := by
  have hsp : SpecOk Try.prog (specOf [(fInv2, cInv2), (fAbs, cAbs), (fSubstitute, cSubstitute), (fFloorDiv, cFloorDiv)]) := (SpecOk.cons okInv2 (SpecOk.cons okAbs (SpecOk.cons okSubstitute (SpecOk.cons okFloorDiv SpecOk.nil))))
  refine ctr_of (fn := Try.f60) mixed tab_ok hsp Try.func60 (by kernel_rfl) (by kernel_rfl) fun args ce h => ?_
  clear hsp
  unfold cComplete at h
  split at h
  case h_2 => cases h
  rename_i a b c x y
  simp only [Option.some.injEq] at h
  subst h
  refine ⟨by rfl, fun hp => ⟨0, 1000, ?_⟩⟩
  simp only [↓cond_to_ite, ↓reduceIte, vc, out, effCopy, finD, St.drop, vwAt, Entry.vwO, RC.vwO, dropAt, A0.dr, AV.dr, noneNames, viewS, viewV, viewTo, A0.vwT, AV.vwT, viewOk, viewEn, appView, hdSlc, A0.mv1, AV.mv1, Entry.toO, toOf, A0.mv, AV.mv, mvTo, St.res, nxtH, makeRows, effMakeSl, storeRow, step, stepE, stepPick, stepG, stepO, stepC, eff, look, rem, St.put, St.setMem, setMems, St.after, St.eval, cst, setAt, val1, okNew, newHs, allHs, rdOf, outHs, Reg.item, Reg.next, Reg.skip, slotOf, effBox, effAlloc, entryRow, fieldOff, effField, loadI, load1, loadR, effLoad, storeI, storeB, storeR, szOk, storeTo, effStore, buildOf, effBuild, binInt, eqI, boolOf, binBool, effBin, effUn, effPick, effExtract, ivs, svs, rowOf, allParts, effBuildSlice, zeroRow, effMakeSlice, elemSz, idxA, idxS, effIndex, lenOf, readOf, subPre, maxRow, plainTI, appTo, effAppend, slcOf, effSlice, argOf, resA, resL, resV, outWr, nodupB, restOk, argsPre, argOk, callWr, effCall, effMax, RC.flat, effBox2, boxPair, compOf, innerOf, innerPre, fieldTwo, loadO, loadN, storeN, buildTwo, effBuild2, buildRows, effBuildSl, appRows, effApp2, plainA, callIn, outsEmpty, callGo, MC.get, MC.has, MC.put, mcTI, keyTI, emptyMC, effMakeMap, mapIn, hOf1, lookV, effLookup, mapBack, effUpdate, effNil, effMin, effIndexV, cutSlc, arrElem, cutOf, wrHs, disj, AV.hs, A0.hs, Entry.hs, RC.elem, RC.sz, RC.len, RC.slice, RC.app, hA, initFr, initMem, initSt, resOf, resAll, compEq, compsEq, rowHs, outHds, outsEq, shapeOk, finOk, comps, A0.norm, AV.norm, specOf, t_int, t_bool, t_implForm, t_implMatrix, t_implunited, ts_int, ts_implForm, tss_int, tm_implForm, t_implclassGroup, Option.getD_some, Option.getD_none, cond_true, cond_false, Nat.reduceBEq, List.map_cons, List.map_nil, List.set_cons_zero, List.set_cons_succ, List.getElem?_cons_zero, List.getElem?_cons_succ, List.drop_zero, List.drop_succ_cons, List.take_succ_cons, List.take_zero, Option.map_some, Option.map_none, Option.bind_some, Nat.zero_add, Nat.add_zero, Nat.reduceAdd, Nat.reduceMul, true_and, and_true, List.replicate_succ, List.replicate_zero, List.length_cons, List.length_nil, List.all_cons, List.all_nil, List.any_cons, List.any_nil, Bool.and_true, Bool.true_and, Bool.and_false, Bool.false_and, Bool.or_true, Bool.true_or, Bool.or_false, Bool.false_or, Bool.not_true, Bool.not_false, List.append_nil, List.nil_append, List.cons_append, List.flatMap_cons, List.flatMap_nil, List.contains_cons, List.contains_nil, List.filter_cons, List.filter_nil, beq_self_eq_true, Bool.not_eq_true, A0.b.injEq, A0.i.injEq, A0.s.injEq, A0.rw.injEq, A0.fn.injEq, List.cons.injEq, RC.ints.injEq, RC.recs.injEq, RC.bools.injEq, RC.mp.injEq, RC.grp.injEq, RC.rows.injEq, MC.ints.injEq, MC.bools.injEq, AV.one.injEq, AV.tup.injEq, ble_dec, blt_dec, Nat.reduceLeDiff, Nat.reduceSub, decide_true, decide_false, and_self, List.toList_toArray, Option.isSome_some, Option.isSome_none, List.elem_nil, List.elem_cons, ite_true, ite_false, Bool.false_eq_true, if_true, if_false, reduceIte, flatB_2, flatB_3, flatB_4, List.headD_cons, List.tail_cons, cInv2, fInv2, cAbs, fAbs, cSubstitute, fSubstitute, cFloorDiv, fFloorDiv, actI, Try.f60]
  have h : CpPre a b c x y := hp
  refine ite_prop (fun g => ?_) fun g => ?_
  · have h0 : y = 0 := by simpa using g
    obtain ⟨e1, e2, e3, e4, e5, e6, e7⟩ := cp_eqs (Q0 := 0) (S0 := x) h (by unfold cpQ; rw [if_pos h0]) (by unfold cpS; rw [if_pos h0])
    rw [e3, e4, e5, e6, e7]
    exact ⟨e2, by kernel_rfl, rfl, ⟨e1, rfl, rfl⟩, rfl, rfl⟩
  · have h0 : y ≠ 0 := by simpa using g
    have hx := h.x1
    have hy := h.y1
    have ha : absI y = y := abs_pos ⟨by omega, by omega⟩
    obtain ⟨q1, q2, _⟩ := cp_quo hx hy h.g h0
    rw [ha, q2]
    obtain ⟨e1, e2, e3, e4, e5, e6, e7⟩ := cp_eqs (Q0 := cpQ x y) (S0 := ivI x y) h rfl q1.symm
    rw [e3, e4, e5, e6, e7]
    exact ⟨⟨⟨by omega, by omega⟩, ⟨by omega, by omega⟩, h.g⟩, h0, e2, by kernel_rfl, rfl, ⟨e1, rfl, rfl⟩, rfl, rfl⟩
abbrev fLSign : Nat := 57
def cLSign : Ctr
  | [.i n] => some ⟨True, .one (.i (if n > 0 then 1 else if n < 0 then -1 else 0)), []⟩
  | _ => none
theorem okLSign : CtrOk Try.prog fLSign cLSign := by
  have hsp : SpecOk Try.prog (specOf []) := SpecOk.nil
  refine ctr_of (fn := Try.f57) mixed tab_ok hsp Try.func57 (by kernel_rfl) (by kernel_rfl) fun args ce h => ?_
  clear hsp
  unfold cLSign at h
  split at h
  case h_2 => cases h
  rename_i n
  simp only [Option.some.injEq] at h
  subst h
  refine ⟨by rfl, fun hp => ⟨0, 1000, ?_⟩⟩
  simp only [vc, out, effCopy, finD, St.drop, vwAt, Entry.vwO, RC.vwO, dropAt, A0.dr, AV.dr, noneNames, viewS, viewV, viewTo, A0.vwT, AV.vwT, viewOk, viewEn, appView, hdSlc, A0.mv1, AV.mv1, Entry.toO, toOf, A0.mv, AV.mv, mvTo, St.res, nxtH, makeRows, effMakeSl, storeRow, step, stepE, stepPick, stepG, stepO, stepC, eff, look, rem, St.put, St.setMem, setMems, St.after, St.eval, cst, setAt, val1, okNew, newHs, allHs, rdOf, outHs, Reg.item, Reg.next, Reg.skip, slotOf, effBox, effAlloc, entryRow, fieldOff, effField, loadI, load1, loadR, effLoad, storeI, storeB, storeR, szOk, storeTo, effStore, buildOf, effBuild, binInt, eqI, boolOf, binBool, effBin, effUn, effPick, effExtract, ivs, svs, rowOf, allParts, effBuildSlice, zeroRow, effMakeSlice, elemSz, idxA, idxS, effIndex, lenOf, readOf, subPre, maxRow, plainTI, appTo, effAppend, slcOf, effSlice, argOf, resA, resL, resV, outWr, nodupB, restOk, argsPre, argOk, callWr, effCall, effMax, RC.flat, effBox2, boxPair, compOf, innerOf, innerPre, fieldTwo, loadO, loadN, storeN, buildTwo, effBuild2, buildRows, effBuildSl, appRows, effApp2, plainA, callIn, outsEmpty, callGo, MC.get, MC.has, MC.put, mcTI, keyTI, emptyMC, effMakeMap, mapIn, hOf1, lookV, effLookup, mapBack, effUpdate, effNil, effMin, effIndexV, cutSlc, arrElem, cutOf, wrHs, disj, AV.hs, A0.hs, Entry.hs, RC.elem, RC.sz, RC.len, RC.slice, RC.app, hA, initFr, initMem, initSt, resOf, resAll, compEq, compsEq, rowHs, outHds, outsEq, shapeOk, finOk, comps, A0.norm, AV.norm, specOf, t_int, t_bool, t_implForm, t_implMatrix, t_implunited, ts_int, ts_implForm, tss_int, tm_implForm, t_implclassGroup, Option.getD_some, Option.getD_none, cond_true, cond_false, Nat.reduceBEq, List.map_cons, List.map_nil, List.set_cons_zero, List.set_cons_succ, List.getElem?_cons_zero, List.getElem?_cons_succ, List.drop_zero, List.drop_succ_cons, List.take_succ_cons, List.take_zero, Option.map_some, Option.map_none, Option.bind_some, Nat.zero_add, Nat.add_zero, Nat.reduceAdd, Nat.reduceMul, true_and, and_true, List.replicate_succ, List.replicate_zero, List.length_cons, List.length_nil, List.all_cons, List.all_nil, List.any_cons, List.any_nil, Bool.and_true, Bool.true_and, Bool.and_false, Bool.false_and, Bool.or_true, Bool.true_or, Bool.or_false, Bool.false_or, Bool.not_true, Bool.not_false, List.append_nil, List.nil_append, List.cons_append, List.flatMap_cons, List.flatMap_nil, List.contains_cons, List.contains_nil, List.filter_cons, List.filter_nil, beq_self_eq_true, Bool.not_eq_true, A0.b.injEq, A0.i.injEq, A0.s.injEq, A0.rw.injEq, A0.fn.injEq, List.cons.injEq, RC.ints.injEq, RC.recs.injEq, RC.bools.injEq, RC.mp.injEq, RC.grp.injEq, RC.rows.injEq, MC.ints.injEq, MC.bools.injEq, AV.one.injEq, AV.tup.injEq, ble_dec, blt_dec, Nat.reduceLeDiff, Nat.reduceSub, decide_true, decide_false, and_self, List.toList_toArray, Option.isSome_some, Option.isSome_none, List.elem_nil, List.elem_cons, ite_true, ite_false, Bool.false_eq_true, if_true, if_false, reduceIte, flatB_2, flatB_3, flatB_4, List.headD_cons, List.tail_cons, Try.f57]
  by_cases h : n > 0 <;> by_cases h2 : n < 0 <;> simp [h, h2]
abbrev fNuBez : Nat := 49
def cNuBez : Ctr
  | [.i x, .i y] => some ⟨(0 ≤ x ∧ x ≤ 5) ∧ (0 ≤ y ∧ y ≤ 5) ∧ Int.gcd x y = 1, .tup [.i 1, .i (cpS x y), .i (-cpQ x y)], []⟩
  | _ => none
theorem okNuBez : CtrOk Try.prog fNuBez cNuBez := by
  have hsp : SpecOk Try.prog (specOf [(fNuGcd, cNuGcd), (fLSign, cLSign), (fLAbs, cLAbs), (fNuInv, cNuInv)]) := (SpecOk.cons okNuGcd (SpecOk.cons okLSign (SpecOk.cons okLAbs (SpecOk.cons okNuInv SpecOk.nil))))
  refine ctr_of (fn := Try.f49) mixed tab_ok hsp Try.func49 (by kernel_rfl) (by kernel_rfl) fun args ce h => ?_
  clear hsp
  unfold cNuBez at h
  split at h
  case h_2 => cases h
  rename_i x y
  simp only [Option.some.injEq] at h
  subst h
  refine ⟨by rfl, fun hp => ⟨0, 1000, ?_⟩⟩
  simp only [↓cond_to_ite, ↓reduceIte, vc, out, effCopy, finD, St.drop, vwAt, Entry.vwO, RC.vwO, dropAt, A0.dr, AV.dr, noneNames, viewS, viewV, viewTo, A0.vwT, AV.vwT, viewOk, viewEn, appView, hdSlc, A0.mv1, AV.mv1, Entry.toO, toOf, A0.mv, AV.mv, mvTo, St.res, nxtH, makeRows, effMakeSl, storeRow, step, stepE, stepPick, stepG, stepO, stepC, eff, look, rem, St.put, St.setMem, setMems, St.after, St.eval, cst, setAt, val1, okNew, newHs, allHs, rdOf, outHs, Reg.item, Reg.next, Reg.skip, slotOf, effBox, effAlloc, entryRow, fieldOff, effField, loadI, load1, loadR, effLoad, storeI, storeB, storeR, szOk, storeTo, effStore, buildOf, effBuild, binInt, eqI, boolOf, binBool, effBin, effUn, effPick, effExtract, ivs, svs, rowOf, allParts, effBuildSlice, zeroRow, effMakeSlice, elemSz, idxA, idxS, effIndex, lenOf, readOf, subPre, maxRow, plainTI, appTo, effAppend, slcOf, effSlice, argOf, resA, resL, resV, outWr, nodupB, restOk, argsPre, argOk, callWr, effCall, effMax, RC.flat, effBox2, boxPair, compOf, innerOf, innerPre, fieldTwo, loadO, loadN, storeN, buildTwo, effBuild2, buildRows, effBuildSl, appRows, effApp2, plainA, callIn, outsEmpty, callGo, MC.get, MC.has, MC.put, mcTI, keyTI, emptyMC, effMakeMap, mapIn, hOf1, lookV, effLookup, mapBack, effUpdate, effNil, effMin, effIndexV, cutSlc, arrElem, cutOf, wrHs, disj, AV.hs, A0.hs, Entry.hs, RC.elem, RC.sz, RC.len, RC.slice, RC.app, hA, initFr, initMem, initSt, resOf, resAll, compEq, compsEq, rowHs, outHds, outsEq, shapeOk, finOk, comps, A0.norm, AV.norm, specOf, t_int, t_bool, t_implForm, t_implMatrix, t_implunited, ts_int, ts_implForm, tss_int, tm_implForm, t_implclassGroup, Option.getD_some, Option.getD_none, cond_true, cond_false, Nat.reduceBEq, List.map_cons, List.map_nil, List.set_cons_zero, List.set_cons_succ, List.getElem?_cons_zero, List.getElem?_cons_succ, List.drop_zero, List.drop_succ_cons, List.take_succ_cons, List.take_zero, Option.map_some, Option.map_none, Option.bind_some, Nat.zero_add, Nat.add_zero, Nat.reduceAdd, Nat.reduceMul, true_and, and_true, List.replicate_succ, List.replicate_zero, List.length_cons, List.length_nil, List.all_cons, List.all_nil, List.any_cons, List.any_nil, Bool.and_true, Bool.true_and, Bool.and_false, Bool.false_and, Bool.or_true, Bool.true_or, Bool.or_false, Bool.false_or, Bool.not_true, Bool.not_false, List.append_nil, List.nil_append, List.cons_append, List.flatMap_cons, List.flatMap_nil, List.contains_cons, List.contains_nil, List.filter_cons, List.filter_nil, beq_self_eq_true, Bool.not_eq_true, A0.b.injEq, A0.i.injEq, A0.s.injEq, A0.rw.injEq, A0.fn.injEq, List.cons.injEq, RC.ints.injEq, RC.recs.injEq, RC.bools.injEq, RC.mp.injEq, RC.grp.injEq, RC.rows.injEq, MC.ints.injEq, MC.bools.injEq, AV.one.injEq, AV.tup.injEq, ble_dec, blt_dec, Nat.reduceLeDiff, Nat.reduceSub, decide_true, decide_false, and_self, List.toList_toArray, Option.isSome_some, Option.isSome_none, List.elem_nil, List.elem_cons, ite_true, ite_false, Bool.false_eq_true, if_true, if_false, reduceIte, flatB_2, flatB_3, flatB_4, List.headD_cons, List.tail_cons, cNuGcd, fNuGcd, cLSign, fLSign, cLAbs, fLAbs, cNuInv, fNuInv, Try.f49]
  obtain ⟨hx, hy, hg⟩ : (0 ≤ x ∧ x ≤ 5) ∧ (0 ≤ y ∧ y ≤ 5) ∧ Int.gcd x y = 1 := hp
  have e1 : nuGcdI x y = 1 := by rw [nuGcdI_eq (by omega) (by omega), hg]; rfl
  rw [e1]
  refine ite_prop (fun g => ?_) fun g => ?_
  · have h0 : y = 0 := by simpa using g
    subst h0
    rw [Int.gcd_zero_right] at hg
    have : x = 1 := by omega
    subst this
    exact ⟨rfl, rfl, rfl, rfl⟩
  · have h0 : y ≠ 0 := by simpa using g
    have ha : labsI y = y := by rw [labs_eq (by omega)]; omega
    obtain ⟨q1, _, q3⟩ := cp_quo hx hy hg h0
    rw [ha, Int.tdiv_one, Int.tdiv_one, wrap_id (n := x) (by omega) (by omega), wrap_id (n := y) (by omega) (by omega)]
    exact ⟨by decide, by decide, ⟨⟨by omega, by omega⟩, ⟨by omega, by omega⟩, hg⟩, by kernel_rfl, h0, by kernel_rfl, rfl, rfl, q1.symm, q3⟩
theorem cpB_emod {a b c x y : Int} (h : CpPre a b c x y) : cpB a b c x y = pl (a, b, c) x y (cpQ x y) (cpS x y) % (2 * vl (a, b, c) x y) := cpF_2 h.v.1
theorem cp_disc {a b c x y : Int} (h : CpPre a b c x y) : cpB a b c x y * cpB a b c x y - dsc (a, b, c) = 4 * vl (a, b, c) x y * cpC a b c x y := by
  have h1 : dsc (cpF (a, b, c) x y) = dsc (a, b, c) := by
    unfold cpF
    rw [dsc_act, cpM_det h.x1.1 h.y1.1 h.g]; omega
  have h2 : dsc (cpF (a, b, c) x y) = cpB a b c x y * cpB a b c x y - 4 * vl (a, b, c) x y * cpC a b c x y := rfl
  omega
theorem disc_small {a b c : Int} (ha : 1 ≤ a ∧ a ≤ 25) (hb : -25 ≤ b ∧ b ≤ 25) (hc : 1 ≤ c ∧ c ≤ 700) : discI a b c = dsc (a, b, c) ∧ -70000 ≤ dsc (a, b, c) ∧ dsc (a, b, c) ≤ 625 := by
  have h1 := mul_bd (a := b) (b := b) (j := 25) (k := 25) (by omega) (by omega) ⟨by omega, by omega⟩ ⟨by omega, by omega⟩
  have h2 := mul_bd (a := 4 * a) (b := c) (j := 100) (k := 700) (by omega) (by omega) ⟨by omega, by omega⟩ ⟨by omega, by omega⟩
  have h3 : 0 ≤ 4 * a * c := Int.mul_nonneg (by omega) (by omega)
  have h4 := sq_nonneg b
  rw [discI_eq]
  unfold dsc
  simp only
  rw [wrap_id (by omega) (by omega)]
  omega
theorem cp_eqs2 {a b c x y : Int} (h : CpPre a b c x y) :
    wrap64 (0 - -cpQ x y) = cpQ x y ∧ valI a b c x y = vl (a, b, c) x y ∧ polI a b c x y (cpQ x y) (cpS x y) = pl (a, b, c) x y (cpQ x y) (cpS x y) ∧ wrap64 (2 * vl (a, b, c) x y) = 2 * vl (a, b, c) x y ∧ wrap64 (4 * vl (a, b, c) x y) = 4 * vl (a, b, c) x y ∧
    wrap64 ((wrap64 (modI (pl (a, b, c) x y (cpQ x y) (cpS x y)) (2 * vl (a, b, c) x y) - pl (a, b, c) x y (cpQ x y) (cpS x y))).tdiv (2 * vl (a, b, c) x y)) = cpT (a, b, c) x y ∧
    wrap64 (pl (a, b, c) x y (cpQ x y) (cpS x y) + wrap64 (2 * vl (a, b, c) x y * cpT (a, b, c) x y)) = cpB a b c x y ∧
    wrap64 ((wrap64 (wrap64 (cpB a b c x y * cpB a b c x y) - discI a b c)).tdiv (4 * vl (a, b, c) x y)) = cpC a b c x y ∧
    wrap64 (cpQ x y + wrap64 (x * cpT (a, b, c) x y)) = cpU a b c x y ∧ wrap64 (cpS x y + wrap64 (y * cpT (a, b, c) x y)) = cpV a b c x y := by
  obtain ⟨h1, h2⟩ := cp_small h.x1 h.y1 h.g
  obtain ⟨h3, h4⟩ := cpT_small h
  obtain ⟨_, _, k4, k5, k6, k7, k8⟩ := cp_eqs h rfl rfl
  have hx := h.x1
  have hy := h.y1
  have hv := h.v
  have e1 : valI a b c x y = vl (a, b, c) x y := vl_mid h.a1 h.b1 h.c1 ⟨by omega, by omega⟩ ⟨by omega, by omega⟩
  have e2 : polI a b c x y (cpQ x y) (cpS x y) = pl (a, b, c) x y (cpQ x y) (cpS x y) := polI_small h.a1 h.b1 h.c1 hx hy ⟨by omega, by omega⟩ ⟨by omega, by omega⟩
  have hem := Int.mul_ediv_add_emod (pl (a, b, c) x y (cpQ x y) (cpS x y)) (2 * vl (a, b, c) x y)
  have b0 := Int.emod_nonneg (pl (a, b, c) x y (cpQ x y) (cpS x y)) (show 2 * vl (a, b, c) x y ≠ 0 by omega)
  have b1 := Int.emod_lt_of_pos (pl (a, b, c) x y (cpQ x y) (cpS x y)) (show 0 < 2 * vl (a, b, c) x y by omega)
  have et : 2 * vl (a, b, c) x y * cpT (a, b, c) x y = pl (a, b, c) x y (cpQ x y) (cpS x y) % (2 * vl (a, b, c) x y) - pl (a, b, c) x y (cpQ x y) (cpS x y) := by
    unfold cpT
    rw [Int.mul_neg]; omega
  have hB := cpB_emod h
  obtain ⟨d1, d2, d3⟩ := disc_small h.a1 h.b1 h.c1
  have hdd := cp_disc h
  refine ⟨by rw [wrap_id (by omega) (by omega)]; omega, e1, e2, wrap_id (by omega) (by omega), wrap_id (by omega) (by omega), ?_, ?_, ?_, ?_, ?_⟩
  · rw [modI_eq (by omega) (by omega), wrap_id (n := _ - _) (by omega) (by omega), ← et, Int.mul_tdiv_cancel_left _ (by omega), wrap_id (by omega) (by omega)]
  · rw [et, wrap_id (n := _ - _) (by omega) (by omega), wrap_id (by omega) (by omega), hB]; omega
  · have q := mul_bd (a := cpB a b c x y) (b := cpB a b c x y) (j := 70000) (k := 70000) (by omega) (by omega) ⟨by omega, by omega⟩ ⟨by omega, by omega⟩
    rw [d1, wrap_id (n := cpB a b c x y * cpB a b c x y) (by omega) (by omega), wrap_id (n := _ - _) (by omega) (by omega), hdd, Int.mul_tdiv_cancel_left _ (by omega)]
    have hC : cpC a b c x y = valI a b c (cpU a b c x y) (cpV a b c x y) := k8.symm
    rw [hC]
    unfold valI
    generalize wrap64 (wrap64 (a * cpU a b c x y) * cpU a b c x y) + wrap64 (wrap64 (b * cpU a b c x y) * cpV a b c x y) = z
    unfold wrap64
    omega
  · rw [Int.mul_comm x]; exact k5
  · rw [Int.mul_comm y]; exact k6
abbrev fVaComp : Nat := 39
def cVaComp : Ctr
  | [.s [a, b, c], .i x, .i y] => some ⟨CpPre a b c x y, .tup [.s [vl (a, b, c) x y, cpB a b c x y, cpC a b c x y], .s [x, cpU a b c x y, y, cpV a b c x y]], []⟩
  | _ => none
theorem okVaComp : CtrOk Try.prog fVaComp cVaComp := by
  have hsp : SpecOk Try.prog (specOf [(fNuBez, cNuBez), (fFoValue, cFoValue), (fFoPolar, cFoPolar), (fNuMod, cNuMod), (fFoDisc, cFoDisc)]) := (SpecOk.cons okNuBez (SpecOk.cons okFoValue (SpecOk.cons okFoPolar (SpecOk.cons okNuMod (SpecOk.cons okFoDisc SpecOk.nil)))))
  refine ctr_of (fn := Try.f39) mixed tab_ok hsp Try.func39 (by kernel_rfl) (by kernel_rfl) fun args ce h => ?_
  clear hsp
  unfold cVaComp at h
  split at h
  case h_2 => cases h
  rename_i a b c x y
  simp only [Option.some.injEq] at h
  subst h
  refine ⟨by rfl, fun hp => ⟨0, 1000, ?_⟩⟩
  simp only [↓cond_to_ite, ↓reduceIte, vc, out, effCopy, finD, St.drop, vwAt, Entry.vwO, RC.vwO, dropAt, A0.dr, AV.dr, noneNames, viewS, viewV, viewTo, A0.vwT, AV.vwT, viewOk, viewEn, appView, hdSlc, A0.mv1, AV.mv1, Entry.toO, toOf, A0.mv, AV.mv, mvTo, St.res, nxtH, makeRows, effMakeSl, storeRow, step, stepE, stepPick, stepG, stepO, stepC, eff, look, rem, St.put, St.setMem, setMems, St.after, St.eval, cst, setAt, val1, okNew, newHs, allHs, rdOf, outHs, Reg.item, Reg.next, Reg.skip, slotOf, effBox, effAlloc, entryRow, fieldOff, effField, loadI, load1, loadR, effLoad, storeI, storeB, storeR, szOk, storeTo, effStore, buildOf, effBuild, binInt, eqI, boolOf, binBool, effBin, effUn, effPick, effExtract, ivs, svs, rowOf, allParts, effBuildSlice, zeroRow, effMakeSlice, elemSz, idxA, idxS, effIndex, lenOf, readOf, subPre, maxRow, plainTI, appTo, effAppend, slcOf, effSlice, argOf, resA, resL, resV, outWr, nodupB, restOk, argsPre, argOk, callWr, effCall, effMax, RC.flat, effBox2, boxPair, compOf, innerOf, innerPre, fieldTwo, loadO, loadN, storeN, buildTwo, effBuild2, buildRows, effBuildSl, appRows, effApp2, plainA, callIn, outsEmpty, callGo, MC.get, MC.has, MC.put, mcTI, keyTI, emptyMC, effMakeMap, mapIn, hOf1, lookV, effLookup, mapBack, effUpdate, effNil, effMin, effIndexV, cutSlc, arrElem, cutOf, wrHs, disj, AV.hs, A0.hs, Entry.hs, RC.elem, RC.sz, RC.len, RC.slice, RC.app, hA, initFr, initMem, initSt, resOf, resAll, compEq, compsEq, rowHs, outHds, outsEq, shapeOk, finOk, comps, A0.norm, AV.norm, specOf, t_int, t_bool, t_implForm, t_implMatrix, t_implunited, ts_int, ts_implForm, tss_int, tm_implForm, t_implclassGroup, Option.getD_some, Option.getD_none, cond_true, cond_false, Nat.reduceBEq, List.map_cons, List.map_nil, List.set_cons_zero, List.set_cons_succ, List.getElem?_cons_zero, List.getElem?_cons_succ, List.drop_zero, List.drop_succ_cons, List.take_succ_cons, List.take_zero, Option.map_some, Option.map_none, Option.bind_some, Nat.zero_add, Nat.add_zero, Nat.reduceAdd, Nat.reduceMul, true_and, and_true, List.replicate_succ, List.replicate_zero, List.length_cons, List.length_nil, List.all_cons, List.all_nil, List.any_cons, List.any_nil, Bool.and_true, Bool.true_and, Bool.and_false, Bool.false_and, Bool.or_true, Bool.true_or, Bool.or_false, Bool.false_or, Bool.not_true, Bool.not_false, List.append_nil, List.nil_append, List.cons_append, List.flatMap_cons, List.flatMap_nil, List.contains_cons, List.contains_nil, List.filter_cons, List.filter_nil, beq_self_eq_true, Bool.not_eq_true, A0.b.injEq, A0.i.injEq, A0.s.injEq, A0.rw.injEq, A0.fn.injEq, List.cons.injEq, RC.ints.injEq, RC.recs.injEq, RC.bools.injEq, RC.mp.injEq, RC.grp.injEq, RC.rows.injEq, MC.ints.injEq, MC.bools.injEq, AV.one.injEq, AV.tup.injEq, ble_dec, blt_dec, Nat.reduceLeDiff, Nat.reduceSub, decide_true, decide_false, and_self, List.toList_toArray, Option.isSome_some, Option.isSome_none, List.elem_nil, List.elem_cons, ite_true, ite_false, Bool.false_eq_true, if_true, if_false, reduceIte, flatB_2, flatB_3, flatB_4, List.headD_cons, List.tail_cons, cNuBez, fNuBez, cFoValue, fFoValue, cFoPolar, fFoPolar, cNuMod, fNuMod, cFoDisc, fFoDisc, Try.f39]
  have h : CpPre a b c x y := hp
  have hv := h.v
  obtain ⟨e1, e2, e3, e4, e5, e6, e7, e8, e9, e10⟩ := cp_eqs2 h
  simp only [e1, e2, e3, e4, e5, e6, e7, e8, e9, e10]
  exact ⟨⟨h.x1, h.y1, h.g⟩, by omega, by omega, by omega, by kernel_rfl, rfl, ⟨trivial, trivial, trivial⟩, trivial, trivial⟩
end Go.Proofs.Ythcnaeahmdapbaa
