/-
  Contracts of united forms, on both sides. Conditions: none.
-/
import Derived.Test.YthcnaeahmdapbaaCo2
namespace Go.Proofs.Ythcnaeahmdapbaa
open Go Go.RowKit
set_option maxRecDepth 100000
set_option linter.unusedSimpArgs false
set_option linter.unusedVariables false
set_option maxHeartbeats 4000000

structure CmPre (a m b n : Int) : Prop where
  m2 : m % 2 = 0
  m1 : 2 ≤ m ∧ m ≤ 50
  n2 : n % 2 = 0
  n1 : 2 ≤ n ∧ n ≤ 70000
  g : Int.gcd (m / 2) (n / 2) = 1
  a1 : 0 ≤ a ∧ a < m
  b1 : 0 ≤ b ∧ b < n
  p : (b - a) % 2 = 0
theorem CmPre.gcd {a m b n : Int} (h : CmPre a m b n) : nuGcdI m n = 2 := by
  have h1 := h.m1
  have h2 := h.n1
  have h3 := h.m2
  have h4 := h.n2
  rw [nuGcdI_eq (by omega) (by omega)]
  have e1 : m = 2 * (m / 2) := by omega
  have e2 : n = 2 * (n / 2) := by omega
  have h5 := Int.gcd_mul_left 2 (m / 2) (n / 2)
  rw [h.g, ← e1, ← e2] at h5
  rw [h5]; rfl
def cmT (a m b n : Int) : Int := (b - a) / 2 * ivI (m / 2) (n / 2) % (n / 2)
theorem CmPre.t {a m b n : Int} (h : CmPre a m b n) : 0 ≤ cmT a m b n ∧ cmT a m b n < n / 2 := by
  have h2 := h.n1
  exact ⟨Int.emod_nonneg _ (by omega), Int.emod_lt_of_pos _ (by omega)⟩
theorem CmPre.iv {a m b n : Int} (h : CmPre a m b n) : 0 ≤ ivI (m / 2) (n / 2) ∧ ivI (m / 2) (n / 2) < n / 2 := by
  have h1 := h.m1
  have h2 := h.n1
  exact (iv_spec (by omega) (by omega) h.g).1
abbrev fNuCommon : Nat := 41
def cNuCommon : Ctr
  | [.i a, .i m, .i b, .i n] => some ⟨CmPre a m b n, .tup [.i (a + m * cmT a m b n), .i (m / 2 * n), .b true], []⟩
  | _ => none
theorem okNuCommon : CtrOk Try.prog fNuCommon cNuCommon := by
  have hsp : SpecOk Try.prog (specOf [(fNuGcd, cNuGcd), (fNuInv, cNuInv), (fNuMod, cNuMod)]) := (SpecOk.cons okNuGcd (SpecOk.cons okNuInv (SpecOk.cons okNuMod SpecOk.nil)))
  refine ctr_of (fn := Try.f41) mixed tab_ok hsp Try.func41 (by kernel_rfl) (by kernel_rfl) fun args ce h => ?_
  clear hsp
  unfold cNuCommon at h
  split at h
  case h_2 => cases h
  rename_i a m b n
  simp only [Option.some.injEq] at h
  subst h
  refine ⟨by rfl, fun hp => ⟨0, 1000, ?_⟩⟩
  simp only [↓cond_to_ite, ↓reduceIte, vc, out, effCopy, finD, St.drop, vwAt, Entry.vwO, RC.vwO, dropAt, A0.dr, AV.dr, noneNames, viewS, viewV, viewTo, A0.vwT, AV.vwT, viewOk, viewEn, appView, hdSlc, A0.mv1, AV.mv1, Entry.toO, toOf, A0.mv, AV.mv, mvTo, St.res, nxtH, makeRows, effMakeSl, storeRow, step, stepE, stepPick, stepG, stepO, stepC, eff, look, rem, St.put, St.setMem, setMems, St.after, St.eval, cst, setAt, val1, okNew, newHs, allHs, rdOf, outHs, Reg.item, Reg.next, Reg.skip, slotOf, effBox, effAlloc, entryRow, fieldOff, effField, loadI, load1, loadR, effLoad, storeI, storeB, storeR, szOk, storeTo, effStore, buildOf, effBuild, binInt, eqI, boolOf, binBool, effBin, effUn, effPick, effExtract, ivs, svs, rowOf, allParts, effBuildSlice, zeroRow, effMakeSlice, elemSz, idxA, idxS, effIndex, lenOf, readOf, subPre, maxRow, plainTI, appTo, effAppend, slcOf, effSlice, argOf, resA, resL, resV, outWr, nodupB, restOk, argsPre, argOk, callWr, effCall, effMax, RC.flat, effBox2, boxPair, compOf, innerOf, innerPre, fieldTwo, loadO, loadN, storeN, buildTwo, effBuild2, buildRows, effBuildSl, appRows, effApp2, plainA, callIn, outsEmpty, callGo, MC.get, MC.has, MC.put, mcTI, keyTI, emptyMC, effMakeMap, mapIn, hOf1, lookV, effLookup, mapBack, effUpdate, effNil, effMin, effIndexV, cutSlc, arrElem, cutOf, wrHs, disj, AV.hs, A0.hs, Entry.hs, RC.elem, RC.sz, RC.len, RC.slice, RC.app, hA, initFr, initMem, initSt, resOf, resAll, compEq, compsEq, rowHs, outHds, outsEq, shapeOk, finOk, comps, A0.norm, AV.norm, specOf, t_int, t_bool, t_implForm, t_implMatrix, t_implunited, ts_int, ts_implForm, tss_int, tm_implForm, t_implclassGroup, Option.getD_some, Option.getD_none, cond_true, cond_false, Nat.reduceBEq, List.map_cons, List.map_nil, List.set_cons_zero, List.set_cons_succ, List.getElem?_cons_zero, List.getElem?_cons_succ, List.drop_zero, List.drop_succ_cons, List.take_succ_cons, List.take_zero, Option.map_some, Option.map_none, Option.bind_some, Nat.zero_add, Nat.add_zero, Nat.reduceAdd, Nat.reduceMul, true_and, and_true, List.replicate_succ, List.replicate_zero, List.length_cons, List.length_nil, List.all_cons, List.all_nil, List.any_cons, List.any_nil, Bool.and_true, Bool.true_and, Bool.and_false, Bool.false_and, Bool.or_true, Bool.true_or, Bool.or_false, Bool.false_or, Bool.not_true, Bool.not_false, List.append_nil, List.nil_append, List.cons_append, List.flatMap_cons, List.flatMap_nil, List.contains_cons, List.contains_nil, List.filter_cons, List.filter_nil, beq_self_eq_true, Bool.not_eq_true, A0.b.injEq, A0.i.injEq, A0.s.injEq, A0.rw.injEq, A0.fn.injEq, List.cons.injEq, RC.ints.injEq, RC.recs.injEq, RC.bools.injEq, RC.mp.injEq, RC.grp.injEq, RC.rows.injEq, MC.ints.injEq, MC.bools.injEq, AV.one.injEq, AV.tup.injEq, ble_dec, blt_dec, Nat.reduceLeDiff, Nat.reduceSub, decide_true, decide_false, and_self, List.toList_toArray, Option.isSome_some, Option.isSome_none, List.elem_nil, List.elem_cons, ite_true, ite_false, Bool.false_eq_true, if_true, if_false, reduceIte, flatB_2, flatB_3, flatB_4, List.headD_cons, List.tail_cons, cNuGcd, fNuGcd, cNuInv, fNuInv, cNuMod, fNuMod, Try.f41]
  have h : CmPre a m b n := hp
  have h1 := h.m1
  have h2 := h.n1
  have h3 := h.m2
  have h4 := h.n2
  have h5 := h.a1
  have h6 := h.b1
  have h7 := h.p
  have h8 := h.t
  have h9 := h.iv
  have e0 : wrap64 (b - a) = b - a := wrap_id (by omega) (by omega)
  have e1 : (b - a).tmod 2 = 0 := by
    rw [Int.tmod_eq_emod]
    split <;> omega
  have e2 : (b - a).tdiv 2 = (b - a) / 2 := by
    have : b - a = 2 * ((b - a) / 2) := by omega
    rw [this, Int.mul_tdiv_cancel_left _ (by omega), Int.mul_ediv_cancel_left _ (by omega)]
  have e3 : wrap64 (m.tdiv 2) = m / 2 := by rw [Int.tdiv_eq_ediv_of_nonneg (by omega), wrap_id (by omega) (by omega)]
  have e4 : wrap64 (n.tdiv 2) = n / 2 := by rw [Int.tdiv_eq_ediv_of_nonneg (by omega), wrap_id (by omega) (by omega)]
  have q1 := mul_bd (a := (b - a) / 2) (b := ivI (m / 2) (n / 2)) (j := 70000) (k := 70000) (by omega) (by omega) ⟨by omega, by omega⟩ ⟨by omega, by omega⟩
  have e5 : wrap64 ((b - a) / 2) = (b - a) / 2 := wrap_id (by omega) (by omega)
  have e6 : wrap64 ((b - a) / 2 * ivI (m / 2) (n / 2)) = (b - a) / 2 * ivI (m / 2) (n / 2) := wrap_id (by omega) (by omega)
  have e7 : modI ((b - a) / 2 * ivI (m / 2) (n / 2)) (n / 2) = cmT a m b n := modI_eq (by omega) (by omega)
  have q2 := mul_bd (a := m) (b := cmT a m b n) (j := 50) (k := 70000) (by omega) (by omega) ⟨by omega, by omega⟩ ⟨by omega, by omega⟩
  have q3 := mul_bd (a := m / 2) (b := n) (j := 50) (k := 70000) (by omega) (by omega) ⟨by omega, by omega⟩ ⟨by omega, by omega⟩
  have e8 : wrap64 (m * cmT a m b n) = m * cmT a m b n := wrap_id (by omega) (by omega)
  have e9 : wrap64 (a + m * cmT a m b n) = a + m * cmT a m b n := wrap_id (by omega) (by omega)
  have e10 : wrap64 (m / 2 * n) = m / 2 * n := wrap_id (by omega) (by omega)
  have q4 : 0 < m / 2 * n := Int.mul_pos (by omega) (by omega)
  have q5 : m * cmT a m b n ≤ m * (n / 2 - 1) := Int.mul_le_mul_of_nonneg_left (by omega) (by omega)
  have q6 : m * (n / 2 - 1) = m / 2 * n - m := by
    have r1 : m = 2 * (m / 2) := by omega
    have r2 : n = 2 * (n / 2) := by omega
    generalize m / 2 = M at *
    generalize n / 2 = E at *
    subst r1 r2
    grind
  have q7 : 0 ≤ m * cmT a m b n := Int.mul_nonneg (by omega) (by omega)
  have e11 : modI (a + m * cmT a m b n) (m / 2 * n) = a + m * cmT a m b n := by
    rw [modI_eq q4 (by omega), Int.emod_eq_of_lt (by omega) (by omega)]
  simp only [h.gcd, e0, e1, e2, e3, e4, e5, e6, e7, e8, e9, e10, e11]
  refine ⟨by decide, ite_prop (fun g => absurd g (by decide)) fun _ => ⟨by decide, by decide, by decide, ⟨⟨by omega, by omega⟩, ⟨by omega, by omega⟩, h.g⟩, by decide, by omega, by kernel_rfl, by decide, by omega, rfl, trivial, trivial⟩⟩
def UnPre (a b c x y z : Int) : Prop := ∃ D, RP D (a, b, c) ∧ RP D (x, y, z)
theorem un_fp {D a b c x y z : Int} (hf : RP D (a, b, c)) (hg : RP D (x, y, z)) : FpPre 5 x y z a := by
  have h1 := hf.a25
  have h2 := hg.a25
  have h3 := hg.c700
  have h4 := hg.red.abs
  simp only at h1 h2 h3 h4
  exact ⟨⟨by omega, by omega⟩, ⟨by omega, by omega⟩, ⟨by omega, by omega⟩, ⟨by omega, by omega⟩, by omega, _, _, (uni_ok hf hg).pt⟩
theorem un_cp {D a b c x y z : Int} (hf : RP D (a, b, c)) (hg : RP D (x, y, z)) : CpPre x y z (fpX (x, y, z) a) (fpY (x, y, z) a) := by
  have h2 := hg.a25
  have h3 := hg.c700
  have h4 := hg.red.abs
  have u := uni_ok hf hg
  have pt := u.pt
  simp only at h2 h3 h4
  exact ⟨h2, ⟨by omega, by omega⟩, h3, ⟨pt.x0, pt.x1⟩, ⟨pt.y0, pt.y1⟩, pt.xy, u.e0, u.e1⟩
theorem un_cond {a E HB B1 T s2 t : Int} (hE : 0 < E) (hg : Int.gcd a E = 1) (h : B1 + 2 * a * T - HB = 2 * E * s2) (ht : 0 ≤ t ∧ t ≤ T) (hT : T < E) : (B1 + 2 * a * t - HB) % (2 * E) = 0 ↔ t = T := by
  constructor
  · intro h0
    obtain ⟨k, hk⟩ := Int.dvd_of_emod_eq_zero h0
    obtain ⟨p, q, hpq⟩ := bez hg
    have e1 : a * (T - t) = E * (s2 - k) := by
      have : 2 * (a * (T - t)) = 2 * (E * (s2 - k)) := by
        have f1 : 2 * (a * (T - t)) = 2 * a * T - 2 * a * t := by grind
        have f2 : 2 * (E * (s2 - k)) = 2 * E * s2 - 2 * E * k := by grind
        omega
      omega
    have e2 : T - t = E * (p * (s2 - k) + q * (T - t)) := by
      have f1 : T - t = (p * a + q * E) * (T - t) := by rw [hpq, Int.one_mul]
      have f2 : (p * a + q * E) * (T - t) = p * (a * (T - t)) + E * (q * (T - t)) := by grind
      rw [f2, e1] at f1
      rw [f1]; grind
    have e3 : T - t = 0 := by
      have : (T - t) % E = 0 := by rw [e2]; exact Int.mul_emod_right _ _
      rw [Int.emod_eq_of_lt (by omega) (by omega)] at this
      exact this
    omega
  · rintro rfl
    rw [h]; exact Int.mul_emod_right _ _
def uMP (f g : F3) : Int := (uM f g).1
def uMQ (f g : F3) : Int := (uM f g).2.1
def uMR (f g : F3) : Int := (uM f g).2.2.1
def uMS (f g : F3) : Int := (uM f g).2.2.2
theorem us_small {D : Int} {f g : F3} (hf : RP D f) (hg : RP D g) : (-26 ≤ uS2 f g ∧ uS2 f g ≤ 26) ∧ (-36000 ≤ uS1 f g ∧ uS1 f g ≤ 36000) := by
  have u := uni_ok hf hg
  have ⟨h1, h2⟩ := uB_bd hf hg
  have ha := hf.a25
  have hb := hf.red.abs
  have e0 := u.e0
  have e1 := u.e1
  have hB := u.hB
  have da := u.da
  have de := u.de
  constructor
  · constructor
    · by_cases hc : -26 ≤ uS2 f g
      · exact hc
      · have : 2 * uE f g * uS2 f g ≤ 2 * uE f g * (-2) := Int.mul_le_mul_of_nonneg_left (by omega) (by omega)
        omega
    · by_cases hc : uS2 f g ≤ 26
      · exact hc
      · have h3 : 2 * uE f g * 27 ≤ 2 * uE f g * uS2 f g := Int.mul_le_mul_of_nonneg_left (by omega) (by omega)
        have h4 : 2 * f.1 * uE f g ≤ 50 * uE f g := Int.mul_le_mul_of_nonneg_right (by omega) (by omega)
        omega
  · constructor
    · by_cases hc : -36000 ≤ uS1 f g
      · exact hc
      · have : 2 * f.1 * uS1 f g ≤ 2 * f.1 * (-36000) := Int.mul_le_mul_of_nonneg_left (by omega) (by omega)
        omega
    · by_cases hc : uS1 f g ≤ 36000
      · exact hc
      · have h3 : 2 * f.1 * 36000 ≤ 2 * f.1 * uS1 f g := Int.mul_le_mul_of_nonneg_left (by omega) (by omega)
        have h4 : 2 * f.1 * uE f g ≤ 2 * f.1 * 35000 := Int.mul_le_mul_of_nonneg_left (by omega) (by omega)
        omega
abbrev fUnite : Nat := 54
def cUnite : Ctr
  | [.s [a, b, c], .s [x, y, z]] => some ⟨UnPre a b c x y z, .one (.s [a, uE (a, b, c) (x, y, z), uB (a, b, c) (x, y, z), uC (a, b, c) (x, y, z), 1, uS1 (a, b, c) (x, y, z), 0, 1, uMP (a, b, c) (x, y, z), uMQ (a, b, c) (x, y, z), uMR (a, b, c) (x, y, z), uMS (a, b, c) (x, y, z)]), []⟩
  | _ => none
theorem okUnite : CtrOk Try.prog fUnite cUnite := by
  have hsp : SpecOk Try.prog (specOf [(fFirstPoint, cFirstPoint), (fComplete, cComplete), (fMod, cMod), (fDisc, cDisc), (fTimes, cTimes)]) := (SpecOk.cons okFirstPoint (SpecOk.cons okComplete (SpecOk.cons okMod (SpecOk.cons okDisc (SpecOk.cons okTimes SpecOk.nil)))))
  refine ctr_of (fn := Try.f54) mixed tab_ok hsp Try.func54 (by kernel_rfl) (by kernel_rfl) fun args ce h => ?_
  clear hsp
  unfold cUnite at h
  split at h
  case h_2 => cases h
  rename_i a b c x y z
  simp only [Option.some.injEq] at h
  subst h
  refine ⟨by rfl, fun hp => ⟨1, 1000, ?_⟩⟩
  simp only [↓cond_to_ite, ↓reduceIte, vc, out, effCopy, finD, St.drop, vwAt, Entry.vwO, RC.vwO, dropAt, A0.dr, AV.dr, noneNames, viewS, viewV, viewTo, A0.vwT, AV.vwT, viewOk, viewEn, appView, hdSlc, A0.mv1, AV.mv1, Entry.toO, toOf, A0.mv, AV.mv, mvTo, St.res, nxtH, makeRows, effMakeSl, storeRow, step, stepE, stepPick, stepG, stepO, stepC, eff, look, rem, St.put, St.setMem, setMems, St.after, St.eval, cst, setAt, val1, okNew, newHs, allHs, rdOf, outHs, Reg.item, Reg.next, Reg.skip, slotOf, effBox, effAlloc, entryRow, fieldOff, effField, loadI, load1, loadR, effLoad, storeI, storeB, storeR, szOk, storeTo, effStore, buildOf, effBuild, binInt, eqI, boolOf, binBool, effBin, effUn, effPick, effExtract, ivs, svs, rowOf, allParts, effBuildSlice, zeroRow, effMakeSlice, elemSz, idxA, idxS, effIndex, lenOf, readOf, subPre, maxRow, plainTI, appTo, effAppend, slcOf, effSlice, argOf, resA, resL, resV, outWr, nodupB, restOk, argsPre, argOk, callWr, effCall, effMax, RC.flat, effBox2, boxPair, compOf, innerOf, innerPre, fieldTwo, loadO, loadN, storeN, buildTwo, effBuild2, buildRows, effBuildSl, appRows, effApp2, plainA, callIn, outsEmpty, callGo, MC.get, MC.has, MC.put, mcTI, keyTI, emptyMC, effMakeMap, mapIn, hOf1, lookV, effLookup, mapBack, effUpdate, effNil, effMin, effIndexV, cutSlc, arrElem, cutOf, wrHs, disj, AV.hs, A0.hs, Entry.hs, RC.elem, RC.sz, RC.len, RC.slice, RC.app, hA, initFr, initMem, initSt, resOf, resAll, compEq, compsEq, rowHs, outHds, outsEq, shapeOk, finOk, comps, A0.norm, AV.norm, specOf, t_int, t_bool, t_implForm, t_implMatrix, t_implunited, ts_int, ts_implForm, tss_int, tm_implForm, t_implclassGroup, Option.getD_some, Option.getD_none, cond_true, cond_false, Nat.reduceBEq, List.map_cons, List.map_nil, List.set_cons_zero, List.set_cons_succ, List.getElem?_cons_zero, List.getElem?_cons_succ, List.drop_zero, List.drop_succ_cons, List.take_succ_cons, List.take_zero, Option.map_some, Option.map_none, Option.bind_some, Nat.zero_add, Nat.add_zero, Nat.reduceAdd, Nat.reduceMul, true_and, and_true, List.replicate_succ, List.replicate_zero, List.length_cons, List.length_nil, List.all_cons, List.all_nil, List.any_cons, List.any_nil, Bool.and_true, Bool.true_and, Bool.and_false, Bool.false_and, Bool.or_true, Bool.true_or, Bool.or_false, Bool.false_or, Bool.not_true, Bool.not_false, List.append_nil, List.nil_append, List.cons_append, List.flatMap_cons, List.flatMap_nil, List.contains_cons, List.contains_nil, List.filter_cons, List.filter_nil, beq_self_eq_true, Bool.not_eq_true, A0.b.injEq, A0.i.injEq, A0.s.injEq, A0.rw.injEq, A0.fn.injEq, List.cons.injEq, RC.ints.injEq, RC.recs.injEq, RC.bools.injEq, RC.mp.injEq, RC.grp.injEq, RC.rows.injEq, MC.ints.injEq, MC.bools.injEq, AV.one.injEq, AV.tup.injEq, ble_dec, blt_dec, Nat.reduceLeDiff, Nat.reduceSub, decide_true, decide_false, and_self, List.toList_toArray, Option.isSome_some, Option.isSome_none, List.elem_nil, List.elem_cons, ite_true, ite_false, Bool.false_eq_true, if_true, if_false, reduceIte, flatB_2, flatB_3, flatB_4, List.headD_cons, List.tail_cons, cFirstPoint, fFirstPoint, cComplete, fComplete, cMod, fMod, cDisc, fDisc, cTimes, fTimes, timesI, Try.f54]
  obtain ⟨D, hf, hg⟩ : UnPre a b c x y z := hp
  have h1 := hf.a25
  have hfb := hf.red.abs
  simp only at h1 hfb
  have w2a : wrap64 (2 * a) = 2 * a := wrap_id (by omega) (by omega)
  refine ⟨⟨5, un_fp hf hg⟩, un_cp hf hg, by omega, by kernel_rfl, ?_⟩
  have u := uni_ok hf hg
  have hus := us_small hf hg
  have hub := uB_bd hf hg
  have hab := aE_bd hf hg
  have huc := uC_bd hf hg
  have hcu := cpUV (un_cp hf hg)
  have hcc := hf.c700
  have hfd := hf.dsc
  obtain ⟨d1, d2, d3⟩ := disc_small (a := a) (b := b) (c := c) h1 ⟨by omega, by omega⟩ hcc
  obtain ⟨e0, e1, pt, iv, hB, b1, par, tb, da, de, dc, _, _, _⟩ := u
  have px := pt.x0
  have px1 := pt.x1
  have py := pt.y0
  have py1 := pt.y1
  clear pt
  have eE : vl (x, y, z) (fpX (x, y, z) a) (fpY (x, y, z) a) = uE (a, b, c) (x, y, z) := rfl
  have eH : cpB x y z (fpX (x, y, z) a) (fpY (x, y, z) a) = (uH (a, b, c) (x, y, z)).2.1 := rfl
  have eB : modI b (2 * a) = uB1 (a, b, c) := modI_eq (by omega) (by omega)
  have eU : uB (a, b, c) (x, y, z) = uB1 (a, b, c) + 2 * a * uT (a, b, c) (x, y, z) := rfl
  have eMP : uMP (a, b, c) (x, y, z) = fpX (x, y, z) a * 1 + cpU x y z (fpX (x, y, z) a) (fpY (x, y, z) a) * 0 := rfl
  have eMQ : uMQ (a, b, c) (x, y, z) = fpX (x, y, z) a * uS2 (a, b, c) (x, y, z) + cpU x y z (fpX (x, y, z) a) (fpY (x, y, z) a) * 1 := rfl
  have eMR : uMR (a, b, c) (x, y, z) = fpY (x, y, z) a * 1 + cpV x y z (fpX (x, y, z) a) (fpY (x, y, z) a) * 0 := rfl
  have eMS : uMS (a, b, c) (x, y, z) = fpY (x, y, z) a * uS2 (a, b, c) (x, y, z) + cpV x y z (fpX (x, y, z) a) (fpY (x, y, z) a) * 1 := rfl
  rw [eE, eH, w2a, eB, eMP, eMQ, eMR, eMS]
  clear eE eH eB eMP eMQ eMR eMS
  generalize uE (a, b, c) (x, y, z) = E at *
  generalize (uH (a, b, c) (x, y, z)).2.1 = HB at *
  generalize uC (a, b, c) (x, y, z) = C at *
  generalize uS1 (a, b, c) (x, y, z) = s1 at *
  generalize uS2 (a, b, c) (x, y, z) = s2 at *
  generalize uT (a, b, c) (x, y, z) = T at *
  generalize uB1 (a, b, c) = B1 at *
  generalize uB (a, b, c) (x, y, z) = B at *
  generalize cpC x y z (fpX (x, y, z) a) (fpY (x, y, z) a) = HC at *
  generalize cpU x y z (fpX (x, y, z) a) (fpY (x, y, z) a) = U at *
  generalize cpV x y z (fpX (x, y, z) a) (fpY (x, y, z) a) = V at *
  generalize fpX (x, y, z) a = X at *
  generalize fpY (x, y, z) a = Y at *
  simp only at da de dc hub hab iv
  subst eU
  clear hf hg
  have w2E : wrap64 (2 * E) = 2 * E := wrap_id (by omega) (by omega)
  refine lp_intro (fun t : Int => ⟨[(2, .one (.ref 2 0)), (4, .one (.ref 4 0)), (7, .one (.ref 7 0)), (8, .one (.ref 8 0)), (9, .one (.ref 9 0))], [(2, .ibox 39 [a, b, c]), (4, .ibox 73 [0, 0, 0, 0, 0, 0, 0, 0, 0, 0, 0, 0]), (7, .ibox 39 [E, HB, HC]), (8, .ibox 49 [X, U, Y, V]), (9, .ibox 73 [a, E, B1 + 2 * a * t, 0, 0, 0, 0, 0, 0, 0, 0, 0])]⟩)
    (fun t => 0 ≤ t ∧ t ≤ T) (fun t => (T - t).toNat) 0 [] ⟨by omega, by omega⟩ (by simp only [Cov, covOk, covFr, covMem, entEq, rn, nodupB, A0.ren, AV.ren, Entry.ren, Entry.norm, look, rem, St.eval, cst, hA, finD, St.drop, vwAt, Entry.vwO, RC.vwO, dropAt, A0.dr, AV.dr, noneNames, viewS, viewV, viewTo, A0.vwT, AV.vwT, viewOk, viewEn, St.res, toOf, Entry.toO, mvTo, A0.mv, AV.mv, A0.mv1, AV.mv1, allHs, AV.hs, A0.hs, Entry.hs, A0.norm, AV.norm, RC.len, RC.flat, setAt, RC.elem, RC.sz, compOf, initFr, Option.getD_some, Option.getD_none, cond_true, cond_false, Nat.reduceBEq, List.map_cons, List.map_nil, List.set_cons_zero, List.set_cons_succ, List.getElem?_cons_zero, List.getElem?_cons_succ, List.drop_zero, List.drop_succ_cons, List.take_succ_cons, List.take_zero, Option.map_some, Option.map_none, Option.bind_some, Nat.zero_add, Nat.add_zero, Nat.reduceAdd, Nat.reduceMul, true_and, and_true, List.replicate_succ, List.replicate_zero, List.length_cons, List.length_nil, List.all_cons, List.all_nil, List.any_cons, List.any_nil, Bool.and_true, Bool.true_and, Bool.and_false, Bool.false_and, Bool.or_true, Bool.true_or, Bool.or_false, Bool.false_or, Bool.not_true, Bool.not_false, List.append_nil, List.nil_append, List.cons_append, List.flatMap_cons, List.flatMap_nil, List.contains_cons, List.contains_nil, List.filter_cons, List.filter_nil, beq_self_eq_true, Bool.not_eq_true, A0.b.injEq, A0.i.injEq, A0.s.injEq, A0.rw.injEq, A0.fn.injEq, List.cons.injEq, RC.ints.injEq, RC.recs.injEq, RC.bools.injEq, RC.mp.injEq, RC.grp.injEq, RC.rows.injEq, MC.ints.injEq, MC.bools.injEq, AV.one.injEq, AV.tup.injEq, ble_dec, blt_dec, Nat.reduceLeDiff, Nat.reduceSub, decide_true, decide_false, and_self, List.toList_toArray, Option.isSome_some, Option.isSome_none, List.elem_nil, List.elem_cons, ite_true, ite_false, Bool.false_eq_true, if_true, if_false, reduceIte, flatB_2, flatB_3, flatB_4, List.headD_cons, List.tail_cons, Int.mul_zero, Int.add_zero]) fun t ht J hJ => ⟨1000, ?_⟩
  have hc := un_cond e0 iv de ht (by omega)
  have q1 := mul_bd (a := 2 * a) (b := t) (j := 50) (k := 35000) (by omega) (by omega) ⟨by omega, by omega⟩ ⟨by omega, by omega⟩
  have w3 : wrap64 (B1 + 2 * a * t - HB) = B1 + 2 * a * t - HB := wrap_id (by omega) (by omega)
  have w4 : modI (B1 + 2 * a * t - HB) (2 * E) = (B1 + 2 * a * t - HB) % (2 * E) := modI_eq (by omega) (by omega)
  by_cases hT : t = T
  · have c1 : ((B1 + 2 * a * t - HB) % (2 * E) != 0) = false := by rw [hc.2 hT]; rfl
    simp only [↓cond_to_ite, ↓reduceIte, vc, out, effCopy, finD, St.drop, vwAt, Entry.vwO, RC.vwO, dropAt, A0.dr, AV.dr, noneNames, viewS, viewV, viewTo, A0.vwT, AV.vwT, viewOk, viewEn, appView, hdSlc, A0.mv1, AV.mv1, Entry.toO, toOf, A0.mv, AV.mv, mvTo, St.res, nxtH, makeRows, effMakeSl, storeRow, step, stepE, stepPick, stepG, stepO, stepC, eff, look, rem, St.put, St.setMem, setMems, St.after, St.eval, cst, setAt, val1, okNew, newHs, allHs, rdOf, outHs, Reg.item, Reg.next, Reg.skip, slotOf, effBox, effAlloc, entryRow, fieldOff, effField, loadI, load1, loadR, effLoad, storeI, storeB, storeR, szOk, storeTo, effStore, buildOf, effBuild, binInt, eqI, boolOf, binBool, effBin, effUn, effPick, effExtract, ivs, svs, rowOf, allParts, effBuildSlice, zeroRow, effMakeSlice, elemSz, idxA, idxS, effIndex, lenOf, readOf, subPre, maxRow, plainTI, appTo, effAppend, slcOf, effSlice, argOf, resA, resL, resV, outWr, nodupB, restOk, argsPre, argOk, callWr, effCall, effMax, RC.flat, effBox2, boxPair, compOf, innerOf, innerPre, fieldTwo, loadO, loadN, storeN, buildTwo, effBuild2, buildRows, effBuildSl, appRows, effApp2, plainA, callIn, outsEmpty, callGo, MC.get, MC.has, MC.put, mcTI, keyTI, emptyMC, effMakeMap, mapIn, hOf1, lookV, effLookup, mapBack, effUpdate, effNil, effMin, effIndexV, cutSlc, arrElem, cutOf, wrHs, disj, AV.hs, A0.hs, Entry.hs, RC.elem, RC.sz, RC.len, RC.slice, RC.app, hA, initFr, initMem, initSt, resOf, resAll, compEq, compsEq, rowHs, outHds, outsEq, shapeOk, finOk, comps, A0.norm, AV.norm, specOf, t_int, t_bool, t_implForm, t_implMatrix, t_implunited, ts_int, ts_implForm, tss_int, tm_implForm, t_implclassGroup, Option.getD_some, Option.getD_none, cond_true, cond_false, Nat.reduceBEq, List.map_cons, List.map_nil, List.set_cons_zero, List.set_cons_succ, List.getElem?_cons_zero, List.getElem?_cons_succ, List.drop_zero, List.drop_succ_cons, List.take_succ_cons, List.take_zero, Option.map_some, Option.map_none, Option.bind_some, Nat.zero_add, Nat.add_zero, Nat.reduceAdd, Nat.reduceMul, true_and, and_true, List.replicate_succ, List.replicate_zero, List.length_cons, List.length_nil, List.all_cons, List.all_nil, List.any_cons, List.any_nil, Bool.and_true, Bool.true_and, Bool.and_false, Bool.false_and, Bool.or_true, Bool.true_or, Bool.or_false, Bool.false_or, Bool.not_true, Bool.not_false, List.append_nil, List.nil_append, List.cons_append, List.flatMap_cons, List.flatMap_nil, List.contains_cons, List.contains_nil, List.filter_cons, List.filter_nil, beq_self_eq_true, Bool.not_eq_true, A0.b.injEq, A0.i.injEq, A0.s.injEq, A0.rw.injEq, A0.fn.injEq, List.cons.injEq, RC.ints.injEq, RC.recs.injEq, RC.bools.injEq, RC.mp.injEq, RC.grp.injEq, RC.rows.injEq, MC.ints.injEq, MC.bools.injEq, AV.one.injEq, AV.tup.injEq, ble_dec, blt_dec, Nat.reduceLeDiff, Nat.reduceSub, decide_true, decide_false, and_self, List.toList_toArray, Option.isSome_some, Option.isSome_none, List.elem_nil, List.elem_cons, ite_true, ite_false, Bool.false_eq_true, if_true, if_false, reduceIte, flatB_2, flatB_3, flatB_4, List.headD_cons, List.tail_cons, cMod, fMod, cDisc, fDisc, cTimes, fTimes, timesI, w2a, w2E, w3, w4, c1]
    subst hT
    have g1 : 2 * a * E = 2 * (a * E) := Int.mul_assoc _ _ _
    have g2 : 4 * a * E = 4 * (a * E) := Int.mul_assoc _ _ _
    have f1 : wrap64 (2 * a * E) = 2 * a * E := wrap_id (by omega) (by omega)
    have f2 : wrap64 (wrap64 (4 * a) * E) = 4 * a * E := by rw [wrap_id (n := 4 * a) (by omega) (by omega), wrap_id (by omega) (by omega)]
    have f3 : modI (B1 + 2 * a * t) (2 * a * E) = B1 + 2 * a * t := by rw [modI_eq (by omega) (by omega), Int.emod_eq_of_lt (by omega) (by omega)]
    have q2 := mul_bd (a := B1 + 2 * a * t) (b := B1 + 2 * a * t) (j := 1750000) (k := 1750000) (by omega) (by omega) ⟨by omega, by omega⟩ ⟨by omega, by omega⟩
    have f4 : wrap64 ((wrap64 (wrap64 ((B1 + 2 * a * t) * (B1 + 2 * a * t)) - discI a b c)).tdiv (4 * a * E)) = C := by
      rw [d1, hfd, wrap_id (n := (B1 + 2 * a * t) * (B1 + 2 * a * t)) (by omega) (by omega), wrap_id (n := _ - _) (by omega) (by omega), dc, Int.mul_tdiv_cancel_left _ (by omega), wrap_id (by omega) (by omega)]
    have f5 : wrap64 ((wrap64 (B1 + 2 * a * t - b)).tdiv (2 * a)) = s1 := by
      rw [wrap_id (n := _ - _) (by omega) (by omega), da, Int.mul_tdiv_cancel_left _ (by omega), wrap_id (by omega) (by omega)]
    have f6 : wrap64 ((wrap64 (B1 + 2 * a * t - HB)).tdiv (2 * E)) = s2 := by
      rw [w3, de, Int.mul_tdiv_cancel_left _ (by omega), wrap_id (by omega) (by omega)]
    have q3 := mul_bd (a := X) (b := s2) (j := 5) (k := 26) (by omega) (by omega) ⟨by omega, by omega⟩ ⟨by omega, by omega⟩
    have q4 := mul_bd (a := Y) (b := s2) (j := 5) (k := 26) (by omega) (by omega) ⟨by omega, by omega⟩ ⟨by omega, by omega⟩
    have i1 : wrap64 (wrap64 (X * 1) + wrap64 (U * 0)) = X * 1 + U * 0 := by rw [wrap_id (n := X * 1) (by omega) (by omega), wrap_id (n := U * 0) (by omega) (by omega), wrap_id (by omega) (by omega)]
    have i2 : wrap64 (wrap64 (Y * 1) + wrap64 (V * 0)) = Y * 1 + V * 0 := by rw [wrap_id (n := Y * 1) (by omega) (by omega), wrap_id (n := V * 0) (by omega) (by omega), wrap_id (by omega) (by omega)]
    have i3 : wrap64 (wrap64 (X * s2) + wrap64 (U * 1)) = X * s2 + U * 1 := by rw [wrap_id (n := X * s2) (by omega) (by omega), wrap_id (n := U * 1) (by omega) (by omega), wrap_id (by omega) (by omega)]
    have i4 : wrap64 (wrap64 (Y * s2) + wrap64 (V * 1)) = Y * s2 + V * 1 := by rw [wrap_id (n := Y * s2) (by omega) (by omega), wrap_id (n := V * 1) (by omega) (by omega), wrap_id (by omega) (by omega)]
    rw [f1, f2, f3, f4, f5, f6]
    exact ⟨by omega, by omega, by omega, by kernel_rfl, by omega, by omega, by kernel_rfl, rfl, rfl, rfl, i1, i3, i2, i4⟩
  · have c1 : ((B1 + 2 * a * t - HB) % (2 * E) != 0) = true := by
      have : (B1 + 2 * a * t - HB) % (2 * E) ≠ 0 := fun h => hT (hc.1 h)
      simpa using this
    simp only [↓cond_to_ite, ↓reduceIte, vc, out, effCopy, finD, St.drop, vwAt, Entry.vwO, RC.vwO, dropAt, A0.dr, AV.dr, noneNames, viewS, viewV, viewTo, A0.vwT, AV.vwT, viewOk, viewEn, appView, hdSlc, A0.mv1, AV.mv1, Entry.toO, toOf, A0.mv, AV.mv, mvTo, St.res, nxtH, makeRows, effMakeSl, storeRow, step, stepE, stepPick, stepG, stepO, stepC, eff, look, rem, St.put, St.setMem, setMems, St.after, St.eval, cst, setAt, val1, okNew, newHs, allHs, rdOf, outHs, Reg.item, Reg.next, Reg.skip, slotOf, effBox, effAlloc, entryRow, fieldOff, effField, loadI, load1, loadR, effLoad, storeI, storeB, storeR, szOk, storeTo, effStore, buildOf, effBuild, binInt, eqI, boolOf, binBool, effBin, effUn, effPick, effExtract, ivs, svs, rowOf, allParts, effBuildSlice, zeroRow, effMakeSlice, elemSz, idxA, idxS, effIndex, lenOf, readOf, subPre, maxRow, plainTI, appTo, effAppend, slcOf, effSlice, argOf, resA, resL, resV, outWr, nodupB, restOk, argsPre, argOk, callWr, effCall, effMax, RC.flat, effBox2, boxPair, compOf, innerOf, innerPre, fieldTwo, loadO, loadN, storeN, buildTwo, effBuild2, buildRows, effBuildSl, appRows, effApp2, plainA, callIn, outsEmpty, callGo, MC.get, MC.has, MC.put, mcTI, keyTI, emptyMC, effMakeMap, mapIn, hOf1, lookV, effLookup, mapBack, effUpdate, effNil, effMin, effIndexV, cutSlc, arrElem, cutOf, wrHs, disj, AV.hs, A0.hs, Entry.hs, RC.elem, RC.sz, RC.len, RC.slice, RC.app, hA, initFr, initMem, initSt, resOf, resAll, compEq, compsEq, rowHs, outHds, outsEq, shapeOk, finOk, comps, A0.norm, AV.norm, specOf, t_int, t_bool, t_implForm, t_implMatrix, t_implunited, ts_int, ts_implForm, tss_int, tm_implForm, t_implclassGroup, Option.getD_some, Option.getD_none, cond_true, cond_false, Nat.reduceBEq, List.map_cons, List.map_nil, List.set_cons_zero, List.set_cons_succ, List.getElem?_cons_zero, List.getElem?_cons_succ, List.drop_zero, List.drop_succ_cons, List.take_succ_cons, List.take_zero, Option.map_some, Option.map_none, Option.bind_some, Nat.zero_add, Nat.add_zero, Nat.reduceAdd, Nat.reduceMul, true_and, and_true, List.replicate_succ, List.replicate_zero, List.length_cons, List.length_nil, List.all_cons, List.all_nil, List.any_cons, List.any_nil, Bool.and_true, Bool.true_and, Bool.and_false, Bool.false_and, Bool.or_true, Bool.true_or, Bool.or_false, Bool.false_or, Bool.not_true, Bool.not_false, List.append_nil, List.nil_append, List.cons_append, List.flatMap_cons, List.flatMap_nil, List.contains_cons, List.contains_nil, List.filter_cons, List.filter_nil, beq_self_eq_true, Bool.not_eq_true, A0.b.injEq, A0.i.injEq, A0.s.injEq, A0.rw.injEq, A0.fn.injEq, List.cons.injEq, RC.ints.injEq, RC.recs.injEq, RC.bools.injEq, RC.mp.injEq, RC.grp.injEq, RC.rows.injEq, MC.ints.injEq, MC.bools.injEq, AV.one.injEq, AV.tup.injEq, ble_dec, blt_dec, Nat.reduceLeDiff, Nat.reduceSub, decide_true, decide_false, and_self, List.toList_toArray, Option.isSome_some, Option.isSome_none, List.elem_nil, List.elem_cons, ite_true, ite_false, Bool.false_eq_true, if_true, if_false, reduceIte, flatB_2, flatB_3, flatB_4, List.headD_cons, List.tail_cons, cMod, fMod, cDisc, fDisc, cTimes, fTimes, timesI, w2a, w2E, w3, w4, c1]
    have w5 : wrap64 (B1 + 2 * a * t + 2 * a) = B1 + 2 * a * (t + 1) := by
      rw [wrap_id (by omega) (by omega), Int.mul_add]; omega
    exact ⟨by omega, hJ _ (t + 1) [] ⟨by omega, by omega⟩ (by omega) (by simp only [Cov, covOk, covFr, covMem, entEq, rn, nodupB, A0.ren, AV.ren, Entry.ren, Entry.norm, look, rem, St.eval, cst, hA, finD, St.drop, vwAt, Entry.vwO, RC.vwO, dropAt, A0.dr, AV.dr, noneNames, viewS, viewV, viewTo, A0.vwT, AV.vwT, viewOk, viewEn, St.res, toOf, Entry.toO, mvTo, A0.mv, AV.mv, A0.mv1, AV.mv1, allHs, AV.hs, A0.hs, Entry.hs, A0.norm, AV.norm, RC.len, RC.flat, setAt, RC.elem, RC.sz, compOf, initFr, Option.getD_some, Option.getD_none, cond_true, cond_false, Nat.reduceBEq, List.map_cons, List.map_nil, List.set_cons_zero, List.set_cons_succ, List.getElem?_cons_zero, List.getElem?_cons_succ, List.drop_zero, List.drop_succ_cons, List.take_succ_cons, List.take_zero, Option.map_some, Option.map_none, Option.bind_some, Nat.zero_add, Nat.add_zero, Nat.reduceAdd, Nat.reduceMul, true_and, and_true, List.replicate_succ, List.replicate_zero, List.length_cons, List.length_nil, List.all_cons, List.all_nil, List.any_cons, List.any_nil, Bool.and_true, Bool.true_and, Bool.and_false, Bool.false_and, Bool.or_true, Bool.true_or, Bool.or_false, Bool.false_or, Bool.not_true, Bool.not_false, List.append_nil, List.nil_append, List.cons_append, List.flatMap_cons, List.flatMap_nil, List.contains_cons, List.contains_nil, List.filter_cons, List.filter_nil, beq_self_eq_true, Bool.not_eq_true, A0.b.injEq, A0.i.injEq, A0.s.injEq, A0.rw.injEq, A0.fn.injEq, List.cons.injEq, RC.ints.injEq, RC.recs.injEq, RC.bools.injEq, RC.mp.injEq, RC.grp.injEq, RC.rows.injEq, MC.ints.injEq, MC.bools.injEq, AV.one.injEq, AV.tup.injEq, ble_dec, blt_dec, Nat.reduceLeDiff, Nat.reduceSub, decide_true, decide_false, and_self, List.toList_toArray, Option.isSome_some, Option.isSome_none, List.elem_nil, List.elem_cons, ite_true, ite_false, Bool.false_eq_true, if_true, if_false, reduceIte, flatB_2, flatB_3, flatB_4, List.headD_cons, List.tail_cons, w5])⟩
end Go.Proofs.Ythcnaeahmdapbaa
