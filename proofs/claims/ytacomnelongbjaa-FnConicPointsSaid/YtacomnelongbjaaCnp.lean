/-
  Contracts of the second point of a conic. Conditions: none.
-/
import Derived.Test.YtacomnelongbjaaDrc
namespace Go.Proofs.Ytacomnelongbjaa
open Go Go.RowKit
set_option maxRecDepth 100000
set_option linter.unusedSimpArgs false
set_option linter.unusedVariables false
set_option maxHeartbeats 4000000

abbrev fIsSol0 : Nat := 18
def cIsSol0 : Ctr
  | [.s [a, b, c], .s [x, y, z]] => some ⟨True, .one (.b (isB a b c x y z)), []⟩
  | _ => none
theorem okIsSol0 : CtrOk Try.prog fIsSol0 cIsSol0 := by
  have hsp : SpecOk Try.prog (specOf []) := SpecOk.nil
  refine ctr_of (fn := Try.f18) mixed tab_ok hsp Try.func18 (by kernel_rfl) (by kernel_rfl) fun args ce h => ?_
  clear hsp
  unfold cIsSol0 at h
  split at h
  case h_2 => cases h
  rename_i a b c x y z
  simp only [Option.some.injEq] at h
  subst h
  refine ⟨by rfl, fun hp => ⟨0, 1000, ?_⟩⟩
  simp only [vc, out, effCopy, finD, St.drop, vwAt, Entry.vwO, RC.vwO, dropAt, A0.dr, AV.dr, noneNames, viewS, viewV, viewTo, A0.vwT, AV.vwT, viewOk, viewEn, appView, hdSlc, A0.mv1, AV.mv1, Entry.toO, toOf, A0.mv, AV.mv, mvTo, St.res, nxtH, makeRows, effMakeSl, storeRow, step, stepE, stepPick, stepG, stepO, stepC, eff, look, rem, St.put, St.setMem, setMems, St.after, St.eval, cst, setAt, val1, okNew, newHs, allHs, rdOf, outHs, Reg.item, Reg.next, Reg.skip, slotOf, effBox, effAlloc, entryRow, fieldOff, effField, loadI, load1, loadR, effLoad, storeI, storeB, storeR, szOk, storeTo, effStore, buildOf, effBuild, binInt, eqI, boolOf, binBool, effBin, effUn, effPick, effExtract, ivs, svs, rowOf, allParts, effBuildSlice, zeroRow, effMakeSlice, elemSz, idxA, idxS, effIndex, lenOf, readOf, subPre, maxRow, plainTI, appTo, effAppend, slcOf, effSlice, argOf, resA, resL, resV, outWr, nodupB, restOk, argsPre, argOk, callWr, effCall, effMax, RC.flat, effBox2, boxPair, compOf, innerOf, innerPre, fieldTwo, loadO, loadN, storeN, buildTwo, effBuild2, buildRows, effBuildSl, appRows, effApp2, plainA, callIn, outsEmpty, callGo, MC.get, MC.has, MC.put, mcTI, keyTI, emptyMC, effMakeMap, mapIn, hOf1, lookV, effLookup, mapBack, effUpdate, effNil, effMin, effIndexV, cutSlc, arrElem, cutOf, boxWord, boxRow, effBox3, allocWord, effAlloc2, loadWd, loadWord, loadSl, effLoad2, storeWd, storeWord, storeCi, storeSl, effStore2, buildWord, effBuild3, fieldWord, effField2, signOf, appWd, appWord, effAppend2, effClo, plainS, cloGo, callClo, argCl, inHs, calleeHs, resWd, effNil2, fieldCur, effField3, loadCu, loadOe, loadCe, effLoad3, storeCu, storeOe, effStore3, lenOf2, idxCs, idxCur, effIndex2, effConv, binU, effBin2, buildCur, effBuild4, boxCur, effBox4, cuX, cuArg, plainV, cuGo, callCu, callCo, effCall2, argCo, initC, eqPl, curIs, finC, noCur, wrHs, disj, AV.hs, A0.hs, Entry.hs, RC.elem, RC.sz, RC.len, RC.slice, RC.app, hA, initFr, initMem, initSt, resOf, resAll, compEq, compsEq, rowHs, outHds, outsEq, shapeOk, finOk, comps, A0.norm, AV.norm, specOf, t_int, t_bool, t_implTriple, t_implSpot, ts_int, ts_implSpot, t_u8, t_u64, ts_u8, t_l1Cur, Option.getD_some, Option.getD_none, cond_true, cond_false, Nat.reduceBEq, List.map_cons, List.map_nil, List.set_cons_zero, List.set_cons_succ, List.getElem?_cons_zero, List.getElem?_cons_succ, List.drop_zero, List.drop_succ_cons, List.take_succ_cons, List.take_zero, Option.map_some, Option.map_none, Option.bind_some, Nat.zero_add, Nat.add_zero, Nat.reduceAdd, Nat.reduceMul, true_and, and_true, List.replicate_succ, List.replicate_zero, List.length_cons, List.length_nil, List.all_cons, List.all_nil, List.any_cons, List.any_nil, Bool.and_true, Bool.true_and, Bool.and_false, Bool.false_and, Bool.or_true, Bool.true_or, Bool.or_false, Bool.false_or, Bool.not_true, Bool.not_false, List.append_nil, List.nil_append, List.cons_append, List.flatMap_cons, List.flatMap_nil, List.contains_cons, List.contains_nil, List.filter_cons, List.filter_nil, beq_self_eq_true, Bool.not_eq_true, A0.b.injEq, A0.i.injEq, A0.s.injEq, A0.rw.injEq, A0.fn.injEq, List.cons.injEq, RC.ints.injEq, RC.recs.injEq, RC.bools.injEq, RC.mp.injEq, RC.grp.injEq, RC.rows.injEq, RC.wd.injEq, RC.bx.injEq, RC.clo.injEq, Entry.cu.injEq, Entry.st.injEq, MC.ints.injEq, MC.bools.injEq, AV.one.injEq, AV.tup.injEq, ble_dec, blt_dec, Nat.reduceLeDiff, Nat.reduceSub, decide_true, decide_false, and_self, List.toList_toArray, Option.isSome_some, Option.isSome_none, List.elem_nil, List.elem_cons, ite_true, ite_false, Bool.false_eq_true, if_true, if_false, reduceIte, flatB_2, flatB_3, flatB_4, List.headD_cons, List.tail_cons, Try.f18]
  unfold isB bne
  generalize (wrap64 (wrap64 (wrap64 (wrap64 (a * x) * x) + wrap64 (wrap64 (b * y) * y)) + wrap64 (wrap64 (c * z) * z)) == 0) = q
  cases (x == 0) <;> cases (y == 0) <;> cases (z == 0) <;> cases q <;> rfl
def isSB (a b c x y z : Int) : Bool := triB a b c && formB x y z
abbrev fIsSolF : Nat := 8
def cIsSolF : Ctr
  | [.s [a, b, c], .s [x, y, z]] => some ⟨True, .tup [.b (isSB a b c x y z && isB a b c x y z), .b (isSB a b c x y z)], []⟩
  | _ => none
theorem okIsSolF : CtrOk Try.prog fIsSolF cIsSolF := by
  have hsp : SpecOk Try.prog (specOf [(fIsTriple, cIsTriple), (fAre, cAre), (fIsSol0, cIsSol0)]) := (SpecOk.cons okIsTriple (SpecOk.cons okAre (SpecOk.cons okIsSol0 SpecOk.nil)))
  refine ctr_of (fn := Try.f8) mixed tab_ok hsp Try.func8 (by kernel_rfl) (by kernel_rfl) fun args ce h => ?_
  clear hsp
  unfold cIsSolF at h
  split at h
  case h_2 => cases h
  rename_i a b c x y z
  simp only [Option.some.injEq] at h
  subst h
  refine ⟨by rfl, fun hp => ⟨0, 1000, ?_⟩⟩
  simp only [vc, out, effCopy, finD, St.drop, vwAt, Entry.vwO, RC.vwO, dropAt, A0.dr, AV.dr, noneNames, viewS, viewV, viewTo, A0.vwT, AV.vwT, viewOk, viewEn, appView, hdSlc, A0.mv1, AV.mv1, Entry.toO, toOf, A0.mv, AV.mv, mvTo, St.res, nxtH, makeRows, effMakeSl, storeRow, step, stepE, stepPick, stepG, stepO, stepC, eff, look, rem, St.put, St.setMem, setMems, St.after, St.eval, cst, setAt, val1, okNew, newHs, allHs, rdOf, outHs, Reg.item, Reg.next, Reg.skip, slotOf, effBox, effAlloc, entryRow, fieldOff, effField, loadI, load1, loadR, effLoad, storeI, storeB, storeR, szOk, storeTo, effStore, buildOf, effBuild, binInt, eqI, boolOf, binBool, effBin, effUn, effPick, effExtract, ivs, svs, rowOf, allParts, effBuildSlice, zeroRow, effMakeSlice, elemSz, idxA, idxS, effIndex, lenOf, readOf, subPre, maxRow, plainTI, appTo, effAppend, slcOf, effSlice, argOf, resA, resL, resV, outWr, nodupB, restOk, argsPre, argOk, callWr, effCall, effMax, RC.flat, effBox2, boxPair, compOf, innerOf, innerPre, fieldTwo, loadO, loadN, storeN, buildTwo, effBuild2, buildRows, effBuildSl, appRows, effApp2, plainA, callIn, outsEmpty, callGo, MC.get, MC.has, MC.put, mcTI, keyTI, emptyMC, effMakeMap, mapIn, hOf1, lookV, effLookup, mapBack, effUpdate, effNil, effMin, effIndexV, cutSlc, arrElem, cutOf, boxWord, boxRow, effBox3, allocWord, effAlloc2, loadWd, loadWord, loadSl, effLoad2, storeWd, storeWord, storeCi, storeSl, effStore2, buildWord, effBuild3, fieldWord, effField2, signOf, appWd, appWord, effAppend2, effClo, plainS, cloGo, callClo, argCl, inHs, calleeHs, resWd, effNil2, fieldCur, effField3, loadCu, loadOe, loadCe, effLoad3, storeCu, storeOe, effStore3, lenOf2, idxCs, idxCur, effIndex2, effConv, binU, effBin2, buildCur, effBuild4, boxCur, effBox4, cuX, cuArg, plainV, cuGo, callCu, callCo, effCall2, argCo, initC, eqPl, curIs, finC, noCur, wrHs, disj, AV.hs, A0.hs, Entry.hs, RC.elem, RC.sz, RC.len, RC.slice, RC.app, hA, initFr, initMem, initSt, resOf, resAll, compEq, compsEq, rowHs, outHds, outsEq, shapeOk, finOk, comps, A0.norm, AV.norm, specOf, t_int, t_bool, t_implTriple, t_implSpot, ts_int, ts_implSpot, t_u8, t_u64, ts_u8, t_l1Cur, Option.getD_some, Option.getD_none, cond_true, cond_false, Nat.reduceBEq, List.map_cons, List.map_nil, List.set_cons_zero, List.set_cons_succ, List.getElem?_cons_zero, List.getElem?_cons_succ, List.drop_zero, List.drop_succ_cons, List.take_succ_cons, List.take_zero, Option.map_some, Option.map_none, Option.bind_some, Nat.zero_add, Nat.add_zero, Nat.reduceAdd, Nat.reduceMul, true_and, and_true, List.replicate_succ, List.replicate_zero, List.length_cons, List.length_nil, List.all_cons, List.all_nil, List.any_cons, List.any_nil, Bool.and_true, Bool.true_and, Bool.and_false, Bool.false_and, Bool.or_true, Bool.true_or, Bool.or_false, Bool.false_or, Bool.not_true, Bool.not_false, List.append_nil, List.nil_append, List.cons_append, List.flatMap_cons, List.flatMap_nil, List.contains_cons, List.contains_nil, List.filter_cons, List.filter_nil, beq_self_eq_true, Bool.not_eq_true, A0.b.injEq, A0.i.injEq, A0.s.injEq, A0.rw.injEq, A0.fn.injEq, List.cons.injEq, RC.ints.injEq, RC.recs.injEq, RC.bools.injEq, RC.mp.injEq, RC.grp.injEq, RC.rows.injEq, RC.wd.injEq, RC.bx.injEq, RC.clo.injEq, Entry.cu.injEq, Entry.st.injEq, MC.ints.injEq, MC.bools.injEq, AV.one.injEq, AV.tup.injEq, ble_dec, blt_dec, Nat.reduceLeDiff, Nat.reduceSub, decide_true, decide_false, and_self, List.toList_toArray, Option.isSome_some, Option.isSome_none, List.elem_nil, List.elem_cons, ite_true, ite_false, Bool.false_eq_true, if_true, if_false, reduceIte, flatB_2, flatB_3, flatB_4, List.headD_cons, List.tail_cons, cIsTriple, fIsTriple, cAre, fAre, cIsSol0, fIsSol0, Try.f8]
  unfold isSB formB
  cases triB a b c <;> cases areB x <;> cases areB y <;> cases areB z <;> first | exact ⟨by kernel_rfl, rfl, rfl⟩ | trace_state
theorem gcd_big {a b : Int} (ha : a.natAbs ≤ 1000000000000000) (hb : b.natAbs ≤ 1000000000000000) : Int.gcd a b ≤ 1000000000000000 := by
  by_cases h : a = 0
  · subst h; simpa using hb
  · have := Nat.gcd_le_left b.natAbs (show 0 < a.natAbs by omega)
    unfold Int.gcd
    omega
theorem gcdI_big {a b : Int} (ha : a.natAbs ≤ 1000000000000000) (hb : b.natAbs ≤ 1000000000000000) : gcdI a b = Int.gcd a b := by
  have h1 := gcdL_abs a b
  have h2 := gcd_big ha hb
  unfold gcdI absI
  have h3 : max (gcdL a b) (-9223372036854775807) = gcdL a b := by omega
  rw [h3, wrap_id (by omega) (by omega)]
  omega
theorem labs_big {a : Int} (ha : a.natAbs ≤ 1000000000000000) : labsI a = a.natAbs := by
  unfold labsI mostI
  rw [wrap_id (by omega) (by omega)]
  split <;> omega
theorem nuGcdI_big {a b : Int} (ha : a.natAbs ≤ 1000000000000000) (hb : b.natAbs ≤ 1000000000000000) : nuGcdI a b = Int.gcd a b := by
  unfold nuGcdI
  rw [labs_big ha, labs_big hb]
  have h1 := gcdL_abs (a.natAbs : Int) (b.natAbs : Int)
  have h2 : 0 ≤ gcdL (a.natAbs : Int) (b.natAbs : Int) := gcdL_nonneg (by omega) (by omega)
  have h3 : Int.gcd (a.natAbs : Int) (b.natAbs : Int) = Int.gcd a b := by simp [Int.gcd]
  omega
theorem cont_big {a b c : Int} (ha : a.natAbs ≤ 1000000000000000) (hb : b.natAbs ≤ 1000000000000000) (hc : c.natAbs ≤ 1000000000000000) : nuGcdI (nuGcdI a b) c = (Int.gcd a (Int.gcd b c : Nat) : Nat) ∧ gcdI a (gcdI b c) = (Int.gcd a (Int.gcd b c : Nat) : Nat) := by
  have h1 := gcd_big ha hb
  have h2 := gcd_big hb hc
  rw [nuGcdI_big ha hb, gcdI_big hb hc, nuGcdI_big (by omega) hc, gcdI_big ha (by omega)]
  simp [Int.gcd, Nat.gcd_assoc]
/-! ### the second point -/
def smB (v : Int) : Bool := inI v (-1000) 1000
theorem sm_iff (v : Int) : smB v = true ↔ -1000 ≤ v ∧ v ≤ 1000 := by simp [smB, inI]
theorem sm_abs (v : Int) : decide (absI v > 1000) = !smB v := by
  have h : decide (absI v > 1000) = true ↔ smB v = false := by
    rw [decide_eq_true_iff]
    have h1 := sm_iff v
    cases hs : smB v with
    | true =>
      have := h1.1 hs
      unfold absI
      rw [wrap_id (by omega) (by omega)]
      simp
      omega
    | false =>
      have : ¬ (-1000 ≤ v ∧ v ≤ 1000) := fun h => by rw [h1.2 h] at hs; cases hs
      simp
      unfold absI
      by_cases h9 : v ≤ 9000000000000000000
      · rw [wrap_id (by omega) (by omega)]; omega
      · omega
  cases hs : smB v with
  | true => rw [hs] at h; simpa using h
  | false => rw [hs] at h; simpa using h
def kI (a b m n : Int) : Int := wrap64 (wrap64 (wrap64 (a * m) * m) + wrap64 (wrap64 (b * n) * n))
def lI (a b x y m n : Int) : Int := wrap64 (wrap64 (wrap64 (a * x) * m) + wrap64 (wrap64 (b * y) * n))
def rI (k l x m : Int) : Int := wrap64 (wrap64 (k * x) - wrap64 (wrap64 (2 * l) * m))
def spX (a b x y m n : Int) : Int := rI (kI a b m n) (lI a b x y m n) x m
def spY (a b x y m n : Int) : Int := rI (kI a b m n) (lI a b x y m n) y n
def spZ (a b z m n : Int) : Int := wrap64 (kI a b m n * z)
def spG (a b x y z m n : Int) : Int := gcdI (spX a b x y m n) (gcdI (spY a b x y m n) (spZ a b z m n))
def flB (X Y Z : Int) : Bool := decide (Z < 0) || (Z == 0 && (decide (Y < 0) || (Y == 0 && decide (X < 0))))
def spS (a b x y z m n : Int) : Int := bif flB (spX a b x y m n) (spY a b x y m n) (spZ a b z m n) then wrap64 (0 - spG a b x y z m n) else spG a b x y z m n
def oX (a b x y z m n : Int) : Int := wrap64 ((spX a b x y m n).tdiv (spS a b x y z m n))
def oY (a b x y z m n : Int) : Int := wrap64 ((spY a b x y m n).tdiv (spS a b x y z m n))
def oZ (a b x y z m n : Int) : Int := wrap64 ((spZ a b z m n).tdiv (spS a b x y z m n))
def spP (a b c x y z m n : Int) : Bool := [x, y, z, m, n].all smB && (triB a b c && isB a b c x y z)
def spO (a b x y z m n : Int) : Bool := !(spG a b x y z m n == 0) && formB (oX a b x y z m n) (oY a b x y z m n) (oZ a b x y z m n)
def spB (a b c x y z m n : Int) : Bool := spP a b c x y z m n && spO a b x y z m n
theorem spk {a b m n : Int} (ha : -400 ≤ a ∧ a ≤ 400) (hb : -400 ≤ b ∧ b ≤ 400) (hm : -1000 ≤ m ∧ m ≤ 1000) (hn : -1000 ≤ n ∧ n ≤ 1000) : kI a b m n = a * m * m + b * n * n ∧ -800000000 ≤ a * m * m + b * n * n ∧ a * m * m + b * n * n ≤ 800000000 := by
  have h1 := mul_bd (a := a) (b := m) (j := 400) (k := 1000) (by omega) (by omega) ha hm
  have h2 := mul_bd (a := a * m) (b := m) (j := 400000) (k := 1000) (by omega) (by omega) ⟨by omega, by omega⟩ hm
  have h3 := mul_bd (a := b) (b := n) (j := 400) (k := 1000) (by omega) (by omega) hb hn
  have h4 := mul_bd (a := b * n) (b := n) (j := 400000) (k := 1000) (by omega) (by omega) ⟨by omega, by omega⟩ hn
  refine ⟨?_, by omega, by omega⟩
  unfold kI
  rw [wrap_id (n := a * m) (by omega) (by omega), wrap_id (n := a * m * m) (by omega) (by omega), wrap_id (n := b * n) (by omega) (by omega), wrap_id (n := b * n * n) (by omega) (by omega), wrap_id (by omega) (by omega)]
theorem spl {a b x y m n : Int} (ha : -400 ≤ a ∧ a ≤ 400) (hb : -400 ≤ b ∧ b ≤ 400) (hx : -1000 ≤ x ∧ x ≤ 1000) (hy : -1000 ≤ y ∧ y ≤ 1000) (hm : -1000 ≤ m ∧ m ≤ 1000) (hn : -1000 ≤ n ∧ n ≤ 1000) : lI a b x y m n = a * x * m + b * y * n ∧ -800000000 ≤ a * x * m + b * y * n ∧ a * x * m + b * y * n ≤ 800000000 := by
  have h1 := mul_bd (a := a) (b := x) (j := 400) (k := 1000) (by omega) (by omega) ha hx
  have h2 := mul_bd (a := a * x) (b := m) (j := 400000) (k := 1000) (by omega) (by omega) ⟨by omega, by omega⟩ hm
  have h3 := mul_bd (a := b) (b := y) (j := 400) (k := 1000) (by omega) (by omega) hb hy
  have h4 := mul_bd (a := b * y) (b := n) (j := 400000) (k := 1000) (by omega) (by omega) ⟨by omega, by omega⟩ hn
  refine ⟨?_, by omega, by omega⟩
  unfold lI
  rw [wrap_id (n := a * x) (by omega) (by omega), wrap_id (n := a * x * m) (by omega) (by omega), wrap_id (n := b * y) (by omega) (by omega), wrap_id (n := b * y * n) (by omega) (by omega), wrap_id (by omega) (by omega)]
theorem spr {k l x m : Int} (hk : -800000000 ≤ k ∧ k ≤ 800000000) (hl : -800000000 ≤ l ∧ l ≤ 800000000) (hx : -1000 ≤ x ∧ x ≤ 1000) (hm : -1000 ≤ m ∧ m ≤ 1000) : rI k l x m = k * x - 2 * l * m ∧ -10000000000000 ≤ k * x - 2 * l * m ∧ k * x - 2 * l * m ≤ 10000000000000 := by
  have h1 := mul_bd (a := k) (b := x) (j := 800000000) (k := 1000) (by omega) (by omega) hk hx
  have h2 := mul_bd (a := 2 * l) (b := m) (j := 1600000000) (k := 1000) (by omega) (by omega) ⟨by omega, by omega⟩ hm
  refine ⟨?_, by omega, by omega⟩
  unfold rI
  rw [wrap_id (n := k * x) (by omega) (by omega), wrap_id (n := 2 * l) (by omega) (by omega), wrap_id (n := 2 * l * m) (by omega) (by omega), wrap_id (by omega) (by omega)]
/-- what the second point is made of, without wraps -/
theorem sp_eqs {a b c x y z m n : Int} (h1 : triB a b c = true) (h2 : [x, y, z, m, n].all smB = true) :
    (spX a b x y m n = (a * m * m + b * n * n) * x - 2 * (a * x * m + b * y * n) * m ∧ (spX a b x y m n).natAbs ≤ 10000000000000) ∧ (spY a b x y m n = (a * m * m + b * n * n) * y - 2 * (a * x * m + b * y * n) * n ∧ (spY a b x y m n).natAbs ≤ 10000000000000) ∧ spZ a b z m n = (a * m * m + b * n * n) * z ∧ (spZ a b z m n).natAbs ≤ 10000000000000 := by
  obtain ⟨⟨ha, hb, hc⟩, _⟩ := triB_iff h1
  simp only [List.all_cons, List.all_nil, Bool.and_eq_true, sm_iff, and_true] at h2
  obtain ⟨hx, hy, hz, hm, hn⟩ := h2
  obtain ⟨k1, k2⟩ := spk ha hb hm hn
  obtain ⟨l1, l2⟩ := spl ha hb hx hy hm hn
  obtain ⟨r1, r2⟩ := spr (x := x) (m := m) k2 l2 hx hm
  obtain ⟨r3, r4⟩ := spr (x := y) (m := n) k2 l2 hy hn
  have h5 := mul_bd (a := a * m * m + b * n * n) (b := z) (j := 800000000) (k := 1000) (by omega) (by omega) k2 hz
  have e : spZ a b z m n = (a * m * m + b * n * n) * z := by unfold spZ; rw [k1, wrap_id (by omega) (by omega)]
  unfold spX spY
  rw [k1, l1, r1, r3, e]
  omega
theorem spG_eq {a b c x y z m n : Int} (h1 : triB a b c = true) (h2 : [x, y, z, m, n].all smB = true) : spG a b x y z m n = (Int.gcd (spX a b x y m n) (Int.gcd (spY a b x y m n) (spZ a b z m n) : Nat) : Nat) := by
  obtain ⟨⟨_, e1⟩, ⟨_, e2⟩, _, e3⟩ := sp_eqs h1 h2
  exact (cont_big (by omega) (by omega) (by omega)).2
theorem spG_nu {a b c x y z m n : Int} (h1 : triB a b c = true) (h2 : [x, y, z, m, n].all smB = true) : nuGcdI (nuGcdI (spX a b x y m n) (spY a b x y m n)) (spZ a b z m n) = spG a b x y z m n := by
  obtain ⟨⟨_, e1⟩, ⟨_, e2⟩, _, e3⟩ := sp_eqs h1 h2
  rw [spG_eq h1 h2]
  exact (cont_big (by omega) (by omega) (by omega)).1
theorem spG_rng {a b c x y z m n : Int} (h1 : triB a b c = true) (h2 : [x, y, z, m, n].all smB = true) : 0 ≤ spG a b x y z m n ∧ spG a b x y z m n ≤ 1000000000000000 := by
  obtain ⟨⟨_, e1⟩, ⟨_, e2⟩, _, e3⟩ := sp_eqs h1 h2
  rw [spG_eq h1 h2]
  have h3 := gcd_big (a := spY a b x y m n) (b := spZ a b z m n) (by omega) (by omega)
  have := gcd_big (a := spX a b x y m n) (b := (Int.gcd (spY a b x y m n) (spZ a b z m n) : Nat)) (by omega) (by omega)
  omega
theorem spTail {a b c x y z m n X Y Z S : Int} {P : Prop} (hP : P) (hp : spP a b c x y z m n = true) (hg : (spG a b x y z m n == 0) = false) (eX : spX a b x y m n = X) (eY : spY a b x y m n = Y) (eZ : spZ a b z m n = Z) (eS : spS a b x y z m n = S) :
    if (!(areB (wrap64 (X.tdiv S)) && (areB (wrap64 (Y.tdiv S)) && areB (wrap64 (Z.tdiv S))))) = true then P ∧ (0 = onB (spB a b c x y z m n) (oX a b x y z m n) ∧ 0 = onB (spB a b c x y z m n) (oY a b x y z m n) ∧ 0 = onB (spB a b c x y z m n) (oZ a b x y z m n)) ∧ false = spB a b c x y z m n
    else P ∧ (wrap64 (X.tdiv S) = onB (spB a b c x y z m n) (oX a b x y z m n) ∧ wrap64 (Y.tdiv S) = onB (spB a b c x y z m n) (oY a b x y z m n) ∧ wrap64 (Z.tdiv S) = onB (spB a b c x y z m n) (oZ a b x y z m n)) ∧ true = spB a b c x y z m n := by
  have eU : oX a b x y z m n = wrap64 (X.tdiv S) := by unfold oX; rw [eX, eS]
  have eV : oY a b x y z m n = wrap64 (Y.tdiv S) := by unfold oY; rw [eY, eS]
  have eW : oZ a b x y z m n = wrap64 (Z.tdiv S) := by unfold oZ; rw [eZ, eS]
  have eO : spB a b c x y z m n = (areB (wrap64 (X.tdiv S)) && (areB (wrap64 (Y.tdiv S)) && areB (wrap64 (Z.tdiv S)))) := by unfold spB spO; rw [hp, hg, eU, eV, eW]; rfl
  rw [eO, eU, eV, eW]
  cases (areB (wrap64 (X.tdiv S)) && (areB (wrap64 (Y.tdiv S)) && areB (wrap64 (Z.tdiv S)))) with
  | true => exact ⟨hP, ⟨rfl, rfl, rfl⟩, rfl⟩
  | false => exact ⟨hP, ⟨rfl, rfl, rfl⟩, rfl⟩
theorem spTail3 {a b c x y z m n X Y Z S : Int} {P : Prop} (hP : P) (hp : spP a b c x y z m n = true) (hg : (spG a b x y z m n == 0) = false) (eX : spX a b x y m n = X) (eY : spY a b x y m n = Y) (eZ : spZ a b z m n = Z) (eS : spS a b x y z m n = S) :
    if (!areB (wrap64 (X.tdiv S))) = true then P ∧ (0 = onB (spB a b c x y z m n) (oX a b x y z m n) ∧ 0 = onB (spB a b c x y z m n) (oY a b x y z m n) ∧ 0 = onB (spB a b c x y z m n) (oZ a b x y z m n)) ∧ false = spB a b c x y z m n
    else if (!areB (wrap64 (Y.tdiv S))) = true then P ∧ (0 = onB (spB a b c x y z m n) (oX a b x y z m n) ∧ 0 = onB (spB a b c x y z m n) (oY a b x y z m n) ∧ 0 = onB (spB a b c x y z m n) (oZ a b x y z m n)) ∧ false = spB a b c x y z m n
    else if (!areB (wrap64 (Z.tdiv S))) = true then P ∧ (0 = onB (spB a b c x y z m n) (oX a b x y z m n) ∧ 0 = onB (spB a b c x y z m n) (oY a b x y z m n) ∧ 0 = onB (spB a b c x y z m n) (oZ a b x y z m n)) ∧ false = spB a b c x y z m n
    else P ∧ (wrap64 (X.tdiv S) = onB (spB a b c x y z m n) (oX a b x y z m n) ∧ wrap64 (Y.tdiv S) = onB (spB a b c x y z m n) (oY a b x y z m n) ∧ wrap64 (Z.tdiv S) = onB (spB a b c x y z m n) (oZ a b x y z m n)) ∧ true = spB a b c x y z m n := by
  have h := spTail (P := P) hP hp hg eX eY eZ eS
  revert h
  cases areB (wrap64 (X.tdiv S)) <;> cases areB (wrap64 (Y.tdiv S)) <;> cases areB (wrap64 (Z.tdiv S)) <;> exact fun h => h
end Go.Proofs.Ytacomnelongbjaa
