/-
  The conductor's factor and class numbers by conductors, in plain terms and as contracts of both sides. Conditions: none.
-/
import Derived.Test.YthjmjacniemfiaaPfc
import Derived.Test.YthjmjacniemfiaaFnd
namespace Go.Proofs.Ythjmjacniemfiaa
open Go Go.RowKit
set_option maxRecDepth 100000
set_option linter.unusedSimpArgs false
set_option linter.unusedVariables false
set_option maxHeartbeats 4000000

/-! ### square-free parts: what the split keeps -/
theorem sfIn_prod {n k p : Int} : (sfIn n k p).2 * (sfIn n k p).2 * (sfIn n k p).1 = k * k * n := by
  fun_induction sfIn n k p with
  | case1 n k h ih =>
    obtain ⟨h1, h2, h3⟩ := sf_quo h.1 h.2.1 h.2.2
    rw [ih]
    generalize n.tdiv (p * p) = q at *
    rw [← h3]; grind
  | case2 n k h => rfl
theorem sfOut_prod {n k p : Int} : (sfOut n k p).2 * (sfOut n k p).2 * (sfOut n k p).1 = k * k * n := by
  fun_induction sfOut n k p with
  | case1 n k p h ih => rw [ih, sfIn_prod]
  | case2 n k p h => rfl
theorem sfIn_four {n k p : Int} (h4 : n % 4 ≠ 0) : (sfIn n k p).1 % 4 ≠ 0 := by
  fun_induction sfIn n k p with
  | case1 n k h ih =>
    obtain ⟨h1, h2, h3⟩ := sf_quo h.1 h.2.1 h.2.2
    apply ih
    intro hc
    apply h4
    obtain ⟨j, hj⟩ := Int.dvd_of_emod_eq_zero hc
    rw [← h3, hj, show p * p * (4 * j) = 4 * (p * p * j) by grind]
    exact Int.mul_emod_right _ _
  | case2 n k h => exact h4
theorem sfIn_two {n k : Int} (hn : n ≠ 0) : (sfIn n k 2).1 % 4 ≠ 0 := by
  fun_induction sfIn n k 2 with
  | case1 n k h ih => exact ih (sf_quo h.1 h.2.1 h.2.2).1
  | case2 n k h =>
    intro hc
    refine h ⟨hn, by omega, ?_⟩
    rw [Int.tmod_eq_emod]
    split <;> omega
theorem sfOut_four {n k p : Int} (h4 : n % 4 ≠ 0) : (sfOut n k p).1 % 4 ≠ 0 := by
  fun_induction sfOut n k p with
  | case1 n k p h ih => exact ih (sfIn_four h4)
  | case2 n k p h => exact h4
theorem sf_four {n : Int} (hn : n ≠ 0) : sfS n % 4 ≠ 0 := by
  unfold sfS sfI
  rw [sfOut.eq_def]
  split
  · exact sfOut_four (sfIn_two hn)
  · rename_i h
    show n % 4 ≠ 0
    omega
theorem sf_prod (n : Int) : sfK n * sfK n * sfS n = n := by
  have h := sfOut_prod (n := n) (k := 1) (p := 2)
  unfold sfK sfS sfI
  rw [h]; omega
theorem SfI.out {n k p : Int} (h : SfI n k) : SfI (sfOut n k p).1 (sfOut n k p).2 := by
  fun_induction sfOut n k p with
  | case1 n k p hc ih => exact ih h.inn
  | case2 n k p hc => exact h
theorem sf_inv {n : Int} (hn : n ≠ 0) (h : n.natAbs ≤ 1000000) : SfI (sfS n) (sfK n) := (sf_init hn h).out
/-- a negative discriminant's fundamental part and conductor -/
structure FuN (d : Int) : Prop where
  e1 : d ≤ fuE d
  e2 : fuE d ≤ -3
  e4 : fuE d % 4 = 0 ∨ fuE d % 4 = 1
  k1 : 1 ≤ fuK d
  k2 : fuK d * fuK d * 3 ≤ 2000
  pr : fuK d * fuK d * fuE d = d
theorem fu_neg {d : Int} (h : negB d = true) : FuN d := by
  have hi := negB_in h
  have hm := negB_mod h
  have h4 := sf_four (n := d) (by omega)
  have hp := sf_prod d
  have hI := sf_inv (n := d) (by omega) (by omega)
  have hk := hI.k0
  have hk2 := sq_nonneg (sfK d)
  have hs0 := hI.n0
  have hkk : 1 ≤ sfK d * sfK d := by
    have : 1 * 1 ≤ sfK d * sfK d := Int.mul_le_mul hk hk (by omega) (by omega)
    omega
  have hsn : sfS d < 0 := by
    apply Classical.byContradiction
    intro hc
    have : 0 ≤ sfK d * sfK d * sfS d := Int.mul_nonneg (by omega) (by omega)
    omega
  have hge : sfK d * sfK d * sfS d ≤ 1 * sfS d := Int.mul_le_mul_of_nonpos_right hkk (by omega)
  have hpar : sfS d % 4 ≠ 1 → sfK d % 2 = 0 := by
    intro h1
    apply Classical.byContradiction
    intro hc
    obtain ⟨j, hj⟩ : ∃ j, sfK d = 2 * j + 1 := ⟨sfK d / 2, by omega⟩
    have e : sfK d * sfK d = 4 * (j * j + j) + 1 := by rw [hj]; grind
    rw [e] at hp
    have e2 : (4 * (j * j + j) + 1) * sfS d = 4 * ((j * j + j) * sfS d) + sfS d := by grind
    omega
  have he : modI (sfS d) 4 = sfS d % 4 := modI_eq (by omega) (by omega)
  by_cases g : sfS d % 4 = 1
  · have hb : (modI (sfS d) 4 == 1) = true := by rw [he]; simpa using g
    have q1 : fuE d = sfS d := by unfold fuE; rw [hb]; rfl
    have q2 : fuK d = sfK d := by unfold fuK; rw [hb]; rfl
    have q3 : sfK d * sfK d * 3 ≤ sfK d * sfK d * (-sfS d) := Int.mul_le_mul_of_nonneg_left (by omega) hk2
    rw [Int.mul_neg, hp] at q3
    exact ⟨by rw [q1]; omega, by rw [q1]; omega, by rw [q1]; omega, by rw [q2]; exact hk, by rw [q2]; omega, by rw [q1, q2]; exact hp⟩
  · have hb : (modI (sfS d) 4 == 1) = false := by rw [he]; simpa using g
    have hsd : -2000 ≤ sfS d := by omega
    have q1 : fuE d = 4 * sfS d := by unfold fuE; rw [hb]; exact wrap_id (by omega) (by omega)
    have hk1 := hI.k1
    have q2 : fuK d = sfK d / 2 := by unfold fuK; rw [hb]; show wrap64 _ = _; rw [tdiv_nn (by omega), wrap_id (by omega) (by omega)]
    have hev := hpar g
    obtain ⟨j, hj⟩ : ∃ j, sfK d = 2 * j := ⟨sfK d / 2, by omega⟩
    have hj2 : sfK d / 2 = j := by omega
    have hpj : j * j * (4 * sfS d) = d := by rw [hj] at hp; rw [← hp]; grind
    have hjj : 1 ≤ j * j := by
      have : 1 * 1 ≤ j * j := Int.mul_le_mul (by omega) (by omega) (by omega) (by omega)
      omega
    have q3 : j * j * 3 ≤ j * j * (-(4 * sfS d)) := Int.mul_le_mul_of_nonneg_left (by omega) (by omega)
    rw [Int.mul_neg, hpj] at q3
    have q4 : j * j * (4 * sfS d) ≤ 1 * (4 * sfS d) := Int.mul_le_mul_of_nonpos_right hjj (by omega)
    exact ⟨by rw [q1]; omega, by rw [q1]; omega, by rw [q1]; omega, by rw [q2]; omega, by rw [q2, hj2]; omega, by rw [q1, q2, hj2]; exact hpj⟩
theorem fu_negB {d : Int} (h : negB d = true) : negB (fuE d) = true := by
  have hf := fu_neg h
  have h1 := hf.e1
  have h2 := hf.e2
  have h4 := hf.e4
  have hi := negB_in h
  simp only [negB, Bool.and_eq_true, decide_eq_true_eq]
  rw [modI_eq (by omega) (by omega)]
  omega
/-! ### the conductor's factor -/
def cfF (e o p : Int) : Int := wrap64 (wrap64 (o.tdiv p) * wrap64 (p - krL e p))
def cfI (e k : Int) : Int := (psL k).foldl (cfF e) k
theorem cf_step {e o p : Int} (h0 : 0 ≤ o) (h1 : o ≤ 1000000000) (h2 : 2 ≤ p) (h3 : p ≤ 1000000000) : 0 ≤ cfF e o p ∧ cfF e o p ≤ 2 * o := by
  have hk := krL_abs e _ p (Nat.le_refl _)
  have d1 : o / p * p ≤ o := Int.ediv_mul_le o (by omega)
  have d0 : 0 ≤ o / p := Int.ediv_nonneg h0 (by omega)
  have d2 : o / p * 1 ≤ o / p * p := Int.mul_le_mul_of_nonneg_left (by omega) d0
  have d3 : o / p * (p - krL e p) ≤ o / p * (p + 1) := Int.mul_le_mul_of_nonneg_left (by omega) d0
  have d4 : 0 ≤ o / p * (p - krL e p) := Int.mul_nonneg d0 (by omega)
  have d5 : o / p * (p + 1) = o / p * p + o / p := by grind
  have e1 : cfF e o p = o / p * (p - krL e p) := by
    unfold cfF
    rw [tdiv_nn h0, wrap_id (n := o / p) (by omega) (by omega), wrap_id (n := p - krL e p) (by omega) (by omega), wrap_id (by omega) (by omega)]
  rw [e1]
  omega
theorem cf_fold {e : Int} : ∀ (l : List Int) (o : Int), 0 ≤ o → o * 2 ^ l.length ≤ 1000000000 → (∀ x ∈ l, 2 ≤ x ∧ x ≤ 1000000000) → 0 ≤ l.foldl (cfF e) o ∧ l.foldl (cfF e) o ≤ o * 2 ^ l.length
  | [], o, h0, h1, _ => by simp [h0]
  | p :: l, o, h0, h1, hl => by
    have hp := hl p (by simp)
    have h2 := pow2_nn l.length
    have h3 : (1 : Int) ≤ 2 ^ l.length := by
      have := Nat.one_le_two_pow (n := l.length)
      have e : ((2 ^ l.length : Nat) : Int) = (2 : Int) ^ l.length := by simp
      omega
    rw [List.length_cons, Int.pow_succ] at h1 ⊢
    have e1 : o * (2 ^ l.length * 2) = 2 * o * 2 ^ l.length := by grind
    rw [e1] at h1 ⊢
    have h4 : 2 * o * 1 ≤ 2 * o * 2 ^ l.length := Int.mul_le_mul_of_nonneg_left h3 (by omega)
    obtain ⟨s1, s2⟩ := cf_step (e := e) h0 (by omega) hp.1 hp.2
    have h5 : cfF e o p * 2 ^ l.length ≤ 2 * o * 2 ^ l.length := Int.mul_le_mul_of_nonneg_right s2 h2
    obtain ⟨r1, r2⟩ := cf_fold (e := e) l (cfF e o p) s1 (by omega) (fun x hx => hl x (by simp [hx]))
    rw [List.foldl_cons]
    omega
theorem pow2_mono {m n : Nat} (h : m ≤ n) : (2 : Int) ^ m ≤ 2 ^ n := by
  have := Nat.pow_le_pow_right (show 0 < 2 by omega) h
  have e1 : ((2 ^ m : Nat) : Int) = (2 : Int) ^ m := by simp
  have e2 : ((2 ^ n : Nat) : Int) = (2 : Int) ^ n := by simp
  omega
theorem cf_bd {e k : Int} (h1 : 1 ≤ k) (h2 : k * k * 3 ≤ 2000) : 0 ≤ cfI e k ∧ cfI e k ≤ 2000 := by
  have hk : k ≤ 1000000000 := by
    have : k * 1 ≤ k * k := Int.mul_le_mul_of_nonneg_left h1 (by omega)
    omega
  have hp := ps_all h1 hk
  have hf := fc_all h1 hk
  have h3 := pow2_mono hp.len
  have h4 : k * 2 ^ (psL k).length ≤ k * k := Int.mul_le_mul_of_nonneg_left (by have := hf.pow; omega) (by omega)
  obtain ⟨r1, r2⟩ := cf_fold (e := e) (psL k) k (by omega) (by omega) (fun x hx => by have := hp.el x hx; omega)
  unfold cfI
  omega
theorem cf_take {e k : Int} {n : Nat} (h : n < (psL k).length) : ((psL k).take (n + 1)).foldl (cfF e) k = cfF e (((psL k).take n).foldl (cfF e) k) ((psL k).getD n 0) := by
  have e : (psL k).take (n + 1) = (psL k).take n ++ [(psL k).getD n 0] := by rw [List.take_add_one]; simp [List.getD_eq_getElem?_getD, h]
  rw [e, List.foldl_append]; rfl
def CfPre (e k : Int) : Prop := (1 ≤ k ∧ k ≤ 1000000000) ∧ (-1000000000 ≤ e ∧ e ≤ 1000000000)
abbrev fCondFactor : Nat := 38
def cCondFactor : Ctr
  | [.i e, .i k] => some ⟨CfPre e k, .one (.i (cfI e k)), []⟩
  | _ => none
theorem okCondFactor : CtrOk Try.prog fCondFactor cCondFactor := by
  have hsp : SpecOk Try.prog (specOf [(fPrimesOf, cPrimesOf), (fKron, cKron)]) := (SpecOk.cons okPrimesOf (SpecOk.cons okKron SpecOk.nil))
  refine ctr_of (fn := Try.f38) mixed tab_ok hsp Try.func38 (by kernel_rfl) (by kernel_rfl) fun args ce h => ?_
  clear hsp
  unfold cCondFactor at h
  split at h
  case h_2 => cases h
  rename_i e k
  simp only [Option.some.injEq] at h
  subst h
  refine ⟨by rfl, fun hp => ⟨1, 1000, ?_⟩⟩
  simp only [↓cond_to_ite, ↓reduceIte, vc, out, step, stepE, stepPick, stepG, stepO, stepC, eff, look, rem, St.put, St.setMem, setMems, St.after, St.eval, cst, setAt, val1, okNew, newHs, allHs, rdOf, outHs, Reg.item, Reg.next, Reg.skip, slotOf, effBox, effAlloc, entryRow, fieldOff, effField, loadI, load1, loadR, effLoad, storeI, storeB, storeR, szOk, storeTo, effStore, buildOf, effBuild, binInt, eqI, boolOf, binBool, effBin, effUn, effPick, effExtract, ivs, svs, rowOf, allParts, effBuildSlice, zeroRow, effMakeSlice, elemSz, idxA, idxS, effIndex, lenOf, readOf, subPre, maxRow, plainTI, appTo, effAppend, slcOf, effSlice, argOf, resA, resL, resV, outWr, nodupB, restOk, argsPre, argOk, callWr, effCall, effMax, wrHs, disj, AV.hs, A0.hs, Entry.hs, RC.elem, RC.sz, RC.len, RC.slice, RC.app, hA, initFr, initMem, initSt, resOf, resAll, compEq, compsEq, rowHs, outHds, outsEq, shapeOk, finOk, comps, A0.norm, AV.norm, specOf, t_int, t_bool, t_implForm, t_lawsForm, t_implMatrix, t_implCube, t_implunited, t_implSymbolStep, t_implentries, t_a8int, ts_int, ts_implForm, Option.getD_some, Option.getD_none, cond_true, cond_false, Nat.reduceBEq, List.map_cons, List.map_nil, List.set_cons_zero, List.set_cons_succ, List.getElem?_cons_zero, List.getElem?_cons_succ, List.drop_zero, List.drop_succ_cons, List.take_succ_cons, List.take_zero, Option.map_some, Option.map_none, Option.bind_some, Nat.zero_add, Nat.add_zero, Nat.reduceAdd, Nat.reduceMul, true_and, and_true, List.replicate_succ, List.replicate_zero, List.length_cons, List.length_nil, List.all_cons, List.all_nil, List.any_cons, List.any_nil, Bool.and_true, Bool.true_and, Bool.and_false, Bool.false_and, Bool.or_true, Bool.true_or, Bool.or_false, Bool.false_or, Bool.not_true, Bool.not_false, List.append_nil, List.nil_append, List.cons_append, List.flatMap_cons, List.flatMap_nil, List.contains_cons, List.contains_nil, List.filter_cons, List.filter_nil, beq_self_eq_true, Bool.not_eq_true, A0.b.injEq, A0.i.injEq, A0.s.injEq, A0.rw.injEq, A0.fn.injEq, List.cons.injEq, RC.ints.injEq, RC.recs.injEq, RC.bools.injEq, AV.one.injEq, AV.tup.injEq, ble_dec, blt_dec, Nat.reduceLeDiff, Nat.reduceSub, decide_true, decide_false, and_self, List.toList_toArray, Option.isSome_some, Option.isSome_none, List.elem_nil, List.elem_cons, ite_true, ite_false, Bool.false_eq_true, if_true, if_false, reduceIte, flatB_2, flatB_3, flatB_4, List.headD_cons, List.tail_cons, cPrimesOf, fPrimesOf, cKron, fKron, Try.f38]
  obtain ⟨⟨hk1, hk2⟩, he⟩ : CfPre e k := hp
  have hps := ps_all hk1 hk2
  have hlen : (psL k).length ≤ 1000000000 := by have := hps.len; have hf := (fc_all hk1 hk2).len2 hk2; omega
  refine ⟨⟨hk1, hk2⟩, ?_⟩
  refine lp_intro (fun q : Nat => ⟨[(0, .one (.i e)), (5, .one (.i (((psL k).take q).foldl (cfF e) k))), (10, .one (.row 10)), (11, .one (.i (psL k).length)), (12, .one (.i q))], [(10, .row (.ints 3 (psL k)))]⟩)
    (fun q => q ≤ (psL k).length) (fun q => (psL k).length - q) 0 [] (Nat.zero_le _) (by simp only [Cov, covOk, covFr, covMem, entEq, rn, nodupB, A0.ren, AV.ren, Entry.ren, Entry.norm, vc, out, step, stepE, stepPick, stepG, stepO, stepC, eff, look, rem, St.put, St.setMem, setMems, St.after, St.eval, cst, setAt, val1, okNew, newHs, allHs, rdOf, outHs, Reg.item, Reg.next, Reg.skip, slotOf, effBox, effAlloc, entryRow, fieldOff, effField, loadI, load1, loadR, effLoad, storeI, storeB, storeR, szOk, storeTo, effStore, buildOf, effBuild, binInt, eqI, boolOf, binBool, effBin, effUn, effPick, effExtract, ivs, svs, rowOf, allParts, effBuildSlice, zeroRow, effMakeSlice, elemSz, idxA, idxS, effIndex, lenOf, readOf, subPre, maxRow, plainTI, appTo, effAppend, slcOf, effSlice, argOf, resA, resL, resV, outWr, nodupB, restOk, argsPre, argOk, callWr, effCall, effMax, wrHs, disj, AV.hs, A0.hs, Entry.hs, RC.elem, RC.sz, RC.len, RC.slice, RC.app, hA, initFr, initMem, initSt, resOf, resAll, compEq, compsEq, rowHs, outHds, outsEq, shapeOk, finOk, comps, A0.norm, AV.norm, specOf, t_int, t_bool, t_implForm, t_lawsForm, t_implMatrix, t_implCube, t_implunited, t_implSymbolStep, t_implentries, t_a8int, ts_int, ts_implForm, Option.getD_some, Option.getD_none, cond_true, cond_false, Nat.reduceBEq, List.map_cons, List.map_nil, List.set_cons_zero, List.set_cons_succ, List.getElem?_cons_zero, List.getElem?_cons_succ, List.drop_zero, List.drop_succ_cons, List.take_succ_cons, List.take_zero, Option.map_some, Option.map_none, Option.bind_some, Nat.zero_add, Nat.add_zero, Nat.reduceAdd, Nat.reduceMul, true_and, and_true, List.replicate_succ, List.replicate_zero, List.length_cons, List.length_nil, List.all_cons, List.all_nil, List.any_cons, List.any_nil, Bool.and_true, Bool.true_and, Bool.and_false, Bool.false_and, Bool.or_true, Bool.true_or, Bool.or_false, Bool.false_or, Bool.not_true, Bool.not_false, List.append_nil, List.nil_append, List.cons_append, List.flatMap_cons, List.flatMap_nil, List.contains_cons, List.contains_nil, List.filter_cons, List.filter_nil, beq_self_eq_true, Bool.not_eq_true, A0.b.injEq, A0.i.injEq, A0.s.injEq, A0.rw.injEq, A0.fn.injEq, List.cons.injEq, RC.ints.injEq, RC.recs.injEq, RC.bools.injEq, AV.one.injEq, AV.tup.injEq, ble_dec, blt_dec, Nat.reduceLeDiff, Nat.reduceSub, decide_true, decide_false, and_self, List.toList_toArray, Option.isSome_some, Option.isSome_none, List.elem_nil, List.elem_cons, ite_true, ite_false, Bool.false_eq_true, if_true, if_false, reduceIte, flatB_2, flatB_3, flatB_4, List.headD_cons, List.tail_cons]; simp) fun q hq J hJ => ⟨1000, ?_⟩
  by_cases g : q < (psL k).length
  · have e1 : decide ((q : Int) < ((psL k).length : Int)) = true := decide_eq_true (by omega)
    have hm : (psL k).getD q 0 ∈ psL k := by simp [List.getD_eq_getElem?_getD, g]
    have hx := hps.el _ hm
    have ht := cf_take (e := e) g
    simp only [↓cond_to_ite, ↓reduceIte, vc, out, step, stepE, stepPick, stepG, stepO, stepC, eff, look, rem, St.put, St.setMem, setMems, St.after, St.eval, cst, setAt, val1, okNew, newHs, allHs, rdOf, outHs, Reg.item, Reg.next, Reg.skip, slotOf, effBox, effAlloc, entryRow, fieldOff, effField, loadI, load1, loadR, effLoad, storeI, storeB, storeR, szOk, storeTo, effStore, buildOf, effBuild, binInt, eqI, boolOf, binBool, effBin, effUn, effPick, effExtract, ivs, svs, rowOf, allParts, effBuildSlice, zeroRow, effMakeSlice, elemSz, idxA, idxS, effIndex, lenOf, readOf, subPre, maxRow, plainTI, appTo, effAppend, slcOf, effSlice, argOf, resA, resL, resV, outWr, nodupB, restOk, argsPre, argOk, callWr, effCall, effMax, wrHs, disj, AV.hs, A0.hs, Entry.hs, RC.elem, RC.sz, RC.len, RC.slice, RC.app, hA, initFr, initMem, initSt, resOf, resAll, compEq, compsEq, rowHs, outHds, outsEq, shapeOk, finOk, comps, A0.norm, AV.norm, specOf, t_int, t_bool, t_implForm, t_lawsForm, t_implMatrix, t_implCube, t_implunited, t_implSymbolStep, t_implentries, t_a8int, ts_int, ts_implForm, Option.getD_some, Option.getD_none, cond_true, cond_false, Nat.reduceBEq, List.map_cons, List.map_nil, List.set_cons_zero, List.set_cons_succ, List.getElem?_cons_zero, List.getElem?_cons_succ, List.drop_zero, List.drop_succ_cons, List.take_succ_cons, List.take_zero, Option.map_some, Option.map_none, Option.bind_some, Nat.zero_add, Nat.add_zero, Nat.reduceAdd, Nat.reduceMul, true_and, and_true, List.replicate_succ, List.replicate_zero, List.length_cons, List.length_nil, List.all_cons, List.all_nil, List.any_cons, List.any_nil, Bool.and_true, Bool.true_and, Bool.and_false, Bool.false_and, Bool.or_true, Bool.true_or, Bool.or_false, Bool.false_or, Bool.not_true, Bool.not_false, List.append_nil, List.nil_append, List.cons_append, List.flatMap_cons, List.flatMap_nil, List.contains_cons, List.contains_nil, List.filter_cons, List.filter_nil, beq_self_eq_true, Bool.not_eq_true, A0.b.injEq, A0.i.injEq, A0.s.injEq, A0.rw.injEq, A0.fn.injEq, List.cons.injEq, RC.ints.injEq, RC.recs.injEq, RC.bools.injEq, AV.one.injEq, AV.tup.injEq, ble_dec, blt_dec, Nat.reduceLeDiff, Nat.reduceSub, decide_true, decide_false, and_self, List.toList_toArray, Option.isSome_some, Option.isSome_none, List.elem_nil, List.elem_cons, ite_true, ite_false, Bool.false_eq_true, if_true, if_false, reduceIte, flatB_2, flatB_3, flatB_4, List.headD_cons, List.tail_cons, cKron, fKron, e1, Int.toNat_natCast]
    refine ⟨⟨by omega, by omega⟩, g, by omega, ⟨⟨by omega, by omega⟩, ⟨by omega, by omega⟩⟩, by kernel_rfl, hJ _ (q + 1) [] (by omega) (by omega) ?_⟩
    simp only [Cov, covOk, covFr, covMem, entEq, rn, nodupB, A0.ren, AV.ren, Entry.ren, Entry.norm, vc, out, step, stepE, stepPick, stepG, stepO, stepC, eff, look, rem, St.put, St.setMem, setMems, St.after, St.eval, cst, setAt, val1, okNew, newHs, allHs, rdOf, outHs, Reg.item, Reg.next, Reg.skip, slotOf, effBox, effAlloc, entryRow, fieldOff, effField, loadI, load1, loadR, effLoad, storeI, storeB, storeR, szOk, storeTo, effStore, buildOf, effBuild, binInt, eqI, boolOf, binBool, effBin, effUn, effPick, effExtract, ivs, svs, rowOf, allParts, effBuildSlice, zeroRow, effMakeSlice, elemSz, idxA, idxS, effIndex, lenOf, readOf, subPre, maxRow, plainTI, appTo, effAppend, slcOf, effSlice, argOf, resA, resL, resV, outWr, nodupB, restOk, argsPre, argOk, callWr, effCall, effMax, wrHs, disj, AV.hs, A0.hs, Entry.hs, RC.elem, RC.sz, RC.len, RC.slice, RC.app, hA, initFr, initMem, initSt, resOf, resAll, compEq, compsEq, rowHs, outHds, outsEq, shapeOk, finOk, comps, A0.norm, AV.norm, specOf, t_int, t_bool, t_implForm, t_lawsForm, t_implMatrix, t_implCube, t_implunited, t_implSymbolStep, t_implentries, t_a8int, ts_int, ts_implForm, Option.getD_some, Option.getD_none, cond_true, cond_false, Nat.reduceBEq, List.map_cons, List.map_nil, List.set_cons_zero, List.set_cons_succ, List.getElem?_cons_zero, List.getElem?_cons_succ, List.drop_zero, List.drop_succ_cons, List.take_succ_cons, List.take_zero, Option.map_some, Option.map_none, Option.bind_some, Nat.zero_add, Nat.add_zero, Nat.reduceAdd, Nat.reduceMul, true_and, and_true, List.replicate_succ, List.replicate_zero, List.length_cons, List.length_nil, List.all_cons, List.all_nil, List.any_cons, List.any_nil, Bool.and_true, Bool.true_and, Bool.and_false, Bool.false_and, Bool.or_true, Bool.true_or, Bool.or_false, Bool.false_or, Bool.not_true, Bool.not_false, List.append_nil, List.nil_append, List.cons_append, List.flatMap_cons, List.flatMap_nil, List.contains_cons, List.contains_nil, List.filter_cons, List.filter_nil, beq_self_eq_true, Bool.not_eq_true, A0.b.injEq, A0.i.injEq, A0.s.injEq, A0.rw.injEq, A0.fn.injEq, List.cons.injEq, RC.ints.injEq, RC.recs.injEq, RC.bools.injEq, AV.one.injEq, AV.tup.injEq, ble_dec, blt_dec, Nat.reduceLeDiff, Nat.reduceSub, decide_true, decide_false, and_self, List.toList_toArray, Option.isSome_some, Option.isSome_none, List.elem_nil, List.elem_cons, ite_true, ite_false, Bool.false_eq_true, if_true, if_false, reduceIte, flatB_2, flatB_3, flatB_4, List.headD_cons, List.tail_cons, wsucc g (by omega), ht, cfF]
  · have e1 : decide ((q : Int) < ((psL k).length : Int)) = false := decide_eq_false (by omega)
    have hqe : q = (psL k).length := by omega
    simp only [↓cond_to_ite, ↓reduceIte, vc, out, step, stepE, stepPick, stepG, stepO, stepC, eff, look, rem, St.put, St.setMem, setMems, St.after, St.eval, cst, setAt, val1, okNew, newHs, allHs, rdOf, outHs, Reg.item, Reg.next, Reg.skip, slotOf, effBox, effAlloc, entryRow, fieldOff, effField, loadI, load1, loadR, effLoad, storeI, storeB, storeR, szOk, storeTo, effStore, buildOf, effBuild, binInt, eqI, boolOf, binBool, effBin, effUn, effPick, effExtract, ivs, svs, rowOf, allParts, effBuildSlice, zeroRow, effMakeSlice, elemSz, idxA, idxS, effIndex, lenOf, readOf, subPre, maxRow, plainTI, appTo, effAppend, slcOf, effSlice, argOf, resA, resL, resV, outWr, nodupB, restOk, argsPre, argOk, callWr, effCall, effMax, wrHs, disj, AV.hs, A0.hs, Entry.hs, RC.elem, RC.sz, RC.len, RC.slice, RC.app, hA, initFr, initMem, initSt, resOf, resAll, compEq, compsEq, rowHs, outHds, outsEq, shapeOk, finOk, comps, A0.norm, AV.norm, specOf, t_int, t_bool, t_implForm, t_lawsForm, t_implMatrix, t_implCube, t_implunited, t_implSymbolStep, t_implentries, t_a8int, ts_int, ts_implForm, Option.getD_some, Option.getD_none, cond_true, cond_false, Nat.reduceBEq, List.map_cons, List.map_nil, List.set_cons_zero, List.set_cons_succ, List.getElem?_cons_zero, List.getElem?_cons_succ, List.drop_zero, List.drop_succ_cons, List.take_succ_cons, List.take_zero, Option.map_some, Option.map_none, Option.bind_some, Nat.zero_add, Nat.add_zero, Nat.reduceAdd, Nat.reduceMul, true_and, and_true, List.replicate_succ, List.replicate_zero, List.length_cons, List.length_nil, List.all_cons, List.all_nil, List.any_cons, List.any_nil, Bool.and_true, Bool.true_and, Bool.and_false, Bool.false_and, Bool.or_true, Bool.true_or, Bool.or_false, Bool.false_or, Bool.not_true, Bool.not_false, List.append_nil, List.nil_append, List.cons_append, List.flatMap_cons, List.flatMap_nil, List.contains_cons, List.contains_nil, List.filter_cons, List.filter_nil, beq_self_eq_true, Bool.not_eq_true, A0.b.injEq, A0.i.injEq, A0.s.injEq, A0.rw.injEq, A0.fn.injEq, List.cons.injEq, RC.ints.injEq, RC.recs.injEq, RC.bools.injEq, AV.one.injEq, AV.tup.injEq, ble_dec, blt_dec, Nat.reduceLeDiff, Nat.reduceSub, decide_true, decide_false, and_self, List.toList_toArray, Option.isSome_some, Option.isSome_none, List.elem_nil, List.elem_cons, ite_true, ite_false, Bool.false_eq_true, if_true, if_false, reduceIte, flatB_2, flatB_3, flatB_4, List.headD_cons, List.tail_cons, e1]
    rw [hqe, List.take_length]
    rfl
abbrev fDiFactor : Nat := 33
def cDiFactor : Ctr
  | [.i d] => some ⟨negB d = true, .one (.i (cfI (fuE d) (fuK d))), []⟩
  | _ => none
theorem okDiFactor : CtrOk Try.prog fDiFactor cDiFactor := by
  have hsp : SpecOk Try.prog (specOf [(fDiSplit, cDiSplit), (fNuPrimes, cNuPrimes), (fSyKron, cSyKron)]) := (SpecOk.cons okDiSplit (SpecOk.cons okNuPrimes (SpecOk.cons okSyKron SpecOk.nil)))
  refine ctr_of (fn := Try.f33) mixed tab_ok hsp Try.func33 (by kernel_rfl) (by kernel_rfl) fun args ce h => ?_
  clear hsp
  unfold cDiFactor at h
  split at h
  case h_2 => cases h
  rename_i d
  simp only [Option.some.injEq] at h
  subst h
  refine ⟨by rfl, fun hp => ⟨1, 1000, ?_⟩⟩
  simp only [↓cond_to_ite, ↓reduceIte, vc, out, step, stepE, stepPick, stepG, stepO, stepC, eff, look, rem, St.put, St.setMem, setMems, St.after, St.eval, cst, setAt, val1, okNew, newHs, allHs, rdOf, outHs, Reg.item, Reg.next, Reg.skip, slotOf, effBox, effAlloc, entryRow, fieldOff, effField, loadI, load1, loadR, effLoad, storeI, storeB, storeR, szOk, storeTo, effStore, buildOf, effBuild, binInt, eqI, boolOf, binBool, effBin, effUn, effPick, effExtract, ivs, svs, rowOf, allParts, effBuildSlice, zeroRow, effMakeSlice, elemSz, idxA, idxS, effIndex, lenOf, readOf, subPre, maxRow, plainTI, appTo, effAppend, slcOf, effSlice, argOf, resA, resL, resV, outWr, nodupB, restOk, argsPre, argOk, callWr, effCall, effMax, wrHs, disj, AV.hs, A0.hs, Entry.hs, RC.elem, RC.sz, RC.len, RC.slice, RC.app, hA, initFr, initMem, initSt, resOf, resAll, compEq, compsEq, rowHs, outHds, outsEq, shapeOk, finOk, comps, A0.norm, AV.norm, specOf, t_int, t_bool, t_implForm, t_lawsForm, t_implMatrix, t_implCube, t_implunited, t_implSymbolStep, t_implentries, t_a8int, ts_int, ts_implForm, Option.getD_some, Option.getD_none, cond_true, cond_false, Nat.reduceBEq, List.map_cons, List.map_nil, List.set_cons_zero, List.set_cons_succ, List.getElem?_cons_zero, List.getElem?_cons_succ, List.drop_zero, List.drop_succ_cons, List.take_succ_cons, List.take_zero, Option.map_some, Option.map_none, Option.bind_some, Nat.zero_add, Nat.add_zero, Nat.reduceAdd, Nat.reduceMul, true_and, and_true, List.replicate_succ, List.replicate_zero, List.length_cons, List.length_nil, List.all_cons, List.all_nil, List.any_cons, List.any_nil, Bool.and_true, Bool.true_and, Bool.and_false, Bool.false_and, Bool.or_true, Bool.true_or, Bool.or_false, Bool.false_or, Bool.not_true, Bool.not_false, List.append_nil, List.nil_append, List.cons_append, List.flatMap_cons, List.flatMap_nil, List.contains_cons, List.contains_nil, List.filter_cons, List.filter_nil, beq_self_eq_true, Bool.not_eq_true, A0.b.injEq, A0.i.injEq, A0.s.injEq, A0.rw.injEq, A0.fn.injEq, List.cons.injEq, RC.ints.injEq, RC.recs.injEq, RC.bools.injEq, AV.one.injEq, AV.tup.injEq, ble_dec, blt_dec, Nat.reduceLeDiff, Nat.reduceSub, decide_true, decide_false, and_self, List.toList_toArray, Option.isSome_some, Option.isSome_none, List.elem_nil, List.elem_cons, ite_true, ite_false, Bool.false_eq_true, if_true, if_false, reduceIte, flatB_2, flatB_3, flatB_4, List.headD_cons, List.tail_cons, cDiSplit, fDiSplit, cNuPrimes, fNuPrimes, cSyKron, fSyKron, Try.f33]
  have hd : negB d = true := hp
  have hi := negB_in hd
  have hf := fu_neg hd
  have h1 := hf.e1
  have h2 := hf.e2
  have hk1 := hf.k1
  have hk2 : fuK d ≤ 1000000000 := by
    have h3 := hf.k2
    have : fuK d * 1 ≤ fuK d * fuK d := Int.mul_le_mul_of_nonneg_left hk1 (by omega)
    omega
  generalize fuE d = e at *
  generalize fuK d = k at *
  have hps := ps_all hk1 hk2
  have hlen : (psL k).length ≤ 1000000000 := by have := hps.len; have hf := (fc_all hk1 hk2).len2 hk2; omega
  refine ⟨⟨by omega, by omega⟩, ⟨hk1, hk2⟩, ?_⟩
  refine lp_intro (fun q : Nat => ⟨[(3, .one (.i e)), (5, .one (.i (((psL k).take q).foldl (cfF e) k))), (15, .one (.row 15)), (16, .one (.i (psL k).length)), (17, .one (.i q))], [(15, .row (.ints 3 (psL k)))]⟩)
    (fun q => q ≤ (psL k).length) (fun q => (psL k).length - q) 0 [] (Nat.zero_le _) (by simp only [Cov, covOk, covFr, covMem, entEq, rn, nodupB, A0.ren, AV.ren, Entry.ren, Entry.norm, vc, out, step, stepE, stepPick, stepG, stepO, stepC, eff, look, rem, St.put, St.setMem, setMems, St.after, St.eval, cst, setAt, val1, okNew, newHs, allHs, rdOf, outHs, Reg.item, Reg.next, Reg.skip, slotOf, effBox, effAlloc, entryRow, fieldOff, effField, loadI, load1, loadR, effLoad, storeI, storeB, storeR, szOk, storeTo, effStore, buildOf, effBuild, binInt, eqI, boolOf, binBool, effBin, effUn, effPick, effExtract, ivs, svs, rowOf, allParts, effBuildSlice, zeroRow, effMakeSlice, elemSz, idxA, idxS, effIndex, lenOf, readOf, subPre, maxRow, plainTI, appTo, effAppend, slcOf, effSlice, argOf, resA, resL, resV, outWr, nodupB, restOk, argsPre, argOk, callWr, effCall, effMax, wrHs, disj, AV.hs, A0.hs, Entry.hs, RC.elem, RC.sz, RC.len, RC.slice, RC.app, hA, initFr, initMem, initSt, resOf, resAll, compEq, compsEq, rowHs, outHds, outsEq, shapeOk, finOk, comps, A0.norm, AV.norm, specOf, t_int, t_bool, t_implForm, t_lawsForm, t_implMatrix, t_implCube, t_implunited, t_implSymbolStep, t_implentries, t_a8int, ts_int, ts_implForm, Option.getD_some, Option.getD_none, cond_true, cond_false, Nat.reduceBEq, List.map_cons, List.map_nil, List.set_cons_zero, List.set_cons_succ, List.getElem?_cons_zero, List.getElem?_cons_succ, List.drop_zero, List.drop_succ_cons, List.take_succ_cons, List.take_zero, Option.map_some, Option.map_none, Option.bind_some, Nat.zero_add, Nat.add_zero, Nat.reduceAdd, Nat.reduceMul, true_and, and_true, List.replicate_succ, List.replicate_zero, List.length_cons, List.length_nil, List.all_cons, List.all_nil, List.any_cons, List.any_nil, Bool.and_true, Bool.true_and, Bool.and_false, Bool.false_and, Bool.or_true, Bool.true_or, Bool.or_false, Bool.false_or, Bool.not_true, Bool.not_false, List.append_nil, List.nil_append, List.cons_append, List.flatMap_cons, List.flatMap_nil, List.contains_cons, List.contains_nil, List.filter_cons, List.filter_nil, beq_self_eq_true, Bool.not_eq_true, A0.b.injEq, A0.i.injEq, A0.s.injEq, A0.rw.injEq, A0.fn.injEq, List.cons.injEq, RC.ints.injEq, RC.recs.injEq, RC.bools.injEq, AV.one.injEq, AV.tup.injEq, ble_dec, blt_dec, Nat.reduceLeDiff, Nat.reduceSub, decide_true, decide_false, and_self, List.toList_toArray, Option.isSome_some, Option.isSome_none, List.elem_nil, List.elem_cons, ite_true, ite_false, Bool.false_eq_true, if_true, if_false, reduceIte, flatB_2, flatB_3, flatB_4, List.headD_cons, List.tail_cons]; simp) fun q hq J hJ => ⟨1000, ?_⟩
  by_cases g : q < (psL k).length
  · have e1 : decide ((q : Int) < ((psL k).length : Int)) = true := decide_eq_true (by omega)
    have hm : (psL k).getD q 0 ∈ psL k := by simp [List.getD_eq_getElem?_getD, g]
    have hx := hps.el _ hm
    have ht := cf_take (e := e) g
    simp only [↓cond_to_ite, ↓reduceIte, vc, out, step, stepE, stepPick, stepG, stepO, stepC, eff, look, rem, St.put, St.setMem, setMems, St.after, St.eval, cst, setAt, val1, okNew, newHs, allHs, rdOf, outHs, Reg.item, Reg.next, Reg.skip, slotOf, effBox, effAlloc, entryRow, fieldOff, effField, loadI, load1, loadR, effLoad, storeI, storeB, storeR, szOk, storeTo, effStore, buildOf, effBuild, binInt, eqI, boolOf, binBool, effBin, effUn, effPick, effExtract, ivs, svs, rowOf, allParts, effBuildSlice, zeroRow, effMakeSlice, elemSz, idxA, idxS, effIndex, lenOf, readOf, subPre, maxRow, plainTI, appTo, effAppend, slcOf, effSlice, argOf, resA, resL, resV, outWr, nodupB, restOk, argsPre, argOk, callWr, effCall, effMax, wrHs, disj, AV.hs, A0.hs, Entry.hs, RC.elem, RC.sz, RC.len, RC.slice, RC.app, hA, initFr, initMem, initSt, resOf, resAll, compEq, compsEq, rowHs, outHds, outsEq, shapeOk, finOk, comps, A0.norm, AV.norm, specOf, t_int, t_bool, t_implForm, t_lawsForm, t_implMatrix, t_implCube, t_implunited, t_implSymbolStep, t_implentries, t_a8int, ts_int, ts_implForm, Option.getD_some, Option.getD_none, cond_true, cond_false, Nat.reduceBEq, List.map_cons, List.map_nil, List.set_cons_zero, List.set_cons_succ, List.getElem?_cons_zero, List.getElem?_cons_succ, List.drop_zero, List.drop_succ_cons, List.take_succ_cons, List.take_zero, Option.map_some, Option.map_none, Option.bind_some, Nat.zero_add, Nat.add_zero, Nat.reduceAdd, Nat.reduceMul, true_and, and_true, List.replicate_succ, List.replicate_zero, List.length_cons, List.length_nil, List.all_cons, List.all_nil, List.any_cons, List.any_nil, Bool.and_true, Bool.true_and, Bool.and_false, Bool.false_and, Bool.or_true, Bool.true_or, Bool.or_false, Bool.false_or, Bool.not_true, Bool.not_false, List.append_nil, List.nil_append, List.cons_append, List.flatMap_cons, List.flatMap_nil, List.contains_cons, List.contains_nil, List.filter_cons, List.filter_nil, beq_self_eq_true, Bool.not_eq_true, A0.b.injEq, A0.i.injEq, A0.s.injEq, A0.rw.injEq, A0.fn.injEq, List.cons.injEq, RC.ints.injEq, RC.recs.injEq, RC.bools.injEq, AV.one.injEq, AV.tup.injEq, ble_dec, blt_dec, Nat.reduceLeDiff, Nat.reduceSub, decide_true, decide_false, and_self, List.toList_toArray, Option.isSome_some, Option.isSome_none, List.elem_nil, List.elem_cons, ite_true, ite_false, Bool.false_eq_true, if_true, if_false, reduceIte, flatB_2, flatB_3, flatB_4, List.headD_cons, List.tail_cons, cSyKron, fSyKron, e1, Int.toNat_natCast]
    refine ⟨⟨by omega, by omega⟩, g, by omega, ⟨⟨by omega, by omega⟩, ⟨by omega, by omega⟩⟩, by kernel_rfl, hJ _ (q + 1) [] (by omega) (by omega) ?_⟩
    simp only [Cov, covOk, covFr, covMem, entEq, rn, nodupB, A0.ren, AV.ren, Entry.ren, Entry.norm, vc, out, step, stepE, stepPick, stepG, stepO, stepC, eff, look, rem, St.put, St.setMem, setMems, St.after, St.eval, cst, setAt, val1, okNew, newHs, allHs, rdOf, outHs, Reg.item, Reg.next, Reg.skip, slotOf, effBox, effAlloc, entryRow, fieldOff, effField, loadI, load1, loadR, effLoad, storeI, storeB, storeR, szOk, storeTo, effStore, buildOf, effBuild, binInt, eqI, boolOf, binBool, effBin, effUn, effPick, effExtract, ivs, svs, rowOf, allParts, effBuildSlice, zeroRow, effMakeSlice, elemSz, idxA, idxS, effIndex, lenOf, readOf, subPre, maxRow, plainTI, appTo, effAppend, slcOf, effSlice, argOf, resA, resL, resV, outWr, nodupB, restOk, argsPre, argOk, callWr, effCall, effMax, wrHs, disj, AV.hs, A0.hs, Entry.hs, RC.elem, RC.sz, RC.len, RC.slice, RC.app, hA, initFr, initMem, initSt, resOf, resAll, compEq, compsEq, rowHs, outHds, outsEq, shapeOk, finOk, comps, A0.norm, AV.norm, specOf, t_int, t_bool, t_implForm, t_lawsForm, t_implMatrix, t_implCube, t_implunited, t_implSymbolStep, t_implentries, t_a8int, ts_int, ts_implForm, Option.getD_some, Option.getD_none, cond_true, cond_false, Nat.reduceBEq, List.map_cons, List.map_nil, List.set_cons_zero, List.set_cons_succ, List.getElem?_cons_zero, List.getElem?_cons_succ, List.drop_zero, List.drop_succ_cons, List.take_succ_cons, List.take_zero, Option.map_some, Option.map_none, Option.bind_some, Nat.zero_add, Nat.add_zero, Nat.reduceAdd, Nat.reduceMul, true_and, and_true, List.replicate_succ, List.replicate_zero, List.length_cons, List.length_nil, List.all_cons, List.all_nil, List.any_cons, List.any_nil, Bool.and_true, Bool.true_and, Bool.and_false, Bool.false_and, Bool.or_true, Bool.true_or, Bool.or_false, Bool.false_or, Bool.not_true, Bool.not_false, List.append_nil, List.nil_append, List.cons_append, List.flatMap_cons, List.flatMap_nil, List.contains_cons, List.contains_nil, List.filter_cons, List.filter_nil, beq_self_eq_true, Bool.not_eq_true, A0.b.injEq, A0.i.injEq, A0.s.injEq, A0.rw.injEq, A0.fn.injEq, List.cons.injEq, RC.ints.injEq, RC.recs.injEq, RC.bools.injEq, AV.one.injEq, AV.tup.injEq, ble_dec, blt_dec, Nat.reduceLeDiff, Nat.reduceSub, decide_true, decide_false, and_self, List.toList_toArray, Option.isSome_some, Option.isSome_none, List.elem_nil, List.elem_cons, ite_true, ite_false, Bool.false_eq_true, if_true, if_false, reduceIte, flatB_2, flatB_3, flatB_4, List.headD_cons, List.tail_cons, wsucc g (by omega), ht, cfF]
  · have e1 : decide ((q : Int) < ((psL k).length : Int)) = false := decide_eq_false (by omega)
    have hqe : q = (psL k).length := by omega
    simp only [↓cond_to_ite, ↓reduceIte, vc, out, step, stepE, stepPick, stepG, stepO, stepC, eff, look, rem, St.put, St.setMem, setMems, St.after, St.eval, cst, setAt, val1, okNew, newHs, allHs, rdOf, outHs, Reg.item, Reg.next, Reg.skip, slotOf, effBox, effAlloc, entryRow, fieldOff, effField, loadI, load1, loadR, effLoad, storeI, storeB, storeR, szOk, storeTo, effStore, buildOf, effBuild, binInt, eqI, boolOf, binBool, effBin, effUn, effPick, effExtract, ivs, svs, rowOf, allParts, effBuildSlice, zeroRow, effMakeSlice, elemSz, idxA, idxS, effIndex, lenOf, readOf, subPre, maxRow, plainTI, appTo, effAppend, slcOf, effSlice, argOf, resA, resL, resV, outWr, nodupB, restOk, argsPre, argOk, callWr, effCall, effMax, wrHs, disj, AV.hs, A0.hs, Entry.hs, RC.elem, RC.sz, RC.len, RC.slice, RC.app, hA, initFr, initMem, initSt, resOf, resAll, compEq, compsEq, rowHs, outHds, outsEq, shapeOk, finOk, comps, A0.norm, AV.norm, specOf, t_int, t_bool, t_implForm, t_lawsForm, t_implMatrix, t_implCube, t_implunited, t_implSymbolStep, t_implentries, t_a8int, ts_int, ts_implForm, Option.getD_some, Option.getD_none, cond_true, cond_false, Nat.reduceBEq, List.map_cons, List.map_nil, List.set_cons_zero, List.set_cons_succ, List.getElem?_cons_zero, List.getElem?_cons_succ, List.drop_zero, List.drop_succ_cons, List.take_succ_cons, List.take_zero, Option.map_some, Option.map_none, Option.bind_some, Nat.zero_add, Nat.add_zero, Nat.reduceAdd, Nat.reduceMul, true_and, and_true, List.replicate_succ, List.replicate_zero, List.length_cons, List.length_nil, List.all_cons, List.all_nil, List.any_cons, List.any_nil, Bool.and_true, Bool.true_and, Bool.and_false, Bool.false_and, Bool.or_true, Bool.true_or, Bool.or_false, Bool.false_or, Bool.not_true, Bool.not_false, List.append_nil, List.nil_append, List.cons_append, List.flatMap_cons, List.flatMap_nil, List.contains_cons, List.contains_nil, List.filter_cons, List.filter_nil, beq_self_eq_true, Bool.not_eq_true, A0.b.injEq, A0.i.injEq, A0.s.injEq, A0.rw.injEq, A0.fn.injEq, List.cons.injEq, RC.ints.injEq, RC.recs.injEq, RC.bools.injEq, AV.one.injEq, AV.tup.injEq, ble_dec, blt_dec, Nat.reduceLeDiff, Nat.reduceSub, decide_true, decide_false, and_self, List.toList_toArray, Option.isSome_some, Option.isSome_none, List.elem_nil, List.elem_cons, ite_true, ite_false, Bool.false_eq_true, if_true, if_false, reduceIte, flatB_2, flatB_3, flatB_4, List.headD_cons, List.tail_cons, e1]
    rw [hqe, List.take_length]
    rfl
def unI (d : Int) : Int := if d = -3 then 6 else if d = -4 then 4 else 2
abbrev fAutCountF : Nat := 80
def cAutCountF : Ctr
  | [.i d] => some ⟨negB d = true, .tup [.i (unI d), .b true], []⟩
  | _ => none
theorem okAutCountF : CtrOk Try.prog fAutCountF cAutCountF := by
  have hsp : SpecOk Try.prog (specOf [(fIsNeg, cIsNeg)]) := (SpecOk.cons okIsNeg SpecOk.nil)
  refine ctr_of (fn := Try.f80) mixed tab_ok hsp Try.func80 (by kernel_rfl) (by kernel_rfl) fun args ce h => ?_
  clear hsp
  unfold cAutCountF at h
  split at h
  case h_2 => cases h
  rename_i d
  simp only [Option.some.injEq] at h
  subst h
  refine ⟨by rfl, fun hp => ⟨0, 1000, ?_⟩⟩
  simp only [↓cond_to_ite, ↓reduceIte, vc, out, step, stepE, stepPick, stepG, stepO, stepC, eff, look, rem, St.put, St.setMem, setMems, St.after, St.eval, cst, setAt, val1, okNew, newHs, allHs, rdOf, outHs, Reg.item, Reg.next, Reg.skip, slotOf, effBox, effAlloc, entryRow, fieldOff, effField, loadI, load1, loadR, effLoad, storeI, storeB, storeR, szOk, storeTo, effStore, buildOf, effBuild, binInt, eqI, boolOf, binBool, effBin, effUn, effPick, effExtract, ivs, svs, rowOf, allParts, effBuildSlice, zeroRow, effMakeSlice, elemSz, idxA, idxS, effIndex, lenOf, readOf, subPre, maxRow, plainTI, appTo, effAppend, slcOf, effSlice, argOf, resA, resL, resV, outWr, nodupB, restOk, argsPre, argOk, callWr, effCall, effMax, wrHs, disj, AV.hs, A0.hs, Entry.hs, RC.elem, RC.sz, RC.len, RC.slice, RC.app, hA, initFr, initMem, initSt, resOf, resAll, compEq, compsEq, rowHs, outHds, outsEq, shapeOk, finOk, comps, A0.norm, AV.norm, specOf, t_int, t_bool, t_implForm, t_lawsForm, t_implMatrix, t_implCube, t_implunited, t_implSymbolStep, t_implentries, t_a8int, ts_int, ts_implForm, Option.getD_some, Option.getD_none, cond_true, cond_false, Nat.reduceBEq, List.map_cons, List.map_nil, List.set_cons_zero, List.set_cons_succ, List.getElem?_cons_zero, List.getElem?_cons_succ, List.drop_zero, List.drop_succ_cons, List.take_succ_cons, List.take_zero, Option.map_some, Option.map_none, Option.bind_some, Nat.zero_add, Nat.add_zero, Nat.reduceAdd, Nat.reduceMul, true_and, and_true, List.replicate_succ, List.replicate_zero, List.length_cons, List.length_nil, List.all_cons, List.all_nil, List.any_cons, List.any_nil, Bool.and_true, Bool.true_and, Bool.and_false, Bool.false_and, Bool.or_true, Bool.true_or, Bool.or_false, Bool.false_or, Bool.not_true, Bool.not_false, List.append_nil, List.nil_append, List.cons_append, List.flatMap_cons, List.flatMap_nil, List.contains_cons, List.contains_nil, List.filter_cons, List.filter_nil, beq_self_eq_true, Bool.not_eq_true, A0.b.injEq, A0.i.injEq, A0.s.injEq, A0.rw.injEq, A0.fn.injEq, List.cons.injEq, RC.ints.injEq, RC.recs.injEq, RC.bools.injEq, AV.one.injEq, AV.tup.injEq, ble_dec, blt_dec, Nat.reduceLeDiff, Nat.reduceSub, decide_true, decide_false, and_self, List.toList_toArray, Option.isSome_some, Option.isSome_none, List.elem_nil, List.elem_cons, ite_true, ite_false, Bool.false_eq_true, if_true, if_false, reduceIte, flatB_2, flatB_3, flatB_4, List.headD_cons, List.tail_cons, cIsNeg, fIsNeg, Try.f80]
  have hd : negB d = true := hp
  simp only [hd, Bool.not_true, Bool.false_eq_true, if_false, unI, beq_iff_eq]
  (repeat' split) <;> first | omega | exact ⟨by decide, by omega⟩
abbrev fAutCount : Nat := 39
def cAutCount : Ctr
  | [.i d] => some ⟨negB d = true, .one (.i (unI d)), []⟩
  | _ => none
theorem okAutCount : CtrOk Try.prog fAutCount cAutCount := by
  have hsp : SpecOk Try.prog (specOf [(fAutCountF, cAutCountF)]) := (SpecOk.cons okAutCountF SpecOk.nil)
  refine ctr_of (fn := Try.f39) mixed tab_ok hsp Try.func39 (by kernel_rfl) (by kernel_rfl) fun args ce h => ?_
  clear hsp
  unfold cAutCount at h
  split at h
  case h_2 => cases h
  rename_i d
  simp only [Option.some.injEq] at h
  subst h
  refine ⟨by rfl, fun hp => ⟨0, 1000, ?_⟩⟩
  simp only [↓cond_to_ite, ↓reduceIte, vc, out, step, stepE, stepPick, stepG, stepO, stepC, eff, look, rem, St.put, St.setMem, setMems, St.after, St.eval, cst, setAt, val1, okNew, newHs, allHs, rdOf, outHs, Reg.item, Reg.next, Reg.skip, slotOf, effBox, effAlloc, entryRow, fieldOff, effField, loadI, load1, loadR, effLoad, storeI, storeB, storeR, szOk, storeTo, effStore, buildOf, effBuild, binInt, eqI, boolOf, binBool, effBin, effUn, effPick, effExtract, ivs, svs, rowOf, allParts, effBuildSlice, zeroRow, effMakeSlice, elemSz, idxA, idxS, effIndex, lenOf, readOf, subPre, maxRow, plainTI, appTo, effAppend, slcOf, effSlice, argOf, resA, resL, resV, outWr, nodupB, restOk, argsPre, argOk, callWr, effCall, effMax, wrHs, disj, AV.hs, A0.hs, Entry.hs, RC.elem, RC.sz, RC.len, RC.slice, RC.app, hA, initFr, initMem, initSt, resOf, resAll, compEq, compsEq, rowHs, outHds, outsEq, shapeOk, finOk, comps, A0.norm, AV.norm, specOf, t_int, t_bool, t_implForm, t_lawsForm, t_implMatrix, t_implCube, t_implunited, t_implSymbolStep, t_implentries, t_a8int, ts_int, ts_implForm, Option.getD_some, Option.getD_none, cond_true, cond_false, Nat.reduceBEq, List.map_cons, List.map_nil, List.set_cons_zero, List.set_cons_succ, List.getElem?_cons_zero, List.getElem?_cons_succ, List.drop_zero, List.drop_succ_cons, List.take_succ_cons, List.take_zero, Option.map_some, Option.map_none, Option.bind_some, Nat.zero_add, Nat.add_zero, Nat.reduceAdd, Nat.reduceMul, true_and, and_true, List.replicate_succ, List.replicate_zero, List.length_cons, List.length_nil, List.all_cons, List.all_nil, List.any_cons, List.any_nil, Bool.and_true, Bool.true_and, Bool.and_false, Bool.false_and, Bool.or_true, Bool.true_or, Bool.or_false, Bool.false_or, Bool.not_true, Bool.not_false, List.append_nil, List.nil_append, List.cons_append, List.flatMap_cons, List.flatMap_nil, List.contains_cons, List.contains_nil, List.filter_cons, List.filter_nil, beq_self_eq_true, Bool.not_eq_true, A0.b.injEq, A0.i.injEq, A0.s.injEq, A0.rw.injEq, A0.fn.injEq, List.cons.injEq, RC.ints.injEq, RC.recs.injEq, RC.bools.injEq, AV.one.injEq, AV.tup.injEq, ble_dec, blt_dec, Nat.reduceLeDiff, Nat.reduceSub, decide_true, decide_false, and_self, List.toList_toArray, Option.isSome_some, Option.isSome_none, List.elem_nil, List.elem_cons, ite_true, ite_false, Bool.false_eq_true, if_true, if_false, reduceIte, flatB_2, flatB_3, flatB_4, List.headD_cons, List.tail_cons, cAutCountF, fAutCountF, Try.f39]
  exact hp
abbrev fReUnits : Nat := 34
def cReUnits : Ctr
  | [.i d] => some ⟨True, .one (.i (unI d)), []⟩
  | _ => none
theorem okReUnits : CtrOk Try.prog fReUnits cReUnits := by
  have hsp : SpecOk Try.prog (specOf []) := SpecOk.nil
  refine ctr_of (fn := Try.f34) mixed tab_ok hsp Try.func34 (by kernel_rfl) (by kernel_rfl) fun args ce h => ?_
  clear hsp
  unfold cReUnits at h
  split at h
  case h_2 => cases h
  rename_i d
  simp only [Option.some.injEq] at h
  subst h
  refine ⟨by rfl, fun hp => ⟨0, 1000, ?_⟩⟩
  simp only [↓cond_to_ite, ↓reduceIte, vc, out, step, stepE, stepPick, stepG, stepO, stepC, eff, look, rem, St.put, St.setMem, setMems, St.after, St.eval, cst, setAt, val1, okNew, newHs, allHs, rdOf, outHs, Reg.item, Reg.next, Reg.skip, slotOf, effBox, effAlloc, entryRow, fieldOff, effField, loadI, load1, loadR, effLoad, storeI, storeB, storeR, szOk, storeTo, effStore, buildOf, effBuild, binInt, eqI, boolOf, binBool, effBin, effUn, effPick, effExtract, ivs, svs, rowOf, allParts, effBuildSlice, zeroRow, effMakeSlice, elemSz, idxA, idxS, effIndex, lenOf, readOf, subPre, maxRow, plainTI, appTo, effAppend, slcOf, effSlice, argOf, resA, resL, resV, outWr, nodupB, restOk, argsPre, argOk, callWr, effCall, effMax, wrHs, disj, AV.hs, A0.hs, Entry.hs, RC.elem, RC.sz, RC.len, RC.slice, RC.app, hA, initFr, initMem, initSt, resOf, resAll, compEq, compsEq, rowHs, outHds, outsEq, shapeOk, finOk, comps, A0.norm, AV.norm, specOf, t_int, t_bool, t_implForm, t_lawsForm, t_implMatrix, t_implCube, t_implunited, t_implSymbolStep, t_implentries, t_a8int, ts_int, ts_implForm, Option.getD_some, Option.getD_none, cond_true, cond_false, Nat.reduceBEq, List.map_cons, List.map_nil, List.set_cons_zero, List.set_cons_succ, List.getElem?_cons_zero, List.getElem?_cons_succ, List.drop_zero, List.drop_succ_cons, List.take_succ_cons, List.take_zero, Option.map_some, Option.map_none, Option.bind_some, Nat.zero_add, Nat.add_zero, Nat.reduceAdd, Nat.reduceMul, true_and, and_true, List.replicate_succ, List.replicate_zero, List.length_cons, List.length_nil, List.all_cons, List.all_nil, List.any_cons, List.any_nil, Bool.and_true, Bool.true_and, Bool.and_false, Bool.false_and, Bool.or_true, Bool.true_or, Bool.or_false, Bool.false_or, Bool.not_true, Bool.not_false, List.append_nil, List.nil_append, List.cons_append, List.flatMap_cons, List.flatMap_nil, List.contains_cons, List.contains_nil, List.filter_cons, List.filter_nil, beq_self_eq_true, Bool.not_eq_true, A0.b.injEq, A0.i.injEq, A0.s.injEq, A0.rw.injEq, A0.fn.injEq, List.cons.injEq, RC.ints.injEq, RC.recs.injEq, RC.bools.injEq, AV.one.injEq, AV.tup.injEq, ble_dec, blt_dec, Nat.reduceLeDiff, Nat.reduceSub, decide_true, decide_false, and_self, List.toList_toArray, Option.isSome_some, Option.isSome_none, List.elem_nil, List.elem_cons, ite_true, ite_false, Bool.false_eq_true, if_true, if_false, reduceIte, flatB_2, flatB_3, flatB_4, List.headD_cons, List.tail_cons, Try.f34]
  simp only [unI, beq_iff_eq]
  (repeat' split) <;> omega
def cnH (d : Int) : Int := (((redF (fuE d)).length : Nat) : Int) * cfI (fuE d) (fuK d)
def cnV (d : Int) : Int := cnH d * unI d / unI (fuE d)
theorem cn_nums {d : Int} (h : negB d = true) : wrap64 ((((redF (fuE d)).length : Nat) : Int) * cfI (fuE d) (fuK d)) = cnH d ∧ wrap64 ((wrap64 (cnH d * unI d)).tdiv (unI (fuE d))) = cnV d ∧ wrap64 ((cnH d).tdiv (wrap64 ((unI (fuE d)).tdiv (unI d)))) = cnV d ∧ unI (fuE d) ≠ 0 ∧ unI d ≠ 0 ∧ wrap64 ((unI (fuE d)).tdiv (unI d)) ≠ 0 := by
  have hf := fu_neg h
  have hi := negB_in h
  have h1 := hf.e1
  have h2 := hf.e2
  have hc := cf_bd (e := fuE d) hf.k1 hf.k2
  have hl := redF_len (d := fuE d) (by omega)
  have hp := hf.pr
  have hk := hf.k1
  have hb := mul_bd (a := (((redF (fuE d)).length : Nat) : Int)) (b := cfI (fuE d) (fuK d)) (j := 1300) (k := 2000) (by omega) (by omega) ⟨by omega, by omega⟩ ⟨by omega, by omega⟩
  have hnn : 0 ≤ cnH d := Int.mul_nonneg (by omega) hc.1
  have e0 : cnH d = (((redF (fuE d)).length : Nat) : Int) * cfI (fuE d) (fuK d) := rfl
  have hkk : 1 ≤ fuK d * fuK d := by
    have : 1 * 1 ≤ fuK d * fuK d := Int.mul_le_mul hk hk (by omega) (by omega)
    omega
  have hge : fuK d * fuK d * fuE d ≤ 1 * fuE d := Int.mul_le_mul_of_nonpos_right hkk (by omega)
  have h4 : d = -3 → fuE d = -3 := fun g => by omega
  have h5 : d = -4 → fuE d = -4 := fun g => by
    have h6 : fuE d = -3 ∨ fuE d = -4 := by omega
    rcases h6 with h6 | h6
    · exfalso
      rw [h6] at hp
      omega
    · exact h6
  refine ⟨by rw [e0]; exact wrap_id (by omega) (by omega), ?_⟩
  unfold cnV
  generalize cnH d = H at *
  have cases3 : (unI d = unI (fuE d) ∧ (unI d = 2 ∨ unI d = 4 ∨ unI d = 6)) ∨ (unI d = 2 ∧ (unI (fuE d) = 4 ∨ unI (fuE d) = 6)) := by
    unfold unI
    by_cases g3 : d = -3
    · rw [if_pos g3, if_pos (h4 g3)]; omega
    · rw [if_neg g3]
      by_cases g4 : d = -4
      · have := h5 g4
        rw [if_pos g4, if_neg (by omega), if_pos this]; omega
      · rw [if_neg g4]
        by_cases g5 : fuE d = -3
        · rw [if_pos g5]; omega
        · rw [if_neg g5]
          by_cases g6 : fuE d = -4
          · rw [if_pos g6]; omega
          · rw [if_neg g6]; omega
  generalize unI d = u at *
  generalize unI (fuE d) = v at *
  have u22 : wrap64 (Int.tdiv 2 2) = 1 := by rw [show Int.tdiv 2 2 = (1 : Int) from rfl, wrap_id (by omega) (by omega)]
  have u44 : wrap64 (Int.tdiv 4 4) = 1 := by rw [show Int.tdiv 4 4 = (1 : Int) from rfl, wrap_id (by omega) (by omega)]
  have u66 : wrap64 (Int.tdiv 6 6) = 1 := by rw [show Int.tdiv 6 6 = (1 : Int) from rfl, wrap_id (by omega) (by omega)]
  have u42 : wrap64 (Int.tdiv 4 2) = 2 := by rw [show Int.tdiv 4 2 = (2 : Int) from rfl, wrap_id (by omega) (by omega)]
  have u62 : wrap64 (Int.tdiv 6 2) = 3 := by rw [show Int.tdiv 6 2 = (3 : Int) from rfl, wrap_id (by omega) (by omega)]
  have hu : u = 2 ∨ u = 4 ∨ u = 6 := by omega
  have hv : v = 2 ∨ v = 4 ∨ v = 6 := by omega
  rcases cases3 with ⟨rfl, hu | hu | hu⟩ | ⟨rfl, hv | hv⟩
  all_goals first | subst hu | subst hv
  all_goals rw [wrap_id (n := H * _) (by omega) (by omega), tdiv_nn (a := H * _) (by omega), tdiv_nn (a := (_ : Int)) (b := (_ : Int)) (by omega)]
  all_goals first | rw [u22] | rw [u44] | rw [u66] | rw [u42] | rw [u62]
  all_goals refine ⟨wrap_id (by omega) (by omega), ?_, by decide, by decide, by decide⟩
  all_goals rw [wrap_id (by omega) (by omega)]
  all_goals omega
abbrev fCnCond : Nat := 13
def cCnCond : Ctr
  | [.i d] => some ⟨True, .tup [.i (onB (negB d) (cnV d)), .b (negB d)], []⟩
  | _ => none
theorem okCnCond : CtrOk Try.prog fCnCond cCnCond := by
  have hsp : SpecOk Try.prog (specOf [(fIsNeg, cIsNeg), (fFundamental, cFundamental), (fRedForms, cRedForms), (fCondFactor, cCondFactor), (fAutCount, cAutCount)]) := (SpecOk.cons okIsNeg (SpecOk.cons okFundamental (SpecOk.cons okRedForms (SpecOk.cons okCondFactor (SpecOk.cons okAutCount SpecOk.nil)))))
  refine ctr_of (fn := Try.f13) mixed tab_ok hsp Try.func13 (by kernel_rfl) (by kernel_rfl) fun args ce h => ?_
  clear hsp
  unfold cCnCond at h
  split at h
  case h_2 => cases h
  rename_i d
  simp only [Option.some.injEq] at h
  subst h
  refine ⟨by rfl, fun hp => ⟨0, 1000, ?_⟩⟩
  simp only [↓cond_to_ite, ↓reduceIte, vc, out, step, stepE, stepPick, stepG, stepO, stepC, eff, look, rem, St.put, St.setMem, setMems, St.after, St.eval, cst, setAt, val1, okNew, newHs, allHs, rdOf, outHs, Reg.item, Reg.next, Reg.skip, slotOf, effBox, effAlloc, entryRow, fieldOff, effField, loadI, load1, loadR, effLoad, storeI, storeB, storeR, szOk, storeTo, effStore, buildOf, effBuild, binInt, eqI, boolOf, binBool, effBin, effUn, effPick, effExtract, ivs, svs, rowOf, allParts, effBuildSlice, zeroRow, effMakeSlice, elemSz, idxA, idxS, effIndex, lenOf, readOf, subPre, maxRow, plainTI, appTo, effAppend, slcOf, effSlice, argOf, resA, resL, resV, outWr, nodupB, restOk, argsPre, argOk, callWr, effCall, effMax, wrHs, disj, AV.hs, A0.hs, Entry.hs, RC.elem, RC.sz, RC.len, RC.slice, RC.app, hA, initFr, initMem, initSt, resOf, resAll, compEq, compsEq, rowHs, outHds, outsEq, shapeOk, finOk, comps, A0.norm, AV.norm, specOf, t_int, t_bool, t_implForm, t_lawsForm, t_implMatrix, t_implCube, t_implunited, t_implSymbolStep, t_implentries, t_a8int, ts_int, ts_implForm, Option.getD_some, Option.getD_none, cond_true, cond_false, Nat.reduceBEq, List.map_cons, List.map_nil, List.set_cons_zero, List.set_cons_succ, List.getElem?_cons_zero, List.getElem?_cons_succ, List.drop_zero, List.drop_succ_cons, List.take_succ_cons, List.take_zero, Option.map_some, Option.map_none, Option.bind_some, Nat.zero_add, Nat.add_zero, Nat.reduceAdd, Nat.reduceMul, true_and, and_true, List.replicate_succ, List.replicate_zero, List.length_cons, List.length_nil, List.all_cons, List.all_nil, List.any_cons, List.any_nil, Bool.and_true, Bool.true_and, Bool.and_false, Bool.false_and, Bool.or_true, Bool.true_or, Bool.or_false, Bool.false_or, Bool.not_true, Bool.not_false, List.append_nil, List.nil_append, List.cons_append, List.flatMap_cons, List.flatMap_nil, List.contains_cons, List.contains_nil, List.filter_cons, List.filter_nil, beq_self_eq_true, Bool.not_eq_true, A0.b.injEq, A0.i.injEq, A0.s.injEq, A0.rw.injEq, A0.fn.injEq, List.cons.injEq, RC.ints.injEq, RC.recs.injEq, RC.bools.injEq, AV.one.injEq, AV.tup.injEq, ble_dec, blt_dec, Nat.reduceLeDiff, Nat.reduceSub, decide_true, decide_false, and_self, List.toList_toArray, Option.isSome_some, Option.isSome_none, List.elem_nil, List.elem_cons, ite_true, ite_false, Bool.false_eq_true, if_true, if_false, reduceIte, flatB_2, flatB_3, flatB_4, List.headD_cons, List.tail_cons, cIsNeg, fIsNeg, cFundamental, fFundamental, cRedForms, fRedForms, cCondFactor, fCondFactor, cAutCount, fAutCount, Try.f13]
  cases hb : negB d with
  | false => exact ite_prop (fun _ => ⟨by decide, rfl, rfl⟩) fun g => absurd rfl g
  | true =>
    refine ite_prop (fun g => absurd g (by decide)) fun _ => ?_
    have hi := negB_in hb
    have hf := fu_neg hb
    have h1 := hf.e1
    have h2 := hf.e2
    have hk1 := hf.k1
    have hk2 : fuK d ≤ 1000000000 := by
      have h3 := hf.k2
      have : fuK d * 1 ≤ fuK d * fuK d := Int.mul_le_mul_of_nonneg_left hk1 (by omega)
      omega
    obtain ⟨n1, n2, n3, n4, n5, n6⟩ := cn_nums hb
    rw [fl_length, n1]
    rw [n2]
    exact ⟨⟨by omega, by omega⟩, ⟨by omega, by omega⟩, ⟨⟨hk1, hk2⟩, by omega, by omega⟩, rfl, fu_negB hb, n4, by decide, rfl, rfl⟩
abbrev fSCnCond : Nat := 12
def cSCnCond : Ctr
  | [.i d] => some ⟨True, .tup [.i (onB (negB d) (cnV d)), .b (negB d)], []⟩
  | _ => none
theorem okSCnCond : CtrOk Try.prog fSCnCond cSCnCond := by
  have hsp : SpecOk Try.prog (specOf [(fReDisc, cReDisc), (fDiSplit, cDiSplit), (fReList, cReList), (fDiFactor, cDiFactor), (fReUnits, cReUnits)]) := (SpecOk.cons okReDisc (SpecOk.cons okDiSplit (SpecOk.cons okReList (SpecOk.cons okDiFactor (SpecOk.cons okReUnits SpecOk.nil)))))
  refine ctr_of (fn := Try.f12) mixed tab_ok hsp Try.func12 (by kernel_rfl) (by kernel_rfl) fun args ce h => ?_
  clear hsp
  unfold cSCnCond at h
  split at h
  case h_2 => cases h
  rename_i d
  simp only [Option.some.injEq] at h
  subst h
  refine ⟨by rfl, fun hp => ⟨0, 1000, ?_⟩⟩
  simp only [↓cond_to_ite, ↓reduceIte, vc, out, step, stepE, stepPick, stepG, stepO, stepC, eff, look, rem, St.put, St.setMem, setMems, St.after, St.eval, cst, setAt, val1, okNew, newHs, allHs, rdOf, outHs, Reg.item, Reg.next, Reg.skip, slotOf, effBox, effAlloc, entryRow, fieldOff, effField, loadI, load1, loadR, effLoad, storeI, storeB, storeR, szOk, storeTo, effStore, buildOf, effBuild, binInt, eqI, boolOf, binBool, effBin, effUn, effPick, effExtract, ivs, svs, rowOf, allParts, effBuildSlice, zeroRow, effMakeSlice, elemSz, idxA, idxS, effIndex, lenOf, readOf, subPre, maxRow, plainTI, appTo, effAppend, slcOf, effSlice, argOf, resA, resL, resV, outWr, nodupB, restOk, argsPre, argOk, callWr, effCall, effMax, wrHs, disj, AV.hs, A0.hs, Entry.hs, RC.elem, RC.sz, RC.len, RC.slice, RC.app, hA, initFr, initMem, initSt, resOf, resAll, compEq, compsEq, rowHs, outHds, outsEq, shapeOk, finOk, comps, A0.norm, AV.norm, specOf, t_int, t_bool, t_implForm, t_lawsForm, t_implMatrix, t_implCube, t_implunited, t_implSymbolStep, t_implentries, t_a8int, ts_int, ts_implForm, Option.getD_some, Option.getD_none, cond_true, cond_false, Nat.reduceBEq, List.map_cons, List.map_nil, List.set_cons_zero, List.set_cons_succ, List.getElem?_cons_zero, List.getElem?_cons_succ, List.drop_zero, List.drop_succ_cons, List.take_succ_cons, List.take_zero, Option.map_some, Option.map_none, Option.bind_some, Nat.zero_add, Nat.add_zero, Nat.reduceAdd, Nat.reduceMul, true_and, and_true, List.replicate_succ, List.replicate_zero, List.length_cons, List.length_nil, List.all_cons, List.all_nil, List.any_cons, List.any_nil, Bool.and_true, Bool.true_and, Bool.and_false, Bool.false_and, Bool.or_true, Bool.true_or, Bool.or_false, Bool.false_or, Bool.not_true, Bool.not_false, List.append_nil, List.nil_append, List.cons_append, List.flatMap_cons, List.flatMap_nil, List.contains_cons, List.contains_nil, List.filter_cons, List.filter_nil, beq_self_eq_true, Bool.not_eq_true, A0.b.injEq, A0.i.injEq, A0.s.injEq, A0.rw.injEq, A0.fn.injEq, List.cons.injEq, RC.ints.injEq, RC.recs.injEq, RC.bools.injEq, AV.one.injEq, AV.tup.injEq, ble_dec, blt_dec, Nat.reduceLeDiff, Nat.reduceSub, decide_true, decide_false, and_self, List.toList_toArray, Option.isSome_some, Option.isSome_none, List.elem_nil, List.elem_cons, ite_true, ite_false, Bool.false_eq_true, if_true, if_false, reduceIte, flatB_2, flatB_3, flatB_4, List.headD_cons, List.tail_cons, cReDisc, fReDisc, cDiSplit, fDiSplit, cReList, fReList, cDiFactor, fDiFactor, cReUnits, fReUnits, Try.f12]
  cases hb : negB d with
  | false => exact ite_prop (fun _ => ⟨by decide, rfl, rfl⟩) fun g => absurd rfl g
  | true =>
    refine ite_prop (fun g => absurd g (by decide)) fun _ => ?_
    have hi := negB_in hb
    have hf := fu_neg hb
    have h1 := hf.e1
    have h2 := hf.e2
    have hk1 := hf.k1
    have hk2 : fuK d ≤ 1000000000 := by
      have h3 := hf.k2
      have : fuK d * 1 ≤ fuK d * fuK d := Int.mul_le_mul_of_nonneg_left hk1 (by omega)
      omega
    obtain ⟨n1, n2, n3, n4, n5, n6⟩ := cn_nums hb
    rw [fl_length, n1]
    rw [n3]
    exact ⟨⟨by omega, by omega⟩, ⟨by omega, by omega⟩, rfl, n5, n6, by decide, rfl, rfl⟩
abbrev fLawCnCond : Nat := 5
def cLawCnCond : Ctr
  | [.i d] => some ⟨True, .one (.b true), []⟩
  | _ => none
theorem okLawCnCond : CtrOk Try.prog fLawCnCond cLawCnCond := by
  have hsp : SpecOk Try.prog (specOf [(fSCnCond, cSCnCond), (fCnCond, cCnCond)]) := (SpecOk.cons okSCnCond (SpecOk.cons okCnCond SpecOk.nil))
  refine ctr_of (fn := Try.f5) mixed tab_ok hsp Try.func5 (by kernel_rfl) (by kernel_rfl) fun args ce h => ?_
  clear hsp
  unfold cLawCnCond at h
  split at h
  case h_2 => cases h
  rename_i d
  simp only [Option.some.injEq] at h
  subst h
  refine ⟨by rfl, fun hp => ⟨0, 1000, ?_⟩⟩
  simp only [↓cond_to_ite, ↓reduceIte, vc, out, step, stepE, stepPick, stepG, stepO, stepC, eff, look, rem, St.put, St.setMem, setMems, St.after, St.eval, cst, setAt, val1, okNew, newHs, allHs, rdOf, outHs, Reg.item, Reg.next, Reg.skip, slotOf, effBox, effAlloc, entryRow, fieldOff, effField, loadI, load1, loadR, effLoad, storeI, storeB, storeR, szOk, storeTo, effStore, buildOf, effBuild, binInt, eqI, boolOf, binBool, effBin, effUn, effPick, effExtract, ivs, svs, rowOf, allParts, effBuildSlice, zeroRow, effMakeSlice, elemSz, idxA, idxS, effIndex, lenOf, readOf, subPre, maxRow, plainTI, appTo, effAppend, slcOf, effSlice, argOf, resA, resL, resV, outWr, nodupB, restOk, argsPre, argOk, callWr, effCall, effMax, wrHs, disj, AV.hs, A0.hs, Entry.hs, RC.elem, RC.sz, RC.len, RC.slice, RC.app, hA, initFr, initMem, initSt, resOf, resAll, compEq, compsEq, rowHs, outHds, outsEq, shapeOk, finOk, comps, A0.norm, AV.norm, specOf, t_int, t_bool, t_implForm, t_lawsForm, t_implMatrix, t_implCube, t_implunited, t_implSymbolStep, t_implentries, t_a8int, ts_int, ts_implForm, Option.getD_some, Option.getD_none, cond_true, cond_false, Nat.reduceBEq, List.map_cons, List.map_nil, List.set_cons_zero, List.set_cons_succ, List.getElem?_cons_zero, List.getElem?_cons_succ, List.drop_zero, List.drop_succ_cons, List.take_succ_cons, List.take_zero, Option.map_some, Option.map_none, Option.bind_some, Nat.zero_add, Nat.add_zero, Nat.reduceAdd, Nat.reduceMul, true_and, and_true, List.replicate_succ, List.replicate_zero, List.length_cons, List.length_nil, List.all_cons, List.all_nil, List.any_cons, List.any_nil, Bool.and_true, Bool.true_and, Bool.and_false, Bool.false_and, Bool.or_true, Bool.true_or, Bool.or_false, Bool.false_or, Bool.not_true, Bool.not_false, List.append_nil, List.nil_append, List.cons_append, List.flatMap_cons, List.flatMap_nil, List.contains_cons, List.contains_nil, List.filter_cons, List.filter_nil, beq_self_eq_true, Bool.not_eq_true, A0.b.injEq, A0.i.injEq, A0.s.injEq, A0.rw.injEq, A0.fn.injEq, List.cons.injEq, RC.ints.injEq, RC.recs.injEq, RC.bools.injEq, AV.one.injEq, AV.tup.injEq, ble_dec, blt_dec, Nat.reduceLeDiff, Nat.reduceSub, decide_true, decide_false, and_self, List.toList_toArray, Option.isSome_some, Option.isSome_none, List.elem_nil, List.elem_cons, ite_true, ite_false, Bool.false_eq_true, if_true, if_false, reduceIte, flatB_2, flatB_3, flatB_4, List.headD_cons, List.tail_cons, cSCnCond, fSCnCond, cCnCond, fCnCond, Try.f5]
  exact ite_prop (fun g => by simp at g) fun _ => ite_prop (fun g => by simp at g) fun _ => trivial
end Go.Proofs.Ythjmjacniemfiaa
