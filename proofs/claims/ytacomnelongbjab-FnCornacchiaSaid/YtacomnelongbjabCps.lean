/-
  The contract of CornacchiaSteps, and where its remainders end. Conditions: none.
-/
import Derived.Test.YtacomnelongbjabCpl
namespace Go.Proofs.Ytacomnelongbjab
open Go Go.RowKit
set_option maxRecDepth 100000
set_option linter.unusedSimpArgs false
set_option linter.unusedVariables false
set_option maxHeartbeats 4000000

/-- the first root of -n from r on -/
def rtS (n p r : Int) : Option Int := if _h : r < p then (if (r * r + n).tmod p = 0 then some r else rtS n p (r + 1)) else none
  termination_by (p - r).toNat
def scC (n p : Int) : Bool := facB n && (shPrimeB p && (!(p == 2) && !(n.tmod p == 0)))
def scR (n p : Int) : Option Int := bif scC n p then rtS n p (p / 2 + 1) else none
def scL (n p : Int) : List Int := ((scR n p).map fun r => p :: euL p p r).getD []
def scB (n p : Int) : Bool := (scR n p).isSome
theorem sc_no {n p : Int} (h : scR n p = none) : scL n p = [] ∧ scB n p = false := by
  unfold scL scB
  rw [h]
  exact ⟨rfl, rfl⟩
theorem sc_yes {n p r : Int} (h : scR n p = some r) : scL n p = p :: euL p p r ∧ scB n p = true := by
  unfold scL scB
  rw [h]
  exact ⟨rfl, rfl⟩
theorem euL_len (p a b : Int) : (euL p a b).length ≤ b.toNat + 1 := by
  fun_induction euL p a b with
  | case1 a b h ih =>
    have := Int.emod_lt_of_pos a h.1
    rw [List.length_cons]
    omega
  | case2 a b h => simp
theorem rtS_some {n p : Int} (r : Int) {s : Int} (h : rtS n p r = some s) : r ≤ s ∧ s < p ∧ (s * s + n).tmod p = 0 := by
  fun_induction rtS n p r with
  | case1 r g hm => cases h; exact ⟨Int.le_refl _, g, hm⟩
  | case2 r g hm ih =>
    obtain ⟨h1, h2⟩ := ih h
    exact ⟨by omega, h2⟩
  | case3 r g => cases h
theorem rtS_none {n p : Int} (r : Int) (h : rtS n p r = none) {s : Int} (h1 : r ≤ s) (h2 : s < p) : (s * s + n).tmod p ≠ 0 := by
  fun_induction rtS n p r with
  | case1 r g hm => cases h
  | case2 r g hm ih =>
    by_cases c : s = r
    · rw [c]; exact hm
    · exact ih h (by omega)
  | case3 r g => omega
/-- the remainders end with x -/
theorem sc_law {n p : Int} (h : coB n p = true) (h2 : p > 2) (h3 : n.tmod p ≠ 0) : scB n p = true ∧ 2 ≤ (scL n p).length ∧ (scL n p).getD ((scL n p).length - 1) 0 = coX n p := by
  obtain ⟨⟨x, y⟩, hR⟩ : ∃ q, coR n p = some q := by
    unfold coB at h
    exact Option.isSome_iff_exists.1 h
  obtain ⟨eX, -, -⟩ := co_yes hR
  have hc : cB n p = true := by
    cases hc : cB n p with
    | true => rfl
    | false => unfold coR at hR; rw [hc] at hR; cases hR
  have hcr : crL n p 0 = some (x, y) := by unfold coR at hR; rw [hc] at hR; exact hR
  have hc2 := hc
  unfold cB at hc2
  rw [Bool.and_eq_true] at hc2
  have hn := facB_in hc2.1
  have hp := shPrime_in hc2.2
  have hpr : primeI p = true := by
    have := hc2.2
    unfold shPrimeB at this
    rw [Bool.and_eq_true] at this
    exact this.2
  obtain ⟨q, rfl, hq⟩ := prime_isP hpr
  obtain ⟨x0, y0, e, hl⟩ := crL_some (by omega) 0 hcr
  have hnd : ¬ (q : Int) ∣ n := fun g => h3 (by rw [Int.tmod_eq_zero_of_dvd g])
  have R : Rep n x y q := ⟨hq, e, hn.1, x0, y0, hnd⟩
  have hxy : n = 1 → y < x := fun hn1 => by
    refine Int.not_le.1 fun g => ?_
    rw [hn1, Int.one_mul] at e
    by_cases c : x = y
    · rw [c] at e
      have hd : 2 ∣ q := Int.ofNat_dvd.1 ⟨y * y, by show (q : Int) = 2 * (y * y); omega⟩
      rcases hq.2 2 hd with g | g <;> omega
    · have := hl x x0 (by omega)
      rw [hn1, Int.one_mul] at this
      have hs := (sqB_iff (n := (q : Int) - x * x) (by have := sq_nn x; omega)).2 ⟨y, by omega⟩
      rw [hs] at this
      cases this
  obtain ⟨r0, hr1, hr2, hr3⟩ := R.root (by omega)
  have hst : scC n q = true := by
    unfold scC
    rw [hc2.1, hc2.2]
    have g1 : ((q : Int) == 2) = false := beq_eq_false_iff_ne.2 (by omega)
    have g2 : (n.tmod q == 0) = false := beq_eq_false_iff_ne.2 h3
    rw [g1, g2]; rfl
  obtain ⟨r, hr⟩ : ∃ r, rtS n q (q / 2 + 1) = some r := by
    cases hr : rtS n q (q / 2 + 1) with
    | some r => exact ⟨r, rfl⟩
    | none => exact absurd (Int.tmod_eq_zero_of_dvd hr3) (rtS_none _ hr hr1 hr2)
  obtain ⟨s1, s2⟩ := sc_yes (n := n) (p := q) (r := r) (by unfold scR; rw [hst]; exact hr)
  obtain ⟨t1, t2, t3⟩ := rtS_some _ hr
  have hlast := eu_last R (Int.dvd_of_tmod_eq_zero t3) hxy _ q r 0 1 1 (Nat.le_refl _) (Eu.start (by omega) t2 hq.1)
  rw [s1, s2, eX]
  have hne := euL_ne q q r
  refine ⟨rfl, ?_, ?_⟩
  · have : (euL q q r).length ≠ 0 := fun g => hne (List.length_eq_zero_iff.1 g)
    rw [List.length_cons]
    omega
  · rw [← hlast, ← List.getLast_cons hne (a := (q : Int)), List.getLast_eq_getElem, List.getD_eq_getElem?_getD, List.getElem?_eq_getElem (by simp)]
    rfl
abbrev fSteps : Nat := 8
def cSteps : Ctr
  | [.i n, .i p] => some ⟨True, .tup [.rw (.ints 3 (scL n p)), .b (scB n p)], []⟩
  | _ => none
theorem okSteps : CtrOk Try.prog fSteps cSteps := by
  have hsp : SpecOk Try.prog (specOf [(fIsFactor, cIsFactor), (fIsShPrime, cIsShPrime)]) := (SpecOk.cons okIsFactor (SpecOk.cons okIsShPrime SpecOk.nil))
  refine ctr_of (fn := Try.f8) mixed tab_ok hsp Try.func8 (by kernel_rfl) (by kernel_rfl) fun args ce h => ?_
  clear hsp
  unfold cSteps at h
  split at h
  case h_2 => cases h
  rename_i n p
  simp only [Option.some.injEq] at h
  subst h
  refine ⟨by rfl, fun hp => ⟨2, 1000, ?_⟩⟩
  cases h1 : facB n with
  | false =>
    obtain ⟨e1, e2⟩ := sc_no (n := n) (p := p) (by unfold scR scC; rw [h1]; rfl)
    rw [e1, e2]
    simp only [↓cond_to_ite, ↓reduceIte, vc, out, finD, St.drop, vwAt, Entry.vwO, RC.vwO, Entry.toO, toOf, St.res, step, stepE, stepPick, stepG, stepO, stepC, eff, look, rem, St.put, St.setMem, setMems, St.after, St.eval, cst, val1, okNew, newHs, allHs, rdOf, Reg.item, Reg.next, Reg.skip, slotOf, effUn, effPick, ivs, rowOf, allParts, effBuildSlice, subPre, argOf, resA, resV, nodupB, argsPre, argOk, callWr, effCall, RC.flat, effBuildSl, callGo, effCall2, wrHs, disj, AV.hs, A0.hs, Entry.hs, RC.sz, hA, initFr, initMem, initSt, resOf, resAll, compEq, compsEq, rowHs, outHds, outsEq, shapeOk, finOk, comps, A0.norm, specOf, t_int, ts_int, Option.getD_some, Nat.reduceBEq, List.map_cons, List.map_nil, List.getElem?_cons_zero, List.getElem?_cons_succ, Option.map_some, Option.bind_some, Nat.zero_add, Nat.reduceAdd, true_and, and_true, List.length_cons, List.length_nil, List.all_cons, List.all_nil, Bool.and_true, Bool.true_and, Bool.not_false, List.append_nil, List.flatMap_cons, List.flatMap_nil, List.contains_nil, List.filter_cons, List.filter_nil, beq_self_eq_true, ble_dec, Nat.reduceLeDiff, decide_true, and_self, List.toList_toArray, Bool.false_eq_true, reduceIte, Try.f8, cIsFactor, fIsFactor, h1]
    (repeat' refine And.intro ?_ ?_) <;> first | assumption | kernel_rfl | (simp; done)
  | true =>
    cases h2 : shPrimeB p with
    | false =>
      obtain ⟨e1, e2⟩ := sc_no (n := n) (p := p) (by unfold scR scC; rw [h1, h2]; rfl)
      rw [e1, e2]
      simp only [↓cond_to_ite, ↓reduceIte, vc, out, finD, St.drop, vwAt, Entry.vwO, RC.vwO, Entry.toO, toOf, St.res, step, stepE, stepPick, stepG, stepO, stepC, eff, look, rem, St.put, St.setMem, setMems, St.after, St.eval, cst, val1, okNew, newHs, allHs, rdOf, Reg.item, Reg.next, Reg.skip, slotOf, effUn, effPick, ivs, rowOf, allParts, effBuildSlice, subPre, argOf, resA, resV, nodupB, argsPre, argOk, callWr, effCall, RC.flat, effBuildSl, callGo, effCall2, wrHs, disj, AV.hs, A0.hs, Entry.hs, RC.sz, hA, initFr, initMem, initSt, resOf, resAll, compEq, compsEq, rowHs, outHds, outsEq, shapeOk, finOk, comps, A0.norm, specOf, t_int, ts_int, Option.getD_some, Nat.reduceBEq, List.map_cons, List.map_nil, List.getElem?_cons_zero, List.getElem?_cons_succ, Option.map_some, Option.bind_some, Nat.zero_add, Nat.reduceAdd, true_and, and_true, List.length_cons, List.length_nil, List.all_cons, List.all_nil, Bool.and_true, Bool.true_and, Bool.not_true, Bool.not_false, List.append_nil, List.flatMap_cons, List.flatMap_nil, List.contains_nil, List.filter_cons, List.filter_nil, beq_self_eq_true, ble_dec, Nat.reduceLeDiff, decide_true, and_self, List.toList_toArray, Bool.false_eq_true, reduceIte, Try.f8, cIsFactor, fIsFactor, cIsShPrime, fIsShPrime, h1, h2]
      (repeat' refine And.intro ?_ ?_) <;> first | assumption | kernel_rfl | (simp; done)
    | true =>
      have hn := facB_in h1
      have hp' := shPrime_in h2
      have p0 : p ≠ 0 := by omega
      cases h3 : (p == 2) with
      | true =>
        obtain ⟨e1, e2⟩ := sc_no (n := n) (p := p) (by unfold scR scC; rw [h1, h2, h3]; rfl)
        rw [e1, e2]
        simp only [↓cond_to_ite, ↓reduceIte, vc, out, finD, St.drop, vwAt, Entry.vwO, RC.vwO, Entry.toO, toOf, St.res, step, stepE, stepPick, stepG, stepO, stepC, eff, look, rem, St.put, St.setMem, setMems, St.after, St.eval, cst, val1, okNew, newHs, allHs, rdOf, Reg.item, Reg.next, Reg.skip, slotOf, binInt, effBin, effUn, effPick, ivs, rowOf, allParts, effBuildSlice, subPre, argOf, resA, resV, nodupB, argsPre, argOk, callWr, effCall, RC.flat, effBuildSl, callGo, effBin2, effCall2, wrHs, disj, AV.hs, A0.hs, Entry.hs, RC.sz, hA, initFr, initMem, initSt, resOf, resAll, compEq, compsEq, rowHs, outHds, outsEq, shapeOk, finOk, comps, A0.norm, specOf, t_int, ts_int, Option.getD_some, Nat.reduceBEq, List.map_cons, List.map_nil, List.getElem?_cons_zero, List.getElem?_cons_succ, Option.map_some, Option.bind_some, Nat.zero_add, Nat.reduceAdd, true_and, and_true, List.length_cons, List.length_nil, List.all_cons, List.all_nil, Bool.and_true, Bool.true_and, Bool.not_true, Bool.not_false, List.append_nil, List.flatMap_cons, List.flatMap_nil, List.contains_nil, List.filter_cons, List.filter_nil, beq_self_eq_true, ble_dec, Nat.reduceLeDiff, decide_true, and_self, List.toList_toArray, Bool.false_eq_true, reduceIte, Try.f8, cIsFactor, fIsFactor, cIsShPrime, fIsShPrime, h1, h2, h3]
        (repeat' refine And.intro ?_ ?_) <;> first | assumption | kernel_rfl | (simp; done)
      | false =>
        cases h4 : (n.tmod p == 0) with
        | true =>
          obtain ⟨e1, e2⟩ := sc_no (n := n) (p := p) (by unfold scR scC; rw [h1, h2, h3, h4]; rfl)
          rw [e1, e2]
          simp only [↓cond_to_ite, ↓reduceIte, vc, out, finD, St.drop, vwAt, Entry.vwO, RC.vwO, Entry.toO, toOf, St.res, step, stepE, stepPick, stepG, stepO, stepC, eff, look, rem, St.put, St.setMem, setMems, St.after, St.eval, cst, val1, okNew, newHs, allHs, rdOf, Reg.item, Reg.next, slotOf, binInt, effBin, effUn, effPick, ivs, rowOf, allParts, effBuildSlice, subPre, argOf, resA, resV, nodupB, argsPre, argOk, callWr, effCall, RC.flat, effBuildSl, callGo, effBin2, effCall2, wrHs, disj, AV.hs, A0.hs, Entry.hs, RC.sz, hA, initFr, initMem, initSt, resOf, resAll, compEq, compsEq, rowHs, outHds, outsEq, shapeOk, finOk, comps, A0.norm, specOf, t_int, ts_int, Option.getD_some, Nat.reduceBEq, List.map_cons, List.map_nil, List.getElem?_cons_zero, List.getElem?_cons_succ, Option.map_some, Option.bind_some, Nat.zero_add, Nat.reduceAdd, true_and, and_true, List.length_cons, List.length_nil, List.all_cons, List.all_nil, Bool.and_true, Bool.true_and, Bool.not_true, Bool.not_false, List.append_nil, List.flatMap_cons, List.flatMap_nil, List.contains_nil, List.filter_cons, List.filter_nil, beq_self_eq_true, ble_dec, Nat.reduceLeDiff, decide_true, and_self, List.toList_toArray, Bool.false_eq_true, reduceIte, Try.f8, cIsFactor, fIsFactor, cIsShPrime, fIsShPrime, h1, h2, h3, h4]
          (repeat' refine And.intro ?_ ?_) <;> first | assumption | kernel_rfl | (simp; done)
        | false =>
          have hR : scR n p = rtS n p (p / 2 + 1) := by unfold scR scC; rw [h1, h2, h3, h4]; rfl
          have w1 : wrap64 (wrap64 (p.tdiv 2) + 1) = p / 2 + 1 := by
            rw [Int.tdiv_eq_ediv_of_nonneg (by omega), wrap_id (n := p / 2) (by omega) (by omega), wrap_id (by omega) (by omega)]
          simp only [↓cond_to_ite, ↓reduceIte, vc, out, toOf, St.res, step, stepE, stepPick, stepG, stepO, stepC, eff, look, rem, St.put, setMems, St.after, St.eval, cst, val1, okNew, Reg.item, Reg.next, slotOf, binInt, effBin, effUn, effPick, subPre, argOf, resA, resV, argsPre, argOk, callWr, effCall, callGo, effBin2, effCall2, wrHs, disj, AV.hs, A0.hs, hA, initFr, initMem, initSt, specOf, Option.getD_some, Nat.reduceBEq, List.map_cons, List.map_nil, List.getElem?_cons_zero, List.getElem?_cons_succ, Option.bind_some, Nat.zero_add, true_and, List.all_cons, List.all_nil, Bool.and_true, Bool.not_true, Bool.not_false, List.append_nil, List.flatMap_cons, List.flatMap_nil, List.contains_nil, beq_self_eq_true, and_self, List.toList_toArray, Bool.false_eq_true, reduceIte, Try.f8, cIsFactor, fIsFactor, cIsShPrime, fIsShPrime, h1, h2, h3, h4, w1]
          clear h1 h2 h3 h4 w1
          refine ⟨p0, by decide, ?_⟩
          refine lp_intro (fun r : Int => ⟨[(0, .one (.i n)), (1, .one (.i p)), (6, .one (.i r))], []⟩) (fun r => (0 ≤ r ∧ r ≤ 10001) ∧ rtS n p r = rtS n p (p / 2 + 1)) (fun r => (10002 - r).toNat) (p / 2 + 1) [] ⟨by omega, rfl⟩ (by simp only [Cov, covOk, covFr, covMem, rn, nodupB, A0.ren, AV.ren, look, St.eval, A0.norm, AV.norm, Option.getD_some, Option.getD_none, cond_true, cond_false, Nat.reduceBEq, List.map_nil, List.all_nil, Bool.and_true, beq_self_eq_true, and_self]) fun r hx J hJ => ⟨1000, ?_⟩
          obtain ⟨hr, hc⟩ := hx
          have w2 : wrap64 (r + 1) = r + 1 := wrap_id (by omega) (by omega)
          by_cases g : r < p
          · have g1 : decide (r < p) = true := decide_eq_true g
            rw [rtS.eq_def n p r, dif_pos g] at hc
            have q1 : 0 ≤ r * r := Int.mul_nonneg hr.1 hr.1
            have q2 : r * r ≤ 10001 * 10001 := Int.mul_le_mul hr.2 hr.2 hr.1 (by omega)
            have w3 : wrap64 (wrap64 (r * r) + n) = r * r + n := by rw [wrap_id (n := r * r) (by omega) (by omega), wrap_id (by omega) (by omega)]
            by_cases m0 : (r * r + n).tmod p = 0
            · rw [if_pos m0] at hc
              have m1 : ((r * r + n).tmod p != 0) = false := by simp [m0]
              obtain ⟨e1, e2⟩ := sc_yes (hR.trans hc.symm)
              have hlen := euL_len p p r
              rw [e1, e2]
              simp only [↓cond_to_ite, ↓reduceIte, vc, out, Entry.toO, toOf, St.res, step, stepE, stepPick, stepO, stepC, eff, look, rem, St.put, St.setMem, setMems, St.after, St.eval, cst, val1, okNew, newHs, allHs, rdOf, Reg.item, Reg.next, binInt, effBin, ivs, rowOf, allParts, effBuildSlice, effBuildSl, effBin2, wrHs, disj, AV.hs, A0.hs, Entry.hs, RC.sz, t_int, ts_int, Option.getD_some, Nat.reduceBEq, List.map_cons, List.map_nil, Option.map_some, Nat.zero_add, true_and, List.all_cons, List.all_nil, Bool.and_true, Bool.not_false, List.append_nil, List.flatMap_cons, List.flatMap_nil, List.contains_nil, List.filter_cons, List.filter_nil, beq_self_eq_true, ble_dec, Nat.reduceLeDiff, decide_true, Bool.false_eq_true, reduceIte, g1, w3, m1]
              clear hJ m1 m0 e1 e2 hc hR w3 q1 q2
              refine ⟨p0, ?_⟩
              refine lp_intro (fun x : List Int × Int × Int => ⟨[(1, .one (.i p)), (7, .one (.row 46)), (8, .one (.i x.2.1)), (9, .one (.i x.2.2))], [(46, .row (.ints 3 x.1))]⟩) (fun x => (0 ≤ x.2.1 ∧ x.2.1 ≤ 10000) ∧ (0 ≤ x.2.2 ∧ x.2.2 ≤ 10000) ∧ x.1 ++ euL p x.2.1 x.2.2 = p :: euL p p r) (fun x => x.2.2.toNat) ([p], p, r) [] ⟨by simp only; omega, by simp only; omega, rfl⟩ (by simp only [Cov, covOk, covFr, covMem, entEq, rn, nodupB, A0.ren, AV.ren, Entry.ren, Entry.norm, look, St.eval, A0.norm, AV.norm, Option.getD_some, Option.getD_none, cond_true, cond_false, Nat.reduceBEq, List.map_cons, List.map_nil, List.all_nil, Bool.and_true, Bool.not_false, List.contains_nil, beq_self_eq_true, and_self]) fun x hx J hJ => ⟨1000, ?_⟩
              obtain ⟨acc, a, b⟩ := x
              obtain ⟨ha, hb, hacc⟩ : (0 ≤ a ∧ a ≤ 10000) ∧ (0 ≤ b ∧ b ≤ 10000) ∧ acc ++ euL p a b = p :: euL p p r := hx
              have hl : acc.length ≤ 20000 := by
                have := congrArg List.length hacc
                rw [List.length_append, List.length_cons] at this
                omega
              have q1 : 0 ≤ b * b := Int.mul_nonneg hb.1 hb.1
              have q2 : b * b ≤ 10000 * 10000 := Int.mul_le_mul hb.2 hb.2 hb.1 (by omega)
              have w4 : wrap64 (b * b) = b * b := wrap_id (by omega) (by omega)
              have hl2 : (acc ++ [b]).length ≤ 100000000000 := by rw [List.length_append, List.length_singleton]; omega
              by_cases c : b * b ≤ p
              · have c1 : decide (b * b ≤ p) = true := decide_eq_true c
                rw [euL.eq_def p a b, dif_neg (by omega)] at hacc
                simp only [↓cond_to_ite, ↓reduceIte, vc, out, finD, St.drop, vwAt, Entry.vwO, RC.vwO, Entry.toO, toOf, St.res, step, stepE, stepPick, stepO, stepC, eff, look, rem, St.put, St.setMem, setMems, St.after, St.eval, cst, val1, okNew, newHs, allHs, rdOf, Reg.item, Reg.next, entryRow, binInt, effBin, ivs, rowOf, allParts, effBuildSlice, readOf, subPre, maxRow, plainTI, appTo, effAppend, nodupB, argOk, RC.flat, effBuildSl, effAppend2, calleeHs, effBin2, wrHs, disj, AV.hs, A0.hs, Entry.hs, RC.elem, RC.sz, RC.len, RC.app, resOf, resAll, compEq, compsEq, rowHs, outHds, outsEq, shapeOk, finOk, comps, A0.norm, t_int, ts_int, Option.getD_some, Nat.reduceBEq, List.map_cons, List.map_nil, Option.map_some, Nat.zero_add, Nat.reduceAdd, true_and, and_true, List.length_cons, List.length_nil, List.all_cons, List.all_nil, Bool.and_true, Bool.true_and, Bool.or_false, Bool.not_true, Bool.not_false, List.append_nil, List.nil_append, List.cons_append, List.flatMap_cons, List.flatMap_nil, List.contains_cons, List.contains_nil, List.filter_cons, List.filter_nil, beq_self_eq_true, ble_dec, blt_dec, Nat.reduceLeDiff, decide_true, and_self, Bool.false_eq_true, reduceIte, w4, c1, hacc]
                exact ⟨by omega, rfl⟩
              · have c1 : decide (b * b ≤ p) = false := decide_eq_false c
                have b0 : 0 < b := by
                  rcases Int.lt_or_eq_of_le hb.1 with h | h
                  · exact h
                  · rw [← h] at c; omega
                have b1 : b ≠ 0 := by omega
                rw [euL.eq_def p a b, dif_pos ⟨b0, by omega⟩] at hacc
                have hm : a.tmod b = a % b := Int.tmod_eq_emod_of_nonneg ha.1
                have m1 := Int.emod_nonneg a b1
                have m2 := Int.emod_lt_of_pos a b0
                have hacc2 : acc ++ [b] ++ euL p b (a % b) = p :: euL p p r := by rw [← hacc, List.append_assoc]; rfl
                have hmu : (a % b).toNat < b.toNat := by omega
                simp only [↓cond_to_ite, ↓reduceIte, vc, out, Entry.toO, toOf, St.res, step, stepE, stepPick, stepO, stepC, eff, look, rem, St.put, St.setMem, setMems, St.after, St.eval, cst, val1, okNew, newHs, allHs, rdOf, outHs, Reg.item, Reg.next, entryRow, binInt, effBin, ivs, rowOf, allParts, effBuildSlice, readOf, subPre, maxRow, plainTI, appTo, effAppend, RC.flat, effBuildSl, effAppend2, calleeHs, effBin2, wrHs, disj, AV.hs, A0.hs, Entry.hs, RC.elem, RC.sz, RC.len, RC.app, t_int, ts_int, Option.getD_some, Nat.reduceBEq, List.map_cons, List.map_nil, Option.map_some, Nat.zero_add, true_and, and_true, List.all_cons, List.all_nil, Bool.and_true, Bool.or_false, Bool.not_true, Bool.not_false, List.append_nil, List.nil_append, List.cons_append, List.flatMap_cons, List.flatMap_nil, List.contains_cons, List.contains_nil, List.filter_cons, List.filter_nil, beq_self_eq_true, ble_dec, blt_dec, Nat.reduceLeDiff, decide_true, Bool.false_eq_true, reduceIte, w4, c1, hm]
                (repeat' refine And.intro ?_ ?_) <;> first | assumption | kernel_rfl | exact hJ _ (acc ++ [b], b, a % b) [(46, 56)] ⟨hb, ⟨m1, Int.le_trans (Int.le_of_lt m2) hb.2⟩, hacc2⟩ hmu (by simp only [Cov, covOk, covFr, covMem, entEq, rn, nodupB, A0.ren, AV.ren, Entry.ren, Entry.norm, look, St.eval, A0.norm, AV.norm, Option.getD_some, cond_true, cond_false, Nat.reduceBEq, List.map_cons, List.map_nil, List.all_nil, Bool.and_true, Bool.not_false, List.contains_nil, beq_self_eq_true, and_self])
            · rw [if_neg m0] at hc
              have m1 : ((r * r + n).tmod p != 0) = true := by simp [m0]
              simp only [↓cond_to_ite, ↓reduceIte, vc, out, toOf, St.res, step, stepE, stepPick, stepO, stepC, eff, look, rem, St.put, setMems, St.after, St.eval, cst, val1, okNew, Reg.item, Reg.next, binInt, effBin, effBin2, Option.getD_some, Nat.reduceBEq, true_and, beq_self_eq_true, Bool.false_eq_true, reduceIte, g1, w3, m1]
              exact ⟨p0, hJ _ (r + 1) [] ⟨by omega, hc⟩ (by omega) (by simp only [Cov, covOk, covFr, covMem, rn, nodupB, A0.ren, AV.ren, look, St.eval, A0.norm, AV.norm, Option.getD_some, Option.getD_none, cond_true, cond_false, Nat.reduceBEq, List.map_nil, List.all_nil, Bool.and_true, beq_self_eq_true, and_self, w2])⟩
          · have g1 : decide (r < p) = false := decide_eq_false g
            rw [rtS.eq_def n p r, dif_neg g] at hc
            obtain ⟨e1, e2⟩ := sc_no (hR.trans hc.symm)
            rw [e1, e2]
            simp only [↓cond_to_ite, ↓reduceIte, vc, out, finD, St.drop, vwAt, Entry.vwO, RC.vwO, Entry.toO, toOf, St.res, step, stepE, stepPick, stepO, stepC, eff, look, rem, St.put, St.setMem, setMems, St.after, St.eval, cst, val1, okNew, newHs, allHs, rdOf, Reg.item, Reg.next, binInt, effBin, ivs, rowOf, allParts, effBuildSlice, nodupB, argOk, RC.flat, effBuildSl, effBin2, wrHs, disj, AV.hs, A0.hs, Entry.hs, RC.sz, resOf, resAll, compEq, compsEq, rowHs, outHds, outsEq, shapeOk, finOk, comps, A0.norm, t_int, ts_int, Option.getD_some, Nat.reduceBEq, List.map_cons, List.map_nil, Option.map_some, Nat.zero_add, Nat.reduceAdd, true_and, and_true, List.length_cons, List.length_nil, List.all_cons, List.all_nil, Bool.and_true, Bool.true_and, Bool.not_false, List.append_nil, List.flatMap_cons, List.flatMap_nil, List.contains_nil, List.filter_cons, List.filter_nil, beq_self_eq_true, ble_dec, Nat.reduceLeDiff, decide_true, and_self, Bool.false_eq_true, reduceIte, g1]
            (repeat' refine And.intro ?_ ?_) <;> first | assumption | kernel_rfl | (simp; done)
end Go.Proofs.Ytacomnelongbjab
