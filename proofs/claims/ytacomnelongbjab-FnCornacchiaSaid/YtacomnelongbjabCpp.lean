/-
  Contracts of ProperPairs on both sides. Conditions: none.
-/
import Derived.Test.YtacomnelongbjabCpl
namespace Go.Proofs.Ytacomnelongbjab
open Go Go.RowKit
set_option maxRecDepth 100000
set_option linter.unusedSimpArgs false
set_option linter.unusedVariables false
set_option maxHeartbeats 4000000

def prY (n m x : Int) : Int := rootI ((m - x * x).tdiv n)
def prB (n m x : Int) : Bool := ((m - x * x).tmod n == 0) && (sqB ((m - x * x).tdiv n) && (gcdI x (prY n m x) == 1))
/-- the pairs without common divisors, by x -/
def prR (n m x : Int) : List P2 := if _h : 0 ≤ x ∧ x * x ≤ m then (if prB n m x = true then [(x, prY n m x)] else []) ++ prR n m (x + 1) else []
  termination_by (m + 1 - x).toNat
  decreasing_by
    have : x ≤ x * x := by
      by_cases g : x = 0
      · rw [g]; omega
      · have : x * 1 ≤ x * x := Int.mul_le_mul_of_nonneg_left (by omega) _h.1
        omega
    omega
theorem x_100 {x m : Int} (hx : 0 ≤ x) (h : x * x ≤ m) (hm : m ≤ 10000) : x ≤ 100 := y_100 hx h hm
theorem tdn {k n : Int} (hn : 1 ≤ n) (hk : 0 ≤ k) : k.tdiv n = k / n ∧ k.tmod n = k % n ∧ 0 ≤ k / n ∧ k / n ≤ k :=
  ⟨Int.tdiv_eq_ediv_of_nonneg hk, Int.tmod_eq_emod_of_nonneg hk, Int.ediv_nonneg hk (by omega), Int.ediv_le_self _ hk⟩
theorem prB_iff {n m x : Int} (hn : 1 ≤ n ∧ n ≤ 500) (hm : m ≤ 10000) (hx : 0 ≤ x) (h : x * x ≤ m) : prB n m x = true ↔ (x * x + n * prY n m x * prY n m x = m ∧ 0 ≤ prY n m x ∧ primP (x, prY n m x) = true) := by
  obtain ⟨d1, d2, d3, d4⟩ := tdn (k := m - x * x) hn.1 (by omega)
  have hdm := Int.emod_add_mul_ediv (m - x * x) n
  have hxx := sq_nn x
  unfold prB prY
  rw [d1, d2]
  simp only [Bool.and_eq_true, beq_iff_eq]
  unfold primP
  rw [beq_iff_eq]
  constructor
  · rintro ⟨h1, h2, h3⟩
    obtain ⟨e, h0⟩ := sqB_root (by omega) h2
    rw [Int.mul_assoc, e]
    exact ⟨by omega, h0, h3⟩
  · rintro ⟨h1, h2, h3⟩
    have h4 : m - x * x = n * (rootI ((m - x * x) / n) * rootI ((m - x * x) / n)) := by rw [← Int.mul_assoc]; omega
    have h5 : (m - x * x) % n = 0 := by rw [h4]; exact Int.mul_emod_right ..
    have h6 : (m - x * x) / n = rootI ((m - x * x) / n) * rootI ((m - x * x) / n) := by
      have := Int.mul_ediv_cancel_left (rootI ((m - x * x) / n) * rootI ((m - x * x) / n)) (show n ≠ 0 by omega)
      rw [← h4] at this
      exact this
    exact ⟨h5, (sqB_iff (by omega)).2 ⟨_, h6.symm⟩, h3⟩
theorem prR_mem {n m : Int} (hn : 1 ≤ n ∧ n ≤ 500) (hm : m ≤ 10000) (x : Int) {q : P2} (h : q ∈ prR n m x) : x ≤ q.1 ∧ 0 ≤ q.1 ∧ 0 ≤ q.2 ∧ q.1 * q.1 + n * q.2 * q.2 = m ∧ primP q = true := by
  fun_induction prR n m x with
  | case1 x g ih =>
    rw [List.mem_append] at h
    rcases h with h | h
    · split at h
      · rename_i hb
        rw [List.mem_singleton] at h
        subst h
        obtain ⟨h1, h2, h3⟩ := (prB_iff hn hm g.1 g.2).1 hb
        exact ⟨Int.le_refl _, g.1, h2, h1, h3⟩
      · cases h
    · obtain ⟨h1, h2⟩ := ih h
      exact ⟨by omega, h2⟩
  | case2 => cases h
theorem prR_has {n m : Int} (hn : 1 ≤ n ∧ n ≤ 500) (hm : m ≤ 10000) (x : Int) {u v : Int} (hx : 0 ≤ x) (hu : x ≤ u) (hv : 0 ≤ v) (he : u * u + n * v * v = m) (hp : primP (u, v) = true) : (u, v) ∈ prR n m x := by
  have hnv : 0 ≤ n * v * v := Int.mul_nonneg (Int.mul_nonneg (by omega) hv) hv
  fun_induction prR n m x with
  | case1 x g ih =>
    rw [List.mem_append]
    by_cases c : u = x
    · subst c
      left
      have hq : prY n m u = v := by
        unfold prY
        obtain ⟨d1, d2, d3, d4⟩ := tdn (k := m - u * u) hn.1 (by omega)
        have hxx := sq_nn u
        have h4 : m - u * u = n * (v * v) := by rw [← Int.mul_assoc]; omega
        have h6 : (m - u * u) / n = v * v := by rw [h4]; exact Int.mul_ediv_cancel_left _ (by omega)
        rw [d1]
        exact (root_of hv h6.symm (by omega)).2
      rw [if_pos ((prB_iff hn hm g.1 g.2).2 (by rw [hq]; exact ⟨he, hv, hp⟩)), hq]
      exact List.mem_singleton.2 rfl
    · exact Or.inr (ih (by omega) (by omega))
  | case2 x g =>
    refine absurd ⟨hx, ?_⟩ g
    have : x * x ≤ u * u := Int.mul_le_mul hu hu hx (by omega)
    omega
theorem prR_sorted {n m : Int} (hn : 1 ≤ n ∧ n ≤ 500) (hm : m ≤ 10000) (x : Int) : SortedP (prR n m x) := by
  fun_induction prR n m x with
  | case1 x g ih =>
    unfold SortedP
    rw [List.pairwise_append]
    refine ⟨by split <;> simp, ih, fun a ha b hb => ?_⟩
    have h1 := prR_mem hn hm _ hb
    split at ha
    · rw [List.mem_singleton] at ha
      subst ha
      rw [ltP_iff]
      left
      show x < b.1
      omega
    · cases ha
  | case2 => exact List.Pairwise.nil
theorem prR_len (n m x : Int) : ((prR n m x).length : Int) ≤ max 0 (m + 1 - x) := by
  fun_induction prR n m x with
  | case1 x g ih =>
    have : x ≤ x * x := by
      by_cases g2 : x = 0
      · rw [g2]; omega
      · have : x * 1 ≤ x * x := Int.mul_le_mul_of_nonneg_left (by omega) g.1
        omega
    rw [List.length_append]
    split
    · rw [List.length_singleton]; omega
    · rw [List.length_nil]; omega
  | case2 => simp; omega
/-- both sides find the same pairs -/
theorem prR_eq {n m : Int} (hn : 1 ≤ n ∧ n ≤ 500) (hm : m ≤ 10000) : (ipD n m 0).filter primP = prR n m 0 := by
  refine sorted_ext ((ipD_sorted hn.1 (by omega) 0).filter _) (prR_sorted hn hm 0) fun q => ?_
  rw [List.mem_filter]
  constructor
  · rintro ⟨h1, h2⟩
    obtain ⟨q1, q2, q3⟩ := ipD_mem (by omega) 0 h1
    exact prR_has hn hm 0 (by omega) q1 q2 q3 h2
  · intro h
    obtain ⟨q0, q1, q2, q3, q4⟩ := prR_mem hn hm 0 h
    exact ⟨ipD_has hn.1 (by omega) 0 q1 (by omega) q2 q3, q4⟩
def ppC (n m : Int) : Bool := facB n && inI m 1 10000
def ppO (n m : Int) : List P2 := onL (ppC n m) (prR n m 0)
theorem ppO_no {n m : Int} (h : ppC n m = false) : ppO n m = [] := by unfold ppO; rw [h]; rfl
theorem ppO_yes {n m : Int} (h : ppC n m = true) : ppO n m = prR n m 0 := by unfold ppO; rw [h]; rfl
abbrev fProperP : Nat := 14
def cProperP : Ctr
  | [.i n, .i m] => some ⟨True, .tup [.rw (.recs 51 2 (fp (ppO n m))), .b (ppC n m)], []⟩
  | _ => none
theorem okProperP : CtrOk Try.prog fProperP cProperP := by
  have hsp : SpecOk Try.prog (specOf [(fIsFactor, cIsFactor), (fIsShownN, cIsShownN), (fIsSquare, cIsSquare), (fRoot, cRoot), (fGcd, cGcd)]) := (SpecOk.cons okIsFactor (SpecOk.cons okIsShownN (SpecOk.cons okIsSquare (SpecOk.cons okRoot (SpecOk.cons okGcd SpecOk.nil)))))
  refine ctr_of (fn := Try.f14) mixed tab_ok hsp Try.func14 (by kernel_rfl) (by kernel_rfl) fun args ce h => ?_
  clear hsp
  unfold cProperP at h
  split at h
  case h_2 => cases h
  rename_i n m
  simp only [Option.some.injEq] at h
  subst h
  refine ⟨by rfl, fun hp => ⟨1, 1000, ?_⟩⟩
  cases h1 : facB n with
  | false =>
    have hc : ppC n m = false := by unfold ppC; rw [h1]; rfl
    rw [ppO_no hc, hc]
    simp only [↓cond_to_ite, ↓reduceIte, vc, out, finD, St.drop, vwAt, Entry.vwO, RC.vwO, Entry.toO, toOf, St.res, step, stepE, stepPick, stepG, stepO, stepC, eff, look, rem, St.put, St.setMem, setMems, St.after, St.eval, cst, val1, okNew, newHs, allHs, rdOf, Reg.item, Reg.next, Reg.skip, slotOf, effUn, effPick, svs, rowOf, allParts, effBuildSlice, subPre, argOf, resA, resV, nodupB, argsPre, argOk, callWr, effCall, RC.flat, effBuildSl, callGo, effCall2, wrHs, disj, AV.hs, A0.hs, Entry.hs, RC.sz, hA, initFr, initMem, initSt, resOf, resAll, compEq, compsEq, rowHs, outHds, outsEq, shapeOk, finOk, comps, A0.norm, specOf, t_implPoint, ts_implPoint, Option.getD_some, Nat.reduceBEq, List.map_cons, List.map_nil, List.getElem?_cons_zero, List.getElem?_cons_succ, Option.map_some, Option.bind_some, Nat.zero_add, Nat.reduceAdd, true_and, and_true, List.length_cons, List.length_nil, List.all_cons, List.all_nil, Bool.and_true, Bool.true_and, Bool.not_false, List.append_nil, List.flatMap_cons, List.flatMap_nil, List.contains_nil, List.filter_cons, List.filter_nil, beq_self_eq_true, RC.recs.injEq, ble_dec, blt_dec, Nat.reduceLeDiff, decide_true, and_self, List.toList_toArray, Bool.false_eq_true, reduceIte, Try.f14, cIsFactor, fIsFactor, h1]
    (repeat' refine And.intro ?_ ?_) <;> first | assumption | kernel_rfl | (simp; done)
  | true =>
    cases h2 : inI m 1 10000 with
    | false =>
      have hc : ppC n m = false := by unfold ppC; rw [h1, h2]; rfl
      rw [ppO_no hc, hc]
      simp only [↓cond_to_ite, ↓reduceIte, vc, out, finD, St.drop, vwAt, Entry.vwO, RC.vwO, Entry.toO, toOf, St.res, step, stepE, stepPick, stepG, stepO, stepC, eff, look, rem, St.put, St.setMem, setMems, St.after, St.eval, cst, val1, okNew, newHs, allHs, rdOf, Reg.item, Reg.next, slotOf, effUn, effPick, svs, rowOf, allParts, effBuildSlice, subPre, argOf, resA, resV, nodupB, argsPre, argOk, callWr, effCall, RC.flat, effBuildSl, callGo, effCall2, wrHs, disj, AV.hs, A0.hs, Entry.hs, RC.sz, hA, initFr, initMem, initSt, resOf, resAll, compEq, compsEq, rowHs, outHds, outsEq, shapeOk, finOk, comps, A0.norm, specOf, t_implPoint, ts_implPoint, Option.getD_some, Nat.reduceBEq, List.map_cons, List.map_nil, List.getElem?_cons_zero, List.getElem?_cons_succ, Option.map_some, Option.bind_some, Nat.zero_add, Nat.reduceAdd, true_and, and_true, List.length_cons, List.length_nil, List.all_cons, List.all_nil, Bool.and_true, Bool.true_and, Bool.not_true, Bool.not_false, List.append_nil, List.flatMap_cons, List.flatMap_nil, List.contains_nil, List.filter_cons, List.filter_nil, beq_self_eq_true, RC.recs.injEq, ble_dec, blt_dec, Nat.reduceLeDiff, decide_true, and_self, List.toList_toArray, Bool.false_eq_true, reduceIte, Try.f14, cIsFactor, fIsFactor, cIsShownN, fIsShownN, h1, h2]
      (repeat' refine And.intro ?_ ?_) <;> first | assumption | kernel_rfl | (simp; done)
    | true =>
      have hc : ppC n m = true := by unfold ppC; rw [h1, h2]; rfl
      rw [ppO_yes hc, hc]
      have hn := facB_in h1
      have hm := inI_1 h2
      have hlen := prR_len n m 0
      simp only [↓cond_to_ite, ↓reduceIte, vc, out, Entry.toO, toOf, St.res, step, stepE, stepPick, stepG, stepO, stepC, eff, look, rem, St.put, St.setMem, setMems, St.after, St.eval, cst, val1, okNew, newHs, allHs, rdOf, Reg.item, Reg.next, slotOf, effUn, effPick, svs, rowOf, allParts, effBuildSlice, subPre, argOf, resA, resV, argsPre, argOk, callWr, effCall, effBuildSl, callGo, effCall2, wrHs, disj, AV.hs, A0.hs, Entry.hs, RC.sz, hA, initFr, initMem, initSt, specOf, t_implPoint, ts_implPoint, Option.getD_some, Nat.reduceBEq, List.map_cons, List.map_nil, List.getElem?_cons_zero, List.getElem?_cons_succ, Option.map_some, Option.bind_some, Nat.zero_add, true_and, List.all_cons, List.all_nil, Bool.and_true, Bool.not_true, Bool.not_false, List.append_nil, List.flatMap_cons, List.flatMap_nil, List.contains_nil, List.filter_cons, List.filter_nil, beq_self_eq_true, ble_dec, blt_dec, Nat.reduceLeDiff, decide_true, and_self, List.toList_toArray, Bool.false_eq_true, reduceIte, Try.f14, cIsFactor, fIsFactor, cIsShownN, fIsShownN, h1, h2]
      clear h1 h2 hc
      refine lp_intro (fun x : List P2 × Int => ⟨[(0, .one (.i n)), (1, .one (.i m)), (6, .one (.row 18)), (7, .one (.i x.2))], [(18, .row (.recs 51 2 (fp x.1)))]⟩)
        (fun x => (0 ≤ x.2 ∧ x.2 ≤ 101) ∧ x.1 ++ prR n m x.2 = prR n m 0) (fun x => (102 - x.2).toNat) ([], 0) [] ⟨by simp only; omega, rfl⟩ (by simp only [Cov, covOk, covFr, covMem, entEq, rn, nodupB, A0.ren, AV.ren, Entry.ren, Entry.norm, look, St.eval, A0.norm, AV.norm, Option.getD_some, Option.getD_none, cond_true, cond_false, Nat.reduceBEq, List.map_cons, List.map_nil, true_and, and_true, List.all_nil, Bool.and_true, Bool.not_false, List.contains_nil, beq_self_eq_true, and_self]; simp [fp_nil]) fun x hx J hJ => ⟨1000, ?_⟩
      obtain ⟨acc, x⟩ := x
      obtain ⟨hx, hacc⟩ : (0 ≤ x ∧ x ≤ 101) ∧ acc ++ prR n m x = prR n m 0 := hx
      have hl : acc.length ≤ 20000 := by
        have := congrArg List.length hacc
        rw [List.length_append] at this
        omega
      have q1 : 0 ≤ x * x := Int.mul_nonneg hx.1 hx.1
      have q2 : x * x ≤ 101 * 101 := Int.mul_le_mul hx.2 hx.2 hx.1 (by omega)
      have w0 : wrap64 (x * x) = x * x := wrap_id (by omega) (by omega)
      have w1 : wrap64 (m - x * x) = m - x * x := wrap_id (by omega) (by omega)
      have w2 : wrap64 (x + 1) = x + 1 := wrap_id (by omega) (by omega)
      have n0 : n ≠ 0 := by omega
      by_cases g : x * x ≤ m
      · have g1 : decide (x * x ≤ m) = true := decide_eq_true g
        have hx2 := x_100 hx.1 g hm.2
        obtain ⟨d1, d2, d3, d4⟩ := tdn (k := m - x * x) hn.1 (by omega)
        have w3 : wrap64 ((m - x * x).tdiv n) = (m - x * x).tdiv n := wrap_id (by omega) (by omega)
        rw [prR.eq_def n m x, dif_pos ⟨hx.1, g⟩] at hacc
        have hno : prB n m x = false → acc ++ prR n m (x + 1) = prR n m 0 := fun h => by
          rw [if_neg (by rw [h]; simp)] at hacc
          exact hacc
        have hyes : prB n m x = true → (acc ++ [(x, prY n m x)]) ++ prR n m (x + 1) = prR n m 0 := fun h => by
          rw [if_pos h, ← List.append_assoc] at hacc
          exact hacc
        clear hacc
        have eY : rootI ((m - x * x).tdiv n) = prY n m x := rfl
        cases c1 : ((m - x * x).tmod n == 0) with
        | false =>
          have hb := hno (by unfold prB; rw [c1]; rfl)
          simp only [↓cond_to_ite, ↓reduceIte, vc, out, Entry.toO, toOf, St.res, step, stepE, stepPick, stepG, stepO, stepC, eff, look, rem, St.put, setMems, St.after, St.eval, cst, val1, okNew, Reg.item, Reg.next, Reg.skip, slotOf, binInt, effBin, effPick, effBin2, Option.getD_some, Nat.reduceBEq, List.getElem?_cons_zero, List.getElem?_cons_succ, Option.bind_some, true_and, beq_self_eq_true, Bool.false_eq_true, reduceIte, w0, w1, g1, c1]
          (repeat' refine And.intro ?_ ?_) <;> first | assumption | kernel_rfl | exact hJ _ (acc, x + 1) [] ⟨by simp only; omega, hb⟩ (by simp only; omega) (by simp only [Cov, covOk, covFr, covMem, entEq, rn, nodupB, A0.ren, AV.ren, Entry.ren, Entry.norm, look, St.eval, A0.norm, AV.norm, Option.getD_some, Option.getD_none, cond_true, cond_false, Nat.reduceBEq, List.map_cons, List.map_nil, List.all_nil, Bool.and_true, Bool.not_false, List.contains_nil, beq_self_eq_true, and_self, w2])
        | true =>
          cases c2 : sqB ((m - x * x).tdiv n) with
          | false =>
            have hb := hno (by unfold prB; rw [c1, c2]; rfl)
            simp only [↓cond_to_ite, ↓reduceIte, vc, out, Entry.toO, toOf, St.res, step, stepE, stepPick, stepG, stepO, stepC, eff, look, rem, St.put, setMems, St.after, St.eval, cst, val1, okNew, Reg.item, Reg.next, Reg.skip, slotOf, binInt, effBin, effPick, subPre, argOf, resA, resV, argsPre, argOk, callWr, effCall, callGo, effBin2, effCall2, wrHs, disj, AV.hs, A0.hs, specOf, Option.getD_some, Nat.reduceBEq, List.map_cons, List.map_nil, List.getElem?_cons_zero, List.getElem?_cons_succ, Option.bind_some, true_and, List.all_cons, List.all_nil, Bool.and_true, Bool.not_false, List.append_nil, List.flatMap_cons, List.flatMap_nil, List.contains_nil, beq_self_eq_true, and_self, Bool.false_eq_true, reduceIte, cIsSquare, fIsSquare, w0, w1, w3, g1, c1, c2]
            (repeat' refine And.intro ?_ ?_) <;> first | assumption | kernel_rfl | exact hJ _ (acc, x + 1) [] ⟨by simp only; omega, hb⟩ (by simp only; omega) (by simp only [Cov, covOk, covFr, covMem, entEq, rn, nodupB, A0.ren, AV.ren, Entry.ren, Entry.norm, look, St.eval, A0.norm, AV.norm, Option.getD_some, Option.getD_none, cond_true, cond_false, Nat.reduceBEq, List.map_cons, List.map_nil, List.all_nil, Bool.and_true, Bool.not_false, List.contains_nil, beq_self_eq_true, and_self, w2])
          | true =>
            cases c3 : (gcdI x (prY n m x) == 1) with
            | false =>
              have hb := hno (by unfold prB; rw [c1, c2, c3]; rfl)
              simp only [↓cond_to_ite, ↓reduceIte, vc, out, Entry.toO, toOf, St.res, step, stepE, stepPick, stepG, stepO, stepC, eff, look, rem, St.put, setMems, St.after, St.eval, cst, val1, okNew, Reg.item, Reg.next, slotOf, binInt, effBin, effPick, subPre, argOf, resA, resV, argsPre, argOk, callWr, effCall, callGo, effBin2, effCall2, wrHs, disj, AV.hs, A0.hs, specOf, Option.getD_some, Nat.reduceBEq, List.map_cons, List.map_nil, List.getElem?_cons_zero, List.getElem?_cons_succ, Option.bind_some, true_and, List.all_cons, List.all_nil, Bool.and_true, Bool.not_false, List.append_nil, List.flatMap_cons, List.flatMap_nil, List.contains_nil, beq_self_eq_true, and_self, Bool.false_eq_true, reduceIte, cIsSquare, fIsSquare, cRoot, fRoot, cGcd, fGcd, w0, w1, w3, g1, c1, c2, eY, c3]
              (repeat' refine And.intro ?_ ?_) <;> first | assumption | kernel_rfl | exact hJ _ (acc, x + 1) [] ⟨by simp only; omega, hb⟩ (by simp only; omega) (by simp only [Cov, covOk, covFr, covMem, entEq, rn, nodupB, A0.ren, AV.ren, Entry.ren, Entry.norm, look, St.eval, A0.norm, AV.norm, Option.getD_some, Option.getD_none, cond_true, cond_false, Nat.reduceBEq, List.map_cons, List.map_nil, List.all_nil, Bool.and_true, Bool.not_false, List.contains_nil, beq_self_eq_true, and_self, w2])
            | true =>
              have hb := hyes (by unfold prB; rw [c1, c2, c3]; rfl)
              generalize prY n m x = Y at *
              simp only [↓cond_to_ite, ↓reduceIte, vc, out, Entry.toO, toOf, St.res, step, stepE, stepPick, stepG, stepO, stepC, eff, look, rem, St.put, St.setMem, setMems, St.after, St.eval, cst, val1, okNew, newHs, allHs, rdOf, Reg.item, Reg.next, slotOf, entryRow, buildOf, effBuild, binInt, effBin, effPick, svs, rowOf, allParts, effBuildSlice, readOf, subPre, maxRow, plainTI, appTo, effAppend, argOf, resA, resV, argsPre, argOk, callWr, effCall, RC.flat, effBuild2, effBuildSl, callGo, effBuild3, effAppend2, calleeHs, effBin2, effBuild4, effCall2, wrHs, disj, AV.hs, A0.hs, Entry.hs, RC.elem, RC.sz, RC.len, RC.app, specOf, t_implPoint, ts_implPoint, Option.getD_some, Nat.reduceBEq, List.map_cons, List.map_nil, List.set_cons_zero, List.set_cons_succ, List.getElem?_cons_zero, List.getElem?_cons_succ, Option.map_some, Option.bind_some, Nat.zero_add, Nat.reduceAdd, true_and, and_true, List.replicate_succ, List.replicate_zero, List.length_cons, List.length_nil, List.all_cons, List.all_nil, Bool.and_true, Bool.or_false, Bool.not_true, Bool.not_false, List.append_nil, List.nil_append, List.cons_append, List.flatMap_cons, List.flatMap_nil, List.contains_cons, List.contains_nil, List.filter_cons, List.filter_nil, beq_self_eq_true, ble_dec, blt_dec, Nat.reduceLeDiff, decide_true, and_self, Bool.false_eq_true, reduceIte, cIsSquare, fIsSquare, cRoot, fRoot, cGcd, fGcd, w0, w1, w3, g1, c1, c2, eY, c3]
              have hs : fp acc ++ [[x, Y]] = fp (acc ++ [(x, Y)]) := fp_snoc acc (x, Y)
              refine ⟨n0, n0, n0, n0, ?_, hJ _ (acc ++ [(x, Y)], x + 1) [(18, 58)] ⟨by simp only; omega, hb⟩ (by simp only; omega) (by simp only [Cov, covOk, covFr, covMem, entEq, rn, nodupB, A0.ren, AV.ren, Entry.ren, Entry.norm, look, St.eval, A0.norm, AV.norm, Option.getD_some, cond_true, cond_false, Nat.reduceBEq, List.map_cons, List.map_nil, List.all_nil, Bool.and_true, Bool.not_false, List.contains_nil, beq_self_eq_true, and_self, w2, hs])⟩
              rw [List.length_append, fp_length, List.length_singleton]
              omega
      · have g1 : decide (x * x ≤ m) = false := decide_eq_false g
        rw [prR.eq_def n m x, dif_neg (fun h => g h.2), List.append_nil] at hacc
        simp only [↓cond_to_ite, ↓reduceIte, vc, out, finD, St.drop, vwAt, Entry.vwO, RC.vwO, Entry.toO, toOf, St.res, step, stepE, stepPick, stepO, stepC, eff, look, rem, St.put, setMems, St.after, St.eval, cst, val1, okNew, Reg.item, Reg.next, binInt, effBin, nodupB, argOk, RC.flat, effBin2, disj, resOf, resAll, compEq, compsEq, rowHs, outHds, outsEq, shapeOk, finOk, comps, A0.norm, Option.getD_some, Nat.reduceBEq, Option.map_some, Nat.zero_add, Nat.reduceAdd, true_and, and_true, List.length_cons, List.length_nil, List.all_cons, List.all_nil, Bool.and_true, Bool.true_and, Bool.not_false, List.contains_nil, beq_self_eq_true, and_self, Bool.false_eq_true, reduceIte, w0, g1, hacc]
        (repeat' refine And.intro ?_ ?_) <;> first | assumption | kernel_rfl | (simp; done)
theorem ipD_bd {n m : Int} (hn : 1 ≤ n ∧ n ≤ 500) (hm : m ≤ 10000) : ∀ q ∈ ipD n m 0, q.1.natAbs ≤ 1000000 ∧ q.2.natAbs ≤ 1000000 := fun q hq => by
  obtain ⟨h1, h2, h3⟩ := ipD_mem (by omega) 0 hq
  have h4 : 0 ≤ n * q.2 * q.2 := Int.mul_nonneg (Int.mul_nonneg (by omega) h2) h2
  have h5 := sq_nn q.1
  have h6 := y_100 h1 (show q.1 * q.1 ≤ m by omega) hm
  have h7 := (y_le hn.1 h2 (show n * q.2 * q.2 ≤ m by omega)).1
  omega
abbrev fIpProper : Nat := 38
def cIpProper : Ctr
  | [.i n, .i m] => some ⟨(1 ≤ n ∧ n ≤ 500) ∧ 1 ≤ m ∧ m ≤ 10000, .one (.rw (.recs 51 2 (fp (prR n m 0)))), []⟩
  | _ => none
theorem okIpProper : CtrOk Try.prog fIpProper cIpProper := by
  have hsp : SpecOk Try.prog (specOf [(fIpPairs, cIpPairs), (fVaPrim, cVaPrim)]) := (SpecOk.cons okIpPairs (SpecOk.cons okVaPrim SpecOk.nil))
  refine ctr_of (fn := Try.f38) mixed tab_ok hsp Try.func38 (by kernel_rfl) (by kernel_rfl) fun args ce h => ?_
  clear hsp
  unfold cIpProper at h
  split at h
  case h_2 => cases h
  rename_i n m
  simp only [Option.some.injEq] at h
  subst h
  refine ⟨by rfl, fun hp => ⟨0, 1000, ?_⟩⟩
  simp only [↓cond_to_ite, ↓reduceIte, vc, out, finD, St.drop, vwAt, Entry.vwO, RC.vwO, Entry.toO, toOf, St.res, step, stepE, stepPick, stepO, eff, look, rem, St.put, St.setMem, setMems, St.after, St.eval, cst, val1, okNew, newHs, allHs, rdOf, Reg.item, Reg.next, entryRow, subPre, argOf, resA, resV, nodupB, argsPre, argOk, callWr, effCall, RC.flat, callGo, calleeHs, effCall2, wrHs, disj, AV.hs, A0.hs, Entry.hs, hA, initFr, initMem, initSt, resOf, resAll, compEq, compsEq, rowHs, outHds, outsEq, shapeOk, finOk, comps, specOf, Option.getD_some, Nat.reduceBEq, List.map_cons, List.map_nil, Option.map_some, Nat.zero_add, true_and, and_true, List.length_cons, List.length_nil, List.all_cons, List.all_nil, Bool.and_true, Bool.or_false, Bool.not_false, List.append_nil, List.nil_append, List.cons_append, List.flatMap_cons, List.flatMap_nil, List.contains_cons, List.contains_nil, List.filter_cons, List.filter_nil, beq_self_eq_true, RC.recs.injEq, and_self, List.toList_toArray, Bool.false_eq_true, reduceIte, cIpPairs, fIpPairs, cVaPrim, fVaPrim, Try.f38]
  obtain ⟨hn, hm⟩ : (1 ≤ n ∧ n ≤ 500) ∧ 1 ≤ m ∧ m ≤ 10000 := hp
  have hlen := ipD_len n m 0
  have hbd := ipD_bd hn hm.2
  rw [fp_length, unfp_fp, prR_eq hn hm.2]
  exact ⟨⟨hn, hm⟩, ⟨by omega, hbd⟩, rfl⟩
abbrev fSProperP : Nat := 15
def cSProperP : Ctr
  | [.i n, .i m] => some ⟨True, .tup [.rw (.recs 51 2 (fp (ppO n m))), .b (ppC n m)], []⟩
  | _ => none
theorem okSProperP : CtrOk Try.prog fSProperP cSProperP := by
  have hsp : SpecOk Try.prog (specOf [(fIn, cIn), (fVaShown, cVaShown), (fIpProper, cIpProper)]) := (SpecOk.cons okIn (SpecOk.cons okVaShown (SpecOk.cons okIpProper SpecOk.nil)))
  refine ctr_of (fn := Try.f15) mixed tab_ok hsp Try.func15 (by kernel_rfl) (by kernel_rfl) fun args ce h => ?_
  clear hsp
  unfold cSProperP at h
  split at h
  case h_2 => cases h
  rename_i n m
  simp only [Option.some.injEq] at h
  subst h
  refine ⟨by rfl, fun hp => ⟨0, 1000, ?_⟩⟩
  have h0 : inI n 1 500 = facB n := rfl
  cases h1 : facB n with
  | false =>
    have hc : ppC n m = false := by unfold ppC; rw [h1]; rfl
    rw [ppO_no hc, hc]
    simp only [↓cond_to_ite, ↓reduceIte, vc, out, finD, St.drop, vwAt, toOf, St.res, step, stepE, stepPick, stepG, stepO, stepC, eff, look, rem, St.put, setMems, St.after, St.eval, cst, val1, okNew, Reg.item, Reg.next, Reg.skip, slotOf, effUn, effPick, subPre, argOf, resA, resV, nodupB, argsPre, argOk, callWr, effCall, callGo, effCall2, wrHs, disj, AV.hs, A0.hs, initFr, initMem, initSt, resOf, resAll, compEq, compsEq, rowHs, outHds, outsEq, shapeOk, finOk, comps, A0.norm, specOf, Option.getD_some, Nat.reduceBEq, List.map_cons, List.map_nil, List.getElem?_cons_zero, List.getElem?_cons_succ, Option.map_some, Option.bind_some, Nat.zero_add, Nat.reduceAdd, true_and, and_true, List.length_cons, List.length_nil, List.all_cons, List.all_nil, Bool.and_true, Bool.true_and, Bool.not_false, List.append_nil, List.flatMap_cons, List.flatMap_nil, List.contains_nil, beq_self_eq_true, and_self, List.toList_toArray, Bool.false_eq_true, reduceIte, Try.f15, cIn, fIn, h0, h1]
    (repeat' refine And.intro ?_ ?_) <;> first | assumption | kernel_rfl | (simp; done) | exact ⟨rfl, by decide⟩
  | true =>
    cases h2 : inI m 1 10000 with
    | false =>
      have hc : ppC n m = false := by unfold ppC; rw [h1, h2]; rfl
      rw [ppO_no hc, hc]
      simp only [↓cond_to_ite, ↓reduceIte, vc, out, finD, St.drop, vwAt, toOf, St.res, step, stepE, stepPick, stepG, stepO, stepC, eff, look, rem, St.put, setMems, St.after, St.eval, cst, val1, okNew, Reg.item, Reg.next, slotOf, effUn, effPick, subPre, argOf, resA, resV, nodupB, argsPre, argOk, callWr, effCall, callGo, effCall2, wrHs, disj, AV.hs, A0.hs, initFr, initMem, initSt, resOf, resAll, compEq, compsEq, rowHs, outHds, outsEq, shapeOk, finOk, comps, A0.norm, specOf, Option.getD_some, Nat.reduceBEq, List.map_cons, List.map_nil, List.getElem?_cons_zero, List.getElem?_cons_succ, Option.map_some, Option.bind_some, Nat.zero_add, Nat.reduceAdd, true_and, and_true, List.length_cons, List.length_nil, List.all_cons, List.all_nil, Bool.and_true, Bool.true_and, Bool.not_true, Bool.not_false, List.append_nil, List.flatMap_cons, List.flatMap_nil, List.contains_nil, beq_self_eq_true, and_self, List.toList_toArray, Bool.false_eq_true, reduceIte, Try.f15, cIn, fIn, cVaShown, fVaShown, h0, h1, h2]
      (repeat' refine And.intro ?_ ?_) <;> first | assumption | kernel_rfl | (simp; done) | exact ⟨rfl, by decide⟩
    | true =>
      have hc : ppC n m = true := by unfold ppC; rw [h1, h2]; rfl
      rw [ppO_yes hc, hc]
      have hn := facB_in h1
      have hm := inI_1 h2
      simp only [↓cond_to_ite, ↓reduceIte, vc, out, finD, St.drop, vwAt, Entry.vwO, RC.vwO, Entry.toO, toOf, St.res, step, stepE, stepPick, stepG, stepO, stepC, eff, look, rem, St.put, St.setMem, setMems, St.after, St.eval, cst, val1, okNew, newHs, allHs, rdOf, Reg.item, Reg.next, slotOf, effUn, effPick, subPre, argOf, resA, resV, nodupB, argsPre, argOk, callWr, effCall, RC.flat, callGo, calleeHs, effCall2, wrHs, disj, AV.hs, A0.hs, Entry.hs, hA, initFr, initMem, initSt, resOf, resAll, compEq, compsEq, rowHs, outHds, outsEq, shapeOk, finOk, comps, A0.norm, specOf, Option.getD_some, Nat.reduceBEq, List.map_cons, List.map_nil, List.getElem?_cons_zero, List.getElem?_cons_succ, Option.map_some, Option.bind_some, Nat.zero_add, Nat.reduceAdd, true_and, and_true, List.length_cons, List.length_nil, List.all_cons, List.all_nil, Bool.and_true, Bool.true_and, Bool.not_true, Bool.not_false, List.append_nil, List.flatMap_cons, List.flatMap_nil, List.contains_nil, List.filter_cons, List.filter_nil, beq_self_eq_true, and_self, List.toList_toArray, Bool.false_eq_true, reduceIte, Try.f15, cIn, fIn, cVaShown, fVaShown, cIpProper, fIpProper, h0, h1, h2]
      (repeat' refine And.intro ?_ ?_) <;> first | assumption | kernel_rfl | (simp; done) | omega
end Go.Proofs.Ytacomnelongbjab
