/-
  Contracts of CountModulo on both sides. Conditions: none.
-/
import Derived.Test.YtacomnelongbjaaCnm
import Derived.Test.YtacomnelongbjaaSol
import Derived.Test.YtacomnelongbjaaIte
namespace Go.Proofs.Ytacomnelongbjaa
open Go Go.RowKit
set_option maxRecDepth 100000
set_option linter.unusedSimpArgs false
set_option linter.unusedVariables false
set_option maxHeartbeats 4000000

def cmB (a b c p : Int) : Bool := triB a b c && (inI p 2 31 && primeI p)
def cmN (a b c p : Int) : Int := (cn3 a b c p.toNat : Nat)
def tsI (a b c : Int) (x y z : Int) : Int := wrap64 (wrap64 (wrap64 (wrap64 (a * x) * x) + wrap64 (wrap64 (b * y) * y)) + wrap64 (wrap64 (c * z) * z))
theorem ts_zr {a b c : Int} {q x y z : Nat} (h : triB a b c = true) (hq : 2 ≤ q ∧ q ≤ 31) (hx : x < q) (hy : y < q) (hz : z < q) : ((tsI a b c x y z).tmod q == 0) = (zr a b c q x y z == 1) := by
  obtain ⟨⟨ha, hb, hc⟩, _⟩ := triB_iff h
  have k1 := mul_bd (a := a) (b := (x : Int)) (j := 400) (k := 31) (by omega) (by omega) ha ⟨by omega, by omega⟩
  have k2 := mul_bd (a := a * x) (b := (x : Int)) (j := 12400) (k := 31) (by omega) (by omega) ⟨by omega, by omega⟩ ⟨by omega, by omega⟩
  have k3 := mul_bd (a := b) (b := (y : Int)) (j := 400) (k := 31) (by omega) (by omega) hb ⟨by omega, by omega⟩
  have k4 := mul_bd (a := b * y) (b := (y : Int)) (j := 12400) (k := 31) (by omega) (by omega) ⟨by omega, by omega⟩ ⟨by omega, by omega⟩
  have k5 := mul_bd (a := c) (b := (z : Int)) (j := 400) (k := 31) (by omega) (by omega) hc ⟨by omega, by omega⟩
  have k6 := mul_bd (a := c * z) (b := (z : Int)) (j := 12400) (k := 31) (by omega) (by omega) ⟨by omega, by omega⟩ ⟨by omega, by omega⟩
  have e : tsI a b c x y z = a * x * x + b * y * y + c * z * z := by
    unfold tsI
    rw [wrap_id (n := a * x) (by omega) (by omega), wrap_id (n := a * x * x) (by omega) (by omega), wrap_id (n := b * y) (by omega) (by omega), wrap_id (n := b * y * y) (by omega) (by omega), wrap_id (n := c * z) (by omega) (by omega), wrap_id (n := c * z * z) (by omega) (by omega), wrap_id (n := a * x * x + b * y * y) (by omega) (by omega), wrap_id (by omega) (by omega)]
  rw [e]
  unfold zr
  generalize a * x * x + b * y * y + c * z * z = n
  have e2 : (n.tmod q = 0) ↔ (n % (q : Int) = 0) := by rw [← Int.dvd_iff_emod_eq_zero]; exact ⟨Int.dvd_of_tmod_eq_zero, Int.tmod_eq_zero_of_dvd⟩
  by_cases g : n % (q : Int) = 0
  · rw [if_pos g, e2.2 g]; rfl
  · rw [if_neg g]
    have : n.tmod q ≠ 0 := fun h => g (e2.1 h)
    simpa using this
theorem zi_le (a b c : Int) (p i : Nat) : zi a b c p i ≤ 1 := zr_le ..
theorem q3_le {q : Nat} (h : q ≤ 31) : q * q * q ≤ 29791 := Nat.mul_le_mul (Nat.mul_le_mul h h) h
theorem cnt_step {a b c : Int} {q i : Nat} {T : Bool} (hi : i ≤ 29791) (hT : (zi a b c q i == 1) = T) : ((sumN (i + 1) (zi a b c q) : Nat) : Int) = bif T then wrap64 ((sumN i (zi a b c q) : Nat) + 1) else (sumN i (zi a b c q) : Nat) := by
  have h1 := sumN_le (n := i) (f := zi a b c q) (k := 1) fun i _ => zi_le ..
  have h2 := zi_le a b c q i
  cases T with
  | true =>
    have h3 : zi a b c q i = 1 := by simpa using hT
    rw [cond_true, wrap_id (by omega) (by omega), sumN, h3]; rfl
  | false =>
    have h3 : zi a b c q i ≠ 1 := by simpa using hT
    rw [cond_false, sumN]; omega
theorem nat_div (i q : Nat) (h : i ≤ 1000000) : wrap64 ((i : Int).tdiv (q : Int)) = ((i / q : Nat) : Int) := by
  have h1 := Nat.div_le_self i q
  rw [Int.tdiv_eq_ediv_of_nonneg (Int.natCast_nonneg i), ← Int.natCast_ediv]
  generalize i / q = D at *
  exact wrap_id (by omega) (by omega)
theorem nat_mod (i q : Nat) : (i : Int).tmod (q : Int) = ((i % q : Nat) : Int) := by rw [Int.tmod_eq_emod_of_nonneg (Int.natCast_nonneg i), ← Int.natCast_emod]
theorem cm_facts {a b c : Int} {q i M : Nat} (h1 : triB a b c = true) (hq : 2 ≤ q ∧ q ≤ 31) (hM : q * q * q = M) (q3 : M ≤ 29791) (g : i < M) :
    ∃ D X Y Z : Nat, ∃ T : Bool, wrap64 ((i : Int).tdiv (q : Int)) = (D : Int) ∧ wrap64 ((D : Int).tdiv (q : Int)) = (X : Int) ∧ (D : Int).tmod (q : Int) = (Y : Int) ∧ (i : Int).tmod (q : Int) = (Z : Int) ∧ ((tsI a b c X Y Z).tmod q == 0) = T ∧ wrap64 ((i : Int) + 1) = ((i + 1 : Nat) : Int) ∧ ((sumN (i + 1) (zi a b c q) : Nat) : Int) = bif T then wrap64 ((sumN i (zi a b c q) : Nat) + 1) else (sumN i (zi a b c q) : Nat) := by
  have f1 := nat_div i q (by omega)
  have f2 := nat_div (i / q) q (by have := Nat.div_le_self i q; omega)
  have f3 := nat_mod (i / q) q
  have f4 := nat_mod i q
  have x1 : i / q / q < q := by
    rw [Nat.div_div_eq_div_mul]
    exact Nat.div_lt_of_lt_mul (by rw [hM]; exact g)
  have y1 : i / q % q < q := Nat.mod_lt _ (by omega)
  have z1 : i % q < q := Nat.mod_lt _ (by omega)
  have hts := ts_zr h1 hq x1 y1 z1
  exact ⟨i / q, i / q / q, i / q % q, i % q, _, f1, f2, f3, f4, hts, wsucc g (Nat.le_trans q3 (by decide)), cnt_step (Nat.le_of_lt (Nat.lt_of_lt_of_le g q3)) rfl⟩
abbrev fCountM : Nat := 11
def cCountM : Ctr
  | [.s [a, b, c], .i p] => some ⟨True, .tup [.i (onB (cmB a b c p) (cmN a b c p)), .b (cmB a b c p)], []⟩
  | _ => none
theorem okCountM : CtrOk Try.prog fCountM cCountM := by
  have hsp : SpecOk Try.prog (specOf [(fIsTriple, cIsTriple), (fIsPrime0, cIsPrime0)]) := (SpecOk.cons okIsTriple (SpecOk.cons okIsPrime0 SpecOk.nil))
  refine ctr_of (fn := Try.f11) mixed tab_ok hsp Try.func11 (by kernel_rfl) (by kernel_rfl) fun args ce h => ?_
  clear hsp
  unfold cCountM at h
  split at h
  case h_2 => cases h
  rename_i a b c p
  simp only [Option.some.injEq] at h
  subst h
  refine ⟨by rfl, fun hp => ⟨1, 1000, ?_⟩⟩
  have hgt : decide (p > 31) = !decide (p ≤ 31) := by rw [Bool.eq_iff_iff]; simp
  cases h1 : triB a b c with
  | false =>
    have eB : cmB a b c p = false := by unfold cmB; rw [h1]; rfl
    rw [eB]
    simp only [↓cond_to_ite, ↓reduceIte, vc, out, finD, St.drop, vwAt, Entry.vwO, Entry.toO, toOf, St.res, step, stepE, stepPick, stepG, stepO, stepC, eff, look, rem, St.put, St.setMem, setMems, St.after, St.eval, cst, val1, okNew, newHs, allHs, rdOf, Reg.item, Reg.next, Reg.skip, slotOf, effBox, loadI, effLoad, effUn, effPick, subPre, argOf, resA, resV, nodupB, argsPre, argOk, callWr, effCall, effBox2, callGo, effBox3, effLoad2, effLoad3, effBox4, effCall2, wrHs, disj, AV.hs, A0.hs, Entry.hs, hA, initFr, initMem, initSt, resOf, resAll, compEq, compsEq, rowHs, outHds, outsEq, shapeOk, finOk, comps, A0.norm, specOf, t_implTriple, Option.getD_some, Nat.reduceBEq, List.map_cons, List.map_nil, List.getElem?_cons_zero, List.getElem?_cons_succ, List.drop_zero, List.take_succ_cons, List.take_zero, Option.map_some, Option.bind_some, Nat.zero_add, Nat.reduceAdd, true_and, and_true, List.length_cons, List.length_nil, List.all_cons, List.all_nil, Bool.and_true, Bool.true_and, Bool.not_false, List.append_nil, List.flatMap_cons, List.flatMap_nil, List.contains_nil, List.filter_cons, List.filter_nil, beq_self_eq_true, A0.i.injEq, ble_dec, Nat.reduceLeDiff, decide_true, and_self, List.toList_toArray, Bool.false_eq_true, reduceIte, Try.f11, cIsTriple, fIsTriple, h1]
    (repeat' refine And.intro ?_ ?_) <;> first | assumption | kernel_rfl | (simp; done)
  | true =>
    cases h2 : decide (p ≤ 31) with
    | false =>
      have eB : cmB a b c p = false := by unfold cmB inI; rw [h2]; simp
      rw [h2] at hgt
      rw [eB]
      simp only [↓cond_to_ite, ↓reduceIte, vc, out, finD, St.drop, vwAt, Entry.vwO, Entry.toO, toOf, St.res, step, stepE, stepPick, stepG, stepO, stepC, eff, look, rem, St.put, St.setMem, setMems, St.after, St.eval, cst, val1, okNew, newHs, allHs, rdOf, Reg.item, Reg.next, Reg.skip, slotOf, effBox, loadI, effLoad, binInt, effBin, effUn, effPick, subPre, argOf, resA, resV, nodupB, argsPre, argOk, callWr, effCall, effBox2, callGo, effBox3, effLoad2, effLoad3, effBin2, effBox4, effCall2, wrHs, disj, AV.hs, A0.hs, Entry.hs, hA, initFr, initMem, initSt, resOf, resAll, compEq, compsEq, rowHs, outHds, outsEq, shapeOk, finOk, comps, A0.norm, specOf, t_implTriple, Option.getD_some, Nat.reduceBEq, List.map_cons, List.map_nil, List.getElem?_cons_zero, List.getElem?_cons_succ, List.drop_zero, List.take_succ_cons, List.take_zero, Option.map_some, Option.bind_some, Nat.zero_add, Nat.reduceAdd, true_and, and_true, List.length_cons, List.length_nil, List.all_cons, List.all_nil, Bool.and_true, Bool.true_and, Bool.not_true, Bool.not_false, List.append_nil, List.flatMap_cons, List.flatMap_nil, List.contains_nil, List.filter_cons, List.filter_nil, beq_self_eq_true, A0.i.injEq, ble_dec, Nat.reduceLeDiff, decide_true, and_self, List.toList_toArray, Bool.false_eq_true, reduceIte, Try.f11, cIsTriple, fIsTriple, h1, hgt]
      (repeat' refine And.intro ?_ ?_) <;> first | assumption | kernel_rfl | (simp; done)
    | true =>
      rw [h2] at hgt
      have h2' : p ≤ 31 := of_decide_eq_true h2
      have h2'' : p ≤ 1000000000000 := by omega
      cases h3 : primeI p with
      | false =>
        have eB : cmB a b c p = false := by unfold cmB; rw [h3]; simp
        rw [eB]
        simp only [↓cond_to_ite, ↓reduceIte, vc, out, finD, St.drop, vwAt, Entry.vwO, Entry.toO, toOf, St.res, step, stepE, stepPick, stepG, stepO, stepC, eff, look, rem, St.put, St.setMem, setMems, St.after, St.eval, cst, val1, okNew, newHs, allHs, rdOf, Reg.item, Reg.next, slotOf, effBox, loadI, effLoad, binInt, effBin, effUn, effPick, subPre, argOf, resA, resV, nodupB, argsPre, argOk, callWr, effCall, effBox2, callGo, effBox3, effLoad2, effLoad3, effBin2, effBox4, effCall2, wrHs, disj, AV.hs, A0.hs, Entry.hs, hA, initFr, initMem, initSt, resOf, resAll, compEq, compsEq, rowHs, outHds, outsEq, shapeOk, finOk, comps, A0.norm, specOf, t_implTriple, Option.getD_some, Nat.reduceBEq, List.map_cons, List.map_nil, List.getElem?_cons_zero, List.getElem?_cons_succ, List.drop_zero, List.take_succ_cons, List.take_zero, Option.map_some, Option.bind_some, Nat.zero_add, Nat.reduceAdd, true_and, and_true, List.length_cons, List.length_nil, List.all_cons, List.all_nil, Bool.and_true, Bool.true_and, Bool.not_true, Bool.not_false, List.append_nil, List.flatMap_cons, List.flatMap_nil, List.contains_nil, List.filter_cons, List.filter_nil, beq_self_eq_true, A0.i.injEq, ble_dec, Nat.reduceLeDiff, decide_true, and_self, List.toList_toArray, Bool.false_eq_true, reduceIte, Try.f11, cIsTriple, fIsTriple, cIsPrime0, fIsPrime0, h1, hgt, h3]
        (repeat' refine And.intro ?_ ?_) <;> first | assumption | kernel_rfl | (simp; done)
      | true =>
        have h4 := primeI_ge h3
        have eB : cmB a b c p = true := by unfold cmB inI; rw [h1, h2, h3, decide_eq_true (show p ≥ 2 by omega)]; rfl
        rw [eB]
        obtain ⟨q, rfl⟩ : ∃ q : Nat, p = q := ⟨p.toNat, by omega⟩
        have hq : 2 ≤ q ∧ q ≤ 31 := by omega
        have q3 := q3_le hq.2
        have eN : cmN a b c (q : Int) = (sumN (q * q * q) (zi a b c q) : Nat) := by unfold cmN; rw [Int.toNat_natCast, zi_all _ _ _ (by omega)]
        rw [eN]
        have w1 : wrap64 ((q : Int) * q) = ((q * q : Nat) : Int) := by
          have := Nat.mul_le_mul hq.2 hq.2
          rw [wrap_id (by rw [← Int.natCast_mul]; omega) (by rw [← Int.natCast_mul]; omega), Int.natCast_mul]
        have w2 : wrap64 (((q * q : Nat) : Int) * q) = ((q * q * q : Nat) : Int) := by
          rw [wrap_id (by rw [← Int.natCast_mul]; omega) (by rw [← Int.natCast_mul]; omega), ← Int.natCast_mul]
        have qn : (q : Int) ≠ 0 := by omega
        clear hgt h2 eN
        generalize hM : q * q * q = M at *
        simp only [↓cond_to_ite, ↓reduceIte, vc, out, Entry.toO, toOf, St.res, step, stepE, stepPick, stepG, stepO, stepC, eff, look, rem, St.put, St.setMem, setMems, St.after, St.eval, cst, val1, okNew, newHs, allHs, rdOf, Reg.item, Reg.next, slotOf, effBox, loadI, effLoad, binInt, effBin, effUn, effPick, subPre, argOf, resA, resV, argsPre, argOk, callWr, effCall, effBox2, callGo, effBox3, effLoad2, effLoad3, effBin2, effBox4, effCall2, wrHs, disj, AV.hs, A0.hs, Entry.hs, hA, initFr, initMem, initSt, specOf, t_implTriple, Option.getD_some, Nat.reduceBEq, List.map_cons, List.map_nil, List.getElem?_cons_zero, List.getElem?_cons_succ, List.drop_zero, List.take_succ_cons, List.take_zero, Option.bind_some, Nat.zero_add, Nat.reduceAdd, true_and, and_true, List.length_cons, List.length_nil, List.all_cons, List.all_nil, Bool.and_true, Bool.not_true, Bool.not_false, List.append_nil, List.flatMap_cons, List.flatMap_nil, List.contains_nil, List.filter_cons, List.filter_nil, beq_self_eq_true, ble_dec, Nat.reduceLeDiff, decide_true, and_self, List.toList_toArray, Bool.false_eq_true, reduceIte, Try.f11, cIsTriple, fIsTriple, cIsPrime0, fIsPrime0, h1, h3, decide_eq_false (show ¬ (q : Int) > 31 by omega)]
        refine ⟨h2'', ?_⟩
        refine lp_intro (fun i : Nat => ⟨[(1, .one (.i (q : Int))), (2, .one (.ref 2 0)), (6, .one (.i (sumN i (zi a b c q) : Nat))), (7, .one (.i (i : Int)))], [(2, .ibox 25 [a, b, c])]⟩)
          (fun i => i ≤ M) (fun i => M - i) 0 [] (Nat.zero_le _) (by simp only [Cov, covOk, covFr, covMem, entEq, rn, nodupB, A0.ren, AV.ren, Entry.ren, Entry.norm, look, St.eval, A0.norm, AV.norm, Option.getD_some, Option.getD_none, cond_true, cond_false, Nat.reduceBEq, List.map_cons, List.map_nil, true_and, and_true, List.all_nil, Bool.and_true, Bool.not_false, List.contains_nil, beq_self_eq_true, A0.i.injEq, AV.one.injEq, and_self]; exact ⟨rfl, rfl⟩) fun i hi J hJ => ⟨1000, ?_⟩
        by_cases g : i < M
        · have g1 : decide ((i : Int) < (M : Int)) = true := decide_eq_true (by omega)
          obtain ⟨D, X, Y, Z, T, f1, f2, f3, f4, hts, hw, hs⟩ := cm_facts h1 hq hM q3 g
          unfold tsI at hts
          clear hM q3
          cases T with
          | true =>
            rw [cond_true] at hs
            simp only [↓cond_to_ite, ↓reduceIte, vc, out, Entry.toO, toOf, St.res, step, stepE, stepPick, stepO, stepC, eff, look, rem, St.put, setMems, St.after, St.eval, cst, val1, okNew, allHs, rdOf, outHs, Reg.item, Reg.next, fieldOff, effField, loadI, effLoad, binInt, effBin, effLoad2, effField2, effField3, effLoad3, effBin2, wrHs, AV.hs, A0.hs, Entry.hs, t_int, t_implTriple, Option.getD_some, Nat.reduceBEq, List.map_cons, List.map_nil, List.getElem?_cons_zero, List.getElem?_cons_succ, Option.map_some, Nat.zero_add, Nat.add_zero, true_and, List.append_nil, List.nil_append, List.cons_append, List.flatMap_cons, List.flatMap_nil, beq_self_eq_true, Bool.false_eq_true, reduceIte, w1, w2, g1, f1, f2, f3, f4, hts]
            exact ⟨qn, qn, qn, qn, qn, by kernel_rfl, qn, hJ _ (i + 1) [] g (Nat.sub_succ_lt_self _ _ g) (by simp only [Cov, covOk, covFr, covMem, entEq, rn, nodupB, A0.ren, AV.ren, Entry.ren, Entry.norm, look, St.eval, A0.norm, AV.norm, Option.getD_some, Option.getD_none, cond_true, cond_false, Nat.reduceBEq, List.map_cons, List.map_nil, List.all_nil, Bool.and_true, Bool.not_false, List.contains_nil, beq_self_eq_true, and_self, hw, hs])⟩
          | false =>
            rw [cond_false] at hs
            simp only [↓cond_to_ite, ↓reduceIte, vc, out, Entry.toO, toOf, St.res, step, stepE, stepPick, stepO, stepC, eff, look, rem, St.put, setMems, St.after, St.eval, cst, val1, okNew, allHs, rdOf, outHs, Reg.item, Reg.next, fieldOff, effField, loadI, effLoad, binInt, effBin, effLoad2, effField2, effField3, effLoad3, effBin2, wrHs, AV.hs, A0.hs, Entry.hs, t_int, t_implTriple, Option.getD_some, Nat.reduceBEq, List.map_cons, List.map_nil, List.getElem?_cons_zero, List.getElem?_cons_succ, Option.map_some, Nat.zero_add, Nat.add_zero, true_and, List.append_nil, List.nil_append, List.cons_append, List.flatMap_cons, List.flatMap_nil, beq_self_eq_true, Bool.false_eq_true, reduceIte, w1, w2, g1, f1, f2, f3, f4, hts]
            exact ⟨qn, qn, qn, qn, qn, by kernel_rfl, qn, hJ _ (i + 1) [] g (Nat.sub_succ_lt_self _ _ g) (by simp only [Cov, covOk, covFr, covMem, entEq, rn, nodupB, A0.ren, AV.ren, Entry.ren, Entry.norm, look, St.eval, A0.norm, AV.norm, Option.getD_some, Option.getD_none, cond_true, cond_false, Nat.reduceBEq, List.map_cons, List.map_nil, List.all_nil, Bool.and_true, Bool.not_false, List.contains_nil, beq_self_eq_true, and_self, hw, hs])⟩
        · have : i = M := by omega
          subst this
          have g1 : decide ((i : Int) < (i : Int)) = false := decide_eq_false (by omega)
          simp only [↓cond_to_ite, ↓reduceIte, vc, out, finD, St.drop, vwAt, Entry.vwO, Entry.toO, toOf, St.res, step, stepE, stepPick, stepO, stepC, eff, look, rem, St.put, setMems, St.after, St.eval, cst, val1, okNew, Reg.item, Reg.next, binInt, effBin, nodupB, argOk, effBin2, disj, resOf, resAll, compEq, compsEq, rowHs, outHds, outsEq, shapeOk, finOk, comps, A0.norm, Option.getD_some, Nat.reduceBEq, Option.map_some, Nat.zero_add, Nat.reduceAdd, true_and, and_true, List.length_cons, List.length_nil, List.all_nil, Bool.and_true, Bool.true_and, Bool.not_false, List.contains_nil, beq_self_eq_true, A0.i.injEq, and_self, Bool.false_eq_true, reduceIte, w1, w2, g1]
          (repeat' refine And.intro ?_ ?_) <;> first | assumption | kernel_rfl | (simp; done)
end Go.Proofs.Ytacomnelongbjaa
