/-
  Contracts of primality, of the form of a prime, of PrimeClass and its law. Conditions: none.
-/
import Derived.Test.YtacomnelongbjabRt
namespace Go.Proofs.Ytacomnelongbjab
open Go Go.RowKit
set_option maxRecDepth 100000
set_option linter.unusedSimpArgs false
set_option linter.unusedVariables false
set_option maxHeartbeats 4000000

def prL (n p : Int) : Bool := if _h : 2 ≤ p ∧ p * p ≤ n then (if n.tmod p = 0 then false else prL n (p + 1)) else true
  termination_by (n - p).toNat
  decreasing_by have := sq_ge _h.1; omega
def primeI (n : Int) : Bool := decide (2 ≤ n) && prL n 2
theorem prime_step {n : Int} (hn : n ≤ 1000000000000) {p : Int} (h2 : 2 ≤ p) (hp : p ≤ 1000001) : wrap64 (p * p) = p * p := by
  have := sq_in (n := 1000001) (by omega) (show -1000001 ≤ p ∧ p ≤ 1000001 by omega)
  exact wrap_id (by omega) (by omega)
theorem prime_small {n p : Int} (hn : n ≤ 1000000000000) (h2 : 2 ≤ p) (h : p * p ≤ n) : p ≤ 1000000 := by
  have := abs_le_of_sq (x := p) (n := 1000000) (by omega) (by omega)
  omega
theorem lt2 (n : Int) : decide (n < 2) = !decide (2 ≤ n) := by rw [Bool.eq_iff_iff]; simp
abbrev fIsPrime0 : Nat := 34
def cIsPrime0 : Ctr
  | [.i n] => some ⟨n ≤ 1000000000000, .one (.b (primeI n)), []⟩
  | _ => none
theorem okIsPrime0 : CtrOk Try.prog fIsPrime0 cIsPrime0 := by
  have hsp : SpecOk Try.prog (specOf []) := SpecOk.nil
  refine ctr_of (fn := Try.f34) mixed tab_ok hsp Try.func34 (by kernel_rfl) (by kernel_rfl) fun args ce h => ?_
  clear hsp
  unfold cIsPrime0 at h
  split at h
  case h_2 => cases h
  rename_i n
  simp only [Option.some.injEq] at h
  subst h
  refine ⟨by rfl, fun hp => ⟨1, 1000, ?_⟩⟩
  simp only [vc, out, finD, St.drop, vwAt, toOf, St.res, step, stepE, stepPick, stepO, stepC, eff, look, rem, St.put, setMems, St.after, St.eval, cst, val1, okNew, Reg.item, Reg.next, binInt, effBin, nodupB, argOk, effBin2, disj, hA, initFr, initMem, initSt, resOf, resAll, compEq, compsEq, rowHs, outHds, outsEq, shapeOk, finOk, comps, A0.norm, Option.getD_some, cond_true, cond_false, Nat.reduceBEq, List.map_nil, Option.map_some, Nat.zero_add, true_and, and_true, List.length_cons, List.length_nil, List.all_nil, Bool.and_true, Bool.not_false, List.contains_nil, beq_self_eq_true, A0.b.injEq, List.toList_toArray, Try.f34]
  have hn : n ≤ 1000000000000 := hp
  rw [lt2]
  unfold primeI
  cases h2 : decide (2 ≤ n) with
  | false => rfl
  | true =>
    refine lp_intro (fun p : Int => ⟨[(0, .one (.i n)), (3, .one (.i p))], []⟩) (fun p => 2 ≤ p ∧ p ≤ 1000001 ∧ prL n p = prL n 2) (fun p => (1000002 - p).toNat) 2 [] ⟨by omega, by omega, rfl⟩ (by simp only [Cov, covOk, covFr, covMem, rn, nodupB, A0.ren, AV.ren, look, St.eval, A0.norm, AV.norm, Option.getD_some, Option.getD_none, cond_true, cond_false, Nat.reduceBEq, List.map_nil, List.all_nil, Bool.and_true, Bool.not_true, beq_self_eq_true, and_self]) fun p hx J hJ => ⟨1000, ?_⟩
    obtain ⟨h3, h4, h5⟩ := hx
    simp only [vc, out, finD, St.drop, vwAt, toOf, St.res, step, stepE, stepPick, stepO, stepC, eff, look, rem, St.put, setMems, St.after, St.eval, cst, val1, okNew, Reg.item, Reg.next, binInt, effBin, nodupB, argOk, effBin2, disj, resOf, resAll, compEq, compsEq, rowHs, outHds, outsEq, shapeOk, finOk, comps, A0.norm, Option.getD_some, cond_true, cond_false, Nat.reduceBEq, Option.map_some, Nat.zero_add, true_and, and_true, List.length_cons, List.length_nil, List.all_nil, Bool.and_true, Bool.true_and, Bool.not_false, List.contains_nil, beq_self_eq_true, A0.b.injEq]
    rw [prime_step hn h3 h4, bif_prop]
    refine ⟨fun hb => ⟨by omega, ?_⟩, fun hb => ?_⟩
    · have hb' := of_decide_eq_true hb
      have hs := prime_small hn h3 hb'
      rw [prL.eq_def n p, dif_pos ⟨h3, hb'⟩] at h5
      rw [bif_prop]
      refine ⟨fun hm => ?_, fun hm => hJ _ (p + 1) [] ⟨by omega, by omega, ?_⟩ (by omega) (by simp only [Cov, covOk, covFr, covMem, rn, nodupB, A0.ren, AV.ren, look, St.eval, A0.norm, AV.norm, Option.getD_some, Option.getD_none, cond_true, cond_false, Nat.reduceBEq, List.map_nil, List.all_nil, Bool.and_true, beq_self_eq_true, and_self, wrap_id (n := p + 1) (by omega) (by omega)])⟩
      · rw [if_pos (by simpa using hm)] at h5
        exact h5
      · rw [if_neg (by simpa using hm)] at h5
        exact h5
    · rw [prL.eq_def n p, dif_neg (fun h => of_decide_eq_false hb h.2)] at h5
      exact h5
abbrev fNuPrime : Nat := 23
def cNuPrime : Ctr
  | [.i n] => some ⟨n ≤ 1000000000000, .one (.b (primeI n)), []⟩
  | _ => none
theorem okNuPrime : CtrOk Try.prog fNuPrime cNuPrime := by
  have hsp : SpecOk Try.prog (specOf []) := SpecOk.nil
  refine ctr_of (fn := Try.f23) mixed tab_ok hsp Try.func23 (by kernel_rfl) (by kernel_rfl) fun args ce h => ?_
  clear hsp
  unfold cNuPrime at h
  split at h
  case h_2 => cases h
  rename_i n
  simp only [Option.some.injEq] at h
  subst h
  refine ⟨by rfl, fun hp => ⟨1, 1000, ?_⟩⟩
  simp only [vc, out, finD, St.drop, vwAt, toOf, St.res, step, stepE, stepPick, stepO, stepC, eff, look, rem, St.put, setMems, St.after, St.eval, cst, val1, okNew, Reg.item, Reg.next, binInt, effBin, nodupB, argOk, effBin2, disj, hA, initFr, initMem, initSt, resOf, resAll, compEq, compsEq, rowHs, outHds, outsEq, shapeOk, finOk, comps, A0.norm, Option.getD_some, cond_true, cond_false, Nat.reduceBEq, List.map_nil, Option.map_some, Nat.zero_add, true_and, and_true, List.length_cons, List.length_nil, List.all_nil, Bool.and_true, Bool.not_false, List.contains_nil, beq_self_eq_true, A0.b.injEq, List.toList_toArray, Try.f23]
  have hn : n ≤ 1000000000000 := hp
  rw [lt2]
  unfold primeI
  cases h2 : decide (2 ≤ n) with
  | false => rfl
  | true =>
    refine lp_intro (fun p : Int => ⟨[(0, .one (.i n)), (3, .one (.i p))], []⟩) (fun p => 2 ≤ p ∧ p ≤ 1000001 ∧ prL n p = prL n 2) (fun p => (1000002 - p).toNat) 2 [] ⟨by omega, by omega, rfl⟩ (by simp only [Cov, covOk, covFr, covMem, rn, nodupB, A0.ren, AV.ren, look, St.eval, A0.norm, AV.norm, Option.getD_some, Option.getD_none, cond_true, cond_false, Nat.reduceBEq, List.map_nil, List.all_nil, Bool.and_true, Bool.not_true, beq_self_eq_true, and_self]) fun p hx J hJ => ⟨1000, ?_⟩
    obtain ⟨h3, h4, h5⟩ := hx
    simp only [vc, out, finD, St.drop, vwAt, toOf, St.res, step, stepE, stepPick, stepO, stepC, eff, look, rem, St.put, setMems, St.after, St.eval, cst, val1, okNew, Reg.item, Reg.next, binInt, effBin, nodupB, argOk, effBin2, disj, resOf, resAll, compEq, compsEq, rowHs, outHds, outsEq, shapeOk, finOk, comps, A0.norm, Option.getD_some, cond_true, cond_false, Nat.reduceBEq, Option.map_some, Nat.zero_add, true_and, and_true, List.length_cons, List.length_nil, List.all_nil, Bool.and_true, Bool.true_and, Bool.not_false, List.contains_nil, beq_self_eq_true, A0.b.injEq]
    rw [prime_step hn h3 h4, bif_prop]
    refine ⟨fun hb => ⟨by omega, ?_⟩, fun hb => ?_⟩
    · have hb' := of_decide_eq_true hb
      have hs := prime_small hn h3 hb'
      rw [prL.eq_def n p, dif_pos ⟨h3, hb'⟩] at h5
      rw [bif_prop]
      refine ⟨fun hm => ?_, fun hm => hJ _ (p + 1) [] ⟨by omega, by omega, ?_⟩ (by omega) (by simp only [Cov, covOk, covFr, covMem, rn, nodupB, A0.ren, AV.ren, look, St.eval, A0.norm, AV.norm, Option.getD_some, Option.getD_none, cond_true, cond_false, Nat.reduceBEq, List.map_nil, List.all_nil, Bool.and_true, beq_self_eq_true, and_self, wrap_id (n := p + 1) (by omega) (by omega)])⟩
      · rw [if_pos (by simpa using hm)] at h5
        exact h5
      · rw [if_neg (by simpa using hm)] at h5
        exact h5
    · rw [prL.eq_def n p, dif_neg (fun h => of_decide_eq_false hb h.2)] at h5
      exact h5
theorem primeI_ge {n : Int} (h : primeI n = true) : 2 ≤ n := by
  simp only [primeI, Bool.and_eq_true, decide_eq_true_eq] at h
  exact h.1
def shPrimeB (p : Int) : Bool := decide (p ≤ 10000) && primeI p
theorem shPrime_in {p : Int} (h : shPrimeB p = true) : 2 ≤ p ∧ p ≤ 10000 := by
  simp only [shPrimeB, Bool.and_eq_true, decide_eq_true_eq] at h
  exact ⟨primeI_ge h.2, h.1⟩
abbrev fIsShPrime : Nat := 26
def cIsShPrime : Ctr
  | [.i p] => some ⟨True, .one (.b (shPrimeB p)), []⟩
  | _ => none
theorem okIsShPrime : CtrOk Try.prog fIsShPrime cIsShPrime := by
  have hsp : SpecOk Try.prog (specOf [(fIsPrime0, cIsPrime0)]) := (SpecOk.cons okIsPrime0 SpecOk.nil)
  refine ctr_of (fn := Try.f26) mixed tab_ok hsp Try.func26 (by kernel_rfl) (by kernel_rfl) fun args ce h => ?_
  clear hsp
  unfold cIsShPrime at h
  split at h
  case h_2 => cases h
  rename_i p
  simp only [Option.some.injEq] at h
  subst h
  refine ⟨by rfl, fun hp => ⟨0, 1000, ?_⟩⟩
  simp only [vc, out, finD, St.drop, vwAt, toOf, St.res, step, stepE, stepPick, stepG, stepO, eff, look, rem, St.put, setMems, St.after, St.eval, cst, val1, okNew, Reg.item, Reg.next, Reg.skip, slotOf, binInt, effBin, effPick, subPre, argOf, resA, resV, nodupB, argsPre, argOk, callWr, effCall, callGo, effBin2, effCall2, wrHs, disj, AV.hs, A0.hs, initFr, initMem, initSt, resOf, resAll, compEq, compsEq, rowHs, outHds, outsEq, shapeOk, finOk, comps, A0.norm, specOf, Option.getD_some, cond_true, cond_false, Nat.reduceBEq, List.map_cons, List.map_nil, List.getElem?_cons_zero, List.getElem?_cons_succ, Option.map_some, Option.bind_some, Nat.zero_add, true_and, and_true, List.length_cons, List.length_nil, List.all_cons, List.all_nil, Bool.and_true, Bool.not_false, List.append_nil, List.flatMap_cons, List.flatMap_nil, List.contains_nil, beq_self_eq_true, A0.b.injEq, and_self, List.toList_toArray, cIsPrime0, fIsPrime0, Try.f26]
  unfold shPrimeB
  cases h : decide (p ≤ 10000) with
  | false => rfl
  | true => exact ⟨by have := of_decide_eq_true h; omega, rfl⟩
abbrev fIpPrime : Nat := 29
def cIpPrime : Ctr
  | [.i p] => some ⟨True, .one (.b (shPrimeB p)), []⟩
  | _ => none
theorem okIpPrime : CtrOk Try.prog fIpPrime cIpPrime := by
  have hsp : SpecOk Try.prog (specOf [(fIn, cIn), (fNuPrime, cNuPrime)]) := (SpecOk.cons okIn (SpecOk.cons okNuPrime SpecOk.nil))
  refine ctr_of (fn := Try.f29) mixed tab_ok hsp Try.func29 (by kernel_rfl) (by kernel_rfl) fun args ce h => ?_
  clear hsp
  unfold cIpPrime at h
  split at h
  case h_2 => cases h
  rename_i p
  simp only [Option.some.injEq] at h
  subst h
  refine ⟨by rfl, fun hp => ⟨0, 1000, ?_⟩⟩
  simp only [vc, out, finD, St.drop, vwAt, toOf, St.res, step, stepE, stepPick, stepG, stepO, eff, look, rem, St.put, setMems, St.after, St.eval, cst, val1, okNew, Reg.item, Reg.next, Reg.skip, slotOf, effPick, subPre, argOf, resA, resV, nodupB, argsPre, argOk, callWr, effCall, callGo, effCall2, wrHs, disj, AV.hs, A0.hs, initFr, initMem, initSt, resOf, resAll, compEq, compsEq, rowHs, outHds, outsEq, shapeOk, finOk, comps, A0.norm, specOf, Option.getD_some, cond_true, cond_false, Nat.reduceBEq, List.map_cons, List.map_nil, List.getElem?_cons_zero, List.getElem?_cons_succ, Option.map_some, Option.bind_some, Nat.zero_add, true_and, and_true, List.length_cons, List.length_nil, List.all_cons, List.all_nil, Bool.and_true, Bool.not_false, List.append_nil, List.flatMap_cons, List.flatMap_nil, List.contains_nil, beq_self_eq_true, A0.b.injEq, and_self, List.toList_toArray, cIn, fIn, cNuPrime, fNuPrime, Try.f29]
  unfold shPrimeB inI
  cases h : decide (p ≤ 10000) with
  | false => rw [Bool.and_false]; rfl
  | true =>
    cases h2 : decide (p ≥ 2) with
    | false =>
      have : primeI p = false := by
        have h3 : decide (2 ≤ p) = false := h2
        unfold primeI
        rw [h3]; rfl
      rw [this]; rfl
    | true => exact ⟨by have := of_decide_eq_true h; omega, rfl⟩
/-- the first b for which 4 p divides b b - d -/
def pfL (d p b : Int) : Option Int := if _h : b ≤ p then (if (wrap64 (wrap64 (b * b) - d)).tmod (wrap64 (4 * p)) = 0 then some b else pfL d p (b + 1)) else none
  termination_by (p + 1 - b).toNat
  decreasing_by omega
def pfC (d p b : Int) : Int := wrap64 ((wrap64 (wrap64 (b * b) - d)).tdiv (wrap64 (4 * p)))
def pfF (d p : Int) : F3 := match pfL d p 0 with | some b => (p, b, pfC d p b) | none => (0, 0, 0)
def pfB (d p : Int) : Bool := match pfL d p 0 with | some b => gcdI p (gcdI b (pfC d p b)) == 1 | none => false
theorem pfL_in {d p : Int} (b : Int) {x : Int} (h : pfL d p b = some x) : b ≤ x ∧ x ≤ p := by
  fun_induction pfL d p b with
  | case1 b hb hm => cases h; exact ⟨Int.le_refl _, hb⟩
  | case2 b hb hm ih => have := ih h; omega
  | case3 b hb => cases h
theorem pfC_in {d p b : Int} (hd : -2000 ≤ d ∧ d ≤ -3) (hp : 2 ≤ p ∧ p ≤ 10000) (hb : 0 ≤ b ∧ b ≤ p) : pfC d p b = (b * b - d) / (4 * p) ∧ 0 ≤ pfC d p b ∧ pfC d p b ≤ 10000 ∧ wrap64 (wrap64 (b * b) - d) = b * b - d ∧ wrap64 (4 * p) = 4 * p := by
  have h1 := sq_in (n := p) (by omega) (show -p ≤ b ∧ b ≤ p by omega)
  have h2 := sq_in (n := 10000) (by omega) (show -10000 ≤ p ∧ p ≤ 10000 by omega)
  have e1 : wrap64 (wrap64 (b * b) - d) = b * b - d := by rw [wrap_id (n := b * b) (by omega) (by omega), wrap_id (by omega) (by omega)]
  have e2 : wrap64 (4 * p) = 4 * p := wrap_id (by omega) (by omega)
  have h3 : 0 ≤ (b * b - d) / (4 * p) := Int.ediv_nonneg (by omega) (by omega)
  have h4 : (b * b - d) / (4 * p) ≤ 10000 := by
    apply Int.le_of_lt_add_one
    apply Int.ediv_lt_of_lt_mul (by omega)
    have h5 : p * p ≤ 10000 * p := Int.mul_le_mul_of_nonneg_right hp.2 (by omega)
    omega
  have e3 : pfC d p b = (b * b - d) / (4 * p) := by
    unfold pfC
    rw [e1, e2, Int.tdiv_eq_ediv_of_nonneg (by omega), wrap_id (by omega) (by omega)]
  exact ⟨e3, by omega, by omega, e1, e2⟩
-- (not in this seat: PrimeForm0)
theorem pf_content {d p b : Int} (hd : -2000 ≤ d ∧ d ≤ -3) (hp : 2 ≤ p ∧ p ≤ 10000) (hb : 0 ≤ b ∧ b ≤ p) : nuGcdI (nuGcdI p b) (pfC d p b) = gcdI p (gcdI b (pfC d p b)) := by
  have := pfC_in hd hp hb
  exact content_eq (by omega) (by omega) (by omega)
-- (not in this seat: IpForm)
def pcB (d p : Int) : Bool := (negB d && shPrimeB p) && pfB d p
theorem pf_dom {d p : Int} (h : pcB d p = true) : domB (pfF d p).1 (pfF d p).2.1 (pfF d p).2.2 = true := by
  simp only [pcB, Bool.and_eq_true] at h
  obtain ⟨⟨h1, h2⟩, h3⟩ := h
  have hd := negB_in h1
  have hp := shPrime_in h2
  unfold pfB at h3
  unfold pfF
  cases hl : pfL d p 0 with
  | none => rw [hl] at h3; cases h3
  | some b =>
    have hb := pfL_in 0 hl
    obtain ⟨e1, e2, e3, e4, e5⟩ := pfC_in hd hp ⟨hb.1, hb.2⟩
    have hm : (wrap64 (wrap64 (b * b) - d)).tmod (wrap64 (4 * p)) = 0 := by
      have : ∀ b0 : Int, pfL d p b0 = some b → (wrap64 (wrap64 (b * b) - d)).tmod (wrap64 (4 * p)) = 0 := by
        intro b0 h
        fun_induction pfL d p b0 with
        | case1 b1 hb hm => cases h; exact hm
        | case2 b1 hb hm ih => exact ih h
        | case3 b1 hb => cases h
      exact this 0 hl
    have hsq := sq_nonneg b
    rw [e4, e5, Int.tmod_eq_emod_of_nonneg (by omega)] at hm
    have h6 := Int.mul_ediv_add_emod (b * b - d) (4 * p)
    rw [← e1, hm] at h6
    refine domB_iff.2 ⟨by simp only; omega, ?_, by simp only; omega, by simp only; omega, by simp only; omega, by simp only; omega⟩
    simp only
    have h7 : pfC d p b ≠ 0 := fun e => by rw [e] at h6; simp at h6; omega
    omega
-- (not in this seat: PrimeFormC)
def pcA (d p : Int) : Int := onB (pcB d p) (rdA (pfF d p).1 (pfF d p).2.1 (pfF d p).2.2)
def pcBB (d p : Int) : Int := onB (pcB d p) (rdB (pfF d p).1 (pfF d p).2.1 (pfF d p).2.2)
def pcC (d p : Int) : Int := onB (pcB d p) (rdC (pfF d p).1 (pfF d p).2.1 (pfF d p).2.2)
-- (not in this seat: PrimeClass)
-- (not in this seat: SPrimeClass)
-- (not in this seat: LawPrimeClass)
end Go.Proofs.Ytacomnelongbjab
