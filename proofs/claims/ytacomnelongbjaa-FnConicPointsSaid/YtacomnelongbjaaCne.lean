/-
  Contracts: the specification's CountModulo, and the draws of a triple with spot and of a triple with a prime. Conditions: none.
-/
import Derived.Test.YtacomnelongbjaaCnc
import Derived.Test.YtacomnelongbjaaDrc
namespace Go.Proofs.Ytacomnelongbjaa
open Go Go.RowKit
set_option maxRecDepth 100000
set_option linter.unusedSimpArgs false
set_option linter.unusedVariables false
set_option maxHeartbeats 4000000

theorem cs_step {a b c : Int} {q x y K z : Nat} {T : Bool} (hz : z < q) (hq : q ≤ 31) (hK2 : K ≤ 100000) (hT : (zr a b c q x y z == 1) = T) : ((K + sumN (z + 1) (zr a b c q x y) : Nat) : Int) = bif T then wrap64 (((K + sumN z (zr a b c q x y) : Nat) : Int) + 1) else ((K + sumN z (zr a b c q x y) : Nat) : Int) := by
  have h1 := sumN_le (n := z) (f := zr a b c q x y) (k := 1) fun i _ => zr_le ..
  have h2 := zr_le a b c q x y z
  cases T with
  | true =>
    have h3 : zr a b c q x y z = 1 := by simpa using hT
    rw [cond_true, wrap_id (by omega) (by omega), sumN, h3]; omega
  | false =>
    have h3 : zr a b c q x y z ≠ 1 := by simpa using hT
    rw [cond_false, sumN]; omega
theorem row_le {a b c : Int} {q x : Nat} (hq : q ≤ 31) {k : Nat} (hk : k ≤ 31) : sumN k (fun y => sumN q fun z => zr a b c q x y z) ≤ 961 := by
  have := sumN_le (n := k) (f := fun y => sumN q fun z => zr a b c q x y z) (k := 31) fun y _ => by
    have := sumN_le (n := q) (f := fun z => zr a b c q x y z) (k := 1) fun z _ => zr_le ..
    omega
  omega
theorem box_le {a b c : Int} {q : Nat} (hq : q ≤ 31) {k : Nat} (hk : k ≤ 31) : sumN k (fun x => sumN q fun y => sumN q fun z => zr a b c q x y z) ≤ 29791 := by
  have := sumN_le (n := k) (f := fun x => sumN q fun y => sumN q fun z => zr a b c q x y z) (k := 961) fun x _ => row_le hq hq
  omega
abbrev fSCountM : Nat := 12
def cSCountM : Ctr
  | [.s [a, b, c], .i p] => some ⟨True, .tup [.i (onB (cmB a b c p) (cmN a b c p)), .b (cmB a b c p)], []⟩
  | _ => none
theorem okSCountM : CtrOk Try.prog fSCountM cSCountM := by
  have hsp : SpecOk Try.prog (specOf [(fCnGood, cCnGood), (fIn, cIn), (fNuPrime, cNuPrime)]) := (SpecOk.cons okCnGood (SpecOk.cons okIn (SpecOk.cons okNuPrime SpecOk.nil)))
  refine ctr_of (fn := Try.f12) mixed tab_ok hsp Try.func12 (by kernel_rfl) (by kernel_rfl) fun args ce h => ?_
  clear hsp
  unfold cSCountM at h
  split at h
  case h_2 => cases h
  rename_i a b c p
  simp only [Option.some.injEq] at h
  subst h
  refine ⟨by rfl, fun hp => ⟨3, 1000, ?_⟩⟩
  cases h1 : triB a b c with
  | false =>
    have eB : cmB a b c p = false := by unfold cmB; rw [h1]; rfl
    rw [eB]
    simp only [↓cond_to_ite, ↓reduceIte, vc, out, finD, St.drop, vwAt, Entry.vwO, Entry.toO, toOf, St.res, step, stepE, stepPick, stepG, stepO, stepC, eff, look, rem, St.put, St.setMem, setMems, St.after, St.eval, cst, val1, okNew, newHs, allHs, rdOf, Reg.item, Reg.next, Reg.skip, slotOf, effBox, loadI, effLoad, effUn, effPick, subPre, argOf, resA, resV, nodupB, argsPre, argOk, callWr, effCall, effBox2, callGo, effBox3, effLoad2, effLoad3, effBox4, effCall2, wrHs, disj, AV.hs, A0.hs, Entry.hs, hA, initFr, initMem, initSt, resOf, resAll, compEq, compsEq, rowHs, outHds, outsEq, shapeOk, finOk, comps, A0.norm, specOf, t_implTriple, Option.getD_some, Nat.reduceBEq, List.map_cons, List.map_nil, List.getElem?_cons_zero, List.getElem?_cons_succ, List.drop_zero, List.take_succ_cons, List.take_zero, Option.map_some, Option.bind_some, Nat.zero_add, Nat.reduceAdd, true_and, and_true, List.length_cons, List.length_nil, List.all_cons, List.all_nil, Bool.and_true, Bool.true_and, Bool.not_false, List.append_nil, List.flatMap_cons, List.flatMap_nil, List.contains_nil, List.filter_cons, List.filter_nil, beq_self_eq_true, A0.i.injEq, ble_dec, Nat.reduceLeDiff, decide_true, and_self, List.toList_toArray, Bool.false_eq_true, reduceIte, Try.f12, cCnGood, fCnGood, h1]
    (repeat' refine And.intro ?_ ?_) <;> first | assumption | kernel_rfl | (simp; done)
  | true =>
    cases h2 : inI p 2 31 with
    | false =>
      have eB : cmB a b c p = false := by unfold cmB; rw [h2]; simp
      rw [eB]
      simp only [↓cond_to_ite, ↓reduceIte, vc, out, finD, St.drop, vwAt, Entry.vwO, Entry.toO, toOf, St.res, step, stepE, stepPick, stepG, stepO, stepC, eff, look, rem, St.put, St.setMem, setMems, St.after, St.eval, cst, val1, okNew, newHs, allHs, rdOf, Reg.item, Reg.next, Reg.skip, slotOf, effBox, loadI, effLoad, effUn, effPick, subPre, argOf, resA, resV, nodupB, argsPre, argOk, callWr, effCall, effBox2, callGo, effBox3, effLoad2, effLoad3, effBox4, effCall2, wrHs, disj, AV.hs, A0.hs, Entry.hs, hA, initFr, initMem, initSt, resOf, resAll, compEq, compsEq, rowHs, outHds, outsEq, shapeOk, finOk, comps, A0.norm, specOf, t_implTriple, Option.getD_some, Nat.reduceBEq, List.map_cons, List.map_nil, List.getElem?_cons_zero, List.getElem?_cons_succ, List.drop_zero, List.take_succ_cons, List.take_zero, Option.map_some, Option.bind_some, Nat.zero_add, Nat.reduceAdd, true_and, and_true, List.length_cons, List.length_nil, List.all_cons, List.all_nil, Bool.and_true, Bool.true_and, Bool.not_true, Bool.not_false, List.append_nil, List.flatMap_cons, List.flatMap_nil, List.contains_nil, List.filter_cons, List.filter_nil, beq_self_eq_true, A0.i.injEq, ble_dec, Nat.reduceLeDiff, decide_true, and_self, List.toList_toArray, Bool.false_eq_true, reduceIte, Try.f12, cCnGood, fCnGood, cIn, fIn, h1, h2]
      (repeat' refine And.intro ?_ ?_) <;> first | assumption | kernel_rfl | (simp; done)
    | true =>
      have h2' : 2 ≤ p ∧ p ≤ 31 := by simpa [inI] using h2
      have h2'' : p ≤ 1000000000000 := by omega
      cases h3 : primeI p with
      | false =>
        have eB : cmB a b c p = false := by unfold cmB; rw [h3]; simp
        rw [eB]
        simp only [↓cond_to_ite, ↓reduceIte, vc, out, finD, St.drop, vwAt, Entry.vwO, Entry.toO, toOf, St.res, step, stepE, stepPick, stepG, stepO, stepC, eff, look, rem, St.put, St.setMem, setMems, St.after, St.eval, cst, val1, okNew, newHs, allHs, rdOf, Reg.item, Reg.next, slotOf, effBox, loadI, effLoad, effUn, effPick, subPre, argOf, resA, resV, nodupB, argsPre, argOk, callWr, effCall, effBox2, callGo, effBox3, effLoad2, effLoad3, effBox4, effCall2, wrHs, disj, AV.hs, A0.hs, Entry.hs, hA, initFr, initMem, initSt, resOf, resAll, compEq, compsEq, rowHs, outHds, outsEq, shapeOk, finOk, comps, A0.norm, specOf, t_implTriple, Option.getD_some, Nat.reduceBEq, List.map_cons, List.map_nil, List.getElem?_cons_zero, List.getElem?_cons_succ, List.drop_zero, List.take_succ_cons, List.take_zero, Option.map_some, Option.bind_some, Nat.zero_add, Nat.reduceAdd, true_and, and_true, List.length_cons, List.length_nil, List.all_cons, List.all_nil, Bool.and_true, Bool.true_and, Bool.not_true, Bool.not_false, List.append_nil, List.flatMap_cons, List.flatMap_nil, List.contains_nil, List.filter_cons, List.filter_nil, beq_self_eq_true, A0.i.injEq, ble_dec, Nat.reduceLeDiff, decide_true, and_self, List.toList_toArray, Bool.false_eq_true, reduceIte, Try.f12, cCnGood, fCnGood, cIn, fIn, cNuPrime, fNuPrime, h1, h2, h3]
        (repeat' refine And.intro ?_ ?_) <;> first | assumption | kernel_rfl | (simp; done)
      | true =>
        have eB : cmB a b c p = true := by unfold cmB; rw [h1, h2, h3]; rfl
        rw [eB]
        obtain ⟨q, rfl⟩ : ∃ q : Nat, p = q := ⟨p.toNat, by omega⟩
        have hq : 2 ≤ q ∧ q ≤ 31 := by omega
        have eN : cmN a b c (q : Int) = (sumN q (fun x => sumN q fun y => sumN q fun z => zr a b c q x y z) : Nat) := by unfold cmN cn3; rw [Int.toNat_natCast]
        rw [eN]
        have qn : (q : Int) ≠ 0 := by omega
        have hq31 := hq.2
        clear eN
        simp only [↓cond_to_ite, ↓reduceIte, vc, out, Entry.toO, toOf, St.res, step, stepE, stepPick, stepG, stepO, stepC, eff, look, rem, St.put, St.setMem, setMems, St.after, St.eval, cst, val1, okNew, newHs, allHs, rdOf, Reg.item, Reg.next, slotOf, effBox, loadI, effLoad, effUn, effPick, subPre, argOf, resA, resV, argsPre, argOk, callWr, effCall, effBox2, callGo, effBox3, effLoad2, effLoad3, effBox4, effCall2, wrHs, disj, AV.hs, A0.hs, Entry.hs, hA, initFr, initMem, initSt, specOf, t_implTriple, Option.getD_some, Nat.reduceBEq, List.map_cons, List.map_nil, List.getElem?_cons_zero, List.getElem?_cons_succ, List.drop_zero, List.take_succ_cons, List.take_zero, Option.bind_some, Nat.zero_add, Nat.reduceAdd, true_and, and_true, List.length_cons, List.length_nil, List.all_cons, List.all_nil, Bool.and_true, Bool.not_true, Bool.not_false, List.append_nil, List.flatMap_cons, List.flatMap_nil, List.contains_nil, List.filter_cons, List.filter_nil, beq_self_eq_true, ble_dec, Nat.reduceLeDiff, decide_true, and_self, List.toList_toArray, Bool.false_eq_true, reduceIte, Try.f12, cCnGood, fCnGood, cIn, fIn, cNuPrime, fNuPrime, h1, h2, h3]
        refine ⟨h2'', ?_⟩
        clear h2 h2' h2''
        refine lp_intro (fun x : Nat => ⟨[(1, .one (.i (q : Int))), (2, .one (.ref 2 0)), (6, .one (.i ((sumN x (fun x => sumN q fun y => sumN q fun z => zr a b c q x y z) : Nat) : Int))), (7, .one (.i (x : Int)))], [(2, .ibox 25 [a, b, c])]⟩)
          (fun x => x ≤ q) (fun x => q - x) 0 [] (Nat.zero_le _) (by simp only [Cov, covOk, covFr, covMem, entEq, rn, nodupB, A0.ren, AV.ren, Entry.ren, Entry.norm, look, St.eval, A0.norm, AV.norm, Option.getD_some, Option.getD_none, cond_true, cond_false, Nat.reduceBEq, List.map_cons, List.map_nil, true_and, and_true, List.all_nil, Bool.and_true, Bool.not_false, List.contains_nil, beq_self_eq_true, A0.i.injEq, AV.one.injEq, and_self]; exact ⟨rfl, rfl⟩) fun x hx J hJ => ⟨1000, ?_⟩
        by_cases g : x < q
        · have g1 : decide ((x : Int) < (q : Int)) = true := decide_eq_true (Int.ofNat_lt.2 g)
          have hw1 := wsucc g (Nat.le_trans hq31 (by decide))
          have hK1 := box_le (a := a) (b := b) (c := c) hq31 (k := x) (Nat.le_trans hx hq31)
          have eK1 : sumN (x + 1) (fun x => sumN q fun y => sumN q fun z => zr a b c q x y z) = sumN x (fun x => sumN q fun y => sumN q fun z => zr a b c q x y z) + sumN q (fun y => sumN q fun z => zr a b c q x y z) := rfl
          generalize sumN x (fun x => sumN q fun y => sumN q fun z => zr a b c q x y z) = K1 at *
          simp only [↓cond_to_ite, ↓reduceIte, vc, out, Entry.toO, toOf, St.res, step, stepE, stepPick, stepO, stepC, eff, look, rem, St.put, setMems, St.after, St.eval, cst, val1, okNew, Reg.item, Reg.next, binInt, effBin, effBin2, Option.getD_some, Nat.reduceBEq, true_and, beq_self_eq_true, Bool.false_eq_true, reduceIte, g1]
          refine lp_intro (fun y : Nat => ⟨[(1, .one (.i (q : Int))), (2, .one (.ref 2 0)), (6, .one (.i ((K1 + sumN y (fun y => sumN q fun z => zr a b c q x y z) : Nat) : Int))), (7, .one (.i (x : Int))), (8, .one (.i (y : Int)))], [(2, .ibox 25 [a, b, c])]⟩)
            (fun y => y ≤ q) (fun y => q - y) 0 [] (Nat.zero_le _) (by simp only [Cov, covOk, covFr, covMem, entEq, rn, nodupB, A0.ren, AV.ren, Entry.ren, Entry.norm, look, St.eval, A0.norm, AV.norm, Option.getD_some, Option.getD_none, cond_true, cond_false, Nat.reduceBEq, List.map_cons, List.map_nil, true_and, and_true, List.all_nil, Bool.and_true, Bool.not_false, List.contains_nil, beq_self_eq_true, A0.i.injEq, AV.one.injEq, and_self]; exact ⟨rfl, rfl⟩) fun y hy J2 hJ2 => ⟨1000, ?_⟩
          by_cases gy : y < q
          · have g2 : decide ((y : Int) < (q : Int)) = true := decide_eq_true (Int.ofNat_lt.2 gy)
            have hw2 := wsucc gy (Nat.le_trans hq31 (by decide))
            have hK2 : K1 + sumN y (fun y => sumN q fun z => zr a b c q x y z) ≤ 100000 := Nat.le_trans (Nat.add_le_add hK1 (row_le (a := a) (b := b) (c := c) (x := x) hq31 (k := y) (Nat.le_trans hy hq31))) (by decide)
            have eK2 : K1 + sumN (y + 1) (fun y => sumN q fun z => zr a b c q x y z) = K1 + sumN y (fun y => sumN q fun z => zr a b c q x y z) + sumN q (zr a b c q x y) := (Nat.add_assoc ..).symm
            generalize K1 + sumN y (fun y => sumN q fun z => zr a b c q x y z) = K2 at *
            simp only [↓cond_to_ite, ↓reduceIte, vc, out, Entry.toO, toOf, St.res, step, stepE, stepPick, stepO, stepC, eff, look, rem, St.put, setMems, St.after, St.eval, cst, val1, okNew, Reg.item, Reg.next, binInt, effBin, effBin2, Option.getD_some, Nat.reduceBEq, true_and, beq_self_eq_true, Bool.false_eq_true, reduceIte, g2]
            refine lp_intro (fun z : Nat => ⟨[(1, .one (.i (q : Int))), (2, .one (.ref 2 0)), (6, .one (.i ((K2 + sumN z (zr a b c q x y) : Nat) : Int))), (7, .one (.i (x : Int))), (8, .one (.i (y : Int))), (9, .one (.i (z : Int)))], [(2, .ibox 25 [a, b, c])]⟩)
              (fun z => z ≤ q) (fun z => q - z) 0 [] (Nat.zero_le _) (by simp only [Cov, covOk, covFr, covMem, entEq, rn, nodupB, A0.ren, AV.ren, Entry.ren, Entry.norm, look, St.eval, A0.norm, AV.norm, Option.getD_some, Option.getD_none, cond_true, cond_false, Nat.reduceBEq, List.map_cons, List.map_nil, true_and, and_true, List.all_nil, Bool.and_true, Bool.not_false, List.contains_nil, beq_self_eq_true, A0.i.injEq, AV.one.injEq, and_self]; exact ⟨rfl, rfl⟩) fun z hz J3 hJ3 => ⟨1000, ?_⟩
            by_cases gz : z < q
            · have g3 : decide ((z : Int) < (q : Int)) = true := decide_eq_true (Int.ofNat_lt.2 gz)
              have hw3 := wsucc gz (Nat.le_trans hq31 (by decide))
              have hts := ts_zr h1 hq g gy gz
              unfold tsI at hts
              obtain ⟨T, hT⟩ : ∃ T, (zr a b c q x y z == 1) = T := ⟨_, rfl⟩
              have hs := cs_step gz hq31 hK2 hT
              rw [hT] at hts
              clear hT hJ hJ2 eK1 eK2
              cases T with
              | true =>
                rw [cond_true] at hs
                simp only [↓cond_to_ite, ↓reduceIte, vc, out, Entry.toO, toOf, St.res, step, stepE, stepPick, stepO, stepC, eff, look, rem, St.put, setMems, St.after, St.eval, cst, val1, okNew, Reg.item, Reg.next, fieldOff, effField, loadI, effLoad, binInt, effBin, effLoad2, effField2, effField3, effLoad3, effBin2, t_int, t_implTriple, Option.getD_some, Nat.reduceBEq, List.getElem?_cons_zero, List.getElem?_cons_succ, Option.map_some, Nat.zero_add, Nat.add_zero, true_and, beq_self_eq_true, Bool.false_eq_true, reduceIte, g3, hts]
                exact ⟨qn, hJ3 _ (z + 1) [] gz (Nat.sub_succ_lt_self _ _ gz) (by simp only [Cov, covOk, covFr, covMem, entEq, rn, nodupB, A0.ren, AV.ren, Entry.ren, Entry.norm, look, St.eval, A0.norm, AV.norm, Option.getD_some, Option.getD_none, cond_true, cond_false, Nat.reduceBEq, List.map_cons, List.map_nil, List.all_nil, Bool.and_true, Bool.not_false, List.contains_nil, beq_self_eq_true, and_self, hw3, hs])⟩
              | false =>
                rw [cond_false] at hs
                simp only [↓cond_to_ite, ↓reduceIte, vc, out, Entry.toO, toOf, St.res, step, stepE, stepPick, stepO, stepC, eff, look, rem, St.put, setMems, St.after, St.eval, cst, val1, okNew, Reg.item, Reg.next, fieldOff, effField, loadI, effLoad, binInt, effBin, effLoad2, effField2, effField3, effLoad3, effBin2, t_int, t_implTriple, Option.getD_some, Nat.reduceBEq, List.getElem?_cons_zero, List.getElem?_cons_succ, Option.map_some, Nat.zero_add, Nat.add_zero, true_and, beq_self_eq_true, Bool.false_eq_true, reduceIte, g3, hts]
                exact ⟨qn, hJ3 _ (z + 1) [] gz (Nat.sub_succ_lt_self _ _ gz) (by simp only [Cov, covOk, covFr, covMem, entEq, rn, nodupB, A0.ren, AV.ren, Entry.ren, Entry.norm, look, St.eval, A0.norm, AV.norm, Option.getD_some, Option.getD_none, cond_true, cond_false, Nat.reduceBEq, List.map_cons, List.map_nil, List.all_nil, Bool.and_true, Bool.not_false, List.contains_nil, beq_self_eq_true, and_self, hw3, hs])⟩
            · obtain rfl : z = q := Nat.le_antisymm hz (Nat.le_of_not_lt gz)
              have g3 : decide ((z : Int) < (z : Int)) = false := decide_eq_false (Int.lt_irrefl _)
              simp only [↓cond_to_ite, ↓reduceIte, vc, out, Entry.toO, toOf, St.res, step, stepE, stepPick, stepO, stepC, eff, look, rem, St.put, setMems, St.after, St.eval, cst, val1, okNew, Reg.item, Reg.next, binInt, effBin, effBin2, Option.getD_some, Nat.reduceBEq, true_and, beq_self_eq_true, Bool.false_eq_true, reduceIte, g3]
              exact hJ2 _ (y + 1) [] gy (Nat.sub_succ_lt_self _ _ gy) (by simp only [Cov, covOk, covFr, covMem, entEq, rn, nodupB, A0.ren, AV.ren, Entry.ren, Entry.norm, look, St.eval, A0.norm, AV.norm, Option.getD_some, Option.getD_none, cond_true, cond_false, Nat.reduceBEq, List.map_cons, List.map_nil, List.all_nil, Bool.and_true, Bool.not_false, List.contains_nil, beq_self_eq_true, and_self, hw2, eK2])
          · obtain rfl : y = q := Nat.le_antisymm hy (Nat.le_of_not_lt gy)
            have g2 : decide ((y : Int) < (y : Int)) = false := decide_eq_false (Int.lt_irrefl _)
            simp only [↓cond_to_ite, ↓reduceIte, vc, out, Entry.toO, toOf, St.res, step, stepE, stepPick, stepO, stepC, eff, look, rem, St.put, setMems, St.after, St.eval, cst, val1, okNew, Reg.item, Reg.next, binInt, effBin, effBin2, Option.getD_some, Nat.reduceBEq, true_and, beq_self_eq_true, Bool.false_eq_true, reduceIte, g2]
            exact hJ _ (x + 1) [] g (Nat.sub_succ_lt_self _ _ g) (by simp only [Cov, covOk, covFr, covMem, entEq, rn, nodupB, A0.ren, AV.ren, Entry.ren, Entry.norm, look, St.eval, A0.norm, AV.norm, Option.getD_some, Option.getD_none, cond_true, cond_false, Nat.reduceBEq, List.map_cons, List.map_nil, List.all_nil, Bool.and_true, Bool.not_false, List.contains_nil, beq_self_eq_true, and_self, hw1, eK1])
        · obtain rfl : x = q := Nat.le_antisymm hx (Nat.le_of_not_lt g)
          have g1 : decide ((x : Int) < (x : Int)) = false := decide_eq_false (Int.lt_irrefl _)
          simp only [↓cond_to_ite, ↓reduceIte, vc, out, finD, St.drop, vwAt, Entry.vwO, Entry.toO, toOf, St.res, step, stepE, stepPick, stepO, stepC, eff, look, rem, St.put, setMems, St.after, St.eval, cst, val1, okNew, Reg.item, Reg.next, binInt, effBin, nodupB, argOk, effBin2, disj, resOf, resAll, compEq, compsEq, rowHs, outHds, outsEq, shapeOk, finOk, comps, A0.norm, Option.getD_some, Nat.reduceBEq, Option.map_some, Nat.zero_add, Nat.reduceAdd, true_and, and_true, List.length_cons, List.length_nil, List.all_nil, Bool.and_true, Bool.true_and, Bool.not_false, List.contains_nil, beq_self_eq_true, A0.i.injEq, and_self, Bool.false_eq_true, reduceIte, g1]
          (repeat' refine And.intro ?_ ?_) <;> first | assumption | kernel_rfl | (simp; done)
/-! ### draws -/
theorem cur_go {l : List Int} (h : ∀ x ∈ l, 0 ≤ x ∧ x < 256) {K : Int} (hK : K ≤ 1000000000000) : CurOk K l 0 := ⟨h, Int.le_refl _, by omega⟩
noncomputable def dsA (b : List Int) : DR := xSolved b 0 0
noncomputable def dsP (b : List Int) : DR := xPick b (dsA b).2.1 (dsA b).2.2 50
noncomputable def dsM (b : List Int) : DR := xAmong b (dsP b).2.1 (dsP b).2.2 3 [0, 1, -1, 2, 3, wrap64 ((dsP b).1 0 - 20), 1000, 1001]
noncomputable def dsQ (b : List Int) : DR := xPick b (dsM b).2.1 (dsM b).2.2 50
noncomputable def dsN (b : List Int) : DR := xAmong b (dsQ b).2.1 (dsQ b).2.2 3 [0, 1, 2, -3, wrap64 ((dsQ b).1 0 - 20), -1000, -1001]
theorem ds_at {b : List Int} (h : ∀ x ∈ b, 0 ≤ x ∧ x < 256) : ∃ v a1 s1 p a2 s2 w a3 s3 q a4 s4 r a5 s5, (CurOk 56 b 0 ∧ CurOk 2 b a1 ∧ CurOk 2 b a2 ∧ CurOk 2 b a3 ∧ CurOk 2 b a4) ∧ (xSolved b 0 0 = (v, a1, s1) ∧ xPick b a1 s1 50 = (p, a2, s2) ∧ xAmong b a2 s2 3 [0, 1, -1, 2, 3, wrap64 (p 0 - 20), 1000, 1001] = (w, a3, s3) ∧ xPick b a3 s3 50 = (q, a4, s4) ∧ xAmong b a4 s4 3 [0, 1, 2, -3, wrap64 (q 0 - 20), -1000, -1001] = (r, a5, s5)) ∧ dsA b = (v, a1, s1) ∧ dsM b = (w, a3, s3) ∧ dsN b = (r, a5, s5) := by
  have hk : CurOk 64 b 0 := cur_go h (by decide)
  have h1 : CurOk 56 b 0 := hk.le (by omega)
  obtain ⟨v, a1, s1, e1, p1, b1, c1⟩ := atSolved (s := 0) h1 trivial
  have h2 : CurOk 2 b a1 := hk.step (by omega) (by omega)
  obtain ⟨p, a2, s2, e2, p2, b2, c2⟩ := atPick (s := s1) (n := 50) h2 trivial
  have h3 : CurOk 2 b a2 := hk.step (by omega) (by omega)
  obtain ⟨w, a3, s3, e3, p3, b3, c3⟩ := atAmong (s := s2) (e := 3) (L := [0, 1, -1, 2, 3, wrap64 (p 0 - 20), 1000, 1001]) h3 (by simp)
  have h4 : CurOk 2 b a3 := hk.step (by omega) (by omega)
  obtain ⟨q, a4, s4, e4, p4, b4, c4⟩ := atPick (s := s3) (n := 50) h4 trivial
  have h5 : CurOk 2 b a4 := hk.step (by omega) (by omega)
  obtain ⟨r, a5, s5, e5, p5, b5, c5⟩ := atAmong (s := s4) (e := 3) (L := [0, 1, 2, -3, wrap64 (q 0 - 20), -1000, -1001]) h5 (by simp)
  have f1 : dsA b = (v, a1, s1) := e1
  have f2 : dsP b = (p, a2, s2) := by unfold dsP; rw [f1]; exact e2
  have f3 : dsM b = (w, a3, s3) := by unfold dsM; rw [f2]; exact e3
  have f4 : dsQ b = (q, a4, s4) := by unfold dsQ; rw [f3]; exact e4
  have f5 : dsN b = (r, a5, s5) := by unfold dsN; rw [f4]; exact e5
  exact ⟨v, a1, s1, p, a2, s2, w, a3, s3, q, a4, s4, r, a5, s5, ⟨h1, h2, h3, h4, h5⟩, ⟨e1, e2, e3, e4, e5⟩, f1, f3, f5⟩
abbrev fDrawSP : Nat := 5
noncomputable def cDrawSP : Ctr
  | [.byt b] => some ⟨∀ x ∈ b, 0 ≤ x ∧ x < 256, .tup [.s [(dsA b).1 0, (dsA b).1 1, (dsA b).1 2], .s [(dsA b).1 3, (dsA b).1 4, (dsA b).1 5], .i ((dsM b).1 0), .i ((dsN b).1 0)], []⟩
  | _ => none
theorem okDrawSP : CtrOk Try.prog fDrawSP cDrawSP := by
  have hsp : SpecOk Try.prog (specOf [(fSolved, cSolved), (fPick, cPick), (fAmong, cAmong)]) := (SpecOk.cons okSolved (SpecOk.cons okPick (SpecOk.cons okAmong SpecOk.nil)))
  refine ctr_of (fn := Try.f5) mixed tab_ok hsp Try.func5 (by kernel_rfl) (by kernel_rfl) fun args ce h => ?_
  clear hsp
  unfold cDrawSP at h
  split at h
  case h_2 => cases h
  rename_i b
  simp only [Option.some.injEq] at h
  subst h
  refine ⟨by rfl, fun hp => ⟨0, 1000, ?_⟩⟩
  obtain ⟨v, a1, s1, p, a2, s2, w, a3, s3, q, a4, s4, r, a5, s5, ⟨h1, h2, h3, h4, h5⟩, ⟨e1, e2, e3, e4, e5⟩, f1, f3, f5⟩ := ds_at hp
  rw [f1, f3, f5]
  simp only [↓cond_to_ite, ↓reduceIte, vc, out, finD, St.drop, vwAt, Entry.vwO, RC.vwO, Entry.toO, toOf, St.res, step, stepE, stepPick, stepO, eff, look, rem, St.put, St.setMem, setMems, St.after, St.eval, cst, setAt, val1, okNew, newHs, allHs, rdOf, outHs, Reg.item, Reg.next, effAlloc, entryRow, loadI, effLoad, storeI, szOk, storeTo, effStore, binInt, effBin, effExtract, ivs, rowOf, allParts, effBuildSlice, subPre, argOf, nodupB, argsPre, argOk, RC.flat, effBuildSl, effAlloc2, effLoad2, effStore2, plainS, inHs, calleeHs, effLoad3, effStore3, effBin2, buildCur, effBuild4, boxCur, effBox4, cuX, cuArg, plainV, cuGo, callCu, callCo, effCall2, wrHs, disj, AV.hs, A0.hs, Entry.hs, RC.sz, hA, initFr, initMem, initSt, resOf, resAll, compEq, compsEq, rowHs, outHds, outsEq, shapeOk, finOk, comps, A0.norm, specOf, t_int, t_implTriple, t_implSpot, ts_int, t_l1Cur, Option.getD_some, Nat.reduceBEq, List.map_cons, List.map_nil, List.set_cons_zero, List.set_cons_succ, List.getElem?_cons_zero, List.getElem?_cons_succ, List.drop_zero, List.take_succ_cons, List.take_zero, Option.map_some, Nat.zero_add, Nat.add_zero, Nat.reduceAdd, true_and, and_true, List.replicate_succ, List.replicate_zero, List.length_cons, List.length_nil, List.all_cons, List.all_nil, Bool.and_true, Bool.true_and, Bool.or_false, Bool.not_true, Bool.not_false, List.append_nil, List.nil_append, List.cons_append, List.flatMap_cons, List.flatMap_nil, List.contains_cons, List.contains_nil, List.filter_cons, List.filter_nil, beq_self_eq_true, ble_dec, Nat.reduceLeDiff, decide_true, and_self, List.toList_toArray, Bool.false_eq_true, reduceIte, Try.f5, cSolved, fSolved, cPick, fPick, cAmong, fAmong, e1, e2, e3, e4, e5]
  (repeat' refine And.intro ?_ ?_) <;> first | assumption | kernel_rfl | (simp; done)
noncomputable def dcA (b : List Int) : DR := xTriple b 0 0
noncomputable def dcN (b : List Int) : DR := xAmong b (dcA b).2.1 (dcA b).2.2 3 [2, 3, 5, 7, 11, 13, 17, 19, 23, 29, 31, 1, 4, 37, 0, -3]
theorem dc_at {b : List Int} (h : ∀ x ∈ b, 0 ≤ x ∧ x < 256) : ∃ v a1 s1 w a2 s2, (CurOk 32 b 0 ∧ CurOk 2 b a1) ∧ (xTriple b 0 0 = (v, a1, s1) ∧ xAmong b a1 s1 3 [2, 3, 5, 7, 11, 13, 17, 19, 23, 29, 31, 1, 4, 37, 0, -3] = (w, a2, s2)) ∧ dcA b = (v, a1, s1) ∧ dcN b = (w, a2, s2) := by
  have hk : CurOk 34 b 0 := cur_go h (by decide)
  have h1 : CurOk 32 b 0 := hk.le (by omega)
  obtain ⟨v, a1, s1, e1, p1, b1, c1⟩ := atTriple (s := 0) h1 trivial
  have h2 : CurOk 2 b a1 := hk.step (by omega) (by omega)
  obtain ⟨w, a2, s2, e2, p2, b2, c2⟩ := atAmong (s := s1) (e := 3) (L := [2, 3, 5, 7, 11, 13, 17, 19, 23, 29, 31, 1, 4, 37, 0, -3]) h2 (by simp)
  have f1 : dcA b = (v, a1, s1) := e1
  have f2 : dcN b = (w, a2, s2) := by unfold dcN; rw [f1]; exact e2
  exact ⟨v, a1, s1, w, a2, s2, ⟨h1, h2⟩, ⟨e1, e2⟩, f1, f2⟩
abbrev fDrawCM : Nat := 10
noncomputable def cDrawCM : Ctr
  | [.byt b] => some ⟨∀ x ∈ b, 0 ≤ x ∧ x < 256, .tup [.s [(dcA b).1 0, (dcA b).1 1, (dcA b).1 2], .i ((dcN b).1 0)], []⟩
  | _ => none
theorem okDrawCM : CtrOk Try.prog fDrawCM cDrawCM := by
  have hsp : SpecOk Try.prog (specOf [(fTriple, cTriple), (fAmong, cAmong)]) := (SpecOk.cons okTriple (SpecOk.cons okAmong SpecOk.nil))
  refine ctr_of (fn := Try.f10) mixed tab_ok hsp Try.func10 (by kernel_rfl) (by kernel_rfl) fun args ce h => ?_
  clear hsp
  unfold cDrawCM at h
  split at h
  case h_2 => cases h
  rename_i b
  simp only [Option.some.injEq] at h
  subst h
  refine ⟨by rfl, fun hp => ⟨0, 1000, ?_⟩⟩
  obtain ⟨v, a1, s1, w, a2, s2, ⟨h1, h2⟩, ⟨e1, e2⟩, f1, f2⟩ := dc_at hp
  rw [f1, f2]
  simp only [↓cond_to_ite, ↓reduceIte, vc, out, finD, St.drop, vwAt, Entry.vwO, RC.vwO, Entry.toO, toOf, St.res, step, stepE, stepPick, stepO, eff, look, rem, St.put, St.setMem, setMems, St.after, St.eval, cst, setAt, val1, okNew, newHs, allHs, rdOf, outHs, Reg.item, Reg.next, effAlloc, entryRow, loadI, effLoad, storeI, szOk, storeTo, effStore, ivs, rowOf, allParts, effBuildSlice, subPre, argOf, nodupB, argsPre, argOk, RC.flat, effBuildSl, effAlloc2, effLoad2, effStore2, plainS, inHs, calleeHs, effLoad3, effStore3, buildCur, effBuild4, boxCur, effBox4, cuX, cuArg, plainV, cuGo, callCu, callCo, effCall2, wrHs, disj, AV.hs, A0.hs, Entry.hs, RC.sz, hA, initFr, initMem, initSt, resOf, resAll, compEq, compsEq, rowHs, outHds, outsEq, shapeOk, finOk, comps, A0.norm, specOf, t_int, t_implTriple, ts_int, t_l1Cur, Option.getD_some, Nat.reduceBEq, List.map_cons, List.map_nil, List.set_cons_zero, List.set_cons_succ, List.drop_zero, List.take_succ_cons, List.take_zero, Option.map_some, Nat.zero_add, Nat.add_zero, Nat.reduceAdd, true_and, and_true, List.replicate_succ, List.replicate_zero, List.length_cons, List.length_nil, List.all_cons, List.all_nil, Bool.and_true, Bool.true_and, Bool.or_false, Bool.not_true, Bool.not_false, List.append_nil, List.nil_append, List.cons_append, List.flatMap_cons, List.flatMap_nil, List.contains_cons, List.contains_nil, List.filter_cons, List.filter_nil, beq_self_eq_true, ble_dec, Nat.reduceLeDiff, decide_true, and_self, List.toList_toArray, Bool.false_eq_true, reduceIte, Try.f10, cTriple, fTriple, cAmong, fAmong, e1, e2]
  (repeat' refine And.intro ?_ ?_) <;> first | assumption | kernel_rfl | (simp; done)
end Go.Proofs.Ytacomnelongbjaa
