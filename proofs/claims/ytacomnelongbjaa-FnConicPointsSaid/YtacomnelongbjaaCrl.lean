/-
  The contract of the law of conic points. Conditions: none.
-/
import Derived.Test.YtacomnelongbjaaCnp2
import Derived.Test.YtacomnelongbjaaCnp3
import Derived.Test.YtacomnelongbjaaCnd
import Derived.Test.YtacomnelongbjaaCne
namespace Go.Proofs.Ytacomnelongbjaa
open Go Go.RowKit
set_option maxRecDepth 100000
set_option linter.unusedSimpArgs false
set_option linter.unusedVariables false
set_option maxHeartbeats 4000000

abbrev fBig0 : Nat := 4
def cBig0 : Ctr
  | [.byt b, .byt m] => some ⟨True, .one (.b (decide ((b.length : Int) > 1048576) || decide ((m.length : Int) > wrap64 (1048576 - (b.length : Int))))), []⟩
  | _ => none
theorem okBig0 : CtrOk Try.prog fBig0 cBig0 := by
  have hsp : SpecOk Try.prog (specOf []) := SpecOk.nil
  refine ctr_of (fn := Try.f4) mixed tab_ok hsp Try.func4 (by kernel_rfl) (by kernel_rfl) fun args ce h => ?_
  clear hsp
  unfold cBig0 at h
  split at h
  case h_2 => cases h
  rename_i b m
  simp only [Option.some.injEq] at h
  subst h
  refine ⟨by rfl, fun hp => ⟨0, 1000, ?_⟩⟩
  simp only [vc, out, finD, St.drop, vwAt, Entry.vwO, Entry.toO, toOf, St.res, step, stepE, stepPick, stepG, stepO, eff, look, rem, St.put, setMems, St.after, St.eval, cst, val1, okNew, Reg.item, Reg.next, Reg.skip, slotOf, binInt, effBin, effPick, elemSz, lenOf, nodupB, argOk, lenOf2, effBin2, disj, hA, initFr, initMem, initSt, resOf, resAll, compEq, compsEq, rowHs, outHds, outsEq, shapeOk, finOk, comps, A0.norm, t_int, t_u8, ts_u8, Option.getD_some, cond_true, cond_false, Nat.reduceBEq, List.getElem?_cons_zero, List.getElem?_cons_succ, Option.map_some, Option.bind_some, Nat.zero_add, Nat.add_zero, Nat.reduceAdd, true_and, and_true, List.length_cons, List.length_nil, List.all_nil, Bool.and_true, Bool.not_false, List.contains_nil, beq_self_eq_true, A0.b.injEq, List.toList_toArray, Option.isSome_some, Try.f4]
  cases decide ((b.length : Int) > 1048576) <;> rfl
theorem pmod (U : Int) {P : Nat} : (U.tmod P = 0) ↔ (U % (P : Int) = 0) := by rw [← Int.dvd_iff_emod_eq_zero]; exact ⟨Int.dvd_of_tmod_eq_zero, Int.tmod_eq_zero_of_dvd⟩
/-- as many solutions as the square of the prime -/
theorem cm_law {U V W P : Int} (h : cmB U V W P = true) : P ≠ 0 ∧ (P = 2 ∨ U.tmod P = 0 ∨ V.tmod P = 0 ∨ W.tmod P = 0 ∨ cmN U V W P = wrap64 (P * P)) := by
  unfold cmB inI at h
  simp only [Bool.and_eq_true, decide_eq_true_eq] at h
  obtain ⟨h1, ⟨h2, h3⟩, h4⟩ := h
  obtain ⟨q, rfl⟩ : ∃ q : Nat, P = q := ⟨P.toNat, by omega⟩
  refine ⟨by omega, ?_⟩
  by_cases g : q = 2
  · exact Or.inl (by omega)
  by_cases gu : U % (q : Int) = 0
  · exact Or.inr (Or.inl ((pmod U).2 gu))
  by_cases gv : V % (q : Int) = 0
  · exact Or.inr (Or.inr (Or.inl ((pmod V).2 gv)))
  by_cases gw : W % (q : Int) = 0
  · exact Or.inr (Or.inr (Or.inr (Or.inl ((pmod W).2 gw))))
  have e := cn3_sq (a := U) (b := V) (c := W) (prime31 h4 (by omega) g) gu gv gw
  have hq := Nat.mul_le_mul (show q ≤ 31 by omega) (show q ≤ 31 by omega)
  right; right; right; right
  unfold cmN
  rw [Int.toNat_natCast, e, wrap_id (by rw [← Int.natCast_mul]; omega) (by rw [← Int.natCast_mul]; omega), Int.natCast_mul]
theorem spot_if (X Y Z U V W : Int) : (if (X == U) = true then if (Y == V) = true then if (Z == W) = true then true else false else false else false) = decide ((X, Y, Z) = (U, V, W)) := by
  by_cases h1 : X = U
  · by_cases h2 : Y = V
    · by_cases h3 : Z = W
      · simp [h1, h2, h3]
      · simp [h3]
    · simp [h2]
  · simp [h1]
theorem cm_tail {u v w p K : Int} (pn : p ≠ 0) (pl : p = 2 ∨ u.tmod p = 0 ∨ v.tmod p = 0 ∨ w.tmod p = 0 ∨ K = wrap64 (p * p)) :
    if (p == 2) = true then True
    else
      p ≠ 0 ∧
        if (u.tmod p == 0) = true then True
        else
          p ≠ 0 ∧
            if (v.tmod p == 0) = true then True
            else p ≠ 0 ∧ if (w.tmod p == 0) = true then True else (K == wrap64 (p * p)) = true := by
  split
  · trivial
  refine ⟨pn, ?_⟩
  split
  · trivial
  refine ⟨pn, ?_⟩
  split
  · trivial
  refine ⟨pn, ?_⟩
  split
  · trivial
  rename_i h1 h2 h3 h4
  rw [beq_iff_eq] at *
  rcases pl with h | h | h | h | h
  · exact absurd h h1
  · exact absurd h h2
  · exact absurd h h3
  · exact absurd h h4
  · exact h
def fdB (Q : F3) (l : List F3) : Bool := l.any fun x => decide (x = Q)
theorem fdB_take {Q : F3} {l : List F3} {n : Nat} (h : n < l.length) : fdB Q (l.take (n + 1)) = (fdB Q (l.take n) || decide (l.getD n (0, 0, 0) = Q)) := by
  have e : l.take (n + 1) = l.take n ++ [l.getD n (0, 0, 0)] := by rw [List.take_add_one]; simp [List.getD_eq_getElem?_getD, h]
  unfold fdB
  rw [e, List.any_append]
  simp
abbrev fLawConic : Nat := 3
def cLawConic : Ctr
  | [.byt b, .byt m] => some ⟨(∀ x ∈ b, 0 ≤ x ∧ x < 256) ∧ ∀ x ∈ m, 0 ≤ x ∧ x < 256, .one (.b true), []⟩
  | _ => none
theorem okLawConic : CtrOk Try.prog fLawConic cLawConic := by
  have hsp : SpecOk Try.prog (specOf [(fBig0, cBig0), (fDrawSP, cDrawSP), (fSecondP, cSecondP), (fSSecondP, cSSecondP), (fIsSolF, cIsSolF), (fSols, cSols), (fDrawCM, cDrawCM), (fCountM, cCountM), (fSCountM, cSCountM)]) := (SpecOk.cons okBig0 (SpecOk.cons okDrawSP (SpecOk.cons okSecondP (SpecOk.cons okSSecondP (SpecOk.cons okIsSolF (SpecOk.cons okSols (SpecOk.cons okDrawCM (SpecOk.cons okCountM (SpecOk.cons okSCountM SpecOk.nil)))))))))
  refine ctr_of (fn := Try.f3) mixed tab_ok hsp Try.func3 (by kernel_rfl) (by kernel_rfl) fun args ce h => ?_
  clear hsp
  unfold cLawConic at h
  split at h
  case h_2 => cases h
  rename_i b m
  simp only [Option.some.injEq] at h
  subst h
  refine ⟨by rfl, fun hp => ⟨1, 1000, ?_⟩⟩
  obtain ⟨hb, hm⟩ : (∀ x ∈ b, 0 ≤ x ∧ x < 256) ∧ ∀ x ∈ m, 0 ≤ x ∧ x < 256 := hp
  obtain ⟨G, yG⟩ : ∃ G, (decide ((b.length : Int) > 1048576) || decide ((m.length : Int) > wrap64 (1048576 - (b.length : Int)))) = G := ⟨_, rfl⟩
  obtain ⟨a0, yA⟩ : ∃ a, (dsA b).1 0 = a := ⟨_, rfl⟩
  obtain ⟨b0, yB⟩ : ∃ a, (dsA b).1 1 = a := ⟨_, rfl⟩
  obtain ⟨c0, yC⟩ : ∃ a, (dsA b).1 2 = a := ⟨_, rfl⟩
  obtain ⟨x0, yX⟩ : ∃ a, (dsA b).1 3 = a := ⟨_, rfl⟩
  obtain ⟨y0, yY⟩ : ∃ a, (dsA b).1 4 = a := ⟨_, rfl⟩
  obtain ⟨z0, yZ⟩ : ∃ a, (dsA b).1 5 = a := ⟨_, rfl⟩
  obtain ⟨m0, yM⟩ : ∃ a, (dsM b).1 0 = a := ⟨_, rfl⟩
  obtain ⟨n0, yN⟩ : ∃ a, (dsN b).1 0 = a := ⟨_, rfl⟩
  obtain ⟨u0, yU⟩ : ∃ a, (dcA m).1 0 = a := ⟨_, rfl⟩
  obtain ⟨v0, yV⟩ : ∃ a, (dcA m).1 1 = a := ⟨_, rfl⟩
  obtain ⟨w0, yW⟩ : ∃ a, (dcA m).1 2 = a := ⟨_, rfl⟩
  obtain ⟨p0, yP⟩ : ∃ a, (dcN m).1 0 = a := ⟨_, rfl⟩
  obtain ⟨O1, yO1⟩ : ∃ O, oX a0 b0 x0 y0 z0 m0 n0 = O := ⟨_, rfl⟩
  obtain ⟨O2, yO2⟩ : ∃ O, oY a0 b0 x0 y0 z0 m0 n0 = O := ⟨_, rfl⟩
  obtain ⟨O3, yO3⟩ : ∃ O, oZ a0 b0 x0 y0 z0 m0 n0 = O := ⟨_, rfl⟩
  obtain ⟨K0, yK⟩ : ∃ K, cmN u0 v0 w0 p0 = K := ⟨_, rfl⟩
  cases G with
  | true =>
    simp only [↓cond_to_ite, ↓reduceIte, vc, out, finD, St.drop, vwAt, Entry.vwO, Entry.toO, toOf, St.res, step, stepE, stepPick, stepO, stepC, eff, look, rem, St.put, setMems, St.after, St.eval, cst, val1, okNew, Reg.item, Reg.next, subPre, argOf, resA, resV, nodupB, argsPre, argOk, callWr, effCall, callGo, callCo, effCall2, argCo, wrHs, disj, AV.hs, A0.hs, hA, initFr, initMem, initSt, resOf, resAll, compEq, compsEq, rowHs, outHds, outsEq, shapeOk, finOk, comps, A0.norm, specOf, Option.getD_some, Nat.reduceBEq, List.map_cons, List.map_nil, Option.map_some, Nat.zero_add, Nat.add_zero, Nat.reduceAdd, List.length_cons, List.length_nil, List.all_cons, List.all_nil, Bool.and_true, Bool.or_false, Bool.not_false, List.append_nil, List.nil_append, List.cons_append, List.flatMap_cons, List.flatMap_nil, List.contains_cons, List.contains_nil, beq_self_eq_true, and_self, List.toList_toArray, Bool.false_eq_true, reduceIte, Try.f3, cBig0, fBig0, yG]
  | false =>
    cases yS : spB a0 b0 c0 x0 y0 z0 m0 n0 with
    | false =>
      cases yQ : cmB u0 v0 w0 p0 with
      | false =>
        simp (maxSteps := 4000000) only [↓cond_to_ite, ↓reduceIte, vc, out, finD, St.drop, vwAt, Entry.vwO, Entry.toO, toOf, St.res, step, stepE, stepPick, stepG, stepO, stepC, eff, look, rem, St.put, St.setMem, setMems, St.after, St.eval, cst, setAt, val1, okNew, newHs, allHs, rdOf, Reg.item, Reg.next, Reg.skip, slotOf, effAlloc, loadI, effLoad, storeI, szOk, storeTo, effStore, binInt, eqI, boolOf, binBool, effBin, effUn, effPick, effExtract, subPre, argOf, resA, resL, resV, nodupB, argsPre, argOk, callWr, effCall, callGo, effAlloc2, effLoad2, effStore2, effLoad3, effStore3, effBin2, callCo, effCall2, argCo, wrHs, disj, AV.hs, A0.hs, Entry.hs, hA, initFr, initMem, initSt, resOf, resAll, compEq, compsEq, rowHs, outHds, outsEq, shapeOk, finOk, comps, A0.norm, specOf, t_bool, t_implTriple, t_implSpot, Option.getD_some, Nat.reduceBEq, List.map_cons, List.map_nil, List.set_cons_zero, List.set_cons_succ, List.getElem?_cons_zero, List.getElem?_cons_succ, List.drop_zero, List.take_succ_cons, List.take_zero, Option.map_some, Option.bind_some, Nat.zero_add, Nat.add_zero, Nat.reduceAdd, true_and, and_true, List.replicate_succ, List.replicate_zero, List.length_cons, List.length_nil, List.all_cons, List.all_nil, Bool.and_true, Bool.or_false, Bool.not_true, Bool.not_false, List.append_nil, List.nil_append, List.cons_append, List.flatMap_cons, List.flatMap_nil, List.contains_cons, List.contains_nil, List.filter_cons, List.filter_nil, beq_self_eq_true, ble_dec, Nat.reduceLeDiff, decide_true, and_self, List.toList_toArray, Bool.false_eq_true, reduceIte, flatB_3, List.headD_cons, List.tail_cons, Try.f3, cBig0, fBig0, cDrawSP, fDrawSP, cSecondP, fSecondP, cSSecondP, fSSecondP, fIsSolF, fSols, cDrawCM, fDrawCM, cCountM, fCountM, cSCountM, fSCountM, yG, yA, yB, yC, yX, yY, yZ, yM, yN, yU, yV, yW, yP, yS, onB, bne_self_eq_false, yQ]
        exact ⟨hb, hm⟩
      | true =>
        obtain ⟨pn, pl⟩ := cm_law yQ
        rw [yK] at pl
        simp (maxSteps := 4000000) only [↓cond_to_ite, ↓reduceIte, vc, out, finD, St.drop, vwAt, Entry.vwO, Entry.toO, toOf, St.res, step, stepE, stepPick, stepG, stepO, stepC, eff, look, rem, St.put, St.setMem, setMems, St.after, St.eval, cst, setAt, val1, okNew, newHs, allHs, rdOf, Reg.item, Reg.next, Reg.skip, slotOf, effAlloc, fieldOff, effField, loadI, effLoad, storeI, szOk, storeTo, effStore, binInt, eqI, boolOf, binBool, effBin, effUn, effPick, effExtract, subPre, argOf, resA, resL, resV, nodupB, argsPre, argOk, callWr, effCall, callGo, effAlloc2, effLoad2, effStore2, effField2, effField3, effLoad3, effStore3, effBin2, callCo, effCall2, argCo, wrHs, disj, AV.hs, A0.hs, Entry.hs, hA, initFr, initMem, initSt, resOf, resAll, compEq, compsEq, rowHs, outHds, outsEq, shapeOk, finOk, comps, A0.norm, specOf, t_int, t_bool, t_implTriple, t_implSpot, Option.getD_some, Nat.reduceBEq, List.map_cons, List.map_nil, List.set_cons_zero, List.set_cons_succ, List.getElem?_cons_zero, List.getElem?_cons_succ, List.drop_zero, List.take_succ_cons, List.take_zero, Option.map_some, Option.bind_some, Nat.zero_add, Nat.add_zero, Nat.reduceAdd, true_and, and_true, List.replicate_succ, List.replicate_zero, List.length_cons, List.length_nil, List.all_cons, List.all_nil, Bool.and_true, Bool.or_false, Bool.not_true, Bool.not_false, List.append_nil, List.nil_append, List.cons_append, List.flatMap_cons, List.flatMap_nil, List.contains_cons, List.contains_nil, List.filter_cons, List.filter_nil, beq_self_eq_true, A0.b.injEq, ble_dec, Nat.reduceLeDiff, decide_true, and_self, List.toList_toArray, Bool.false_eq_true, reduceIte, flatB_3, List.headD_cons, List.tail_cons, Try.f3, cBig0, fBig0, cDrawSP, fDrawSP, cSecondP, fSecondP, cSSecondP, fSSecondP, fIsSolF, fSols, cDrawCM, fDrawCM, cCountM, fCountM, cSCountM, fSCountM, yG, yA, yB, yC, yX, yY, yZ, yM, yN, yU, yV, yW, yP, yK, yS, onB, bne_self_eq_false, yQ]
        exact ⟨hb, hm, cm_tail pn pl⟩
    | true =>
      obtain ⟨ht, hf, hi, h0, hg⟩ := sp_point yS
      rw [yO1, yO2, yO3] at hf hi
      rw [yO3] at h0
      rw [yO1, yO2, yO3] at hg
      have eI : isSB a0 b0 c0 O1 O2 O3 = true := by unfold isSB; rw [ht, hf]; rfl
      have eS : solB a0 b0 c0 20 = true := by unfold solB; rw [ht]; rfl
      obtain ⟨L, hL⟩ : ∃ L, solL a0 b0 c0 20 = L := ⟨_, rfl⟩
      simp (maxSteps := 4000000) only [↓cond_to_ite, ↓reduceIte, vc, out, Entry.toO, toOf, St.res, step, stepE, stepPick, stepG, stepO, stepC, eff, look, rem, St.put, St.setMem, setMems, St.after, St.eval, cst, setAt, val1, okNew, newHs, allHs, rdOf, Reg.item, Reg.next, slotOf, effAlloc, entryRow, loadI, effLoad, storeI, szOk, storeTo, effStore, eqI, boolOf, binBool, effBin, effUn, effPick, effExtract, elemSz, lenOf, subPre, argOf, resA, resL, resV, argsPre, argOk, callWr, effCall, RC.flat, callGo, effAlloc2, effLoad2, effStore2, calleeHs, effLoad3, effStore3, lenOf2, effBin2, callCo, effCall2, argCo, wrHs, disj, AV.hs, A0.hs, Entry.hs, RC.len, hA, initFr, initMem, initSt, specOf, t_bool, t_implTriple, t_implSpot, ts_implSpot, Option.getD_some, Nat.reduceBEq, List.map_cons, List.map_nil, List.set_cons_zero, List.set_cons_succ, List.getElem?_cons_zero, List.getElem?_cons_succ, List.drop_zero, List.take_succ_cons, List.take_zero, Option.map_some, Option.bind_some, Nat.zero_add, Nat.add_zero, Nat.reduceAdd, Nat.reduceMul, true_and, and_true, List.replicate_succ, List.replicate_zero, List.length_cons, List.length_nil, List.all_cons, List.all_nil, Bool.and_true, Bool.or_false, Bool.not_true, Bool.not_false, List.append_nil, List.nil_append, List.cons_append, List.flatMap_cons, List.flatMap_nil, List.contains_cons, List.contains_nil, List.filter_cons, List.filter_nil, beq_self_eq_true, ble_dec, Nat.reduceLeDiff, decide_true, and_self, List.toList_toArray, Option.isSome_some, Bool.false_eq_true, reduceIte, flatB_3, List.headD_cons, List.tail_cons, Try.f3, cBig0, fBig0, cDrawSP, fDrawSP, cSecondP, fSecondP, cSSecondP, fSSecondP, cIsSolF, fIsSolF, cSols, fSols, fDrawCM, fCountM, fSCountM, yG, yA, yB, yC, yX, yY, yZ, yM, yN, yO1, yO2, yO3, yS, onB, onL, bne_self_eq_false, eI, hi, eS, hL, fl_length]
      refine ⟨hb, ?_⟩
      have hlen : L.length ≤ 1000000 := by rw [← hL]; exact Nat.le_trans (outL_len (a := a0) (b := b0) (c := c0) (m := 20) (z := 0) (by decide)) (by decide)
      have hall : ∀ x ∈ L, isSB a0 b0 c0 x.1 x.2.1 x.2.2 = true ∧ isB a0 b0 c0 x.1 x.2.1 x.2.2 = true := fun x hx => by
        rw [← hL] at hx
        obtain ⟨f1, f2⟩ := sol_is ht hx
        exact ⟨by unfold isSB; rw [ht, f1]; rfl, f2⟩
      have hfd : (0 ≤ O1 ∧ O1 ≤ 20) → (0 ≤ O2 ∧ O2 ≤ 20) → O3 ≤ 20 → fdB (O1, O2, O3) L = true := fun q1 q2 q3 => by
        have h := sol_has ht hf hi h0 hg q1 q2 q3
        rw [hL] at h
        unfold fdB
        rw [List.any_eq_true]
        exact ⟨_, h, decide_eq_true rfl⟩
      clear hL
      refine lp_intro (fun n : Nat => ⟨[(1, .one (.co 1000001)), (5, .one (.ref 5 0)), (9, .one (.ref 9 0)), (17, .one (.b (fdB (O1, O2, O3) (L.take n)))), (82, .one (.row 77)), (83, .one (.i (L.length : Int))), (84, .one (.i (n : Int)))], [(77, .row (.recs 27 3 (fl L))), (9, .ibox 27 [O1, O2, O3]), (5, .ibox 25 [a0, b0, c0]), (1000001, .st m)]⟩)
        (fun n => n ≤ L.length) (fun n => L.length - n) 0 [] (Nat.zero_le _) (by simp only [Cov, covOk, covFr, covMem, entEq, rn, nodupB, A0.ren, AV.ren, Entry.ren, Entry.norm, look, St.eval, A0.norm, AV.norm, Option.getD_some, Option.getD_none, cond_true, cond_false, Nat.reduceBEq, List.map_cons, List.map_nil, List.take_zero, true_and, and_true, List.all_nil, Bool.and_true, Bool.or_false, Bool.not_false, List.contains_cons, List.contains_nil, beq_self_eq_true, A0.b.injEq, A0.i.injEq, AV.one.injEq, and_self]; simp [fdB]) fun n hn J hJ => ⟨1000, ?_⟩
      by_cases g : n < L.length
      · have g1 : decide ((n : Int) < (L.length : Int)) = true := decide_eq_true (Int.ofNat_lt.2 g)
        have hw := wsucc g (Nat.le_trans hlen (by decide))
        have hmem : L.getD n (0, 0, 0) ∈ L := by simp [List.getD_eq_getElem?_getD, g]
        have hn3 : nth3 (fl L) n = L.getD n (0, 0, 0) := by rw [nth3_eq, unfl_fl]
        have htk := fdB_take (Q := (O1, O2, O3)) g
        obtain ⟨i1, i2⟩ := hall _ hmem
        generalize L.getD n (0, 0, 0) = x at *
        obtain ⟨X, Y, Z⟩ := x
        have hr1 : 0 ≤ (n : Int) ∧ (n : Int) < ((fl L).length : Int) := ⟨Int.natCast_nonneg n, by rw [fl_length]; exact Int.ofNat_lt.2 g⟩
        have hr2 : n < (fl L).length := by rw [fl_length]; exact g
        cases hF : fdB (O1, O2, O3) (L.take n) with
        | true =>
          rw [hF, Bool.true_or] at htk
          simp (maxSteps := 4000000) only [↓cond_to_ite, ↓reduceIte, vc, out, Entry.toO, toOf, St.res, step, stepE, stepPick, stepG, stepO, stepC, eff, look, rem, St.put, St.setMem, setMems, St.after, St.eval, cst, setAt, val1, okNew, newHs, allHs, rdOf, Reg.item, Reg.next, Reg.skip, slotOf, effAlloc, entryRow, loadI, loadR, effLoad, storeI, szOk, storeTo, effStore, binInt, effBin, effUn, effPick, effExtract, idxS, effIndex, subPre, argOf, resA, resL, resV, argsPre, argOk, callWr, effCall, RC.flat, callGo, effAlloc2, effLoad2, effStore2, effLoad3, effStore3, effIndex2, effBin2, effCall2, wrHs, disj, AV.hs, A0.hs, Entry.hs, RC.sz, RC.len, specOf, t_implTriple, t_implSpot, ts_implSpot, Option.getD_some, Nat.reduceBEq, List.map_cons, List.map_nil, List.set_cons_zero, List.set_cons_succ, List.getElem?_cons_zero, List.getElem?_cons_succ, List.drop_zero, List.take_succ_cons, List.take_zero, Option.bind_some, Nat.zero_add, Nat.reduceAdd, true_and, List.replicate_succ, List.replicate_zero, List.length_cons, List.length_nil, List.all_cons, List.all_nil, Bool.and_true, Bool.or_false, Bool.not_true, Bool.not_false, List.append_nil, List.nil_append, List.cons_append, List.flatMap_cons, List.flatMap_nil, List.contains_cons, List.contains_nil, List.filter_cons, List.filter_nil, beq_self_eq_true, ble_dec, Nat.reduceLeDiff, decide_true, and_self, Bool.false_eq_true, reduceIte, cIsSolF, rng3, cIsSolF, g1, hn3, Int.toNat_natCast, i1, i2, fl_length]
          exact ⟨⟨Int.natCast_nonneg n, Int.ofNat_lt.2 g⟩, g, hJ _ (n + 1) [] g (Nat.sub_succ_lt_self _ _ g) (by simp only [Cov, covOk, covFr, covMem, entEq, rn, nodupB, A0.ren, AV.ren, Entry.ren, Entry.norm, look, St.eval, A0.norm, AV.norm, Option.getD_some, Option.getD_none, cond_true, cond_false, Nat.reduceBEq, List.map_cons, List.map_nil, List.all_nil, Bool.and_true, Bool.or_false, Bool.not_false, List.contains_cons, List.contains_nil, beq_self_eq_true, and_self, hw, htk])⟩
        | false =>
          rw [hF, Bool.false_or] at htk
          cases e1 : (X == O1) with
          | false =>
            have hd : decide ((X, Y, Z) = (O1, O2, O3)) = false := by simp at e1; simp [e1]
            rw [hd] at htk
            simp (maxSteps := 4000000) only [↓cond_to_ite, ↓reduceIte, vc, out, Entry.toO, toOf, St.res, step, stepE, stepPick, stepG, stepO, stepC, eff, look, rem, St.put, St.setMem, setMems, St.after, St.eval, cst, setAt, val1, okNew, newHs, allHs, rdOf, Reg.item, Reg.next, slotOf, effAlloc, entryRow, loadI, loadR, effLoad, storeI, szOk, storeTo, effStore, binInt, eqI, effBin, effUn, effPick, effExtract, idxS, effIndex, subPre, argOf, resA, resL, resV, argsPre, argOk, callWr, effCall, RC.flat, callGo, effAlloc2, effLoad2, effStore2, effLoad3, effStore3, effIndex2, effBin2, effCall2, wrHs, disj, AV.hs, A0.hs, Entry.hs, RC.sz, RC.len, specOf, t_implTriple, t_implSpot, ts_implSpot, Option.getD_some, Nat.reduceBEq, List.map_cons, List.map_nil, List.set_cons_zero, List.set_cons_succ, List.getElem?_cons_zero, List.getElem?_cons_succ, List.drop_zero, List.take_succ_cons, List.take_zero, Option.bind_some, Nat.zero_add, Nat.reduceAdd, true_and, List.replicate_succ, List.replicate_zero, List.length_cons, List.length_nil, List.all_cons, List.all_nil, Bool.and_true, Bool.or_false, Bool.not_true, Bool.not_false, List.append_nil, List.nil_append, List.cons_append, List.flatMap_cons, List.flatMap_nil, List.contains_cons, List.contains_nil, List.filter_cons, List.filter_nil, beq_self_eq_true, ble_dec, Nat.reduceLeDiff, decide_true, and_self, Bool.false_eq_true, reduceIte, flatB_3, List.headD_cons, cIsSolF, rng3, cIsSolF, g1, hn3, Int.toNat_natCast, i1, i2, fl_length, e1]
            exact ⟨⟨Int.natCast_nonneg n, Int.ofNat_lt.2 g⟩, g, hJ _ (n + 1) [] g (Nat.sub_succ_lt_self _ _ g) (by simp only [Cov, covOk, covFr, covMem, entEq, rn, nodupB, A0.ren, AV.ren, Entry.ren, Entry.norm, look, St.eval, A0.norm, AV.norm, Option.getD_some, Option.getD_none, cond_true, cond_false, Nat.reduceBEq, List.map_cons, List.map_nil, List.all_nil, Bool.and_true, Bool.or_false, Bool.not_false, List.contains_cons, List.contains_nil, beq_self_eq_true, and_self, hw, htk])⟩
          | true =>
            cases e2 : (Y == O2) with
            | false =>
              have hd : decide ((X, Y, Z) = (O1, O2, O3)) = false := by simp at e1 e2; simp [e1, e2]
              rw [hd] at htk
              simp (maxSteps := 4000000) only [↓cond_to_ite, ↓reduceIte, vc, out, Entry.toO, toOf, St.res, step, stepE, stepPick, stepG, stepO, stepC, eff, look, rem, St.put, St.setMem, setMems, St.after, St.eval, cst, setAt, val1, okNew, newHs, allHs, rdOf, Reg.item, Reg.next, slotOf, effAlloc, entryRow, loadI, loadR, effLoad, storeI, szOk, storeTo, effStore, binInt, eqI, effBin, effUn, effPick, effExtract, idxS, effIndex, subPre, argOf, resA, resL, resV, argsPre, argOk, callWr, effCall, RC.flat, callGo, effAlloc2, effLoad2, effStore2, effLoad3, effStore3, effIndex2, effBin2, effCall2, wrHs, disj, AV.hs, A0.hs, Entry.hs, RC.sz, RC.len, specOf, t_implTriple, t_implSpot, ts_implSpot, Option.getD_some, Nat.reduceBEq, List.map_cons, List.map_nil, List.set_cons_zero, List.set_cons_succ, List.getElem?_cons_zero, List.getElem?_cons_succ, List.drop_zero, List.take_succ_cons, List.take_zero, Option.bind_some, Nat.zero_add, Nat.reduceAdd, true_and, List.replicate_succ, List.replicate_zero, List.length_cons, List.length_nil, List.all_cons, List.all_nil, Bool.and_true, Bool.or_false, Bool.not_true, Bool.not_false, List.append_nil, List.nil_append, List.cons_append, List.flatMap_cons, List.flatMap_nil, List.contains_cons, List.contains_nil, List.filter_cons, List.filter_nil, beq_self_eq_true, ble_dec, Nat.reduceLeDiff, decide_true, and_self, Bool.false_eq_true, reduceIte, flatB_3, List.headD_cons, List.tail_cons, cIsSolF, rng3, cIsSolF, g1, hn3, Int.toNat_natCast, i1, i2, fl_length, e1, e2]
              exact ⟨⟨Int.natCast_nonneg n, Int.ofNat_lt.2 g⟩, g, hJ _ (n + 1) [] g (Nat.sub_succ_lt_self _ _ g) (by simp only [Cov, covOk, covFr, covMem, entEq, rn, nodupB, A0.ren, AV.ren, Entry.ren, Entry.norm, look, St.eval, A0.norm, AV.norm, Option.getD_some, Option.getD_none, cond_true, cond_false, Nat.reduceBEq, List.map_cons, List.map_nil, List.all_nil, Bool.and_true, Bool.or_false, Bool.not_false, List.contains_cons, List.contains_nil, beq_self_eq_true, and_self, hw, htk])⟩
            | true =>
              cases e3 : (Z == O3) with
              | false =>
                have hd : decide ((X, Y, Z) = (O1, O2, O3)) = false := by simp at e1 e2 e3; simp [e1, e2, e3]
                rw [hd] at htk
                simp (maxSteps := 4000000) only [↓cond_to_ite, ↓reduceIte, vc, out, Entry.toO, toOf, St.res, step, stepE, stepPick, stepG, stepO, stepC, eff, look, rem, St.put, St.setMem, setMems, St.after, St.eval, cst, setAt, val1, okNew, newHs, allHs, rdOf, Reg.item, Reg.next, slotOf, effAlloc, entryRow, loadI, loadR, effLoad, storeI, szOk, storeTo, effStore, binInt, eqI, effBin, effUn, effPick, effExtract, idxS, effIndex, subPre, argOf, resA, resL, resV, argsPre, argOk, callWr, effCall, RC.flat, callGo, effAlloc2, effLoad2, effStore2, effLoad3, effStore3, effIndex2, effBin2, effCall2, wrHs, disj, AV.hs, A0.hs, Entry.hs, RC.sz, RC.len, specOf, t_implTriple, t_implSpot, ts_implSpot, Option.getD_some, Nat.reduceBEq, List.map_cons, List.map_nil, List.set_cons_zero, List.set_cons_succ, List.getElem?_cons_zero, List.getElem?_cons_succ, List.drop_zero, List.take_succ_cons, List.take_zero, Option.bind_some, Nat.zero_add, Nat.reduceAdd, true_and, List.replicate_succ, List.replicate_zero, List.length_cons, List.length_nil, List.all_cons, List.all_nil, Bool.and_true, Bool.or_false, Bool.not_true, Bool.not_false, List.append_nil, List.nil_append, List.cons_append, List.flatMap_cons, List.flatMap_nil, List.contains_cons, List.contains_nil, List.filter_cons, List.filter_nil, beq_self_eq_true, ble_dec, Nat.reduceLeDiff, decide_true, and_self, Bool.false_eq_true, reduceIte, flatB_3, List.headD_cons, List.tail_cons, cIsSolF, rng3, cIsSolF, g1, hn3, Int.toNat_natCast, i1, i2, fl_length, e1, e2, e3]
                exact ⟨⟨Int.natCast_nonneg n, Int.ofNat_lt.2 g⟩, g, hJ _ (n + 1) [] g (Nat.sub_succ_lt_self _ _ g) (by simp only [Cov, covOk, covFr, covMem, entEq, rn, nodupB, A0.ren, AV.ren, Entry.ren, Entry.norm, look, St.eval, A0.norm, AV.norm, Option.getD_some, Option.getD_none, cond_true, cond_false, Nat.reduceBEq, List.map_cons, List.map_nil, List.all_nil, Bool.and_true, Bool.or_false, Bool.not_false, List.contains_cons, List.contains_nil, beq_self_eq_true, and_self, hw, htk])⟩
              | true =>
                have hd : decide ((X, Y, Z) = (O1, O2, O3)) = true := by simp at e1 e2 e3; simp [e1, e2, e3]
                rw [hd] at htk
                simp (maxSteps := 4000000) only [↓cond_to_ite, ↓reduceIte, vc, out, Entry.toO, toOf, St.res, step, stepE, stepPick, stepG, stepO, stepC, eff, look, rem, St.put, St.setMem, setMems, St.after, St.eval, cst, setAt, val1, okNew, newHs, allHs, rdOf, Reg.item, Reg.next, slotOf, effAlloc, entryRow, loadI, loadR, effLoad, storeI, szOk, storeTo, effStore, binInt, eqI, effBin, effUn, effPick, effExtract, idxS, effIndex, subPre, argOf, resA, resL, resV, argsPre, argOk, callWr, effCall, RC.flat, callGo, effAlloc2, effLoad2, effStore2, effLoad3, effStore3, effIndex2, effBin2, effCall2, wrHs, disj, AV.hs, A0.hs, Entry.hs, RC.sz, RC.len, specOf, t_implTriple, t_implSpot, ts_implSpot, Option.getD_some, Nat.reduceBEq, List.map_cons, List.map_nil, List.set_cons_zero, List.set_cons_succ, List.getElem?_cons_zero, List.getElem?_cons_succ, List.drop_zero, List.take_succ_cons, List.take_zero, Option.bind_some, Nat.zero_add, Nat.reduceAdd, true_and, List.replicate_succ, List.replicate_zero, List.length_cons, List.length_nil, List.all_cons, List.all_nil, Bool.and_true, Bool.or_false, Bool.not_true, Bool.not_false, List.append_nil, List.nil_append, List.cons_append, List.flatMap_cons, List.flatMap_nil, List.contains_cons, List.contains_nil, List.filter_cons, List.filter_nil, beq_self_eq_true, ble_dec, Nat.reduceLeDiff, decide_true, and_self, Bool.false_eq_true, reduceIte, flatB_3, List.headD_cons, List.tail_cons, cIsSolF, rng3, cIsSolF, g1, hn3, Int.toNat_natCast, i1, i2, fl_length, e1, e2, e3]
                exact ⟨⟨Int.natCast_nonneg n, Int.ofNat_lt.2 g⟩, g, hJ _ (n + 1) [] g (Nat.sub_succ_lt_self _ _ g) (by simp only [Cov, covOk, covFr, covMem, entEq, rn, nodupB, A0.ren, AV.ren, Entry.ren, Entry.norm, look, St.eval, A0.norm, AV.norm, Option.getD_some, Option.getD_none, cond_true, cond_false, Nat.reduceBEq, List.map_cons, List.map_nil, List.all_nil, Bool.and_true, Bool.or_false, Bool.not_false, List.contains_cons, List.contains_nil, beq_self_eq_true, and_self, hw, htk])⟩
      · obtain rfl : n = L.length := Nat.le_antisymm hn (Nat.le_of_not_lt g)
        have g1 : decide ((L.length : Int) < (L.length : Int)) = false := decide_eq_false (Int.lt_irrefl _)
        have hT : L.take L.length = L := List.take_length
        obtain ⟨F, hF⟩ : ∃ F, fdB (O1, O2, O3) L = F := ⟨_, rfl⟩
        by_cases k0 : O1 ≥ 0
        · have l0 : decide (O1 ≥ 0) = true := decide_eq_true k0
          by_cases k1 : O2 ≥ 0
          · have l1 : decide (O2 ≥ 0) = true := decide_eq_true k1
            by_cases k2 : O1 ≤ 20
            · have l2 : decide (O1 ≤ 20) = true := decide_eq_true k2
              by_cases k3 : O2 ≤ 20
              · have l3 : decide (O2 ≤ 20) = true := decide_eq_true k3
                by_cases k4 : O3 ≤ 20
                · have l4 : decide (O3 ≤ 20) = true := decide_eq_true k4
                  have hF1 : F = true := by rw [← hF]; exact hfd ⟨k0, k2⟩ ⟨k1, k3⟩ k4
                  subst hF1
                  cases yQ : cmB u0 v0 w0 p0 with
                  | false =>
                    simp (maxSteps := 4000000) only [↓cond_to_ite, ↓reduceIte, vc, out, finD, St.drop, vwAt, Entry.vwO, RC.vwO, Entry.toO, toOf, St.res, step, stepE, stepPick, stepG, stepO, stepC, eff, look, rem, St.put, St.setMem, setMems, St.after, St.eval, cst, setAt, val1, okNew, newHs, allHs, rdOf, Reg.item, Reg.next, Reg.skip, slotOf, effAlloc, fieldOff, effField, loadI, effLoad, storeI, szOk, storeTo, effStore, binInt, boolOf, binBool, effBin, effUn, effPick, effExtract, subPre, argOf, resA, resL, resV, nodupB, argsPre, argOk, callWr, effCall, callGo, effAlloc2, effLoad2, effStore2, effField2, effField3, effLoad3, effStore3, effBin2, callCo, effCall2, argCo, wrHs, disj, AV.hs, A0.hs, Entry.hs, resOf, resAll, compEq, compsEq, rowHs, outHds, outsEq, shapeOk, finOk, comps, A0.norm, specOf, t_int, t_bool, t_implTriple, t_implSpot, Option.getD_some, Nat.reduceBEq, List.map_cons, List.map_nil, List.set_cons_zero, List.set_cons_succ, List.getElem?_cons_zero, List.getElem?_cons_succ, List.drop_zero, List.take_succ_cons, List.take_zero, Option.map_some, Option.bind_some, Nat.zero_add, Nat.add_zero, Nat.reduceAdd, true_and, and_true, List.replicate_succ, List.replicate_zero, List.length_cons, List.length_nil, List.all_cons, List.all_nil, Bool.and_true, Bool.or_false, Bool.not_true, Bool.not_false, List.append_nil, List.nil_append, List.cons_append, List.flatMap_cons, List.flatMap_nil, List.contains_cons, List.contains_nil, List.filter_cons, List.filter_nil, beq_self_eq_true, ble_dec, Nat.reduceLeDiff, decide_true, and_self, Bool.false_eq_true, reduceIte, cDrawCM, cCountM, cSCountM, yU, yV, yW, yP, onB, bne_self_eq_false, yQ, g1, hT, hF, l0, l1, l2, l3, l4]
                    exact hm
                  | true =>
                    obtain ⟨pn, pl⟩ := cm_law yQ
                    rw [yK] at pl
                    simp (maxSteps := 4000000) only [↓cond_to_ite, ↓reduceIte, vc, out, finD, St.drop, vwAt, Entry.vwO, RC.vwO, Entry.toO, toOf, St.res, step, stepE, stepPick, stepG, stepO, stepC, eff, look, rem, St.put, St.setMem, setMems, St.after, St.eval, cst, setAt, val1, okNew, newHs, allHs, rdOf, Reg.item, Reg.next, Reg.skip, slotOf, effAlloc, fieldOff, effField, loadI, effLoad, storeI, szOk, storeTo, effStore, binInt, boolOf, binBool, effBin, effUn, effPick, effExtract, subPre, argOf, resA, resL, resV, nodupB, argsPre, argOk, callWr, effCall, callGo, effAlloc2, effLoad2, effStore2, effField2, effField3, effLoad3, effStore3, effBin2, callCo, effCall2, argCo, wrHs, disj, AV.hs, A0.hs, Entry.hs, resOf, resAll, compEq, compsEq, rowHs, outHds, outsEq, shapeOk, finOk, comps, A0.norm, specOf, t_int, t_bool, t_implTriple, t_implSpot, Option.getD_some, Nat.reduceBEq, List.map_cons, List.map_nil, List.set_cons_zero, List.set_cons_succ, List.getElem?_cons_zero, List.getElem?_cons_succ, List.drop_zero, List.take_succ_cons, List.take_zero, Option.map_some, Option.bind_some, Nat.zero_add, Nat.add_zero, Nat.reduceAdd, true_and, and_true, List.replicate_succ, List.replicate_zero, List.length_cons, List.length_nil, List.all_cons, List.all_nil, Bool.and_true, Bool.or_false, Bool.not_true, Bool.not_false, List.append_nil, List.nil_append, List.cons_append, List.flatMap_cons, List.flatMap_nil, List.contains_cons, List.contains_nil, List.filter_cons, List.filter_nil, beq_self_eq_true, A0.b.injEq, ble_dec, Nat.reduceLeDiff, decide_true, and_self, Bool.false_eq_true, reduceIte, cDrawCM, cCountM, cSCountM, yU, yV, yW, yP, yK, onB, bne_self_eq_false, yQ, g1, hT, hF, l0, l1, l2, l3, l4]
                    exact ⟨hm, cm_tail pn pl⟩
                · have l4 : decide (O3 ≤ 20) = false := decide_eq_false k4
                  cases yQ : cmB u0 v0 w0 p0 with
                  | false =>
                    simp (maxSteps := 4000000) only [↓cond_to_ite, ↓reduceIte, vc, out, finD, St.drop, vwAt, Entry.vwO, RC.vwO, Entry.toO, toOf, St.res, step, stepE, stepPick, stepG, stepO, stepC, eff, look, rem, St.put, St.setMem, setMems, St.after, St.eval, cst, setAt, val1, okNew, newHs, allHs, rdOf, Reg.item, Reg.next, Reg.skip, slotOf, effAlloc, fieldOff, effField, loadI, effLoad, storeI, szOk, storeTo, effStore, binInt, boolOf, binBool, effBin, effUn, effPick, effExtract, subPre, argOf, resA, resL, resV, nodupB, argsPre, argOk, callWr, effCall, callGo, effAlloc2, effLoad2, effStore2, effField2, effField3, effLoad3, effStore3, effBin2, callCo, effCall2, argCo, wrHs, disj, AV.hs, A0.hs, Entry.hs, resOf, resAll, compEq, compsEq, rowHs, outHds, outsEq, shapeOk, finOk, comps, A0.norm, specOf, t_int, t_bool, t_implTriple, t_implSpot, Option.getD_some, Nat.reduceBEq, List.map_cons, List.map_nil, List.set_cons_zero, List.set_cons_succ, List.getElem?_cons_zero, List.getElem?_cons_succ, List.drop_zero, List.take_succ_cons, List.take_zero, Option.map_some, Option.bind_some, Nat.zero_add, Nat.add_zero, Nat.reduceAdd, true_and, and_true, List.replicate_succ, List.replicate_zero, List.length_cons, List.length_nil, List.all_cons, List.all_nil, Bool.and_true, Bool.or_false, Bool.not_true, Bool.not_false, List.append_nil, List.nil_append, List.cons_append, List.flatMap_cons, List.flatMap_nil, List.contains_cons, List.contains_nil, List.filter_cons, List.filter_nil, beq_self_eq_true, ble_dec, Nat.reduceLeDiff, decide_true, and_self, Bool.false_eq_true, reduceIte, cDrawCM, cCountM, cSCountM, yU, yV, yW, yP, onB, bne_self_eq_false, yQ, g1, hT, hF, l0, l1, l2, l3, l4]
                    exact hm
                  | true =>
                    obtain ⟨pn, pl⟩ := cm_law yQ
                    rw [yK] at pl
                    simp (maxSteps := 4000000) only [↓cond_to_ite, ↓reduceIte, vc, out, finD, St.drop, vwAt, Entry.vwO, RC.vwO, Entry.toO, toOf, St.res, step, stepE, stepPick, stepG, stepO, stepC, eff, look, rem, St.put, St.setMem, setMems, St.after, St.eval, cst, setAt, val1, okNew, newHs, allHs, rdOf, Reg.item, Reg.next, Reg.skip, slotOf, effAlloc, fieldOff, effField, loadI, effLoad, storeI, szOk, storeTo, effStore, binInt, boolOf, binBool, effBin, effUn, effPick, effExtract, subPre, argOf, resA, resL, resV, nodupB, argsPre, argOk, callWr, effCall, callGo, effAlloc2, effLoad2, effStore2, effField2, effField3, effLoad3, effStore3, effBin2, callCo, effCall2, argCo, wrHs, disj, AV.hs, A0.hs, Entry.hs, resOf, resAll, compEq, compsEq, rowHs, outHds, outsEq, shapeOk, finOk, comps, A0.norm, specOf, t_int, t_bool, t_implTriple, t_implSpot, Option.getD_some, Nat.reduceBEq, List.map_cons, List.map_nil, List.set_cons_zero, List.set_cons_succ, List.getElem?_cons_zero, List.getElem?_cons_succ, List.drop_zero, List.take_succ_cons, List.take_zero, Option.map_some, Option.bind_some, Nat.zero_add, Nat.add_zero, Nat.reduceAdd, true_and, and_true, List.replicate_succ, List.replicate_zero, List.length_cons, List.length_nil, List.all_cons, List.all_nil, Bool.and_true, Bool.or_false, Bool.not_true, Bool.not_false, List.append_nil, List.nil_append, List.cons_append, List.flatMap_cons, List.flatMap_nil, List.contains_cons, List.contains_nil, List.filter_cons, List.filter_nil, beq_self_eq_true, A0.b.injEq, ble_dec, Nat.reduceLeDiff, decide_true, and_self, Bool.false_eq_true, reduceIte, cDrawCM, cCountM, cSCountM, yU, yV, yW, yP, yK, onB, bne_self_eq_false, yQ, g1, hT, hF, l0, l1, l2, l3, l4]
                    exact ⟨hm, cm_tail pn pl⟩
              · have l3 : decide (O2 ≤ 20) = false := decide_eq_false k3
                cases yQ : cmB u0 v0 w0 p0 with
                | false =>
                  simp (maxSteps := 4000000) only [↓cond_to_ite, ↓reduceIte, vc, out, finD, St.drop, vwAt, Entry.vwO, RC.vwO, Entry.toO, toOf, St.res, step, stepE, stepPick, stepG, stepO, stepC, eff, look, rem, St.put, St.setMem, setMems, St.after, St.eval, cst, setAt, val1, okNew, newHs, allHs, rdOf, Reg.item, Reg.next, Reg.skip, slotOf, effAlloc, fieldOff, effField, loadI, effLoad, storeI, szOk, storeTo, effStore, binInt, boolOf, binBool, effBin, effUn, effPick, effExtract, subPre, argOf, resA, resL, resV, nodupB, argsPre, argOk, callWr, effCall, callGo, effAlloc2, effLoad2, effStore2, effField2, effField3, effLoad3, effStore3, effBin2, callCo, effCall2, argCo, wrHs, disj, AV.hs, A0.hs, Entry.hs, resOf, resAll, compEq, compsEq, rowHs, outHds, outsEq, shapeOk, finOk, comps, A0.norm, specOf, t_int, t_bool, t_implTriple, t_implSpot, Option.getD_some, Nat.reduceBEq, List.map_cons, List.map_nil, List.set_cons_zero, List.set_cons_succ, List.getElem?_cons_zero, List.getElem?_cons_succ, List.drop_zero, List.take_succ_cons, List.take_zero, Option.map_some, Option.bind_some, Nat.zero_add, Nat.add_zero, Nat.reduceAdd, true_and, and_true, List.replicate_succ, List.replicate_zero, List.length_cons, List.length_nil, List.all_cons, List.all_nil, Bool.and_true, Bool.or_false, Bool.not_true, Bool.not_false, List.append_nil, List.nil_append, List.cons_append, List.flatMap_cons, List.flatMap_nil, List.contains_cons, List.contains_nil, List.filter_cons, List.filter_nil, beq_self_eq_true, ble_dec, Nat.reduceLeDiff, decide_true, and_self, Bool.false_eq_true, reduceIte, cDrawCM, cCountM, cSCountM, yU, yV, yW, yP, onB, bne_self_eq_false, yQ, g1, hT, hF, l0, l1, l2, l3]
                  exact hm
                | true =>
                  obtain ⟨pn, pl⟩ := cm_law yQ
                  rw [yK] at pl
                  simp (maxSteps := 4000000) only [↓cond_to_ite, ↓reduceIte, vc, out, finD, St.drop, vwAt, Entry.vwO, RC.vwO, Entry.toO, toOf, St.res, step, stepE, stepPick, stepG, stepO, stepC, eff, look, rem, St.put, St.setMem, setMems, St.after, St.eval, cst, setAt, val1, okNew, newHs, allHs, rdOf, Reg.item, Reg.next, Reg.skip, slotOf, effAlloc, fieldOff, effField, loadI, effLoad, storeI, szOk, storeTo, effStore, binInt, boolOf, binBool, effBin, effUn, effPick, effExtract, subPre, argOf, resA, resL, resV, nodupB, argsPre, argOk, callWr, effCall, callGo, effAlloc2, effLoad2, effStore2, effField2, effField3, effLoad3, effStore3, effBin2, callCo, effCall2, argCo, wrHs, disj, AV.hs, A0.hs, Entry.hs, resOf, resAll, compEq, compsEq, rowHs, outHds, outsEq, shapeOk, finOk, comps, A0.norm, specOf, t_int, t_bool, t_implTriple, t_implSpot, Option.getD_some, Nat.reduceBEq, List.map_cons, List.map_nil, List.set_cons_zero, List.set_cons_succ, List.getElem?_cons_zero, List.getElem?_cons_succ, List.drop_zero, List.take_succ_cons, List.take_zero, Option.map_some, Option.bind_some, Nat.zero_add, Nat.add_zero, Nat.reduceAdd, true_and, and_true, List.replicate_succ, List.replicate_zero, List.length_cons, List.length_nil, List.all_cons, List.all_nil, Bool.and_true, Bool.or_false, Bool.not_true, Bool.not_false, List.append_nil, List.nil_append, List.cons_append, List.flatMap_cons, List.flatMap_nil, List.contains_cons, List.contains_nil, List.filter_cons, List.filter_nil, beq_self_eq_true, A0.b.injEq, ble_dec, Nat.reduceLeDiff, decide_true, and_self, Bool.false_eq_true, reduceIte, cDrawCM, cCountM, cSCountM, yU, yV, yW, yP, yK, onB, bne_self_eq_false, yQ, g1, hT, hF, l0, l1, l2, l3]
                  exact ⟨hm, cm_tail pn pl⟩
            · have l2 : decide (O1 ≤ 20) = false := decide_eq_false k2
              cases yQ : cmB u0 v0 w0 p0 with
              | false =>
                simp (maxSteps := 4000000) only [↓cond_to_ite, ↓reduceIte, vc, out, finD, St.drop, vwAt, Entry.vwO, RC.vwO, Entry.toO, toOf, St.res, step, stepE, stepPick, stepG, stepO, stepC, eff, look, rem, St.put, St.setMem, setMems, St.after, St.eval, cst, setAt, val1, okNew, newHs, allHs, rdOf, Reg.item, Reg.next, Reg.skip, slotOf, effAlloc, fieldOff, effField, loadI, effLoad, storeI, szOk, storeTo, effStore, binInt, boolOf, binBool, effBin, effUn, effPick, effExtract, subPre, argOf, resA, resL, resV, nodupB, argsPre, argOk, callWr, effCall, callGo, effAlloc2, effLoad2, effStore2, effField2, effField3, effLoad3, effStore3, effBin2, callCo, effCall2, argCo, wrHs, disj, AV.hs, A0.hs, Entry.hs, resOf, resAll, compEq, compsEq, rowHs, outHds, outsEq, shapeOk, finOk, comps, A0.norm, specOf, t_int, t_bool, t_implTriple, t_implSpot, Option.getD_some, Nat.reduceBEq, List.map_cons, List.map_nil, List.set_cons_zero, List.set_cons_succ, List.getElem?_cons_zero, List.getElem?_cons_succ, List.drop_zero, List.take_succ_cons, List.take_zero, Option.map_some, Option.bind_some, Nat.zero_add, Nat.add_zero, Nat.reduceAdd, true_and, and_true, List.replicate_succ, List.replicate_zero, List.length_cons, List.length_nil, List.all_cons, List.all_nil, Bool.and_true, Bool.or_false, Bool.not_true, Bool.not_false, List.append_nil, List.nil_append, List.cons_append, List.flatMap_cons, List.flatMap_nil, List.contains_cons, List.contains_nil, List.filter_cons, List.filter_nil, beq_self_eq_true, ble_dec, Nat.reduceLeDiff, decide_true, and_self, Bool.false_eq_true, reduceIte, cDrawCM, cCountM, cSCountM, yU, yV, yW, yP, onB, bne_self_eq_false, yQ, g1, hT, hF, l0, l1, l2]
                exact hm
              | true =>
                obtain ⟨pn, pl⟩ := cm_law yQ
                rw [yK] at pl
                simp (maxSteps := 4000000) only [↓cond_to_ite, ↓reduceIte, vc, out, finD, St.drop, vwAt, Entry.vwO, RC.vwO, Entry.toO, toOf, St.res, step, stepE, stepPick, stepG, stepO, stepC, eff, look, rem, St.put, St.setMem, setMems, St.after, St.eval, cst, setAt, val1, okNew, newHs, allHs, rdOf, Reg.item, Reg.next, Reg.skip, slotOf, effAlloc, fieldOff, effField, loadI, effLoad, storeI, szOk, storeTo, effStore, binInt, boolOf, binBool, effBin, effUn, effPick, effExtract, subPre, argOf, resA, resL, resV, nodupB, argsPre, argOk, callWr, effCall, callGo, effAlloc2, effLoad2, effStore2, effField2, effField3, effLoad3, effStore3, effBin2, callCo, effCall2, argCo, wrHs, disj, AV.hs, A0.hs, Entry.hs, resOf, resAll, compEq, compsEq, rowHs, outHds, outsEq, shapeOk, finOk, comps, A0.norm, specOf, t_int, t_bool, t_implTriple, t_implSpot, Option.getD_some, Nat.reduceBEq, List.map_cons, List.map_nil, List.set_cons_zero, List.set_cons_succ, List.getElem?_cons_zero, List.getElem?_cons_succ, List.drop_zero, List.take_succ_cons, List.take_zero, Option.map_some, Option.bind_some, Nat.zero_add, Nat.add_zero, Nat.reduceAdd, true_and, and_true, List.replicate_succ, List.replicate_zero, List.length_cons, List.length_nil, List.all_cons, List.all_nil, Bool.and_true, Bool.or_false, Bool.not_true, Bool.not_false, List.append_nil, List.nil_append, List.cons_append, List.flatMap_cons, List.flatMap_nil, List.contains_cons, List.contains_nil, List.filter_cons, List.filter_nil, beq_self_eq_true, A0.b.injEq, ble_dec, Nat.reduceLeDiff, decide_true, and_self, Bool.false_eq_true, reduceIte, cDrawCM, cCountM, cSCountM, yU, yV, yW, yP, yK, onB, bne_self_eq_false, yQ, g1, hT, hF, l0, l1, l2]
                exact ⟨hm, cm_tail pn pl⟩
          · have l1 : decide (O2 ≥ 0) = false := decide_eq_false k1
            cases yQ : cmB u0 v0 w0 p0 with
            | false =>
              simp (maxSteps := 4000000) only [↓cond_to_ite, ↓reduceIte, vc, out, finD, St.drop, vwAt, Entry.vwO, RC.vwO, Entry.toO, toOf, St.res, step, stepE, stepPick, stepG, stepO, stepC, eff, look, rem, St.put, St.setMem, setMems, St.after, St.eval, cst, setAt, val1, okNew, newHs, allHs, rdOf, Reg.item, Reg.next, Reg.skip, slotOf, effAlloc, fieldOff, effField, loadI, effLoad, storeI, szOk, storeTo, effStore, binInt, boolOf, binBool, effBin, effUn, effPick, effExtract, subPre, argOf, resA, resL, resV, nodupB, argsPre, argOk, callWr, effCall, callGo, effAlloc2, effLoad2, effStore2, effField2, effField3, effLoad3, effStore3, effBin2, callCo, effCall2, argCo, wrHs, disj, AV.hs, A0.hs, Entry.hs, resOf, resAll, compEq, compsEq, rowHs, outHds, outsEq, shapeOk, finOk, comps, A0.norm, specOf, t_int, t_bool, t_implTriple, t_implSpot, Option.getD_some, Nat.reduceBEq, List.map_cons, List.map_nil, List.set_cons_zero, List.set_cons_succ, List.getElem?_cons_zero, List.getElem?_cons_succ, List.drop_zero, List.take_succ_cons, List.take_zero, Option.map_some, Option.bind_some, Nat.zero_add, Nat.add_zero, Nat.reduceAdd, true_and, and_true, List.replicate_succ, List.replicate_zero, List.length_cons, List.length_nil, List.all_cons, List.all_nil, Bool.and_true, Bool.or_false, Bool.not_true, Bool.not_false, List.append_nil, List.nil_append, List.cons_append, List.flatMap_cons, List.flatMap_nil, List.contains_cons, List.contains_nil, List.filter_cons, List.filter_nil, beq_self_eq_true, ble_dec, Nat.reduceLeDiff, decide_true, and_self, Bool.false_eq_true, reduceIte, cDrawCM, cCountM, cSCountM, yU, yV, yW, yP, onB, bne_self_eq_false, yQ, g1, hT, hF, l0, l1]
              exact hm
            | true =>
              obtain ⟨pn, pl⟩ := cm_law yQ
              rw [yK] at pl
              simp (maxSteps := 4000000) only [↓cond_to_ite, ↓reduceIte, vc, out, finD, St.drop, vwAt, Entry.vwO, RC.vwO, Entry.toO, toOf, St.res, step, stepE, stepPick, stepG, stepO, stepC, eff, look, rem, St.put, St.setMem, setMems, St.after, St.eval, cst, setAt, val1, okNew, newHs, allHs, rdOf, Reg.item, Reg.next, Reg.skip, slotOf, effAlloc, fieldOff, effField, loadI, effLoad, storeI, szOk, storeTo, effStore, binInt, boolOf, binBool, effBin, effUn, effPick, effExtract, subPre, argOf, resA, resL, resV, nodupB, argsPre, argOk, callWr, effCall, callGo, effAlloc2, effLoad2, effStore2, effField2, effField3, effLoad3, effStore3, effBin2, callCo, effCall2, argCo, wrHs, disj, AV.hs, A0.hs, Entry.hs, resOf, resAll, compEq, compsEq, rowHs, outHds, outsEq, shapeOk, finOk, comps, A0.norm, specOf, t_int, t_bool, t_implTriple, t_implSpot, Option.getD_some, Nat.reduceBEq, List.map_cons, List.map_nil, List.set_cons_zero, List.set_cons_succ, List.getElem?_cons_zero, List.getElem?_cons_succ, List.drop_zero, List.take_succ_cons, List.take_zero, Option.map_some, Option.bind_some, Nat.zero_add, Nat.add_zero, Nat.reduceAdd, true_and, and_true, List.replicate_succ, List.replicate_zero, List.length_cons, List.length_nil, List.all_cons, List.all_nil, Bool.and_true, Bool.or_false, Bool.not_true, Bool.not_false, List.append_nil, List.nil_append, List.cons_append, List.flatMap_cons, List.flatMap_nil, List.contains_cons, List.contains_nil, List.filter_cons, List.filter_nil, beq_self_eq_true, A0.b.injEq, ble_dec, Nat.reduceLeDiff, decide_true, and_self, Bool.false_eq_true, reduceIte, cDrawCM, cCountM, cSCountM, yU, yV, yW, yP, yK, onB, bne_self_eq_false, yQ, g1, hT, hF, l0, l1]
              exact ⟨hm, cm_tail pn pl⟩
        · have l0 : decide (O1 ≥ 0) = false := decide_eq_false k0
          cases yQ : cmB u0 v0 w0 p0 with
          | false =>
            simp (maxSteps := 4000000) only [↓cond_to_ite, ↓reduceIte, vc, out, finD, St.drop, vwAt, Entry.vwO, RC.vwO, Entry.toO, toOf, St.res, step, stepE, stepPick, stepG, stepO, stepC, eff, look, rem, St.put, St.setMem, setMems, St.after, St.eval, cst, setAt, val1, okNew, newHs, allHs, rdOf, Reg.item, Reg.next, Reg.skip, slotOf, effAlloc, fieldOff, effField, loadI, effLoad, storeI, szOk, storeTo, effStore, binInt, boolOf, binBool, effBin, effUn, effPick, effExtract, subPre, argOf, resA, resL, resV, nodupB, argsPre, argOk, callWr, effCall, callGo, effAlloc2, effLoad2, effStore2, effField2, effField3, effLoad3, effStore3, effBin2, callCo, effCall2, argCo, wrHs, disj, AV.hs, A0.hs, Entry.hs, resOf, resAll, compEq, compsEq, rowHs, outHds, outsEq, shapeOk, finOk, comps, A0.norm, specOf, t_int, t_bool, t_implTriple, t_implSpot, Option.getD_some, Nat.reduceBEq, List.map_cons, List.map_nil, List.set_cons_zero, List.set_cons_succ, List.getElem?_cons_zero, List.getElem?_cons_succ, List.drop_zero, List.take_succ_cons, List.take_zero, Option.map_some, Option.bind_some, Nat.zero_add, Nat.add_zero, Nat.reduceAdd, true_and, and_true, List.replicate_succ, List.replicate_zero, List.length_cons, List.length_nil, List.all_cons, List.all_nil, Bool.and_true, Bool.or_false, Bool.not_true, Bool.not_false, List.append_nil, List.nil_append, List.cons_append, List.flatMap_cons, List.flatMap_nil, List.contains_cons, List.contains_nil, List.filter_cons, List.filter_nil, beq_self_eq_true, ble_dec, Nat.reduceLeDiff, decide_true, and_self, Bool.false_eq_true, reduceIte, cDrawCM, cCountM, cSCountM, yU, yV, yW, yP, onB, bne_self_eq_false, yQ, g1, hT, hF, l0]
            exact hm
          | true =>
            obtain ⟨pn, pl⟩ := cm_law yQ
            rw [yK] at pl
            simp (maxSteps := 4000000) only [↓cond_to_ite, ↓reduceIte, vc, out, finD, St.drop, vwAt, Entry.vwO, RC.vwO, Entry.toO, toOf, St.res, step, stepE, stepPick, stepG, stepO, stepC, eff, look, rem, St.put, St.setMem, setMems, St.after, St.eval, cst, setAt, val1, okNew, newHs, allHs, rdOf, Reg.item, Reg.next, Reg.skip, slotOf, effAlloc, fieldOff, effField, loadI, effLoad, storeI, szOk, storeTo, effStore, binInt, boolOf, binBool, effBin, effUn, effPick, effExtract, subPre, argOf, resA, resL, resV, nodupB, argsPre, argOk, callWr, effCall, callGo, effAlloc2, effLoad2, effStore2, effField2, effField3, effLoad3, effStore3, effBin2, callCo, effCall2, argCo, wrHs, disj, AV.hs, A0.hs, Entry.hs, resOf, resAll, compEq, compsEq, rowHs, outHds, outsEq, shapeOk, finOk, comps, A0.norm, specOf, t_int, t_bool, t_implTriple, t_implSpot, Option.getD_some, Nat.reduceBEq, List.map_cons, List.map_nil, List.set_cons_zero, List.set_cons_succ, List.getElem?_cons_zero, List.getElem?_cons_succ, List.drop_zero, List.take_succ_cons, List.take_zero, Option.map_some, Option.bind_some, Nat.zero_add, Nat.add_zero, Nat.reduceAdd, true_and, and_true, List.replicate_succ, List.replicate_zero, List.length_cons, List.length_nil, List.all_cons, List.all_nil, Bool.and_true, Bool.or_false, Bool.not_true, Bool.not_false, List.append_nil, List.nil_append, List.cons_append, List.flatMap_cons, List.flatMap_nil, List.contains_cons, List.contains_nil, List.filter_cons, List.filter_nil, beq_self_eq_true, A0.b.injEq, ble_dec, Nat.reduceLeDiff, decide_true, and_self, Bool.false_eq_true, reduceIte, cDrawCM, cCountM, cSCountM, yU, yV, yW, yP, yK, onB, bne_self_eq_false, yQ, g1, hT, hF, l0]
            exact ⟨hm, cm_tail pn pl⟩
end Go.Proofs.Ytacomnelongbjaa
