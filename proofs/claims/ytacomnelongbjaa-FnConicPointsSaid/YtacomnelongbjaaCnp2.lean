/-
  Contracts of SecondPoint on both sides. Conditions: none.
-/
import Derived.Test.YtacomnelongbjaaCnp
namespace Go.Proofs.Ytacomnelongbjaa
open Go Go.RowKit
set_option maxRecDepth 100000
set_option linter.unusedSimpArgs false
set_option linter.unusedVariables false
set_option maxHeartbeats 4000000

abbrev fSecondP : Nat := 6
def cSecondP : Ctr
  | [.s [a, b, c], .s [x, y, z], .i m, .i n] => some ⟨True, .tup [.s [onB (spB a b c x y z m n) (oX a b x y z m n), onB (spB a b c x y z m n) (oY a b x y z m n), onB (spB a b c x y z m n) (oZ a b x y z m n)], .b (spB a b c x y z m n)], []⟩
  | _ => none
theorem okSecondP : CtrOk Try.prog fSecondP cSecondP := by
  have hsp : SpecOk Try.prog (specOf [(fAbs, cAbs), (fIsTriple, cIsTriple), (fIsSol0, cIsSol0), (fGcd, cGcd), (fAre, cAre)]) := (SpecOk.cons okAbs (SpecOk.cons okIsTriple (SpecOk.cons okIsSol0 (SpecOk.cons okGcd (SpecOk.cons okAre SpecOk.nil)))))
  refine ctr_of (fn := Try.f6) mixed tab_ok hsp Try.func6 (by kernel_rfl) (by kernel_rfl) fun args ce h => ?_
  clear hsp
  unfold cSecondP at h
  split at h
  case h_2 => cases h
  rename_i a b c x y z m n
  simp only [Option.some.injEq] at h
  subst h
  refine ⟨by rfl, fun hp => ⟨1, 1000, ?_⟩⟩
  simp only [↓cond_to_ite, ↓reduceIte, vc, out, Entry.toO, toOf, St.res, step, stepE, stepPick, stepO, eff, look, rem, St.put, St.setMem, setMems, St.after, St.eval, cst, val1, okNew, newHs, allHs, rdOf, Reg.item, Reg.next, effBox, effAlloc, entryRow, fieldOff, effField, loadI, effLoad, ivs, rowOf, allParts, effBuildSlice, elemSz, lenOf, RC.flat, effBox2, effBuildSl, effBox3, effAlloc2, effLoad2, effField2, effField3, effLoad3, lenOf2, effBox4, wrHs, disj, AV.hs, A0.hs, Entry.hs, RC.sz, RC.len, hA, initFr, initMem, initSt, t_int, t_implSpot, ts_int, Option.getD_some, Nat.reduceBEq, List.map_cons, List.map_nil, List.getElem?_cons_zero, List.getElem?_cons_succ, Option.map_some, Nat.zero_add, Nat.add_zero, Nat.reduceAdd, true_and, List.replicate_succ, List.replicate_zero, List.length_cons, List.length_nil, List.all_cons, List.all_nil, Bool.and_true, Bool.or_false, Bool.not_false, List.append_nil, List.nil_append, List.cons_append, List.flatMap_cons, List.flatMap_nil, List.contains_cons, List.contains_nil, List.filter_cons, List.filter_nil, beq_self_eq_true, ble_dec, Nat.reduceLeDiff, decide_true, List.toList_toArray, Option.isSome_some, Bool.false_eq_true, reduceIte, fAbs, fIsTriple, fIsSol0, fGcd, fAre, Try.f6]
  refine lp_intro (fun q : Nat => ⟨[(2, .one (.i m)), (3, .one (.i n)), (4, .one (.ref 4 0)), (5, .one (.ref 5 0)), (8, .one (.ref 8 0)), (24, .one (.row 24)), (25, .one (.i ((5 : Nat) : Int))), (26, .one (.i q))], [(24, .row (.ints 3 [x, y, z, m, n])), (4, .ibox 25 [a, b, c]), (5, .ibox 27 [x, y, z]), (8, .ibox 27 [0, 0, 0])]⟩)
    (fun q => q ≤ 5 ∧ ([x, y, z, m, n].take q).all smB = true) (fun q => 5 - q) 0 [] ⟨Nat.zero_le _, rfl⟩ (by simp only [Cov, covOk, covFr, covMem, entEq, rn, nodupB, A0.ren, AV.ren, Entry.ren, Entry.norm, look, St.eval, A0.norm, AV.norm, Option.getD_some, Option.getD_none, cond_true, cond_false, Nat.reduceBEq, List.map_cons, List.map_nil, true_and, and_true, List.all_nil, Bool.and_true, Bool.or_false, Bool.not_false, List.contains_cons, List.contains_nil, beq_self_eq_true, A0.i.injEq, AV.one.injEq, and_self]; rfl) fun q hq J hJ => ⟨1000, ?_⟩
  obtain ⟨hq, ht⟩ := hq
  by_cases g : q < 5
  · have g1 : decide ((q : Int) < ((5 : Nat) : Int)) = true := decide_eq_true (by omega)
    have hw := wsucc g (by omega)
    obtain ⟨v, hv⟩ : ∃ v, [x, y, z, m, n].getD q 0 = v := ⟨_, rfl⟩
    have hmem : v ∈ [x, y, z, m, n] := by rw [← hv]; simp [List.getD_eq_getElem?_getD, g]
    have htk : [x, y, z, m, n].take (q + 1) = [x, y, z, m, n].take q ++ [v] := by rw [← hv, List.take_add_one]; simp [List.getD_eq_getElem?_getD, g]
    have hsm := sm_abs v
    have i0 : 0 ≤ (q : Int) := by omega
    have i1 : (q : Int) < ((5 : Nat) : Int) := by omega
    cases hs : smB v with
    | false =>
      rw [hs] at hsm
      have eO : spB a b c x y z m n = false := by
        have : [x, y, z, m, n].all smB = false := by rw [List.all_eq_false]; exact ⟨v, hmem, by rw [hs]; simp⟩
        unfold spB spP
        rw [this]; rfl
      rw [eO]
      simp only [↓cond_to_ite, ↓reduceIte, vc, out, finD, St.drop, vwAt, Entry.vwO, RC.vwO, Entry.toO, toOf, St.res, step, stepE, stepPick, stepO, stepC, eff, look, rem, St.put, St.setMem, setMems, St.after, St.eval, cst, setAt, val1, okNew, newHs, allHs, rdOf, Reg.item, Reg.next, entryRow, loadR, effLoad, storeI, szOk, storeTo, effStore, buildOf, effBuild, binInt, effBin, idxS, effIndex, subPre, argOf, resA, resV, nodupB, argsPre, argOk, callWr, effCall, RC.flat, effBuild2, callGo, effLoad2, effStore2, effBuild3, effLoad3, effStore3, effIndex2, effBin2, effBuild4, effCall2, wrHs, disj, AV.hs, A0.hs, Entry.hs, RC.sz, RC.len, resOf, resAll, compEq, compsEq, rowHs, outHds, outsEq, shapeOk, finOk, comps, A0.norm, specOf, t_int, t_implSpot, ts_int, Option.getD_some, Nat.reduceBEq, List.map_cons, List.map_nil, List.set_cons_zero, List.set_cons_succ, Option.map_some, Nat.zero_add, Nat.reduceAdd, true_and, and_true, List.replicate_succ, List.replicate_zero, List.length_cons, List.length_nil, List.all_cons, List.all_nil, Bool.and_true, Bool.true_and, Bool.or_false, Bool.not_true, Bool.not_false, List.append_nil, List.nil_append, List.cons_append, List.flatMap_cons, List.flatMap_nil, List.contains_cons, List.contains_nil, List.filter_cons, List.filter_nil, beq_self_eq_true, A0.s.injEq, List.cons.injEq, ble_dec, Nat.reduceLeDiff, decide_true, and_self, Bool.false_eq_true, reduceIte, g1, cAbs, Int.toNat_natCast, hv, hsm]
      (repeat' refine And.intro ?_ ?_) <;> first | assumption | kernel_rfl | (simp; done)
    | true =>
      rw [hs] at hsm
      have hall : ([x, y, z, m, n].take (q + 1)).all smB = true := by rw [htk, List.all_append, ht]; simp [hs]
      simp only [↓cond_to_ite, ↓reduceIte, vc, out, Entry.toO, toOf, St.res, step, stepE, stepPick, stepO, stepC, eff, look, rem, St.put, setMems, St.after, St.eval, cst, val1, okNew, Reg.item, Reg.next, entryRow, loadR, effLoad, binInt, effBin, idxS, effIndex, subPre, argOf, resA, resV, argsPre, argOk, callWr, effCall, RC.flat, callGo, effLoad2, effLoad3, effIndex2, effBin2, effCall2, wrHs, disj, AV.hs, A0.hs, RC.sz, RC.len, specOf, t_int, ts_int, Option.getD_some, Nat.reduceBEq, List.map_cons, List.map_nil, Nat.zero_add, Nat.reduceAdd, true_and, List.length_cons, List.length_nil, List.all_cons, List.all_nil, Bool.and_true, Bool.not_true, Bool.not_false, List.append_nil, List.flatMap_cons, List.flatMap_nil, List.contains_nil, beq_self_eq_true, and_self, Bool.false_eq_true, reduceIte, g1, cAbs, Int.toNat_natCast, hv, hsm]
      exact ⟨⟨i0, i1⟩, g, hJ _ (q + 1) [] ⟨by omega, hall⟩ (by omega) (by simp only [Cov, covOk, covFr, covMem, entEq, rn, nodupB, A0.ren, AV.ren, Entry.ren, Entry.norm, look, St.eval, A0.norm, AV.norm, Option.getD_some, Option.getD_none, cond_true, cond_false, Nat.reduceBEq, List.map_cons, List.map_nil, List.all_nil, Bool.and_true, Bool.or_false, Bool.not_false, List.contains_cons, List.contains_nil, beq_self_eq_true, and_self, hw])⟩
  · obtain rfl : q = 5 := by omega
    have g1 : decide (((5 : Nat) : Int) < ((5 : Nat) : Int)) = false := rfl
    have hall : [x, y, z, m, n].all smB = true := ht
    clear hJ ht hq g
    cases h1 : triB a b c with
    | false =>
      have eO : spB a b c x y z m n = false := by unfold spB spP; rw [h1]; simp
      rw [eO]
      simp only [↓cond_to_ite, ↓reduceIte, vc, out, finD, St.drop, vwAt, Entry.vwO, RC.vwO, Entry.toO, toOf, St.res, step, stepE, stepPick, stepG, stepO, stepC, eff, look, rem, St.put, St.setMem, setMems, St.after, St.eval, cst, setAt, val1, okNew, newHs, allHs, rdOf, Reg.item, Reg.next, Reg.skip, slotOf, loadI, effLoad, storeI, szOk, storeTo, effStore, buildOf, effBuild, binInt, effBin, effUn, effPick, subPre, argOf, resA, resV, nodupB, argsPre, argOk, callWr, effCall, effBuild2, callGo, effLoad2, effStore2, effBuild3, effLoad3, effStore3, effBin2, effBuild4, effCall2, wrHs, disj, AV.hs, A0.hs, Entry.hs, resOf, resAll, compEq, compsEq, rowHs, outHds, outsEq, shapeOk, finOk, comps, A0.norm, specOf, t_implTriple, t_implSpot, Option.getD_some, Nat.reduceBEq, List.map_cons, List.map_nil, List.set_cons_zero, List.set_cons_succ, List.getElem?_cons_zero, List.getElem?_cons_succ, List.drop_zero, List.take_succ_cons, List.take_zero, Option.map_some, Option.bind_some, Nat.zero_add, Nat.reduceAdd, true_and, and_true, List.replicate_succ, List.replicate_zero, List.length_cons, List.length_nil, List.all_cons, List.all_nil, Bool.and_true, Bool.true_and, Bool.or_false, Bool.not_true, Bool.not_false, List.append_nil, List.nil_append, List.cons_append, List.flatMap_cons, List.flatMap_nil, List.contains_cons, List.contains_nil, List.filter_cons, List.filter_nil, beq_self_eq_true, A0.s.injEq, List.cons.injEq, ble_dec, Nat.reduceLeDiff, decide_true, and_self, Bool.false_eq_true, reduceIte, g1, cIsTriple, h1]
      (repeat' refine And.intro ?_ ?_) <;> first | assumption | kernel_rfl | (simp; done)
    | true =>
      cases h2 : isB a b c x y z with
      | false =>
        have eO : spB a b c x y z m n = false := by unfold spB spP; rw [h2]; simp
        rw [eO]
        simp only [↓cond_to_ite, ↓reduceIte, vc, out, finD, St.drop, vwAt, Entry.vwO, RC.vwO, Entry.toO, toOf, St.res, step, stepE, stepPick, stepG, stepO, stepC, eff, look, rem, St.put, St.setMem, setMems, St.after, St.eval, cst, setAt, val1, okNew, newHs, allHs, rdOf, Reg.item, Reg.next, slotOf, loadI, effLoad, storeI, szOk, storeTo, effStore, buildOf, effBuild, binInt, effBin, effUn, effPick, subPre, argOf, resA, resV, nodupB, argsPre, argOk, callWr, effCall, effBuild2, callGo, effLoad2, effStore2, effBuild3, effLoad3, effStore3, effBin2, effBuild4, effCall2, wrHs, disj, AV.hs, A0.hs, Entry.hs, resOf, resAll, compEq, compsEq, rowHs, outHds, outsEq, shapeOk, finOk, comps, A0.norm, specOf, t_implTriple, t_implSpot, Option.getD_some, Nat.reduceBEq, List.map_cons, List.map_nil, List.set_cons_zero, List.set_cons_succ, List.getElem?_cons_zero, List.getElem?_cons_succ, List.drop_zero, List.take_succ_cons, List.take_zero, Option.map_some, Option.bind_some, Nat.zero_add, Nat.reduceAdd, true_and, and_true, List.replicate_succ, List.replicate_zero, List.length_cons, List.length_nil, List.all_cons, List.all_nil, Bool.and_true, Bool.true_and, Bool.or_false, Bool.not_true, Bool.not_false, List.append_nil, List.nil_append, List.cons_append, List.flatMap_cons, List.flatMap_nil, List.contains_cons, List.contains_nil, List.filter_cons, List.filter_nil, beq_self_eq_true, A0.s.injEq, List.cons.injEq, ble_dec, Nat.reduceLeDiff, decide_true, and_self, Bool.false_eq_true, reduceIte, g1, cIsTriple, cIsSol0, h1, h2]
        (repeat' refine And.intro ?_ ?_) <;> first | assumption | kernel_rfl | (simp; done)
      | true =>
        obtain ⟨K, hK⟩ : ∃ K, wrap64 (wrap64 (wrap64 (a * m) * m) + wrap64 (wrap64 (b * n) * n)) = K := ⟨_, rfl⟩
        obtain ⟨L, hL⟩ : ∃ L, wrap64 (wrap64 (wrap64 (a * x) * m) + wrap64 (wrap64 (b * y) * n)) = L := ⟨_, rfl⟩
        obtain ⟨X, hX⟩ : ∃ X, wrap64 (wrap64 (K * x) - wrap64 (wrap64 (2 * L) * m)) = X := ⟨_, rfl⟩
        obtain ⟨Y, hY⟩ : ∃ Y, wrap64 (wrap64 (K * y) - wrap64 (wrap64 (2 * L) * n)) = Y := ⟨_, rfl⟩
        obtain ⟨Z, hZ⟩ : ∃ Z, wrap64 (K * z) = Z := ⟨_, rfl⟩
        have eX : spX a b x y m n = X := by unfold spX kI lI rI; rw [hK, hL, hX]
        have eY : spY a b x y m n = Y := by unfold spY kI lI rI; rw [hK, hL, hY]
        have eZ : spZ a b z m n = Z := by unfold spZ kI; rw [hK, hZ]
        obtain ⟨G, hG⟩ : ∃ G, gcdI X (gcdI Y Z) = G := ⟨_, rfl⟩
        have eG : spG a b x y z m n = G := by unfold spG; rw [eX, eY, eZ, hG]
        have gr := spG_rng h1 hall; rw [eG] at gr
        obtain ⟨G', hG'⟩ : ∃ G', wrap64 (0 - G) = G' := ⟨_, rfl⟩
        have ng' : wrap64 (0 - G) = -G := by rw [wrap_id (by omega) (by omega)]; omega
        by_cases hg : G = 0
        · have k1 : (G == 0) = true := beq_iff_eq.2 hg
          have eO : spB a b c x y z m n = false := by unfold spB spO; rw [eG, k1]; simp
          rw [eO]
          simp only [↓cond_to_ite, ↓reduceIte, vc, out, finD, St.drop, vwAt, Entry.vwO, RC.vwO, Entry.toO, toOf, St.res, step, stepE, stepPick, stepG, stepO, stepC, eff, look, rem, St.put, St.setMem, setMems, St.after, St.eval, cst, setAt, val1, okNew, newHs, allHs, rdOf, outHs, Reg.item, Reg.next, slotOf, effAlloc, fieldOff, effField, loadI, effLoad, storeI, szOk, storeTo, effStore, buildOf, effBuild, binInt, effBin, effUn, effPick, subPre, argOf, resA, resV, nodupB, argsPre, argOk, callWr, effCall, effBuild2, callGo, effAlloc2, effLoad2, effStore2, effBuild3, effField2, inHs, calleeHs, effField3, effLoad3, effStore3, effBin2, effBuild4, effCall2, wrHs, disj, AV.hs, A0.hs, Entry.hs, resOf, resAll, compEq, compsEq, rowHs, outHds, outsEq, shapeOk, finOk, comps, A0.norm, specOf, t_int, t_implTriple, t_implSpot, Option.getD_some, Nat.reduceBEq, List.map_cons, List.map_nil, List.set_cons_zero, List.set_cons_succ, List.getElem?_cons_zero, List.getElem?_cons_succ, List.drop_zero, List.take_succ_cons, List.take_zero, Option.map_some, Option.bind_some, Nat.zero_add, Nat.add_zero, Nat.reduceAdd, true_and, and_true, List.replicate_succ, List.replicate_zero, List.length_cons, List.length_nil, List.all_cons, List.all_nil, Bool.and_true, Bool.true_and, Bool.or_false, Bool.not_true, Bool.not_false, List.append_nil, List.nil_append, List.cons_append, List.flatMap_cons, List.flatMap_nil, List.contains_cons, List.contains_nil, List.filter_cons, List.filter_nil, beq_self_eq_true, A0.s.injEq, List.cons.injEq, ble_dec, blt_dec, Nat.reduceLeDiff, decide_true, and_self, Bool.false_eq_true, reduceIte, g1, cIsTriple, cIsSol0, cGcd, hK, hL, hX, hY, hZ, hG, h1, h2, k1]
          (repeat' refine And.intro ?_ ?_) <;> first | assumption | kernel_rfl | (simp; done)
        · have k1 : (G == 0) = false := beq_eq_false_iff_ne.2 hg
          have ng : G' ≠ 0 := by omega
          have hk1 : (spG a b x y z m n == 0) = false := by rw [eG]; exact k1
          have hP : spP a b c x y z m n = true := by unfold spP; rw [hall, h1, h2]; rfl
          simp (maxSteps := 4000000) only [↓cond_to_ite, ↓reduceIte, vc, out, finD, St.drop, vwAt, Entry.vwO, RC.vwO, Entry.toO, toOf, St.res, step, stepE, stepPick, stepG, stepO, stepC, eff, look, rem, St.put, St.setMem, setMems, St.after, St.eval, cst, setAt, val1, okNew, newHs, allHs, rdOf, outHs, Reg.item, Reg.next, Reg.skip, slotOf, effAlloc, entryRow, fieldOff, effField, loadI, effLoad, storeI, szOk, storeTo, effStore, buildOf, effBuild, binInt, effBin, effUn, effPick, ivs, rowOf, allParts, effBuildSlice, subPre, argOf, resA, resV, nodupB, argsPre, argOk, callWr, effCall, RC.flat, effBuild2, effBuildSl, callGo, effAlloc2, effLoad2, effStore2, effBuild3, effField2, inHs, calleeHs, effField3, effLoad3, effStore3, effBin2, effBuild4, effCall2, wrHs, disj, AV.hs, A0.hs, Entry.hs, RC.sz, resOf, resAll, compEq, compsEq, rowHs, outHds, outsEq, shapeOk, finOk, comps, A0.norm, specOf, t_int, t_implTriple, t_implSpot, ts_int, Option.getD_some, Nat.reduceBEq, List.map_cons, List.map_nil, List.set_cons_zero, List.set_cons_succ, List.getElem?_cons_zero, List.getElem?_cons_succ, List.drop_zero, List.take_succ_cons, List.take_zero, Option.map_some, Option.bind_some, Nat.zero_add, Nat.add_zero, Nat.reduceAdd, true_and, and_true, List.replicate_succ, List.replicate_zero, List.length_cons, List.length_nil, List.all_cons, List.all_nil, Bool.and_true, Bool.true_and, Bool.or_false, Bool.not_true, Bool.not_false, List.append_nil, List.nil_append, List.cons_append, List.flatMap_cons, List.flatMap_nil, List.contains_cons, List.contains_nil, List.filter_cons, List.filter_nil, beq_self_eq_true, A0.b.injEq, A0.s.injEq, List.cons.injEq, ble_dec, blt_dec, Nat.reduceLeDiff, decide_true, and_self, Bool.false_eq_true, reduceIte, g1, cIsTriple, cIsSol0, cGcd, cAre, hK, hL, hX, hY, hZ, hG, hG', h1, h2, k1]
          refine ⟨by kernel_rfl, ?_⟩
          by_cases q1 : Z < 0
          · rw [if_pos (decide_eq_true q1)]
            have hfl : flB X Y Z = true := by unfold flB; simp [q1]
            have eS : spS a b x y z m n = G' := by unfold spS; rw [eX, eY, eZ, hfl, eG]; exact hG'
            exact ⟨ng, ng, ng, by kernel_rfl, spTail rfl hP hk1 eX eY eZ eS⟩
          · rw [if_neg (by simpa using q1)]
            by_cases q2 : Z = 0
            · rw [if_pos (beq_iff_eq.2 q2)]
              by_cases q3 : Y < 0
              · rw [if_pos (decide_eq_true q3)]
                have hfl : flB X Y Z = true := by unfold flB; simp [q2, q3]
                have eS : spS a b x y z m n = G' := by unfold spS; rw [eX, eY, eZ, hfl, eG]; exact hG'
                exact ⟨ng, ng, ng, by kernel_rfl, spTail rfl hP hk1 eX eY eZ eS⟩
              · rw [if_neg (by simpa using q3)]
                by_cases q4 : Y = 0
                · rw [if_pos (beq_iff_eq.2 q4)]
                  by_cases q5 : X < 0
                  · rw [if_pos (decide_eq_true q5)]
                    have hfl : flB X Y Z = true := by unfold flB; simp [q2, q4, q5]
                    have eS : spS a b x y z m n = G' := by unfold spS; rw [eX, eY, eZ, hfl, eG]; exact hG'
                    exact ⟨ng, ng, ng, by kernel_rfl, spTail rfl hP hk1 eX eY eZ eS⟩
                  · rw [if_neg (by simpa using q5)]
                    have hfl : flB X Y Z = false := by unfold flB; simp [q2, q4, q5]
                    have eS : spS a b x y z m n = G := by unfold spS; rw [eX, eY, eZ, hfl, eG]; exact rfl
                    exact ⟨hg, hg, hg, by kernel_rfl, spTail rfl hP hk1 eX eY eZ eS⟩
                · rw [if_neg (by simpa using q4)]
                  have hfl : flB X Y Z = false := by unfold flB; simp [q2, q3, q4]
                  have eS : spS a b x y z m n = G := by unfold spS; rw [eX, eY, eZ, hfl, eG]; exact rfl
                  exact ⟨hg, hg, hg, by kernel_rfl, spTail rfl hP hk1 eX eY eZ eS⟩
            · rw [if_neg (by simpa using q2)]
              have hfl : flB X Y Z = false := by unfold flB; simp [q1, q2]
              have eS : spS a b x y z m n = G := by unfold spS; rw [eX, eY, eZ, hfl, eG]; exact rfl
              exact ⟨hg, hg, hg, by kernel_rfl, spTail rfl hP hk1 eX eY eZ eS⟩
end Go.Proofs.Ytacomnelongbjaa
