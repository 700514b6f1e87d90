/-
  The contract of the specification's SecondPoint. Conditions: none.
-/
import Derived.Test.YtacomnelongbjaaCnp
namespace Go.Proofs.Ytacomnelongbjaa
open Go Go.RowKit
set_option maxRecDepth 100000
set_option linter.unusedSimpArgs false
set_option linter.unusedVariables false
set_option maxHeartbeats 4000000

abbrev fSSecondP : Nat := 7
def cSSecondP : Ctr
  | [.s [a, b, c], .s [x, y, z], .i m, .i n] => some ⟨True, .tup [.s [onB (spB a b c x y z m n) (oX a b x y z m n), onB (spB a b c x y z m n) (oY a b x y z m n), onB (spB a b c x y z m n) (oZ a b x y z m n)], .b (spB a b c x y z m n)], []⟩
  | _ => none
theorem okSSecondP : CtrOk Try.prog fSSecondP cSSecondP := by
  have hsp : SpecOk Try.prog (specOf [(fCnGood, cCnGood), (fLAll, cLAll), (fCnIs, cCnIs), (fCnGcd, cCnGcd), (fGood, cGood)]) := (SpecOk.cons okCnGood (SpecOk.cons okLAll (SpecOk.cons okCnIs (SpecOk.cons okCnGcd (SpecOk.cons okGood SpecOk.nil)))))
  refine ctr_of (fn := Try.f7) mixed tab_ok hsp Try.func7 (by kernel_rfl) (by kernel_rfl) fun args ce h => ?_
  clear hsp
  unfold cSSecondP at h
  split at h
  case h_2 => cases h
  rename_i a b c x y z m n
  simp only [Option.some.injEq] at h
  subst h
  refine ⟨by rfl, fun hp => ⟨0, 1000, ?_⟩⟩
  have hal : ∀ B : Bool, ([x, y, z, m, n].all smB = B) → (inI x (-1000) 1000 && (inI y (-1000) 1000 && (inI z (-1000) 1000 && (inI m (-1000) 1000 && inI n (-1000) 1000)))) = B := fun B h => by rw [← h]; simp [smB]
  cases h1 : triB a b c with
  | false =>
    have eO : spB a b c x y z m n = false := by unfold spB spP; rw [h1]; simp
    rw [eO]
    simp only [↓cond_to_ite, ↓reduceIte, vc, out, finD, St.drop, vwAt, Entry.vwO, Entry.toO, toOf, St.res, step, stepE, stepPick, stepG, stepO, stepC, eff, look, rem, St.put, St.setMem, setMems, St.after, St.eval, cst, setAt, val1, okNew, newHs, allHs, rdOf, Reg.item, Reg.next, Reg.skip, slotOf, effBox, effAlloc, loadI, effLoad, storeI, szOk, storeTo, effStore, buildOf, effBuild, effUn, effPick, subPre, argOf, resA, resV, nodupB, argsPre, argOk, callWr, effCall, effBox2, effBuild2, callGo, effBox3, effAlloc2, effLoad2, effStore2, effBuild3, effLoad3, effStore3, effBuild4, effBox4, effCall2, wrHs, disj, AV.hs, A0.hs, Entry.hs, hA, initFr, initMem, initSt, resOf, resAll, compEq, compsEq, rowHs, outHds, outsEq, shapeOk, finOk, comps, A0.norm, specOf, t_implTriple, t_implSpot, Option.getD_some, Nat.reduceBEq, List.map_cons, List.map_nil, List.set_cons_zero, List.set_cons_succ, List.getElem?_cons_zero, List.getElem?_cons_succ, List.drop_zero, List.take_succ_cons, List.take_zero, Option.map_some, Option.bind_some, Nat.zero_add, Nat.reduceAdd, true_and, and_true, List.replicate_succ, List.replicate_zero, List.length_cons, List.length_nil, List.all_cons, List.all_nil, Bool.and_true, Bool.true_and, Bool.or_false, Bool.not_true, Bool.not_false, List.append_nil, List.nil_append, List.cons_append, List.flatMap_cons, List.flatMap_nil, List.contains_cons, List.contains_nil, List.filter_cons, List.filter_nil, beq_self_eq_true, A0.s.injEq, List.cons.injEq, ble_dec, Nat.reduceLeDiff, decide_true, and_self, List.toList_toArray, Bool.false_eq_true, reduceIte, Try.f7, cCnGood, fCnGood, h1]
    (repeat' refine And.intro ?_ ?_) <;> first | assumption | kernel_rfl | (simp; done)
  | true =>
    cases hall : [x, y, z, m, n].all smB with
    | false =>
      have hal5 := hal _ hall
      have eO : spB a b c x y z m n = false := by unfold spB spP; rw [hall]; simp
      rw [eO]
      simp only [↓cond_to_ite, ↓reduceIte, vc, out, finD, St.drop, vwAt, Entry.vwO, RC.vwO, Entry.toO, toOf, St.res, step, stepE, stepPick, stepG, stepO, stepC, eff, look, rem, St.put, St.setMem, setMems, St.after, St.eval, cst, setAt, val1, okNew, newHs, allHs, rdOf, Reg.item, Reg.next, Reg.skip, slotOf, effBox, effAlloc, entryRow, fieldOff, effField, loadI, effLoad, storeI, szOk, storeTo, effStore, buildOf, effBuild, effUn, effPick, ivs, rowOf, allParts, effBuildSlice, subPre, argOf, resA, resV, nodupB, argsPre, argOk, callWr, effCall, RC.flat, effBox2, effBuild2, effBuildSl, callGo, effBox3, effAlloc2, effLoad2, effStore2, effBuild3, effField2, effField3, effLoad3, effStore3, effBuild4, effBox4, effCall2, wrHs, disj, AV.hs, A0.hs, Entry.hs, RC.sz, hA, initFr, initMem, initSt, resOf, resAll, compEq, compsEq, rowHs, outHds, outsEq, shapeOk, finOk, comps, A0.norm, specOf, t_int, t_implTriple, t_implSpot, ts_int, Option.getD_some, Nat.reduceBEq, List.map_cons, List.map_nil, List.set_cons_zero, List.set_cons_succ, List.getElem?_cons_zero, List.getElem?_cons_succ, List.drop_zero, List.take_succ_cons, List.take_zero, Option.map_some, Option.bind_some, Nat.zero_add, Nat.add_zero, Nat.reduceAdd, true_and, and_true, List.replicate_succ, List.replicate_zero, List.length_cons, List.length_nil, List.all_cons, List.all_nil, Bool.and_true, Bool.true_and, Bool.or_false, Bool.not_true, Bool.not_false, List.append_nil, List.nil_append, List.cons_append, List.flatMap_cons, List.flatMap_nil, List.contains_cons, List.contains_nil, List.filter_cons, List.filter_nil, beq_self_eq_true, A0.s.injEq, List.cons.injEq, ble_dec, Nat.reduceLeDiff, decide_true, and_self, List.toList_toArray, Bool.false_eq_true, reduceIte, Try.f7, cCnGood, fCnGood, cLAll, fLAll, h1, hal5]
      (repeat' refine And.intro ?_ ?_) <;> first | assumption | kernel_rfl | (simp; done)
    | true =>
      have hal5 := hal _ hall
      cases h2 : isB a b c x y z with
      | false =>
        have eO : spB a b c x y z m n = false := by unfold spB spP; rw [h2]; simp
        rw [eO]
        simp only [↓cond_to_ite, ↓reduceIte, vc, out, finD, St.drop, vwAt, Entry.vwO, RC.vwO, Entry.toO, toOf, St.res, step, stepE, stepPick, stepG, stepO, stepC, eff, look, rem, St.put, St.setMem, setMems, St.after, St.eval, cst, setAt, val1, okNew, newHs, allHs, rdOf, Reg.item, Reg.next, slotOf, effBox, effAlloc, entryRow, fieldOff, effField, loadI, effLoad, storeI, szOk, storeTo, effStore, buildOf, effBuild, effUn, effPick, ivs, rowOf, allParts, effBuildSlice, subPre, argOf, resA, resV, nodupB, argsPre, argOk, callWr, effCall, RC.flat, effBox2, effBuild2, effBuildSl, callGo, effBox3, effAlloc2, effLoad2, effStore2, effBuild3, effField2, effField3, effLoad3, effStore3, effBuild4, effBox4, effCall2, wrHs, disj, AV.hs, A0.hs, Entry.hs, RC.sz, hA, initFr, initMem, initSt, resOf, resAll, compEq, compsEq, rowHs, outHds, outsEq, shapeOk, finOk, comps, A0.norm, specOf, t_int, t_implTriple, t_implSpot, ts_int, Option.getD_some, Nat.reduceBEq, List.map_cons, List.map_nil, List.set_cons_zero, List.set_cons_succ, List.getElem?_cons_zero, List.getElem?_cons_succ, List.drop_zero, List.take_succ_cons, List.take_zero, Option.map_some, Option.bind_some, Nat.zero_add, Nat.add_zero, Nat.reduceAdd, true_and, and_true, List.replicate_succ, List.replicate_zero, List.length_cons, List.length_nil, List.all_cons, List.all_nil, Bool.and_true, Bool.true_and, Bool.or_false, Bool.not_true, Bool.not_false, List.append_nil, List.nil_append, List.cons_append, List.flatMap_cons, List.flatMap_nil, List.contains_cons, List.contains_nil, List.filter_cons, List.filter_nil, beq_self_eq_true, A0.s.injEq, List.cons.injEq, ble_dec, Nat.reduceLeDiff, decide_true, and_self, List.toList_toArray, Bool.false_eq_true, reduceIte, Try.f7, cCnGood, fCnGood, cLAll, fLAll, cCnIs, fCnIs, h1, h2, hal5]
        (repeat' refine And.intro ?_ ?_) <;> first | assumption | kernel_rfl | (simp; done)
      | true =>
        obtain ⟨K, hK⟩ : ∃ K, wrap64 (wrap64 (wrap64 (a * m) * m) + wrap64 (wrap64 (b * n) * n)) = K := ⟨_, rfl⟩
        obtain ⟨L, hL⟩ : ∃ L, wrap64 (wrap64 (wrap64 (a * x) * m) + wrap64 (wrap64 (b * y) * n)) = L := ⟨_, rfl⟩
        obtain ⟨X, hX⟩ : ∃ X, wrap64 (wrap64 (K * x) - wrap64 (wrap64 (2 * L) * m)) = X := ⟨_, rfl⟩
        obtain ⟨Y, hY⟩ : ∃ Y, wrap64 (wrap64 (K * y) - wrap64 (wrap64 (2 * L) * n)) = Y := ⟨_, rfl⟩
        obtain ⟨Z, hZ⟩ : ∃ Z, wrap64 (K * z) = Z := ⟨_, rfl⟩
        have eX : spX a b x y m n = X := by unfold spX kI lI rI; rw [hK, hL, hX]
        have eY : spY a b x y m n = Y := by unfold spY kI lI rI; rw [hK, hL, hY]
        have eZ : spZ a b z m n = Z := by unfold spZ kI; rw [hK, hZ]
        obtain ⟨G, hG⟩ : ∃ G, nuGcdI (nuGcdI X Y) Z = G := ⟨_, rfl⟩
        have eG : spG a b x y z m n = G := by rw [← hG, ← eX, ← eY, ← eZ]; exact (spG_nu h1 hall).symm
        have gr := spG_rng h1 hall; rw [eG] at gr
        obtain ⟨G', hG'⟩ : ∃ G', wrap64 (0 - G) = G' := ⟨_, rfl⟩
        have ng' : wrap64 (0 - G) = -G := by rw [wrap_id (by omega) (by omega)]; omega
        by_cases hg : G = 0
        · have k1 : (G == 0) = true := beq_iff_eq.2 hg
          have eO : spB a b c x y z m n = false := by unfold spB spO; rw [eG, k1]; simp
          rw [eO]
          simp only [↓cond_to_ite, ↓reduceIte, vc, out, finD, St.drop, vwAt, Entry.vwO, RC.vwO, Entry.toO, toOf, St.res, step, stepE, stepPick, stepG, stepO, stepC, eff, look, rem, St.put, St.setMem, setMems, St.after, St.eval, cst, setAt, val1, okNew, newHs, allHs, rdOf, outHs, Reg.item, Reg.next, slotOf, effBox, effAlloc, entryRow, fieldOff, effField, loadI, effLoad, storeI, szOk, storeTo, effStore, buildOf, effBuild, binInt, effBin, effUn, effPick, ivs, rowOf, allParts, effBuildSlice, subPre, argOf, resA, resV, nodupB, argsPre, argOk, callWr, effCall, RC.flat, effBox2, effBuild2, effBuildSl, callGo, effBox3, effAlloc2, effLoad2, effStore2, effBuild3, effField2, inHs, effField3, effLoad3, effStore3, effBin2, effBuild4, effBox4, effCall2, wrHs, disj, AV.hs, A0.hs, Entry.hs, RC.sz, hA, initFr, initMem, initSt, resOf, resAll, compEq, compsEq, rowHs, outHds, outsEq, shapeOk, finOk, comps, A0.norm, specOf, t_int, t_implTriple, t_implSpot, ts_int, Option.getD_some, Nat.reduceBEq, List.map_cons, List.map_nil, List.set_cons_zero, List.set_cons_succ, List.getElem?_cons_zero, List.getElem?_cons_succ, List.drop_zero, List.take_succ_cons, List.take_zero, Option.map_some, Option.bind_some, Nat.zero_add, Nat.add_zero, Nat.reduceAdd, true_and, and_true, List.replicate_succ, List.replicate_zero, List.length_cons, List.length_nil, List.all_cons, List.all_nil, Bool.and_true, Bool.true_and, Bool.or_false, Bool.not_true, Bool.not_false, List.append_nil, List.nil_append, List.cons_append, List.flatMap_cons, List.flatMap_nil, List.contains_cons, List.contains_nil, List.filter_cons, List.filter_nil, beq_self_eq_true, A0.s.injEq, List.cons.injEq, ble_dec, blt_dec, Nat.reduceLeDiff, decide_true, and_self, List.toList_toArray, Bool.false_eq_true, reduceIte, Try.f7, cCnGood, fCnGood, cLAll, fLAll, cCnIs, fCnIs, cCnGcd, fCnGcd, hK, hL, hX, hY, hZ, hG, h1, h2, k1, hal5]
          (repeat' refine And.intro ?_ ?_) <;> first | assumption | kernel_rfl | (simp; done)
        · have k1 : (G == 0) = false := beq_eq_false_iff_ne.2 hg
          have ng : G' ≠ 0 := by omega
          have hk1 : (spG a b x y z m n == 0) = false := by rw [eG]; exact k1
          have hP : spP a b c x y z m n = true := by unfold spP; rw [hall, h1, h2]; rfl
          simp (maxSteps := 4000000) only [↓cond_to_ite, ↓reduceIte, vc, out, finD, St.drop, vwAt, Entry.vwO, RC.vwO, Entry.toO, toOf, St.res, step, stepE, stepPick, stepG, stepO, stepC, eff, look, rem, St.put, St.setMem, setMems, St.after, St.eval, cst, setAt, val1, okNew, newHs, allHs, rdOf, outHs, Reg.item, Reg.next, Reg.skip, slotOf, effBox, effAlloc, entryRow, fieldOff, effField, loadI, effLoad, storeI, szOk, storeTo, effStore, buildOf, effBuild, binInt, effBin, effUn, effPick, ivs, rowOf, allParts, effBuildSlice, subPre, argOf, resA, resV, nodupB, argsPre, argOk, callWr, effCall, RC.flat, effBox2, effBuild2, effBuildSl, callGo, effBox3, effAlloc2, effLoad2, effStore2, effBuild3, effField2, inHs, effField3, effLoad3, effStore3, effBin2, effBuild4, effBox4, effCall2, wrHs, disj, AV.hs, A0.hs, Entry.hs, RC.sz, hA, initFr, initMem, initSt, resOf, resAll, compEq, compsEq, rowHs, outHds, outsEq, shapeOk, finOk, comps, A0.norm, specOf, t_int, t_implTriple, t_implSpot, ts_int, Option.getD_some, Nat.reduceBEq, List.map_cons, List.map_nil, List.set_cons_zero, List.set_cons_succ, List.getElem?_cons_zero, List.getElem?_cons_succ, List.drop_zero, List.take_succ_cons, List.take_zero, Option.map_some, Option.bind_some, Nat.zero_add, Nat.add_zero, Nat.reduceAdd, true_and, and_true, List.replicate_succ, List.replicate_zero, List.length_cons, List.length_nil, List.all_cons, List.all_nil, Bool.and_true, Bool.true_and, Bool.or_false, Bool.not_true, Bool.not_false, List.append_nil, List.nil_append, List.cons_append, List.flatMap_cons, List.flatMap_nil, List.contains_cons, List.contains_nil, List.filter_cons, List.filter_nil, beq_self_eq_true, A0.b.injEq, A0.s.injEq, List.cons.injEq, ble_dec, blt_dec, Nat.reduceLeDiff, decide_true, and_self, List.toList_toArray, Bool.false_eq_true, reduceIte, Try.f7, cCnGood, fCnGood, cLAll, fLAll, cCnIs, fCnIs, cCnGcd, fCnGcd, cGood, fGood, good_are, hK, hL, hX, hY, hZ, hG, hG', h1, h2, k1, hal5]
          refine ⟨by kernel_rfl, ?_⟩
          by_cases q1 : Z < 0
          · rw [if_pos (decide_eq_true q1)]
            have hfl : flB X Y Z = true := by unfold flB; simp [q1]
            have eS : spS a b x y z m n = G' := by unfold spS; rw [eX, eY, eZ, hfl, eG]; exact hG'
            exact ⟨ng, ng, ng, by kernel_rfl, spTail3 rfl hP hk1 eX eY eZ eS⟩
          · rw [if_neg (by simpa using q1)]
            by_cases q2 : Z = 0
            · rw [if_pos (beq_iff_eq.2 q2)]
              by_cases q3 : Y < 0
              · rw [if_pos (decide_eq_true q3)]
                have hfl : flB X Y Z = true := by unfold flB; simp [q2, q3]
                have eS : spS a b x y z m n = G' := by unfold spS; rw [eX, eY, eZ, hfl, eG]; exact hG'
                exact ⟨ng, ng, ng, by kernel_rfl, spTail3 rfl hP hk1 eX eY eZ eS⟩
              · rw [if_neg (by simpa using q3)]
                by_cases q4 : Y = 0
                · rw [if_pos (beq_iff_eq.2 q4)]
                  by_cases q5 : X < 0
                  · rw [if_pos (decide_eq_true q5)]
                    have hfl : flB X Y Z = true := by unfold flB; simp [q2, q4, q5]
                    have eS : spS a b x y z m n = G' := by unfold spS; rw [eX, eY, eZ, hfl, eG]; exact hG'
                    exact ⟨ng, ng, ng, by kernel_rfl, spTail3 rfl hP hk1 eX eY eZ eS⟩
                  · rw [if_neg (by simpa using q5)]
                    have hfl : flB X Y Z = false := by unfold flB; simp [q2, q4, q5]
                    have eS : spS a b x y z m n = G := by unfold spS; rw [eX, eY, eZ, hfl, eG]; exact rfl
                    exact ⟨hg, hg, hg, by kernel_rfl, spTail3 rfl hP hk1 eX eY eZ eS⟩
                · rw [if_neg (by simpa using q4)]
                  have hfl : flB X Y Z = false := by unfold flB; simp [q2, q3, q4]
                  have eS : spS a b x y z m n = G := by unfold spS; rw [eX, eY, eZ, hfl, eG]; exact rfl
                  exact ⟨hg, hg, hg, by kernel_rfl, spTail3 rfl hP hk1 eX eY eZ eS⟩
            · rw [if_neg (by simpa using q2)]
              have hfl : flB X Y Z = false := by unfold flB; simp [q1, q2]
              have eS : spS a b x y z m n = G := by unfold spS; rw [eX, eY, eZ, hfl, eG]; exact rfl
              exact ⟨hg, hg, hg, by kernel_rfl, spTail3 rfl hP hk1 eX eY eZ eS⟩
end Go.Proofs.Ytacomnelongbjaa
