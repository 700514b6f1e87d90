/-
  Contracts of RepresentingForms, ClassPrimeCounts and TotalCount on both sides, and of their laws. Conditions: none.
-/
import Derived.Test.YtacomnelongbjabVals
import Derived.Test.YtacomnelongbjabGea
namespace Go.Proofs.Ytacomnelongbjab
open Go Go.RowKit
set_option maxRecDepth 100000
set_option linter.unusedSimpArgs false
set_option linter.unusedVariables false
set_option maxHeartbeats 4000000

theorem vl_bound {f : F3} {n x y : Int} (hv : Vd f n) (h : vl f x y = n) : (-200000 ≤ x ∧ x ≤ 200000) ∧ (-200000 ≤ y ∧ y ≤ 200000) := by
  have hd := hv.d
  obtain ⟨f1, f2, _⟩ := hv.four
  obtain ⟨g1, g2, _⟩ := hv.fourA
  constructor
  · have h1 := (vl_iff hv.c0).1 h
    have h2 := sq_nonneg (2 * f.2.2 * y + f.2.1 * x)
    rw [h1] at h2
    have h3 : rtX f n x = 4 * f.2.2 * n - -dsc f * (x * x) := by unfold rtX; grind
    have h4 : 1 * (x * x) ≤ -dsc f * (x * x) := Int.mul_le_mul_of_nonneg_right (by omega) (sq_nonneg x)
    exact abs_le_of_sq (by omega) (by omega)
  · have h1 := (vl_iffA hv.a0).1 h
    have h2 := sq_nonneg (2 * f.1 * x + f.2.1 * y)
    rw [h1] at h2
    have h3 : rtY f n y = 4 * f.1 * n - -dsc f * (y * y) := by unfold rtY; grind
    have h4 : 1 * (y * y) ≤ -dsc f * (y * y) := Int.mul_le_mul_of_nonneg_right (by omega) (sq_nonneg y)
    exact abs_le_of_sq (by omega) (by omega)
theorem ptI_bound {f : F3} {n : Int} (hv : Vd f n) {p : P2} (h : p ∈ ptI f n) : p.1.natAbs ≤ 1000000 ∧ p.2.natAbs ≤ 1000000 := by
  have := vl_bound hv ((mem_ptI hv).1 h)
  omega
def primP (p : P2) : Bool := gcdI p.1 p.2 == 1
abbrev fIsShownN : Nat := 36
def cIsShownN : Ctr
  | [.i n] => some ⟨True, .one (.b (inI n 1 10000)), []⟩
  | _ => none
theorem okIsShownN : CtrOk Try.prog fIsShownN cIsShownN := by
  have hsp : SpecOk Try.prog (specOf []) := SpecOk.nil
  refine ctr_of (fn := Try.f36) mixed tab_ok hsp Try.func36 (by kernel_rfl) (by kernel_rfl) fun args ce h => ?_
  clear hsp
  unfold cIsShownN at h
  split at h
  case h_2 => cases h
  rename_i n
  simp only [Option.some.injEq] at h
  subst h
  refine ⟨by rfl, fun hp => ⟨0, 1000, ?_⟩⟩
  simp only [vc, out, finD, St.drop, vwAt, toOf, St.res, step, stepE, stepPick, stepG, stepO, eff, look, rem, St.put, setMems, St.after, St.eval, cst, val1, okNew, Reg.item, Reg.next, Reg.skip, slotOf, binInt, effBin, effPick, nodupB, argOk, effBin2, disj, initFr, initMem, initSt, resOf, resAll, compEq, compsEq, rowHs, outHds, outsEq, shapeOk, finOk, comps, A0.norm, t_int, Option.getD_some, cond_true, cond_false, Nat.reduceBEq, List.getElem?_cons_zero, List.getElem?_cons_succ, Option.map_some, Option.bind_some, Nat.zero_add, true_and, and_true, List.length_cons, List.length_nil, List.all_nil, Bool.and_true, Bool.not_false, List.contains_nil, beq_self_eq_true, A0.b.injEq, List.toList_toArray, Try.f36]
  unfold inI
  cases decide (n ≥ 1) <;> rfl
abbrev fVaShown : Nat := 37
def cVaShown : Ctr
  | [.i n] => some ⟨True, .one (.b (inI n 1 10000)), []⟩
  | _ => none
theorem okVaShown : CtrOk Try.prog fVaShown cVaShown := by
  have hsp : SpecOk Try.prog (specOf [(fIn, cIn)]) := (SpecOk.cons okIn SpecOk.nil)
  refine ctr_of (fn := Try.f37) mixed tab_ok hsp Try.func37 (by kernel_rfl) (by kernel_rfl) fun args ce h => ?_
  clear hsp
  unfold cVaShown at h
  split at h
  case h_2 => cases h
  rename_i n
  simp only [Option.some.injEq] at h
  subst h
  refine ⟨by rfl, fun hp => ⟨0, 1000, ?_⟩⟩
  simp only [vc, out, finD, St.drop, vwAt, toOf, St.res, step, stepE, stepPick, stepO, eff, look, rem, St.put, setMems, St.after, St.eval, cst, val1, okNew, Reg.item, Reg.next, subPre, argOf, resA, resV, nodupB, argsPre, argOk, callWr, effCall, callGo, effCall2, wrHs, disj, AV.hs, A0.hs, initFr, initMem, initSt, resOf, resAll, compEq, compsEq, rowHs, outHds, outsEq, shapeOk, finOk, comps, A0.norm, specOf, Option.getD_some, cond_true, cond_false, Nat.reduceBEq, List.map_cons, List.map_nil, Option.map_some, Nat.zero_add, List.length_cons, List.length_nil, List.all_cons, List.all_nil, Bool.and_true, Bool.not_false, List.append_nil, List.flatMap_cons, List.flatMap_nil, List.contains_nil, beq_self_eq_true, and_self, List.toList_toArray, cIn, fIn, Try.f37]

theorem inI_1 {n : Int} (h : inI n 1 10000 = true) : 1 ≤ n ∧ n ≤ 10000 := by simpa [inI] using h
def repB (a b c n : Int) : Bool := shownB a b c && inI n 1 10000
-- (not in this seat: Reprs)
theorem fp_take_len {l : List (List Int)} (p : P2 → Bool) (n : Nat) : (((unfp l).take n).filter p).length ≤ l.length := by
  refine Nat.le_trans (List.length_filter_le _ _) ?_
  rw [List.length_take, unfp_length]
  omega
abbrev fVaPrim : Nat := 47
def cVaPrim : Ctr
  | [.rw (.recs e 2 l)] => some ⟨l.length ≤ 1000000000 ∧ ∀ p ∈ unfp l, p.1.natAbs ≤ 1000000 ∧ p.2.natAbs ≤ 1000000, .one (.rw (.recs 51 2 (fp ((unfp l).filter primP)))), []⟩
  | _ => none
theorem okVaPrim : CtrOk Try.prog fVaPrim cVaPrim := by
  have hsp : SpecOk Try.prog (specOf [(fNuGcd, cNuGcd)]) := (SpecOk.cons okNuGcd SpecOk.nil)
  refine ctr_of (fn := Try.f47) mixed tab_ok hsp Try.func47 (by kernel_rfl) (by kernel_rfl) fun args ce h => ?_
  clear hsp
  unfold cVaPrim at h
  split at h
  case h_2 => cases h
  rename_i e l
  simp only [Option.some.injEq] at h
  subst h
  refine ⟨by rfl, fun hp => ⟨1, 1000, ?_⟩⟩
  simp only [vc, out, Entry.toO, toOf, St.res, step, stepE, stepPick, stepO, eff, look, rem, St.put, setMems, St.after, St.eval, cst, val1, okNew, Reg.item, Reg.next, entryRow, elemSz, lenOf, RC.flat, lenOf2, RC.len, hA, initFr, initMem, initSt, t_implPoint, ts_implPoint, Option.getD_some, cond_true, cond_false, Nat.reduceBEq, List.map_nil, Option.map_some, Nat.add_zero, true_and, List.any_nil, beq_self_eq_true, List.toList_toArray, Option.isSome_some, fNuGcd, Try.f47]
  obtain ⟨hp', hbd⟩ : l.length ≤ 1000000000 ∧ ∀ p ∈ unfp l, p.1.natAbs ≤ 1000000 ∧ p.2.natAbs ≤ 1000000 := hp
  refine lp_seed [(3, 2000000, .recs 51 2 [])] (fun n : Nat => ⟨[(3, .one (.row 2000000)), (6, .one (.row 1000000)), (7, .one (.i l.length)), (8, .one (.i n))], [(1000000, .ro (.recs e 2 l)), (2000000, .row (.recs 51 2 (fp (((unfp l).take n).filter primP))))]⟩)
    (fun n => n ≤ l.length) (fun n => l.length - n) 0 [] (by kernel_rfl) (Nat.zero_le _) (by simp only [Cov, covOk, covFr, covMem, entEq, rn, nodupB, A0.ren, AV.ren, Entry.ren, Entry.norm, look, rem, St.eval, A0.norm, AV.norm, RC.flat, Option.getD_some, Option.getD_none, cond_true, cond_false, Nat.reduceBEq, List.map_cons, List.map_nil, List.take_zero, true_and, and_true, List.all_nil, Bool.and_true, Bool.or_false, Bool.not_false, List.contains_cons, List.contains_nil, List.filter_nil, beq_self_eq_true, A0.i.injEq, AV.one.injEq, seeds, seed1]; simp [fp_nil]) fun n hn J hJ => ⟨1000, ?_⟩
  simp only [vc, out, finD, St.drop, vwAt, Entry.vwO, RC.vwO, Entry.toO, toOf, St.res, step, stepE, stepPick, stepO, stepC, eff, look, rem, St.put, St.setMem, setMems, St.after, St.eval, cst, setAt, val1, okNew, newHs, allHs, rdOf, Reg.item, Reg.next, effAlloc, entryRow, fieldOff, effField, loadI, loadR, effLoad, storeI, szOk, storeTo, effStore, binInt, effBin, svs, rowOf, allParts, effBuildSlice, idxS, effIndex, readOf, subPre, maxRow, plainTI, appTo, effAppend, argOf, resA, resV, nodupB, argsPre, argOk, callWr, effCall, RC.flat, effBuildSl, callGo, effAlloc2, effLoad2, effStore2, effField2, effAppend2, calleeHs, effField3, effLoad3, effStore3, effIndex2, effBin2, effCall2, wrHs, disj, AV.hs, A0.hs, Entry.hs, RC.elem, RC.sz, RC.len, RC.app, resOf, resAll, compEq, compsEq, rowHs, outHds, outsEq, shapeOk, finOk, comps, specOf, t_int, t_implPoint, ts_implPoint, Option.getD_some, cond_true, cond_false, Nat.reduceBEq, List.map_cons, List.map_nil, List.set_cons_zero, List.set_cons_succ, List.getElem?_cons_zero, List.getElem?_cons_succ, List.drop_zero, List.take_succ_cons, List.take_zero, Option.map_some, Nat.zero_add, Nat.add_zero, Nat.reduceAdd, true_and, and_true, List.replicate_succ, List.replicate_zero, List.length_cons, List.length_nil, List.all_cons, List.all_nil, Bool.and_true, Bool.or_false, Bool.not_true, Bool.not_false, List.append_nil, List.nil_append, List.cons_append, List.flatMap_cons, List.flatMap_nil, List.contains_cons, List.contains_nil, List.filter_cons, List.filter_nil, beq_self_eq_true, RC.recs.injEq, ble_dec, blt_dec, Nat.reduceLeDiff, decide_true, and_self, ite_true, ite_false, Bool.false_eq_true, cNuGcd, rng2, Int.toNat_natCast]
  rw [bif_prop]
  refine ⟨fun hc => ?_, fun hc => ?_⟩
  · have hlt := ilt_iff.1 hc
    have hw := wsucc hlt (Nat.le_trans hp' (by omega))
    have hl := fp_take_len (l := l) primP n
    have ht := unfp_take l hlt
    have hb := hbd _ (unfp_mem l hlt)
    have hg : (nuGcdI (nth2 l n).1 (nth2 l n).2 == 1) = primP (nth2 l n) := by unfold primP; rw [nuGcdI_eq (by have := hb.1; omega) (by have := hb.2; omega), gcdI_eq (by have := hb.1; omega) (by have := hb.2; omega)]
    refine ⟨⟨by omega, by omega⟩, hlt, ?_⟩
    rw [hg, bif_prop]
    refine ⟨fun h2 => ⟨?_, hJ _ (n + 1) [(2000000, 21)] hlt (by omega) ?_⟩, fun h2 => hJ _ (n + 1) [] hlt (by omega) ?_⟩
    · rw [List.length_append, fp_length, List.length_singleton]; omega
    · simp only [Cov, covOk, covFr, covMem, entEq, rn, nodupB, A0.ren, AV.ren, Entry.ren, Entry.norm, look, St.eval, A0.norm, AV.norm, Option.getD_some, Option.getD_none, cond_true, cond_false, Nat.reduceBEq, List.map_cons, List.map_nil, List.all_nil, Bool.and_true, Bool.or_false, Bool.not_false, List.contains_cons, List.contains_nil, beq_self_eq_true, and_self, ite_true, hw, ht, filter_snoc, h2, fp_snoc]
    · simp only [Cov, covOk, covFr, covMem, entEq, rn, nodupB, A0.ren, AV.ren, Entry.ren, Entry.norm, look, St.eval, A0.norm, AV.norm, Option.getD_some, Option.getD_none, cond_true, cond_false, Nat.reduceBEq, List.map_cons, List.map_nil, List.all_nil, Bool.and_true, Bool.or_false, Bool.not_false, List.append_nil, List.contains_cons, List.contains_nil, beq_self_eq_true, and_self, ite_false, Bool.false_eq_true, hw, ht, filter_snoc, h2]
  · have := inlt_iff.1 hc
    rw [List.take_of_length_le (by rw [unfp_length]; exact this)]
def ppL (a b c n : Int) : List P2 := onL (repB a b c n) (ptI (a, b, c) n)
theorem ppL_len (a b c n : Int) : (ppL a b c n).length ≤ 1000000 := by
  unfold ppL
  cases h : repB a b c n with
  | false => simp [onL]
  | true =>
    simp only [repB, Bool.and_eq_true] at h
    exact ptI_len (shown_vd h.1 (inI_1 h.2))
-- (not in this seat: PrimPts)
theorem red_shown {d : Int} (hd : -2000 ≤ d ∧ d ≤ -3) {x : F3} (h : IsRed d x) : shownB x.1 x.2.1 x.2.2 = true := by
  have hs := h.small hd.1
  have e : discI x.1 x.2.1 x.2.2 = d := by rw [disc_id (by omega) (by omega) (by omega)]; exact h.d
  simp only [shownB, defB, formB, Bool.and_eq_true, areB_iff, decide_eq_true_eq, e]
  omega
def rpB (n : Int) (f : F3) : Bool := decide ((((ptI f n).filter primP).length : Int) > 0)
def rfB (d n : Int) : Bool := negB d && inI n 1 10000
def rfL (d n : Int) : List F3 := (redF d).filter (rpB n)
-- (not in this seat: RepForms)
-- (not in this seat: SRepForms)
theorem onRed_len {d : Int} (b : Bool) (p : F3 → Bool) (h : b = true → -2000 ≤ d) : (fl (onL b ((redF d).filter p))).length ≤ 1300 := by
  rw [fl_length]
  cases b with
  | false => simp [onL]
  | true => exact Nat.le_trans (List.length_filter_le _ _) (redF_len (h rfl))
-- (not in this seat: LawRepForms)

/-! ### how many points all forms have -/
def totL (n : Int) (L : List F3) : Int := (L.map fun f => ((ptI f n).length : Int)).sum
theorem totL_snoc (n : Int) (L : List F3) (f : F3) : totL n (L ++ [f]) = totL n L + ((ptI f n).length : Int) := by simp [totL]
theorem totL_bd {n : Int} {L : List F3} (h : ∀ f ∈ L, Vd f n) : 0 ≤ totL n L ∧ totL n L ≤ 1000000 * (L.length : Int) := by
  induction L with
  | nil => simp [totL]
  | cons f L ih =>
    have h1 := ih fun g hg => h g (by simp [hg])
    have h2 := ptI_len (h f (by simp))
    have e : totL n (f :: L) = ((ptI f n).length : Int) + totL n L := by simp [totL]
    rw [e, List.length_cons]
    omega
-- (not in this seat: TotCount)
-- (not in this seat: VaTotal)
-- (not in this seat: STotCount)
-- (not in this seat: LawTotCount)
end Go.Proofs.Ytacomnelongbjab
