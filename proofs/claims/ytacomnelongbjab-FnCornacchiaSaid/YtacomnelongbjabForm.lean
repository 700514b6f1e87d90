/-
  Contracts of the functions on forms and matrices that every law of this seat reaches. Conditions: none.
-/
import Derived.Test.YtacomnelongbjabNum
namespace Go.Proofs.Ytacomnelongbjab
open Go Go.RowKit
set_option maxRecDepth 100000
set_option linter.unusedSimpArgs false
set_option linter.unusedVariables false
set_option maxHeartbeats 4000000

def areB (n : Int) : Bool := !(decide (n < -1000000) || decide (n > 1000000))
abbrev fAre : Nat := 33
def cAre : Ctr
  | [.rw (.ints e l)] => some ⟨l.length ≤ 1000000000, .one (.b (l.all areB)), []⟩
  | _ => none
theorem okAre : CtrOk Try.prog fAre cAre := by
  have hsp : SpecOk Try.prog (specOf []) := SpecOk.nil
  refine ctr_of (fn := Try.f33) mixed tab_ok hsp Try.func33 (by kernel_rfl) (by kernel_rfl) fun args ce h => ?_
  clear hsp
  unfold cAre at h
  split at h
  case h_2 => cases h
  rename_i e l
  simp only [Option.some.injEq] at h
  subst h
  refine ⟨by rfl, fun hp => ⟨1, 1000, ?_⟩⟩
  simp only [vc, out, Entry.toO, toOf, St.res, step, stepE, stepPick, stepO, eff, look, rem, St.put, setMems, St.after, St.eval, cst, val1, okNew, Reg.item, Reg.next, entryRow, elemSz, lenOf, RC.flat, lenOf2, RC.len, hA, initFr, initMem, initSt, t_int, ts_int, Option.getD_some, cond_true, cond_false, Nat.reduceBEq, List.map_nil, Option.map_some, Nat.add_zero, true_and, List.any_nil, beq_self_eq_true, List.toList_toArray, Option.isSome_some, Try.f33]
  refine lp_intro (fun n : Nat => ⟨[(5, .one (.row 1000000)), (6, .one (.i l.length)), (7, .one (.i n))], [(1000000, .ro (.ints e l))]⟩) (fun n => n ≤ l.length ∧ (l.take n).all areB = true) (fun n => l.length - n) 0 [] ⟨Nat.zero_le _, rfl⟩ (by simp only [Cov, covOk, covFr, covMem, entEq, rn, nodupB, A0.ren, AV.ren, Entry.ren, Entry.norm, look, St.eval, A0.norm, AV.norm, Option.getD_some, Option.getD_none, cond_true, cond_false, Nat.reduceBEq, List.map_cons, List.map_nil, true_and, and_true, List.all_nil, Bool.and_true, Bool.not_false, List.contains_nil, beq_self_eq_true, A0.i.injEq, AV.one.injEq, and_self]; simp) fun n hn J hJ => ⟨1000, ?_⟩
  simp only [vc, out, finD, St.drop, vwAt, Entry.vwO, Entry.toO, toOf, St.res, step, stepE, stepPick, stepG, stepO, stepC, eff, look, rem, St.put, setMems, St.after, St.eval, cst, val1, okNew, Reg.item, Reg.next, Reg.skip, slotOf, entryRow, loadR, effLoad, binInt, effBin, effPick, idxS, effIndex, nodupB, argOk, RC.flat, effLoad2, effLoad3, effIndex2, effBin2, disj, RC.sz, RC.len, resOf, resAll, compEq, compsEq, rowHs, outHds, outsEq, shapeOk, finOk, comps, A0.norm, t_int, ts_int, Option.getD_some, cond_true, cond_false, Nat.reduceBEq, List.getElem?_cons_zero, List.getElem?_cons_succ, Option.map_some, Option.bind_some, Nat.zero_add, true_and, and_true, List.length_cons, List.length_nil, List.all_nil, Bool.and_true, Bool.not_false, List.contains_nil, beq_self_eq_true, A0.b.injEq]
  rw [bif_prop]
  obtain ⟨hn, ht⟩ := hn
  have hp' : l.length ≤ 1000000000 := hp
  refine ⟨fun hb => ?_, fun hb => ?_⟩
  · have hlt : n < l.length := by simpa using hb
    have htk : l.take (n + 1) = l.take n ++ [l.getD n 0] := by
      rw [List.take_add_one]; simp [List.getD, hlt]
    have hmem : l.getD n 0 ∈ l := by simp [List.getD, hlt]
    refine ⟨⟨by omega, by omega⟩, by simpa using hlt, ?_⟩
    rw [Int.toNat_natCast]
    generalize l.getD n 0 = z at htk hmem ⊢
    rw [bif_prop]
    have hall : areB z = false → l.all areB = false := fun h => by
      rw [List.all_eq_false]
      exact ⟨z, hmem, by simp [h]⟩
    refine ⟨fun h1 => (hall (by unfold areB; rw [h1]; rfl)).symm, fun h1 => ?_⟩
    rw [bif_prop]
    refine ⟨fun h2 => (hall (by unfold areB; rw [h1, h2]; rfl)).symm, fun h2 => hJ _ (n + 1) [] ⟨hlt, ?_⟩ (by omega) ?_⟩
    · rw [htk, List.all_append, ht]
      simp only [List.all_cons, List.all_nil, areB, h1, h2]; rfl
    · simp only [Cov, covOk, covFr, covMem, entEq, rn, nodupB, A0.ren, AV.ren, Entry.ren, Entry.norm, look, St.eval, A0.norm, AV.norm, Option.getD_some, Option.getD_none, cond_true, cond_false, Nat.reduceBEq, List.map_cons, List.map_nil, true_and, and_true, List.all_nil, Bool.and_true, Bool.not_false, List.contains_nil, beq_self_eq_true, A0.i.injEq, AV.one.injEq, and_self]
      rw [IntWalk.wrap64_in _ (by omega)]; simp
  · have : n = l.length := by have h1 : ¬ n < l.length := by simpa using hb
                              omega
    subst this
    rw [List.take_length] at ht
    exact ht.symm

def discI (a b c : Int) : Int := wrap64 (wrap64 (b * b) - wrap64 (wrap64 (4 * a) * c))
-- (not in this seat: Disc)
-- (not in this seat: FoDisc)
abbrev fContent : Nat := 53
def cContent : Ctr
  | [.s [a, b, c]] => some ⟨True, .one (.i (gcdI a (gcdI b c))), []⟩
  | _ => none
theorem okContent : CtrOk Try.prog fContent cContent := by
  have hsp : SpecOk Try.prog (specOf [(fGcd, cGcd)]) := (SpecOk.cons okGcd SpecOk.nil)
  refine ctr_of (fn := Try.f53) mixed tab_ok hsp Try.func53 (by kernel_rfl) (by kernel_rfl) fun args ce h => ?_
  clear hsp
  unfold cContent at h
  split at h
  case h_2 => cases h
  rename_i a b c
  simp only [Option.some.injEq] at h
  subst h
  refine ⟨by rfl, fun hp => ⟨0, 1000, ?_⟩⟩
  simp only [vc, out, finD, St.drop, vwAt, Entry.vwO, Entry.toO, toOf, St.res, step, stepE, stepPick, stepO, eff, look, rem, St.put, St.setMem, setMems, St.after, St.eval, cst, val1, okNew, newHs, allHs, rdOf, outHs, Reg.item, Reg.next, effBox, fieldOff, effField, loadI, effLoad, subPre, argOf, resA, resV, nodupB, argsPre, argOk, callWr, effCall, effBox2, callGo, effBox3, effLoad2, effField2, inHs, calleeHs, effField3, effLoad3, effBox4, effCall2, wrHs, disj, AV.hs, A0.hs, Entry.hs, hA, initFr, initMem, initSt, resOf, resAll, compEq, compsEq, rowHs, outHds, outsEq, shapeOk, finOk, comps, A0.norm, specOf, t_int, t_implForm, Option.getD_some, cond_true, cond_false, Nat.reduceBEq, List.map_cons, List.map_nil, List.getElem?_cons_zero, List.getElem?_cons_succ, Option.map_some, Nat.zero_add, Nat.add_zero, true_and, and_true, List.length_cons, List.length_nil, List.all_cons, List.all_nil, Bool.and_true, Bool.not_false, List.append_nil, List.nil_append, List.cons_append, List.flatMap_cons, List.flatMap_nil, List.contains_nil, List.filter_cons, List.filter_nil, beq_self_eq_true, and_self, List.toList_toArray, ite_true, cGcd, fGcd, Try.f53]
  kernel_rfl
-- (not in this seat: FoContent)
def valI (a b c x y : Int) : Int := wrap64 (wrap64 (wrap64 (wrap64 (a * x) * x) + wrap64 (wrap64 (b * x) * y)) + wrap64 (wrap64 (c * y) * y))
-- (not in this seat: At)
-- (not in this seat: FoValue)
def polI (a b c x y u v : Int) : Int := wrap64 (wrap64 (wrap64 (wrap64 (wrap64 (2 * a) * x) * u) + wrap64 (b * wrap64 (wrap64 (x * v) + wrap64 (y * u)))) + wrap64 (wrap64 (wrap64 (2 * c) * y) * v))
-- (not in this seat: Polar)
-- (not in this seat: FoPolar)
def isNormalI (a b : Int) : Bool := decide (wrap64 (0 - a) < b) && decide (b ≤ a)
abbrev fNormal : Nat := 56
def cNormal : Ctr
  | [.s [a, b, c]] => some ⟨True, .one (.b (isNormalI a b)), []⟩
  | _ => none
theorem okNormal : CtrOk Try.prog fNormal cNormal := by
  have hsp : SpecOk Try.prog (specOf []) := SpecOk.nil
  refine ctr_of (fn := Try.f56) mixed tab_ok hsp Try.func56 (by kernel_rfl) (by kernel_rfl) fun args ce h => ?_
  clear hsp
  unfold cNormal at h
  split at h
  case h_2 => cases h
  rename_i a b c
  simp only [Option.some.injEq] at h
  subst h
  refine ⟨by rfl, fun hp => ⟨0, 1000, ?_⟩⟩
  simp only [vc, out, finD, St.drop, vwAt, Entry.vwO, Entry.toO, toOf, St.res, step, stepE, stepPick, stepG, stepO, eff, look, rem, St.put, St.setMem, setMems, St.after, St.eval, cst, val1, okNew, newHs, allHs, rdOf, Reg.item, Reg.next, Reg.skip, slotOf, effBox, fieldOff, effField, loadI, effLoad, binInt, effBin, effUn, effPick, nodupB, argOk, effBox2, effBox3, effLoad2, effField2, effField3, effLoad3, effBin2, effBox4, wrHs, disj, AV.hs, A0.hs, Entry.hs, hA, initFr, initMem, initSt, resOf, resAll, compEq, compsEq, rowHs, outHds, outsEq, shapeOk, finOk, comps, A0.norm, t_int, t_implForm, Option.getD_some, cond_true, cond_false, Nat.reduceBEq, List.map_cons, List.map_nil, List.getElem?_cons_zero, List.getElem?_cons_succ, Option.map_some, Option.bind_some, Nat.zero_add, Nat.add_zero, true_and, and_true, List.length_cons, List.length_nil, List.all_cons, List.all_nil, Bool.and_true, Bool.not_false, List.append_nil, List.flatMap_cons, List.flatMap_nil, List.contains_nil, List.filter_cons, List.filter_nil, beq_self_eq_true, A0.b.injEq, List.toList_toArray, ite_true, Try.f56]
  unfold isNormalI
  cases decide (wrap64 (0 - a) < b) <;> rfl
def isReducedI (a b c : Int) : Bool := isNormalI a b && (decide (a < c) || (a == c && decide (b ≥ 0)))
abbrev fReduced : Nat := 54
def cReduced : Ctr
  | [.s [a, b, c]] => some ⟨True, .one (.b (isReducedI a b c)), []⟩
  | _ => none
theorem okReduced : CtrOk Try.prog fReduced cReduced := by
  have hsp : SpecOk Try.prog (specOf [(fNormal, cNormal)]) := (SpecOk.cons okNormal SpecOk.nil)
  refine ctr_of (fn := Try.f54) mixed tab_ok hsp Try.func54 (by kernel_rfl) (by kernel_rfl) fun args ce h => ?_
  clear hsp
  unfold cReduced at h
  split at h
  case h_2 => cases h
  rename_i a b c
  simp only [Option.some.injEq] at h
  subst h
  refine ⟨by rfl, fun hp => ⟨0, 1000, ?_⟩⟩
  simp only [vc, out, finD, St.drop, vwAt, Entry.vwO, Entry.toO, toOf, St.res, step, stepE, stepPick, stepG, stepO, eff, look, rem, St.put, St.setMem, setMems, St.after, St.eval, cst, val1, okNew, newHs, allHs, rdOf, Reg.item, Reg.next, Reg.skip, slotOf, effBox, fieldOff, effField, loadI, effLoad, binInt, effBin, effPick, subPre, argOf, resA, resV, nodupB, argsPre, argOk, callWr, effCall, effBox2, callGo, effBox3, effLoad2, effField2, effField3, effLoad3, effBin2, effBox4, effCall2, wrHs, disj, AV.hs, A0.hs, Entry.hs, hA, initFr, initMem, initSt, resOf, resAll, compEq, compsEq, rowHs, outHds, outsEq, shapeOk, finOk, comps, A0.norm, specOf, t_int, t_implForm, Option.getD_some, cond_true, cond_false, Nat.reduceBEq, List.map_cons, List.map_nil, List.getElem?_cons_zero, List.getElem?_cons_succ, List.drop_zero, List.take_succ_cons, List.take_zero, Option.map_some, Option.bind_some, Nat.zero_add, Nat.add_zero, Nat.reduceAdd, true_and, and_true, List.length_cons, List.length_nil, List.all_cons, List.all_nil, Bool.and_true, Bool.not_false, List.append_nil, List.flatMap_cons, List.flatMap_nil, List.contains_nil, List.filter_cons, List.filter_nil, beq_self_eq_true, A0.b.injEq, ble_dec, Nat.reduceLeDiff, decide_true, and_self, List.toList_toArray, ite_true, cNormal, fNormal, Try.f54]
  unfold isReducedI
  cases isNormalI a b <;> cases decide (a < c) <;> cases (a == c) <;> rfl
-- (not in this seat: ReIs)
-- (not in this seat: One)
-- (not in this seat: Opposite)
-- (not in this seat: FoOpposite)
def timesI (a b c d x y z w : Int) : List Int := [wrap64 (wrap64 (a * x) + wrap64 (b * z)), wrap64 (wrap64 (a * y) + wrap64 (b * w)), wrap64 (wrap64 (c * x) + wrap64 (d * z)), wrap64 (wrap64 (c * y) + wrap64 (d * w))]
-- (not in this seat: Times)
-- (not in this seat: FoMul)
def actI (a b c x y u v : Int) : List Int := [valI a b c x u, polI a b c x u y v, valI a b c y v]
-- (not in this seat: Substitute)
-- (not in this seat: FoAct)
def formB (a b c : Int) : Bool := areB a && (areB b && areB c)
-- (not in this seat: IsForm)
def defB (a b c : Int) : Bool := formB a b c && (decide (discI a b c < 0) && decide (a > 0))
-- (not in this seat: IsDef)
def shownB (a b c : Int) : Bool := defB a b c && decide (discI a b c ≥ -2000)
-- (not in this seat: IsShown)
def classB (a b c : Int) : Bool := shownB a b c && gcdI a (gcdI b c) == 1
-- (not in this seat: IsClass)
def sformB (a b c : Int) : Bool := goodI a && (goodI b && goodI c)
-- (not in this seat: FoGood)
def sdefB (a b c : Int) : Bool := sformB a b c && (decide (discI a b c < 0) && decide (a > 0))
-- (not in this seat: FoDef)
def sshownB (a b c : Int) : Bool := sdefB a b c && decide (discI a b c ≥ -2000)
-- (not in this seat: VaForm)
def sclassB (a b c : Int) : Bool := sshownB a b c && nuGcdI (nuGcdI a b) c == 1
-- (not in this seat: CoGood)
def stP (a b c : Int) : Int := bif isReducedI a b c then 1 else bif isNormalI a b then 0 else 1
def stQ (a b c : Int) : Int := bif isReducedI a b c then 0 else bif isNormalI a b then -1 else fdivI (wrap64 (a - b)) (wrap64 (2 * a))
def stR (a b c : Int) : Int := bif isReducedI a b c then 0 else bif isNormalI a b then 1 else 0
def stS (a b c : Int) : Int := bif isReducedI a b c then 1 else bif isNormalI a b then 0 else 1
-- (not in this seat: Step)
def reNormalI (a b : Int) : Int := wrap64 ((wrap64 (wrap64 (a - b) - modI (wrap64 (a - b)) (wrap64 (2 * a)))).tdiv (wrap64 (2 * a)))
-- (not in this seat: ReNormal)
def mvP (a b c : Int) : Int := bif reNormalI a b != 0 then 1 else bif isReducedI a b c then 1 else 0
def mvQ (a b c : Int) : Int := bif reNormalI a b != 0 then reNormalI a b else bif isReducedI a b c then 0 else -1
def mvR (a b c : Int) : Int := bif reNormalI a b != 0 then 0 else bif isReducedI a b c then 0 else 1
def mvS (a b c : Int) : Int := bif reNormalI a b != 0 then 1 else bif isReducedI a b c then 1 else 0
-- (not in this seat: ReMove)
end Go.Proofs.Ytacomnelongbjab
