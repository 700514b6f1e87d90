/-
  Contracts of the functions on numbers that every law of this seat reaches. Conditions: none.
-/
import Derived.Test.YtacomnelongbjabSet
namespace Go.Proofs.Ytacomnelongbjab
open Go Go.RowKit
set_option maxRecDepth 100000
set_option linter.unusedSimpArgs false
set_option linter.unusedVariables false
set_option maxHeartbeats 4000000

def absI (n : Int) : Int := max n (wrap64 (0 - max n (-9223372036854775807)))
abbrev fAbs : Nat := 46
def cAbs : Ctr
  | [.i n] => some ⟨True, .one (.i (absI n)), []⟩
  | _ => none
theorem okAbs : CtrOk Try.prog fAbs cAbs := by
  have hsp : SpecOk Try.prog (specOf []) := SpecOk.nil
  refine ctr_of (fn := Try.f46) mixed tab_ok hsp Try.func46 (by kernel_rfl) (by kernel_rfl) fun args ce h => ?_
  clear hsp
  unfold cAbs at h
  split at h
  case h_2 => cases h
  rename_i n
  simp only [Option.some.injEq] at h
  subst h
  refine ⟨by rfl, fun hp => ⟨0, 1000, ?_⟩⟩
  simp only [vc, out, finD, St.drop, vwAt, toOf, St.res, step, stepE, stepPick, stepO, eff, look, rem, St.put, setMems, St.after, St.eval, cst, val1, okNew, Reg.item, Reg.next, effUn, nodupB, argOk, effMax, disj, initFr, initMem, initSt, resOf, resAll, compEq, compsEq, rowHs, outHds, outsEq, shapeOk, finOk, comps, A0.norm, Option.getD_some, cond_true, cond_false, Nat.reduceBEq, Option.map_some, Nat.zero_add, true_and, and_true, List.length_cons, List.length_nil, List.all_nil, Bool.and_true, Bool.not_false, List.contains_nil, beq_self_eq_true, A0.i.injEq, List.toList_toArray, Try.f46]
  rfl

theorem tmod_lt (a b : Int) (h : b ≠ 0) : (a.tmod b).natAbs < b.natAbs := by
  rw [Int.natAbs_tmod]
  exact Nat.mod_lt _ (by omega)
def gcdL (a b : Int) : Int := if h : b = 0 then a else gcdL b (a.tmod b)
  termination_by b.natAbs
  decreasing_by exact tmod_lt a b h
def gcdI (a b : Int) : Int := absI (gcdL a b)
abbrev fGcd : Nat := 32
def cGcd : Ctr
  | [.i a, .i b] => some ⟨True, .one (.i (gcdI a b)), []⟩
  | _ => none
theorem okGcd : CtrOk Try.prog fGcd cGcd := by
  have hsp : SpecOk Try.prog (specOf [(fAbs, cAbs)]) := (SpecOk.cons okAbs SpecOk.nil)
  refine ctr_of (fn := Try.f32) mixed tab_ok hsp Try.func32 (by kernel_rfl) (by kernel_rfl) fun args ce h => ?_
  clear hsp
  unfold cGcd at h
  split at h
  case h_2 => cases h
  rename_i a b
  simp only [Option.some.injEq] at h
  subst h
  refine ⟨by rfl, fun hp => ⟨1, 1000, ?_⟩⟩
  simp only [vc, out, toOf, St.res, step, stepE, stepPick, stepO, eff, rem, St.put, setMems, St.after, St.eval, cst, val1, okNew, Reg.item, Reg.next, hA, initFr, initMem, initSt, Option.getD_some, cond_true, cond_false, Nat.reduceBEq, List.map_nil, Nat.zero_add, true_and, List.toList_toArray, fAbs, Try.f32]
  refine lp_intro (fun x : Int × Int => ⟨[(0, .one (.i x.1)), (1, .one (.i x.2))], []⟩) (fun x => gcdL x.1 x.2 = gcdL a b) (fun x => x.2.natAbs) (a, b) [] rfl (by simp only [Cov, covOk, covFr, covMem, rn, nodupB, A0.ren, AV.ren, look, St.eval, A0.norm, AV.norm, Option.getD_some, Option.getD_none, cond_true, cond_false, Nat.reduceBEq, List.map_nil, List.all_nil, Bool.and_true, beq_self_eq_true, and_self]) fun x hx J hJ => ⟨1000, ?_⟩
  simp only [vc, out, finD, St.drop, vwAt, toOf, St.res, step, stepE, stepPick, stepO, stepC, eff, look, rem, St.put, setMems, St.after, St.eval, cst, val1, okNew, allHs, rdOf, outHs, Reg.item, Reg.next, binInt, effBin, subPre, argOf, resA, resV, nodupB, argsPre, argOk, callWr, effCall, callGo, effBin2, effCall2, wrHs, disj, AV.hs, A0.hs, Entry.hs, resOf, resAll, compEq, compsEq, rowHs, outHds, outsEq, shapeOk, finOk, comps, A0.norm, specOf, Option.getD_some, cond_true, cond_false, Nat.reduceBEq, List.map_cons, List.map_nil, Option.map_some, Nat.zero_add, true_and, and_true, List.length_cons, List.length_nil, List.all_cons, List.all_nil, Bool.and_true, Bool.not_false, List.append_nil, List.nil_append, List.cons_append, List.flatMap_cons, List.flatMap_nil, List.contains_nil, beq_self_eq_true, A0.i.injEq, and_self, cAbs]
  rw [bif_prop]
  refine ⟨fun hb => ⟨by simpa using hb, by kernel_rfl, hJ _ (x.2, x.1.tmod x.2) [] ?_ (tmod_lt _ _ (by simpa using hb)) (by simp only [Cov, covOk, covFr, covMem, rn, nodupB, A0.ren, AV.ren, look, St.eval, A0.norm, AV.norm, Option.getD_some, Option.getD_none, cond_true, cond_false, Nat.reduceBEq, List.map_nil, List.all_nil, Bool.and_true, beq_self_eq_true, and_self])⟩, fun hb => ?_⟩
  · rw [← hx, gcdL.eq_def x.1 x.2, dif_neg (by simpa using hb)]
  · rw [gcdI, ← hx, gcdL.eq_def x.1 x.2, dif_pos (by simpa using hb)]

def mostI (a b : Int) : Int := if a > b then a else b
abbrev fMost : Nat := 57
def cMost : Ctr
  | [.i a, .i b] => some ⟨True, .one (.i (mostI a b)), []⟩
  | _ => none
theorem okMost : CtrOk Try.prog fMost cMost := by
  have hsp : SpecOk Try.prog (specOf []) := SpecOk.nil
  refine ctr_of (fn := Try.f57) mixed tab_ok hsp Try.func57 (by kernel_rfl) (by kernel_rfl) fun args ce h => ?_
  clear hsp
  unfold cMost at h
  split at h
  case h_2 => cases h
  rename_i a b
  simp only [Option.some.injEq] at h
  subst h
  refine ⟨by rfl, fun hp => ⟨0, 1000, ?_⟩⟩
  simp only [vc, out, finD, St.drop, vwAt, toOf, St.res, step, stepE, stepPick, stepO, stepC, eff, look, rem, St.put, setMems, St.after, St.eval, cst, val1, okNew, Reg.item, Reg.next, binInt, effBin, nodupB, argOk, effBin2, disj, initFr, initMem, initSt, resOf, resAll, compEq, compsEq, rowHs, outHds, outsEq, shapeOk, finOk, comps, A0.norm, Option.getD_some, cond_true, cond_false, Nat.reduceBEq, Option.map_some, Nat.zero_add, true_and, and_true, List.length_cons, List.length_nil, List.all_nil, Bool.and_true, Bool.not_false, List.contains_nil, beq_self_eq_true, A0.i.injEq, List.toList_toArray, Try.f57]
  unfold mostI
  by_cases h : a > b <;> simp [h]
def labsI (n : Int) : Int := mostI n (wrap64 (0 - n))
abbrev fLAbs : Nat := 55
def cLAbs : Ctr
  | [.i n] => some ⟨True, .one (.i (labsI n)), []⟩
  | _ => none
theorem okLAbs : CtrOk Try.prog fLAbs cLAbs := by
  have hsp : SpecOk Try.prog (specOf [(fMost, cMost)]) := (SpecOk.cons okMost SpecOk.nil)
  refine ctr_of (fn := Try.f55) mixed tab_ok hsp Try.func55 (by kernel_rfl) (by kernel_rfl) fun args ce h => ?_
  clear hsp
  unfold cLAbs at h
  split at h
  case h_2 => cases h
  rename_i n
  simp only [Option.some.injEq] at h
  subst h
  refine ⟨by rfl, fun hp => ⟨0, 1000, ?_⟩⟩
  simp only [vc, out, finD, St.drop, vwAt, toOf, St.res, step, stepE, stepPick, stepO, eff, look, rem, St.put, setMems, St.after, St.eval, cst, val1, okNew, Reg.item, Reg.next, effUn, subPre, argOf, resA, resV, nodupB, argsPre, argOk, callWr, effCall, callGo, effCall2, wrHs, disj, AV.hs, A0.hs, initFr, initMem, initSt, resOf, resAll, compEq, compsEq, rowHs, outHds, outsEq, shapeOk, finOk, comps, A0.norm, specOf, Option.getD_some, cond_true, cond_false, Nat.reduceBEq, List.map_cons, List.map_nil, Option.map_some, Nat.zero_add, true_and, and_true, List.length_cons, List.length_nil, List.all_cons, List.all_nil, Bool.and_true, Bool.not_false, List.append_nil, List.flatMap_cons, List.flatMap_nil, List.contains_nil, beq_self_eq_true, A0.i.injEq, and_self, List.toList_toArray, cMost, fMost, Try.f55]
  rfl
def nuGcdI (a b : Int) : Int := gcdL (labsI a) (labsI b)
abbrev fNuGcd : Nat := 52
def cNuGcd : Ctr
  | [.i a, .i b] => some ⟨True, .one (.i (nuGcdI a b)), []⟩
  | _ => none
theorem okNuGcd : CtrOk Try.prog fNuGcd cNuGcd := by
  have hsp : SpecOk Try.prog (specOf [(fLAbs, cLAbs)]) := (SpecOk.cons okLAbs SpecOk.nil)
  refine ctr_of (fn := Try.f52) mixed tab_ok hsp Try.func52 (by kernel_rfl) (by kernel_rfl) fun args ce h => ?_
  clear hsp
  unfold cNuGcd at h
  split at h
  case h_2 => cases h
  rename_i a b
  simp only [Option.some.injEq] at h
  subst h
  refine ⟨by rfl, fun hp => ⟨1, 1000, ?_⟩⟩
  simp only [vc, out, toOf, St.res, step, stepE, stepPick, stepO, eff, look, rem, St.put, setMems, St.after, St.eval, cst, val1, okNew, Reg.item, Reg.next, subPre, argOf, resA, resV, argsPre, argOk, callWr, effCall, callGo, effCall2, wrHs, disj, AV.hs, A0.hs, hA, initFr, initMem, initSt, specOf, Option.getD_some, cond_true, cond_false, Nat.reduceBEq, List.map_cons, List.map_nil, Nat.zero_add, true_and, List.all_cons, List.all_nil, Bool.and_true, Bool.not_false, List.append_nil, List.flatMap_cons, List.flatMap_nil, List.contains_nil, beq_self_eq_true, and_self, List.toList_toArray, cLAbs, fLAbs, Try.f52]
  refine lp_intro (fun x : Int × Int => ⟨[(0, .one (.i x.1)), (1, .one (.i x.2))], []⟩) (fun x => gcdL x.1 x.2 = nuGcdI a b) (fun x => x.2.natAbs) (labsI a, labsI b) [] rfl (by simp only [Cov, covOk, covFr, covMem, rn, nodupB, A0.ren, AV.ren, look, St.eval, A0.norm, AV.norm, Option.getD_some, Option.getD_none, cond_true, cond_false, Nat.reduceBEq, List.map_nil, List.all_nil, Bool.and_true, beq_self_eq_true, and_self]) fun x hx J hJ => ⟨1000, ?_⟩
  simp only [vc, out, finD, St.drop, vwAt, toOf, St.res, step, stepE, stepPick, stepO, stepC, eff, look, rem, St.put, setMems, St.after, St.eval, cst, val1, okNew, allHs, rdOf, outHs, Reg.item, Reg.next, binInt, effBin, nodupB, argOk, effBin2, wrHs, disj, AV.hs, A0.hs, Entry.hs, resOf, resAll, compEq, compsEq, rowHs, outHds, outsEq, shapeOk, finOk, comps, A0.norm, Option.getD_some, cond_true, cond_false, Nat.reduceBEq, List.map_nil, Option.map_some, Nat.zero_add, true_and, and_true, List.length_cons, List.length_nil, List.all_nil, Bool.and_true, Bool.not_false, List.append_nil, List.nil_append, List.cons_append, List.flatMap_cons, List.flatMap_nil, List.contains_nil, beq_self_eq_true, A0.i.injEq]
  rw [bif_prop]
  refine ⟨fun hb => ⟨by simpa using hb, by kernel_rfl, hJ _ (x.2, x.1.tmod x.2) [] ?_ (tmod_lt _ _ (by simpa using hb)) (by simp only [Cov, covOk, covFr, covMem, rn, nodupB, A0.ren, AV.ren, look, St.eval, A0.norm, AV.norm, Option.getD_some, Option.getD_none, cond_true, cond_false, Nat.reduceBEq, List.map_nil, List.all_nil, Bool.and_true, beq_self_eq_true, and_self])⟩, fun hb => ?_⟩
  · rw [← hx, gcdL.eq_def x.1 x.2, dif_neg (by simpa using hb)]
  · rw [← hx, gcdL.eq_def x.1 x.2, dif_pos (by simpa using hb)]
def modI (a m : Int) : Int := if a.tmod m < 0 then wrap64 (a.tmod m + m) else a.tmod m
-- (not in this seat: Mod)
-- (not in this seat: NuMod)
def fdivI (a m : Int) : Int := wrap64 ((wrap64 (a - modI a m)).tdiv m)
-- (not in this seat: FloorDiv)
def inI (n lo hi : Int) : Bool := decide (n ≥ lo) && decide (n ≤ hi)
abbrev fIn : Nat := 20
def cIn : Ctr
  | [.i n, .i lo, .i hi] => some ⟨True, .one (.b (inI n lo hi)), []⟩
  | _ => none
theorem okIn : CtrOk Try.prog fIn cIn := by
  have hsp : SpecOk Try.prog (specOf []) := SpecOk.nil
  refine ctr_of (fn := Try.f20) mixed tab_ok hsp Try.func20 (by kernel_rfl) (by kernel_rfl) fun args ce h => ?_
  clear hsp
  unfold cIn at h
  split at h
  case h_2 => cases h
  rename_i n lo hi
  simp only [Option.some.injEq] at h
  subst h
  refine ⟨by rfl, fun hp => ⟨0, 1000, ?_⟩⟩
  simp only [vc, out, finD, St.drop, vwAt, toOf, St.res, step, stepE, stepPick, stepG, stepO, eff, look, rem, St.put, setMems, St.after, St.eval, cst, val1, okNew, Reg.item, Reg.next, Reg.skip, slotOf, binInt, effBin, effPick, nodupB, argOk, effBin2, disj, initFr, initMem, initSt, resOf, resAll, compEq, compsEq, rowHs, outHds, outsEq, shapeOk, finOk, comps, A0.norm, t_int, Option.getD_some, cond_true, cond_false, Nat.reduceBEq, List.getElem?_cons_zero, List.getElem?_cons_succ, Option.map_some, Option.bind_some, Nat.zero_add, Nat.reduceAdd, true_and, and_true, List.length_cons, List.length_nil, List.all_nil, Bool.and_true, Bool.not_false, List.contains_nil, beq_self_eq_true, A0.b.injEq, List.toList_toArray, Try.f20]
  unfold inI
  cases decide (n ≥ lo) <;> rfl
def goodI (n : Int) : Bool := inI n (-1000000) 1000000
-- (not in this seat: Good)
end Go.Proofs.Ytacomnelongbjab
