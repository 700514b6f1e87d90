/-
  Contracts of the lists of reduced forms, on both sides. Conditions: none.
-/
import Derived.Test.YtacomnelongbjabLst
namespace Go.Proofs.Ytacomnelongbjab
open Go Go.RowKit
set_option maxRecDepth 100000
set_option linter.unusedSimpArgs false
set_option linter.unusedVariables false
set_option maxHeartbeats 4000000

theorem fl_snoc3 (L : List F3) (a b c : Int) : fl L ++ [[a, b, c]] = fl (L ++ [(a, b, c)]) := fl_snoc L (a, b, c)
def negB (d : Int) : Bool := decide (d ≥ -2000) && (decide (d ≤ -3) && decide (modI d 4 ≤ 1))
theorem negB_in {d : Int} (h : negB d = true) : -2000 ≤ d ∧ d ≤ -3 := by
  simp only [negB, Bool.and_eq_true, decide_eq_true_eq] at h
  exact ⟨h.1, h.2.1⟩
-- (not in this seat: IsNeg)
-- (not in this seat: ReDisc)
def cOf (d a b : Int) : Int := wrap64 ((wrap64 (wrap64 (b * b) - d)).tdiv (wrap64 (4 * a)))
def okB (d a b : Int) : Bool := ((wrap64 (wrap64 (b * b) - d)).tmod (wrap64 (4 * a)) == 0) && isReducedI a b (cOf d a b)
def allB (d a b : Int) : List F3 := if _h : b ≤ a then (if okB d a b = true then [(a, b, cOf d a b)] else []) ++ allB d a (b + 1) else []
  termination_by (a + 1 - b).toNat
  decreasing_by omega
def allA (d a : Int) : List F3 := if _h : 0 < a ∧ 3 * a * a ≤ -d then allB d a (1 - a) ++ allA d (a + 1) else []
  termination_by (-d + 1 - a).toNat
  decreasing_by
    have h1 : a ≤ 3 * a * a := by
      have h2 : a * 1 ≤ a * a := Int.mul_le_mul_of_nonneg_left (by omega) (by omega)
      have h3 : 3 * a * a = 3 * (a * a) := Int.mul_assoc 3 a a
      omega
    omega
def allRed (d : Int) : List F3 := allA d 1
theorem allB_len (d a b : Int) : (allB d a b).length ≤ (a + 1 - b).toNat := by
  fun_induction allB d a b with
  | case1 b h ih =>
    rw [List.length_append]
    have : (if okB d a b = true then [(a, b, cOf d a b)] else []).length ≤ 1 := by split <;> simp
    omega
  | case2 b h => simp
theorem sq_in {a n : Int} (h0 : 0 ≤ n) (h : -n ≤ a ∧ a ≤ n) : 0 ≤ a * a ∧ a * a ≤ n * n := by
  have h2 : a.natAbs * a.natAbs ≤ n.natAbs * n.natAbs := Nat.mul_le_mul (by omega) (by omega)
  have h3 : ((a.natAbs * a.natAbs : Nat) : Int) = a * a := by rw [Int.natCast_mul]; exact Int.natAbs_mul_self' a
  have h4 : ((n.natAbs * n.natAbs : Nat) : Int) = n * n := by rw [Int.natCast_mul]; exact Int.natAbs_mul_self' n
  omega
theorem small_a {d a : Int} (hd : -2000 ≤ d) (h : 0 < a ∧ 3 * a * a ≤ -d) : a ≤ 25 := by
  have h3 : 3 * a * a = 3 * (a * a) := Int.mul_assoc 3 a a
  by_cases hc : a ≤ 25
  · exact hc
  · exfalso
    have h2 : 26 * 26 ≤ a * a := Int.mul_le_mul (by omega) (by omega) (by omega) (by omega)
    omega
theorem allA_len {d : Int} (hd : -2000 ≤ d) (a : Int) (ha : a ≤ 26) : (allA d a).length ≤ 52 * (26 - a).toNat := by
  fun_induction allA d a with
  | case1 a h ih =>
    have h1 := small_a hd h
    have h2 := allB_len d a (1 - a)
    have h3 := ih (by omega)
    rw [List.length_append]
    omega
  | case2 a h => simp
theorem allRed_len {d : Int} (hd : -2000 ≤ d) : (allRed d).length ≤ 1300 := allA_len hd 1 (by omega)
theorem acond {d a : Int} (hd : -2000 ≤ d ∧ d ≤ -3) (ha : 0 < a ∧ a ≤ 26) : decide (wrap64 (wrap64 (3 * a) * a) ≤ wrap64 (0 - d)) = decide (3 * a * a ≤ -d) := by
  have h1 := sq_in (n := 26) (by omega) (show -26 ≤ a ∧ a ≤ 26 by omega)
  have h3 : 3 * a * a = 3 * (a * a) := Int.mul_assoc 3 a a
  rw [wrap_id (n := 3 * a) (by omega) (by omega), wrap_id (n := 3 * a * a) (by omega) (by omega), wrap_id (n := 0 - d) (by omega) (by omega), decide_eq_decide]
  omega
theorem allA_step {d a : Int} (ha : 0 < a) (h : decide (3 * a * a ≤ -d) = true) : allA d a = allB d a (1 - a) ++ allA d (a + 1) := by
  rw [allA.eq_def, dif_pos ⟨ha, of_decide_eq_true h⟩]
theorem allA_stop {d a : Int} (h : decide (3 * a * a ≤ -d) = false) : allA d a = [] := by
  rw [allA.eq_def, dif_neg (fun x => of_decide_eq_false h x.2)]
theorem allB_step {d a b : Int} (h : b ≤ a) : allB d a b = (if okB d a b = true then [(a, b, cOf d a b)] else []) ++ allB d a (b + 1) := by
  rw [allB.eq_def, dif_pos h]
theorem allB_stop {d a b : Int} (h : ¬ b ≤ a) : allB d a b = [] := by rw [allB.eq_def, dif_neg h]
theorem acc_len {d : Int} {acc r : List F3} (hd : -2000 ≤ d) (h : acc ++ r = allRed d) : acc.length ≤ 1300 := by
  have := allRed_len hd
  rw [← h, List.length_append] at this
  omega
abbrev fAllReduced : Nat := 51
def cAllReduced : Ctr
  | [.i d] => some ⟨-2000 ≤ d ∧ d ≤ -3, .one (.rw (.recs 66 3 (fl (allRed d)))), []⟩
  | _ => none
theorem okAllReduced : CtrOk Try.prog fAllReduced cAllReduced := by
  have hsp : SpecOk Try.prog (specOf [(fReduced, cReduced)]) := (SpecOk.cons okReduced SpecOk.nil)
  refine ctr_of (fn := Try.f51) mixed tab_ok hsp Try.func51 (by kernel_rfl) (by kernel_rfl) fun args ce h => ?_
  clear hsp
  unfold cAllReduced at h
  split at h
  case h_2 => cases h
  rename_i d
  simp only [Option.some.injEq] at h
  subst h
  refine ⟨by rfl, fun hp => ⟨2, 1000, ?_⟩⟩
  simp only [vc, out, Entry.toO, toOf, St.res, step, stepE, stepPick, stepO, eff, look, rem, St.put, St.setMem, setMems, St.after, St.eval, cst, val1, okNew, newHs, allHs, rdOf, Reg.item, Reg.next, svs, rowOf, allParts, effBuildSlice, effBuildSl, wrHs, disj, AV.hs, A0.hs, Entry.hs, RC.sz, hA, initFr, initMem, initSt, t_implForm, ts_implForm, Option.getD_some, cond_true, cond_false, Nat.reduceBEq, List.map_cons, List.map_nil, Option.map_some, Nat.zero_add, true_and, List.all_cons, List.all_nil, Bool.and_true, Bool.not_false, List.append_nil, List.flatMap_cons, List.flatMap_nil, List.contains_nil, List.filter_cons, List.filter_nil, beq_self_eq_true, ble_dec, blt_dec, Nat.reduceLeDiff, decide_true, List.toList_toArray, ite_true, fReduced, Try.f51]
  have hd : -2000 ≤ d ∧ d ≤ -3 := hp
  refine lp_intro (fun x : List F3 × Int => ⟨[(0, .one (.i d)), (3, .one (.row 7)), (4, .one (.i x.2))], [(7, .row (.recs 66 3 (fl x.1)))]⟩)
    (fun x => 0 < x.2 ∧ x.2 ≤ 26 ∧ x.1 ++ allA d x.2 = allRed d) (fun x => (27 - x.2).toNat) ([], 1) [] ⟨by omega, by omega, rfl⟩ (by simp only [Cov, covOk, covFr, covMem, entEq, rn, nodupB, A0.ren, AV.ren, Entry.ren, Entry.norm, look, St.eval, A0.norm, AV.norm, Option.getD_some, Option.getD_none, cond_true, cond_false, Nat.reduceBEq, List.map_cons, List.map_nil, List.all_nil, Bool.and_true, Bool.not_false, List.contains_nil, beq_self_eq_true, and_self, fl_nil]) fun x hx J hJ => ⟨1000, ?_⟩
  obtain ⟨acc, a⟩ := x
  obtain ⟨h0, h26, hx⟩ := hx
  simp only at h0 h26 hx hJ
  simp only [vc, out, finD, St.drop, vwAt, Entry.vwO, RC.vwO, Entry.toO, toOf, St.res, step, stepE, stepPick, stepO, stepC, eff, look, rem, St.put, setMems, St.after, St.eval, cst, val1, okNew, Reg.item, Reg.next, binInt, effBin, effUn, nodupB, RC.flat, effBin2, disj, resOf, resAll, compEq, compsEq, rowHs, outHds, outsEq, shapeOk, finOk, comps, Option.getD_some, cond_true, cond_false, Nat.reduceBEq, Option.map_some, Nat.zero_add, true_and, and_true, List.length_cons, List.length_nil, List.all_cons, List.all_nil, Bool.and_true, Bool.not_false, List.contains_nil, beq_self_eq_true, RC.recs.injEq, acond hd ⟨h0, h26⟩]
  rw [bif_prop]
  refine ⟨fun hc => ?_, fun hc => ?_⟩
  · have h25 := small_a hd.1 ⟨h0, of_decide_eq_true hc⟩
    have hst := allA_step h0 hc
    rw [hst] at hx
    refine lp_intro (fun y : List F3 × Int => ⟨[(0, .one (.i d)), (3, .one (.row 7)), (4, .one (.i a)), (5, .one (.i y.2))], [(7, .row (.recs 66 3 (fl y.1)))]⟩)
      (fun y => -26 ≤ y.2 ∧ y.2 ≤ 26 ∧ y.1 ++ (allB d a y.2 ++ allA d (a + 1)) = allRed d) (fun y => (a + 1 - y.2).toNat) (acc, 1 - a) [] ⟨by simp only; omega, by simp only; omega, hx⟩ (by simp only [Cov, covOk, covFr, covMem, entEq, rn, nodupB, A0.ren, AV.ren, Entry.ren, Entry.norm, look, St.eval, A0.norm, AV.norm, Option.getD_some, Option.getD_none, cond_true, cond_false, Nat.reduceBEq, List.map_cons, List.map_nil, List.all_nil, Bool.and_true, Bool.not_false, List.contains_nil, beq_self_eq_true, and_self, wrap_id (n := 1 - a) (by omega) (by omega)]) fun y hy J' hJ' => ⟨1000, ?_⟩
    obtain ⟨acc', b⟩ := y
    obtain ⟨hb1, hb2, hy⟩ := hy
    simp only at hb1 hb2 hy hJ'
    have hal := acc_len hd.1 hy
    simp only [vc, out, Entry.toO, toOf, St.res, step, stepE, stepPick, stepO, stepC, eff, look, rem, St.put, St.setMem, setMems, St.after, St.eval, cst, setAt, val1, okNew, newHs, allHs, rdOf, Reg.item, Reg.next, effAlloc, entryRow, loadI, effLoad, storeI, szOk, storeTo, effStore, buildOf, effBuild, binInt, effBin, svs, rowOf, allParts, effBuildSlice, readOf, subPre, maxRow, plainTI, appTo, effAppend, argOf, resA, resV, argsPre, argOk, callWr, effCall, RC.flat, effBuild2, effBuildSl, callGo, effAlloc2, effLoad2, effStore2, effBuild3, effAppend2, calleeHs, effLoad3, effStore3, effBin2, effBuild4, effCall2, wrHs, disj, AV.hs, A0.hs, Entry.hs, RC.elem, RC.sz, RC.len, RC.app, specOf, t_implForm, ts_implForm, Option.getD_some, cond_true, cond_false, Nat.reduceBEq, List.map_cons, List.map_nil, List.set_cons_zero, List.set_cons_succ, List.getElem?_cons_zero, List.getElem?_cons_succ, List.drop_zero, List.take_succ_cons, List.take_zero, Option.map_some, Nat.zero_add, Nat.reduceAdd, true_and, and_true, List.replicate_succ, List.replicate_zero, List.length_cons, List.length_nil, List.all_cons, List.all_nil, Bool.and_true, Bool.or_false, Bool.not_true, Bool.not_false, List.append_nil, List.nil_append, List.cons_append, List.flatMap_cons, List.flatMap_nil, List.contains_cons, List.contains_nil, List.filter_cons, List.filter_nil, beq_self_eq_true, ble_dec, blt_dec, Nat.reduceLeDiff, decide_true, and_self, ite_true, ite_false, Bool.false_eq_true, cReduced, fl_snoc3, fl_length]
    rw [bif_prop]
    refine ⟨fun hb => ?_, fun hb => ?_⟩
    · have hba : b ≤ a := of_decide_eq_true hb
      have hq : wrap64 (4 * a) ≠ 0 := by rw [wrap_id (by omega) (by omega)]; omega
      have hw : wrap64 (b + 1) = b + 1 := wrap_id (by omega) (by omega)
      rw [allB_step hba] at hy
      refine ⟨hq, ?_⟩
      rw [bif_prop]
      refine ⟨fun hm => hJ' _ (acc', b + 1) [] ⟨by simp only; omega, by simp only; omega, ?_⟩ (by simp only; omega) (by simp only [Cov, covOk, covFr, covMem, entEq, rn, nodupB, A0.ren, AV.ren, Entry.ren, Entry.norm, look, St.eval, A0.norm, AV.norm, Option.getD_some, Option.getD_none, cond_true, cond_false, Nat.reduceBEq, List.map_cons, List.map_nil, List.all_nil, Bool.and_true, Bool.not_false, List.contains_nil, beq_self_eq_true, and_self, hw]), fun hm => ⟨hq, ?_⟩⟩
      · have : okB d a b = false := by
          unfold okB
          rw [bne, Bool.not_eq_true'] at hm
          rw [hm]; rfl
        rw [this] at hy
        exact hy
      · have hm' : ((wrap64 (wrap64 (b * b) - d)).tmod (wrap64 (4 * a)) == 0) = true := by simpa using hm
        rw [bif_prop]
        refine ⟨fun hr => ⟨by rw [List.length_append, List.length_singleton]; omega, hJ' _ (acc' ++ [(a, b, cOf d a b)], b + 1) [(7, 49)] ⟨by simp only; omega, by simp only; omega, ?_⟩ (by simp only; omega) (by simp only [Cov, covOk, covFr, covMem, entEq, rn, nodupB, A0.ren, AV.ren, Entry.ren, Entry.norm, look, St.eval, A0.norm, AV.norm, Option.getD_some, cond_true, cond_false, Nat.reduceBEq, List.map_cons, List.map_nil, List.all_nil, Bool.and_true, Bool.not_false, List.contains_nil, beq_self_eq_true, and_self, hw, cOf])⟩, fun hr => hJ' _ (acc', b + 1) [] ⟨by simp only; omega, by simp only; omega, ?_⟩ (by simp only; omega) (by simp only [Cov, covOk, covFr, covMem, entEq, rn, nodupB, A0.ren, AV.ren, Entry.ren, Entry.norm, look, St.eval, A0.norm, AV.norm, Option.getD_some, Option.getD_none, cond_true, cond_false, Nat.reduceBEq, List.map_cons, List.map_nil, List.all_nil, Bool.and_true, Bool.not_false, List.contains_nil, beq_self_eq_true, and_self, hw])⟩
        · have : okB d a b = true := by unfold okB; rw [hm']; exact hr
          rw [this] at hy
          simpa using hy
        · have : okB d a b = false := by unfold okB; rw [hm']; exact hr
          rw [this] at hy
          exact hy
    · have hba : ¬ b ≤ a := of_decide_eq_false hb
      rw [allB_stop hba] at hy
      exact hJ _ (acc', a + 1) [] ⟨by simp only; omega, by simp only; omega, hy⟩ (by simp only; omega) (by simp only [Cov, covOk, covFr, covMem, entEq, rn, nodupB, A0.ren, AV.ren, Entry.ren, Entry.norm, look, St.eval, A0.norm, AV.norm, Option.getD_some, Option.getD_none, cond_true, cond_false, Nat.reduceBEq, List.map_cons, List.map_nil, List.all_nil, Bool.and_true, Bool.not_false, List.contains_nil, beq_self_eq_true, and_self, wrap_id (n := a + 1) (by omega) (by omega)])
  · rw [allA_stop hc, List.append_nil] at hx
    rw [hx]

/-! ### what the list holds -/
theorem quo_facts {d a b : Int} (hd : -2000 ≤ d ∧ d ≤ -3) (ha : 0 < a ∧ a ≤ 26) (hb : -26 ≤ b ∧ b ≤ 26) :
    cOf d a b = (b * b - d) / (4 * a) ∧ (((wrap64 (wrap64 (b * b) - d)).tmod (wrap64 (4 * a)) == 0) = decide ((b * b - d) % (4 * a) = 0)) ∧ 0 ≤ cOf d a b ∧ cOf d a b ≤ 3000 ∧ 4 * a * cOf d a b + (b * b - d) % (4 * a) = b * b - d := by
  have h1 := sq_in (n := 26) (by omega) hb
  have e1 : wrap64 (wrap64 (b * b) - d) = b * b - d := by rw [wrap_id (n := b * b) (by omega) (by omega), wrap_id (by omega) (by omega)]
  have e2 : wrap64 (4 * a) = 4 * a := wrap_id (by omega) (by omega)
  have h2 : 0 ≤ (b * b - d) / (4 * a) := Int.ediv_nonneg (by omega) (by omega)
  have h3 : (b * b - d) / (4 * a) ≤ b * b - d := Int.ediv_le_self _ (by omega)
  have e3 : cOf d a b = (b * b - d) / (4 * a) := by
    unfold cOf
    rw [e1, e2, Int.tdiv_eq_ediv_of_nonneg (by omega), wrap_id (by omega) (by omega)]
  refine ⟨e3, ?_, by omega, by omega, ?_⟩
  · rw [e1, e2, Int.tmod_eq_emod_of_nonneg (by omega), Bool.eq_iff_iff]
    simp
  · rw [e3]; exact Int.mul_ediv_add_emod _ _
theorem mem_allB {d a : Int} {x : F3} (b : Int) : x ∈ allB d a b ↔ x.1 = a ∧ b ≤ x.2.1 ∧ x.2.1 ≤ a ∧ okB d a x.2.1 = true ∧ x.2.2 = cOf d a x.2.1 := by
  fun_induction allB d a b with
  | case1 b h ih =>
    rw [List.mem_append, ih]
    constructor
    · rintro (h1 | ⟨h1, h2, h3, h4, h5⟩)
      · split at h1
        · rename_i hok
          simp only [List.mem_singleton] at h1
          subst h1
          exact ⟨rfl, Int.le_refl _, h, hok, rfl⟩
        · cases h1
      · exact ⟨h1, by omega, h3, h4, h5⟩
    · rintro ⟨h1, h2, h3, h4, h5⟩
      by_cases hb : x.2.1 = b
      · left
        rw [← hb, if_pos h4, List.mem_singleton, ← h5, ← h1]
      · exact .inr ⟨h1, by omega, h3, h4, h5⟩
  | case2 b h =>
    constructor
    · intro h1; cases h1
    · rintro ⟨_, h2, h3, _⟩; omega
theorem mem_allA {d : Int} {x : F3} (a : Int) (ha : 0 < a) : x ∈ allA d a ↔ a ≤ x.1 ∧ 3 * x.1 * x.1 ≤ -d ∧ 1 - x.1 ≤ x.2.1 ∧ x.2.1 ≤ x.1 ∧ okB d x.1 x.2.1 = true ∧ x.2.2 = cOf d x.1 x.2.1 := by
  fun_induction allA d a with
  | case1 a h ih =>
    rw [List.mem_append, ih (by omega), mem_allB]
    constructor
    · rintro (⟨h1, h2, h3, h4, h5⟩ | ⟨h1, h2⟩)
      · subst h1; exact ⟨Int.le_refl _, h.2, h2, h3, h4, h5⟩
      · exact ⟨by omega, h2⟩
    · rintro ⟨h1, h2, h3, h4, h5, h6⟩
      by_cases hx : x.1 = a
      · rw [hx] at h3 h4 h5 h6; exact .inl ⟨hx, h3, h4, h5, h6⟩
      · exact .inr ⟨by omega, h2, h3, h4, h5, h6⟩
  | case2 a h =>
    constructor
    · intro h1; cases h1
    · rintro ⟨h1, h2, _⟩
      exfalso
      apply h
      refine ⟨ha, ?_⟩
      have h3 : a * a ≤ x.1 * x.1 := Int.mul_le_mul h1 h1 (by omega) (by omega)
      have h4 : 3 * x.1 * x.1 = 3 * (x.1 * x.1) := Int.mul_assoc _ _ _
      have h5 : 3 * a * a = 3 * (a * a) := Int.mul_assoc _ _ _
      omega
/-- a reduced form of the discriminant d -/
structure IsRed (d : Int) (x : F3) : Prop where
  a0 : 0 < x.1
  lo : -x.1 < x.2.1
  hi : x.2.1 ≤ x.1
  ac : x.1 < x.2.2 ∨ (x.1 = x.2.2 ∧ 0 ≤ x.2.1)
  d : x.2.1 * x.2.1 - 4 * x.1 * x.2.2 = d
theorem IsRed.three {d : Int} {x : F3} (h : IsRed d x) : 3 * x.1 * x.1 ≤ -d ∧ 3 * x.1 * x.2.2 ≤ -d := by
  obtain ⟨a, b, c⟩ := x
  obtain ⟨h1, h2, h3, h4, h5⟩ := h
  simp only at *
  have e1 : b * b ≤ a * a := by have := sq_in (a := b) (n := a) (by omega) ⟨by omega, by omega⟩; omega
  have e2 : a * a ≤ a * c := Int.mul_le_mul_of_nonneg_left (by omega) (by omega)
  have e3 : 4 * a * c = 4 * (a * c) := Int.mul_assoc _ _ _
  have e4 : 3 * a * a = 3 * (a * a) := Int.mul_assoc _ _ _
  have e5 : 3 * a * c = 3 * (a * c) := Int.mul_assoc _ _ _
  omega
theorem mem_allRed {d : Int} (hd : -2000 ≤ d ∧ d ≤ -3) {x : F3} : x ∈ allRed d ↔ IsRed d x := by
  unfold allRed
  rw [mem_allA 1 (by omega)]
  obtain ⟨a, b, c⟩ := x
  simp only
  constructor
  · rintro ⟨h1, h2, h3, h4, h5, h6⟩
    have ha := small_a hd.1 ⟨by omega, h2⟩
    obtain ⟨q1, q2, q3, q4, q5⟩ := quo_facts hd (a := a) (b := b) ⟨by omega, by omega⟩ ⟨by omega, by omega⟩
    unfold okB at h5
    rw [q2, Bool.and_eq_true, decide_eq_true_eq, ← h6] at h5
    rw [h5.1, ← h6] at q5
    simp only [isReducedI, Bool.and_eq_true, Bool.or_eq_true, decide_eq_true_eq, beq_iff_eq] at h5
    exact ⟨by simp only; omega, by simp only; omega, by simp only; omega, by simp only; omega, by simp only; omega⟩
  · intro h
    obtain ⟨h7, _⟩ := h.three
    obtain ⟨h1, h2, h3, h4, h5⟩ := h
    simp only at h1 h2 h3 h4 h5 h7
    have ha := small_a hd.1 ⟨h1, h7⟩
    obtain ⟨q1, q2, q3, q4, q5⟩ := quo_facts hd (a := a) (b := b) ⟨by omega, by omega⟩ ⟨by omega, by omega⟩
    have e1 : b * b - d = 4 * a * c := by omega
    have e2 : cOf d a b = c := by rw [q1, e1]; exact Int.mul_ediv_cancel_left _ (by omega)
    have e3 : (b * b - d) % (4 * a) = 0 := by rw [e1]; exact Int.mul_emod_right _ _
    refine ⟨by omega, h7, by omega, h3, ?_, e2.symm⟩
    unfold okB
    rw [q2, e2, e3]
    simp only [isReducedI, decide_true, Bool.true_and, Bool.and_eq_true, Bool.or_eq_true, decide_eq_true_eq, beq_iff_eq]
    exact ⟨(norm_iff h1 (by omega)).2 ⟨by omega, by omega⟩, by omega⟩
theorem IsRed.small {d : Int} (hd : -2000 ≤ d) {x : F3} (h : IsRed d x) : 0 < x.1 ∧ x.1 ≤ 25 ∧ -25 ≤ x.2.1 ∧ x.2.1 ≤ 25 ∧ 0 < x.2.2 ∧ x.2.2 ≤ 700 := by
  obtain ⟨h7, h8⟩ := h.three
  obtain ⟨h1, h2, h3, h4, h5⟩ := h
  have ha := small_a hd ⟨h1, h7⟩
  refine ⟨h1, ha, by omega, by omega, by omega, ?_⟩
  have e1 : x.2.2 * 1 ≤ x.2.2 * x.1 := Int.mul_le_mul_of_nonneg_left (by omega) (by omega)
  have e2 : 3 * x.1 * x.2.2 = 3 * (x.2.2 * x.1) := by rw [Int.mul_assoc, Int.mul_comm x.1]
  omega
theorem sok {d a b : Int} (hd : -2000 ≤ d ∧ d ≤ -3) (ha : 0 < a ∧ a ≤ 25) (hb : -26 ≤ b ∧ b ≤ 26) : (discI a b (cOf d a b) == d && isReducedI a b (cOf d a b)) = okB d a b := by
  obtain ⟨q1, q2, q3, q4, q5⟩ := quo_facts hd (a := a) (b := b) ⟨by omega, by omega⟩ hb
  unfold okB
  have h1 := sq_in (n := 26) (by omega) hb
  have h2 := Int.emod_lt_of_pos (b * b - d) (show 0 < 4 * a by omega)
  have h3 := Int.emod_nonneg (b * b - d) (show 4 * a ≠ 0 by omega)
  rw [q2, discI_eq, wrap_id (by omega) (by omega)]
  congr 1
  rw [Bool.eq_iff_iff, beq_iff_eq, decide_eq_true_iff]
  omega
-- (not in this seat: ReAll)

/-! ### primitive ones -/
def primB (x : F3) : Bool := gcdI x.1 (gcdI x.2.1 x.2.2) == 1
theorem filter_snoc {α : Type} (p : α → Bool) (l : List α) (x : α) : (l ++ [x]).filter p = l.filter p ++ (if p x = true then [x] else []) := by
  rw [List.filter_append]
  simp [List.filter_cons]
theorem fl_take_len {l : List (List Int)} (p : F3 → Bool) (n : Nat) : (((unfl l).take n).filter p).length ≤ l.length := by
  refine Nat.le_trans (List.length_filter_le _ _) ?_
  rw [List.length_take, unfl_length]
  omega
abbrev fPrimitiveOf : Nat := 50
def cPrimitiveOf : Ctr
  | [.rw (.recs e 3 l)] => some ⟨l.length ≤ 1000000000, .one (.rw (.recs 66 3 (fl ((unfl l).filter primB)))), []⟩
  | _ => none
theorem okPrimitiveOf : CtrOk Try.prog fPrimitiveOf cPrimitiveOf := by
  have hsp : SpecOk Try.prog (specOf [(fContent, cContent)]) := (SpecOk.cons okContent SpecOk.nil)
  refine ctr_of (fn := Try.f50) mixed tab_ok hsp Try.func50 (by kernel_rfl) (by kernel_rfl) fun args ce h => ?_
  clear hsp
  unfold cPrimitiveOf at h
  split at h
  case h_2 => cases h
  rename_i e l
  simp only [Option.some.injEq] at h
  subst h
  refine ⟨by rfl, fun hp => ⟨1, 1000, ?_⟩⟩
  simp only [vc, out, Entry.toO, toOf, St.res, step, stepE, stepPick, stepO, eff, look, rem, St.put, St.setMem, setMems, St.after, St.eval, cst, val1, okNew, newHs, allHs, rdOf, Reg.item, Reg.next, entryRow, svs, rowOf, allParts, effBuildSlice, elemSz, lenOf, RC.flat, effBuildSl, lenOf2, wrHs, disj, AV.hs, A0.hs, Entry.hs, RC.sz, RC.len, hA, initFr, initMem, initSt, t_implForm, ts_implForm, Option.getD_some, cond_true, cond_false, Nat.reduceBEq, List.map_cons, List.map_nil, Option.map_some, Nat.zero_add, Nat.add_zero, true_and, List.all_cons, List.all_nil, List.any_nil, Bool.and_true, Bool.or_false, Bool.not_false, List.append_nil, List.nil_append, List.cons_append, List.flatMap_cons, List.flatMap_nil, List.contains_cons, List.contains_nil, List.filter_cons, List.filter_nil, beq_self_eq_true, ble_dec, blt_dec, Nat.reduceLeDiff, decide_true, List.toList_toArray, Option.isSome_some, ite_true, fContent, Try.f50]
  have hp' : l.length ≤ 1000000000 := hp
  refine lp_intro (fun n : Nat => ⟨[(0, .one (.row 1000000)), (3, .one (.row 6)), (7, .one (.row 1000000)), (8, .one (.i l.length)), (9, .one (.i n))], [(1000000, .ro (.recs e 3 l)), (6, .row (.recs 66 3 (fl (((unfl l).take n).filter primB))))]⟩)
    (fun n => n ≤ l.length) (fun n => l.length - n) 0 [] (Nat.zero_le _) (by simp only [Cov, covOk, covFr, covMem, entEq, rn, nodupB, A0.ren, AV.ren, Entry.ren, Entry.norm, look, St.eval, A0.norm, AV.norm, Option.getD_some, Option.getD_none, cond_true, cond_false, Nat.reduceBEq, List.map_cons, List.map_nil, List.take_zero, true_and, and_true, List.all_nil, Bool.and_true, Bool.or_false, Bool.not_false, List.contains_cons, List.contains_nil, List.filter_nil, beq_self_eq_true, A0.i.injEq, AV.one.injEq]; simp [fl_nil]) fun n hn J hJ => ⟨1000, ?_⟩
  simp only [vc, out, finD, St.drop, vwAt, Entry.vwO, RC.vwO, Entry.toO, toOf, St.res, step, stepE, stepPick, stepO, stepC, eff, look, rem, St.put, St.setMem, setMems, St.after, St.eval, cst, setAt, val1, okNew, newHs, allHs, rdOf, Reg.item, Reg.next, effAlloc, entryRow, loadI, loadR, effLoad, storeI, szOk, storeTo, effStore, binInt, effBin, svs, rowOf, allParts, effBuildSlice, idxS, effIndex, readOf, subPre, maxRow, plainTI, appTo, effAppend, argOf, resA, resV, nodupB, argsPre, argOk, callWr, effCall, RC.flat, effBuildSl, callGo, effAlloc2, effLoad2, effStore2, effAppend2, calleeHs, effLoad3, effStore3, effIndex2, effBin2, effCall2, wrHs, disj, AV.hs, A0.hs, Entry.hs, RC.elem, RC.sz, RC.len, RC.app, resOf, resAll, compEq, compsEq, rowHs, outHds, outsEq, shapeOk, finOk, comps, specOf, t_implForm, ts_implForm, Option.getD_some, cond_true, cond_false, Nat.reduceBEq, List.map_cons, List.map_nil, List.set_cons_zero, List.set_cons_succ, List.drop_zero, List.take_succ_cons, List.take_zero, Option.map_some, Nat.zero_add, Nat.reduceAdd, true_and, and_true, List.replicate_succ, List.replicate_zero, List.length_cons, List.length_nil, List.all_cons, List.all_nil, Bool.and_true, Bool.or_false, Bool.not_true, Bool.not_false, List.append_nil, List.nil_append, List.cons_append, List.flatMap_cons, List.flatMap_nil, List.contains_cons, List.contains_nil, List.filter_cons, List.filter_nil, beq_self_eq_true, RC.recs.injEq, ble_dec, blt_dec, Nat.reduceLeDiff, decide_true, and_self, ite_true, ite_false, Bool.false_eq_true, cContent, rng3, Int.toNat_natCast]
  rw [bif_prop]
  refine ⟨fun hc => ?_, fun hc => ?_⟩
  · have hlt := ilt_iff.1 hc
    have hw := wsucc hlt (Nat.le_trans hp' (by omega))
    have hl := fl_take_len (l := l) primB n
    have ht := unfl_take l hlt
    refine ⟨⟨by omega, by omega⟩, hlt, ?_⟩
    rw [bif_prop]
    refine ⟨fun h1 => ⟨?_, hJ _ (n + 1) [(6, 19)] hlt (by omega) ?_⟩, fun h1 => hJ _ (n + 1) [] hlt (by omega) ?_⟩
    · rw [List.length_append, fl_length, List.length_singleton]; omega
    · have h2 : primB (nth3 l n) = true := h1
      simp only [Cov, covOk, covFr, covMem, entEq, rn, nodupB, A0.ren, AV.ren, Entry.ren, Entry.norm, look, St.eval, A0.norm, AV.norm, Option.getD_some, Option.getD_none, cond_true, cond_false, Nat.reduceBEq, List.map_cons, List.map_nil, List.all_nil, Bool.and_true, Bool.or_false, Bool.not_false, List.contains_cons, List.contains_nil, beq_self_eq_true, and_self, ite_true, hw, ht, filter_snoc, h2, fl_snoc]
    · have h2 : primB (nth3 l n) = false := h1
      simp only [Cov, covOk, covFr, covMem, entEq, rn, nodupB, A0.ren, AV.ren, Entry.ren, Entry.norm, look, St.eval, A0.norm, AV.norm, Option.getD_some, Option.getD_none, cond_true, cond_false, Nat.reduceBEq, List.map_cons, List.map_nil, List.all_nil, Bool.and_true, Bool.or_false, Bool.not_false, List.append_nil, List.contains_cons, List.contains_nil, beq_self_eq_true, and_self, ite_false, Bool.false_eq_true, hw, ht, filter_snoc, h2]
  · have := inlt_iff.1 hc
    rw [List.take_of_length_le (by rw [unfl_length]; exact this)]
def redF (d : Int) : List F3 := (allRed d).filter primB
theorem redF_len {d : Int} (hd : -2000 ≤ d) : (redF d).length ≤ 1300 := Nat.le_trans (List.length_filter_le _ _) (allRed_len hd)
theorem spec_prim {d : Int} (hd : -2000 ≤ d ∧ d ≤ -3) {x : F3} (h : x ∈ allRed d) : (nuGcdI (nuGcdI x.1 x.2.1) x.2.2 == 1) = primB x := by
  have hs := ((mem_allRed hd).1 h).small hd.1
  unfold primB
  rw [content_eq (by omega) (by omega) (by omega)]
abbrev fRedForms : Nat := 45
def cRedForms : Ctr
  | [.i d] => some ⟨-2000 ≤ d ∧ d ≤ -3, .one (.rw (.recs 66 3 (fl (redF d)))), []⟩
  | _ => none
theorem okRedForms : CtrOk Try.prog fRedForms cRedForms := by
  have hsp : SpecOk Try.prog (specOf [(fAllReduced, cAllReduced), (fPrimitiveOf, cPrimitiveOf)]) := (SpecOk.cons okAllReduced (SpecOk.cons okPrimitiveOf SpecOk.nil))
  refine ctr_of (fn := Try.f45) mixed tab_ok hsp Try.func45 (by kernel_rfl) (by kernel_rfl) fun args ce h => ?_
  clear hsp
  unfold cRedForms at h
  split at h
  case h_2 => cases h
  rename_i d
  simp only [Option.some.injEq] at h
  subst h
  refine ⟨by rfl, fun hp => ⟨0, 1000, ?_⟩⟩
  simp only [vc, out, finD, St.drop, vwAt, Entry.vwO, RC.vwO, Entry.toO, toOf, St.res, step, stepE, stepPick, stepO, eff, look, rem, St.put, St.setMem, setMems, St.after, St.eval, cst, val1, okNew, newHs, allHs, rdOf, Reg.item, Reg.next, entryRow, subPre, argOf, resA, resV, nodupB, argsPre, argOk, callWr, effCall, RC.flat, callGo, calleeHs, effCall2, wrHs, disj, AV.hs, A0.hs, Entry.hs, hA, initFr, initMem, initSt, resOf, resAll, compEq, compsEq, rowHs, outHds, outsEq, shapeOk, finOk, comps, specOf, Option.getD_some, cond_true, cond_false, Nat.reduceBEq, List.map_cons, List.map_nil, Option.map_some, Nat.zero_add, true_and, and_true, List.length_cons, List.length_nil, List.all_cons, List.all_nil, Bool.and_true, Bool.or_false, Bool.not_false, List.append_nil, List.nil_append, List.cons_append, List.flatMap_cons, List.flatMap_nil, List.contains_cons, List.contains_nil, List.filter_cons, List.filter_nil, beq_self_eq_true, RC.recs.injEq, and_self, List.toList_toArray, ite_true, cAllReduced, fAllReduced, cPrimitiveOf, fPrimitiveOf, Try.f45]
  have := allRed_len hp.1
  refine ⟨hp, by rw [fl_length]; omega, ?_⟩
  rw [unfl_fl]; rfl
-- (not in this seat: ReList)
def onL {α : Type} (b : Bool) (l : List α) : List α := bif b then l else []
-- (not in this seat: ReducedForms)
-- (not in this seat: SReducedForms)
theorem onL_len {d : Int} : (fl (onL (negB d) (redF d))).length ≤ 1300 := by
  rw [fl_length]
  cases h : negB d with
  | false => simp [onL]
  | true => exact redF_len (negB_in h).1
-- (not in this seat: LawReducedForms)
end Go.Proofs.Ytacomnelongbjab
