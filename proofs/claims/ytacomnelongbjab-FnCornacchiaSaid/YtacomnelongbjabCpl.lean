/-
  Contracts of Cornacchia on both sides, of the pairs of x*x + n*y*y, and what they say. Conditions: none.
-/
import Derived.Test.YtacomnelongbjabReps
import Derived.Test.YtacomnelongbjabCor
import Derived.Test.YtacomnelongbjabIte
namespace Go.Proofs.Ytacomnelongbjab
open Go Go.RowKit
set_option maxRecDepth 100000
set_option linter.unusedSimpArgs false
set_option linter.unusedVariables false
set_option maxHeartbeats 4000000

/-! ### plain -/
theorem y_le {n m y : Int} (hn : 1 ≤ n) (hy : 0 ≤ y) (h : n * y * y ≤ m) : y ≤ m ∧ y * y ≤ m := by
  have h1 : n * y * y = n * (y * y) := Int.mul_assoc ..
  have h2 : 1 * (y * y) ≤ n * (y * y) := Int.mul_le_mul_of_nonneg_right hn (Int.mul_nonneg hy hy)
  have h3 : y ≤ y * y := by
    by_cases g : y = 0
    · rw [g]; omega
    · have : y * 1 ≤ y * y := Int.mul_le_mul_of_nonneg_left (by omega) hy
      omega
  omega
theorem y_100 {y m : Int} (hy : 0 ≤ y) (h : y * y ≤ m) (hm : m ≤ 10000) : y ≤ 100 := by
  refine Int.not_lt.1 fun g => ?_
  have : (101 : Int) * 101 ≤ y * y := Int.mul_le_mul (by omega) (by omega) (by omega) (by omega)
  omega
theorem nyy {n y : Int} (hn : 1 ≤ n ∧ n ≤ 500) (hy : 0 ≤ y ∧ y ≤ 101) : wrap64 (wrap64 (n * y) * y) = n * y * y ∧ 0 ≤ n * y * y ∧ n * y * y ≤ 5200000 := by
  have h1 : 0 ≤ n * y := Int.mul_nonneg (by omega) hy.1
  have h2 : n * y ≤ 500 * 101 := Int.mul_le_mul hn.2 hy.2 hy.1 (by omega)
  have h3 : 0 ≤ n * y * y := Int.mul_nonneg h1 hy.1
  have h4 : n * y * y ≤ 50500 * 101 := Int.mul_le_mul (by omega) hy.2 hy.1 (by omega)
  rw [wrap_id (n := n * y) (by omega) (by omega), wrap_id (by omega) (by omega)]
  omega
/-- the first y with a square beside it -/
def crL (n p y : Int) : Option P2 := if _h : (1 ≤ n ∧ 0 ≤ y) ∧ n * y * y ≤ p then (if sqB (p - n * y * y) = true then some (rootI (p - n * y * y), y) else crL n p (y + 1)) else none
  termination_by (p + 1 - y).toNat
  decreasing_by
    have := y_le _h.1.1 _h.1.2 _h.2
    omega
/-- all pairs, by x -/
def ipD (n p y : Int) : List P2 := if _h : (1 ≤ n ∧ 0 ≤ y) ∧ n * y * y ≤ p then ipD n p (y + 1) ++ (if sqB (p - n * y * y) = true then [(rootI (p - n * y * y), y)] else []) else []
  termination_by (p + 1 - y).toNat
  decreasing_by
    have := y_le _h.1.1 _h.1.2 _h.2
    omega
theorem last_cr (n p y : Int) : (ipD n p y).getLast? = crL n p y := by
  fun_induction crL n p y with
  | case1 y h hs => rw [ipD.eq_def, dif_pos h, if_pos hs]; simp
  | case2 y h hs ih => rw [ipD.eq_def, dif_pos h, if_neg hs, List.append_nil]; exact ih
  | case3 y h => rw [ipD.eq_def, dif_neg h]; rfl
theorem sqB_root {n : Int} (h1 : n ≤ 9000000000000000000) (h : sqB n = true) : rootI n * rootI n = n ∧ 0 ≤ rootI n := by
  have h0 : 0 ≤ n := by
    unfold sqB at h
    simp only [Bool.and_eq_true, decide_eq_true_eq] at h
    exact h.1
  obtain ⟨r, hr⟩ := (sqB_iff h1).1 h
  obtain ⟨s1, s2, s3⟩ := rootI_spec h0 h1
  refine ⟨?_, s1⟩
  have h4 : ((r.natAbs : Int)) * (r.natAbs : Int) = r * r := Int.natAbs_mul_self' r
  have h6 : ((r.natAbs : Int) + 1) * ((r.natAbs : Int) + 1) = (r.natAbs : Int) * (r.natAbs : Int) + 2 * (r.natAbs : Int) + 1 := by grind
  have h5 : rootI n = r.natAbs := root_uniq (n := n) s1 (by omega) s2 s3 (by omega) (by omega)
  rw [h5, h4, hr]
theorem sq_lt2 {a b : Int} (ha : 0 ≤ a) (g : a < b) : a * a < b * b := by
  have h1 : (a + 1) * (a + 1) ≤ b * b := Int.mul_le_mul (by omega) (by omega) (by omega) (by omega)
  have h2 : (a + 1) * (a + 1) = a * a + 2 * a + 1 := by grind
  omega
theorem sq_inj {a b : Int} (ha : 0 ≤ a) (hb : 0 ≤ b) (h : a * a = b * b) : a = b := by
  refine Int.le_antisymm ?_ ?_
  · refine Int.not_lt.1 fun g => ?_
    have := sq_lt2 hb g
    omega
  · refine Int.not_lt.1 fun g => ?_
    have := sq_lt2 ha g
    omega
theorem root_of {x n : Int} (hx : 0 ≤ x) (h : x * x = n) (h1 : n ≤ 9000000000000000000) : sqB n = true ∧ rootI n = x := by
  have hs := (sqB_iff h1).2 ⟨x, h⟩
  obtain ⟨e, h0⟩ := sqB_root h1 hs
  refine ⟨hs, ?_⟩
  exact sq_inj h0 hx (by omega)
theorem crL_some {n p : Int} (hp : p ≤ 1000000) (y : Int) {x z : Int} (h : crL n p y = some (x, z)) : 0 ≤ x ∧ y ≤ z ∧ x * x + n * z * z = p ∧ ∀ w, y ≤ w → w < z → sqB (p - n * w * w) = false := by
  fun_induction crL n p y with
  | case1 y g hs =>
    simp only [Option.some.injEq, Prod.mk.injEq] at h
    obtain ⟨rfl, rfl⟩ := h
    have h1 : 0 ≤ n * y * y := Int.mul_nonneg (Int.mul_nonneg (by omega) g.1.2) g.1.2
    obtain ⟨e, h0⟩ := sqB_root (by omega) hs
    exact ⟨h0, Int.le_refl _, by omega, fun w h1 h2 => by omega⟩
  | case2 y g hs ih =>
    obtain ⟨h0, h1, h2, h3⟩ := ih h
    refine ⟨h0, by omega, h2, fun w h4 h5 => ?_⟩
    by_cases c : w = y
    · rw [c]; simpa using hs
    · exact h3 w (by omega) h5
  | case3 y g => cases h
theorem crL_none {n p : Int} (hn : 1 ≤ n) (hp : p ≤ 1000000) (y : Int) (h : crL n p y = none) {x z : Int} (hy : 0 ≤ y) (hz : y ≤ z) (he : x * x + n * z * z = p) : False := by
  have hxx := sq_nn x
  fun_induction crL n p y with
  | case1 y g hs => cases h
  | case2 y g hs ih =>
    by_cases c : z = y
    · subst c
      exact hs ((sqB_iff (by have : 0 ≤ n * z * z := Int.mul_nonneg (Int.mul_nonneg (by omega) g.1.2) g.1.2
                             omega)).2 ⟨x, by omega⟩)
    · exact ih h (by omega) (by omega)
  | case3 y g =>
    refine g ⟨⟨hn, hy⟩, ?_⟩
    have h1 : n * y ≤ n * z := Int.mul_le_mul_of_nonneg_left hz (by omega)
    have h2 : n * y * y ≤ n * z * z := Int.mul_le_mul h1 hz hy (Int.mul_nonneg (by omega) (by omega))
    omega
def cB (n p : Int) : Bool := facB n && shPrimeB p
def coR (n p : Int) : Option P2 := bif cB n p then crL n p 0 else none
def coX (n p : Int) : Int := ((coR n p).getD (0, 0)).1
def coY (n p : Int) : Int := ((coR n p).getD (0, 0)).2
def coB (n p : Int) : Bool := (coR n p).isSome
theorem co_no {n p : Int} (h : coR n p = none) : coX n p = 0 ∧ coY n p = 0 ∧ coB n p = false := by
  unfold coX coY coB
  rw [h]
  exact ⟨rfl, rfl, rfl⟩
theorem co_yes {n p x y : Int} (h : coR n p = some (x, y)) : coX n p = x ∧ coY n p = y ∧ coB n p = true := by
  unfold coX coY coB
  rw [h]
  exact ⟨rfl, rfl, rfl⟩
abbrev fCorn : Nat := 6
def cCorn : Ctr
  | [.i n, .i p] => some ⟨True, .tup [.i (coX n p), .i (coY n p), .b (coB n p)], []⟩
  | _ => none
theorem okCorn : CtrOk Try.prog fCorn cCorn := by
  have hsp : SpecOk Try.prog (specOf [(fIsFactor, cIsFactor), (fIsShPrime, cIsShPrime), (fIsSquare, cIsSquare), (fRoot, cRoot)]) := (SpecOk.cons okIsFactor (SpecOk.cons okIsShPrime (SpecOk.cons okIsSquare (SpecOk.cons okRoot SpecOk.nil))))
  refine ctr_of (fn := Try.f6) mixed tab_ok hsp Try.func6 (by kernel_rfl) (by kernel_rfl) fun args ce h => ?_
  clear hsp
  unfold cCorn at h
  split at h
  case h_2 => cases h
  rename_i n p
  simp only [Option.some.injEq] at h
  subst h
  refine ⟨by rfl, fun hp => ⟨1, 1000, ?_⟩⟩
  cases h1 : facB n with
  | false =>
    obtain ⟨e1, e2, e3⟩ := co_no (n := n) (p := p) (by unfold coR cB; rw [h1]; rfl)
    rw [e1, e2, e3]
    simp only [↓cond_to_ite, ↓reduceIte, vc, out, finD, St.drop, vwAt, toOf, St.res, step, stepE, stepPick, stepG, stepO, stepC, eff, look, rem, St.put, setMems, St.after, St.eval, cst, val1, okNew, Reg.item, Reg.next, Reg.skip, slotOf, effUn, effPick, subPre, argOf, resA, resV, nodupB, argsPre, argOk, callWr, effCall, callGo, effCall2, wrHs, disj, AV.hs, A0.hs, initFr, initMem, initSt, resOf, resAll, compEq, compsEq, rowHs, outHds, outsEq, shapeOk, finOk, comps, A0.norm, specOf, Option.getD_some, Nat.reduceBEq, List.map_cons, List.map_nil, List.getElem?_cons_zero, List.getElem?_cons_succ, Option.map_some, Option.bind_some, Nat.zero_add, Nat.reduceAdd, true_and, and_true, List.length_cons, List.length_nil, List.all_cons, List.all_nil, Bool.and_true, Bool.true_and, Bool.not_false, List.append_nil, List.flatMap_cons, List.flatMap_nil, List.contains_nil, beq_self_eq_true, and_self, List.toList_toArray, Bool.false_eq_true, reduceIte, Try.f6, cIsFactor, fIsFactor, h1]
    (repeat' refine And.intro ?_ ?_) <;> first | assumption | kernel_rfl | (simp; done)
  | true =>
    cases h2 : shPrimeB p with
    | false =>
      obtain ⟨e1, e2, e3⟩ := co_no (n := n) (p := p) (by unfold coR cB; rw [h1, h2]; rfl)
      rw [e1, e2, e3]
      simp only [↓cond_to_ite, ↓reduceIte, vc, out, finD, St.drop, vwAt, toOf, St.res, step, stepE, stepPick, stepG, stepO, stepC, eff, look, rem, St.put, setMems, St.after, St.eval, cst, val1, okNew, Reg.item, Reg.next, slotOf, effUn, effPick, subPre, argOf, resA, resV, nodupB, argsPre, argOk, callWr, effCall, callGo, effCall2, wrHs, disj, AV.hs, A0.hs, initFr, initMem, initSt, resOf, resAll, compEq, compsEq, rowHs, outHds, outsEq, shapeOk, finOk, comps, A0.norm, specOf, Option.getD_some, Nat.reduceBEq, List.map_cons, List.map_nil, List.getElem?_cons_zero, List.getElem?_cons_succ, Option.map_some, Option.bind_some, Nat.zero_add, Nat.reduceAdd, true_and, and_true, List.length_cons, List.length_nil, List.all_cons, List.all_nil, Bool.and_true, Bool.true_and, Bool.not_true, Bool.not_false, List.append_nil, List.flatMap_cons, List.flatMap_nil, List.contains_nil, beq_self_eq_true, and_self, List.toList_toArray, Bool.false_eq_true, reduceIte, Try.f6, cIsFactor, fIsFactor, cIsShPrime, fIsShPrime, h1, h2]
      (repeat' refine And.intro ?_ ?_) <;> first | assumption | kernel_rfl | (simp; done)
    | true =>
      have hR : coR n p = crL n p 0 := by unfold coR cB; rw [h1, h2]; rfl
      have hn := facB_in h1
      have hpb := shPrime_in h2
      simp only [↓cond_to_ite, ↓reduceIte, vc, out, toOf, St.res, step, stepE, stepPick, stepG, stepO, stepC, eff, look, rem, St.put, setMems, St.after, St.eval, cst, val1, okNew, Reg.item, Reg.next, slotOf, effUn, effPick, subPre, argOf, resA, resV, argsPre, argOk, callWr, effCall, callGo, effCall2, wrHs, disj, AV.hs, A0.hs, hA, initFr, initMem, initSt, specOf, Option.getD_some, Nat.reduceBEq, List.map_cons, List.map_nil, List.getElem?_cons_zero, List.getElem?_cons_succ, Option.bind_some, Nat.zero_add, true_and, List.all_cons, List.all_nil, Bool.and_true, Bool.not_true, Bool.not_false, List.append_nil, List.flatMap_cons, List.flatMap_nil, List.contains_nil, beq_self_eq_true, and_self, List.toList_toArray, Bool.false_eq_true, reduceIte, Try.f6, cIsFactor, fIsFactor, cIsShPrime, fIsShPrime, h1, h2]
      clear h1 h2
      refine lp_intro (fun y : Int => ⟨[(0, .one (.i n)), (1, .one (.i p)), (7, .one (.i y))], []⟩) (fun y => (0 ≤ y ∧ y ≤ 101) ∧ crL n p y = crL n p 0) (fun y => (102 - y).toNat) 0 [] ⟨by omega, rfl⟩ (by simp only [Cov, covOk, covFr, covMem, rn, nodupB, A0.ren, AV.ren, look, St.eval, A0.norm, AV.norm, Option.getD_some, Option.getD_none, cond_true, cond_false, Nat.reduceBEq, List.map_nil, List.all_nil, Bool.and_true, beq_self_eq_true, and_self]) fun y hx J hJ => ⟨1000, ?_⟩
      obtain ⟨hy, hc⟩ := hx
      obtain ⟨v1, v2, v3⟩ := nyy hn hy
      have w1 : wrap64 (p - n * y * y) = p - n * y * y := wrap_id (by omega) (by omega)
      have w2 : wrap64 (y + 1) = y + 1 := wrap_id (by omega) (by omega)
      by_cases g : n * y * y ≤ p
      · have g1 : decide (n * y * y ≤ p) = true := decide_eq_true g
        have hy2 := y_100 hy.1 (y_le hn.1 hy.1 g).2 hpb.2
        rw [crL.eq_def n p y, dif_pos ⟨⟨hn.1, hy.1⟩, g⟩] at hc
        cases hs : sqB (p - n * y * y) with
        | true =>
          rw [if_pos hs] at hc
          obtain ⟨e1, e2, e3⟩ := co_yes (hR.trans hc.symm)
          rw [e1, e2, e3]
          simp only [↓cond_to_ite, ↓reduceIte, vc, out, finD, St.drop, vwAt, toOf, St.res, step, stepE, stepPick, stepO, stepC, eff, look, rem, St.put, setMems, St.after, St.eval, cst, val1, okNew, Reg.item, Reg.next, binInt, effBin, subPre, argOf, resA, resV, nodupB, argsPre, argOk, callWr, effCall, callGo, effBin2, effCall2, wrHs, disj, AV.hs, A0.hs, resOf, resAll, compEq, compsEq, rowHs, outHds, outsEq, shapeOk, finOk, comps, A0.norm, specOf, Option.getD_some, Nat.reduceBEq, List.map_cons, List.map_nil, Option.map_some, Nat.zero_add, Nat.reduceAdd, true_and, and_true, List.length_cons, List.length_nil, List.all_cons, List.all_nil, Bool.and_true, Bool.true_and, Bool.not_false, List.append_nil, List.flatMap_cons, List.flatMap_nil, List.contains_nil, beq_self_eq_true, and_self, Bool.false_eq_true, reduceIte, cIsSquare, fIsSquare, cRoot, fRoot, v1, w1, g1, hs]
          (repeat' refine And.intro ?_ ?_) <;> first | assumption | kernel_rfl | (simp; done)
        | false =>
          rw [if_neg (by rw [hs]; simp)] at hc
          simp only [↓cond_to_ite, ↓reduceIte, vc, out, toOf, St.res, step, stepE, stepPick, stepO, stepC, eff, look, rem, St.put, setMems, St.after, St.eval, cst, val1, okNew, Reg.item, Reg.next, binInt, effBin, subPre, argOf, resA, resV, argsPre, argOk, callWr, effCall, callGo, effBin2, effCall2, wrHs, disj, AV.hs, A0.hs, specOf, Option.getD_some, Nat.reduceBEq, List.map_cons, List.map_nil, true_and, List.all_cons, List.all_nil, Bool.and_true, Bool.not_false, List.append_nil, List.flatMap_cons, List.flatMap_nil, List.contains_nil, beq_self_eq_true, and_self, Bool.false_eq_true, reduceIte, cIsSquare, fIsSquare, v1, w1, g1, hs]
          exact hJ _ (y + 1) [] ⟨by omega, hc⟩ (by omega) (by simp only [Cov, covOk, covFr, covMem, rn, nodupB, A0.ren, AV.ren, look, St.eval, A0.norm, AV.norm, Option.getD_some, Option.getD_none, cond_true, cond_false, Nat.reduceBEq, List.map_nil, List.all_nil, Bool.and_true, beq_self_eq_true, and_self, w2])
      · have g1 : decide (n * y * y ≤ p) = false := decide_eq_false g
        rw [crL.eq_def n p y, dif_neg (fun h => g h.2)] at hc
        obtain ⟨e1, e2, e3⟩ := co_no (hR.trans hc.symm)
        rw [e1, e2, e3]
        simp only [↓cond_to_ite, ↓reduceIte, vc, out, finD, St.drop, vwAt, toOf, St.res, step, stepE, stepPick, stepO, stepC, eff, look, rem, St.put, setMems, St.after, St.eval, cst, val1, okNew, Reg.item, Reg.next, binInt, effBin, nodupB, argOk, effBin2, disj, resOf, resAll, compEq, compsEq, rowHs, outHds, outsEq, shapeOk, finOk, comps, A0.norm, Option.getD_some, Nat.reduceBEq, Option.map_some, Nat.zero_add, Nat.reduceAdd, true_and, and_true, List.length_cons, List.length_nil, List.all_nil, Bool.and_true, Bool.true_and, Bool.not_false, List.contains_nil, beq_self_eq_true, and_self, Bool.false_eq_true, reduceIte, v1, g1]
        (repeat' refine And.intro ?_ ?_) <;> first | assumption | kernel_rfl | (simp; done)
/-! ### all pairs -/
theorem ipD_mem {n p : Int} (hp : p ≤ 1000000) (y : Int) {q : P2} (h : q ∈ ipD n p y) : 0 ≤ q.1 ∧ y ≤ q.2 ∧ q.1 * q.1 + n * q.2 * q.2 = p := by
  fun_induction ipD n p y with
  | case1 y g ih =>
    rw [List.mem_append] at h
    rcases h with h | h
    · obtain ⟨h1, h2, h3⟩ := ih h
      exact ⟨h1, by omega, h3⟩
    · split at h
      · rename_i hs
        rw [List.mem_singleton] at h
        subst h
        have h1 : 0 ≤ n * y * y := Int.mul_nonneg (Int.mul_nonneg (by omega) g.1.2) g.1.2
        obtain ⟨e, h0⟩ := sqB_root (by omega) hs
        exact ⟨h0, Int.le_refl _, by show rootI _ * rootI _ + n * y * y = p; omega⟩
      · cases h
  | case2 y g => cases h
theorem ipD_has {n p : Int} (hn : 1 ≤ n) (hp : p ≤ 1000000) (y : Int) {x z : Int} (hx : 0 ≤ x) (hy : 0 ≤ y) (hz : y ≤ z) (he : x * x + n * z * z = p) : (x, z) ∈ ipD n p y := by
  have hxx := sq_nn x
  fun_induction ipD n p y with
  | case1 y g ih =>
    rw [List.mem_append]
    by_cases c : z = y
    · subst c
      right
      have h1 : 0 ≤ n * z * z := Int.mul_nonneg (Int.mul_nonneg (by omega) g.1.2) g.1.2
      obtain ⟨hs, hr⟩ := root_of (x := x) (n := p - n * z * z) hx (by omega) (by omega)
      rw [if_pos hs, hr]
      exact List.mem_singleton.2 rfl
    · exact Or.inl (ih (by omega) (by omega))
  | case2 y g =>
    refine absurd ⟨⟨hn, hy⟩, ?_⟩ g
    have h1 : n * y ≤ n * z := Int.mul_le_mul_of_nonneg_left hz (by omega)
    have h2 : n * y * y ≤ n * z * z := Int.mul_le_mul h1 hz hy (Int.mul_nonneg (by omega) (by omega))
    omega
theorem x_lt {n p x y u v : Int} (hn : 1 ≤ n) (h1 : x * x + n * y * y = p) (h2 : u * u + n * v * v = p) (hy : 0 ≤ y) (hv : y < v) (hx : 0 ≤ x) : u < x := by
  have h3 : n * y ≤ n * v := Int.mul_le_mul_of_nonneg_left (by omega) (by omega)
  have h4 : n * y * y < n * v * v := by
    have h5 : n * y * y ≤ n * v * y := Int.mul_le_mul_of_nonneg_right h3 hy
    have h6 : n * v * y < n * v * v := Int.mul_lt_mul_of_pos_left hv (Int.mul_pos (by omega) (by omega))
    omega
  refine Int.not_le.1 fun g => ?_
  have := Int.mul_le_mul g g hx (by omega)
  omega
theorem ipD_sorted {n p : Int} (hn : 1 ≤ n) (hp : p ≤ 1000000) (y : Int) : SortedP (ipD n p y) := by
  fun_induction ipD n p y with
  | case1 y g ih =>
    unfold SortedP
    rw [List.pairwise_append]
    refine ⟨ih, by split <;> simp, fun a ha b hb => ?_⟩
    obtain ⟨a1, a2, a3⟩ := ipD_mem hp _ ha
    split at hb
    · rename_i hs
      rw [List.mem_singleton] at hb
      subst hb
      have h1 : 0 ≤ n * y * y := Int.mul_nonneg (Int.mul_nonneg (by omega) g.1.2) g.1.2
      obtain ⟨e, h0⟩ := sqB_root (n := p - n * y * y) (by omega) hs
      rw [ltP_iff]
      left
      exact x_lt hn (show rootI (p - n * y * y) * rootI (p - n * y * y) + n * y * y = p by omega) a3 g.1.2 (by omega) h0
    · cases hb
  | case2 y g => exact List.Pairwise.nil
theorem put_front {l : List P2} {p : P2} (h : ∀ q ∈ l, p.1 < q.1) : putP l p = p :: l := by
  cases l with
  | nil => rfl
  | cons a l =>
    have := h a (List.mem_cons_self ..)
    have e : ltP a p = false := by rw [← Bool.not_eq_true, ltP_iff]; omega
    unfold putP
    rw [List.takeWhile_cons, List.dropWhile_cons, e]; rfl
theorem ipD_len (n p y : Int) : ((ipD n p y).length : Int) ≤ max 0 (p + 1 - y) := by
  fun_induction ipD n p y with
  | case1 y g ih =>
    have := y_le g.1.1 g.1.2 g.2
    rw [List.length_append]
    split
    · rw [List.length_singleton]; omega
    · rw [List.length_nil]; omega
  | case2 y g => simp; omega
abbrev fIpPairs : Nat := 30
def cIpPairs : Ctr
  | [.i n, .i m] => some ⟨(1 ≤ n ∧ n ≤ 500) ∧ 1 ≤ m ∧ m ≤ 10000, .one (.rw (.recs 51 2 (fp (ipD n m 0)))), []⟩
  | _ => none
theorem okIpPairs : CtrOk Try.prog fIpPairs cIpPairs := by
  have hsp : SpecOk Try.prog (specOf [(fNuSquare, cNuSquare), (fNuRoot, cNuRoot), (fVaPut, cVaPut)]) := (SpecOk.cons okNuSquare (SpecOk.cons okNuRoot (SpecOk.cons okVaPut SpecOk.nil)))
  refine ctr_of (fn := Try.f30) mixed tab_ok hsp Try.func30 (by kernel_rfl) (by kernel_rfl) fun args ce h => ?_
  clear hsp
  unfold cIpPairs at h
  split at h
  case h_2 => cases h
  rename_i n m
  simp only [Option.some.injEq] at h
  subst h
  refine ⟨by rfl, fun hp => ⟨1, 1000, ?_⟩⟩
  obtain ⟨hn, hm0, hm⟩ : (1 ≤ n ∧ n ≤ 500) ∧ 1 ≤ m ∧ m ≤ 10000 := hp
  have hlen := ipD_len n m 0
  simp only [↓cond_to_ite, ↓reduceIte, vc, out, toOf, St.res, step, stepE, stepPick, stepO, eff, rem, St.put, setMems, St.after, St.eval, cst, val1, okNew, Reg.item, Reg.next, hA, initFr, initMem, initSt, Option.getD_some, Nat.reduceBEq, List.map_nil, Nat.zero_add, true_and, List.toList_toArray, Bool.false_eq_true, reduceIte, Try.f30]
  refine lp_seed [(5, 2000000, .recs 51 2 [])] (fun x : List P2 × Int => ⟨[(0, .one (.i n)), (1, .one (.i m)), (5, .one (.row 2000000)), (6, .one (.i x.2))], [(2000000, .row (.recs 51 2 (fp x.1)))]⟩)
    (fun x => (0 ≤ x.2 ∧ x.2 ≤ 101) ∧ ipD n m x.2 ++ x.1 = ipD n m 0 ∧ ∀ q ∈ x.1, q.1 * q.1 + n * q.2 * q.2 = m ∧ 0 ≤ q.1 ∧ 0 ≤ q.2 ∧ q.2 < x.2) (fun x => (102 - x.2).toNat) ([], 0) [] (by kernel_rfl) ⟨by simp only; omega, List.append_nil _, fun q hq => by cases hq⟩ (by simp only [Cov, covOk, covFr, covMem, entEq, rn, nodupB, A0.ren, AV.ren, Entry.ren, Entry.norm, look, rem, St.eval, A0.norm, AV.norm, RC.flat, Option.getD_some, Option.getD_none, cond_true, cond_false, Nat.reduceBEq, List.map_cons, List.map_nil, true_and, and_true, List.all_nil, Bool.and_true, Bool.not_false, List.contains_nil, beq_self_eq_true, and_self, seeds, seed1]; simp [fp_nil]) fun x hx J hJ => ⟨1000, ?_⟩
  obtain ⟨acc, y⟩ := x
  obtain ⟨hy, hacc, hq⟩ : (0 ≤ y ∧ y ≤ 101) ∧ ipD n m y ++ acc = ipD n m 0 ∧ ∀ q ∈ acc, q.1 * q.1 + n * q.2 * q.2 = m ∧ 0 ≤ q.1 ∧ 0 ≤ q.2 ∧ q.2 < y := hx
  have hl : acc.length ≤ 20000 := by
    have := congrArg List.length hacc
    rw [List.length_append] at this
    omega
  obtain ⟨v1, v2, v3⟩ := nyy hn hy
  have w1 : wrap64 (m - n * y * y) = m - n * y * y := wrap_id (by omega) (by omega)
  have w2 : wrap64 (y + 1) = y + 1 := wrap_id (by omega) (by omega)
  by_cases g : n * y * y ≤ m
  · have g1 : decide (n * y * y ≤ m) = true := decide_eq_true g
    have hy2 := y_100 hy.1 (y_le hn.1 hy.1 g).2 hm
    rw [ipD.eq_def n m y, dif_pos ⟨⟨hn.1, hy.1⟩, g⟩] at hacc
    have hb : 0 ≤ m - n * y * y ∧ m - n * y * y ≤ 1000000000000000000 := by omega
    cases hs : sqB (m - n * y * y) with
    | true =>
      rw [if_pos hs, List.append_assoc] at hacc
      obtain ⟨e, h0⟩ := sqB_root (n := m - n * y * y) (by omega) hs
      have hpf : putP acc (rootI (m - n * y * y), y) = (rootI (m - n * y * y), y) :: acc := put_front fun q h => by
        obtain ⟨q1, q2, q3, q4⟩ := hq q h
        exact x_lt hn.1 q1 (show rootI (m - n * y * y) * rootI (m - n * y * y) + n * y * y = m by omega) q3 q4 q2
      have hq2 : ∀ q ∈ (rootI (m - n * y * y), y) :: acc, q.1 * q.1 + n * q.2 * q.2 = m ∧ 0 ≤ q.1 ∧ 0 ≤ q.2 ∧ q.2 < y + 1 := fun q h => by
        rcases List.mem_cons.1 h with rfl | h
        · exact ⟨by show rootI _ * rootI _ + n * y * y = m; omega, h0, hy.1, by show y < y + 1; omega⟩
        · obtain ⟨q1, q2, q3, q4⟩ := hq q h
          exact ⟨q1, q2, q3, by omega⟩
      obtain ⟨X, hX⟩ : ∃ X, rootI (m - n * y * y) = X := ⟨_, rfl⟩
      rw [hX] at hacc hpf hq2
      simp only [↓cond_to_ite, ↓reduceIte, vc, out, Entry.toO, toOf, St.res, step, stepE, stepPick, stepO, stepC, eff, look, rem, St.put, St.setMem, setMems, St.after, St.eval, cst, val1, okNew, newHs, allHs, rdOf, Reg.item, Reg.next, entryRow, buildOf, effBuild, binInt, effBin, subPre, argOf, resA, resV, argsPre, argOk, callWr, effCall, RC.flat, effBuild2, callGo, effBuild3, calleeHs, effBin2, effBuild4, effCall2, wrHs, disj, AV.hs, A0.hs, Entry.hs, specOf, t_implPoint, Option.getD_some, Nat.reduceBEq, List.map_cons, List.map_nil, List.set_cons_zero, List.set_cons_succ, List.getElem?_cons_zero, List.getElem?_cons_succ, Nat.zero_add, Nat.reduceAdd, true_and, and_true, List.replicate_succ, List.replicate_zero, List.length_cons, List.length_nil, List.all_cons, List.all_nil, Bool.and_true, Bool.or_false, Bool.not_false, List.append_nil, List.nil_append, List.cons_append, List.flatMap_cons, List.flatMap_nil, List.contains_cons, List.contains_nil, List.filter_cons, List.filter_nil, beq_self_eq_true, blt_dec, Nat.reduceLeDiff, decide_true, and_self, Bool.false_eq_true, reduceIte, cNuSquare, fNuSquare, cNuRoot, fNuRoot, cVaPut, fVaPut, v1, w1, g1, hs, fp_length, unfp_fp, hX, hpf]
      exact ⟨hb.2, hb, ⟨by omega, wf2_fp _⟩, hJ _ ((X, y) :: acc, y + 1) [(2000000, 35)] ⟨by simp only; omega, hacc, hq2⟩ (by simp only; omega) (by simp only [Cov, covOk, covFr, covMem, entEq, rn, nodupB, A0.ren, AV.ren, Entry.ren, Entry.norm, look, St.eval, A0.norm, AV.norm, Option.getD_some, cond_true, cond_false, Nat.reduceBEq, List.map_cons, List.map_nil, List.all_nil, Bool.and_true, Bool.not_false, List.contains_nil, beq_self_eq_true, and_self, w2])⟩
    | false =>
      rw [if_neg (by rw [hs]; simp), List.append_nil] at hacc
      simp only [↓cond_to_ite, ↓reduceIte, vc, out, Entry.toO, toOf, St.res, step, stepE, stepPick, stepO, stepC, eff, look, rem, St.put, setMems, St.after, St.eval, cst, val1, okNew, Reg.item, Reg.next, binInt, effBin, subPre, argOf, resA, resV, argsPre, argOk, callWr, effCall, callGo, effBin2, effCall2, wrHs, disj, AV.hs, A0.hs, specOf, Option.getD_some, Nat.reduceBEq, List.map_cons, List.map_nil, true_and, and_true, List.all_cons, List.all_nil, Bool.and_true, Bool.not_false, List.append_nil, List.flatMap_cons, List.flatMap_nil, List.contains_nil, beq_self_eq_true, and_self, Bool.false_eq_true, reduceIte, cNuSquare, fNuSquare, v1, w1, g1, hs]
      exact ⟨hb.2, hJ _ (acc, y + 1) [] ⟨by simp only; omega, hacc, fun q h => by obtain ⟨q1, q2, q3, q4⟩ := hq q h; exact ⟨q1, q2, q3, by show q.2 < y + 1; omega⟩⟩ (by simp only; omega) (by simp only [Cov, covOk, covFr, covMem, entEq, rn, nodupB, A0.ren, AV.ren, Entry.ren, Entry.norm, look, St.eval, A0.norm, AV.norm, Option.getD_some, Option.getD_none, cond_true, cond_false, Nat.reduceBEq, List.map_cons, List.map_nil, List.all_nil, Bool.and_true, Bool.not_false, List.contains_nil, beq_self_eq_true, and_self, w2])⟩
  · have g1 : decide (n * y * y ≤ m) = false := decide_eq_false g
    rw [ipD.eq_def n m y, dif_neg (fun h => g h.2), List.nil_append] at hacc
    simp only [↓cond_to_ite, ↓reduceIte, vc, out, finD, St.drop, vwAt, Entry.vwO, RC.vwO, Entry.toO, toOf, St.res, step, stepE, stepPick, stepO, stepC, eff, look, rem, St.put, setMems, St.after, St.eval, val1, okNew, Reg.item, Reg.next, binInt, effBin, nodupB, RC.flat, effBin2, disj, resOf, resAll, compEq, compsEq, rowHs, outHds, outsEq, shapeOk, finOk, comps, Option.getD_some, Nat.reduceBEq, Option.map_some, Nat.zero_add, true_and, and_true, List.length_cons, List.length_nil, List.all_cons, List.all_nil, Bool.and_true, Bool.not_false, List.contains_nil, beq_self_eq_true, RC.recs.injEq, Bool.false_eq_true, reduceIte, v1, g1]
    rw [hacc]
abbrev fSCorn : Nat := 7
def cSCorn : Ctr
  | [.i n, .i p] => some ⟨True, .tup [.i (coX n p), .i (coY n p), .b (coB n p)], []⟩
  | _ => none
theorem okSCorn : CtrOk Try.prog fSCorn cSCorn := by
  have hsp : SpecOk Try.prog (specOf [(fIn, cIn), (fIpPrime, cIpPrime), (fIpPairs, cIpPairs)]) := (SpecOk.cons okIn (SpecOk.cons okIpPrime (SpecOk.cons okIpPairs SpecOk.nil)))
  refine ctr_of (fn := Try.f7) mixed tab_ok hsp Try.func7 (by kernel_rfl) (by kernel_rfl) fun args ce h => ?_
  clear hsp
  unfold cSCorn at h
  split at h
  case h_2 => cases h
  rename_i n p
  simp only [Option.some.injEq] at h
  subst h
  refine ⟨by rfl, fun hp => ⟨0, 1000, ?_⟩⟩
  cases h1 : facB n with
  | false =>
    have h1' : inI n 1 500 = false := h1
    obtain ⟨e1, e2, e3⟩ := co_no (n := n) (p := p) (by unfold coR cB; rw [h1]; rfl)
    rw [e1, e2, e3]
    simp only [↓cond_to_ite, ↓reduceIte, vc, out, finD, St.drop, vwAt, toOf, St.res, step, stepE, stepPick, stepG, stepO, stepC, eff, look, rem, St.put, setMems, St.after, St.eval, cst, val1, okNew, Reg.item, Reg.next, Reg.skip, slotOf, effUn, effPick, subPre, argOf, resA, resV, nodupB, argsPre, argOk, callWr, effCall, callGo, effCall2, wrHs, disj, AV.hs, A0.hs, initFr, initMem, initSt, resOf, resAll, compEq, compsEq, rowHs, outHds, outsEq, shapeOk, finOk, comps, A0.norm, specOf, Option.getD_some, Nat.reduceBEq, List.map_cons, List.map_nil, List.getElem?_cons_zero, List.getElem?_cons_succ, Option.map_some, Option.bind_some, Nat.zero_add, Nat.reduceAdd, true_and, and_true, List.length_cons, List.length_nil, List.all_cons, List.all_nil, Bool.and_true, Bool.true_and, Bool.not_false, List.append_nil, List.flatMap_cons, List.flatMap_nil, List.contains_nil, beq_self_eq_true, and_self, List.toList_toArray, Bool.false_eq_true, reduceIte, Try.f7, cIn, fIn, h1']
    (repeat' refine And.intro ?_ ?_) <;> first | assumption | kernel_rfl | (simp; done)
  | true =>
    have h1' : inI n 1 500 = true := h1
    cases h2 : shPrimeB p with
    | false =>
      obtain ⟨e1, e2, e3⟩ := co_no (n := n) (p := p) (by unfold coR cB; rw [h1, h2]; rfl)
      rw [e1, e2, e3]
      simp only [↓cond_to_ite, ↓reduceIte, vc, out, finD, St.drop, vwAt, toOf, St.res, step, stepE, stepPick, stepG, stepO, stepC, eff, look, rem, St.put, setMems, St.after, St.eval, cst, val1, okNew, Reg.item, Reg.next, slotOf, effUn, effPick, subPre, argOf, resA, resV, nodupB, argsPre, argOk, callWr, effCall, callGo, effCall2, wrHs, disj, AV.hs, A0.hs, initFr, initMem, initSt, resOf, resAll, compEq, compsEq, rowHs, outHds, outsEq, shapeOk, finOk, comps, A0.norm, specOf, Option.getD_some, Nat.reduceBEq, List.map_cons, List.map_nil, List.getElem?_cons_zero, List.getElem?_cons_succ, Option.map_some, Option.bind_some, Nat.zero_add, Nat.reduceAdd, true_and, and_true, List.length_cons, List.length_nil, List.all_cons, List.all_nil, Bool.and_true, Bool.true_and, Bool.not_true, Bool.not_false, List.append_nil, List.flatMap_cons, List.flatMap_nil, List.contains_nil, beq_self_eq_true, and_self, List.toList_toArray, Bool.false_eq_true, reduceIte, Try.f7, cIn, fIn, cIpPrime, fIpPrime, h1', h2]
      (repeat' refine And.intro ?_ ?_) <;> first | assumption | kernel_rfl | (simp; done)
    | true =>
      have hR : coR n p = (ipD n p 0).getLast? := by rw [last_cr]; unfold coR cB; rw [h1, h2]; rfl
      have hn := facB_in h1
      have hpb := shPrime_in h2
      have hlen := ipD_len n p 0
      have hpre : 1 ≤ p := by omega
      obtain ⟨L, hL⟩ : ∃ L, ipD n p 0 = L := ⟨_, rfl⟩
      rw [hL] at hR hlen
      rcases L with _ | ⟨q0, L0⟩
      · obtain ⟨e1, e2, e3⟩ := co_no hR
        rw [e1, e2, e3]
        simp only [↓cond_to_ite, ↓reduceIte, vc, out, finD, St.drop, vwAt, Entry.vwO, RC.vwO, Entry.toO, toOf, St.res, step, stepE, stepPick, stepG, stepO, stepC, eff, look, rem, St.put, St.setMem, setMems, St.after, St.eval, cst, val1, okNew, newHs, allHs, rdOf, outHs, Reg.item, Reg.next, slotOf, entryRow, fieldOff, effField, loadR, effLoad, binInt, effBin, effUn, effPick, elemSz, idxS, effIndex, lenOf, subPre, argOf, resA, resV, nodupB, argsPre, argOk, callWr, effCall, RC.flat, callGo, effLoad2, effField2, inHs, calleeHs, effField3, effLoad3, lenOf2, effIndex2, effBin2, effCall2, wrHs, disj, AV.hs, A0.hs, Entry.hs, RC.sz, RC.len, hA, initFr, initMem, initSt, resOf, resAll, compEq, compsEq, rowHs, outHds, outsEq, shapeOk, finOk, comps, A0.norm, specOf, t_int, t_implPoint, ts_implPoint, Option.getD_some, Nat.reduceBEq, List.map_cons, List.map_nil, List.getElem?_cons_zero, List.getElem?_cons_succ, Option.map_some, Option.bind_some, Nat.zero_add, Nat.add_zero, Nat.reduceAdd, true_and, and_true, List.replicate_succ, List.replicate_zero, List.length_cons, List.length_nil, List.all_cons, List.all_nil, Bool.and_true, Bool.true_and, Bool.not_true, Bool.not_false, List.append_nil, List.nil_append, List.cons_append, List.flatMap_cons, List.flatMap_nil, List.contains_nil, List.filter_cons, List.filter_nil, beq_self_eq_true, A0.b.injEq, A0.i.injEq, blt_dec, Nat.reduceLeDiff, decide_true, and_self, List.toList_toArray, Option.isSome_some, Bool.false_eq_true, reduceIte, Try.f7, cIn, fIn, cIpPrime, fIpPrime, cIpPairs, fIpPairs, h1', h2, hL, fp_length]
        refine ⟨⟨hn, hpre, hpb.2⟩, ?_⟩
        (repeat' refine And.intro ?_ ?_) <;> first | assumption | kernel_rfl | (simp; done)
      · obtain ⟨L, hL2⟩ : ∃ L, q0 :: L0 = L := ⟨_, rfl⟩
        have hpos : 0 < L.length := by rw [← hL2]; simp
        rw [hL2] at hR hlen hL
        have hq : L.getLast? = some (L.getD (L.length - 1) (0, 0)) := by
          rw [List.getLast?_eq_getElem?, List.getD_eq_getElem?_getD, List.getElem?_eq_getElem (by omega)]; rfl
        rw [hq] at hR
        obtain ⟨e1, e2, e3⟩ := co_yes (x := (L.getD (L.length - 1) (0, 0)).1) (y := (L.getD (L.length - 1) (0, 0)).2) hR
        rw [e1, e2, e3]
        have z0 : ((L.length : Int) == 0) = false := beq_eq_false_iff_ne.2 (by omega)
        have z1 : wrap64 ((L.length : Int) - 1) = (L.length : Int) - 1 := wrap_id (by omega) (by omega)
        have z2 : ((L.length : Int) - 1).toNat = L.length - 1 := by omega
        have z3 : nth2 (fp L) (L.length - 1) = L.getD (L.length - 1) (0, 0) := by rw [nth2_eq, unfp_fp]
        simp only [↓cond_to_ite, ↓reduceIte, vc, out, finD, St.drop, vwAt, Entry.vwO, RC.vwO, Entry.toO, toOf, St.res, step, stepE, stepPick, stepG, stepO, stepC, eff, look, rem, St.put, St.setMem, setMems, St.after, St.eval, cst, val1, okNew, newHs, allHs, rdOf, outHs, Reg.item, Reg.next, slotOf, entryRow, fieldOff, effField, loadR, effLoad, binInt, effBin, effUn, effPick, elemSz, idxS, effIndex, lenOf, subPre, argOf, resA, resV, nodupB, argsPre, argOk, callWr, effCall, RC.flat, callGo, effLoad2, effField2, inHs, calleeHs, effField3, effLoad3, lenOf2, effIndex2, effBin2, effCall2, wrHs, disj, AV.hs, A0.hs, Entry.hs, RC.sz, RC.len, hA, initFr, initMem, initSt, resOf, resAll, compEq, compsEq, rowHs, outHds, outsEq, shapeOk, finOk, comps, A0.norm, specOf, t_int, t_implPoint, ts_implPoint, Option.getD_some, Nat.reduceBEq, List.map_cons, List.map_nil, List.getElem?_cons_zero, List.getElem?_cons_succ, Option.map_some, Option.bind_some, Nat.zero_add, Nat.add_zero, Nat.reduceAdd, true_and, and_true, List.replicate_succ, List.replicate_zero, List.length_cons, List.length_nil, List.all_cons, List.all_nil, Bool.and_true, Bool.true_and, Bool.not_true, Bool.not_false, List.append_nil, List.nil_append, List.cons_append, List.flatMap_cons, List.flatMap_nil, List.contains_nil, List.filter_cons, List.filter_nil, beq_self_eq_true, blt_dec, Nat.reduceLeDiff, decide_true, and_self, List.toList_toArray, Option.isSome_some, Bool.false_eq_true, reduceIte, Try.f7, cIn, fIn, cIpPrime, fIpPrime, cIpPairs, fIpPairs, h1', h2, hL, fp_length, z0, z1, z2, fld2_0, fld2_1, z3]
        refine ⟨⟨hn, hpre, hpb.2⟩, ⟨by omega, by omega⟩, by omega, by omega, ⟨by omega, by omega⟩, by omega, by omega, ?_⟩
        (repeat' refine And.intro ?_ ?_) <;> first | assumption | kernel_rfl | (simp; done)
end Go.Proofs.Ytacomnelongbjab
