/-
  Contracts of PairSeries on both sides, and of its law. Conditions: none.
-/
import Derived.Test.YtbjaekddgkdhcaaCs
namespace Go.Proofs.Ytbjaekddgkdhcaa
open Go Go.RowKit
set_option maxRecDepth 100000
set_option linter.unusedSimpArgs false
set_option linter.unusedVariables false
set_option maxHeartbeats 4000000

/-! ### how many points a box holds -/
def mx (x : Int) : Nat := if x = 0 then 1 else 2
theorem pts4_len (x y : Int) : (pts4 x y).length = mx x * mx y := by
  unfold pts4 mx
  by_cases hx : x = 0 <;> by_cases hy : y = 0 <;> simp [hx, hy]
theorem y_14 {C y : Int} (h : 0 < C ∧ 0 ≤ y ∧ C * y * y ≤ 200) : y ≤ 14 := by
  obtain ⟨h1, h2, h3⟩ := h
  by_cases hc : y ≤ 14
  · exact hc
  · exfalso
    have k1 : 1 * y ≤ C * y := Int.mul_le_mul_of_nonneg_right (by omega) h2
    have k2 : 15 * 15 ≤ C * y * y := Int.mul_le_mul (by omega) (by omega) (by omega) (by omega)
    omega
theorem colL_cnt {C N x y : Int} (hN : N ≤ 200) : (colL C N x y).length ≤ mx x * (2 * (15 - y).toNat - (if y = 0 then 1 else 0)) := by
  fun_induction colL C N x y with
  | case1 y h ih =>
    have hy : y ≤ 14 := y_14 (C := C) ⟨h.1, h.2.1, by omega⟩
    rw [List.length_append, pts4_len]
    have h0 := h.2.1
    have e : ¬ (y + 1 = 0) := by omega
    rw [if_neg e, Nat.sub_zero] at ih
    have k : (15 - y).toNat = (15 - (y + 1)).toNat + 1 := by omega
    rw [k]
    generalize (15 - (y + 1)).toNat = z at *
    unfold mx at *
    by_cases hx : x = 0 <;> by_cases hy0 : y = 0 <;> simp only [hx, hy0, if_true, if_false] at ih ⊢ <;> omega
  | case2 y h => simp
theorem boxL_cnt {A C N x : Int} (hN : N ≤ 200) : (boxL A C N x).length ≤ 29 * (2 * (15 - x).toNat - (if x = 0 then 1 else 0)) := by
  fun_induction boxL A C N x with
  | case1 x h ih =>
    have hx : x ≤ 14 := y_14 (C := A) ⟨h.1, h.2.1, by omega⟩
    have h1 := colL_cnt (C := C) (N := N) (x := x) (y := 0) hN
    rw [List.length_append]
    have h0 := h.2.1
    have e : ¬ (x + 1 = 0) := by omega
    rw [if_neg e, Nat.sub_zero] at ih
    have k : (15 - x).toNat = (15 - (x + 1)).toNat + 1 := by omega
    rw [k]
    have e15 : (15 - (0 : Int)).toNat = 15 := rfl
    rw [e15, if_pos rfl] at h1
    generalize (15 - (x + 1)).toNat = z at *
    unfold mx at *
    by_cases hx0 : x = 0
    · simp only [if_pos hx0] at h1 ⊢
      omega
    · simp only [if_neg hx0] at h1 ⊢
      omega
  | case2 x h => simp
/-- the sum of a row -/
def sumL (l : List Int) : Int := l.foldr (· + ·) 0
theorem sumL_le {l : List Int} (h : ∀ x ∈ l, 0 ≤ x) : 0 ≤ sumL l ∧ ∀ i : Nat, l.getD i 0 ≤ sumL l ∧ 0 ≤ l.getD i 0 := by
  induction l with
  | nil => exact ⟨by simp [sumL], fun i => by simp [sumL]⟩
  | cons a l ih =>
    obtain ⟨h1, h2⟩ := ih fun x hx => h x (by simp [hx])
    have h3 := h a (by simp)
    have e : sumL (a :: l) = a + sumL l := rfl
    rw [e]
    refine ⟨by omega, fun i => ?_⟩
    cases i with
    | zero => simp only [List.getD_cons_zero]; omega
    | succ i =>
      have := h2 i
      simp only [List.getD_cons_succ]; omega
theorem filter_sum {f : F3} (S : List P2) : ∀ N : Nat, sumL ((List.range N).map fun m : Nat => (((S.filter fun p => vl f p.1 p.2 == (m : Int)).length : Nat) : Int)) ≤ S.length := by
  induction S with
  | nil =>
    intro N
    have : ∀ l : List Nat, sumL (l.map fun m : Nat => ((([].filter fun p : P2 => vl f p.1 p.2 == (m : Int)).length : Nat) : Int)) = 0 := by
      intro l
      induction l with
      | nil => rfl
      | cons a l ih =>
        have e : sumL ((a :: l).map fun m : Nat => ((([].filter fun p : P2 => vl f p.1 p.2 == (m : Int)).length : Nat) : Int)) = 0 + sumL (l.map fun m : Nat => ((([].filter fun p : P2 => vl f p.1 p.2 == (m : Int)).length : Nat) : Int)) := rfl
        rw [e, ih]; rfl
    rw [this]; simp
  | cons p S ih =>
    intro N
    have step : ∀ l : List Nat, l.Nodup → sumL (l.map fun m : Nat => ((((p :: S).filter fun p => vl f p.1 p.2 == (m : Int)).length : Nat) : Int)) ≤ sumL (l.map fun m : Nat => (((S.filter fun p => vl f p.1 p.2 == (m : Int)).length : Nat) : Int)) + (if ∃ m ∈ l, vl f p.1 p.2 = (m : Int) then 1 else 0) := by
      intro l
      induction l with
      | nil => intro _; simp [sumL]
      | cons a l ih2 =>
        intro hn
        rw [List.nodup_cons] at hn
        have h2 := ih2 hn.2
        have e1 : sumL ((a :: l).map fun m : Nat => ((((p :: S).filter fun p => vl f p.1 p.2 == (m : Int)).length : Nat) : Int)) = ((((p :: S).filter fun p => vl f p.1 p.2 == (a : Int)).length : Nat) : Int) + sumL (l.map fun m : Nat => ((((p :: S).filter fun p => vl f p.1 p.2 == (m : Int)).length : Nat) : Int)) := rfl
        have e2 : sumL ((a :: l).map fun m : Nat => (((S.filter fun p => vl f p.1 p.2 == (m : Int)).length : Nat) : Int)) = (((S.filter fun p => vl f p.1 p.2 == (a : Int)).length : Nat) : Int) + sumL (l.map fun m : Nat => (((S.filter fun p => vl f p.1 p.2 == (m : Int)).length : Nat) : Int)) := rfl
        rw [e1, e2]
        by_cases hv : vl f p.1 p.2 = (a : Int)
        · have hno : ¬ ∃ m ∈ l, vl f p.1 p.2 = (m : Int) := by
            rintro ⟨m, hm, he⟩
            have : m = a := by omega
            exact hn.1 (this ▸ hm)
          rw [if_neg hno] at h2
          rw [if_pos ⟨a, by simp, hv⟩]
          have : ((p :: S).filter fun p => vl f p.1 p.2 == (a : Int)).length = (S.filter fun p => vl f p.1 p.2 == (a : Int)).length + 1 := by
            rw [List.filter_cons, if_pos (by simpa using hv), List.length_cons]
          omega
        · have : ((p :: S).filter fun p => vl f p.1 p.2 == (a : Int)).length = (S.filter fun p => vl f p.1 p.2 == (a : Int)).length := by
            rw [List.filter_cons, if_neg (by simpa using hv)]
          have h3 : (if ∃ m ∈ l, vl f p.1 p.2 = (m : Int) then (1 : Int) else 0) ≤ (if ∃ m ∈ a :: l, vl f p.1 p.2 = (m : Int) then 1 else 0) := by
            split
            · rename_i h
              obtain ⟨m, hm, he⟩ := h
              rw [if_pos ⟨m, by simp [hm], he⟩]; omega
            · split <;> omega
          omega
    have h1 := step (List.range N) List.nodup_range
    have h2 := ih N
    rw [List.length_cons]
    have h3 : (if ∃ m ∈ List.range N, vl f p.1 p.2 = (m : Int) then (1 : Int) else 0) ≤ 1 := by split <;> omega
    omega
/-! ### the product of two rows -/
def prS (l m : List Int) (k : Nat) : Nat → Int
  | 0 => 0
  | j + 1 => prS l m k j + l.getD j 0 * m.getD (k - j) 0
def prK (l m : List Int) (N k j : Nat) : List Int := (List.range N).map fun t => if t < k then prS l m t (t + 1) else if t = k then prS l m t j else 0
def prdL (l m : List Int) (N : Nat) : List Int := (List.range N).map fun t => prS l m t (t + 1)
theorem prK_len (l m : List Int) (N k j : Nat) : (prK l m N k j).length = N := by simp [prK]
theorem prK_0 (l m : List Int) (N : Nat) : prK l m N 0 0 = List.replicate N 0 := by
  apply List.ext_getElem
  · simp [prK]
  · intro i h1 h2
    simp only [prK, List.getElem_map, List.getElem_range, List.getElem_replicate]
    by_cases hi : i = 0 <;> simp [hi, prS]
theorem prK_next (l m : List Int) (N k : Nat) : prK l m N k (k + 1) = prK l m N (k + 1) 0 := by
  apply List.map_congr_left
  intro t _
  by_cases h1 : t < k
  · rw [if_pos h1, if_pos (by omega)]
  · by_cases h2 : t = k
    · subst h2
      rw [if_neg h1, if_pos rfl, if_pos (by omega)]
    · rw [if_neg h1, if_neg h2, if_neg (by omega)]
      split <;> rfl
theorem prK_end (l m : List Int) (N : Nat) : prK l m N N 0 = prdL l m N := by
  apply List.map_congr_left
  intro t ht
  rw [List.mem_range] at ht
  rw [if_pos ht]
theorem prK_get (l m : List Int) {N k : Nat} (j : Nat) (h : k < N) : (prK l m N k j).getD k 0 = prS l m k j := by
  simp [prK, List.getD_eq_getElem?_getD, h]
theorem prK_set (l m : List Int) {N k : Nat} (j : Nat) (h : k < N) : (prK l m N k j).set k (prS l m k j + l.getD j 0 * m.getD (k - j) 0) = prK l m N k (j + 1) := by
  apply List.ext_getElem
  · simp [prK]
  · intro i h1 h2
    rw [List.getElem_set]
    by_cases hi : k = i
    · subst hi
      simp [prK, prS]
    · rw [if_neg hi]
      simp only [prK, List.getElem_map, List.getElem_range]
      by_cases h3 : i < k
      · rw [if_pos h3, if_pos h3]
      · rw [if_neg h3, if_neg h3, if_neg (by omega), if_neg (by omega)]
/-- a row of small sum -/
structure Sm (l : List Int) : Prop where
  pos : ∀ x ∈ l, 0 ≤ x
  sum : sumL l ≤ 841
theorem Sm.get {l : List Int} (h : Sm l) (i : Nat) : 0 ≤ l.getD i 0 ∧ l.getD i 0 ≤ 841 := by
  have h1 := (sumL_le h.pos).2 i
  have h2 := h.sum
  omega
def psum (l : List Int) : Nat → Int
  | 0 => 0
  | j + 1 => psum l j + l.getD j 0
theorem psum_cons (a : Int) (l : List Int) : ∀ j : Nat, psum (a :: l) (j + 1) = a + psum l j
  | 0 => by simp [psum]
  | j + 1 => by
    have ih := psum_cons a l j
    have e1 : psum (a :: l) (j + 1 + 1) = psum (a :: l) (j + 1) + (a :: l).getD (j + 1) 0 := rfl
    have e2 : psum l (j + 1) = psum l j + l.getD j 0 := rfl
    rw [e1, ih, e2, List.getD_cons_succ]
    omega
theorem psum_le {l : List Int} (h : ∀ x ∈ l, 0 ≤ x) : ∀ j : Nat, psum l j ≤ sumL l := by
  induction l with
  | nil =>
    intro j
    have : psum [] j = 0 := by
      induction j with
      | zero => rfl
      | succ j ih =>
        have e : psum [] (j + 1) = psum [] j + 0 := rfl
        rw [e, ih]; rfl
    rw [this]; simp [sumL]
  | cons a l ih =>
    intro j
    have e : sumL (a :: l) = a + sumL l := rfl
    have h0 := h a (by simp)
    have ih' := ih fun x hx => h x (by simp [hx])
    cases j with
    | zero =>
      have := (sumL_le (l := l) fun x hx => h x (by simp [hx])).1
      show (0 : Int) ≤ _
      rw [e]; omega
    | succ j =>
      have := ih' j
      rw [psum_cons, e]; omega
theorem prS_bd {l m : List Int} (hl : Sm l) (hm : Sm m) (k : Nat) : ∀ j : Nat, 0 ≤ prS l m k j ∧ prS l m k j ≤ psum l j * 841
  | 0 => ⟨Int.le_refl _, Int.le_refl _⟩
  | j + 1 => by
    obtain ⟨h1, h2⟩ := prS_bd hl hm k j
    have a := hl.get j
    have b := hm.get (k - j)
    have e1 : prS l m k (j + 1) = prS l m k j + l.getD j 0 * m.getD (k - j) 0 := rfl
    have e2 : psum l (j + 1) = psum l j + l.getD j 0 := rfl
    have h3 : 0 ≤ l.getD j 0 * m.getD (k - j) 0 := Int.mul_nonneg a.1 b.1
    have h4 : l.getD j 0 * m.getD (k - j) 0 ≤ l.getD j 0 * 841 := Int.mul_le_mul_of_nonneg_left b.2 a.1
    rw [e1, e2, Int.add_mul]
    omega
theorem prS_small {l m : List Int} (hl : Sm l) (hm : Sm m) (k j : Nat) : 0 ≤ prS l m k j ∧ prS l m k j ≤ 707281 := by
  obtain ⟨h1, h2⟩ := prS_bd hl hm k j
  have h3 := psum_le hl.pos j
  have h4 := hl.sum
  omega
structure PrPre (l m : List Int) : Prop where
  len : l.length = m.length
  n : l.length ≤ 101
  l1 : Sm l
  m1 : Sm m
abbrev fLLeast : Nat := 152
def cLLeast : Ctr
  | [.i a, .i b] => some ⟨True, .one (.i (min a b)), []⟩
  | _ => none
theorem okLLeast : CtrOk Try.prog fLLeast cLLeast := by
  have hsp : SpecOk Try.prog (specOf []) := SpecOk.nil
  refine ctr_of (fn := Try.f152) mixed tab_ok hsp Try.func152 (by kernel_rfl) (by kernel_rfl) fun args ce h => ?_
  clear hsp
  unfold cLLeast at h
  split at h
  case h_2 => cases h
  rename_i a b
  simp only [Option.some.injEq] at h
  subst h
  refine ⟨by rfl, fun hp => ⟨0, 1000, ?_⟩⟩
  simp only [vc, out, step, stepE, stepPick, stepG, stepO, stepC, eff, look, rem, St.put, St.setMem, setMems, St.after, St.eval, cst, setAt, val1, okNew, newHs, allHs, rdOf, outHs, Reg.item, Reg.next, Reg.skip, slotOf, effBox, effAlloc, entryRow, fieldOff, effField, loadI, load1, loadR, effLoad, storeI, storeB, storeR, szOk, storeTo, effStore, buildOf, effBuild, binInt, eqI, boolOf, binBool, effBin, effUn, effPick, effExtract, ivs, svs, rowOf, allParts, effBuildSlice, zeroRow, effMakeSlice, elemSz, idxA, idxS, effIndex, lenOf, readOf, subPre, maxRow, plainTI, appTo, effAppend, slcOf, effSlice, argOf, resA, resL, resV, outWr, nodupB, restOk, argsPre, argOk, callWr, effCall, effMax, wrHs, disj, AV.hs, A0.hs, Entry.hs, RC.elem, RC.sz, RC.len, RC.slice, RC.app, hA, initFr, initMem, initSt, resOf, resAll, compEq, compsEq, rowHs, outHds, outsEq, shapeOk, finOk, comps, A0.norm, AV.norm, specOf, t_int, t_bool, t_implForm, t_lawsForm, t_implMatrix, t_implPoint, ts_int, ts_bool, ts_implForm, ts_implPoint, ts_implMatrix, Option.getD_some, Option.getD_none, cond_true, cond_false, Nat.reduceBEq, List.map_cons, List.map_nil, List.set_cons_zero, List.set_cons_succ, List.getElem?_cons_zero, List.getElem?_cons_succ, List.drop_zero, List.drop_succ_cons, List.take_succ_cons, List.take_zero, Option.map_some, Option.map_none, Option.bind_some, Nat.zero_add, Nat.add_zero, Nat.reduceAdd, Nat.reduceMul, true_and, and_true, List.replicate_succ, List.replicate_zero, List.length_cons, List.length_nil, List.all_cons, List.all_nil, List.any_cons, List.any_nil, Bool.and_true, Bool.true_and, Bool.and_false, Bool.false_and, Bool.or_true, Bool.true_or, Bool.or_false, Bool.false_or, Bool.not_true, Bool.not_false, List.append_nil, List.nil_append, List.cons_append, List.flatMap_cons, List.flatMap_nil, List.contains_cons, List.contains_nil, List.filter_cons, List.filter_nil, beq_self_eq_true, Bool.not_eq_true, A0.b.injEq, A0.i.injEq, A0.s.injEq, A0.rw.injEq, A0.fn.injEq, List.cons.injEq, RC.ints.injEq, RC.recs.injEq, RC.bools.injEq, AV.one.injEq, AV.tup.injEq, ble_dec, blt_dec, Nat.reduceLeDiff, Nat.reduceSub, decide_true, decide_false, and_self, List.toList_toArray, Option.isSome_some, Option.isSome_none, List.elem_nil, List.elem_cons, ite_true, ite_false, Bool.false_eq_true, if_true, if_false, reduceIte, flatB_2, flatB_3, flatB_4, List.headD_cons, List.tail_cons, Try.f152]
  by_cases h : a < b
  · simp only [h]; simp; omega
  · simp only [h]; simp; omega
abbrev fProduct : Nat := 83
def cProduct : Ctr
  | [.rw (.ints e l), .rw (.ints e' m)] => some ⟨PrPre l m, .one (.rw (.ints 3 (prdL l m l.length))), []⟩
  | _ => none
theorem okProduct : CtrOk Try.prog fProduct cProduct := by
  have hsp : SpecOk Try.prog (specOf []) := SpecOk.nil
  refine ctr_of (fn := Try.f83) mixed tab_ok hsp Try.func83 (by kernel_rfl) (by kernel_rfl) fun args ce h => ?_
  clear hsp
  unfold cProduct at h
  split at h
  case h_2 => cases h
  rename_i e l e' m
  simp only [Option.some.injEq] at h
  subst h
  refine ⟨by rfl, fun hp => ⟨2, 1000, ?_⟩⟩
  simp only [↓cond_to_ite, ↓reduceIte, vc, out, step, stepE, stepPick, stepG, stepO, stepC, eff, look, rem, St.put, St.setMem, setMems, St.after, St.eval, cst, setAt, val1, okNew, newHs, allHs, rdOf, outHs, Reg.item, Reg.next, Reg.skip, slotOf, effBox, effAlloc, entryRow, fieldOff, effField, loadI, load1, loadR, effLoad, storeI, storeB, storeR, szOk, storeTo, effStore, buildOf, effBuild, binInt, eqI, boolOf, binBool, effBin, effUn, effPick, effExtract, ivs, svs, rowOf, allParts, effBuildSlice, zeroRow, effMakeSlice, elemSz, idxA, idxS, effIndex, lenOf, readOf, subPre, maxRow, plainTI, appTo, effAppend, slcOf, effSlice, argOf, resA, resL, resV, outWr, nodupB, restOk, argsPre, argOk, callWr, effCall, effMax, wrHs, disj, AV.hs, A0.hs, Entry.hs, RC.elem, RC.sz, RC.len, RC.slice, RC.app, hA, initFr, initMem, initSt, resOf, resAll, compEq, compsEq, rowHs, outHds, outsEq, shapeOk, finOk, comps, A0.norm, AV.norm, specOf, t_int, t_bool, t_implForm, t_lawsForm, t_implMatrix, t_implPoint, ts_int, ts_bool, ts_implForm, ts_implPoint, ts_implMatrix, Option.getD_some, Option.getD_none, cond_true, cond_false, Nat.reduceBEq, List.map_cons, List.map_nil, List.set_cons_zero, List.set_cons_succ, List.getElem?_cons_zero, List.getElem?_cons_succ, List.drop_zero, List.drop_succ_cons, List.take_succ_cons, List.take_zero, Option.map_some, Option.map_none, Option.bind_some, Nat.zero_add, Nat.add_zero, Nat.reduceAdd, Nat.reduceMul, true_and, and_true, List.replicate_succ, List.replicate_zero, List.length_cons, List.length_nil, List.all_cons, List.all_nil, List.any_cons, List.any_nil, Bool.and_true, Bool.true_and, Bool.and_false, Bool.false_and, Bool.or_true, Bool.true_or, Bool.or_false, Bool.false_or, Bool.not_true, Bool.not_false, List.append_nil, List.nil_append, List.cons_append, List.flatMap_cons, List.flatMap_nil, List.contains_cons, List.contains_nil, List.filter_cons, List.filter_nil, beq_self_eq_true, Bool.not_eq_true, A0.b.injEq, A0.i.injEq, A0.s.injEq, A0.rw.injEq, A0.fn.injEq, List.cons.injEq, RC.ints.injEq, RC.recs.injEq, RC.bools.injEq, AV.one.injEq, AV.tup.injEq, ble_dec, blt_dec, Nat.reduceLeDiff, Nat.reduceSub, decide_true, decide_false, and_self, List.toList_toArray, Option.isSome_some, Option.isSome_none, List.elem_nil, List.elem_cons, ite_true, ite_false, Bool.false_eq_true, if_true, if_false, reduceIte, flatB_2, flatB_3, flatB_4, List.headD_cons, List.tail_cons, effMin, Try.f83]
  obtain ⟨hlen, hn, hl, hm⟩ : PrPre l m := hp
  have e0 : min (l.length : Int) (m.length : Int) = (l.length : Int) := by omega
  rw [e0]
  refine ⟨by omega, ?_⟩
  have e1 : (l.length : Int).toNat = l.length := by omega
  rw [e1, ← prK_0 l m]
  refine lp_intro (fun k : Nat => ⟨[(0, .one (.row 1000000)), (1, .one (.row 1000001)), (5, .one (.row 13)), (14, .one (.row 13)), (15, .one (.i (l.length : Int))), (16, .one (.i k))], [(13, .row (.ints 3 (prK l m l.length k 0))), (1000000, .ro (.ints e l)), (1000001, .ro (.ints e' m))]⟩)
    (fun k => k ≤ l.length) (fun k => l.length - k) 0 [] (by omega) (by simp only [Cov, covOk, covFr, covMem, entEq, rn, nodupB, A0.ren, AV.ren, Entry.ren, Entry.norm, vc, out, step, stepE, stepPick, stepG, stepO, stepC, eff, look, rem, St.put, St.setMem, setMems, St.after, St.eval, cst, setAt, val1, okNew, newHs, allHs, rdOf, outHs, Reg.item, Reg.next, Reg.skip, slotOf, effBox, effAlloc, entryRow, fieldOff, effField, loadI, load1, loadR, effLoad, storeI, storeB, storeR, szOk, storeTo, effStore, buildOf, effBuild, binInt, eqI, boolOf, binBool, effBin, effUn, effPick, effExtract, ivs, svs, rowOf, allParts, effBuildSlice, zeroRow, effMakeSlice, elemSz, idxA, idxS, effIndex, lenOf, readOf, subPre, maxRow, plainTI, appTo, effAppend, slcOf, effSlice, argOf, resA, resL, resV, outWr, nodupB, restOk, argsPre, argOk, callWr, effCall, effMax, wrHs, disj, AV.hs, A0.hs, Entry.hs, RC.elem, RC.sz, RC.len, RC.slice, RC.app, hA, initFr, initMem, initSt, resOf, resAll, compEq, compsEq, rowHs, outHds, outsEq, shapeOk, finOk, comps, A0.norm, AV.norm, specOf, t_int, t_bool, t_implForm, t_lawsForm, t_implMatrix, t_implPoint, ts_int, ts_bool, ts_implForm, ts_implPoint, ts_implMatrix, Option.getD_some, Option.getD_none, cond_true, cond_false, Nat.reduceBEq, List.map_cons, List.map_nil, List.set_cons_zero, List.set_cons_succ, List.getElem?_cons_zero, List.getElem?_cons_succ, List.drop_zero, List.drop_succ_cons, List.take_succ_cons, List.take_zero, Option.map_some, Option.map_none, Option.bind_some, Nat.zero_add, Nat.add_zero, Nat.reduceAdd, Nat.reduceMul, true_and, and_true, List.replicate_succ, List.replicate_zero, List.length_cons, List.length_nil, List.all_cons, List.all_nil, List.any_cons, List.any_nil, Bool.and_true, Bool.true_and, Bool.and_false, Bool.false_and, Bool.or_true, Bool.true_or, Bool.or_false, Bool.false_or, Bool.not_true, Bool.not_false, List.append_nil, List.nil_append, List.cons_append, List.flatMap_cons, List.flatMap_nil, List.contains_cons, List.contains_nil, List.filter_cons, List.filter_nil, beq_self_eq_true, Bool.not_eq_true, A0.b.injEq, A0.i.injEq, A0.s.injEq, A0.rw.injEq, A0.fn.injEq, List.cons.injEq, RC.ints.injEq, RC.recs.injEq, RC.bools.injEq, AV.one.injEq, AV.tup.injEq, ble_dec, blt_dec, Nat.reduceLeDiff, Nat.reduceSub, decide_true, decide_false, and_self, List.toList_toArray, Option.isSome_some, Option.isSome_none, List.elem_nil, List.elem_cons, ite_true, ite_false, Bool.false_eq_true, if_true, if_false, reduceIte, flatB_2, flatB_3, flatB_4, List.headD_cons, List.tail_cons, prK_len]; simp) fun k hk J hJ => ⟨1000, ?_⟩
  by_cases g : k < l.length
  · have c1 : decide ((k : Int) < (l.length : Int)) = true := by simpa using g
    simp only [↓cond_to_ite, ↓reduceIte, vc, out, step, stepE, stepPick, stepG, stepO, stepC, eff, look, rem, St.put, St.setMem, setMems, St.after, St.eval, cst, setAt, val1, okNew, newHs, allHs, rdOf, outHs, Reg.item, Reg.next, Reg.skip, slotOf, effBox, effAlloc, entryRow, fieldOff, effField, loadI, load1, loadR, effLoad, storeI, storeB, storeR, szOk, storeTo, effStore, buildOf, effBuild, binInt, eqI, boolOf, binBool, effBin, effUn, effPick, effExtract, ivs, svs, rowOf, allParts, effBuildSlice, zeroRow, effMakeSlice, elemSz, idxA, idxS, effIndex, lenOf, readOf, subPre, maxRow, plainTI, appTo, effAppend, slcOf, effSlice, argOf, resA, resL, resV, outWr, nodupB, restOk, argsPre, argOk, callWr, effCall, effMax, wrHs, disj, AV.hs, A0.hs, Entry.hs, RC.elem, RC.sz, RC.len, RC.slice, RC.app, hA, initFr, initMem, initSt, resOf, resAll, compEq, compsEq, rowHs, outHds, outsEq, shapeOk, finOk, comps, A0.norm, AV.norm, specOf, t_int, t_bool, t_implForm, t_lawsForm, t_implMatrix, t_implPoint, ts_int, ts_bool, ts_implForm, ts_implPoint, ts_implMatrix, Option.getD_some, Option.getD_none, cond_true, cond_false, Nat.reduceBEq, List.map_cons, List.map_nil, List.set_cons_zero, List.set_cons_succ, List.getElem?_cons_zero, List.getElem?_cons_succ, List.drop_zero, List.drop_succ_cons, List.take_succ_cons, List.take_zero, Option.map_some, Option.map_none, Option.bind_some, Nat.zero_add, Nat.add_zero, Nat.reduceAdd, Nat.reduceMul, true_and, and_true, List.replicate_succ, List.replicate_zero, List.length_cons, List.length_nil, List.all_cons, List.all_nil, List.any_cons, List.any_nil, Bool.and_true, Bool.true_and, Bool.and_false, Bool.false_and, Bool.or_true, Bool.true_or, Bool.or_false, Bool.false_or, Bool.not_true, Bool.not_false, List.append_nil, List.nil_append, List.cons_append, List.flatMap_cons, List.flatMap_nil, List.contains_cons, List.contains_nil, List.filter_cons, List.filter_nil, beq_self_eq_true, Bool.not_eq_true, A0.b.injEq, A0.i.injEq, A0.s.injEq, A0.rw.injEq, A0.fn.injEq, List.cons.injEq, RC.ints.injEq, RC.recs.injEq, RC.bools.injEq, AV.one.injEq, AV.tup.injEq, ble_dec, blt_dec, Nat.reduceLeDiff, Nat.reduceSub, decide_true, decide_false, and_self, List.toList_toArray, Option.isSome_some, Option.isSome_none, List.elem_nil, List.elem_cons, ite_true, ite_false, Bool.false_eq_true, if_true, if_false, reduceIte, flatB_2, flatB_3, flatB_4, List.headD_cons, List.tail_cons, c1]
    refine lp_intro (fun j : Nat => ⟨[(0, .one (.row 1000000)), (1, .one (.row 1000001)), (5, .one (.row 13)), (14, .one (.row 13)), (15, .one (.i (l.length : Int))), (16, .one (.i k)), (6, .one (.i k)), (7, .one (.i j))], [(13, .row (.ints 3 (prK l m l.length k j))), (1000000, .ro (.ints e l)), (1000001, .ro (.ints e' m))]⟩)
      (fun j => j ≤ k + 1) (fun j => k + 1 - j) 0 [] (by omega) (by simp only [Cov, covOk, covFr, covMem, entEq, rn, nodupB, A0.ren, AV.ren, Entry.ren, Entry.norm, vc, out, step, stepE, stepPick, stepG, stepO, stepC, eff, look, rem, St.put, St.setMem, setMems, St.after, St.eval, cst, setAt, val1, okNew, newHs, allHs, rdOf, outHs, Reg.item, Reg.next, Reg.skip, slotOf, effBox, effAlloc, entryRow, fieldOff, effField, loadI, load1, loadR, effLoad, storeI, storeB, storeR, szOk, storeTo, effStore, buildOf, effBuild, binInt, eqI, boolOf, binBool, effBin, effUn, effPick, effExtract, ivs, svs, rowOf, allParts, effBuildSlice, zeroRow, effMakeSlice, elemSz, idxA, idxS, effIndex, lenOf, readOf, subPre, maxRow, plainTI, appTo, effAppend, slcOf, effSlice, argOf, resA, resL, resV, outWr, nodupB, restOk, argsPre, argOk, callWr, effCall, effMax, wrHs, disj, AV.hs, A0.hs, Entry.hs, RC.elem, RC.sz, RC.len, RC.slice, RC.app, hA, initFr, initMem, initSt, resOf, resAll, compEq, compsEq, rowHs, outHds, outsEq, shapeOk, finOk, comps, A0.norm, AV.norm, specOf, t_int, t_bool, t_implForm, t_lawsForm, t_implMatrix, t_implPoint, ts_int, ts_bool, ts_implForm, ts_implPoint, ts_implMatrix, Option.getD_some, Option.getD_none, cond_true, cond_false, Nat.reduceBEq, List.map_cons, List.map_nil, List.set_cons_zero, List.set_cons_succ, List.getElem?_cons_zero, List.getElem?_cons_succ, List.drop_zero, List.drop_succ_cons, List.take_succ_cons, List.take_zero, Option.map_some, Option.map_none, Option.bind_some, Nat.zero_add, Nat.add_zero, Nat.reduceAdd, Nat.reduceMul, true_and, and_true, List.replicate_succ, List.replicate_zero, List.length_cons, List.length_nil, List.all_cons, List.all_nil, List.any_cons, List.any_nil, Bool.and_true, Bool.true_and, Bool.and_false, Bool.false_and, Bool.or_true, Bool.true_or, Bool.or_false, Bool.false_or, Bool.not_true, Bool.not_false, List.append_nil, List.nil_append, List.cons_append, List.flatMap_cons, List.flatMap_nil, List.contains_cons, List.contains_nil, List.filter_cons, List.filter_nil, beq_self_eq_true, Bool.not_eq_true, A0.b.injEq, A0.i.injEq, A0.s.injEq, A0.rw.injEq, A0.fn.injEq, List.cons.injEq, RC.ints.injEq, RC.recs.injEq, RC.bools.injEq, AV.one.injEq, AV.tup.injEq, ble_dec, blt_dec, Nat.reduceLeDiff, Nat.reduceSub, decide_true, decide_false, and_self, List.toList_toArray, Option.isSome_some, Option.isSome_none, List.elem_nil, List.elem_cons, ite_true, ite_false, Bool.false_eq_true, if_true, if_false, reduceIte, flatB_2, flatB_3, flatB_4, List.headD_cons, List.tail_cons]; simp) fun j hj J2 hJ2 => ⟨1000, ?_⟩
    by_cases g2 : j ≤ k
    · have c2 : decide ((j : Int) ≤ (k : Int)) = true := by simpa using g2
      have w1 : wrap64 ((k : Int) - (j : Int)) = ((k - j : Nat) : Int) := by rw [wrap_id (by omega) (by omega)]; omega
      have a := hl.get j
      have b := hm.get (k - j)
      have c := prS_small hl hm k j
      have q := mul_bd (a := l.getD j 0) (b := m.getD (k - j) 0) (j := 841) (k := 841) (by omega) (by omega) ⟨by omega, by omega⟩ ⟨by omega, by omega⟩
      have w2 : wrap64 (l.getD j 0 * m.getD (k - j) 0) = l.getD j 0 * m.getD (k - j) 0 := wrap_id (by omega) (by omega)
      have w3 : wrap64 (prS l m k j + l.getD j 0 * m.getD (k - j) 0) = prS l m k j + l.getD j 0 * m.getD (k - j) 0 := wrap_id (by omega) (by omega)
      simp only [↓cond_to_ite, ↓reduceIte, vc, out, step, stepE, stepPick, stepG, stepO, stepC, eff, look, rem, St.put, St.setMem, setMems, St.after, St.eval, cst, setAt, val1, okNew, newHs, allHs, rdOf, outHs, Reg.item, Reg.next, Reg.skip, slotOf, effBox, effAlloc, entryRow, fieldOff, effField, loadI, load1, loadR, effLoad, storeI, storeB, storeR, szOk, storeTo, effStore, buildOf, effBuild, binInt, eqI, boolOf, binBool, effBin, effUn, effPick, effExtract, ivs, svs, rowOf, allParts, effBuildSlice, zeroRow, effMakeSlice, elemSz, idxA, idxS, effIndex, lenOf, readOf, subPre, maxRow, plainTI, appTo, effAppend, slcOf, effSlice, argOf, resA, resL, resV, outWr, nodupB, restOk, argsPre, argOk, callWr, effCall, effMax, wrHs, disj, AV.hs, A0.hs, Entry.hs, RC.elem, RC.sz, RC.len, RC.slice, RC.app, hA, initFr, initMem, initSt, resOf, resAll, compEq, compsEq, rowHs, outHds, outsEq, shapeOk, finOk, comps, A0.norm, AV.norm, specOf, t_int, t_bool, t_implForm, t_lawsForm, t_implMatrix, t_implPoint, ts_int, ts_bool, ts_implForm, ts_implPoint, ts_implMatrix, Option.getD_some, Option.getD_none, cond_true, cond_false, Nat.reduceBEq, List.map_cons, List.map_nil, List.set_cons_zero, List.set_cons_succ, List.getElem?_cons_zero, List.getElem?_cons_succ, List.drop_zero, List.drop_succ_cons, List.take_succ_cons, List.take_zero, Option.map_some, Option.map_none, Option.bind_some, Nat.zero_add, Nat.add_zero, Nat.reduceAdd, Nat.reduceMul, true_and, and_true, List.replicate_succ, List.replicate_zero, List.length_cons, List.length_nil, List.all_cons, List.all_nil, List.any_cons, List.any_nil, Bool.and_true, Bool.true_and, Bool.and_false, Bool.false_and, Bool.or_true, Bool.true_or, Bool.or_false, Bool.false_or, Bool.not_true, Bool.not_false, List.append_nil, List.nil_append, List.cons_append, List.flatMap_cons, List.flatMap_nil, List.contains_cons, List.contains_nil, List.filter_cons, List.filter_nil, beq_self_eq_true, Bool.not_eq_true, A0.b.injEq, A0.i.injEq, A0.s.injEq, A0.rw.injEq, A0.fn.injEq, List.cons.injEq, RC.ints.injEq, RC.recs.injEq, RC.bools.injEq, AV.one.injEq, AV.tup.injEq, ble_dec, blt_dec, Nat.reduceLeDiff, Nat.reduceSub, decide_true, decide_false, and_self, List.toList_toArray, Option.isSome_some, Option.isSome_none, List.elem_nil, List.elem_cons, ite_true, ite_false, Bool.false_eq_true, if_true, if_false, reduceIte, flatB_2, flatB_3, flatB_4, List.headD_cons, List.tail_cons, c2, Int.toNat_natCast, w1, prK_len, prK_get l m j g, w2, w3, prK_set l m j g]
      refine ⟨⟨by omega, by omega⟩, by omega, ⟨by omega, by omega⟩, by omega, ⟨by omega, by omega⟩, by omega, ⟨by omega, by omega⟩, by omega, by kernel_rfl, hJ2 _ (j + 1) [] (by omega) (by omega) (by simp only [Cov, covOk, covFr, covMem, entEq, rn, nodupB, A0.ren, AV.ren, Entry.ren, Entry.norm, vc, out, step, stepE, stepPick, stepG, stepO, stepC, eff, look, rem, St.put, St.setMem, setMems, St.after, St.eval, cst, setAt, val1, okNew, newHs, allHs, rdOf, outHs, Reg.item, Reg.next, Reg.skip, slotOf, effBox, effAlloc, entryRow, fieldOff, effField, loadI, load1, loadR, effLoad, storeI, storeB, storeR, szOk, storeTo, effStore, buildOf, effBuild, binInt, eqI, boolOf, binBool, effBin, effUn, effPick, effExtract, ivs, svs, rowOf, allParts, effBuildSlice, zeroRow, effMakeSlice, elemSz, idxA, idxS, effIndex, lenOf, readOf, subPre, maxRow, plainTI, appTo, effAppend, slcOf, effSlice, argOf, resA, resL, resV, outWr, nodupB, restOk, argsPre, argOk, callWr, effCall, effMax, wrHs, disj, AV.hs, A0.hs, Entry.hs, RC.elem, RC.sz, RC.len, RC.slice, RC.app, hA, initFr, initMem, initSt, resOf, resAll, compEq, compsEq, rowHs, outHds, outsEq, shapeOk, finOk, comps, A0.norm, AV.norm, specOf, t_int, t_bool, t_implForm, t_lawsForm, t_implMatrix, t_implPoint, ts_int, ts_bool, ts_implForm, ts_implPoint, ts_implMatrix, Option.getD_some, Option.getD_none, cond_true, cond_false, Nat.reduceBEq, List.map_cons, List.map_nil, List.set_cons_zero, List.set_cons_succ, List.getElem?_cons_zero, List.getElem?_cons_succ, List.drop_zero, List.drop_succ_cons, List.take_succ_cons, List.take_zero, Option.map_some, Option.map_none, Option.bind_some, Nat.zero_add, Nat.add_zero, Nat.reduceAdd, Nat.reduceMul, true_and, and_true, List.replicate_succ, List.replicate_zero, List.length_cons, List.length_nil, List.all_cons, List.all_nil, List.any_cons, List.any_nil, Bool.and_true, Bool.true_and, Bool.and_false, Bool.false_and, Bool.or_true, Bool.true_or, Bool.or_false, Bool.false_or, Bool.not_true, Bool.not_false, List.append_nil, List.nil_append, List.cons_append, List.flatMap_cons, List.flatMap_nil, List.contains_cons, List.contains_nil, List.filter_cons, List.filter_nil, beq_self_eq_true, Bool.not_eq_true, A0.b.injEq, A0.i.injEq, A0.s.injEq, A0.rw.injEq, A0.fn.injEq, List.cons.injEq, RC.ints.injEq, RC.recs.injEq, RC.bools.injEq, AV.one.injEq, AV.tup.injEq, ble_dec, blt_dec, Nat.reduceLeDiff, Nat.reduceSub, decide_true, decide_false, and_self, List.toList_toArray, Option.isSome_some, Option.isSome_none, List.elem_nil, List.elem_cons, ite_true, ite_false, Bool.false_eq_true, if_true, if_false, reduceIte, flatB_2, flatB_3, flatB_4, List.headD_cons, List.tail_cons, wsucc (n := j) (m := 1000) (by omega) (by omega)])⟩
    · have c2 : decide ((j : Int) ≤ (k : Int)) = false := by simpa using g2
      have hje : j = k + 1 := by omega
      subst hje
      simp only [↓cond_to_ite, ↓reduceIte, vc, out, step, stepE, stepPick, stepG, stepO, stepC, eff, look, rem, St.put, St.setMem, setMems, St.after, St.eval, cst, setAt, val1, okNew, newHs, allHs, rdOf, outHs, Reg.item, Reg.next, Reg.skip, slotOf, effBox, effAlloc, entryRow, fieldOff, effField, loadI, load1, loadR, effLoad, storeI, storeB, storeR, szOk, storeTo, effStore, buildOf, effBuild, binInt, eqI, boolOf, binBool, effBin, effUn, effPick, effExtract, ivs, svs, rowOf, allParts, effBuildSlice, zeroRow, effMakeSlice, elemSz, idxA, idxS, effIndex, lenOf, readOf, subPre, maxRow, plainTI, appTo, effAppend, slcOf, effSlice, argOf, resA, resL, resV, outWr, nodupB, restOk, argsPre, argOk, callWr, effCall, effMax, wrHs, disj, AV.hs, A0.hs, Entry.hs, RC.elem, RC.sz, RC.len, RC.slice, RC.app, hA, initFr, initMem, initSt, resOf, resAll, compEq, compsEq, rowHs, outHds, outsEq, shapeOk, finOk, comps, A0.norm, AV.norm, specOf, t_int, t_bool, t_implForm, t_lawsForm, t_implMatrix, t_implPoint, ts_int, ts_bool, ts_implForm, ts_implPoint, ts_implMatrix, Option.getD_some, Option.getD_none, cond_true, cond_false, Nat.reduceBEq, List.map_cons, List.map_nil, List.set_cons_zero, List.set_cons_succ, List.getElem?_cons_zero, List.getElem?_cons_succ, List.drop_zero, List.drop_succ_cons, List.take_succ_cons, List.take_zero, Option.map_some, Option.map_none, Option.bind_some, Nat.zero_add, Nat.add_zero, Nat.reduceAdd, Nat.reduceMul, true_and, and_true, List.replicate_succ, List.replicate_zero, List.length_cons, List.length_nil, List.all_cons, List.all_nil, List.any_cons, List.any_nil, Bool.and_true, Bool.true_and, Bool.and_false, Bool.false_and, Bool.or_true, Bool.true_or, Bool.or_false, Bool.false_or, Bool.not_true, Bool.not_false, List.append_nil, List.nil_append, List.cons_append, List.flatMap_cons, List.flatMap_nil, List.contains_cons, List.contains_nil, List.filter_cons, List.filter_nil, beq_self_eq_true, Bool.not_eq_true, A0.b.injEq, A0.i.injEq, A0.s.injEq, A0.rw.injEq, A0.fn.injEq, List.cons.injEq, RC.ints.injEq, RC.recs.injEq, RC.bools.injEq, AV.one.injEq, AV.tup.injEq, ble_dec, blt_dec, Nat.reduceLeDiff, Nat.reduceSub, decide_true, decide_false, and_self, List.toList_toArray, Option.isSome_some, Option.isSome_none, List.elem_nil, List.elem_cons, ite_true, ite_false, Bool.false_eq_true, if_true, if_false, reduceIte, flatB_2, flatB_3, flatB_4, List.headD_cons, List.tail_cons, c2]
      exact hJ _ (k + 1) [] g (by omega) (by simp only [Cov, covOk, covFr, covMem, entEq, rn, nodupB, A0.ren, AV.ren, Entry.ren, Entry.norm, vc, out, step, stepE, stepPick, stepG, stepO, stepC, eff, look, rem, St.put, St.setMem, setMems, St.after, St.eval, cst, setAt, val1, okNew, newHs, allHs, rdOf, outHs, Reg.item, Reg.next, Reg.skip, slotOf, effBox, effAlloc, entryRow, fieldOff, effField, loadI, load1, loadR, effLoad, storeI, storeB, storeR, szOk, storeTo, effStore, buildOf, effBuild, binInt, eqI, boolOf, binBool, effBin, effUn, effPick, effExtract, ivs, svs, rowOf, allParts, effBuildSlice, zeroRow, effMakeSlice, elemSz, idxA, idxS, effIndex, lenOf, readOf, subPre, maxRow, plainTI, appTo, effAppend, slcOf, effSlice, argOf, resA, resL, resV, outWr, nodupB, restOk, argsPre, argOk, callWr, effCall, effMax, wrHs, disj, AV.hs, A0.hs, Entry.hs, RC.elem, RC.sz, RC.len, RC.slice, RC.app, hA, initFr, initMem, initSt, resOf, resAll, compEq, compsEq, rowHs, outHds, outsEq, shapeOk, finOk, comps, A0.norm, AV.norm, specOf, t_int, t_bool, t_implForm, t_lawsForm, t_implMatrix, t_implPoint, ts_int, ts_bool, ts_implForm, ts_implPoint, ts_implMatrix, Option.getD_some, Option.getD_none, cond_true, cond_false, Nat.reduceBEq, List.map_cons, List.map_nil, List.set_cons_zero, List.set_cons_succ, List.getElem?_cons_zero, List.getElem?_cons_succ, List.drop_zero, List.drop_succ_cons, List.take_succ_cons, List.take_zero, Option.map_some, Option.map_none, Option.bind_some, Nat.zero_add, Nat.add_zero, Nat.reduceAdd, Nat.reduceMul, true_and, and_true, List.replicate_succ, List.replicate_zero, List.length_cons, List.length_nil, List.all_cons, List.all_nil, List.any_cons, List.any_nil, Bool.and_true, Bool.true_and, Bool.and_false, Bool.false_and, Bool.or_true, Bool.true_or, Bool.or_false, Bool.false_or, Bool.not_true, Bool.not_false, List.append_nil, List.nil_append, List.cons_append, List.flatMap_cons, List.flatMap_nil, List.contains_cons, List.contains_nil, List.filter_cons, List.filter_nil, beq_self_eq_true, Bool.not_eq_true, A0.b.injEq, A0.i.injEq, A0.s.injEq, A0.rw.injEq, A0.fn.injEq, List.cons.injEq, RC.ints.injEq, RC.recs.injEq, RC.bools.injEq, AV.one.injEq, AV.tup.injEq, ble_dec, blt_dec, Nat.reduceLeDiff, Nat.reduceSub, decide_true, decide_false, and_self, List.toList_toArray, Option.isSome_some, Option.isSome_none, List.elem_nil, List.elem_cons, ite_true, ite_false, Bool.false_eq_true, if_true, if_false, reduceIte, flatB_2, flatB_3, flatB_4, List.headD_cons, List.tail_cons, wsucc g (by omega), prK_next])
  · have c1 : decide ((k : Int) < (l.length : Int)) = false := by simpa using g
    have hke : k = l.length := by omega
    subst hke
    simp only [↓cond_to_ite, ↓reduceIte, vc, out, step, stepE, stepPick, stepG, stepO, stepC, eff, look, rem, St.put, St.setMem, setMems, St.after, St.eval, cst, setAt, val1, okNew, newHs, allHs, rdOf, outHs, Reg.item, Reg.next, Reg.skip, slotOf, effBox, effAlloc, entryRow, fieldOff, effField, loadI, load1, loadR, effLoad, storeI, storeB, storeR, szOk, storeTo, effStore, buildOf, effBuild, binInt, eqI, boolOf, binBool, effBin, effUn, effPick, effExtract, ivs, svs, rowOf, allParts, effBuildSlice, zeroRow, effMakeSlice, elemSz, idxA, idxS, effIndex, lenOf, readOf, subPre, maxRow, plainTI, appTo, effAppend, slcOf, effSlice, argOf, resA, resL, resV, outWr, nodupB, restOk, argsPre, argOk, callWr, effCall, effMax, wrHs, disj, AV.hs, A0.hs, Entry.hs, RC.elem, RC.sz, RC.len, RC.slice, RC.app, hA, initFr, initMem, initSt, resOf, resAll, compEq, compsEq, rowHs, outHds, outsEq, shapeOk, finOk, comps, A0.norm, AV.norm, specOf, t_int, t_bool, t_implForm, t_lawsForm, t_implMatrix, t_implPoint, ts_int, ts_bool, ts_implForm, ts_implPoint, ts_implMatrix, Option.getD_some, Option.getD_none, cond_true, cond_false, Nat.reduceBEq, List.map_cons, List.map_nil, List.set_cons_zero, List.set_cons_succ, List.getElem?_cons_zero, List.getElem?_cons_succ, List.drop_zero, List.drop_succ_cons, List.take_succ_cons, List.take_zero, Option.map_some, Option.map_none, Option.bind_some, Nat.zero_add, Nat.add_zero, Nat.reduceAdd, Nat.reduceMul, true_and, and_true, List.replicate_succ, List.replicate_zero, List.length_cons, List.length_nil, List.all_cons, List.all_nil, List.any_cons, List.any_nil, Bool.and_true, Bool.true_and, Bool.and_false, Bool.false_and, Bool.or_true, Bool.true_or, Bool.or_false, Bool.false_or, Bool.not_true, Bool.not_false, List.append_nil, List.nil_append, List.cons_append, List.flatMap_cons, List.flatMap_nil, List.contains_cons, List.contains_nil, List.filter_cons, List.filter_nil, beq_self_eq_true, Bool.not_eq_true, A0.b.injEq, A0.i.injEq, A0.s.injEq, A0.rw.injEq, A0.fn.injEq, List.cons.injEq, RC.ints.injEq, RC.recs.injEq, RC.bools.injEq, AV.one.injEq, AV.tup.injEq, ble_dec, blt_dec, Nat.reduceLeDiff, Nat.reduceSub, decide_true, decide_false, and_self, List.toList_toArray, Option.isSome_some, Option.isSome_none, List.elem_nil, List.elem_cons, ite_true, ite_false, Bool.false_eq_true, if_true, if_false, reduceIte, flatB_2, flatB_3, flatB_4, List.headD_cons, List.tail_cons, c1, prK_end]
abbrev fThProduct : Nat := 81
def cThProduct : Ctr
  | [.rw (.ints e l), .rw (.ints e' m)] => some ⟨PrPre l m, .one (.rw (.ints 3 (prdL l m l.length))), []⟩
  | _ => none
theorem okThProduct : CtrOk Try.prog fThProduct cThProduct := by
  have hsp : SpecOk Try.prog (specOf [(fLLeast, cLLeast)]) := (SpecOk.cons okLLeast SpecOk.nil)
  refine ctr_of (fn := Try.f81) mixed tab_ok hsp Try.func81 (by kernel_rfl) (by kernel_rfl) fun args ce h => ?_
  clear hsp
  unfold cThProduct at h
  split at h
  case h_2 => cases h
  rename_i e l e' m
  simp only [Option.some.injEq] at h
  subst h
  refine ⟨by rfl, fun hp => ⟨2, 1000, ?_⟩⟩
  simp only [↓cond_to_ite, ↓reduceIte, vc, out, step, stepE, stepPick, stepG, stepO, stepC, eff, look, rem, St.put, St.setMem, setMems, St.after, St.eval, cst, setAt, val1, okNew, newHs, allHs, rdOf, outHs, Reg.item, Reg.next, Reg.skip, slotOf, effBox, effAlloc, entryRow, fieldOff, effField, loadI, load1, loadR, effLoad, storeI, storeB, storeR, szOk, storeTo, effStore, buildOf, effBuild, binInt, eqI, boolOf, binBool, effBin, effUn, effPick, effExtract, ivs, svs, rowOf, allParts, effBuildSlice, zeroRow, effMakeSlice, elemSz, idxA, idxS, effIndex, lenOf, readOf, subPre, maxRow, plainTI, appTo, effAppend, slcOf, effSlice, argOf, resA, resL, resV, outWr, nodupB, restOk, argsPre, argOk, callWr, effCall, effMax, wrHs, disj, AV.hs, A0.hs, Entry.hs, RC.elem, RC.sz, RC.len, RC.slice, RC.app, hA, initFr, initMem, initSt, resOf, resAll, compEq, compsEq, rowHs, outHds, outsEq, shapeOk, finOk, comps, A0.norm, AV.norm, specOf, t_int, t_bool, t_implForm, t_lawsForm, t_implMatrix, t_implPoint, ts_int, ts_bool, ts_implForm, ts_implPoint, ts_implMatrix, Option.getD_some, Option.getD_none, cond_true, cond_false, Nat.reduceBEq, List.map_cons, List.map_nil, List.set_cons_zero, List.set_cons_succ, List.getElem?_cons_zero, List.getElem?_cons_succ, List.drop_zero, List.drop_succ_cons, List.take_succ_cons, List.take_zero, Option.map_some, Option.map_none, Option.bind_some, Nat.zero_add, Nat.add_zero, Nat.reduceAdd, Nat.reduceMul, true_and, and_true, List.replicate_succ, List.replicate_zero, List.length_cons, List.length_nil, List.all_cons, List.all_nil, List.any_cons, List.any_nil, Bool.and_true, Bool.true_and, Bool.and_false, Bool.false_and, Bool.or_true, Bool.true_or, Bool.or_false, Bool.false_or, Bool.not_true, Bool.not_false, List.append_nil, List.nil_append, List.cons_append, List.flatMap_cons, List.flatMap_nil, List.contains_cons, List.contains_nil, List.filter_cons, List.filter_nil, beq_self_eq_true, Bool.not_eq_true, A0.b.injEq, A0.i.injEq, A0.s.injEq, A0.rw.injEq, A0.fn.injEq, List.cons.injEq, RC.ints.injEq, RC.recs.injEq, RC.bools.injEq, AV.one.injEq, AV.tup.injEq, ble_dec, blt_dec, Nat.reduceLeDiff, Nat.reduceSub, decide_true, decide_false, and_self, List.toList_toArray, Option.isSome_some, Option.isSome_none, List.elem_nil, List.elem_cons, ite_true, ite_false, Bool.false_eq_true, if_true, if_false, reduceIte, flatB_2, flatB_3, flatB_4, List.headD_cons, List.tail_cons, cLLeast, fLLeast, Try.f81]
  obtain ⟨hlen, hn, hl, hm⟩ : PrPre l m := hp
  have e0 : min (l.length : Int) (m.length : Int) = (l.length : Int) := by omega
  rw [e0]
  refine ⟨by omega, ?_⟩
  have e1 : (l.length : Int).toNat = l.length := by omega
  rw [e1, ← prK_0 l m]
  refine lp_intro (fun k : Nat => ⟨[(0, .one (.row 1000000)), (1, .one (.row 1000001)), (5, .one (.row 13)), (14, .one (.row 13)), (15, .one (.i (l.length : Int))), (16, .one (.i k))], [(13, .row (.ints 3 (prK l m l.length k 0))), (1000000, .ro (.ints e l)), (1000001, .ro (.ints e' m))]⟩)
    (fun k => k ≤ l.length) (fun k => l.length - k) 0 [] (by omega) (by simp only [Cov, covOk, covFr, covMem, entEq, rn, nodupB, A0.ren, AV.ren, Entry.ren, Entry.norm, vc, out, step, stepE, stepPick, stepG, stepO, stepC, eff, look, rem, St.put, St.setMem, setMems, St.after, St.eval, cst, setAt, val1, okNew, newHs, allHs, rdOf, outHs, Reg.item, Reg.next, Reg.skip, slotOf, effBox, effAlloc, entryRow, fieldOff, effField, loadI, load1, loadR, effLoad, storeI, storeB, storeR, szOk, storeTo, effStore, buildOf, effBuild, binInt, eqI, boolOf, binBool, effBin, effUn, effPick, effExtract, ivs, svs, rowOf, allParts, effBuildSlice, zeroRow, effMakeSlice, elemSz, idxA, idxS, effIndex, lenOf, readOf, subPre, maxRow, plainTI, appTo, effAppend, slcOf, effSlice, argOf, resA, resL, resV, outWr, nodupB, restOk, argsPre, argOk, callWr, effCall, effMax, wrHs, disj, AV.hs, A0.hs, Entry.hs, RC.elem, RC.sz, RC.len, RC.slice, RC.app, hA, initFr, initMem, initSt, resOf, resAll, compEq, compsEq, rowHs, outHds, outsEq, shapeOk, finOk, comps, A0.norm, AV.norm, specOf, t_int, t_bool, t_implForm, t_lawsForm, t_implMatrix, t_implPoint, ts_int, ts_bool, ts_implForm, ts_implPoint, ts_implMatrix, Option.getD_some, Option.getD_none, cond_true, cond_false, Nat.reduceBEq, List.map_cons, List.map_nil, List.set_cons_zero, List.set_cons_succ, List.getElem?_cons_zero, List.getElem?_cons_succ, List.drop_zero, List.drop_succ_cons, List.take_succ_cons, List.take_zero, Option.map_some, Option.map_none, Option.bind_some, Nat.zero_add, Nat.add_zero, Nat.reduceAdd, Nat.reduceMul, true_and, and_true, List.replicate_succ, List.replicate_zero, List.length_cons, List.length_nil, List.all_cons, List.all_nil, List.any_cons, List.any_nil, Bool.and_true, Bool.true_and, Bool.and_false, Bool.false_and, Bool.or_true, Bool.true_or, Bool.or_false, Bool.false_or, Bool.not_true, Bool.not_false, List.append_nil, List.nil_append, List.cons_append, List.flatMap_cons, List.flatMap_nil, List.contains_cons, List.contains_nil, List.filter_cons, List.filter_nil, beq_self_eq_true, Bool.not_eq_true, A0.b.injEq, A0.i.injEq, A0.s.injEq, A0.rw.injEq, A0.fn.injEq, List.cons.injEq, RC.ints.injEq, RC.recs.injEq, RC.bools.injEq, AV.one.injEq, AV.tup.injEq, ble_dec, blt_dec, Nat.reduceLeDiff, Nat.reduceSub, decide_true, decide_false, and_self, List.toList_toArray, Option.isSome_some, Option.isSome_none, List.elem_nil, List.elem_cons, ite_true, ite_false, Bool.false_eq_true, if_true, if_false, reduceIte, flatB_2, flatB_3, flatB_4, List.headD_cons, List.tail_cons, prK_len]; simp) fun k hk J hJ => ⟨1000, ?_⟩
  by_cases g : k < l.length
  · have c1 : decide ((k : Int) < (l.length : Int)) = true := by simpa using g
    simp only [↓cond_to_ite, ↓reduceIte, vc, out, step, stepE, stepPick, stepG, stepO, stepC, eff, look, rem, St.put, St.setMem, setMems, St.after, St.eval, cst, setAt, val1, okNew, newHs, allHs, rdOf, outHs, Reg.item, Reg.next, Reg.skip, slotOf, effBox, effAlloc, entryRow, fieldOff, effField, loadI, load1, loadR, effLoad, storeI, storeB, storeR, szOk, storeTo, effStore, buildOf, effBuild, binInt, eqI, boolOf, binBool, effBin, effUn, effPick, effExtract, ivs, svs, rowOf, allParts, effBuildSlice, zeroRow, effMakeSlice, elemSz, idxA, idxS, effIndex, lenOf, readOf, subPre, maxRow, plainTI, appTo, effAppend, slcOf, effSlice, argOf, resA, resL, resV, outWr, nodupB, restOk, argsPre, argOk, callWr, effCall, effMax, wrHs, disj, AV.hs, A0.hs, Entry.hs, RC.elem, RC.sz, RC.len, RC.slice, RC.app, hA, initFr, initMem, initSt, resOf, resAll, compEq, compsEq, rowHs, outHds, outsEq, shapeOk, finOk, comps, A0.norm, AV.norm, specOf, t_int, t_bool, t_implForm, t_lawsForm, t_implMatrix, t_implPoint, ts_int, ts_bool, ts_implForm, ts_implPoint, ts_implMatrix, Option.getD_some, Option.getD_none, cond_true, cond_false, Nat.reduceBEq, List.map_cons, List.map_nil, List.set_cons_zero, List.set_cons_succ, List.getElem?_cons_zero, List.getElem?_cons_succ, List.drop_zero, List.drop_succ_cons, List.take_succ_cons, List.take_zero, Option.map_some, Option.map_none, Option.bind_some, Nat.zero_add, Nat.add_zero, Nat.reduceAdd, Nat.reduceMul, true_and, and_true, List.replicate_succ, List.replicate_zero, List.length_cons, List.length_nil, List.all_cons, List.all_nil, List.any_cons, List.any_nil, Bool.and_true, Bool.true_and, Bool.and_false, Bool.false_and, Bool.or_true, Bool.true_or, Bool.or_false, Bool.false_or, Bool.not_true, Bool.not_false, List.append_nil, List.nil_append, List.cons_append, List.flatMap_cons, List.flatMap_nil, List.contains_cons, List.contains_nil, List.filter_cons, List.filter_nil, beq_self_eq_true, Bool.not_eq_true, A0.b.injEq, A0.i.injEq, A0.s.injEq, A0.rw.injEq, A0.fn.injEq, List.cons.injEq, RC.ints.injEq, RC.recs.injEq, RC.bools.injEq, AV.one.injEq, AV.tup.injEq, ble_dec, blt_dec, Nat.reduceLeDiff, Nat.reduceSub, decide_true, decide_false, and_self, List.toList_toArray, Option.isSome_some, Option.isSome_none, List.elem_nil, List.elem_cons, ite_true, ite_false, Bool.false_eq_true, if_true, if_false, reduceIte, flatB_2, flatB_3, flatB_4, List.headD_cons, List.tail_cons, c1]
    refine lp_intro (fun j : Nat => ⟨[(0, .one (.row 1000000)), (1, .one (.row 1000001)), (5, .one (.row 13)), (14, .one (.row 13)), (15, .one (.i (l.length : Int))), (16, .one (.i k)), (6, .one (.i k)), (7, .one (.i j))], [(13, .row (.ints 3 (prK l m l.length k j))), (1000000, .ro (.ints e l)), (1000001, .ro (.ints e' m))]⟩)
      (fun j => j ≤ k + 1) (fun j => k + 1 - j) 0 [] (by omega) (by simp only [Cov, covOk, covFr, covMem, entEq, rn, nodupB, A0.ren, AV.ren, Entry.ren, Entry.norm, vc, out, step, stepE, stepPick, stepG, stepO, stepC, eff, look, rem, St.put, St.setMem, setMems, St.after, St.eval, cst, setAt, val1, okNew, newHs, allHs, rdOf, outHs, Reg.item, Reg.next, Reg.skip, slotOf, effBox, effAlloc, entryRow, fieldOff, effField, loadI, load1, loadR, effLoad, storeI, storeB, storeR, szOk, storeTo, effStore, buildOf, effBuild, binInt, eqI, boolOf, binBool, effBin, effUn, effPick, effExtract, ivs, svs, rowOf, allParts, effBuildSlice, zeroRow, effMakeSlice, elemSz, idxA, idxS, effIndex, lenOf, readOf, subPre, maxRow, plainTI, appTo, effAppend, slcOf, effSlice, argOf, resA, resL, resV, outWr, nodupB, restOk, argsPre, argOk, callWr, effCall, effMax, wrHs, disj, AV.hs, A0.hs, Entry.hs, RC.elem, RC.sz, RC.len, RC.slice, RC.app, hA, initFr, initMem, initSt, resOf, resAll, compEq, compsEq, rowHs, outHds, outsEq, shapeOk, finOk, comps, A0.norm, AV.norm, specOf, t_int, t_bool, t_implForm, t_lawsForm, t_implMatrix, t_implPoint, ts_int, ts_bool, ts_implForm, ts_implPoint, ts_implMatrix, Option.getD_some, Option.getD_none, cond_true, cond_false, Nat.reduceBEq, List.map_cons, List.map_nil, List.set_cons_zero, List.set_cons_succ, List.getElem?_cons_zero, List.getElem?_cons_succ, List.drop_zero, List.drop_succ_cons, List.take_succ_cons, List.take_zero, Option.map_some, Option.map_none, Option.bind_some, Nat.zero_add, Nat.add_zero, Nat.reduceAdd, Nat.reduceMul, true_and, and_true, List.replicate_succ, List.replicate_zero, List.length_cons, List.length_nil, List.all_cons, List.all_nil, List.any_cons, List.any_nil, Bool.and_true, Bool.true_and, Bool.and_false, Bool.false_and, Bool.or_true, Bool.true_or, Bool.or_false, Bool.false_or, Bool.not_true, Bool.not_false, List.append_nil, List.nil_append, List.cons_append, List.flatMap_cons, List.flatMap_nil, List.contains_cons, List.contains_nil, List.filter_cons, List.filter_nil, beq_self_eq_true, Bool.not_eq_true, A0.b.injEq, A0.i.injEq, A0.s.injEq, A0.rw.injEq, A0.fn.injEq, List.cons.injEq, RC.ints.injEq, RC.recs.injEq, RC.bools.injEq, AV.one.injEq, AV.tup.injEq, ble_dec, blt_dec, Nat.reduceLeDiff, Nat.reduceSub, decide_true, decide_false, and_self, List.toList_toArray, Option.isSome_some, Option.isSome_none, List.elem_nil, List.elem_cons, ite_true, ite_false, Bool.false_eq_true, if_true, if_false, reduceIte, flatB_2, flatB_3, flatB_4, List.headD_cons, List.tail_cons]; simp) fun j hj J2 hJ2 => ⟨1000, ?_⟩
    by_cases g2 : j ≤ k
    · have c2 : decide ((j : Int) ≤ (k : Int)) = true := by simpa using g2
      have w1 : wrap64 ((k : Int) - (j : Int)) = ((k - j : Nat) : Int) := by rw [wrap_id (by omega) (by omega)]; omega
      have a := hl.get j
      have b := hm.get (k - j)
      have c := prS_small hl hm k j
      have q := mul_bd (a := l.getD j 0) (b := m.getD (k - j) 0) (j := 841) (k := 841) (by omega) (by omega) ⟨by omega, by omega⟩ ⟨by omega, by omega⟩
      have w2 : wrap64 (l.getD j 0 * m.getD (k - j) 0) = l.getD j 0 * m.getD (k - j) 0 := wrap_id (by omega) (by omega)
      have w3 : wrap64 (prS l m k j + l.getD j 0 * m.getD (k - j) 0) = prS l m k j + l.getD j 0 * m.getD (k - j) 0 := wrap_id (by omega) (by omega)
      simp only [↓cond_to_ite, ↓reduceIte, vc, out, step, stepE, stepPick, stepG, stepO, stepC, eff, look, rem, St.put, St.setMem, setMems, St.after, St.eval, cst, setAt, val1, okNew, newHs, allHs, rdOf, outHs, Reg.item, Reg.next, Reg.skip, slotOf, effBox, effAlloc, entryRow, fieldOff, effField, loadI, load1, loadR, effLoad, storeI, storeB, storeR, szOk, storeTo, effStore, buildOf, effBuild, binInt, eqI, boolOf, binBool, effBin, effUn, effPick, effExtract, ivs, svs, rowOf, allParts, effBuildSlice, zeroRow, effMakeSlice, elemSz, idxA, idxS, effIndex, lenOf, readOf, subPre, maxRow, plainTI, appTo, effAppend, slcOf, effSlice, argOf, resA, resL, resV, outWr, nodupB, restOk, argsPre, argOk, callWr, effCall, effMax, wrHs, disj, AV.hs, A0.hs, Entry.hs, RC.elem, RC.sz, RC.len, RC.slice, RC.app, hA, initFr, initMem, initSt, resOf, resAll, compEq, compsEq, rowHs, outHds, outsEq, shapeOk, finOk, comps, A0.norm, AV.norm, specOf, t_int, t_bool, t_implForm, t_lawsForm, t_implMatrix, t_implPoint, ts_int, ts_bool, ts_implForm, ts_implPoint, ts_implMatrix, Option.getD_some, Option.getD_none, cond_true, cond_false, Nat.reduceBEq, List.map_cons, List.map_nil, List.set_cons_zero, List.set_cons_succ, List.getElem?_cons_zero, List.getElem?_cons_succ, List.drop_zero, List.drop_succ_cons, List.take_succ_cons, List.take_zero, Option.map_some, Option.map_none, Option.bind_some, Nat.zero_add, Nat.add_zero, Nat.reduceAdd, Nat.reduceMul, true_and, and_true, List.replicate_succ, List.replicate_zero, List.length_cons, List.length_nil, List.all_cons, List.all_nil, List.any_cons, List.any_nil, Bool.and_true, Bool.true_and, Bool.and_false, Bool.false_and, Bool.or_true, Bool.true_or, Bool.or_false, Bool.false_or, Bool.not_true, Bool.not_false, List.append_nil, List.nil_append, List.cons_append, List.flatMap_cons, List.flatMap_nil, List.contains_cons, List.contains_nil, List.filter_cons, List.filter_nil, beq_self_eq_true, Bool.not_eq_true, A0.b.injEq, A0.i.injEq, A0.s.injEq, A0.rw.injEq, A0.fn.injEq, List.cons.injEq, RC.ints.injEq, RC.recs.injEq, RC.bools.injEq, AV.one.injEq, AV.tup.injEq, ble_dec, blt_dec, Nat.reduceLeDiff, Nat.reduceSub, decide_true, decide_false, and_self, List.toList_toArray, Option.isSome_some, Option.isSome_none, List.elem_nil, List.elem_cons, ite_true, ite_false, Bool.false_eq_true, if_true, if_false, reduceIte, flatB_2, flatB_3, flatB_4, List.headD_cons, List.tail_cons, c2, Int.toNat_natCast, w1, prK_len, prK_get l m j g, w2, w3, prK_set l m j g]
      refine ⟨⟨by omega, by omega⟩, by omega, ⟨by omega, by omega⟩, by omega, ⟨by omega, by omega⟩, by omega, ⟨by omega, by omega⟩, by omega, by kernel_rfl, hJ2 _ (j + 1) [] (by omega) (by omega) (by simp only [Cov, covOk, covFr, covMem, entEq, rn, nodupB, A0.ren, AV.ren, Entry.ren, Entry.norm, vc, out, step, stepE, stepPick, stepG, stepO, stepC, eff, look, rem, St.put, St.setMem, setMems, St.after, St.eval, cst, setAt, val1, okNew, newHs, allHs, rdOf, outHs, Reg.item, Reg.next, Reg.skip, slotOf, effBox, effAlloc, entryRow, fieldOff, effField, loadI, load1, loadR, effLoad, storeI, storeB, storeR, szOk, storeTo, effStore, buildOf, effBuild, binInt, eqI, boolOf, binBool, effBin, effUn, effPick, effExtract, ivs, svs, rowOf, allParts, effBuildSlice, zeroRow, effMakeSlice, elemSz, idxA, idxS, effIndex, lenOf, readOf, subPre, maxRow, plainTI, appTo, effAppend, slcOf, effSlice, argOf, resA, resL, resV, outWr, nodupB, restOk, argsPre, argOk, callWr, effCall, effMax, wrHs, disj, AV.hs, A0.hs, Entry.hs, RC.elem, RC.sz, RC.len, RC.slice, RC.app, hA, initFr, initMem, initSt, resOf, resAll, compEq, compsEq, rowHs, outHds, outsEq, shapeOk, finOk, comps, A0.norm, AV.norm, specOf, t_int, t_bool, t_implForm, t_lawsForm, t_implMatrix, t_implPoint, ts_int, ts_bool, ts_implForm, ts_implPoint, ts_implMatrix, Option.getD_some, Option.getD_none, cond_true, cond_false, Nat.reduceBEq, List.map_cons, List.map_nil, List.set_cons_zero, List.set_cons_succ, List.getElem?_cons_zero, List.getElem?_cons_succ, List.drop_zero, List.drop_succ_cons, List.take_succ_cons, List.take_zero, Option.map_some, Option.map_none, Option.bind_some, Nat.zero_add, Nat.add_zero, Nat.reduceAdd, Nat.reduceMul, true_and, and_true, List.replicate_succ, List.replicate_zero, List.length_cons, List.length_nil, List.all_cons, List.all_nil, List.any_cons, List.any_nil, Bool.and_true, Bool.true_and, Bool.and_false, Bool.false_and, Bool.or_true, Bool.true_or, Bool.or_false, Bool.false_or, Bool.not_true, Bool.not_false, List.append_nil, List.nil_append, List.cons_append, List.flatMap_cons, List.flatMap_nil, List.contains_cons, List.contains_nil, List.filter_cons, List.filter_nil, beq_self_eq_true, Bool.not_eq_true, A0.b.injEq, A0.i.injEq, A0.s.injEq, A0.rw.injEq, A0.fn.injEq, List.cons.injEq, RC.ints.injEq, RC.recs.injEq, RC.bools.injEq, AV.one.injEq, AV.tup.injEq, ble_dec, blt_dec, Nat.reduceLeDiff, Nat.reduceSub, decide_true, decide_false, and_self, List.toList_toArray, Option.isSome_some, Option.isSome_none, List.elem_nil, List.elem_cons, ite_true, ite_false, Bool.false_eq_true, if_true, if_false, reduceIte, flatB_2, flatB_3, flatB_4, List.headD_cons, List.tail_cons, wsucc (n := j) (m := 1000) (by omega) (by omega)])⟩
    · have c2 : decide ((j : Int) ≤ (k : Int)) = false := by simpa using g2
      have hje : j = k + 1 := by omega
      subst hje
      simp only [↓cond_to_ite, ↓reduceIte, vc, out, step, stepE, stepPick, stepG, stepO, stepC, eff, look, rem, St.put, St.setMem, setMems, St.after, St.eval, cst, setAt, val1, okNew, newHs, allHs, rdOf, outHs, Reg.item, Reg.next, Reg.skip, slotOf, effBox, effAlloc, entryRow, fieldOff, effField, loadI, load1, loadR, effLoad, storeI, storeB, storeR, szOk, storeTo, effStore, buildOf, effBuild, binInt, eqI, boolOf, binBool, effBin, effUn, effPick, effExtract, ivs, svs, rowOf, allParts, effBuildSlice, zeroRow, effMakeSlice, elemSz, idxA, idxS, effIndex, lenOf, readOf, subPre, maxRow, plainTI, appTo, effAppend, slcOf, effSlice, argOf, resA, resL, resV, outWr, nodupB, restOk, argsPre, argOk, callWr, effCall, effMax, wrHs, disj, AV.hs, A0.hs, Entry.hs, RC.elem, RC.sz, RC.len, RC.slice, RC.app, hA, initFr, initMem, initSt, resOf, resAll, compEq, compsEq, rowHs, outHds, outsEq, shapeOk, finOk, comps, A0.norm, AV.norm, specOf, t_int, t_bool, t_implForm, t_lawsForm, t_implMatrix, t_implPoint, ts_int, ts_bool, ts_implForm, ts_implPoint, ts_implMatrix, Option.getD_some, Option.getD_none, cond_true, cond_false, Nat.reduceBEq, List.map_cons, List.map_nil, List.set_cons_zero, List.set_cons_succ, List.getElem?_cons_zero, List.getElem?_cons_succ, List.drop_zero, List.drop_succ_cons, List.take_succ_cons, List.take_zero, Option.map_some, Option.map_none, Option.bind_some, Nat.zero_add, Nat.add_zero, Nat.reduceAdd, Nat.reduceMul, true_and, and_true, List.replicate_succ, List.replicate_zero, List.length_cons, List.length_nil, List.all_cons, List.all_nil, List.any_cons, List.any_nil, Bool.and_true, Bool.true_and, Bool.and_false, Bool.false_and, Bool.or_true, Bool.true_or, Bool.or_false, Bool.false_or, Bool.not_true, Bool.not_false, List.append_nil, List.nil_append, List.cons_append, List.flatMap_cons, List.flatMap_nil, List.contains_cons, List.contains_nil, List.filter_cons, List.filter_nil, beq_self_eq_true, Bool.not_eq_true, A0.b.injEq, A0.i.injEq, A0.s.injEq, A0.rw.injEq, A0.fn.injEq, List.cons.injEq, RC.ints.injEq, RC.recs.injEq, RC.bools.injEq, AV.one.injEq, AV.tup.injEq, ble_dec, blt_dec, Nat.reduceLeDiff, Nat.reduceSub, decide_true, decide_false, and_self, List.toList_toArray, Option.isSome_some, Option.isSome_none, List.elem_nil, List.elem_cons, ite_true, ite_false, Bool.false_eq_true, if_true, if_false, reduceIte, flatB_2, flatB_3, flatB_4, List.headD_cons, List.tail_cons, c2]
      exact hJ _ (k + 1) [] g (by omega) (by simp only [Cov, covOk, covFr, covMem, entEq, rn, nodupB, A0.ren, AV.ren, Entry.ren, Entry.norm, vc, out, step, stepE, stepPick, stepG, stepO, stepC, eff, look, rem, St.put, St.setMem, setMems, St.after, St.eval, cst, setAt, val1, okNew, newHs, allHs, rdOf, outHs, Reg.item, Reg.next, Reg.skip, slotOf, effBox, effAlloc, entryRow, fieldOff, effField, loadI, load1, loadR, effLoad, storeI, storeB, storeR, szOk, storeTo, effStore, buildOf, effBuild, binInt, eqI, boolOf, binBool, effBin, effUn, effPick, effExtract, ivs, svs, rowOf, allParts, effBuildSlice, zeroRow, effMakeSlice, elemSz, idxA, idxS, effIndex, lenOf, readOf, subPre, maxRow, plainTI, appTo, effAppend, slcOf, effSlice, argOf, resA, resL, resV, outWr, nodupB, restOk, argsPre, argOk, callWr, effCall, effMax, wrHs, disj, AV.hs, A0.hs, Entry.hs, RC.elem, RC.sz, RC.len, RC.slice, RC.app, hA, initFr, initMem, initSt, resOf, resAll, compEq, compsEq, rowHs, outHds, outsEq, shapeOk, finOk, comps, A0.norm, AV.norm, specOf, t_int, t_bool, t_implForm, t_lawsForm, t_implMatrix, t_implPoint, ts_int, ts_bool, ts_implForm, ts_implPoint, ts_implMatrix, Option.getD_some, Option.getD_none, cond_true, cond_false, Nat.reduceBEq, List.map_cons, List.map_nil, List.set_cons_zero, List.set_cons_succ, List.getElem?_cons_zero, List.getElem?_cons_succ, List.drop_zero, List.drop_succ_cons, List.take_succ_cons, List.take_zero, Option.map_some, Option.map_none, Option.bind_some, Nat.zero_add, Nat.add_zero, Nat.reduceAdd, Nat.reduceMul, true_and, and_true, List.replicate_succ, List.replicate_zero, List.length_cons, List.length_nil, List.all_cons, List.all_nil, List.any_cons, List.any_nil, Bool.and_true, Bool.true_and, Bool.and_false, Bool.false_and, Bool.or_true, Bool.true_or, Bool.or_false, Bool.false_or, Bool.not_true, Bool.not_false, List.append_nil, List.nil_append, List.cons_append, List.flatMap_cons, List.flatMap_nil, List.contains_cons, List.contains_nil, List.filter_cons, List.filter_nil, beq_self_eq_true, Bool.not_eq_true, A0.b.injEq, A0.i.injEq, A0.s.injEq, A0.rw.injEq, A0.fn.injEq, List.cons.injEq, RC.ints.injEq, RC.recs.injEq, RC.bools.injEq, AV.one.injEq, AV.tup.injEq, ble_dec, blt_dec, Nat.reduceLeDiff, Nat.reduceSub, decide_true, decide_false, and_self, List.toList_toArray, Option.isSome_some, Option.isSome_none, List.elem_nil, List.elem_cons, ite_true, ite_false, Bool.false_eq_true, if_true, if_false, reduceIte, flatB_2, flatB_3, flatB_4, List.headD_cons, List.tail_cons, wsucc g (by omega), prK_next])
  · have c1 : decide ((k : Int) < (l.length : Int)) = false := by simpa using g
    have hke : k = l.length := by omega
    subst hke
    simp only [↓cond_to_ite, ↓reduceIte, vc, out, step, stepE, stepPick, stepG, stepO, stepC, eff, look, rem, St.put, St.setMem, setMems, St.after, St.eval, cst, setAt, val1, okNew, newHs, allHs, rdOf, outHs, Reg.item, Reg.next, Reg.skip, slotOf, effBox, effAlloc, entryRow, fieldOff, effField, loadI, load1, loadR, effLoad, storeI, storeB, storeR, szOk, storeTo, effStore, buildOf, effBuild, binInt, eqI, boolOf, binBool, effBin, effUn, effPick, effExtract, ivs, svs, rowOf, allParts, effBuildSlice, zeroRow, effMakeSlice, elemSz, idxA, idxS, effIndex, lenOf, readOf, subPre, maxRow, plainTI, appTo, effAppend, slcOf, effSlice, argOf, resA, resL, resV, outWr, nodupB, restOk, argsPre, argOk, callWr, effCall, effMax, wrHs, disj, AV.hs, A0.hs, Entry.hs, RC.elem, RC.sz, RC.len, RC.slice, RC.app, hA, initFr, initMem, initSt, resOf, resAll, compEq, compsEq, rowHs, outHds, outsEq, shapeOk, finOk, comps, A0.norm, AV.norm, specOf, t_int, t_bool, t_implForm, t_lawsForm, t_implMatrix, t_implPoint, ts_int, ts_bool, ts_implForm, ts_implPoint, ts_implMatrix, Option.getD_some, Option.getD_none, cond_true, cond_false, Nat.reduceBEq, List.map_cons, List.map_nil, List.set_cons_zero, List.set_cons_succ, List.getElem?_cons_zero, List.getElem?_cons_succ, List.drop_zero, List.drop_succ_cons, List.take_succ_cons, List.take_zero, Option.map_some, Option.map_none, Option.bind_some, Nat.zero_add, Nat.add_zero, Nat.reduceAdd, Nat.reduceMul, true_and, and_true, List.replicate_succ, List.replicate_zero, List.length_cons, List.length_nil, List.all_cons, List.all_nil, List.any_cons, List.any_nil, Bool.and_true, Bool.true_and, Bool.and_false, Bool.false_and, Bool.or_true, Bool.true_or, Bool.or_false, Bool.false_or, Bool.not_true, Bool.not_false, List.append_nil, List.nil_append, List.cons_append, List.flatMap_cons, List.flatMap_nil, List.contains_cons, List.contains_nil, List.filter_cons, List.filter_nil, beq_self_eq_true, Bool.not_eq_true, A0.b.injEq, A0.i.injEq, A0.s.injEq, A0.rw.injEq, A0.fn.injEq, List.cons.injEq, RC.ints.injEq, RC.recs.injEq, RC.bools.injEq, AV.one.injEq, AV.tup.injEq, ble_dec, blt_dec, Nat.reduceLeDiff, Nat.reduceSub, decide_true, decide_false, and_self, List.toList_toArray, Option.isSome_some, Option.isSome_none, List.elem_nil, List.elem_cons, ite_true, ite_false, Bool.false_eq_true, if_true, if_false, reduceIte, flatB_2, flatB_3, flatB_4, List.headD_cons, List.tail_cons, c1, prK_end]
theorem ts_sm {a b c n : Int} (h : shownB a b c = true) (hn : 0 ≤ n ∧ n ≤ 100) : Sm (tsL a b c n) := by
  obtain ⟨_, hv, hb, hc⟩ := th_pre h
  have hth := cntV_theta (n := n.toNat) hv (by omega) hb hc
  have e : ((n.toNat : Nat) : Int) = n := by omega
  rw [e] at hth
  have e2 : tsL a b c n = cntV (rdA a b c, rdB a b c, rdC a b c) n.toNat (boxL (rdA a b c) (rdC a b c) (2 * n) 0) := hth.symm
  rw [e2]
  constructor
  · intro x hx
    unfold cntV at hx
    obtain ⟨m, _, rfl⟩ := List.mem_map.1 hx
    omega
  · have h1 := filter_sum (f := (rdA a b c, rdB a b c, rdC a b c)) (boxL (rdA a b c) (rdC a b c) (2 * n) 0) (n.toNat + 1)
    have h2 := boxL_cnt (A := rdA a b c) (C := rdC a b c) (N := 2 * n) (x := 0) (by omega)
    have h3 : 29 * (2 * (15 - (0 : Int)).toNat - (if (0 : Int) = 0 then 1 else 0)) = 841 := by decide
    rw [h3] at h2
    unfold cntV
    omega
theorem pr_pre {a b c x y z n : Int} (h1 : shownB a b c = true) (h2 : shownB x y z = true) (hn : 0 ≤ n ∧ n ≤ 100) : PrPre (tsL a b c n) (tsL x y z n) :=
  ⟨by rw [tsL_len, tsL_len], by rw [tsL_len]; omega, ts_sm h1 hn, ts_sm h2 hn⟩
theorem pr_are {l m : List Int} (h : PrPre l m) : (prdL l m l.length).all areB = true := by
  rw [List.all_eq_true]
  intro x hx
  obtain ⟨t, _, rfl⟩ := List.mem_map.1 hx
  have := prS_small h.l1 h.m1 t (t + 1)
  rw [areB_iff]; omega
theorem prdL_len (l m : List Int) (N : Nat) : (prdL l m N).length = N := by simp [prdL]
abbrev fChecked2 : Nat := 82
def cChecked2 : Ctr
  | [.rw (.ints e l)] => some ⟨l.all areB = true ∧ l.length ≤ 1000000000, .tup [.rw (.ints e l), .b true], [(0, none)]⟩
  | _ => none
theorem okChecked2 : CtrOk Try.prog fChecked2 cChecked2 := by
  have hsp : SpecOk Try.prog (specOf [(fAre, cAre)]) := (SpecOk.cons okAre SpecOk.nil)
  refine ctr_of (fn := Try.f82) mixed tab_ok hsp Try.func82 (by kernel_rfl) (by kernel_rfl) fun args ce h => ?_
  clear hsp
  unfold cChecked2 at h
  split at h
  case h_2 => cases h
  rename_i e l
  simp only [Option.some.injEq] at h
  subst h
  refine ⟨by rfl, fun hp => ⟨0, 1000, ?_⟩⟩
  simp only [↓cond_to_ite, ↓reduceIte, vc, out, step, stepE, stepPick, stepG, stepO, stepC, eff, look, rem, St.put, St.setMem, setMems, St.after, St.eval, cst, setAt, val1, okNew, newHs, allHs, rdOf, outHs, Reg.item, Reg.next, Reg.skip, slotOf, effBox, effAlloc, entryRow, fieldOff, effField, loadI, load1, loadR, effLoad, storeI, storeB, storeR, szOk, storeTo, effStore, buildOf, effBuild, binInt, eqI, boolOf, binBool, effBin, effUn, effPick, effExtract, ivs, svs, rowOf, allParts, effBuildSlice, zeroRow, effMakeSlice, elemSz, idxA, idxS, effIndex, lenOf, readOf, subPre, maxRow, plainTI, appTo, effAppend, slcOf, effSlice, argOf, resA, resL, resV, outWr, nodupB, restOk, argsPre, argOk, callWr, effCall, effMax, wrHs, disj, AV.hs, A0.hs, Entry.hs, RC.elem, RC.sz, RC.len, RC.slice, RC.app, hA, initFr, initMem, initSt, resOf, resAll, compEq, compsEq, rowHs, outHds, outsEq, shapeOk, finOk, comps, A0.norm, AV.norm, specOf, t_int, t_bool, t_implForm, t_lawsForm, t_implMatrix, t_implPoint, ts_int, ts_bool, ts_implForm, ts_implPoint, ts_implMatrix, Option.getD_some, Option.getD_none, cond_true, cond_false, Nat.reduceBEq, List.map_cons, List.map_nil, List.set_cons_zero, List.set_cons_succ, List.getElem?_cons_zero, List.getElem?_cons_succ, List.drop_zero, List.drop_succ_cons, List.take_succ_cons, List.take_zero, Option.map_some, Option.map_none, Option.bind_some, Nat.zero_add, Nat.add_zero, Nat.reduceAdd, Nat.reduceMul, true_and, and_true, List.replicate_succ, List.replicate_zero, List.length_cons, List.length_nil, List.all_cons, List.all_nil, List.any_cons, List.any_nil, Bool.and_true, Bool.true_and, Bool.and_false, Bool.false_and, Bool.or_true, Bool.true_or, Bool.or_false, Bool.false_or, Bool.not_true, Bool.not_false, List.append_nil, List.nil_append, List.cons_append, List.flatMap_cons, List.flatMap_nil, List.contains_cons, List.contains_nil, List.filter_cons, List.filter_nil, beq_self_eq_true, Bool.not_eq_true, A0.b.injEq, A0.i.injEq, A0.s.injEq, A0.rw.injEq, A0.fn.injEq, List.cons.injEq, RC.ints.injEq, RC.recs.injEq, RC.bools.injEq, AV.one.injEq, AV.tup.injEq, ble_dec, blt_dec, Nat.reduceLeDiff, Nat.reduceSub, decide_true, decide_false, and_self, List.toList_toArray, Option.isSome_some, Option.isSome_none, List.elem_nil, List.elem_cons, ite_true, ite_false, Bool.false_eq_true, if_true, if_false, reduceIte, flatB_2, flatB_3, flatB_4, List.headD_cons, List.tail_cons, cAre, fAre, Try.f82]
  obtain ⟨h1, h2⟩ : l.all areB = true ∧ l.length ≤ 1000000000 := hp
  rw [h1]
  exact ⟨h2, ite_prop (fun g => absurd g (by decide)) fun _ => by decide⟩
def psB (a b c x y z n : Int) : Bool := shownB a b c && (shownB x y z && inI n 0 100)
def psL (a b c x y z n : Int) : List Int := prdL (tsL a b c n) (tsL x y z n) (tsL a b c n).length
abbrev fPairS : Nat := 24
def cPairS : Ctr
  | [.s [a, b, c], .s [x, y, z], .i n] => some ⟨True, .tup [.rw (.ints 3 (onL (psB a b c x y z n) (psL a b c x y z n))), .b (psB a b c x y z n)], []⟩
  | _ => none
theorem okPairS : CtrOk Try.prog fPairS cPairS := by
  have hsp : SpecOk Try.prog (specOf [(fIsShown, cIsShown), (fIsTerms, cIsTerms), (fTheta, cTheta), (fProduct, cProduct), (fChecked2, cChecked2)]) := (SpecOk.cons okIsShown (SpecOk.cons okIsTerms (SpecOk.cons okTheta (SpecOk.cons okProduct (SpecOk.cons okChecked2 SpecOk.nil)))))
  refine ctr_of (fn := Try.f24) mixed tab_ok hsp Try.func24 (by kernel_rfl) (by kernel_rfl) fun args ce h => ?_
  clear hsp
  unfold cPairS at h
  split at h
  case h_2 => cases h
  rename_i a b c x y z n
  simp only [Option.some.injEq] at h
  subst h
  refine ⟨by rfl, fun hp => ⟨0, 1000, ?_⟩⟩
  simp only [↓cond_to_ite, ↓reduceIte, vc, out, step, stepE, stepPick, stepG, stepO, stepC, eff, look, rem, St.put, St.setMem, setMems, St.after, St.eval, cst, setAt, val1, okNew, newHs, allHs, rdOf, outHs, Reg.item, Reg.next, Reg.skip, slotOf, effBox, effAlloc, entryRow, fieldOff, effField, loadI, load1, loadR, effLoad, storeI, storeB, storeR, szOk, storeTo, effStore, buildOf, effBuild, binInt, eqI, boolOf, binBool, effBin, effUn, effPick, effExtract, ivs, svs, rowOf, allParts, effBuildSlice, zeroRow, effMakeSlice, elemSz, idxA, idxS, effIndex, lenOf, readOf, subPre, maxRow, plainTI, appTo, effAppend, slcOf, effSlice, argOf, resA, resL, resV, outWr, nodupB, restOk, argsPre, argOk, callWr, effCall, effMax, wrHs, disj, AV.hs, A0.hs, Entry.hs, RC.elem, RC.sz, RC.len, RC.slice, RC.app, hA, initFr, initMem, initSt, resOf, resAll, compEq, compsEq, rowHs, outHds, outsEq, shapeOk, finOk, comps, A0.norm, AV.norm, specOf, t_int, t_bool, t_implForm, t_lawsForm, t_implMatrix, t_implPoint, ts_int, ts_bool, ts_implForm, ts_implPoint, ts_implMatrix, Option.getD_some, Option.getD_none, cond_true, cond_false, Nat.reduceBEq, List.map_cons, List.map_nil, List.set_cons_zero, List.set_cons_succ, List.getElem?_cons_zero, List.getElem?_cons_succ, List.drop_zero, List.drop_succ_cons, List.take_succ_cons, List.take_zero, Option.map_some, Option.map_none, Option.bind_some, Nat.zero_add, Nat.add_zero, Nat.reduceAdd, Nat.reduceMul, true_and, and_true, List.replicate_succ, List.replicate_zero, List.length_cons, List.length_nil, List.all_cons, List.all_nil, List.any_cons, List.any_nil, Bool.and_true, Bool.true_and, Bool.and_false, Bool.false_and, Bool.or_true, Bool.true_or, Bool.or_false, Bool.false_or, Bool.not_true, Bool.not_false, List.append_nil, List.nil_append, List.cons_append, List.flatMap_cons, List.flatMap_nil, List.contains_cons, List.contains_nil, List.filter_cons, List.filter_nil, beq_self_eq_true, Bool.not_eq_true, A0.b.injEq, A0.i.injEq, A0.s.injEq, A0.rw.injEq, A0.fn.injEq, List.cons.injEq, RC.ints.injEq, RC.recs.injEq, RC.bools.injEq, AV.one.injEq, AV.tup.injEq, ble_dec, blt_dec, Nat.reduceLeDiff, Nat.reduceSub, decide_true, decide_false, and_self, List.toList_toArray, Option.isSome_some, Option.isSome_none, List.elem_nil, List.elem_cons, ite_true, ite_false, Bool.false_eq_true, if_true, if_false, reduceIte, flatB_2, flatB_3, flatB_4, List.headD_cons, List.tail_cons, cIsShown, fIsShown, cIsTerms, fIsTerms, cTheta, fTheta, cProduct, fProduct, cChecked2, fChecked2, Try.f24]
  unfold psB
  cases h : shownB a b c with
  | false => exact ite_prop (fun _ => ⟨by decide, rfl, rfl⟩) fun g => absurd rfl g
  | true =>
    refine ite_prop (fun g => absurd g (by decide)) fun _ => ?_
    cases h1 : shownB x y z with
    | false => exact ite_prop (fun _ => ⟨by decide, rfl, rfl⟩) fun g => absurd rfl g
    | true =>
      refine ite_prop (fun g => absurd g (by decide)) fun _ => ?_
      cases h2 : inI n 0 100 with
      | false => exact ite_prop (fun _ => ⟨by decide, rfl, rfl⟩) fun g => absurd rfl g
      | true =>
        refine ite_prop (fun g => absurd g (by decide)) fun _ => ?_
        have hn := inI_100 h2
        have hp2 := pr_pre h h1 hn
        have hal := pr_are hp2
        have e1 : 1 :: thL (rdA a b c, rdB a b c, rdC a b c) n 1 = tsL a b c n := rfl
        have e2 : 1 :: thL (rdA x y z, rdB x y z, rdC x y z) n 1 = tsL x y z n := rfl
        have e3 : (thL (rdA a b c, rdB a b c, rdC a b c) n 1).length + 1 = (tsL a b c n).length := rfl
        have t1 := th_pre h
        have t2 := th_pre h1
        rw [e1, e2, e3]
        exact ⟨⟨⟨t1.1, t1.2.1⟩, hn⟩, ⟨⟨t2.1, t2.2.1⟩, hn⟩, hp2, ⟨hal, by rw [prdL_len, tsL_len]; omega⟩, by kernel_rfl, by decide, rfl, rfl⟩
abbrev fSPairS : Nat := 23
def cSPairS : Ctr
  | [.s [a, b, c], .s [x, y, z], .i n] => some ⟨True, .tup [.rw (.ints 3 (onL (psB a b c x y z n) (psL a b c x y z n))), .b (psB a b c x y z n)], []⟩
  | _ => none
theorem okSPairS : CtrOk Try.prog fSPairS cSPairS := by
  have hsp : SpecOk Try.prog (specOf [(fVaForm, cVaForm), (fThTerms, cThTerms), (fThSeries, cThSeries), (fThProduct, cThProduct)]) := (SpecOk.cons okVaForm (SpecOk.cons okThTerms (SpecOk.cons okThSeries (SpecOk.cons okThProduct SpecOk.nil))))
  refine ctr_of (fn := Try.f23) mixed tab_ok hsp Try.func23 (by kernel_rfl) (by kernel_rfl) fun args ce h => ?_
  clear hsp
  unfold cSPairS at h
  split at h
  case h_2 => cases h
  rename_i a b c x y z n
  simp only [Option.some.injEq] at h
  subst h
  refine ⟨by rfl, fun hp => ⟨0, 1000, ?_⟩⟩
  simp only [↓cond_to_ite, ↓reduceIte, vc, out, step, stepE, stepPick, stepG, stepO, stepC, eff, look, rem, St.put, St.setMem, setMems, St.after, St.eval, cst, setAt, val1, okNew, newHs, allHs, rdOf, outHs, Reg.item, Reg.next, Reg.skip, slotOf, effBox, effAlloc, entryRow, fieldOff, effField, loadI, load1, loadR, effLoad, storeI, storeB, storeR, szOk, storeTo, effStore, buildOf, effBuild, binInt, eqI, boolOf, binBool, effBin, effUn, effPick, effExtract, ivs, svs, rowOf, allParts, effBuildSlice, zeroRow, effMakeSlice, elemSz, idxA, idxS, effIndex, lenOf, readOf, subPre, maxRow, plainTI, appTo, effAppend, slcOf, effSlice, argOf, resA, resL, resV, outWr, nodupB, restOk, argsPre, argOk, callWr, effCall, effMax, wrHs, disj, AV.hs, A0.hs, Entry.hs, RC.elem, RC.sz, RC.len, RC.slice, RC.app, hA, initFr, initMem, initSt, resOf, resAll, compEq, compsEq, rowHs, outHds, outsEq, shapeOk, finOk, comps, A0.norm, AV.norm, specOf, t_int, t_bool, t_implForm, t_lawsForm, t_implMatrix, t_implPoint, ts_int, ts_bool, ts_implForm, ts_implPoint, ts_implMatrix, Option.getD_some, Option.getD_none, cond_true, cond_false, Nat.reduceBEq, List.map_cons, List.map_nil, List.set_cons_zero, List.set_cons_succ, List.getElem?_cons_zero, List.getElem?_cons_succ, List.drop_zero, List.drop_succ_cons, List.take_succ_cons, List.take_zero, Option.map_some, Option.map_none, Option.bind_some, Nat.zero_add, Nat.add_zero, Nat.reduceAdd, Nat.reduceMul, true_and, and_true, List.replicate_succ, List.replicate_zero, List.length_cons, List.length_nil, List.all_cons, List.all_nil, List.any_cons, List.any_nil, Bool.and_true, Bool.true_and, Bool.and_false, Bool.false_and, Bool.or_true, Bool.true_or, Bool.or_false, Bool.false_or, Bool.not_true, Bool.not_false, List.append_nil, List.nil_append, List.cons_append, List.flatMap_cons, List.flatMap_nil, List.contains_cons, List.contains_nil, List.filter_cons, List.filter_nil, beq_self_eq_true, Bool.not_eq_true, A0.b.injEq, A0.i.injEq, A0.s.injEq, A0.rw.injEq, A0.fn.injEq, List.cons.injEq, RC.ints.injEq, RC.recs.injEq, RC.bools.injEq, AV.one.injEq, AV.tup.injEq, ble_dec, blt_dec, Nat.reduceLeDiff, Nat.reduceSub, decide_true, decide_false, and_self, List.toList_toArray, Option.isSome_some, Option.isSome_none, List.elem_nil, List.elem_cons, ite_true, ite_false, Bool.false_eq_true, if_true, if_false, reduceIte, flatB_2, flatB_3, flatB_4, List.headD_cons, List.tail_cons, cVaForm, fVaForm, cThTerms, fThTerms, cThSeries, fThSeries, cThProduct, fThProduct, Try.f23]
  unfold psB
  rw [sshown_eq, sshown_eq]
  cases h : shownB a b c with
  | false => exact ite_prop (fun _ => ⟨by decide, rfl, rfl⟩) fun g => absurd rfl g
  | true =>
    refine ite_prop (fun g => absurd g (by decide)) fun _ => ?_
    cases h1 : shownB x y z with
    | false => exact ite_prop (fun _ => ⟨by decide, rfl, rfl⟩) fun g => absurd rfl g
    | true =>
      refine ite_prop (fun g => absurd g (by decide)) fun _ => ?_
      cases h2 : inI n 0 100 with
      | false => exact ite_prop (fun _ => ⟨by decide, rfl, rfl⟩) fun g => absurd rfl g
      | true =>
        refine ite_prop (fun g => absurd g (by decide)) fun _ => ?_
        have hn := inI_100 h2
        have hp2 := pr_pre h h1 hn
        have hal := pr_are hp2
        have e1 : 1 :: thL (rdA a b c, rdB a b c, rdC a b c) n 1 = tsL a b c n := rfl
        have e2 : 1 :: thL (rdA x y z, rdB x y z, rdC x y z) n 1 = tsL x y z n := rfl
        have e3 : (thL (rdA a b c, rdB a b c, rdC a b c) n 1).length + 1 = (tsL a b c n).length := rfl
        have t1 := th_pre h
        have t2 := th_pre h1
        rw [e1, e2, e3]
        exact ⟨⟨t1, hn⟩, ⟨t2, hn⟩, hp2, by kernel_rfl, by decide, rfl, rfl⟩
abbrev fLawPairS : Nat := 5
def cLawPairS : Ctr
  | [.s [a, b, c], .s [x, y, z], .i n] => some ⟨True, .one (.b true), []⟩
  | _ => none
theorem okLawPairS : CtrOk Try.prog fLawPairS cLawPairS := by
  have hsp : SpecOk Try.prog (specOf [(fToForm, cToForm), (fSPairS, cSPairS), (fPairS, cPairS), (fEqIntS, cEqIntS), (fMarkIntS, cMarkIntS), (fHeldIntS, cHeldIntS)]) := (SpecOk.cons okToForm (SpecOk.cons okSPairS (SpecOk.cons okPairS (SpecOk.cons okEqIntS (SpecOk.cons okMarkIntS (SpecOk.cons okHeldIntS SpecOk.nil))))))
  refine ctr_of (fn := Try.f5) mixed tab_ok hsp Try.func5 (by kernel_rfl) (by kernel_rfl) fun args ce h => ?_
  clear hsp
  unfold cLawPairS at h
  split at h
  case h_2 => cases h
  rename_i a b c x y z n
  simp only [Option.some.injEq] at h
  subst h
  refine ⟨by rfl, fun hp => ⟨0, 1000, ?_⟩⟩
  simp only [vc, out, step, stepE, stepPick, stepG, stepO, stepC, eff, look, rem, St.put, St.setMem, setMems, St.after, St.eval, cst, setAt, val1, okNew, newHs, allHs, rdOf, outHs, Reg.item, Reg.next, Reg.skip, slotOf, effBox, effAlloc, entryRow, fieldOff, effField, loadI, load1, loadR, effLoad, storeI, storeB, storeR, szOk, storeTo, effStore, buildOf, effBuild, binInt, eqI, boolOf, binBool, effBin, effUn, effPick, effExtract, ivs, svs, rowOf, allParts, effBuildSlice, zeroRow, effMakeSlice, elemSz, idxA, idxS, effIndex, lenOf, readOf, subPre, maxRow, plainTI, appTo, effAppend, slcOf, effSlice, argOf, resA, resL, resV, outWr, nodupB, restOk, argsPre, argOk, callWr, effCall, effMax, wrHs, disj, AV.hs, A0.hs, Entry.hs, RC.elem, RC.sz, RC.len, RC.slice, RC.app, hA, initFr, initMem, initSt, resOf, resAll, compEq, compsEq, rowHs, outHds, outsEq, shapeOk, finOk, comps, A0.norm, AV.norm, specOf, t_int, t_bool, t_implForm, t_lawsForm, t_implMatrix, t_implPoint, ts_int, ts_bool, ts_implForm, ts_implPoint, ts_implMatrix, Option.getD_some, Option.getD_none, cond_true, cond_false, Nat.reduceBEq, List.map_cons, List.map_nil, List.set_cons_zero, List.set_cons_succ, List.getElem?_cons_zero, List.getElem?_cons_succ, List.drop_zero, List.drop_succ_cons, List.take_succ_cons, List.take_zero, Option.map_some, Option.map_none, Option.bind_some, Nat.zero_add, Nat.add_zero, Nat.reduceAdd, Nat.reduceMul, true_and, and_true, List.replicate_succ, List.replicate_zero, List.length_cons, List.length_nil, List.all_cons, List.all_nil, List.any_cons, List.any_nil, Bool.and_true, Bool.true_and, Bool.and_false, Bool.false_and, Bool.or_true, Bool.true_or, Bool.or_false, Bool.false_or, Bool.not_true, Bool.not_false, List.append_nil, List.nil_append, List.cons_append, List.flatMap_cons, List.flatMap_nil, List.contains_cons, List.contains_nil, List.filter_cons, List.filter_nil, beq_self_eq_true, Bool.not_eq_true, A0.b.injEq, A0.i.injEq, A0.s.injEq, A0.rw.injEq, A0.fn.injEq, List.cons.injEq, RC.ints.injEq, RC.recs.injEq, RC.bools.injEq, AV.one.injEq, AV.tup.injEq, ble_dec, blt_dec, Nat.reduceLeDiff, Nat.reduceSub, decide_true, decide_false, and_self, List.toList_toArray, Option.isSome_some, Option.isSome_none, List.elem_nil, List.elem_cons, ite_true, ite_false, Bool.false_eq_true, if_true, if_false, reduceIte, flatB_2, flatB_3, flatB_4, List.headD_cons, List.tail_cons, cToForm, fToForm, cSPairS, fSPairS, cPairS, fPairS, cEqIntS, fEqIntS, cMarkIntS, fMarkIntS, cHeldIntS, fHeldIntS, Try.f5]
  have hl : (onL (psB a b c x y z n) (psL a b c x y z n)).length ≤ 101 := by
    cases h : psB a b c x y z n with
    | false => simp [onL]
    | true =>
      unfold psB at h
      simp only [Bool.and_eq_true] at h
      have hn := inI_100 h.2.2
      show (psL a b c x y z n).length ≤ 101
      unfold psL
      rw [prdL_len, tsL_len]; omega
  simp only [rampI_length, bne_self_eq_false, cond_false, heldI_pos, and_true, true_and]
  exact ⟨by kernel_rfl, by kernel_rfl, by omega, by omega, by omega, by kernel_rfl, by omega, by omega⟩
end Go.Proofs.Ytbjaekddgkdhcaa
