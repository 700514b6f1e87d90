/-
  Contract of the points at which a form has a value, as the reference finds them: the same list. Conditions: none.
-/
import Derived.Test.YtacomnelongbjabPts
namespace Go.Proofs.Ytacomnelongbjab
open Go Go.RowKit
set_option maxRecDepth 100000
set_option linter.unusedSimpArgs false
set_option linter.unusedVariables false
set_option maxHeartbeats 4000000

/-! ### the order of points -/
def ltP (p q : P2) : Bool := decide (p.1 < q.1) || (p.1 == q.1 && decide (p.2 < q.2))
theorem ltP_iff {p q : P2} : ltP p q = true ↔ p.1 < q.1 ∨ (p.1 = q.1 ∧ p.2 < q.2) := by simp [ltP]
def SortedP (l : List P2) : Prop := l.Pairwise fun p q => ltP p q = true
theorem ltP_irr (p : P2) : ltP p p = false := by rw [← Bool.not_eq_true, ltP_iff]; omega
theorem ltP_trans {p q r : P2} (h1 : ltP p q = true) (h2 : ltP q r = true) : ltP p r = true := by rw [ltP_iff] at *; omega
theorem ltP_total {p q : P2} (h : ltP p q = false) (hne : p ≠ q) : ltP q p = true := by
  rw [← Bool.not_eq_true, ltP_iff] at h
  rw [ltP_iff]
  have : ¬ (p.1 = q.1 ∧ p.2 = q.2) := fun e => hne (Prod.ext e.1 e.2)
  omega
/-- two sorted lists with the same elements are equal -/
theorem sorted_ext : ∀ {l m : List P2}, SortedP l → SortedP m → (∀ p, p ∈ l ↔ p ∈ m) → l = m
  | [], [], _, _, _ => rfl
  | [], q :: m, _, _, h => by have := (h q).2 (by simp); cases this
  | p :: l, [], _, _, h => by have := (h p).1 (by simp); cases this
  | p :: l, q :: m, hl, hm, h => by
    obtain ⟨l1, l2⟩ := List.pairwise_cons.1 hl
    obtain ⟨m1, m2⟩ := List.pairwise_cons.1 hm
    have hpq : p = q := by
      have h1 := (h p).1 (by simp)
      have h2 := (h q).2 (by simp)
      simp only [List.mem_cons] at h1 h2
      rcases h1 with h1 | h1
      · exact h1
      · rcases h2 with h2 | h2
        · exact h2.symm
        · have := ltP_trans (l1 q h2) (m1 p h1)
          rw [ltP_irr] at this; cases this
    subst hpq
    rw [sorted_ext l2 m2 fun r => ?_]
    have h3 := h r
    simp only [List.mem_cons] at h3
    constructor
    · intro hr
      rcases h3.1 (.inr hr) with h4 | h4
      · subst h4
        have := l1 r hr
        rw [ltP_irr] at this; cases this
      · exact h4
    · intro hr
      rcases h3.2 (.inr hr) with h4 | h4
      · subst h4
        have := m1 r hr
        rw [ltP_irr] at this; cases this
      · exact h4
theorem px_sorted {f : F3} {n : Int} (hc : 0 < f.2.2) (x : Int) : SortedP (px f n x) := by
  unfold px
  split
  · generalize rootI (rtX f n x) = r
    unfold SortedP
    rw [List.pairwise_append]
    refine ⟨by split <;> simp, by split <;> simp, fun p hp q hq => ?_⟩
    split at hp
    case isFalse => cases hp
    rename_i h1
    split at hq
    case isFalse => cases hq
    rename_i h2
    simp only [List.mem_singleton] at hp hq
    subst hp hq
    rw [ltP_iff]
    right
    refine ⟨rfl, ?_⟩
    simp only
    have e1 := Int.mul_tdiv_add_tmod (-f.2.1 * x - r) (2 * f.2.2)
    have e2 := Int.mul_tdiv_add_tmod (-f.2.1 * x + r) (2 * f.2.2)
    rw [h1] at e1
    rw [h2.2] at e2
    by_cases hlt : (-f.2.1 * x - r).tdiv (2 * f.2.2) < (-f.2.1 * x + r).tdiv (2 * f.2.2)
    · exact hlt
    · exfalso
      have : 2 * f.2.2 * (-f.2.1 * x + r).tdiv (2 * f.2.2) ≤ 2 * f.2.2 * (-f.2.1 * x - r).tdiv (2 * f.2.2) := Int.mul_le_mul_of_nonneg_left (by omega) (by omega)
      omega
  · exact List.Pairwise.nil
theorem ptL_ge {f : F3} {n hi : Int} {p : P2} (x : Int) (h : p ∈ ptL f n hi x) : x ≤ p.1 := by
  fun_induction ptL f n hi x with
  | case1 x hx ih =>
    rw [List.mem_append] at h
    rcases h with h | h
    · have : p.1 = x := by
        unfold px at h
        split at h
        · rw [List.mem_append] at h
          rcases h with h | h <;> split at h <;> simp at h <;> simp [h]
        · cases h
      omega
    · have := ih h; omega
  | case2 x hx => cases h
theorem px_fst {f : F3} {n : Int} {p : P2} {x : Int} (h : p ∈ px f n x) : p.1 = x := by
  unfold px at h
  split at h
  · rw [List.mem_append] at h
    rcases h with h | h <;> split at h <;> simp at h <;> simp [h]
  · cases h
theorem ptL_sorted {f : F3} {n hi : Int} (hc : 0 < f.2.2) (x : Int) : SortedP (ptL f n hi x) := by
  fun_induction ptL f n hi x with
  | case1 x hx ih =>
    unfold SortedP
    rw [List.pairwise_append]
    refine ⟨px_sorted hc x, ih, fun p hp q hq => ?_⟩
    have h1 := px_fst hp
    have h2 := ptL_ge _ hq
    rw [ltP_iff]; omega
  | case2 x hx => exact List.Pairwise.nil
theorem ptI_sorted {f : F3} {n : Int} (hc : 0 < f.2.2) : SortedP (ptI f n) := ptL_sorted hc _

/-! ### insertion -/
def putP (l : List P2) (p : P2) : List P2 := l.takeWhile (ltP · p) ++ p :: l.dropWhile (ltP · p)
theorem mem_putP {l : List P2} {p q : P2} : q ∈ putP l p ↔ q = p ∨ q ∈ l := by
  unfold putP
  have h := List.takeWhile_append_dropWhile (p := (ltP · p)) (l := l)
  have : q ∈ l ↔ q ∈ l.takeWhile (ltP · p) ∨ q ∈ l.dropWhile (ltP · p) := by rw [← List.mem_append, h]
  rw [this, List.mem_append, List.mem_cons]
  constructor
  · rintro (h | h | h)
    · exact .inr (.inl h)
    · exact .inl h
    · exact .inr (.inr h)
  · rintro (h | h | h)
    · exact .inr (.inl h)
    · exact .inl h
    · exact .inr (.inr h)
theorem tw_all {l : List P2} {p q : P2} (h : q ∈ l.takeWhile (ltP · p)) : ltP q p = true := by
  induction l with
  | nil => cases h
  | cons a l ih =>
    rw [List.takeWhile_cons] at h
    split at h
    · simp only [List.mem_cons] at h
      rcases h with rfl | h
      · assumption
      · exact ih h
    · cases h
theorem dw_sorted {l : List P2} {p : P2} (hs : SortedP l) (hp : p ∉ l) : ∀ q ∈ l.dropWhile (ltP · p), ltP p q = true := by
  induction l with
  | nil => intro q h; cases h
  | cons a l ih =>
    obtain ⟨h1, h2⟩ := List.pairwise_cons.1 hs
    simp only [List.mem_cons, not_or] at hp
    rw [List.dropWhile_cons]
    split
    · exact ih h2 hp.2
    · rename_i hc
      have hc' : ltP a p = false := by simpa using hc
      have hpa := ltP_total hc' (fun e => hp.1 e.symm)
      intro q hq
      simp only [List.mem_cons] at hq
      rcases hq with rfl | hq
      · exact hpa
      · exact ltP_trans hpa (h1 q hq)
theorem putP_sorted {l : List P2} {p : P2} (hs : SortedP l) (hp : p ∉ l) : SortedP (putP l p) := by
  unfold putP SortedP
  have hd := dw_sorted hs hp
  have h := List.takeWhile_append_dropWhile (p := (ltP · p)) (l := l)
  have hs' : (l.takeWhile (ltP · p) ++ l.dropWhile (ltP · p)).Pairwise fun p q => ltP p q = true := by rw [h]; exact hs
  rw [List.pairwise_append] at hs'
  obtain ⟨s1, s2, s3⟩ := hs'
  rw [List.pairwise_append, List.pairwise_cons]
  refine ⟨s1, ⟨hd, s2⟩, fun a ha b hb => ?_⟩
  simp only [List.mem_cons] at hb
  rcases hb with rfl | hb
  · exact tw_all ha
  · exact s3 a ha b hb
theorem putP_len (l : List P2) (p : P2) : (putP l p).length = l.length + 1 := by
  have h := congrArg List.length (List.takeWhile_append_dropWhile (p := (ltP · p)) (l := l))
  unfold putP
  rw [List.length_append] at h ⊢
  rw [List.length_cons]
  omega
/-- where the first k elements are before p and the next one is not -/
theorem while_at {l : List P2} {p : P2} {k : Nat} (hk : k ≤ l.length) (h : ∀ j q, j < k → l[j]? = some q → ltP q p = true) (hs : ∀ q, l[k]? = some q → ltP q p = false) : l.takeWhile (ltP · p) = l.take k ∧ l.dropWhile (ltP · p) = l.drop k := by
  induction l generalizing k with
  | nil => simp
  | cons a l ih =>
    cases k with
    | zero =>
      have := hs a rfl
      simp [this]
    | succ k =>
      have h0 := h 0 a (by omega) rfl
      obtain ⟨i1, i2⟩ := ih (k := k) (by simpa using hk) (fun j q hj hq => h (j + 1) q (by omega) (by simpa using hq)) (fun q hq => hs q (by simpa using hq))
      simp [h0, i1, i2]
-- (not in this seat: VaHas)
abbrev fVaPut : Nat := 42
def cVaPut : Ctr
  | [.rw (.recs e 2 l), .s [x, y]] => some ⟨l.length ≤ 1000000000 ∧ wf2 l, .one (.rw (.recs 51 2 (fp (putP (unfp l) (x, y))))), []⟩
  | _ => none
theorem okVaPut : CtrOk Try.prog fVaPut cVaPut := by
  have hsp : SpecOk Try.prog (specOf []) := SpecOk.nil
  refine ctr_of (fn := Try.f42) mixed tab_ok hsp Try.func42 (by kernel_rfl) (by kernel_rfl) fun args ce h => ?_
  clear hsp
  unfold cVaPut at h
  split at h
  case h_2 => cases h
  rename_i e l x y
  simp only [Option.some.injEq] at h
  subst h
  refine ⟨by rfl, fun hp => ⟨1, 1000, ?_⟩⟩
  simp only [vc, out, Entry.toO, toOf, St.res, step, stepE, stepPick, stepO, eff, look, rem, St.put, St.setMem, setMems, St.after, St.eval, cst, val1, okNew, newHs, allHs, rdOf, Reg.item, Reg.next, effBox, RC.flat, effBox2, effBox3, effBox4, wrHs, disj, AV.hs, A0.hs, Entry.hs, hA, initFr, initMem, initSt, Option.getD_some, cond_true, cond_false, Nat.reduceBEq, List.map_cons, List.map_nil, Nat.zero_add, Nat.add_zero, true_and, List.all_cons, List.all_nil, List.any_nil, Bool.and_true, Bool.or_false, Bool.not_false, List.append_nil, List.nil_append, List.cons_append, List.flatMap_cons, List.flatMap_nil, List.contains_cons, List.contains_nil, List.filter_cons, List.filter_nil, beq_self_eq_true, List.toList_toArray, ite_true, Try.f42]
  obtain ⟨hp', hwf⟩ : l.length ≤ 1000000000 ∧ wf2 l := hp
  refine lp_intro (fun n : Nat => ⟨[(0, .one (.row 1000000)), (3, .one (.ref 3 0)), (5, .one (.i n))], [(1000000, .ro (.recs e 2 l)), (3, .ibox 51 [x, y])]⟩)
    (fun n => n ≤ l.length ∧ ∀ j q, j < n → (unfp l)[j]? = some q → ltP q (x, y) = true) (fun n => l.length - n) 0 [] ⟨Nat.zero_le _, fun j q h => by omega⟩ (by simp only [Cov, covOk, covFr, covMem, entEq, rn, nodupB, A0.ren, AV.ren, Entry.ren, Entry.norm, look, St.eval, A0.norm, AV.norm, Option.getD_some, Option.getD_none, cond_true, cond_false, Nat.reduceBEq, List.map_cons, List.map_nil, true_and, and_true, List.all_nil, Bool.and_true, Bool.or_false, Bool.not_false, List.contains_cons, List.contains_nil, beq_self_eq_true, A0.i.injEq, AV.one.injEq, and_self]; simp) fun n hn J hJ => ⟨1000, ?_⟩
  simp only [vc, out, finD, St.drop, vwAt, Entry.vwO, RC.vwO, Entry.toO, toOf, St.res, step, stepE, stepPick, stepG, stepO, stepC, eff, look, rem, St.put, St.setMem, setMems, St.after, St.eval, cst, val1, okNew, newHs, allHs, rdOf, outHs, Reg.item, Reg.next, Reg.skip, slotOf, entryRow, fieldOff, effField, loadI, loadR, effLoad, binInt, effBin, effPick, svs, rowOf, allParts, effBuildSlice, elemSz, idxS, effIndex, lenOf, readOf, subPre, maxRow, plainTI, appTo, effAppend, slcOf, effSlice, nodupB, RC.flat, effBuildSl, effLoad2, effField2, effAppend2, inHs, calleeHs, effField3, effLoad3, lenOf2, effIndex2, effBin2, wrHs, disj, AV.hs, A0.hs, Entry.hs, RC.elem, RC.sz, RC.len, RC.slice, RC.app, resOf, resAll, compEq, compsEq, rowHs, outHds, outsEq, shapeOk, finOk, comps, t_int, t_implPoint, ts_implPoint, Option.getD_some, cond_true, cond_false, Nat.reduceBEq, List.map_cons, List.map_nil, List.getElem?_cons_zero, List.getElem?_cons_succ, List.drop_zero, List.take_succ_cons, List.take_zero, Option.map_some, Option.map_none, Option.bind_some, Nat.zero_add, Nat.add_zero, Nat.reduceAdd, true_and, and_true, List.replicate_succ, List.replicate_zero, List.length_cons, List.length_nil, List.all_cons, List.all_nil, Bool.and_true, Bool.or_false, Bool.not_true, Bool.not_false, List.append_nil, List.nil_append, List.cons_append, List.flatMap_cons, List.flatMap_nil, List.contains_cons, List.contains_nil, List.filter_cons, List.filter_nil, beq_self_eq_true, RC.recs.injEq, ble_dec, blt_dec, Nat.reduceLeDiff, decide_true, Option.isSome_some, ite_true, ite_false, Bool.false_eq_true, fld2_0, fld2_1, Int.toNat_natCast]
  obtain ⟨hn, ht⟩ := hn
  have fin : (∀ q, (unfp l)[n]? = some q → ltP q (x, y) = false) → (0 ≤ (n : Int) ∧ (n : Int) ≤ (l.length : Int)) ∧ ((l.take n).length ≤ 100000000000 ∧ 0 ≤ n ∧ n ≤ l.length) ∧ (l.take n ++ [[x, y]]).length ≤ 100000000000 ∧ (0 ≤ (n : Int) ∧ (n : Int) ≤ (l.length : Int)) ∧
      ((l.take n ++ [[x, y]] ++ List.drop n (List.take l.length l)).length ≤ 100000000000 ∧ n ≤ l.length ∧ l.length ≤ l.length) ∧ l.take n ++ [[x, y]] ++ List.drop n (List.take l.length l) = fp (putP (unfp l) (x, y)) := by
    intro hs
    obtain ⟨e1, e2⟩ := while_at (l := unfp l) (p := (x, y)) (k := n) (by rw [unfp_length]; exact hn) ht hs
    refine ⟨by omega, ⟨by rw [List.length_take]; omega, by omega, hn⟩, by rw [List.length_append, List.length_take, List.length_singleton]; omega, by omega, ⟨by rw [List.length_append, List.length_append, List.length_take, List.length_singleton, List.length_drop, List.length_take]; omega, hn, Nat.le_refl _⟩, ?_⟩
    unfold putP
    rw [e1, e2, List.take_length, ← fp_append, ← fp_take, hwf, List.append_assoc]
    have e3 : fp ((x, y) :: (unfp l).drop n) = [[x, y]] ++ (fp (unfp l)).drop n := by rw [fp_drop]; rfl
    rw [e3, hwf]
  rw [bif_prop]
  refine ⟨fun hc => ?_, fun hc => ?_⟩
  · have hlt := ilt_iff.1 hc
    have hw := wsucc hlt (Nat.le_trans hp' (by omega))
    have hat := unfp_at hlt
    have next : ltP (nth2 l n) (x, y) = true → ∀ j q, j < n + 1 → (unfp l)[j]? = some q → ltP q (x, y) = true := fun h j q hj hq => by
      by_cases e : j = n
      · rw [e, hat] at hq; cases hq; exact h
      · exact ht j q (by omega) hq
    have stop : ltP (nth2 l n) (x, y) = false → ∀ q, (unfp l)[n]? = some q → ltP q (x, y) = false := fun h q hq => by rw [hat] at hq; cases hq; exact h
    refine ⟨⟨by omega, by omega⟩, hlt, hlt, ?_⟩
    rw [bif_prop]
    refine ⟨fun h1 => ⟨by kernel_rfl, hJ _ (n + 1) [] ⟨hlt, next (by unfold ltP; rw [h1]; rfl)⟩ (by omega) (by simp only [Cov, covOk, covFr, covMem, entEq, rn, nodupB, A0.ren, AV.ren, Entry.ren, Entry.norm, look, St.eval, A0.norm, AV.norm, Option.getD_some, Option.getD_none, cond_true, cond_false, Nat.reduceBEq, List.map_cons, List.map_nil, List.all_nil, Bool.and_true, Bool.or_false, Bool.not_false, List.contains_cons, List.contains_nil, beq_self_eq_true, and_self, hw])⟩, fun h1 => ⟨⟨by omega, by omega⟩, hlt, hlt, ?_⟩⟩
    rw [bif_prop]
    refine ⟨fun h2 => ⟨⟨by omega, by omega⟩, hlt, hlt, ?_⟩, fun h2 => ⟨by kernel_rfl, ?_⟩⟩
    · refine ⟨by kernel_rfl, ?_⟩
      rw [bif_prop]
      refine ⟨fun h3 => hJ _ (n + 1) [] ⟨hlt, next (by unfold ltP; rw [h1, h2, h3]; rfl)⟩ (by omega) (by simp only [Cov, covOk, covFr, covMem, entEq, rn, nodupB, A0.ren, AV.ren, Entry.ren, Entry.norm, look, St.eval, A0.norm, AV.norm, Option.getD_some, Option.getD_none, cond_true, cond_false, Nat.reduceBEq, List.map_cons, List.map_nil, List.all_nil, Bool.and_true, Bool.or_false, Bool.not_false, List.contains_cons, List.contains_nil, beq_self_eq_true, and_self, hw]), fun h3 => fin (stop (by unfold ltP; rw [h1, h2, h3]; rfl))⟩
    · exact fin (stop (by unfold ltP; rw [h1, h2]; rfl))
  · have := inlt_iff.1 hc
    refine ⟨by kernel_rfl, fin fun q hq => ?_⟩
    rw [List.getElem?_eq_none (by rw [unfp_length]; exact this)] at hq
    cases hq

/-! ### the reference's points -/
def rtY (f : F3) (n y : Int) : Int := dsc f * y * y + 4 * f.1 * n
def stepV (f : F3) (v r : Int) (o : List P2) : List P2 :=
  if (r - f.2.1 * v).tmod (2 * f.1) = 0 then (if ((r - f.2.1 * v).tdiv (2 * f.1), v) ∈ o then o else putP o ((r - f.2.1 * v).tdiv (2 * f.1), v)) else o
def iter2 {α : Type} (g : Int → α → α) (a b : Int) (q : Nat) (o : α) : α :=
  match q with
  | 0 => o
  | 1 => g a o
  | _ => g b (g a o)
theorem iter2_succ {α : Type} (g : Int → α → α) (a b : Int) {q : Nat} (h : q < 2) (o : α) : iter2 g a b (q + 1) o = g ([a, b].getD q 0) (iter2 g a b q o) := by
  have : q = 0 ∨ q = 1 := by omega
  rcases this with rfl | rfl <;> rfl
def rowsV (f : F3) (s v : Int) (o : List P2) : List P2 := iter2 (stepV f v) s (-s) 2 o
def vaY (f : F3) (n y : Int) (o : List P2) : List P2 :=
  if rootI (rtY f n y) * rootI (rtY f n y) = rtY f n y then iter2 (rowsV f (rootI (rtY f n y))) y (-y) 2 o else o
def vaL (f : F3) (n y : Int) (o : List P2) : List P2 := if _h : (dsc f < 0 ∧ 0 ≤ y) ∧ -dsc f * y * y ≤ 4 * f.1 * n then vaL f n (y + 1) (vaY f n y o) else o
  termination_by (4 * f.1 * n + 1 - y).toNat
  decreasing_by
    have h1 : -dsc f * y * y = -dsc f * (y * y) := Int.mul_assoc _ _ _
    have h2 : 1 * (y * y) ≤ -dsc f * (y * y) := Int.mul_le_mul_of_nonneg_right (by omega) (sq_nonneg y)
    have h3 : y ≤ y * y := by
      by_cases h : y = 0
      · subst h; omega
      · have : y * 1 ≤ y * y := Int.mul_le_mul_of_nonneg_left (by omega) (by omega)
        omega
    omega
theorem stepV_len (f : F3) (v r : Int) (o : List P2) : (stepV f v r o).length ≤ o.length + 1 := by
  unfold stepV
  split
  · split
    · omega
    · rw [putP_len]; omega
  · omega
theorem iter2_len {g : Int → List P2 → List P2} {k : Nat} (hg : ∀ a o, (g a o).length ≤ o.length + k) (a b : Int) (q : Nat) (o : List P2) : (iter2 g a b q o).length ≤ o.length + 2 * k := by
  have h1 := hg a o
  have h2 := hg b (g a o)
  unfold iter2
  split <;> omega
theorem rowsV_len (f : F3) (s v : Int) (o : List P2) : (rowsV f s v o).length ≤ o.length + 2 := iter2_len (k := 1) (fun a o => stepV_len f v a o) _ _ _ _
theorem vaY_len (f : F3) (n y : Int) (o : List P2) : (vaY f n y o).length ≤ o.length + 4 := by
  unfold vaY
  split
  · exact iter2_len (k := 2) (fun a o => rowsV_len f _ a o) _ _ _ _
  · omega

theorem vl_iffA {f : F3} {n x y : Int} (ha : 0 < f.1) : vl f x y = n ↔ (2 * f.1 * x + f.2.1 * y) * (2 * f.1 * x + f.2.1 * y) = rtY f n y := by
  have e : (2 * f.1 * x + f.2.1 * y) * (2 * f.1 * x + f.2.1 * y) - rtY f n y = 4 * f.1 * (vl f x y - n) := by unfold rtY vl dsc; grind
  constructor
  · intro h
    rw [h, Int.sub_self, Int.mul_zero] at e
    omega
  · intro h
    rw [h, Int.sub_self] at e
    rcases Int.mul_eq_zero.1 e.symm with h3 | h3
    · omega
    · omega
theorem mem_stepV {f : F3} (ha : 0 < f.1) {v r : Int} {o : List P2} {q : P2} : q ∈ stepV f v r o ↔ q ∈ o ∨ (q.2 = v ∧ 2 * f.1 * q.1 + f.2.1 * v = r) := by
  have key : ((r - f.2.1 * v).tmod (2 * f.1) = 0 ∧ (r - f.2.1 * v).tdiv (2 * f.1) = q.1) ↔ 2 * f.1 * q.1 + f.2.1 * v = r := by
    rw [div_iff (by omega)]; omega
  unfold stepV
  split
  · rename_i h
    have k2 : (q.2 = v ∧ 2 * f.1 * q.1 + f.2.1 * v = r) ↔ q = ((r - f.2.1 * v).tdiv (2 * f.1), v) := by
      rw [← key, Prod.ext_iff]
      constructor
      · rintro ⟨a, _, b⟩; exact ⟨b.symm, a⟩
      · rintro ⟨a, b⟩; exact ⟨b, h, a.symm⟩
    rw [k2]
    split
    · rename_i h2
      constructor
      · exact .inl
      · rintro (h3 | rfl)
        · exact h3
        · exact h2
    · rw [mem_putP]
      exact Or.comm
  · rename_i h
    constructor
    · exact .inl
    · rintro (h3 | ⟨_, h3⟩)
      · exact h3
      · exact absurd (key.2 h3).1 h
theorem stepV_sorted {f : F3} {v r : Int} {o : List P2} (h : SortedP o) : SortedP (stepV f v r o) := by
  unfold stepV
  split
  · split
    · exact h
    · rename_i hn
      exact putP_sorted h hn
  · exact h
theorem mem_rowsV {f : F3} (ha : 0 < f.1) {s v : Int} {o : List P2} {q : P2} : q ∈ rowsV f s v o ↔ q ∈ o ∨ (q.2 = v ∧ (2 * f.1 * q.1 + f.2.1 * v = s ∨ 2 * f.1 * q.1 + f.2.1 * v = -s)) := by
  show q ∈ stepV f v (-s) (stepV f v s o) ↔ _
  rw [mem_stepV ha, mem_stepV ha]
  constructor
  · rintro ((h | ⟨h1, h2⟩) | ⟨h1, h2⟩)
    · exact .inl h
    · exact .inr ⟨h1, .inl h2⟩
    · exact .inr ⟨h1, .inr h2⟩
  · rintro (h | ⟨h1, h2 | h2⟩)
    · exact .inl (.inl h)
    · exact .inl (.inr ⟨h1, h2⟩)
    · exact .inr ⟨h1, h2⟩
theorem rtY_neg (f : F3) (n y : Int) : rtY f n (-y) = rtY f n y := by unfold rtY; grind
theorem mem_vaY {f : F3} {n : Int} (hv : Vd f n) {y : Int} (hr : 0 ≤ rtY f n y ∧ rtY f n y ≤ 9000000000000000000) {o : List P2} {q : P2} : q ∈ vaY f n y o ↔ q ∈ o ∨ ((q.2 = y ∨ q.2 = -y) ∧ vl f q.1 q.2 = n) := by
  have ha := hv.a0
  obtain ⟨b1, b2, b3⟩ := rootI_spec hr.1 hr.2
  unfold vaY
  split
  · rename_i hs
    show q ∈ rowsV f _ (-y) (rowsV f _ y o) ↔ _
    rw [mem_rowsV ha, mem_rowsV ha]
    have key : ∀ v, rtY f n v = rtY f n y → ((2 * f.1 * q.1 + f.2.1 * v = rootI (rtY f n y) ∨ 2 * f.1 * q.1 + f.2.1 * v = -rootI (rtY f n y)) ↔ vl f q.1 v = n) := by
      intro v hvv
      rw [vl_iffA ha, hvv]
      constructor
      · rintro (h | h)
        · rw [h]; exact hs
        · rw [h, Int.neg_mul_neg]; exact hs
      · intro h; exact sq_root b1 (h.trans hs.symm)
    have k1 := key y rfl
    have k2 := key (-y) (rtY_neg f n y)
    constructor
    · rintro ((h | ⟨h1, h2⟩) | ⟨h1, h2⟩)
      · exact .inl h
      · rw [k1] at h2; rw [← h1] at h2; exact .inr ⟨.inl h1, h2⟩
      · rw [k2] at h2; rw [← h1] at h2; exact .inr ⟨.inr h1, h2⟩
    · rintro (h | ⟨h1 | h1, h2⟩)
      · exact .inl (.inl h)
      · rw [h1] at h2; exact .inl (.inr ⟨h1, k1.2 h2⟩)
      · rw [h1] at h2; exact .inr ⟨h1, k2.2 h2⟩
  · rename_i hs
    constructor
    · exact .inl
    · rintro (h | ⟨h1, h2⟩)
      · exact h
      · exfalso
        have h3 := (vl_iffA ha).1 h2
        have h4 : rtY f n q.2 = rtY f n y := by
          rcases h1 with h1 | h1
          · rw [h1]
          · rw [h1, rtY_neg]
        rw [h4] at h3
        generalize 2 * f.1 * q.1 + f.2.1 * q.2 = z at h3
        have h5 : ((z.natAbs : Int)) * (z.natAbs : Int) = z * z := Int.natAbs_mul_self' z
        have h6 : ((z.natAbs : Int) + 1) * ((z.natAbs : Int) + 1) = (z.natAbs : Int) * (z.natAbs : Int) + 2 * (z.natAbs : Int) + 1 := by grind
        have h7 := root_uniq (s := z.natAbs) b1 (by omega) b2 b3 (by omega) (by omega)
        rw [h7] at hs
        omega
theorem vaY_sorted {f : F3} {n y : Int} {o : List P2} (h : SortedP o) : SortedP (vaY f n y o) := by
  unfold vaY
  split
  · exact stepV_sorted (stepV_sorted (stepV_sorted (stepV_sorted h)))
  · exact h
theorem Vd.fourA {f : F3} {n : Int} (h : Vd f n) : 0 ≤ 4 * f.1 * n ∧ 4 * f.1 * n ≤ 40000000000 ∧ 4 * f.1 ≤ 4000000 := by
  have h1 := h.a0; have h2 := h.a1; have h3 := h.n0; have h4 := h.n1
  have h5 := mul_bd (a := 4 * f.1) (b := n) (j := 4000000) (k := 10000) (by omega) (by omega) ⟨by omega, by omega⟩ ⟨by omega, by omega⟩
  have h6 : 0 ≤ 4 * f.1 * n := Int.mul_nonneg (by omega) (by omega)
  omega
theorem vaL_spec {f : F3} {n : Int} (hv : Vd f n) (y : Int) (o : List P2) (hy : 0 ≤ y) (hs : SortedP o) (hm : ∀ q, q ∈ o ↔ vl f q.1 q.2 = n ∧ (-y < q.2 ∧ q.2 < y)) : SortedP (vaL f n y o) ∧ ∀ q, q ∈ vaL f n y o ↔ vl f q.1 q.2 = n := by
  obtain ⟨f1, f2, _⟩ := hv.fourA
  have hd := hv.d
  fun_induction vaL f n y o with
  | case1 y o h ih =>
    have e : rtY f n y = 4 * f.1 * n - -dsc f * y * y := by unfold rtY; grind
    have h1 : -dsc f * y * y = -dsc f * (y * y) := Int.mul_assoc _ _ _
    have h2 : 0 ≤ -dsc f * (y * y) := Int.mul_nonneg (by omega) (sq_nonneg y)
    refine ih (by omega) (vaY_sorted hs) fun q => ?_
    rw [mem_vaY hv ⟨by omega, by omega⟩, hm]
    constructor
    · rintro (⟨g1, g2⟩ | ⟨g1, g2⟩)
      · exact ⟨g1, by omega⟩
      · exact ⟨g2, by omega⟩
    · rintro ⟨g1, g2⟩
      by_cases hq : -y < q.2 ∧ q.2 < y
      · exact .inl ⟨g1, hq⟩
      · exact .inr ⟨by omega, g1⟩
  | case2 y o h =>
    refine ⟨hs, fun q => ?_⟩
    rw [hm]
    constructor
    · exact fun g => g.1
    · intro g
      refine ⟨g, ?_⟩
      have h3 := (vl_iffA hv.a0).1 g
      have h4 := sq_nonneg (2 * f.1 * q.1 + f.2.1 * q.2)
      rw [h3] at h4
      have h5 : ¬ -dsc f * y * y ≤ 4 * f.1 * n := fun hc => h ⟨⟨by omega, hy⟩, hc⟩
      have e1 : rtY f n q.2 = 4 * f.1 * n - -dsc f * (q.2 * q.2) := by unfold rtY; grind
      have e2 : -dsc f * y * y = -dsc f * (y * y) := Int.mul_assoc _ _ _
      have h6 : ¬ y * y ≤ q.2 * q.2 := fun hc => by
        have : -dsc f * (y * y) ≤ -dsc f * (q.2 * q.2) := Int.mul_le_mul_of_nonneg_left hc (by omega)
        omega
      constructor
      · by_cases hc : -y < q.2
        · exact hc
        · exfalso
          have h7 : y * y ≤ (-q.2) * (-q.2) := Int.mul_le_mul (by omega) (by omega) (by omega) (by omega)
          have h8 : (-q.2) * (-q.2) = q.2 * q.2 := by grind
          omega
      · by_cases hc : q.2 < y
        · exact hc
        · exfalso
          have h7 : y * y ≤ q.2 * q.2 := Int.mul_le_mul (by omega) (by omega) (by omega) (by omega)
          omega
/-- BOTH SIDES FIND THE SAME LIST. -/
theorem vaL_eq {f : F3} {n : Int} (hv : Vd f n) : vaL f n 0 [] = ptI f n := by
  obtain ⟨h1, h2⟩ := vaL_spec hv 0 [] (by omega) List.Pairwise.nil (fun q => ⟨fun h => (by cases h), fun h => by omega⟩)
  exact sorted_ext h1 (ptI_sorted hv.c0) fun p => by rw [h2, mem_ptI hv]
theorem rtY_in {f : F3} {n : Int} (hv : Vd f n) {y : Int} (hy : 0 ≤ y ∧ y ≤ 200001) : -90000000000000 ≤ dsc f * y ∧ dsc f * y ≤ 90000000000000 ∧ -90000000000000 ≤ dsc f * y * y ∧ dsc f * y * y ≤ 0 ∧ -90000000000000 ≤ f.2.1 * y ∧ f.2.1 * y ≤ 90000000000000 := by
  have h3 := hv.d
  have hb := hv.b
  have h5 := mul_bd (a := dsc f) (b := y) (j := 2000) (k := 200001) (by omega) (by omega) ⟨by omega, by omega⟩ ⟨by omega, by omega⟩
  have h6 := mul_bd (a := dsc f * y) (b := y) (j := 400002000) (k := 200001) (by omega) (by omega) ⟨by omega, by omega⟩ ⟨by omega, by omega⟩
  have h7 : dsc f * y * y = dsc f * (y * y) := Int.mul_assoc _ _ _
  have h8 : dsc f * (y * y) ≤ 0 := Int.mul_nonpos_of_nonpos_of_nonneg (by omega) (sq_nonneg y)
  have h9 := mul_bd (a := f.2.1) (b := y) (j := 1000000) (k := 200001) (by omega) (by omega) ⟨by omega, by omega⟩ ⟨by omega, by omega⟩
  omega
theorem y_small {f : F3} {n : Int} (hv : Vd f n) {y : Int} (hy : 0 ≤ y) (h : -dsc f * y * y ≤ 4 * f.1 * n) : y ≤ 200000 := by
  obtain ⟨f1, f2, _⟩ := hv.fourA
  have hd := hv.d
  have h1 : -dsc f * y * y = -dsc f * (y * y) := Int.mul_assoc _ _ _
  have h2 : 1 * (y * y) ≤ -dsc f * (y * y) := Int.mul_le_mul_of_nonneg_right (by omega) (sq_nonneg y)
  exact (abs_le_of_sq (x := y) (n := 200000) (by omega) (by omega)).2
end Go.Proofs.Ytacomnelongbjab
