/-
  Contracts of the lists of reduced forms, on both sides. Conditions: none.
-/
import Derived.Test.YtacomnelongbjaaLst
namespace Go.Proofs.Ytacomnelongbjaa
open Go Go.RowKit
set_option maxRecDepth 100000
set_option linter.unusedSimpArgs false
set_option linter.unusedVariables false
set_option maxHeartbeats 4000000

theorem fl_snoc3 (L : List F3) (a b c : Int) : fl L ++ [[a, b, c]] = fl (L ++ [(a, b, c)]) := fl_snoc L (a, b, c)
def negB (d : Int) : Bool := decide (d ≥ -2000) && (decide (d ≤ -3) && decide (modI d 4 ≤ 1))
theorem negB_in {d : Int} (h : negB d = true) : -2000 ≤ d ∧ d ≤ -3 := by
  simp only [negB, Bool.and_eq_true, decide_eq_true_eq] at h
  exact ⟨h.1, h.2.1⟩
-- (not in this seat: IsNeg)
-- (not in this seat: ReDisc)
def cOf (d a b : Int) : Int := wrap64 ((wrap64 (wrap64 (b * b) - d)).tdiv (wrap64 (4 * a)))
def okB (d a b : Int) : Bool := ((wrap64 (wrap64 (b * b) - d)).tmod (wrap64 (4 * a)) == 0) && isReducedI a b (cOf d a b)
def allB (d a b : Int) : List F3 := if _h : b ≤ a then (if okB d a b = true then [(a, b, cOf d a b)] else []) ++ allB d a (b + 1) else []
  termination_by (a + 1 - b).toNat
  decreasing_by omega
def allA (d a : Int) : List F3 := if _h : 0 < a ∧ 3 * a * a ≤ -d then allB d a (1 - a) ++ allA d (a + 1) else []
  termination_by (-d + 1 - a).toNat
  decreasing_by
    have h1 : a ≤ 3 * a * a := by
      have h2 : a * 1 ≤ a * a := Int.mul_le_mul_of_nonneg_left (by omega) (by omega)
      have h3 : 3 * a * a = 3 * (a * a) := Int.mul_assoc 3 a a
      omega
    omega
def allRed (d : Int) : List F3 := allA d 1
theorem allB_len (d a b : Int) : (allB d a b).length ≤ (a + 1 - b).toNat := by
  fun_induction allB d a b with
  | case1 b h ih =>
    rw [List.length_append]
    have : (if okB d a b = true then [(a, b, cOf d a b)] else []).length ≤ 1 := by split <;> simp
    omega
  | case2 b h => simp
theorem sq_in {a n : Int} (h0 : 0 ≤ n) (h : -n ≤ a ∧ a ≤ n) : 0 ≤ a * a ∧ a * a ≤ n * n := by
  have h2 : a.natAbs * a.natAbs ≤ n.natAbs * n.natAbs := Nat.mul_le_mul (by omega) (by omega)
  have h3 : ((a.natAbs * a.natAbs : Nat) : Int) = a * a := by rw [Int.natCast_mul]; exact Int.natAbs_mul_self' a
  have h4 : ((n.natAbs * n.natAbs : Nat) : Int) = n * n := by rw [Int.natCast_mul]; exact Int.natAbs_mul_self' n
  omega
theorem small_a {d a : Int} (hd : -2000 ≤ d) (h : 0 < a ∧ 3 * a * a ≤ -d) : a ≤ 25 := by
  have h3 : 3 * a * a = 3 * (a * a) := Int.mul_assoc 3 a a
  by_cases hc : a ≤ 25
  · exact hc
  · exfalso
    have h2 : 26 * 26 ≤ a * a := Int.mul_le_mul (by omega) (by omega) (by omega) (by omega)
    omega
theorem allA_len {d : Int} (hd : -2000 ≤ d) (a : Int) (ha : a ≤ 26) : (allA d a).length ≤ 52 * (26 - a).toNat := by
  fun_induction allA d a with
  | case1 a h ih =>
    have h1 := small_a hd h
    have h2 := allB_len d a (1 - a)
    have h3 := ih (by omega)
    rw [List.length_append]
    omega
  | case2 a h => simp
theorem allRed_len {d : Int} (hd : -2000 ≤ d) : (allRed d).length ≤ 1300 := allA_len hd 1 (by omega)
theorem acond {d a : Int} (hd : -2000 ≤ d ∧ d ≤ -3) (ha : 0 < a ∧ a ≤ 26) : decide (wrap64 (wrap64 (3 * a) * a) ≤ wrap64 (0 - d)) = decide (3 * a * a ≤ -d) := by
  have h1 := sq_in (n := 26) (by omega) (show -26 ≤ a ∧ a ≤ 26 by omega)
  have h3 : 3 * a * a = 3 * (a * a) := Int.mul_assoc 3 a a
  rw [wrap_id (n := 3 * a) (by omega) (by omega), wrap_id (n := 3 * a * a) (by omega) (by omega), wrap_id (n := 0 - d) (by omega) (by omega), decide_eq_decide]
  omega
theorem allA_step {d a : Int} (ha : 0 < a) (h : decide (3 * a * a ≤ -d) = true) : allA d a = allB d a (1 - a) ++ allA d (a + 1) := by
  rw [allA.eq_def, dif_pos ⟨ha, of_decide_eq_true h⟩]
theorem allA_stop {d a : Int} (h : decide (3 * a * a ≤ -d) = false) : allA d a = [] := by
  rw [allA.eq_def, dif_neg (fun x => of_decide_eq_false h x.2)]
theorem allB_step {d a b : Int} (h : b ≤ a) : allB d a b = (if okB d a b = true then [(a, b, cOf d a b)] else []) ++ allB d a (b + 1) := by
  rw [allB.eq_def, dif_pos h]
theorem allB_stop {d a b : Int} (h : ¬ b ≤ a) : allB d a b = [] := by rw [allB.eq_def, dif_neg h]
theorem acc_len {d : Int} {acc r : List F3} (hd : -2000 ≤ d) (h : acc ++ r = allRed d) : acc.length ≤ 1300 := by
  have := allRed_len hd
  rw [← h, List.length_append] at this
  omega
-- (not in this seat: AllReduced)

/-! ### what the list holds -/
theorem quo_facts {d a b : Int} (hd : -2000 ≤ d ∧ d ≤ -3) (ha : 0 < a ∧ a ≤ 26) (hb : -26 ≤ b ∧ b ≤ 26) :
    cOf d a b = (b * b - d) / (4 * a) ∧ (((wrap64 (wrap64 (b * b) - d)).tmod (wrap64 (4 * a)) == 0) = decide ((b * b - d) % (4 * a) = 0)) ∧ 0 ≤ cOf d a b ∧ cOf d a b ≤ 3000 ∧ 4 * a * cOf d a b + (b * b - d) % (4 * a) = b * b - d := by
  have h1 := sq_in (n := 26) (by omega) hb
  have e1 : wrap64 (wrap64 (b * b) - d) = b * b - d := by rw [wrap_id (n := b * b) (by omega) (by omega), wrap_id (by omega) (by omega)]
  have e2 : wrap64 (4 * a) = 4 * a := wrap_id (by omega) (by omega)
  have h2 : 0 ≤ (b * b - d) / (4 * a) := Int.ediv_nonneg (by omega) (by omega)
  have h3 : (b * b - d) / (4 * a) ≤ b * b - d := Int.ediv_le_self _ (by omega)
  have e3 : cOf d a b = (b * b - d) / (4 * a) := by
    unfold cOf
    rw [e1, e2, Int.tdiv_eq_ediv_of_nonneg (by omega), wrap_id (by omega) (by omega)]
  refine ⟨e3, ?_, by omega, by omega, ?_⟩
  · rw [e1, e2, Int.tmod_eq_emod_of_nonneg (by omega), Bool.eq_iff_iff]
    simp
  · rw [e3]; exact Int.mul_ediv_add_emod _ _
theorem mem_allB {d a : Int} {x : F3} (b : Int) : x ∈ allB d a b ↔ x.1 = a ∧ b ≤ x.2.1 ∧ x.2.1 ≤ a ∧ okB d a x.2.1 = true ∧ x.2.2 = cOf d a x.2.1 := by
  fun_induction allB d a b with
  | case1 b h ih =>
    rw [List.mem_append, ih]
    constructor
    · rintro (h1 | ⟨h1, h2, h3, h4, h5⟩)
      · split at h1
        · rename_i hok
          simp only [List.mem_singleton] at h1
          subst h1
          exact ⟨rfl, Int.le_refl _, h, hok, rfl⟩
        · cases h1
      · exact ⟨h1, by omega, h3, h4, h5⟩
    · rintro ⟨h1, h2, h3, h4, h5⟩
      by_cases hb : x.2.1 = b
      · left
        rw [← hb, if_pos h4, List.mem_singleton, ← h5, ← h1]
      · exact .inr ⟨h1, by omega, h3, h4, h5⟩
  | case2 b h =>
    constructor
    · intro h1; cases h1
    · rintro ⟨_, h2, h3, _⟩; omega
theorem mem_allA {d : Int} {x : F3} (a : Int) (ha : 0 < a) : x ∈ allA d a ↔ a ≤ x.1 ∧ 3 * x.1 * x.1 ≤ -d ∧ 1 - x.1 ≤ x.2.1 ∧ x.2.1 ≤ x.1 ∧ okB d x.1 x.2.1 = true ∧ x.2.2 = cOf d x.1 x.2.1 := by
  fun_induction allA d a with
  | case1 a h ih =>
    rw [List.mem_append, ih (by omega), mem_allB]
    constructor
    · rintro (⟨h1, h2, h3, h4, h5⟩ | ⟨h1, h2⟩)
      · subst h1; exact ⟨Int.le_refl _, h.2, h2, h3, h4, h5⟩
      · exact ⟨by omega, h2⟩
    · rintro ⟨h1, h2, h3, h4, h5, h6⟩
      by_cases hx : x.1 = a
      · rw [hx] at h3 h4 h5 h6; exact .inl ⟨hx, h3, h4, h5, h6⟩
      · exact .inr ⟨by omega, h2, h3, h4, h5, h6⟩
  | case2 a h =>
    constructor
    · intro h1; cases h1
    · rintro ⟨h1, h2, _⟩
      exfalso
      apply h
      refine ⟨ha, ?_⟩
      have h3 : a * a ≤ x.1 * x.1 := Int.mul_le_mul h1 h1 (by omega) (by omega)
      have h4 : 3 * x.1 * x.1 = 3 * (x.1 * x.1) := Int.mul_assoc _ _ _
      have h5 : 3 * a * a = 3 * (a * a) := Int.mul_assoc _ _ _
      omega
/-- a reduced form of the discriminant d -/
structure IsRed (d : Int) (x : F3) : Prop where
  a0 : 0 < x.1
  lo : -x.1 < x.2.1
  hi : x.2.1 ≤ x.1
  ac : x.1 < x.2.2 ∨ (x.1 = x.2.2 ∧ 0 ≤ x.2.1)
  d : x.2.1 * x.2.1 - 4 * x.1 * x.2.2 = d
theorem IsRed.three {d : Int} {x : F3} (h : IsRed d x) : 3 * x.1 * x.1 ≤ -d ∧ 3 * x.1 * x.2.2 ≤ -d := by
  obtain ⟨a, b, c⟩ := x
  obtain ⟨h1, h2, h3, h4, h5⟩ := h
  simp only at *
  have e1 : b * b ≤ a * a := by have := sq_in (a := b) (n := a) (by omega) ⟨by omega, by omega⟩; omega
  have e2 : a * a ≤ a * c := Int.mul_le_mul_of_nonneg_left (by omega) (by omega)
  have e3 : 4 * a * c = 4 * (a * c) := Int.mul_assoc _ _ _
  have e4 : 3 * a * a = 3 * (a * a) := Int.mul_assoc _ _ _
  have e5 : 3 * a * c = 3 * (a * c) := Int.mul_assoc _ _ _
  omega
theorem mem_allRed {d : Int} (hd : -2000 ≤ d ∧ d ≤ -3) {x : F3} : x ∈ allRed d ↔ IsRed d x := by
  unfold allRed
  rw [mem_allA 1 (by omega)]
  obtain ⟨a, b, c⟩ := x
  simp only
  constructor
  · rintro ⟨h1, h2, h3, h4, h5, h6⟩
    have ha := small_a hd.1 ⟨by omega, h2⟩
    obtain ⟨q1, q2, q3, q4, q5⟩ := quo_facts hd (a := a) (b := b) ⟨by omega, by omega⟩ ⟨by omega, by omega⟩
    unfold okB at h5
    rw [q2, Bool.and_eq_true, decide_eq_true_eq, ← h6] at h5
    rw [h5.1, ← h6] at q5
    simp only [isReducedI, Bool.and_eq_true, Bool.or_eq_true, decide_eq_true_eq, beq_iff_eq] at h5
    exact ⟨by simp only; omega, by simp only; omega, by simp only; omega, by simp only; omega, by simp only; omega⟩
  · intro h
    obtain ⟨h7, _⟩ := h.three
    obtain ⟨h1, h2, h3, h4, h5⟩ := h
    simp only at h1 h2 h3 h4 h5 h7
    have ha := small_a hd.1 ⟨h1, h7⟩
    obtain ⟨q1, q2, q3, q4, q5⟩ := quo_facts hd (a := a) (b := b) ⟨by omega, by omega⟩ ⟨by omega, by omega⟩
    have e1 : b * b - d = 4 * a * c := by omega
    have e2 : cOf d a b = c := by rw [q1, e1]; exact Int.mul_ediv_cancel_left _ (by omega)
    have e3 : (b * b - d) % (4 * a) = 0 := by rw [e1]; exact Int.mul_emod_right _ _
    refine ⟨by omega, h7, by omega, h3, ?_, e2.symm⟩
    unfold okB
    rw [q2, e2, e3]
    simp only [isReducedI, decide_true, Bool.true_and, Bool.and_eq_true, Bool.or_eq_true, decide_eq_true_eq, beq_iff_eq]
    exact ⟨(norm_iff h1 (by omega)).2 ⟨by omega, by omega⟩, by omega⟩
theorem IsRed.small {d : Int} (hd : -2000 ≤ d) {x : F3} (h : IsRed d x) : 0 < x.1 ∧ x.1 ≤ 25 ∧ -25 ≤ x.2.1 ∧ x.2.1 ≤ 25 ∧ 0 < x.2.2 ∧ x.2.2 ≤ 700 := by
  obtain ⟨h7, h8⟩ := h.three
  obtain ⟨h1, h2, h3, h4, h5⟩ := h
  have ha := small_a hd ⟨h1, h7⟩
  refine ⟨h1, ha, by omega, by omega, by omega, ?_⟩
  have e1 : x.2.2 * 1 ≤ x.2.2 * x.1 := Int.mul_le_mul_of_nonneg_left (by omega) (by omega)
  have e2 : 3 * x.1 * x.2.2 = 3 * (x.2.2 * x.1) := by rw [Int.mul_assoc, Int.mul_comm x.1]
  omega
theorem sok {d a b : Int} (hd : -2000 ≤ d ∧ d ≤ -3) (ha : 0 < a ∧ a ≤ 25) (hb : -26 ≤ b ∧ b ≤ 26) : (discI a b (cOf d a b) == d && isReducedI a b (cOf d a b)) = okB d a b := by
  obtain ⟨q1, q2, q3, q4, q5⟩ := quo_facts hd (a := a) (b := b) ⟨by omega, by omega⟩ hb
  unfold okB
  have h1 := sq_in (n := 26) (by omega) hb
  have h2 := Int.emod_lt_of_pos (b * b - d) (show 0 < 4 * a by omega)
  have h3 := Int.emod_nonneg (b * b - d) (show 4 * a ≠ 0 by omega)
  rw [q2, discI_eq, wrap_id (by omega) (by omega)]
  congr 1
  rw [Bool.eq_iff_iff, beq_iff_eq, decide_eq_true_iff]
  omega
-- (not in this seat: ReAll)

/-! ### primitive ones -/
def primB (x : F3) : Bool := gcdI x.1 (gcdI x.2.1 x.2.2) == 1
theorem filter_snoc {α : Type} (p : α → Bool) (l : List α) (x : α) : (l ++ [x]).filter p = l.filter p ++ (if p x = true then [x] else []) := by
  rw [List.filter_append]
  simp [List.filter_cons]
theorem fl_take_len {l : List (List Int)} (p : F3 → Bool) (n : Nat) : (((unfl l).take n).filter p).length ≤ l.length := by
  refine Nat.le_trans (List.length_filter_le _ _) ?_
  rw [List.length_take, unfl_length]
  omega
-- (not in this seat: PrimitiveOf)
def redF (d : Int) : List F3 := (allRed d).filter primB
theorem redF_len {d : Int} (hd : -2000 ≤ d) : (redF d).length ≤ 1300 := Nat.le_trans (List.length_filter_le _ _) (allRed_len hd)
theorem spec_prim {d : Int} (hd : -2000 ≤ d ∧ d ≤ -3) {x : F3} (h : x ∈ allRed d) : (nuGcdI (nuGcdI x.1 x.2.1) x.2.2 == 1) = primB x := by
  have hs := ((mem_allRed hd).1 h).small hd.1
  unfold primB
  rw [content_eq (by omega) (by omega) (by omega)]
-- (not in this seat: RedForms)
-- (not in this seat: ReList)
def onL {α : Type} (b : Bool) (l : List α) : List α := bif b then l else []
-- (not in this seat: ReducedForms)
-- (not in this seat: SReducedForms)
theorem onL_len {d : Int} : (fl (onL (negB d) (redF d))).length ≤ 1300 := by
  rw [fl_length]
  cases h : negB d with
  | false => simp [onL]
  | true => exact redF_len (negB_in h).1
-- (not in this seat: LawReducedForms)
end Go.Proofs.Ytacomnelongbjaa
