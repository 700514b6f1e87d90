/-
  Residue symbols: a plain definition of the Jacobi symbol, and contracts of the symbols on both sides. Conditions: none.
-/
import Derived.Test.YtacomnelongbjabCls
import Derived.Test.YtacomnelongbjabIte
namespace Go.Proofs.Ytacomnelongbjab
open Go Go.RowKit
set_option maxRecDepth 100000
set_option linter.unusedSimpArgs false
set_option linter.unusedVariables false
set_option maxHeartbeats 4000000

def two8 (n : Int) : Int := if n % 8 = 1 ∨ n % 8 = 7 then 1 else if n % 8 = 3 ∨ n % 8 = 5 then -1 else 0
def flp (a n : Int) : Int := if a % 4 = 3 ∧ n % 4 = 3 then -1 else 1
theorem two8_odd {n : Int} (h : n % 2 = 1) : two8 n = 1 ∨ two8 n = -1 := by
  unfold two8
  split
  · exact .inl rfl
  · rw [if_pos (by omega)]; exact .inr rfl
theorem two8_abs (n : Int) : -1 ≤ two8 n ∧ two8 n ≤ 1 := by
  unfold two8
  split
  · omega
  · split <;> omega
theorem flp_cases (a n : Int) : flp a n = 1 ∨ flp a n = -1 := by
  unfold flp
  split
  · exact .inr rfl
  · exact .inl rfl
/-- the symbol for 0 ≤ a < n, n odd -/
def jac (a n : Int) : Int := if _h : 2 ≤ a then (if a % 2 = 0 then two8 n * jac (a / 2) n else flp a n * jac (n % a) a) else if a = 1 then 1 else if n = 1 then 1 else 0
  termination_by a.toNat
  decreasing_by
  · omega
  · have := Int.emod_lt_of_pos n (show 0 < a by omega)
    have := Int.emod_nonneg n (show a ≠ 0 by omega)
    omega
theorem jac_even {a n : Int} (h : 2 ≤ a) (h2 : a % 2 = 0) : jac a n = two8 n * jac (a / 2) n := by
  rw [jac.eq_def, dif_pos h, if_pos h2]
theorem jac_one (n : Int) : jac 1 n = 1 := by
  rw [jac.eq_def, dif_neg (by omega), if_pos rfl]
theorem jac_zero (n : Int) : jac 0 n = if n = 1 then 1 else 0 := by
  rw [jac.eq_def, dif_neg (by omega), if_neg (by omega)]
theorem jac_odd {a n : Int} (h : 1 ≤ a) (h2 : a % 2 = 1) : jac a n = flp a n * jac (n % a) a := by
  by_cases h1 : a = 1
  · subst h1
    rw [jac_one, Int.emod_one, jac_zero, if_pos rfl]
    unfold flp
    rw [if_neg (by omega)]; rfl
  · rw [jac.eq_def, dif_pos (by omega), if_neg (by omega)]
theorem jac_abs : ∀ (m : Nat) (a n : Int), a.toNat ≤ m → -1 ≤ jac a n ∧ jac a n ≤ 1 := by
  intro m
  induction m with
  | zero =>
    intro a n h
    rw [jac.eq_def, dif_neg (by omega)]
    split
    · omega
    · split <;> omega
  | succ m ih =>
    intro a n h
    rw [jac.eq_def]
    by_cases h2 : 2 ≤ a
    · rw [dif_pos h2]
      split
      · have h3 := ih (a / 2) n (by omega)
        have h4 := two8_abs n
        have h5 : two8 n = -1 ∨ two8 n = 0 ∨ two8 n = 1 := by omega
        rcases h5 with h5 | h5 | h5 <;> rw [h5] <;> omega
      · have := Int.emod_lt_of_pos n (show 0 < a by omega)
        have := Int.emod_nonneg n (show a ≠ 0 by omega)
        have h3 := ih (n % a) a (by omega)
        have h5 := flp_cases a n
        rcases h5 with h5 | h5 <;> rw [h5] <;> omega
    · rw [dif_neg h2]
      split
      · omega
      · split <;> omega
def jacI (a n : Int) : Int := jac (a % n) n
theorem jacI_abs (a n : Int) : -1 ≤ jacI a n ∧ jacI a n ≤ 1 := jac_abs _ _ _ (Nat.le_refl _)
theorem tmod_nn {a b : Int} (h : 0 ≤ a) : a.tmod b = a % b := by
  rw [Int.tmod_eq_emod]
  split <;> omega
theorem tdiv_nn {a b : Int} (h : 0 ≤ a) : a.tdiv b = a / b := Int.tdiv_eq_ediv_of_nonneg h
/-- one of the two signs -/
def Sg (s : Int) : Prop := s = 1 ∨ s = -1
theorem Sg.wrap_mul {s t : Int} (hs : Sg s) (ht : -1 ≤ t ∧ t ≤ 1) : wrap64 (s * t) = s * t := by
  rcases hs with h | h <;> rw [h] <;> exact wrap_id (by omega) (by omega)
theorem Sg.mul {s t : Int} (hs : Sg s) (ht : Sg t) : Sg (s * t) := by
  rcases hs with h | h <;> rcases ht with g | g <;> rw [h, g] <;> first | exact .inl rfl | exact .inr rfl
-- (not in this seat: SymTwo)
-- (not in this seat: SyTwo)
def suT (t b : Int) : Int := if 0 ≤ t ∧ t ≤ b - 1 then (if t % 2 = 0 then t / 2 else b) else t % b
def suB (t b : Int) : Int := if 0 ≤ t ∧ t ≤ b - 1 then (if t % 2 = 0 then b else t) else b
def suS (t b s : Int) : Int := if 0 ≤ t ∧ t ≤ b - 1 then (if t % 2 = 0 then s * two8 b else s * flp t b) else s
def suM (t b : Int) : Nat := if 0 ≤ t ∧ t ≤ b - 1 then (2 * t + 1).toNat else (2 * b).toNat
def SuPre (t b s : Int) : Prop := (1 ≤ b ∧ b ≤ 1000000000 ∧ b % 2 = 1) ∧ (-1000000000000000 ≤ t ∧ t ≤ 1000000000000000) ∧ Sg s
-- (not in this seat: SySucc)
-- (not in this seat: SyEnd)
theorem su_next {t b s : Int} (h : SuPre t b s) (h0 : t ≠ 0) (h1 : t ≠ 1) : SuPre (suT t b) (suB t b) (suS t b s) ∧ suS t b s * jac (suT t b % suB t b) (suB t b) = s * jac (t % b) b ∧ suM (suT t b) (suB t b) < suM t b := by
  obtain ⟨⟨hb1, hb2, hb3⟩, ⟨ht1, ht2⟩, hs⟩ := h
  unfold suT suB suS
  by_cases hr : 0 ≤ t ∧ t ≤ b - 1
  · simp only [hr, and_self, if_true]
    have hm : t % b = t := Int.emod_eq_of_lt hr.1 (by omega)
    by_cases g : t % 2 = 0
    · simp only [g, if_true]
      have hm2 : t / 2 % b = t / 2 := Int.emod_eq_of_lt (by omega) (by omega)
      rw [hm, hm2, jac_even (by omega) g, Int.mul_assoc]
      refine ⟨⟨⟨hb1, hb2, hb3⟩, ⟨by omega, by omega⟩, hs.mul (two8_odd hb3)⟩, rfl, ?_⟩
      unfold suM
      rw [if_pos (by omega), if_pos (by omega)]
      omega
    · simp only [g, if_false]
      rw [hm, jac_odd (a := t) (by omega) (by omega), Int.mul_assoc]
      refine ⟨⟨⟨by omega, by omega, by omega⟩, ⟨by omega, by omega⟩, hs.mul (flp_cases t b)⟩, rfl, ?_⟩
      unfold suM
      rw [if_neg (by omega), if_pos (by omega)]
      omega
  · simp only [hr, if_false]
    have h2 := Int.emod_nonneg t (show b ≠ 0 by omega)
    have h3 := Int.emod_lt_of_pos t (show 0 < b by omega)
    refine ⟨⟨⟨hb1, hb2, hb3⟩, ⟨by omega, by omega⟩, hs⟩, by rw [Int.emod_emod], ?_⟩
    unfold suM
    rw [if_pos (by omega), if_neg hr]
    omega
def JcPre (a n : Int) : Prop := (1 ≤ n ∧ n ≤ 1000000000 ∧ n % 2 = 1) ∧ (-1000000000000000 ≤ a ∧ a ≤ 1000000000000000)
-- (not in this seat: SyJac)
-- (not in this seat: Jac)
def krL (a n : Int) : Int := if _h : 2 ≤ n ∧ n % 2 = 0 then two8 a * krL a (n / 2) else jacI a n
  termination_by n.toNat
  decreasing_by omega
theorem krL_even {a n : Int} (h : 2 ≤ n) (h2 : n % 2 = 0) : krL a n = two8 a * krL a (n / 2) := by
  rw [krL.eq_def, dif_pos ⟨h, h2⟩]
theorem krL_odd {a n : Int} (h2 : n % 2 = 1) : krL a n = jacI a n := by
  rw [krL.eq_def, dif_neg (by omega)]
theorem mul_abs {x y : Int} (h1 : -1 ≤ x ∧ x ≤ 1) (h2 : -1 ≤ y ∧ y ≤ 1) : -1 ≤ x * y ∧ x * y ≤ 1 := by
  have h : x = -1 ∨ x = 0 ∨ x = 1 := by omega
  rcases h with h | h | h <;> rw [h] <;> omega
theorem krL_abs (a : Int) : ∀ (m : Nat) (n : Int), n.toNat ≤ m → -1 ≤ krL a n ∧ krL a n ≤ 1 := by
  intro m
  induction m with
  | zero =>
    intro n h
    rw [krL.eq_def, dif_neg (by omega)]
    exact jacI_abs a n
  | succ m ih =>
    intro n h
    by_cases h2 : 2 ≤ n ∧ n % 2 = 0
    · rw [krL.eq_def, dif_pos h2]
      exact mul_abs (two8_abs a) (ih _ (by omega))
    · rw [krL.eq_def, dif_neg h2]
      exact jacI_abs a n
theorem two8_even {a : Int} (h : a % 2 = 0) : two8 a = 0 := by
  unfold two8
  rw [if_neg (by omega), if_neg (by omega)]
theorem wrap_abs {x y : Int} (h1 : -1 ≤ x ∧ x ≤ 1) (h2 : -1 ≤ y ∧ y ≤ 1) : wrap64 (x * y) = x * y := by
  have := mul_abs h1 h2
  exact wrap_id (by omega) (by omega)
theorem tmod2 (a : Int) : (a.tmod 2 == 0) = decide (a % 2 = 0) := by
  rw [Bool.eq_iff_iff, beq_iff_eq, decide_eq_true_iff, Int.tmod_eq_emod]
  split <;> omega
def KrPre (a n : Int) : Prop := (1 ≤ n ∧ n ≤ 1000000000) ∧ (-1000000000000000 ≤ a ∧ a ≤ 1000000000000000)
-- (not in this seat: Kron)
-- (not in this seat: SyKron)
end Go.Proofs.Ytacomnelongbjab
