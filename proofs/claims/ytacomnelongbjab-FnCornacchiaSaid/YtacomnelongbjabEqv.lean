/-
  Plain laws of definite forms: matrices act on them, and each class holds one reduced form. Conditions: none; nothing here speaks of the program.
-/
import Derived.Test.YtacomnelongbjabRf
namespace Go.Proofs.Ytacomnelongbjab
open Go Go.RowKit
set_option maxRecDepth 100000
set_option linter.unusedSimpArgs false
set_option linter.unusedVariables false
set_option maxHeartbeats 4000000


/-! ### matrices act -/
def vl (f : F3) (x y : Int) : Int := f.1 * x * x + f.2.1 * x * y + f.2.2 * y * y
def pl (f : F3) (x y u v : Int) : Int := 2 * f.1 * x * u + f.2.1 * (x * v + y * u) + 2 * f.2.2 * y * v
def act (f : F3) (m : M4) : F3 := (vl f m.1 m.2.2.1, pl f m.1 m.2.2.1 m.2.1 m.2.2.2, vl f m.2.1 m.2.2.2)
def mul (m n : M4) : M4 := (m.1 * n.1 + m.2.1 * n.2.2.1, m.1 * n.2.1 + m.2.1 * n.2.2.2, m.2.2.1 * n.1 + m.2.2.2 * n.2.2.1, m.2.2.1 * n.2.1 + m.2.2.2 * n.2.2.2)
def det (m : M4) : Int := m.1 * m.2.2.2 - m.2.1 * m.2.2.1
def inv (m : M4) : M4 := (m.2.2.2, -m.2.1, -m.2.2.1, m.1)
def one4 : M4 := (1, 0, 0, 1)
def dsc (f : F3) : Int := f.2.1 * f.2.1 - 4 * f.1 * f.2.2
theorem M4.ext {m n : M4} (h1 : m.1 = n.1) (h2 : m.2.1 = n.2.1) (h3 : m.2.2.1 = n.2.2.1) (h4 : m.2.2.2 = n.2.2.2) : m = n := by
  obtain ⟨a, b, c, d⟩ := m; obtain ⟨a', b', c', d'⟩ := n; simp_all
theorem F3.ext {m n : F3} (h1 : m.1 = n.1) (h2 : m.2.1 = n.2.1) (h3 : m.2.2 = n.2.2) : m = n := by
  obtain ⟨a, b, c⟩ := m; obtain ⟨a', b', c'⟩ := n; simp_all
theorem vl_act (f : F3) (m : M4) (x y : Int) : vl (act f m) x y = vl f (m.1 * x + m.2.1 * y) (m.2.2.1 * x + m.2.2.2 * y) := by
  simp only [vl, act, pl]; grind
theorem pl_act (f : F3) (m : M4) (x y u v : Int) : pl (act f m) x y u v = pl f (m.1 * x + m.2.1 * y) (m.2.2.1 * x + m.2.2.2 * y) (m.1 * u + m.2.1 * v) (m.2.2.1 * u + m.2.2.2 * v) := by
  simp only [vl, act, pl]; grind
theorem act_mul (f : F3) (m n : M4) : act (act f m) n = act f (mul m n) := by
  refine F3.ext ?_ ?_ ?_
  · exact vl_act f m _ _
  · exact pl_act f m _ _ _ _
  · exact vl_act f m _ _
theorem act_one (f : F3) : act f one4 = f := by refine F3.ext ?_ ?_ ?_ <;> simp [act, one4, vl, pl] 
theorem dsc_act (f : F3) (m : M4) : dsc (act f m) = det m * det m * dsc f := by simp only [dsc, act, vl, pl, det]; grind
theorem det_mul (m n : M4) : det (mul m n) = det m * det n := by simp only [det, mul]; grind
theorem det_inv (m : M4) : det (inv m) = det m := by simp only [det, inv]; grind
theorem mul_inv {m : M4} (h : det m = 1) : mul m (inv m) = one4 := by
  simp only [det] at h
  refine M4.ext ?_ ?_ ?_ ?_ <;> simp only [mul, inv, one4] <;> grind
theorem inv_mul {m : M4} (h : det m = 1) : mul (inv m) m = one4 := by
  simp only [det] at h
  refine M4.ext ?_ ?_ ?_ ?_ <;> simp only [mul, inv, one4] <;> grind
theorem mul_assoc4 (m n k : M4) : mul (mul m n) k = mul m (mul n k) := by
  refine M4.ext ?_ ?_ ?_ ?_ <;> simp only [mul] <;> grind
theorem mul_one4 (m : M4) : mul m one4 = m := by refine M4.ext ?_ ?_ ?_ ?_ <;> simp [mul, one4]
theorem one_mul4 (m : M4) : mul one4 m = m := by refine M4.ext ?_ ?_ ?_ ?_ <;> simp [mul, one4]
theorem act_inv {f : F3} {m : M4} (h : det m = 1) : act (act f m) (inv m) = f := by rw [act_mul, mul_inv h, act_one]

/-! ### values of a reduced form -/
theorem sq_nonneg (x : Int) : 0 ≤ x * x := by
  rcases Int.le_total 0 x with h | h
  · exact Int.mul_nonneg h h
  · exact Int.mul_nonneg_of_nonpos_of_nonpos h h
theorem sq_pos {x : Int} (h : x ≠ 0) : 1 ≤ x * x := by
  have h1 := sq_nonneg x
  have h2 : x * x ≠ 0 := fun e => h (by simpa using Int.mul_eq_zero.1 e)
  omega
/-- twice a value -/
theorem two_vl {a b c : Int} (hb : -a ≤ b ∧ b ≤ a) (hc : a ≤ c) (x y : Int) : (2 * a - b.natAbs) * (x * x) + (2 * c - b.natAbs) * (y * y) ≤ 2 * vl (a, b, c) x y := by
  have key : 0 ≤ (b.natAbs : Int) * (x * x) + (b.natAbs : Int) * (y * y) + 2 * (b * x * y) := by
    rcases Int.le_total 0 b with h | h
    · have e : (b.natAbs : Int) = b := by omega
      rw [e]
      have h2 := Int.mul_nonneg h (sq_nonneg (x + y))
      have h3 : b * ((x + y) * (x + y)) = b * (x * x) + b * (y * y) + 2 * (b * x * y) := by grind
      omega
    · have e : (b.natAbs : Int) = -b := by omega
      rw [e]
      have h2 := Int.mul_nonneg (show 0 ≤ -b by omega) (sq_nonneg (x - y))
      have h3 : -b * ((x - y) * (x - y)) = -b * (x * x) + -b * (y * y) + 2 * (b * x * y) := by grind
      omega
  have e1 : (2 * a - b.natAbs) * (x * x) = 2 * (a * x * x) - (b.natAbs : Int) * (x * x) := by grind
  have e2 : (2 * c - b.natAbs) * (y * y) = 2 * (c * y * y) - (b.natAbs : Int) * (y * y) := by grind
  unfold vl
  simp only
  omega
theorem vl_low {a b c : Int} (ha : 0 < a) (hb : -a ≤ b ∧ b ≤ a) (hc : a ≤ c) {x y : Int} (hx : x ≠ 0) (hy : y ≠ 0) : a + c - b.natAbs ≤ vl (a, b, c) x y := by
  have h := two_vl hb hc x y
  have h1 : (2 * a - b.natAbs) * 1 ≤ (2 * a - b.natAbs) * (x * x) := Int.mul_le_mul_of_nonneg_left (sq_pos hx) (by omega)
  have h2 : (2 * c - b.natAbs) * 1 ≤ (2 * c - b.natAbs) * (y * y) := Int.mul_le_mul_of_nonneg_left (sq_pos hy) (by omega)
  omega
theorem vl_x0 (f : F3) (x : Int) : vl f x 0 = f.1 * (x * x) := by unfold vl; grind
theorem vl_0y (f : F3) (y : Int) : vl f 0 y = f.2.2 * (y * y) := by unfold vl; grind
theorem vl_min {a b c : Int} (ha : 0 < a) (hb : -a ≤ b ∧ b ≤ a) (hc : a ≤ c) {x y : Int} (h : x ≠ 0 ∨ y ≠ 0) : a ≤ vl (a, b, c) x y := by
  by_cases hx : x = 0
  · subst hx
    rw [vl_0y]
    have hy : y ≠ 0 := by rcases h with h | h; exact absurd rfl h; exact h
    have h2 : c * 1 ≤ c * (y * y) := Int.mul_le_mul_of_nonneg_left (sq_pos hy) (by omega)
    simp only
    omega
  · by_cases hy : y = 0
    · subst hy
      rw [vl_x0]
      have h2 : a * 1 ≤ a * (x * x) := Int.mul_le_mul_of_nonneg_left (sq_pos hx) (by omega)
      simp only
      omega
    · have := vl_low ha hb hc hx hy
      omega

theorem abs_le_of_sq {x n : Int} (hn : 0 ≤ n) (h : x * x ≤ n * n) : -n ≤ x ∧ x ≤ n := by
  constructor
  · by_cases hc : -n ≤ x
    · exact hc
    · exfalso
      have h2 : (n + 1) * (n + 1) ≤ (-x) * (-x) := Int.mul_le_mul (by omega) (by omega) (by omega) (by omega)
      have h3 : (-x) * (-x) = x * x := by grind
      have h4 : (n + 1) * (n + 1) = n * n + 2 * n + 1 := by grind
      omega
  · by_cases hc : x ≤ n
    · exact hc
    · exfalso
      have h2 : (n + 1) * (n + 1) ≤ x * x := Int.mul_le_mul (by omega) (by omega) (by omega) (by omega)
      have h4 : (n + 1) * (n + 1) = n * n + 2 * n + 1 := by grind
      omega

theorem IsRed.abs {d : Int} {x : F3} (h : IsRed d x) : -x.1 ≤ x.2.1 ∧ x.2.1 ≤ x.1 := ⟨by have := h.lo; omega, h.hi⟩
theorem IsRed.le {d : Int} {x : F3} (h : IsRed d x) : x.1 ≤ x.2.2 := by have := h.ac; omega

/-- EACH CLASS HOLDS ONE REDUCED FORM. -/
theorem red_unique {d : Int} {f g : F3} {m : M4} (hf : IsRed d f) (hg : IsRed d g) (hm : det m = 1) (h : act f m = g) : f = g := by
  obtain ⟨a, b, c⟩ := f
  obtain ⟨a', b', c'⟩ := g
  obtain ⟨p, q, r, s⟩ := m
  have fb := hf.abs
  have fc := hf.le
  have gb := hg.abs
  have gc := hg.le
  obtain ⟨fa0, flo, fhi, fac, fd⟩ := hf
  obtain ⟨ga0, glo, ghi, gac, gd⟩ := hg
  simp only [det] at hm
  simp only at fa0 flo fhi fac fd ga0 glo ghi gac gd fb fc gb gc
  have hpr : p ≠ 0 ∨ r ≠ 0 := by
    by_cases hp : p = 0
    · by_cases hr : r = 0
      · subst hp hr; simp at hm
      · exact .inr hr
    · exact .inl hp
  have hsr : s ≠ 0 ∨ -r ≠ 0 := by
    by_cases hp : s = 0
    · by_cases hr : r = 0
      · subst hp hr; simp at hm
      · exact .inr (by omega)
    · exact .inl hp
  have e1 : vl (a, b, c) p r = a' := congrArg Prod.fst h
  have e2 : pl (a, b, c) p r q s = b' := congrArg (fun x => x.2.1) h
  have le1 : a ≤ a' := by rw [← e1]; exact vl_min fa0 fb fc hpr
  have le2 : a' ≤ a := by
    have h3 : act (a', b', c') (inv (p, q, r, s)) = (a, b, c) := by rw [← h]; exact act_inv hm
    have h4 : vl (a', b', c') s (-r) = a := congrArg Prod.fst h3
    rw [← h4]; exact vl_min ga0 gb gc hsr
  have hae : a' = a := by omega
  subst hae
  have hbb : b' = b → (a', b, c) = (a', b', c') := by
    intro hb
    subst hb
    have h5 : 4 * a' * c = 4 * a' * c' := by omega
    have h6 : c = c' := Int.eq_of_mul_eq_mul_left (show 4 * a' ≠ 0 by omega) h5
    rw [h6]
  by_cases hr : r = 0
  · subst hr
    have hps : p * s = 1 := by rw [← hm]; grind
    have h5 : b' = b + 2 * (a' * (p * q)) := by rw [← e2]; unfold pl; simp only; grind
    have h6 : p * q = 0 := by
      have h7 : p * q < 1 := by
        by_cases hc : p * q < 1
        · exact hc
        · exfalso
          have : a' * 1 ≤ a' * (p * q) := Int.mul_le_mul_of_nonneg_left (by omega) (by omega)
          omega
      have h8 : -1 < p * q := by
        by_cases hc : -1 < p * q
        · exact hc
        · exfalso
          have : a' * (p * q) ≤ a' * (-1) := Int.mul_le_mul_of_nonneg_left (by omega) (by omega)
          omega
      omega
    rw [h6] at h5
    exact hbb (by omega)
  · by_cases hp : p = 0
    · subst hp
      have hqr : r * q = -1 := by grind
      have hrr : r * r = 1 := by
        have h7 : r.natAbs = 1 := by
          have h8 : (r * q).natAbs = 1 := by rw [hqr]; rfl
          rw [Int.natAbs_mul] at h8
          exact Nat.eq_one_of_mul_eq_one_right h8
        have h9 : ((r.natAbs * r.natAbs : Nat) : Int) = r * r := by rw [Int.natCast_mul]; exact Int.natAbs_mul_self' r
        rw [h7] at h9
        omega
      have hca : c = a' := by rw [vl_0y, hrr] at e1; simp only at e1; omega
      subst hca
      have hb0 : 0 ≤ b := by omega
      have h5 : b' = -b + 2 * (c * (r * s)) := by
        rw [← e2]; unfold pl; simp only
        have : 2 * c * 0 * q + b * (0 * s + r * q) + 2 * c * r * s = b * (r * q) + 2 * (c * (r * s)) := by grind
        rw [this, hqr]; omega
      have h7 : r * s < 2 := by
        by_cases hc : r * s < 2
        · exact hc
        · exfalso
          have : c * 2 ≤ c * (r * s) := Int.mul_le_mul_of_nonneg_left (by omega) (by omega)
          omega
      have h8 : -1 < r * s := by
        by_cases hc : -1 < r * s
        · exact hc
        · exfalso
          have : c * (r * s) ≤ c * (-1) := Int.mul_le_mul_of_nonneg_left (by omega) (by omega)
          omega
      have h9 : r * s = 0 ∨ r * s = 1 := by omega
      rcases h9 with h9 | h9
      · rw [h9] at h5
        have h10 : b' = -b := by omega
        have h11 : b' * b' = b * b := by rw [h10]; grind
        have h12 : 4 * c * c = 4 * c * c' := by omega
        have h13 : c = c' := Int.eq_of_mul_eq_mul_left (show 4 * c ≠ 0 by omega) h12
        exact hbb (by omega)
      · rw [h9] at h5
        exact hbb (by omega)
    · have h5 := vl_low fa0 fb fc hp hr
      rw [e1] at h5
      have hc : c = a' := by omega
      have hb : b = a' := by omega
      subst hc hb
      have h6 : c' * 1 ≤ c' * 1 := Int.le_refl _
      have h7 : b * b ≤ b * c' := Int.mul_le_mul_of_nonneg_left gc (by omega)
      have e4 : 4 * b * b = 4 * (b * b) := Int.mul_assoc _ _ _
      have e5 : 4 * b * c' = 4 * (b * c') := Int.mul_assoc _ _ _
      have h8 : b * b ≤ b' * b' := by omega
      by_cases hlt : b' = b
      · exact hbb hlt
      · exfalso
        have h9 := abs_le_of_sq (x := b') (n := b - 1) (by omega)
        by_cases h10 : b' * b' ≤ (b - 1) * (b - 1)
        · have : (b - 1) * (b - 1) = b * b - 2 * b + 1 := by grind
          omega
        · have h11 : b' ≤ b - 1 := by omega
          have h12 : -(b - 1) ≤ b' := by omega
          have h13 := sq_in (a := b') (n := b - 1) (by omega) ⟨by omega, h11⟩
          omega
end Go.Proofs.Ytacomnelongbjab
