/-
  Plain laws: a primitive form has a small point whose value has no common divisor with a given small number. Conditions: none; nothing here speaks of the program.
-/
import Derived.Test.YthcnaeahmdapbaaCm
import Derived.Test.YthcnaeahmdapbaaGc
namespace Go.Proofs.Ythcnaeahmdapbaa
open Go Go.RowKit
set_option maxRecDepth 100000
set_option linter.unusedSimpArgs false
set_option linter.unusedVariables false
set_option maxHeartbeats 4000000

theorem Prim.not {f : F3} (h : Prim f) {p : Int} (hp : 1 < p) : ¬ (f.1 % p = 0 ∧ f.2.1 % p = 0 ∧ f.2.2 % p = 0) := by
  rintro ⟨h1, h2, h3⟩
  obtain ⟨x, y, z, hz⟩ := h
  have d1 := Int.dvd_of_emod_eq_zero h1
  have d2 := Int.dvd_of_emod_eq_zero h2
  have d3 := Int.dvd_of_emod_eq_zero h3
  have d : p ∣ 1 := by
    rw [← hz]
    exact Int.dvd_add (Int.dvd_add (Int.dvd_mul_of_dvd_right d1) (Int.dvd_mul_of_dvd_right d2)) (Int.dvd_mul_of_dvd_right d3)
  have := Int.le_of_dvd (by omega) d
  omega
/-- a value has no common divisor with a -/
def cop (a v : Int) : Prop := Int.gcd v a = 1
theorem cop_mod {a v : Int} (ha : 0 < a) (h : Nat.gcd (v % a).toNat a.toNat = 1) : cop a v := by
  unfold cop Int.gcd
  have h1 := Int.emod_nonneg v (show a ≠ 0 by omega)
  have e := Int.mul_ediv_add_emod v a
  have h2 : Int.gcd v a = Int.gcd (v % a) a := by
    have h6 := Int.gcd_add_mul_left_left a (v % a) (v / a)
    rw [← h6]
    congr 1
    omega
  have h3 : (v % a).natAbs = (v % a).toNat := by omega
  have h4 : a.natAbs = a.toNat := by omega
  have h5 : Int.gcd (v % a) a = Nat.gcd (v % a).natAbs a.natAbs := rfl
  rw [h3, h4, h] at h5
  rw [h5] at h2
  exact h2
structure FPt (K : Int) (g : F3) (a x y : Int) : Prop where
  x0 : 0 ≤ x
  x1 : x ≤ K
  y0 : 0 ≤ y
  y1 : y ≤ K
  xy : Int.gcd x y = 1
  v : Int.gcd (vl g x y) a = 1
theorem copA1 (v : Int) : Nat.gcd (v % 1).toNat 1 = 1 := Nat.gcd_one_right _
theorem copA2 {v : Int} (h2 : v % 2 ≠ 0) : Nat.gcd (v % 2).toNat 2 = 1 := (by decide : ∀ r, r < 2 → r % 2 ≠ 0 → Nat.gcd r 2 = 1) _ (by omega) (by omega)
theorem copA3 {v : Int} (h3 : v % 3 ≠ 0) : Nat.gcd (v % 3).toNat 3 = 1 := (by decide : ∀ r, r < 3 → r % 3 ≠ 0 → Nat.gcd r 3 = 1) _ (by omega) (by omega)
theorem copA4 {v : Int} (h2 : v % 2 ≠ 0) : Nat.gcd (v % 4).toNat 4 = 1 := (by decide : ∀ r, r < 4 → r % 2 ≠ 0 → Nat.gcd r 4 = 1) _ (by omega) (by omega)
theorem copA5 {v : Int} (h5 : v % 5 ≠ 0) : Nat.gcd (v % 5).toNat 5 = 1 := (by decide : ∀ r, r < 5 → r % 5 ≠ 0 → Nat.gcd r 5 = 1) _ (by omega) (by omega)
theorem copA6 {v : Int} (h2 : v % 2 ≠ 0) (h3 : v % 3 ≠ 0) : Nat.gcd (v % 6).toNat 6 = 1 := (by decide : ∀ r, r < 6 → r % 2 ≠ 0 → r % 3 ≠ 0 → Nat.gcd r 6 = 1) _ (by omega) (by omega) (by omega)
theorem copA7 {v : Int} (h7 : v % 7 ≠ 0) : Nat.gcd (v % 7).toNat 7 = 1 := (by decide : ∀ r, r < 7 → r % 7 ≠ 0 → Nat.gcd r 7 = 1) _ (by omega) (by omega)
theorem copA8 {v : Int} (h2 : v % 2 ≠ 0) : Nat.gcd (v % 8).toNat 8 = 1 := (by decide : ∀ r, r < 8 → r % 2 ≠ 0 → Nat.gcd r 8 = 1) _ (by omega) (by omega)
theorem copA9 {v : Int} (h3 : v % 3 ≠ 0) : Nat.gcd (v % 9).toNat 9 = 1 := (by decide : ∀ r, r < 9 → r % 3 ≠ 0 → Nat.gcd r 9 = 1) _ (by omega) (by omega)
theorem copA10 {v : Int} (h2 : v % 2 ≠ 0) (h5 : v % 5 ≠ 0) : Nat.gcd (v % 10).toNat 10 = 1 := (by decide : ∀ r, r < 10 → r % 2 ≠ 0 → r % 5 ≠ 0 → Nat.gcd r 10 = 1) _ (by omega) (by omega) (by omega)
theorem copA11 {v : Int} (h11 : v % 11 ≠ 0) : Nat.gcd (v % 11).toNat 11 = 1 := (by decide : ∀ r, r < 11 → r % 11 ≠ 0 → Nat.gcd r 11 = 1) _ (by omega) (by omega)
theorem copA12 {v : Int} (h2 : v % 2 ≠ 0) (h3 : v % 3 ≠ 0) : Nat.gcd (v % 12).toNat 12 = 1 := (by decide : ∀ r, r < 12 → r % 2 ≠ 0 → r % 3 ≠ 0 → Nat.gcd r 12 = 1) _ (by omega) (by omega) (by omega)
theorem copA13 {v : Int} (h13 : v % 13 ≠ 0) : Nat.gcd (v % 13).toNat 13 = 1 := (by decide : ∀ r, r < 13 → r % 13 ≠ 0 → Nat.gcd r 13 = 1) _ (by omega) (by omega)
theorem copA14 {v : Int} (h2 : v % 2 ≠ 0) (h7 : v % 7 ≠ 0) : Nat.gcd (v % 14).toNat 14 = 1 := (by decide : ∀ r, r < 14 → r % 2 ≠ 0 → r % 7 ≠ 0 → Nat.gcd r 14 = 1) _ (by omega) (by omega) (by omega)
theorem copA15 {v : Int} (h3 : v % 3 ≠ 0) (h5 : v % 5 ≠ 0) : Nat.gcd (v % 15).toNat 15 = 1 := (by decide : ∀ r, r < 15 → r % 3 ≠ 0 → r % 5 ≠ 0 → Nat.gcd r 15 = 1) _ (by omega) (by omega) (by omega)
theorem copA16 {v : Int} (h2 : v % 2 ≠ 0) : Nat.gcd (v % 16).toNat 16 = 1 := (by decide : ∀ r, r < 16 → r % 2 ≠ 0 → Nat.gcd r 16 = 1) _ (by omega) (by omega)
theorem copA17 {v : Int} (h17 : v % 17 ≠ 0) : Nat.gcd (v % 17).toNat 17 = 1 := (by decide : ∀ r, r < 17 → r % 17 ≠ 0 → Nat.gcd r 17 = 1) _ (by omega) (by omega)
theorem copA18 {v : Int} (h2 : v % 2 ≠ 0) (h3 : v % 3 ≠ 0) : Nat.gcd (v % 18).toNat 18 = 1 := (by decide : ∀ r, r < 18 → r % 2 ≠ 0 → r % 3 ≠ 0 → Nat.gcd r 18 = 1) _ (by omega) (by omega) (by omega)
theorem copA19 {v : Int} (h19 : v % 19 ≠ 0) : Nat.gcd (v % 19).toNat 19 = 1 := (by decide : ∀ r, r < 19 → r % 19 ≠ 0 → Nat.gcd r 19 = 1) _ (by omega) (by omega)
theorem copA20 {v : Int} (h2 : v % 2 ≠ 0) (h5 : v % 5 ≠ 0) : Nat.gcd (v % 20).toNat 20 = 1 := (by decide : ∀ r, r < 20 → r % 2 ≠ 0 → r % 5 ≠ 0 → Nat.gcd r 20 = 1) _ (by omega) (by omega) (by omega)
theorem copA21 {v : Int} (h3 : v % 3 ≠ 0) (h7 : v % 7 ≠ 0) : Nat.gcd (v % 21).toNat 21 = 1 := (by decide : ∀ r, r < 21 → r % 3 ≠ 0 → r % 7 ≠ 0 → Nat.gcd r 21 = 1) _ (by omega) (by omega) (by omega)
theorem copA22 {v : Int} (h2 : v % 2 ≠ 0) (h11 : v % 11 ≠ 0) : Nat.gcd (v % 22).toNat 22 = 1 := (by decide : ∀ r, r < 22 → r % 2 ≠ 0 → r % 11 ≠ 0 → Nat.gcd r 22 = 1) _ (by omega) (by omega) (by omega)
theorem copA23 {v : Int} (h23 : v % 23 ≠ 0) : Nat.gcd (v % 23).toNat 23 = 1 := (by decide : ∀ r, r < 23 → r % 23 ≠ 0 → Nat.gcd r 23 = 1) _ (by omega) (by omega)
theorem copA24 {v : Int} (h2 : v % 2 ≠ 0) (h3 : v % 3 ≠ 0) : Nat.gcd (v % 24).toNat 24 = 1 := (by decide : ∀ r, r < 24 → r % 2 ≠ 0 → r % 3 ≠ 0 → Nat.gcd r 24 = 1) _ (by omega) (by omega) (by omega)
theorem copA25 {v : Int} (h5 : v % 5 ≠ 0) : Nat.gcd (v % 25).toNat 25 = 1 := (by decide : ∀ r, r < 25 → r % 5 ≠ 0 → Nat.gcd r 25 = 1) _ (by omega) (by omega)
theorem vl_01 (A B C : Int) : vl (A, B, C) 0 1 = C := by simp only [vl]; grind
theorem vl_10 (A B C : Int) : vl (A, B, C) 1 0 = A := by simp only [vl]; grind
theorem vl_11 (A B C : Int) : vl (A, B, C) 1 1 = A + B + C := by simp only [vl]; grind
theorem vl_12 (A B C : Int) : vl (A, B, C) 1 2 = A + 2 * B + 4 * C := by simp only [vl]; grind
theorem vl_13 (A B C : Int) : vl (A, B, C) 1 3 = A + 3 * B + 9 * C := by simp only [vl]; grind
theorem vl_14 (A B C : Int) : vl (A, B, C) 1 4 = A + 4 * B + 16 * C := by simp only [vl]; grind
theorem vl_21 (A B C : Int) : vl (A, B, C) 2 1 = 4 * A + 2 * B + C := by simp only [vl]; grind
theorem vl_23 (A B C : Int) : vl (A, B, C) 2 3 = 4 * A + 6 * B + 9 * C := by simp only [vl]; grind
theorem vl_25 (A B C : Int) : vl (A, B, C) 2 5 = 4 * A + 10 * B + 25 * C := by simp only [vl]; grind
theorem vl_31 (A B C : Int) : vl (A, B, C) 3 1 = 9 * A + 3 * B + C := by simp only [vl]; grind
theorem vl_32 (A B C : Int) : vl (A, B, C) 3 2 = 9 * A + 6 * B + 4 * C := by simp only [vl]; grind
theorem tri0 {q A B C : Int} (hk : ∀ z : Int, q ∣ 1 * z → z % q = 0) (m : ¬ (A % q = 0 ∧ B % q = 0 ∧ C % q = 0)) : (A) % q ≠ 0 ∨ (C) % q ≠ 0 ∨ (A + B + C) % q ≠ 0 := by
  by_cases h0 : (A) % q = 0
  · by_cases h1 : (C) % q = 0
    · by_cases h2 : (A + B + C) % q = 0
      · exfalso
        obtain ⟨a, ha⟩ := Int.dvd_of_emod_eq_zero h0
        obtain ⟨b, hb⟩ := Int.dvd_of_emod_eq_zero h1
        obtain ⟨c, hc⟩ := Int.dvd_of_emod_eq_zero h2
        have e : ∀ i j k : Int, q * (i * a + j * b + k * c) = i * (q * a) + j * (q * b) + k * (q * c) := fun i j k => by grind
        refine m ⟨hk _ ⟨(1) * a + (0) * b + (0) * c, by rw [e]; omega⟩, hk _ ⟨(-1) * a + (-1) * b + (1) * c, by rw [e]; omega⟩, hk _ ⟨(0) * a + (1) * b + (0) * c, by rw [e]; omega⟩⟩
      · exact .inr (.inr h2)
    · exact .inr (.inl h1)
  · exact .inl h0
theorem tri1 {q A B C : Int} (hk : ∀ z : Int, q ∣ 8 * z → z % q = 0) (m : ¬ (A % q = 0 ∧ B % q = 0 ∧ C % q = 0)) : (A) % q ≠ 0 ∨ (A + 2 * B + 4 * C) % q ≠ 0 ∨ (9 * A + 6 * B + 4 * C) % q ≠ 0 := by
  by_cases h0 : (A) % q = 0
  · by_cases h1 : (A + 2 * B + 4 * C) % q = 0
    · by_cases h2 : (9 * A + 6 * B + 4 * C) % q = 0
      · exfalso
        obtain ⟨a, ha⟩ := Int.dvd_of_emod_eq_zero h0
        obtain ⟨b, hb⟩ := Int.dvd_of_emod_eq_zero h1
        obtain ⟨c, hc⟩ := Int.dvd_of_emod_eq_zero h2
        have e : ∀ i j k : Int, q * (i * a + j * b + k * c) = i * (q * a) + j * (q * b) + k * (q * c) := fun i j k => by grind
        refine m ⟨hk _ ⟨(8) * a + (0) * b + (0) * c, by rw [e]; omega⟩, hk _ ⟨(-16) * a + (-2) * b + (2) * c, by rw [e]; omega⟩, hk _ ⟨(6) * a + (3) * b + (-1) * c, by rw [e]; omega⟩⟩
      · exact .inr (.inr h2)
    · exact .inr (.inl h1)
  · exact .inl h0
theorem tri2 {q A B C : Int} (hk : ∀ z : Int, q ∣ 8 * z → z % q = 0) (m : ¬ (A % q = 0 ∧ B % q = 0 ∧ C % q = 0)) : (C) % q ≠ 0 ∨ (4 * A + 2 * B + C) % q ≠ 0 ∨ (4 * A + 6 * B + 9 * C) % q ≠ 0 := by
  by_cases h0 : (C) % q = 0
  · by_cases h1 : (4 * A + 2 * B + C) % q = 0
    · by_cases h2 : (4 * A + 6 * B + 9 * C) % q = 0
      · exfalso
        obtain ⟨a, ha⟩ := Int.dvd_of_emod_eq_zero h0
        obtain ⟨b, hb⟩ := Int.dvd_of_emod_eq_zero h1
        obtain ⟨c, hc⟩ := Int.dvd_of_emod_eq_zero h2
        have e : ∀ i j k : Int, q * (i * a + j * b + k * c) = i * (q * a) + j * (q * b) + k * (q * c) := fun i j k => by grind
        refine m ⟨hk _ ⟨(6) * a + (3) * b + (-1) * c, by rw [e]; omega⟩, hk _ ⟨(-16) * a + (-2) * b + (2) * c, by rw [e]; omega⟩, hk _ ⟨(8) * a + (0) * b + (0) * c, by rw [e]; omega⟩⟩
      · exact .inr (.inr h2)
    · exact .inr (.inl h1)
  · exact .inl h0
theorem tri3 {q A B C : Int} (hk : ∀ z : Int, q ∣ 16 * z → z % q = 0) (m : ¬ (A % q = 0 ∧ B % q = 0 ∧ C % q = 0)) : (A + B + C) % q ≠ 0 ∨ (A + 3 * B + 9 * C) % q ≠ 0 ∨ (9 * A + 3 * B + C) % q ≠ 0 := by
  by_cases h0 : (A + B + C) % q = 0
  · by_cases h1 : (A + 3 * B + 9 * C) % q = 0
    · by_cases h2 : (9 * A + 3 * B + C) % q = 0
      · exfalso
        obtain ⟨a, ha⟩ := Int.dvd_of_emod_eq_zero h0
        obtain ⟨b, hb⟩ := Int.dvd_of_emod_eq_zero h1
        obtain ⟨c, hc⟩ := Int.dvd_of_emod_eq_zero h2
        have e : ∀ i j k : Int, q * (i * a + j * b + k * c) = i * (q * a) + j * (q * b) + k * (q * c) := fun i j k => by grind
        refine m ⟨hk _ ⟨(-12) * a + (1) * b + (3) * c, by rw [e]; omega⟩, hk _ ⟨(40) * a + (-4) * b + (-4) * c, by rw [e]; omega⟩, hk _ ⟨(-12) * a + (3) * b + (1) * c, by rw [e]; omega⟩⟩
      · exact .inr (.inr h2)
    · exact .inr (.inl h1)
  · exact .inl h0
theorem tri4 {q A B C : Int} (hk : ∀ z : Int, q ∣ 9 * z → z % q = 0) (m : ¬ (A % q = 0 ∧ B % q = 0 ∧ C % q = 0)) : (A) % q ≠ 0 ∨ (A + 3 * B + 9 * C) % q ≠ 0 ∨ (4 * A + 6 * B + 9 * C) % q ≠ 0 := by
  by_cases h0 : (A) % q = 0
  · by_cases h1 : (A + 3 * B + 9 * C) % q = 0
    · by_cases h2 : (4 * A + 6 * B + 9 * C) % q = 0
      · exfalso
        obtain ⟨a, ha⟩ := Int.dvd_of_emod_eq_zero h0
        obtain ⟨b, hb⟩ := Int.dvd_of_emod_eq_zero h1
        obtain ⟨c, hc⟩ := Int.dvd_of_emod_eq_zero h2
        have e : ∀ i j k : Int, q * (i * a + j * b + k * c) = i * (q * a) + j * (q * b) + k * (q * c) := fun i j k => by grind
        refine m ⟨hk _ ⟨(9) * a + (0) * b + (0) * c, by rw [e]; omega⟩, hk _ ⟨(-9) * a + (-3) * b + (3) * c, by rw [e]; omega⟩, hk _ ⟨(2) * a + (2) * b + (-1) * c, by rw [e]; omega⟩⟩
      · exact .inr (.inr h2)
    · exact .inr (.inl h1)
  · exact .inl h0
theorem tri5 {q A B C : Int} (hk : ∀ z : Int, q ∣ 9 * z → z % q = 0) (m : ¬ (A % q = 0 ∧ B % q = 0 ∧ C % q = 0)) : (C) % q ≠ 0 ∨ (9 * A + 3 * B + C) % q ≠ 0 ∨ (9 * A + 6 * B + 4 * C) % q ≠ 0 := by
  by_cases h0 : (C) % q = 0
  · by_cases h1 : (9 * A + 3 * B + C) % q = 0
    · by_cases h2 : (9 * A + 6 * B + 4 * C) % q = 0
      · exfalso
        obtain ⟨a, ha⟩ := Int.dvd_of_emod_eq_zero h0
        obtain ⟨b, hb⟩ := Int.dvd_of_emod_eq_zero h1
        obtain ⟨c, hc⟩ := Int.dvd_of_emod_eq_zero h2
        have e : ∀ i j k : Int, q * (i * a + j * b + k * c) = i * (q * a) + j * (q * b) + k * (q * c) := fun i j k => by grind
        refine m ⟨hk _ ⟨(2) * a + (2) * b + (-1) * c, by rw [e]; omega⟩, hk _ ⟨(-9) * a + (-3) * b + (3) * c, by rw [e]; omega⟩, hk _ ⟨(9) * a + (0) * b + (0) * c, by rw [e]; omega⟩⟩
      · exact .inr (.inr h2)
    · exact .inr (.inl h1)
  · exact .inl h0
theorem tri6 {q A B C : Int} (hk : ∀ z : Int, q ∣ 9 * z → z % q = 0) (m : ¬ (A % q = 0 ∧ B % q = 0 ∧ C % q = 0)) : (A + B + C) % q ≠ 0 ∨ (A + 4 * B + 16 * C) % q ≠ 0 ∨ (4 * A + 10 * B + 25 * C) % q ≠ 0 := by
  by_cases h0 : (A + B + C) % q = 0
  · by_cases h1 : (A + 4 * B + 16 * C) % q = 0
    · by_cases h2 : (4 * A + 10 * B + 25 * C) % q = 0
      · exfalso
        obtain ⟨a, ha⟩ := Int.dvd_of_emod_eq_zero h0
        obtain ⟨b, hb⟩ := Int.dvd_of_emod_eq_zero h1
        obtain ⟨c, hc⟩ := Int.dvd_of_emod_eq_zero h2
        have e : ∀ i j k : Int, q * (i * a + j * b + k * c) = i * (q * a) + j * (q * b) + k * (q * c) := fun i j k => by grind
        refine m ⟨hk _ ⟨(20) * a + (5) * b + (-4) * c, by rw [e]; omega⟩, hk _ ⟨(-13) * a + (-7) * b + (5) * c, by rw [e]; omega⟩, hk _ ⟨(2) * a + (2) * b + (-1) * c, by rw [e]; omega⟩⟩
      · exact .inr (.inr h2)
    · exact .inr (.inl h1)
  · exact .inl h0
theorem ex_pt1 {A B C : Int} (hp : Prim (A, B, C)) : ∃ x y, FPt 5 (A, B, C) 1 x y := by
  rcases tri0 (A := A) (B := B) (C := C) (q := 2) (fun z h => by omega) (hp.not (p := 2) (by decide)) with h | h | h
  · exact ⟨1, 0, by decide, by decide, by decide, by decide, by decide, by rw [vl_10]; exact cop_mod (by decide) (copA1 _)⟩
  · exact ⟨0, 1, by decide, by decide, by decide, by decide, by decide, by rw [vl_01]; exact cop_mod (by decide) (copA1 _)⟩
  · exact ⟨1, 1, by decide, by decide, by decide, by decide, by decide, by rw [vl_11]; exact cop_mod (by decide) (copA1 _)⟩
theorem ex_pt2 {A B C : Int} (hp : Prim (A, B, C)) : ∃ x y, FPt 5 (A, B, C) 2 x y := by
  rcases tri0 (A := A) (B := B) (C := C) (q := 2) (fun z h => by omega) (hp.not (p := 2) (by decide)) with h | h | h
  · exact ⟨1, 0, by decide, by decide, by decide, by decide, by decide, by rw [vl_10]; exact cop_mod (by decide) (copA2 (v := A) h)⟩
  · exact ⟨0, 1, by decide, by decide, by decide, by decide, by decide, by rw [vl_01]; exact cop_mod (by decide) (copA2 (v := C) h)⟩
  · exact ⟨1, 1, by decide, by decide, by decide, by decide, by decide, by rw [vl_11]; exact cop_mod (by decide) (copA2 (v := A + B + C) h)⟩
theorem ex_pt3 {A B C : Int} (hp : Prim (A, B, C)) : ∃ x y, FPt 5 (A, B, C) 3 x y := by
  rcases tri0 (A := A) (B := B) (C := C) (q := 3) (fun z h => by omega) (hp.not (p := 3) (by decide)) with h | h | h
  · exact ⟨1, 0, by decide, by decide, by decide, by decide, by decide, by rw [vl_10]; exact cop_mod (by decide) (copA3 (v := A) h)⟩
  · exact ⟨0, 1, by decide, by decide, by decide, by decide, by decide, by rw [vl_01]; exact cop_mod (by decide) (copA3 (v := C) h)⟩
  · exact ⟨1, 1, by decide, by decide, by decide, by decide, by decide, by rw [vl_11]; exact cop_mod (by decide) (copA3 (v := A + B + C) h)⟩
theorem ex_pt4 {A B C : Int} (hp : Prim (A, B, C)) : ∃ x y, FPt 5 (A, B, C) 4 x y := by
  rcases tri0 (A := A) (B := B) (C := C) (q := 2) (fun z h => by omega) (hp.not (p := 2) (by decide)) with h | h | h
  · exact ⟨1, 0, by decide, by decide, by decide, by decide, by decide, by rw [vl_10]; exact cop_mod (by decide) (copA4 (v := A) h)⟩
  · exact ⟨0, 1, by decide, by decide, by decide, by decide, by decide, by rw [vl_01]; exact cop_mod (by decide) (copA4 (v := C) h)⟩
  · exact ⟨1, 1, by decide, by decide, by decide, by decide, by decide, by rw [vl_11]; exact cop_mod (by decide) (copA4 (v := A + B + C) h)⟩
theorem ex_pt5 {A B C : Int} (hp : Prim (A, B, C)) : ∃ x y, FPt 5 (A, B, C) 5 x y := by
  rcases tri0 (A := A) (B := B) (C := C) (q := 5) (fun z h => by omega) (hp.not (p := 5) (by decide)) with h | h | h
  · exact ⟨1, 0, by decide, by decide, by decide, by decide, by decide, by rw [vl_10]; exact cop_mod (by decide) (copA5 (v := A) h)⟩
  · exact ⟨0, 1, by decide, by decide, by decide, by decide, by decide, by rw [vl_01]; exact cop_mod (by decide) (copA5 (v := C) h)⟩
  · exact ⟨1, 1, by decide, by decide, by decide, by decide, by decide, by rw [vl_11]; exact cop_mod (by decide) (copA5 (v := A + B + C) h)⟩
theorem ex_pt6 {A B C : Int} (hp : Prim (A, B, C)) : ∃ x y, FPt 5 (A, B, C) 6 x y := by
  rcases tri0 (A := A) (B := B) (C := C) (q := 2) (fun z h => by omega) (hp.not (p := 2) (by decide)) with h | h | h
  · rcases tri1 (A := A) (B := B) (C := C) (q := 3) (fun z h => by omega) (hp.not (p := 3) (by decide)) with k | k | k
    · exact ⟨1, 0, by decide, by decide, by decide, by decide, by decide, by rw [vl_10]; exact cop_mod (by decide) (copA6 (v := A) (by clear k; omega) k)⟩
    · exact ⟨1, 2, by decide, by decide, by decide, by decide, by decide, by rw [vl_12]; exact cop_mod (by decide) (copA6 (v := A + 2 * B + 4 * C) (by clear k; omega) k)⟩
    · exact ⟨3, 2, by decide, by decide, by decide, by decide, by decide, by rw [vl_32]; exact cop_mod (by decide) (copA6 (v := 9 * A + 6 * B + 4 * C) (by clear k; omega) k)⟩
  · rcases tri2 (A := A) (B := B) (C := C) (q := 3) (fun z h => by omega) (hp.not (p := 3) (by decide)) with k | k | k
    · exact ⟨0, 1, by decide, by decide, by decide, by decide, by decide, by rw [vl_01]; exact cop_mod (by decide) (copA6 (v := C) (by clear k; omega) k)⟩
    · exact ⟨2, 1, by decide, by decide, by decide, by decide, by decide, by rw [vl_21]; exact cop_mod (by decide) (copA6 (v := 4 * A + 2 * B + C) (by clear k; omega) k)⟩
    · exact ⟨2, 3, by decide, by decide, by decide, by decide, by decide, by rw [vl_23]; exact cop_mod (by decide) (copA6 (v := 4 * A + 6 * B + 9 * C) (by clear k; omega) k)⟩
  · rcases tri3 (A := A) (B := B) (C := C) (q := 3) (fun z h => by omega) (hp.not (p := 3) (by decide)) with k | k | k
    · exact ⟨1, 1, by decide, by decide, by decide, by decide, by decide, by rw [vl_11]; exact cop_mod (by decide) (copA6 (v := A + B + C) (by clear k; omega) k)⟩
    · exact ⟨1, 3, by decide, by decide, by decide, by decide, by decide, by rw [vl_13]; exact cop_mod (by decide) (copA6 (v := A + 3 * B + 9 * C) (by clear k; omega) k)⟩
    · exact ⟨3, 1, by decide, by decide, by decide, by decide, by decide, by rw [vl_31]; exact cop_mod (by decide) (copA6 (v := 9 * A + 3 * B + C) (by clear k; omega) k)⟩
theorem ex_pt7 {A B C : Int} (hp : Prim (A, B, C)) : ∃ x y, FPt 5 (A, B, C) 7 x y := by
  rcases tri0 (A := A) (B := B) (C := C) (q := 7) (fun z h => by omega) (hp.not (p := 7) (by decide)) with h | h | h
  · exact ⟨1, 0, by decide, by decide, by decide, by decide, by decide, by rw [vl_10]; exact cop_mod (by decide) (copA7 (v := A) h)⟩
  · exact ⟨0, 1, by decide, by decide, by decide, by decide, by decide, by rw [vl_01]; exact cop_mod (by decide) (copA7 (v := C) h)⟩
  · exact ⟨1, 1, by decide, by decide, by decide, by decide, by decide, by rw [vl_11]; exact cop_mod (by decide) (copA7 (v := A + B + C) h)⟩
theorem ex_pt8 {A B C : Int} (hp : Prim (A, B, C)) : ∃ x y, FPt 5 (A, B, C) 8 x y := by
  rcases tri0 (A := A) (B := B) (C := C) (q := 2) (fun z h => by omega) (hp.not (p := 2) (by decide)) with h | h | h
  · exact ⟨1, 0, by decide, by decide, by decide, by decide, by decide, by rw [vl_10]; exact cop_mod (by decide) (copA8 (v := A) h)⟩
  · exact ⟨0, 1, by decide, by decide, by decide, by decide, by decide, by rw [vl_01]; exact cop_mod (by decide) (copA8 (v := C) h)⟩
  · exact ⟨1, 1, by decide, by decide, by decide, by decide, by decide, by rw [vl_11]; exact cop_mod (by decide) (copA8 (v := A + B + C) h)⟩
theorem ex_pt9 {A B C : Int} (hp : Prim (A, B, C)) : ∃ x y, FPt 5 (A, B, C) 9 x y := by
  rcases tri0 (A := A) (B := B) (C := C) (q := 3) (fun z h => by omega) (hp.not (p := 3) (by decide)) with h | h | h
  · exact ⟨1, 0, by decide, by decide, by decide, by decide, by decide, by rw [vl_10]; exact cop_mod (by decide) (copA9 (v := A) h)⟩
  · exact ⟨0, 1, by decide, by decide, by decide, by decide, by decide, by rw [vl_01]; exact cop_mod (by decide) (copA9 (v := C) h)⟩
  · exact ⟨1, 1, by decide, by decide, by decide, by decide, by decide, by rw [vl_11]; exact cop_mod (by decide) (copA9 (v := A + B + C) h)⟩
theorem ex_pt10 {A B C : Int} (hp : Prim (A, B, C)) : ∃ x y, FPt 5 (A, B, C) 10 x y := by
  rcases tri0 (A := A) (B := B) (C := C) (q := 2) (fun z h => by omega) (hp.not (p := 2) (by decide)) with h | h | h
  · rcases tri1 (A := A) (B := B) (C := C) (q := 5) (fun z h => by omega) (hp.not (p := 5) (by decide)) with k | k | k
    · exact ⟨1, 0, by decide, by decide, by decide, by decide, by decide, by rw [vl_10]; exact cop_mod (by decide) (copA10 (v := A) (by clear k; omega) k)⟩
    · exact ⟨1, 2, by decide, by decide, by decide, by decide, by decide, by rw [vl_12]; exact cop_mod (by decide) (copA10 (v := A + 2 * B + 4 * C) (by clear k; omega) k)⟩
    · exact ⟨3, 2, by decide, by decide, by decide, by decide, by decide, by rw [vl_32]; exact cop_mod (by decide) (copA10 (v := 9 * A + 6 * B + 4 * C) (by clear k; omega) k)⟩
  · rcases tri2 (A := A) (B := B) (C := C) (q := 5) (fun z h => by omega) (hp.not (p := 5) (by decide)) with k | k | k
    · exact ⟨0, 1, by decide, by decide, by decide, by decide, by decide, by rw [vl_01]; exact cop_mod (by decide) (copA10 (v := C) (by clear k; omega) k)⟩
    · exact ⟨2, 1, by decide, by decide, by decide, by decide, by decide, by rw [vl_21]; exact cop_mod (by decide) (copA10 (v := 4 * A + 2 * B + C) (by clear k; omega) k)⟩
    · exact ⟨2, 3, by decide, by decide, by decide, by decide, by decide, by rw [vl_23]; exact cop_mod (by decide) (copA10 (v := 4 * A + 6 * B + 9 * C) (by clear k; omega) k)⟩
  · rcases tri3 (A := A) (B := B) (C := C) (q := 5) (fun z h => by omega) (hp.not (p := 5) (by decide)) with k | k | k
    · exact ⟨1, 1, by decide, by decide, by decide, by decide, by decide, by rw [vl_11]; exact cop_mod (by decide) (copA10 (v := A + B + C) (by clear k; omega) k)⟩
    · exact ⟨1, 3, by decide, by decide, by decide, by decide, by decide, by rw [vl_13]; exact cop_mod (by decide) (copA10 (v := A + 3 * B + 9 * C) (by clear k; omega) k)⟩
    · exact ⟨3, 1, by decide, by decide, by decide, by decide, by decide, by rw [vl_31]; exact cop_mod (by decide) (copA10 (v := 9 * A + 3 * B + C) (by clear k; omega) k)⟩
theorem ex_pt11 {A B C : Int} (hp : Prim (A, B, C)) : ∃ x y, FPt 5 (A, B, C) 11 x y := by
  rcases tri0 (A := A) (B := B) (C := C) (q := 11) (fun z h => by omega) (hp.not (p := 11) (by decide)) with h | h | h
  · exact ⟨1, 0, by decide, by decide, by decide, by decide, by decide, by rw [vl_10]; exact cop_mod (by decide) (copA11 (v := A) h)⟩
  · exact ⟨0, 1, by decide, by decide, by decide, by decide, by decide, by rw [vl_01]; exact cop_mod (by decide) (copA11 (v := C) h)⟩
  · exact ⟨1, 1, by decide, by decide, by decide, by decide, by decide, by rw [vl_11]; exact cop_mod (by decide) (copA11 (v := A + B + C) h)⟩
theorem ex_pt12 {A B C : Int} (hp : Prim (A, B, C)) : ∃ x y, FPt 5 (A, B, C) 12 x y := by
  rcases tri0 (A := A) (B := B) (C := C) (q := 2) (fun z h => by omega) (hp.not (p := 2) (by decide)) with h | h | h
  · rcases tri1 (A := A) (B := B) (C := C) (q := 3) (fun z h => by omega) (hp.not (p := 3) (by decide)) with k | k | k
    · exact ⟨1, 0, by decide, by decide, by decide, by decide, by decide, by rw [vl_10]; exact cop_mod (by decide) (copA12 (v := A) (by clear k; omega) k)⟩
    · exact ⟨1, 2, by decide, by decide, by decide, by decide, by decide, by rw [vl_12]; exact cop_mod (by decide) (copA12 (v := A + 2 * B + 4 * C) (by clear k; omega) k)⟩
    · exact ⟨3, 2, by decide, by decide, by decide, by decide, by decide, by rw [vl_32]; exact cop_mod (by decide) (copA12 (v := 9 * A + 6 * B + 4 * C) (by clear k; omega) k)⟩
  · rcases tri2 (A := A) (B := B) (C := C) (q := 3) (fun z h => by omega) (hp.not (p := 3) (by decide)) with k | k | k
    · exact ⟨0, 1, by decide, by decide, by decide, by decide, by decide, by rw [vl_01]; exact cop_mod (by decide) (copA12 (v := C) (by clear k; omega) k)⟩
    · exact ⟨2, 1, by decide, by decide, by decide, by decide, by decide, by rw [vl_21]; exact cop_mod (by decide) (copA12 (v := 4 * A + 2 * B + C) (by clear k; omega) k)⟩
    · exact ⟨2, 3, by decide, by decide, by decide, by decide, by decide, by rw [vl_23]; exact cop_mod (by decide) (copA12 (v := 4 * A + 6 * B + 9 * C) (by clear k; omega) k)⟩
  · rcases tri3 (A := A) (B := B) (C := C) (q := 3) (fun z h => by omega) (hp.not (p := 3) (by decide)) with k | k | k
    · exact ⟨1, 1, by decide, by decide, by decide, by decide, by decide, by rw [vl_11]; exact cop_mod (by decide) (copA12 (v := A + B + C) (by clear k; omega) k)⟩
    · exact ⟨1, 3, by decide, by decide, by decide, by decide, by decide, by rw [vl_13]; exact cop_mod (by decide) (copA12 (v := A + 3 * B + 9 * C) (by clear k; omega) k)⟩
    · exact ⟨3, 1, by decide, by decide, by decide, by decide, by decide, by rw [vl_31]; exact cop_mod (by decide) (copA12 (v := 9 * A + 3 * B + C) (by clear k; omega) k)⟩
theorem ex_pt13 {A B C : Int} (hp : Prim (A, B, C)) : ∃ x y, FPt 5 (A, B, C) 13 x y := by
  rcases tri0 (A := A) (B := B) (C := C) (q := 13) (fun z h => by omega) (hp.not (p := 13) (by decide)) with h | h | h
  · exact ⟨1, 0, by decide, by decide, by decide, by decide, by decide, by rw [vl_10]; exact cop_mod (by decide) (copA13 (v := A) h)⟩
  · exact ⟨0, 1, by decide, by decide, by decide, by decide, by decide, by rw [vl_01]; exact cop_mod (by decide) (copA13 (v := C) h)⟩
  · exact ⟨1, 1, by decide, by decide, by decide, by decide, by decide, by rw [vl_11]; exact cop_mod (by decide) (copA13 (v := A + B + C) h)⟩
theorem ex_pt14 {A B C : Int} (hp : Prim (A, B, C)) : ∃ x y, FPt 5 (A, B, C) 14 x y := by
  rcases tri0 (A := A) (B := B) (C := C) (q := 2) (fun z h => by omega) (hp.not (p := 2) (by decide)) with h | h | h
  · rcases tri1 (A := A) (B := B) (C := C) (q := 7) (fun z h => by omega) (hp.not (p := 7) (by decide)) with k | k | k
    · exact ⟨1, 0, by decide, by decide, by decide, by decide, by decide, by rw [vl_10]; exact cop_mod (by decide) (copA14 (v := A) (by clear k; omega) k)⟩
    · exact ⟨1, 2, by decide, by decide, by decide, by decide, by decide, by rw [vl_12]; exact cop_mod (by decide) (copA14 (v := A + 2 * B + 4 * C) (by clear k; omega) k)⟩
    · exact ⟨3, 2, by decide, by decide, by decide, by decide, by decide, by rw [vl_32]; exact cop_mod (by decide) (copA14 (v := 9 * A + 6 * B + 4 * C) (by clear k; omega) k)⟩
  · rcases tri2 (A := A) (B := B) (C := C) (q := 7) (fun z h => by omega) (hp.not (p := 7) (by decide)) with k | k | k
    · exact ⟨0, 1, by decide, by decide, by decide, by decide, by decide, by rw [vl_01]; exact cop_mod (by decide) (copA14 (v := C) (by clear k; omega) k)⟩
    · exact ⟨2, 1, by decide, by decide, by decide, by decide, by decide, by rw [vl_21]; exact cop_mod (by decide) (copA14 (v := 4 * A + 2 * B + C) (by clear k; omega) k)⟩
    · exact ⟨2, 3, by decide, by decide, by decide, by decide, by decide, by rw [vl_23]; exact cop_mod (by decide) (copA14 (v := 4 * A + 6 * B + 9 * C) (by clear k; omega) k)⟩
  · rcases tri3 (A := A) (B := B) (C := C) (q := 7) (fun z h => by omega) (hp.not (p := 7) (by decide)) with k | k | k
    · exact ⟨1, 1, by decide, by decide, by decide, by decide, by decide, by rw [vl_11]; exact cop_mod (by decide) (copA14 (v := A + B + C) (by clear k; omega) k)⟩
    · exact ⟨1, 3, by decide, by decide, by decide, by decide, by decide, by rw [vl_13]; exact cop_mod (by decide) (copA14 (v := A + 3 * B + 9 * C) (by clear k; omega) k)⟩
    · exact ⟨3, 1, by decide, by decide, by decide, by decide, by decide, by rw [vl_31]; exact cop_mod (by decide) (copA14 (v := 9 * A + 3 * B + C) (by clear k; omega) k)⟩
theorem ex_pt15 {A B C : Int} (hp : Prim (A, B, C)) : ∃ x y, FPt 5 (A, B, C) 15 x y := by
  rcases tri0 (A := A) (B := B) (C := C) (q := 3) (fun z h => by omega) (hp.not (p := 3) (by decide)) with h | h | h
  · rcases tri4 (A := A) (B := B) (C := C) (q := 5) (fun z h => by omega) (hp.not (p := 5) (by decide)) with k | k | k
    · exact ⟨1, 0, by decide, by decide, by decide, by decide, by decide, by rw [vl_10]; exact cop_mod (by decide) (copA15 (v := A) (by clear k; omega) k)⟩
    · exact ⟨1, 3, by decide, by decide, by decide, by decide, by decide, by rw [vl_13]; exact cop_mod (by decide) (copA15 (v := A + 3 * B + 9 * C) (by clear k; omega) k)⟩
    · exact ⟨2, 3, by decide, by decide, by decide, by decide, by decide, by rw [vl_23]; exact cop_mod (by decide) (copA15 (v := 4 * A + 6 * B + 9 * C) (by clear k; omega) k)⟩
  · rcases tri5 (A := A) (B := B) (C := C) (q := 5) (fun z h => by omega) (hp.not (p := 5) (by decide)) with k | k | k
    · exact ⟨0, 1, by decide, by decide, by decide, by decide, by decide, by rw [vl_01]; exact cop_mod (by decide) (copA15 (v := C) (by clear k; omega) k)⟩
    · exact ⟨3, 1, by decide, by decide, by decide, by decide, by decide, by rw [vl_31]; exact cop_mod (by decide) (copA15 (v := 9 * A + 3 * B + C) (by clear k; omega) k)⟩
    · exact ⟨3, 2, by decide, by decide, by decide, by decide, by decide, by rw [vl_32]; exact cop_mod (by decide) (copA15 (v := 9 * A + 6 * B + 4 * C) (by clear k; omega) k)⟩
  · rcases tri6 (A := A) (B := B) (C := C) (q := 5) (fun z h => by omega) (hp.not (p := 5) (by decide)) with k | k | k
    · exact ⟨1, 1, by decide, by decide, by decide, by decide, by decide, by rw [vl_11]; exact cop_mod (by decide) (copA15 (v := A + B + C) (by clear k; omega) k)⟩
    · exact ⟨1, 4, by decide, by decide, by decide, by decide, by decide, by rw [vl_14]; exact cop_mod (by decide) (copA15 (v := A + 4 * B + 16 * C) (by clear k; omega) k)⟩
    · exact ⟨2, 5, by decide, by decide, by decide, by decide, by decide, by rw [vl_25]; exact cop_mod (by decide) (copA15 (v := 4 * A + 10 * B + 25 * C) (by clear k; omega) k)⟩
theorem ex_pt16 {A B C : Int} (hp : Prim (A, B, C)) : ∃ x y, FPt 5 (A, B, C) 16 x y := by
  rcases tri0 (A := A) (B := B) (C := C) (q := 2) (fun z h => by omega) (hp.not (p := 2) (by decide)) with h | h | h
  · exact ⟨1, 0, by decide, by decide, by decide, by decide, by decide, by rw [vl_10]; exact cop_mod (by decide) (copA16 (v := A) h)⟩
  · exact ⟨0, 1, by decide, by decide, by decide, by decide, by decide, by rw [vl_01]; exact cop_mod (by decide) (copA16 (v := C) h)⟩
  · exact ⟨1, 1, by decide, by decide, by decide, by decide, by decide, by rw [vl_11]; exact cop_mod (by decide) (copA16 (v := A + B + C) h)⟩
theorem ex_pt17 {A B C : Int} (hp : Prim (A, B, C)) : ∃ x y, FPt 5 (A, B, C) 17 x y := by
  rcases tri0 (A := A) (B := B) (C := C) (q := 17) (fun z h => by omega) (hp.not (p := 17) (by decide)) with h | h | h
  · exact ⟨1, 0, by decide, by decide, by decide, by decide, by decide, by rw [vl_10]; exact cop_mod (by decide) (copA17 (v := A) h)⟩
  · exact ⟨0, 1, by decide, by decide, by decide, by decide, by decide, by rw [vl_01]; exact cop_mod (by decide) (copA17 (v := C) h)⟩
  · exact ⟨1, 1, by decide, by decide, by decide, by decide, by decide, by rw [vl_11]; exact cop_mod (by decide) (copA17 (v := A + B + C) h)⟩
theorem ex_pt18 {A B C : Int} (hp : Prim (A, B, C)) : ∃ x y, FPt 5 (A, B, C) 18 x y := by
  rcases tri0 (A := A) (B := B) (C := C) (q := 2) (fun z h => by omega) (hp.not (p := 2) (by decide)) with h | h | h
  · rcases tri1 (A := A) (B := B) (C := C) (q := 3) (fun z h => by omega) (hp.not (p := 3) (by decide)) with k | k | k
    · exact ⟨1, 0, by decide, by decide, by decide, by decide, by decide, by rw [vl_10]; exact cop_mod (by decide) (copA18 (v := A) (by clear k; omega) k)⟩
    · exact ⟨1, 2, by decide, by decide, by decide, by decide, by decide, by rw [vl_12]; exact cop_mod (by decide) (copA18 (v := A + 2 * B + 4 * C) (by clear k; omega) k)⟩
    · exact ⟨3, 2, by decide, by decide, by decide, by decide, by decide, by rw [vl_32]; exact cop_mod (by decide) (copA18 (v := 9 * A + 6 * B + 4 * C) (by clear k; omega) k)⟩
  · rcases tri2 (A := A) (B := B) (C := C) (q := 3) (fun z h => by omega) (hp.not (p := 3) (by decide)) with k | k | k
    · exact ⟨0, 1, by decide, by decide, by decide, by decide, by decide, by rw [vl_01]; exact cop_mod (by decide) (copA18 (v := C) (by clear k; omega) k)⟩
    · exact ⟨2, 1, by decide, by decide, by decide, by decide, by decide, by rw [vl_21]; exact cop_mod (by decide) (copA18 (v := 4 * A + 2 * B + C) (by clear k; omega) k)⟩
    · exact ⟨2, 3, by decide, by decide, by decide, by decide, by decide, by rw [vl_23]; exact cop_mod (by decide) (copA18 (v := 4 * A + 6 * B + 9 * C) (by clear k; omega) k)⟩
  · rcases tri3 (A := A) (B := B) (C := C) (q := 3) (fun z h => by omega) (hp.not (p := 3) (by decide)) with k | k | k
    · exact ⟨1, 1, by decide, by decide, by decide, by decide, by decide, by rw [vl_11]; exact cop_mod (by decide) (copA18 (v := A + B + C) (by clear k; omega) k)⟩
    · exact ⟨1, 3, by decide, by decide, by decide, by decide, by decide, by rw [vl_13]; exact cop_mod (by decide) (copA18 (v := A + 3 * B + 9 * C) (by clear k; omega) k)⟩
    · exact ⟨3, 1, by decide, by decide, by decide, by decide, by decide, by rw [vl_31]; exact cop_mod (by decide) (copA18 (v := 9 * A + 3 * B + C) (by clear k; omega) k)⟩
theorem ex_pt19 {A B C : Int} (hp : Prim (A, B, C)) : ∃ x y, FPt 5 (A, B, C) 19 x y := by
  rcases tri0 (A := A) (B := B) (C := C) (q := 19) (fun z h => by omega) (hp.not (p := 19) (by decide)) with h | h | h
  · exact ⟨1, 0, by decide, by decide, by decide, by decide, by decide, by rw [vl_10]; exact cop_mod (by decide) (copA19 (v := A) h)⟩
  · exact ⟨0, 1, by decide, by decide, by decide, by decide, by decide, by rw [vl_01]; exact cop_mod (by decide) (copA19 (v := C) h)⟩
  · exact ⟨1, 1, by decide, by decide, by decide, by decide, by decide, by rw [vl_11]; exact cop_mod (by decide) (copA19 (v := A + B + C) h)⟩
theorem ex_pt20 {A B C : Int} (hp : Prim (A, B, C)) : ∃ x y, FPt 5 (A, B, C) 20 x y := by
  rcases tri0 (A := A) (B := B) (C := C) (q := 2) (fun z h => by omega) (hp.not (p := 2) (by decide)) with h | h | h
  · rcases tri1 (A := A) (B := B) (C := C) (q := 5) (fun z h => by omega) (hp.not (p := 5) (by decide)) with k | k | k
    · exact ⟨1, 0, by decide, by decide, by decide, by decide, by decide, by rw [vl_10]; exact cop_mod (by decide) (copA20 (v := A) (by clear k; omega) k)⟩
    · exact ⟨1, 2, by decide, by decide, by decide, by decide, by decide, by rw [vl_12]; exact cop_mod (by decide) (copA20 (v := A + 2 * B + 4 * C) (by clear k; omega) k)⟩
    · exact ⟨3, 2, by decide, by decide, by decide, by decide, by decide, by rw [vl_32]; exact cop_mod (by decide) (copA20 (v := 9 * A + 6 * B + 4 * C) (by clear k; omega) k)⟩
  · rcases tri2 (A := A) (B := B) (C := C) (q := 5) (fun z h => by omega) (hp.not (p := 5) (by decide)) with k | k | k
    · exact ⟨0, 1, by decide, by decide, by decide, by decide, by decide, by rw [vl_01]; exact cop_mod (by decide) (copA20 (v := C) (by clear k; omega) k)⟩
    · exact ⟨2, 1, by decide, by decide, by decide, by decide, by decide, by rw [vl_21]; exact cop_mod (by decide) (copA20 (v := 4 * A + 2 * B + C) (by clear k; omega) k)⟩
    · exact ⟨2, 3, by decide, by decide, by decide, by decide, by decide, by rw [vl_23]; exact cop_mod (by decide) (copA20 (v := 4 * A + 6 * B + 9 * C) (by clear k; omega) k)⟩
  · rcases tri3 (A := A) (B := B) (C := C) (q := 5) (fun z h => by omega) (hp.not (p := 5) (by decide)) with k | k | k
    · exact ⟨1, 1, by decide, by decide, by decide, by decide, by decide, by rw [vl_11]; exact cop_mod (by decide) (copA20 (v := A + B + C) (by clear k; omega) k)⟩
    · exact ⟨1, 3, by decide, by decide, by decide, by decide, by decide, by rw [vl_13]; exact cop_mod (by decide) (copA20 (v := A + 3 * B + 9 * C) (by clear k; omega) k)⟩
    · exact ⟨3, 1, by decide, by decide, by decide, by decide, by decide, by rw [vl_31]; exact cop_mod (by decide) (copA20 (v := 9 * A + 3 * B + C) (by clear k; omega) k)⟩
theorem ex_pt21 {A B C : Int} (hp : Prim (A, B, C)) : ∃ x y, FPt 5 (A, B, C) 21 x y := by
  rcases tri0 (A := A) (B := B) (C := C) (q := 3) (fun z h => by omega) (hp.not (p := 3) (by decide)) with h | h | h
  · rcases tri4 (A := A) (B := B) (C := C) (q := 7) (fun z h => by omega) (hp.not (p := 7) (by decide)) with k | k | k
    · exact ⟨1, 0, by decide, by decide, by decide, by decide, by decide, by rw [vl_10]; exact cop_mod (by decide) (copA21 (v := A) (by clear k; omega) k)⟩
    · exact ⟨1, 3, by decide, by decide, by decide, by decide, by decide, by rw [vl_13]; exact cop_mod (by decide) (copA21 (v := A + 3 * B + 9 * C) (by clear k; omega) k)⟩
    · exact ⟨2, 3, by decide, by decide, by decide, by decide, by decide, by rw [vl_23]; exact cop_mod (by decide) (copA21 (v := 4 * A + 6 * B + 9 * C) (by clear k; omega) k)⟩
  · rcases tri5 (A := A) (B := B) (C := C) (q := 7) (fun z h => by omega) (hp.not (p := 7) (by decide)) with k | k | k
    · exact ⟨0, 1, by decide, by decide, by decide, by decide, by decide, by rw [vl_01]; exact cop_mod (by decide) (copA21 (v := C) (by clear k; omega) k)⟩
    · exact ⟨3, 1, by decide, by decide, by decide, by decide, by decide, by rw [vl_31]; exact cop_mod (by decide) (copA21 (v := 9 * A + 3 * B + C) (by clear k; omega) k)⟩
    · exact ⟨3, 2, by decide, by decide, by decide, by decide, by decide, by rw [vl_32]; exact cop_mod (by decide) (copA21 (v := 9 * A + 6 * B + 4 * C) (by clear k; omega) k)⟩
  · rcases tri6 (A := A) (B := B) (C := C) (q := 7) (fun z h => by omega) (hp.not (p := 7) (by decide)) with k | k | k
    · exact ⟨1, 1, by decide, by decide, by decide, by decide, by decide, by rw [vl_11]; exact cop_mod (by decide) (copA21 (v := A + B + C) (by clear k; omega) k)⟩
    · exact ⟨1, 4, by decide, by decide, by decide, by decide, by decide, by rw [vl_14]; exact cop_mod (by decide) (copA21 (v := A + 4 * B + 16 * C) (by clear k; omega) k)⟩
    · exact ⟨2, 5, by decide, by decide, by decide, by decide, by decide, by rw [vl_25]; exact cop_mod (by decide) (copA21 (v := 4 * A + 10 * B + 25 * C) (by clear k; omega) k)⟩
theorem ex_pt22 {A B C : Int} (hp : Prim (A, B, C)) : ∃ x y, FPt 5 (A, B, C) 22 x y := by
  rcases tri0 (A := A) (B := B) (C := C) (q := 2) (fun z h => by omega) (hp.not (p := 2) (by decide)) with h | h | h
  · rcases tri1 (A := A) (B := B) (C := C) (q := 11) (fun z h => by omega) (hp.not (p := 11) (by decide)) with k | k | k
    · exact ⟨1, 0, by decide, by decide, by decide, by decide, by decide, by rw [vl_10]; exact cop_mod (by decide) (copA22 (v := A) (by clear k; omega) k)⟩
    · exact ⟨1, 2, by decide, by decide, by decide, by decide, by decide, by rw [vl_12]; exact cop_mod (by decide) (copA22 (v := A + 2 * B + 4 * C) (by clear k; omega) k)⟩
    · exact ⟨3, 2, by decide, by decide, by decide, by decide, by decide, by rw [vl_32]; exact cop_mod (by decide) (copA22 (v := 9 * A + 6 * B + 4 * C) (by clear k; omega) k)⟩
  · rcases tri2 (A := A) (B := B) (C := C) (q := 11) (fun z h => by omega) (hp.not (p := 11) (by decide)) with k | k | k
    · exact ⟨0, 1, by decide, by decide, by decide, by decide, by decide, by rw [vl_01]; exact cop_mod (by decide) (copA22 (v := C) (by clear k; omega) k)⟩
    · exact ⟨2, 1, by decide, by decide, by decide, by decide, by decide, by rw [vl_21]; exact cop_mod (by decide) (copA22 (v := 4 * A + 2 * B + C) (by clear k; omega) k)⟩
    · exact ⟨2, 3, by decide, by decide, by decide, by decide, by decide, by rw [vl_23]; exact cop_mod (by decide) (copA22 (v := 4 * A + 6 * B + 9 * C) (by clear k; omega) k)⟩
  · rcases tri3 (A := A) (B := B) (C := C) (q := 11) (fun z h => by omega) (hp.not (p := 11) (by decide)) with k | k | k
    · exact ⟨1, 1, by decide, by decide, by decide, by decide, by decide, by rw [vl_11]; exact cop_mod (by decide) (copA22 (v := A + B + C) (by clear k; omega) k)⟩
    · exact ⟨1, 3, by decide, by decide, by decide, by decide, by decide, by rw [vl_13]; exact cop_mod (by decide) (copA22 (v := A + 3 * B + 9 * C) (by clear k; omega) k)⟩
    · exact ⟨3, 1, by decide, by decide, by decide, by decide, by decide, by rw [vl_31]; exact cop_mod (by decide) (copA22 (v := 9 * A + 3 * B + C) (by clear k; omega) k)⟩
theorem ex_pt23 {A B C : Int} (hp : Prim (A, B, C)) : ∃ x y, FPt 5 (A, B, C) 23 x y := by
  rcases tri0 (A := A) (B := B) (C := C) (q := 23) (fun z h => by omega) (hp.not (p := 23) (by decide)) with h | h | h
  · exact ⟨1, 0, by decide, by decide, by decide, by decide, by decide, by rw [vl_10]; exact cop_mod (by decide) (copA23 (v := A) h)⟩
  · exact ⟨0, 1, by decide, by decide, by decide, by decide, by decide, by rw [vl_01]; exact cop_mod (by decide) (copA23 (v := C) h)⟩
  · exact ⟨1, 1, by decide, by decide, by decide, by decide, by decide, by rw [vl_11]; exact cop_mod (by decide) (copA23 (v := A + B + C) h)⟩
theorem ex_pt24 {A B C : Int} (hp : Prim (A, B, C)) : ∃ x y, FPt 5 (A, B, C) 24 x y := by
  rcases tri0 (A := A) (B := B) (C := C) (q := 2) (fun z h => by omega) (hp.not (p := 2) (by decide)) with h | h | h
  · rcases tri1 (A := A) (B := B) (C := C) (q := 3) (fun z h => by omega) (hp.not (p := 3) (by decide)) with k | k | k
    · exact ⟨1, 0, by decide, by decide, by decide, by decide, by decide, by rw [vl_10]; exact cop_mod (by decide) (copA24 (v := A) (by clear k; omega) k)⟩
    · exact ⟨1, 2, by decide, by decide, by decide, by decide, by decide, by rw [vl_12]; exact cop_mod (by decide) (copA24 (v := A + 2 * B + 4 * C) (by clear k; omega) k)⟩
    · exact ⟨3, 2, by decide, by decide, by decide, by decide, by decide, by rw [vl_32]; exact cop_mod (by decide) (copA24 (v := 9 * A + 6 * B + 4 * C) (by clear k; omega) k)⟩
  · rcases tri2 (A := A) (B := B) (C := C) (q := 3) (fun z h => by omega) (hp.not (p := 3) (by decide)) with k | k | k
    · exact ⟨0, 1, by decide, by decide, by decide, by decide, by decide, by rw [vl_01]; exact cop_mod (by decide) (copA24 (v := C) (by clear k; omega) k)⟩
    · exact ⟨2, 1, by decide, by decide, by decide, by decide, by decide, by rw [vl_21]; exact cop_mod (by decide) (copA24 (v := 4 * A + 2 * B + C) (by clear k; omega) k)⟩
    · exact ⟨2, 3, by decide, by decide, by decide, by decide, by decide, by rw [vl_23]; exact cop_mod (by decide) (copA24 (v := 4 * A + 6 * B + 9 * C) (by clear k; omega) k)⟩
  · rcases tri3 (A := A) (B := B) (C := C) (q := 3) (fun z h => by omega) (hp.not (p := 3) (by decide)) with k | k | k
    · exact ⟨1, 1, by decide, by decide, by decide, by decide, by decide, by rw [vl_11]; exact cop_mod (by decide) (copA24 (v := A + B + C) (by clear k; omega) k)⟩
    · exact ⟨1, 3, by decide, by decide, by decide, by decide, by decide, by rw [vl_13]; exact cop_mod (by decide) (copA24 (v := A + 3 * B + 9 * C) (by clear k; omega) k)⟩
    · exact ⟨3, 1, by decide, by decide, by decide, by decide, by decide, by rw [vl_31]; exact cop_mod (by decide) (copA24 (v := 9 * A + 3 * B + C) (by clear k; omega) k)⟩
theorem ex_pt25 {A B C : Int} (hp : Prim (A, B, C)) : ∃ x y, FPt 5 (A, B, C) 25 x y := by
  rcases tri0 (A := A) (B := B) (C := C) (q := 5) (fun z h => by omega) (hp.not (p := 5) (by decide)) with h | h | h
  · exact ⟨1, 0, by decide, by decide, by decide, by decide, by decide, by rw [vl_10]; exact cop_mod (by decide) (copA25 (v := A) h)⟩
  · exact ⟨0, 1, by decide, by decide, by decide, by decide, by decide, by rw [vl_01]; exact cop_mod (by decide) (copA25 (v := C) h)⟩
  · exact ⟨1, 1, by decide, by decide, by decide, by decide, by decide, by rw [vl_11]; exact cop_mod (by decide) (copA25 (v := A + B + C) h)⟩
theorem ex_pt {g : F3} (hp : Prim g) {a : Int} (ha : 1 ≤ a ∧ a ≤ 25) : ∃ x y, FPt 5 g a x y := by
  obtain ⟨A, B, C⟩ := g
  have h : a = 1 ∨ a = 2 ∨ a = 3 ∨ a = 4 ∨ a = 5 ∨ a = 6 ∨ a = 7 ∨ a = 8 ∨ a = 9 ∨ a = 10 ∨ a = 11 ∨ a = 12 ∨ a = 13 ∨ a = 14 ∨ a = 15 ∨ a = 16 ∨ a = 17 ∨ a = 18 ∨ a = 19 ∨ a = 20 ∨ a = 21 ∨ a = 22 ∨ a = 23 ∨ a = 24 ∨ a = 25 := by omega
  rcases h with rfl | rfl | rfl | rfl | rfl | rfl | rfl | rfl | rfl | rfl | rfl | rfl | rfl | rfl | rfl | rfl | rfl | rfl | rfl | rfl | rfl | rfl | rfl | rfl | rfl
  · exact ex_pt1 hp
  · exact ex_pt2 hp
  · exact ex_pt3 hp
  · exact ex_pt4 hp
  · exact ex_pt5 hp
  · exact ex_pt6 hp
  · exact ex_pt7 hp
  · exact ex_pt8 hp
  · exact ex_pt9 hp
  · exact ex_pt10 hp
  · exact ex_pt11 hp
  · exact ex_pt12 hp
  · exact ex_pt13 hp
  · exact ex_pt14 hp
  · exact ex_pt15 hp
  · exact ex_pt16 hp
  · exact ex_pt17 hp
  · exact ex_pt18 hp
  · exact ex_pt19 hp
  · exact ex_pt20 hp
  · exact ex_pt21 hp
  · exact ex_pt22 hp
  · exact ex_pt23 hp
  · exact ex_pt24 hp
  · exact ex_pt25 hp
end Go.Proofs.Ythcnaeahmdapbaa
