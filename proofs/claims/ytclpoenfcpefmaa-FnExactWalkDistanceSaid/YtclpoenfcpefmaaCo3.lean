/-
  Contracts of united forms, on both sides. Conditions: none.
-/
import Derived.Test.YtclpoenfcpefmaaCo2
namespace Go.Proofs.Ytclpoenfcpefmaa
open Go Go.RowKit
set_option maxRecDepth 100000
set_option linter.unusedSimpArgs false
set_option linter.unusedVariables false
set_option maxHeartbeats 4000000

structure CmPre (a m b n : Int) : Prop where
  m2 : m % 2 = 0
  m1 : 2 ≤ m ∧ m ≤ 50
  n2 : n % 2 = 0
  n1 : 2 ≤ n ∧ n ≤ 70000
  g : Int.gcd (m / 2) (n / 2) = 1
  a1 : 0 ≤ a ∧ a < m
  b1 : 0 ≤ b ∧ b < n
  p : (b - a) % 2 = 0
theorem CmPre.gcd {a m b n : Int} (h : CmPre a m b n) : nuGcdI m n = 2 := by
  have h1 := h.m1
  have h2 := h.n1
  have h3 := h.m2
  have h4 := h.n2
  rw [nuGcdI_eq (by omega) (by omega)]
  have e1 : m = 2 * (m / 2) := by omega
  have e2 : n = 2 * (n / 2) := by omega
  have h5 := Int.gcd_mul_left 2 (m / 2) (n / 2)
  rw [h.g, ← e1, ← e2] at h5
  rw [h5]; rfl
def cmT (a m b n : Int) : Int := (b - a) / 2 * ivI (m / 2) (n / 2) % (n / 2)
theorem CmPre.t {a m b n : Int} (h : CmPre a m b n) : 0 ≤ cmT a m b n ∧ cmT a m b n < n / 2 := by
  have h2 := h.n1
  exact ⟨Int.emod_nonneg _ (by omega), Int.emod_lt_of_pos _ (by omega)⟩
theorem CmPre.iv {a m b n : Int} (h : CmPre a m b n) : 0 ≤ ivI (m / 2) (n / 2) ∧ ivI (m / 2) (n / 2) < n / 2 := by
  have h1 := h.m1
  have h2 := h.n1
  exact (iv_spec (by omega) (by omega) h.g).1
-- (not in this seat: NuCommon)
def UnPre (a b c x y z : Int) : Prop := ∃ D, RP D (a, b, c) ∧ RP D (x, y, z)
theorem un_fp {D a b c x y z : Int} (hf : RP D (a, b, c)) (hg : RP D (x, y, z)) : FpPre 5 x y z a := by
  have h1 := hf.a25
  have h2 := hg.a25
  have h3 := hg.c700
  have h4 := hg.red.abs
  simp only at h1 h2 h3 h4
  exact ⟨⟨by omega, by omega⟩, ⟨by omega, by omega⟩, ⟨by omega, by omega⟩, ⟨by omega, by omega⟩, by omega, _, _, (uni_ok hf hg).pt⟩
theorem un_cp {D a b c x y z : Int} (hf : RP D (a, b, c)) (hg : RP D (x, y, z)) : CpPre x y z (fpX (x, y, z) a) (fpY (x, y, z) a) := by
  have h2 := hg.a25
  have h3 := hg.c700
  have h4 := hg.red.abs
  have u := uni_ok hf hg
  have pt := u.pt
  simp only at h2 h3 h4
  exact ⟨h2, ⟨by omega, by omega⟩, h3, ⟨pt.x0, pt.x1⟩, ⟨pt.y0, pt.y1⟩, pt.xy, u.e0, u.e1⟩
theorem un_cond {a E HB B1 T s2 t : Int} (hE : 0 < E) (hg : Int.gcd a E = 1) (h : B1 + 2 * a * T - HB = 2 * E * s2) (ht : 0 ≤ t ∧ t ≤ T) (hT : T < E) : (B1 + 2 * a * t - HB) % (2 * E) = 0 ↔ t = T := by
  constructor
  · intro h0
    obtain ⟨k, hk⟩ := Int.dvd_of_emod_eq_zero h0
    obtain ⟨p, q, hpq⟩ := bez hg
    have e1 : a * (T - t) = E * (s2 - k) := by
      have : 2 * (a * (T - t)) = 2 * (E * (s2 - k)) := by
        have f1 : 2 * (a * (T - t)) = 2 * a * T - 2 * a * t := by grind
        have f2 : 2 * (E * (s2 - k)) = 2 * E * s2 - 2 * E * k := by grind
        omega
      omega
    have e2 : T - t = E * (p * (s2 - k) + q * (T - t)) := by
      have f1 : T - t = (p * a + q * E) * (T - t) := by rw [hpq, Int.one_mul]
      have f2 : (p * a + q * E) * (T - t) = p * (a * (T - t)) + E * (q * (T - t)) := by grind
      rw [f2, e1] at f1
      rw [f1]; grind
    have e3 : T - t = 0 := by
      have : (T - t) % E = 0 := by rw [e2]; exact Int.mul_emod_right _ _
      rw [Int.emod_eq_of_lt (by omega) (by omega)] at this
      exact this
    omega
  · rintro rfl
    rw [h]; exact Int.mul_emod_right _ _
def uMP (f g : F3) : Int := (uM f g).1
def uMQ (f g : F3) : Int := (uM f g).2.1
def uMR (f g : F3) : Int := (uM f g).2.2.1
def uMS (f g : F3) : Int := (uM f g).2.2.2
theorem us_small {D : Int} {f g : F3} (hf : RP D f) (hg : RP D g) : (-26 ≤ uS2 f g ∧ uS2 f g ≤ 26) ∧ (-36000 ≤ uS1 f g ∧ uS1 f g ≤ 36000) := by
  have u := uni_ok hf hg
  have ⟨h1, h2⟩ := uB_bd hf hg
  have ha := hf.a25
  have hb := hf.red.abs
  have e0 := u.e0
  have e1 := u.e1
  have hB := u.hB
  have da := u.da
  have de := u.de
  constructor
  · constructor
    · by_cases hc : -26 ≤ uS2 f g
      · exact hc
      · have : 2 * uE f g * uS2 f g ≤ 2 * uE f g * (-2) := Int.mul_le_mul_of_nonneg_left (by omega) (by omega)
        omega
    · by_cases hc : uS2 f g ≤ 26
      · exact hc
      · have h3 : 2 * uE f g * 27 ≤ 2 * uE f g * uS2 f g := Int.mul_le_mul_of_nonneg_left (by omega) (by omega)
        have h4 : 2 * f.1 * uE f g ≤ 50 * uE f g := Int.mul_le_mul_of_nonneg_right (by omega) (by omega)
        omega
  · constructor
    · by_cases hc : -36000 ≤ uS1 f g
      · exact hc
      · have : 2 * f.1 * uS1 f g ≤ 2 * f.1 * (-36000) := Int.mul_le_mul_of_nonneg_left (by omega) (by omega)
        omega
    · by_cases hc : uS1 f g ≤ 36000
      · exact hc
      · have h3 : 2 * f.1 * 36000 ≤ 2 * f.1 * uS1 f g := Int.mul_le_mul_of_nonneg_left (by omega) (by omega)
        have h4 : 2 * f.1 * uE f g ≤ 2 * f.1 * 35000 := Int.mul_le_mul_of_nonneg_left (by omega) (by omega)
        omega
-- (not in this seat: Unite)
end Go.Proofs.Ytclpoenfcpefmaa
