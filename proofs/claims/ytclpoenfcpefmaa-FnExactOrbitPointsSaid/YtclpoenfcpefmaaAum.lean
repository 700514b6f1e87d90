/-
  The automorphs of a definite form are told by the solutions of t*t - D*u*u = 4. Conditions: none.
-/
import Derived.Test.YtclpoenfcpefmaaSo
import Derived.Test.YtclpoenfcpefmaaAu
import Derived.Test.YtclpoenfcpefmaaCm
import Derived.Test.YtclpoenfcpefmaaAm
import Derived.Test.YtclpoenfcpefmaaGc
import Derived.Test.YtclpoenfcpefmaaRt
namespace Go.Proofs.Ytclpoenfcpefmaa
open Go Go.RowKit
set_option maxRecDepth 100000
set_option linter.unusedSimpArgs false
set_option linter.unusedVariables false
set_option maxHeartbeats 4000000

/-- the automorph of (t, u) -/
def mt (f : F3) (p : Int × Int) : M4 := ((p.1 - f.2.1 * p.2) / 2, -f.2.2 * p.2, f.1 * p.2, (p.1 + f.2.1 * p.2) / 2)
theorem mt_conj {f : F3} {m : M4} (hm : det m = 1) {t u x y : Int} (hx : 2 * x = t - (act f m).2.1 * u) (hy : 2 * y = t + (act f m).2.1 * u) :
    mul (mul m (x, -(act f m).2.2 * u, (act f m).1 * u, y)) (inv m) = mt f (t, u) := by
  obtain ⟨a, b, c⟩ := f
  obtain ⟨p, q, r, s⟩ := m
  simp only [det] at hm
  simp only [act, vl, pl] at hx hy
  have h11 : 2 * ((p * x + q * ((a * p * p + b * p * r + c * r * r) * u)) * s + (p * (-(a * q * q + b * q * s + c * s * s) * u) + q * y) * (-r)) = t - b * u := by grind
  have h22 : 2 * ((r * x + s * ((a * p * p + b * p * r + c * r * r) * u)) * (-q) + (r * (-(a * q * q + b * q * s + c * s * s) * u) + s * y) * p) = t + b * u := by grind
  refine M4.ext ?_ ?_ ?_ ?_ <;> simp only [mul, inv, mt, act, vl, pl]
  · omega
  · grind
  · grind
  · omega

/-! ### solutions -/
/-- t*t - D*u*u is not 4, as the programs ask -/
def cdN (d t u : Int) : Bool := wrap64 (wrap64 (t * t) - wrap64 (wrap64 (d * u) * u)) != 4
def rowP (d t : Int) : Nat → List (Int × Int)
  | 0 => []
  | j + 1 => rowP d t j ++ (if cdN d t ((j : Int) - 1) = true then [] else [(t, (j : Int) - 1)])
def allP (d : Int) : Nat → List (Int × Int)
  | 0 => []
  | i + 1 => allP d i ++ rowP d ((i : Int) - 2) 3
theorem cdN_u0 {d t : Int} (ht : -2 ≤ t ∧ t ≤ 2) : cdN d t 0 = (t * t != 4) := by
  unfold cdN
  have : t = -2 ∨ t = -1 ∨ t = 0 ∨ t = 1 ∨ t = 2 := by omega
  simp only [Int.mul_zero]
  rcases this with rfl | rfl | rfl | rfl | rfl <;> decide +kernel
theorem cdN_u1 {d t u : Int} (hd : -10000000000000 ≤ d ∧ d ≤ -7) (ht : -2 ≤ t ∧ t ≤ 2) (hu : u = 1 ∨ u = -1) : cdN d t u = true := by
  unfold cdN
  have e1 : wrap64 (wrap64 (d * u) * u) = d := by
    rcases hu with rfl | rfl
    · rw [Int.mul_one, Int.mul_one, wrap_id (n := d) (by omega) (by omega), wrap_id (by omega) (by omega)]
    · rw [wrap_id (n := d * -1) (by omega) (by omega), wrap_id (by omega) (by omega)]; omega
  rw [e1]
  have h4 : 0 ≤ t * t ∧ t * t ≤ 4 := by
    have : t = -2 ∨ t = -1 ∨ t = 0 ∨ t = 1 ∨ t = 2 := by omega
    rcases this with rfl | rfl | rfl | rfl | rfl <;> decide
  rw [wrap_id (n := t * t) (by omega) (by omega), wrap_id (by omega) (by omega), bne_iff_ne]
  omega
theorem allP_4 : allP (-4) 5 = [(-2, 0), (0, -1), (0, 1), (2, 0)] := by kernel_rfl
theorem allP_3 : allP (-3) 5 = [(-2, 0), (-1, -1), (-1, 1), (1, -1), (1, 1), (2, 0)] := by kernel_rfl
theorem allP_7 {d : Int} (hd : -10000000000000 ≤ d ∧ d ≤ -7) : allP d 5 = [(-2, 0), (2, 0)] := by
  have h0 : ∀ t, -2 ≤ t ∧ t ≤ 2 → rowP d t 3 = if t * t = 4 then [(t, 0)] else [] := by
    intro t ht
    simp only [rowP]
    rw [show ((0 : Nat) : Int) - 1 = -1 from rfl, show ((1 : Nat) : Int) - 1 = 0 from rfl, show ((2 : Nat) : Int) - 1 = 1 from rfl, cdN_u1 hd ht (.inr rfl), cdN_u1 hd ht (.inl rfl), cdN_u0 ht]
    by_cases h : t * t = 4
    · simp [h]
    · simp [h]
  simp only [allP]
  rw [h0 _ (by decide), h0 _ (by decide), h0 _ (by decide), h0 _ (by decide), h0 _ (by decide)]
  rfl
/-! ### reduced primitive forms of the least discriminants -/
theorem red4 {g : F3} (h : IsRed (-4) g) : g = (1, 0, 1) := by
  obtain ⟨a, b, c⟩ := g
  obtain ⟨h1, h2⟩ := h.three
  obtain ⟨a0, lo, hi, ac, hd⟩ := h
  simp only at *
  have ha : a = 1 := by
    have h3 : 3 * a * a = 3 * (a * a) := Int.mul_assoc _ _ _
    have h4 : a * 1 ≤ a * a := Int.mul_le_mul_of_nonneg_left (by omega) (by omega)
    omega
  subst ha
  have hb : b = 0 ∨ b = 1 := by omega
  rcases hb with rfl | rfl
  · have : c = 1 := by omega
    rw [this]
  · omega
theorem red3 {g : F3} (h : IsRed (-3) g) : g = (1, 1, 1) := by
  obtain ⟨a, b, c⟩ := g
  obtain ⟨h1, h2⟩ := h.three
  obtain ⟨a0, lo, hi, ac, hd⟩ := h
  simp only at *
  have ha : a = 1 := by
    have h3 : 3 * a * a = 3 * (a * a) := Int.mul_assoc _ _ _
    have h4 : a * 1 ≤ a * a := Int.mul_le_mul_of_nonneg_left (by omega) (by omega)
    omega
  subst ha
  have hb : b = 0 ∨ b = 1 := by omega
  rcases hb with rfl | rfl
  · omega
  · have : c = 1 := by omega
    rw [this]
/-- the turns of g = k g', in terms of solutions -/
def tuX (d : Int) : List (Int × Int) := if d = -4 then [(2, 0), (0, 1), (-2, 0), (0, -1)] else if d = -3 then [(2, 0), (1, 1), (1, -1), (-2, 0), (-1, -1), (-1, 1)] else [(2, 0), (-2, 0)]
theorem tuX_perm {d : Int} (hd : -10000000000000 ≤ d ∧ d ≤ -3) (h4 : d % 4 = 0 ∨ d % 4 = 1) : (tuX d).Perm (allP d 5) := by
  unfold tuX
  by_cases h1 : d = -4
  · subst h1; rw [if_pos rfl, allP_4]; decide
  · rw [if_neg h1]
    by_cases h2 : d = -3
    · subst h2; rw [if_pos rfl, allP_3]; decide
    · rw [if_neg h2, allP_7 ⟨hd.1, by omega⟩]; decide
theorem tr_mt {k : Int} {g : F3} (hk : 0 < k) (hg : Prim g) (hr : IsRed (dsc g) g) (hn : dsc g < 0) : trL (k * g.1) (k * g.2.1) (k * g.2.2) = (tuX (dsc g)).map (mt g) := by
  unfold trL
  by_cases h1 : g.1 = g.2.2 ∧ g.2.1 = 0
  · have e : g = (1, 0, 1) := by
      obtain ⟨a, b, c⟩ := g
      obtain ⟨x, y, z, hxy⟩ := hg
      simp only at h1 hxy
      obtain ⟨rfl, rfl⟩ := h1
      have hda : a ∣ 1 := ⟨x + z, by rw [← hxy]; grind⟩
      have ha := hr.a0
      have := Int.le_of_dvd (by omega) hda
      have : a = 1 := by simp only at ha; omega
      rw [this]
    subst e
    have hB : trB (k * 1) (k * 0) (k * 1) = [(1, 0, 0, 1), (0, -1, 1, 0)] := by
      unfold trB
      rw [if_pos (by simp)]
    rw [hB]
    decide +kernel
  · by_cases h2 : g.1 = g.2.2 ∧ g.2.1 = g.1
    · have e : g = (1, 1, 1) := by
        obtain ⟨a, b, c⟩ := g
        obtain ⟨x, y, z, hxy⟩ := hg
        simp only at h2 hxy
        obtain ⟨rfl, rfl⟩ := h2
        have hda : b ∣ 1 := ⟨x + y + z, by rw [← hxy]; grind⟩
        have ha := hr.a0
        have := Int.le_of_dvd (by omega) hda
        have : b = 1 := by simp only at ha; omega
        rw [this]
      subst e
      have hB : trB (k * 1) (k * 1) (k * 1) = [(1, 0, 0, 1), (0, -1, 1, 1), (1, 1, -1, 0)] := by
        unfold trB
        rw [if_neg (by simp; omega), if_pos (by simp)]
      rw [hB]
      decide +kernel
    · have n4 : dsc g ≠ -4 := fun e => by
        rw [e] at hr
        rw [red4 hr] at h1
        exact h1 ⟨rfl, rfl⟩
      have n3 : dsc g ≠ -3 := fun e => by
        rw [e] at hr
        rw [red3 hr] at h2
        exact h2 ⟨rfl, rfl⟩
      have hcan : ∀ x y : Int, k * x = k * y ↔ x = y := fun x y => ⟨fun h => Int.eq_of_mul_eq_mul_left (by omega) h, fun h => by rw [h]⟩
      have hB : trB (k * g.1) (k * g.2.1) (k * g.2.2) = [(1, 0, 0, 1)] := by
        unfold trB
        have hk0 : k * g.2.1 = 0 ↔ g.2.1 = 0 := by
          have := hcan g.2.1 0
          rwa [Int.mul_zero] at this
        rw [if_neg (by simp only [Bool.and_eq_true, beq_iff_eq, hcan, hk0]; exact h1), if_neg (by simp only [Bool.and_eq_true, beq_iff_eq, hcan]; exact h2)]
      rw [hB]
      unfold tuX
      rw [if_neg n4, if_neg n3]
      simp [mt, ngM]
      decide +kernel

/-! ### a definite form, its content taken out -/
theorem gcd_dvd3' (a b c : Int) : ((Int.gcd a (Int.gcd b c : Nat) : Nat) : Int) ∣ a ∧ ((Int.gcd a (Int.gcd b c : Nat) : Nat) : Int) ∣ b ∧ ((Int.gcd a (Int.gcd b c : Nat) : Nat) : Int) ∣ c := by
  have d1 : ((Int.gcd a (Int.gcd b c : Nat) : Nat) : Int) ∣ a := Int.gcd_dvd_left ..
  have d2 : ((Int.gcd a (Int.gcd b c : Nat) : Nat) : Int) ∣ ((Int.gcd b c : Nat) : Int) := Int.gcd_dvd_right ..
  exact ⟨d1, Int.dvd_trans d2 (Int.gcd_dvd_left ..), Int.dvd_trans d2 (Int.gcd_dvd_right ..)⟩
structure Def0 (a b c : Int) where
  k : Int
  x : Int
  y : Int
  z : Int
  k0 : 0 < k
  ea : a = k * x
  eb : b = k * y
  ec : c = k * z
  prim : Prim (x, y, z)
theorem def0_ex {a b c : Int} (h : defB a b c = true) : ∃ D : Def0 a b c, D.k = gcdI a (gcdI b c) := by
  have hd := def_dom h
  simp only [defB, formB, Bool.and_eq_true, areB_iff, decide_eq_true_eq] at h
  obtain ⟨⟨h1, h2, h3⟩, _, h5⟩ := h
  have k1 := gcd_le (a := b) (b := c) (by omega) (by omega)
  have e1 : gcdI a (gcdI b c) = ((Int.gcd a (Int.gcd b c : Nat) : Nat) : Int) := by rw [gcdI_eq (a := b) (by omega) (by omega), gcdI_eq (by omega) (by omega)]
  obtain ⟨⟨x, hx⟩, ⟨y, hy⟩, ⟨z, hz⟩⟩ := gcd_dvd3' a b c
  have hpos : 0 < Int.gcd a (Int.gcd b c : Nat) := Int.gcd_pos_of_ne_zero_left _ (by omega)
  generalize hg : Int.gcd a (Int.gcd b c : Nat) = g at *
  refine ⟨⟨(g : Int), x, y, z, by omega, hx, hy, hz, ?_⟩, e1.symm⟩
  have hgg : Int.gcd (g * x) (Int.gcd (g * y) (g * z) : Nat) = g := by rw [← hx, ← hy, ← hz]; exact hg
  rw [Int.gcd_mul_left, Int.natCast_mul, Int.natAbs_natCast, Int.gcd_mul_left, Int.natAbs_natCast] at hgg
  refine prim_of ?_
  have : g * Int.gcd x (Int.gcd y z : Nat) = g * 1 := by rw [hgg]; omega
  exact Nat.eq_of_mul_eq_mul_left hpos this

/-! ### the conjugates as the programs make them -/
def tmM (m n : M4) : M4 := (wrap64 (wrap64 (m.1 * n.1) + wrap64 (m.2.1 * n.2.2.1)), wrap64 (wrap64 (m.1 * n.2.1) + wrap64 (m.2.1 * n.2.2.2)), wrap64 (wrap64 (m.2.2.1 * n.1) + wrap64 (m.2.2.2 * n.2.2.1)), wrap64 (wrap64 (m.2.2.1 * n.2.1) + wrap64 (m.2.2.2 * n.2.2.2)))
def ivM (m : M4) : M4 := (wrap64 (detI m.1 m.2.1 m.2.2.1 m.2.2.2 * m.2.2.2), wrap64 (wrap64 (0 - detI m.1 m.2.1 m.2.2.1 m.2.2.2) * m.2.1), wrap64 (wrap64 (0 - detI m.1 m.2.1 m.2.2.1 m.2.2.2) * m.2.2.1), wrap64 (detI m.1 m.2.1 m.2.2.1 m.2.2.2 * m.1))
def cj (R T : M4) : M4 := tmM (tmM R T) (ivM R)
def Bd (k : Int) (m : M4) : Prop := (-k ≤ m.1 ∧ m.1 ≤ k) ∧ (-k ≤ m.2.1 ∧ m.2.1 ≤ k) ∧ (-k ≤ m.2.2.1 ∧ m.2.2.1 ≤ k) ∧ (-k ≤ m.2.2.2 ∧ m.2.2.2 ≤ k)
theorem dot_wrap {j k a x b y : Int} (hj : 0 ≤ j ∧ j ≤ 100000) (hk : 0 ≤ k ∧ k ≤ 100000) (ha : -j ≤ a ∧ a ≤ j) (hx : -k ≤ x ∧ x ≤ k) (hb : -j ≤ b ∧ b ≤ j) (hy : -k ≤ y ∧ y ≤ k) :
    wrap64 (wrap64 (a * x) + wrap64 (b * y)) = a * x + b * y ∧ -(2 * (j * k)) ≤ a * x + b * y ∧ a * x + b * y ≤ 2 * (j * k) := by
  have h1 := mul_bd (a := a) (b := x) (j := j) (k := k) hj.1 hk.1 ha hx
  have h2 := mul_bd (a := b) (b := y) (j := j) (k := k) hj.1 hk.1 hb hy
  have h3 : j * k ≤ 100000 * 100000 := Int.mul_le_mul hj.2 hk.2 hk.1 (by omega)
  rw [wrap_id (n := a * x) (by omega) (by omega), wrap_id (n := b * y) (by omega) (by omega), wrap_id (by omega) (by omega)]
  exact ⟨rfl, by omega, by omega⟩
theorem tmM_eq {j k : Int} {m n : M4} (hj : 0 ≤ j ∧ j ≤ 100000) (hk : 0 ≤ k ∧ k ≤ 100000) (hm : Bd j m) (hn : Bd k n) : tmM m n = mul m n ∧ Bd (2 * (j * k)) (mul m n) := by
  obtain ⟨m1, m2, m3, m4⟩ := hm
  obtain ⟨n1, n2, n3, n4⟩ := hn
  obtain ⟨a1, b1⟩ := dot_wrap hj hk m1 n1 m2 n3
  obtain ⟨a2, b2⟩ := dot_wrap hj hk m1 n2 m2 n4
  obtain ⟨a3, b3⟩ := dot_wrap hj hk m3 n1 m4 n3
  obtain ⟨a4, b4⟩ := dot_wrap hj hk m3 n2 m4 n4
  refine ⟨?_, b1, b2, b3, b4⟩
  unfold tmM mul
  rw [a1, a2, a3, a4]
theorem ivM_eq {m : M4} (hm : Bd 44722 m) (hd : det m = 1) : ivM m = inv m := by
  obtain ⟨⟨a1, a2⟩, ⟨b1, b2⟩, ⟨c1, c2⟩, d1, d2⟩ := hm
  have h1 := mul_bd (a := m.1) (b := m.2.2.2) (j := 44722) (k := 44722) (by omega) (by omega) ⟨by omega, by omega⟩ ⟨by omega, by omega⟩
  have h2 := mul_bd (a := m.2.1) (b := m.2.2.1) (j := 44722) (k := 44722) (by omega) (by omega) ⟨by omega, by omega⟩ ⟨by omega, by omega⟩
  have e : detI m.1 m.2.1 m.2.2.1 m.2.2.2 = 1 := by
    unfold detI
    rw [wrap_id (n := m.1 * m.2.2.2) (by omega) (by omega), wrap_id (n := m.2.1 * m.2.2.1) (by omega) (by omega), wrap_id (by omega) (by omega)]
    exact hd
  unfold ivM inv
  rw [e, show wrap64 (0 - 1) = -1 by decide +kernel, Int.one_mul, Int.one_mul, Int.neg_one_mul, Int.neg_one_mul, wrap_id (n := m.2.2.2) (by omega) (by omega), wrap_id (n := -m.2.1) (by omega) (by omega), wrap_id (n := -m.2.2.1) (by omega) (by omega), wrap_id (n := m.1) (by omega) (by omega)]
theorem bd_inv {k : Int} {m : M4} (h : Bd k m) : Bd k (inv m) := by
  obtain ⟨h1, h2, h3, h4⟩ := h
  exact ⟨h4, by simp only [inv]; omega, by simp only [inv]; omega, h1⟩
theorem cj_eq {R T : M4} (hR : Bd 44722 R) (hd : det R = 1) (hT : Bd 1 T) : cj R T = mul (mul R T) (inv R) := by
  unfold cj
  obtain ⟨e1, b1⟩ := tmM_eq (j := 44722) (k := 1) ⟨by omega, by omega⟩ ⟨by omega, by omega⟩ hR hT
  rw [e1, ivM_eq hR hd]
  exact (tmM_eq (j := 2 * (44722 * 1)) (k := 44722) ⟨by omega, by omega⟩ ⟨by omega, by omega⟩ b1 (bd_inv hR)).1
theorem trL_bd {a b c : Int} : ∀ T ∈ trL a b c, Bd 1 T := by
  unfold trL trB Bd
  split
  · decide +kernel
  · split <;> decide +kernel
/-! ### parity -/
theorem tu_even {g : F3} {p : Int × Int} (hp : p ∈ tuX (dsc g)) : (p.1 - g.2.1 * p.2) % 2 = 0 ∧ (p.1 + g.2.1 * p.2) % 2 = 0 ∧ (-2 ≤ p.1 ∧ p.1 ≤ 2) ∧ (-1 ≤ p.2 ∧ p.2 ≤ 1) := by
  obtain ⟨a, b, c⟩ := g
  obtain ⟨t, u⟩ := p
  have hb : ∃ q, b = 2 * q ∨ b = 2 * q + 1 := ⟨b / 2, by omega⟩
  obtain ⟨q, hq⟩ := hb
  have hpar : dsc (a, b, c) % 2 = b % 2 := by
    unfold dsc
    simp only
    rcases hq with rfl | rfl
    · have : 2 * q * (2 * q) - 4 * a * c = 2 * (2 * (q * q) - 2 * (a * c)) := by grind
      rw [this]; omega
    · have : (2 * q + 1) * (2 * q + 1) - 4 * a * c = 2 * (2 * (q * q) + 2 * q - 2 * (a * c)) + 1 := by grind
      rw [this]; omega
  unfold tuX at hp
  simp only at hpar ⊢
  split at hp
  · rename_i h4
    rw [h4] at hpar
    simp only [List.mem_cons, Prod.mk.injEq, List.not_mem_nil, or_false] at hp
    rcases hp with ⟨rfl, rfl⟩ | ⟨rfl, rfl⟩ | ⟨rfl, rfl⟩ | ⟨rfl, rfl⟩ <;> omega
  · split at hp
    · rename_i _ h3
      rw [h3] at hpar
      simp only [List.mem_cons, Prod.mk.injEq, List.not_mem_nil, or_false] at hp
      rcases hp with ⟨rfl, rfl⟩ | ⟨rfl, rfl⟩ | ⟨rfl, rfl⟩ | ⟨rfl, rfl⟩ | ⟨rfl, rfl⟩ | ⟨rfl, rfl⟩ <;> omega
    · simp only [List.mem_cons, Prod.mk.injEq, List.not_mem_nil, or_false] at hp
      rcases hp with ⟨rfl, rfl⟩ | ⟨rfl, rfl⟩ <;> omega
/-- THE CONJUGATES OF THE TURNS. -/
theorem conj_all {f : F3} {k : Int} {R : M4} (hk : 0 < k) (hp : Prim f) (hR : Bd 44722 R) (hd : det R = 1) (hr : IsRed (dsc (act f R)) (act f R)) (hn : dsc f < 0) :
    (trL (k * (act f R).1) (k * (act f R).2.1) (k * (act f R).2.2)).map (cj R) = (tuX (dsc f)).map (mt f) := by
  have hdd : dsc (act f R) = dsc f := by rw [dsc_act, hd]; omega
  have hpg : Prim (act f R) := hp.eqv ⟨R, hd, rfl⟩
  have h1 := tr_mt hk hpg hr (by omega)
  have hb := trL_bd (a := k * (act f R).1) (b := k * (act f R).2.1) (c := k * (act f R).2.2)
  rw [h1] at hb ⊢
  rw [List.map_map, hdd]
  refine List.map_congr_left fun p hp' => ?_
  have hp2 : p ∈ tuX (dsc (act f R)) := by rw [hdd]; exact hp'
  obtain ⟨e1, e2, _⟩ := tu_even hp2
  have hbd := hb (mt (act f R) p) (List.mem_map.2 ⟨p, hp2, rfl⟩)
  show cj R (mt (act f R) p) = mt f p
  rw [cj_eq hR hd hbd]
  exact mt_conj hd (by omega) (by omega)

/-! ### both programs' lists -/
def xa (a b c : Int) : Int := wrap64 (a.tdiv (nuGcdI (nuGcdI a b) c))
def xb (a b c : Int) : Int := wrap64 (b.tdiv (nuGcdI (nuGcdI a b) c))
def xc (a b c : Int) : Int := wrap64 (c.tdiv (nuGcdI (nuGcdI a b) c))
def mtW (x y z : Int) (p : Int × Int) : M4 := (wrap64 ((wrap64 (p.1 - wrap64 (y * p.2))).tdiv 2), wrap64 (wrap64 (0 - z) * p.2), wrap64 (x * p.2), wrap64 ((wrap64 (p.1 + wrap64 (y * p.2))).tdiv 2))
def imT (a b c : Int) : List M4 := trL (rdA a b c) (rdB a b c) (rdC a b c)
def imX (a b c : Int) : List M4 := (imT a b c).map (cj (md a b c))
def spX (a b c : Int) : List M4 := (allP (discI (xa a b c) (xb a b c) (xc a b c)) 5).map (mtW (xa a b c) (xb a b c) (xc a b c))
def atL (a b c : Int) : List M4 := srtM (spX a b c)
theorem mtW_eq {f : F3} {p : Int × Int} (hf : (-1000000 ≤ f.1 ∧ f.1 ≤ 1000000) ∧ (-1000000 ≤ f.2.1 ∧ f.2.1 ≤ 1000000) ∧ -1000000 ≤ f.2.2 ∧ f.2.2 ≤ 1000000) (hp : p ∈ tuX (dsc f)) :
    mtW f.1 f.2.1 f.2.2 p = mt f p ∧ matB (mt f p).1 (mt f p).2.1 (mt f p).2.2.1 (mt f p).2.2.2 = true := by
  obtain ⟨e1, e2, ht, hu⟩ := tu_even hp
  obtain ⟨x, y, z⟩ := f
  obtain ⟨t, u⟩ := p
  simp only at hf ht hu e1 e2
  obtain ⟨hx, hy, hz⟩ := hf
  have hyu : -1000000 ≤ y * u ∧ y * u ≤ 1000000 ∧ -1000000 ≤ -z * u ∧ -z * u ≤ 1000000 ∧ -1000000 ≤ x * u ∧ x * u ≤ 1000000 := by
    have : u = -1 ∨ u = 0 ∨ u = 1 := by omega
    rcases this with rfl | rfl | rfl <;> omega
  unfold mtW mt matB
  simp only [Bool.and_eq_true, areB_iff]
  rw [wrap_id (n := y * u) (by omega) (by omega), wrap_id (n := t - y * u) (by omega) (by omega), wrap_id (n := t + y * u) (by omega) (by omega), wrap_id (n := 0 - z) (by omega) (by omega), wrap_id (n := x * u) (by omega) (by omega), Int.zero_sub, wrap_id (n := -z * u) (by omega) (by omega)]
  obtain ⟨q, hq⟩ : ∃ q, t - y * u = 2 * q := ⟨(t - y * u) / 2, by omega⟩
  obtain ⟨r, hr⟩ : ∃ r, t + y * u = 2 * r := ⟨(t + y * u) / 2, by omega⟩
  rw [hq, hr, Int.mul_tdiv_cancel_left _ (by omega), Int.mul_tdiv_cancel_left _ (by omega), Int.mul_ediv_cancel_left _ (by omega), Int.mul_ediv_cancel_left _ (by omega), wrap_id (n := q) (by omega) (by omega), wrap_id (n := r) (by omega) (by omega)]
  exact ⟨rfl, by omega, by omega, by omega, by omega⟩
theorem dsc_mod (f : F3) : dsc f % 4 = 0 ∨ dsc f % 4 = 1 := by
  obtain ⟨a, b, c⟩ := f
  unfold dsc
  simp only
  obtain ⟨q, hq⟩ : ∃ q, b = 2 * q ∨ b = 2 * q + 1 := ⟨b / 2, by omega⟩
  rcases hq with rfl | rfl
  · have : 2 * q * (2 * q) - 4 * a * c = 4 * (q * q - a * c) := by grind
    rw [this]; omega
  · have : (2 * q + 1) * (2 * q + 1) - 4 * a * c = 4 * (q * q + q - a * c) + 1 := by grind
    rw [this]; omega
theorem act_smul (k : Int) (f : F3) (m : M4) : act (k * f.1, k * f.2.1, k * f.2.2) m = (k * (act f m).1, k * (act f m).2.1, k * (act f m).2.2) := by
  refine F3.ext ?_ ?_ ?_ <;> simp only [act, vl, pl] <;> grind
theorem le_of_mul {k x n : Int} (hk : 0 < k) (h : -n ≤ k * x ∧ k * x ≤ n) : -n ≤ x ∧ x ≤ n := by
  have h1 : (k * x).natAbs = k.natAbs * x.natAbs := Int.natAbs_mul _ _
  have h2 : 1 * x.natAbs ≤ k.natAbs * x.natAbs := Nat.mul_le_mul_right _ (by omega)
  omega
theorem at_all {a b c : Int} (h : defB a b c = true) : (imX a b c).Perm (spX a b c) ∧ ∀ m ∈ imX a b c, matB m.1 m.2.1 m.2.2.1 m.2.2.2 = true := by
  obtain ⟨⟨k, x, y, z, hk, ha, hb, hc, hprim⟩, hkk⟩ := def0_ex h
  simp only at hkk
  have hdb := def_domB h
  have hdom := def_dom h
  have h' := h
  simp only [defB, formB, Bool.and_eq_true, areB_iff, decide_eq_true_eq] at h'
  obtain ⟨⟨g1, g2, g3⟩, _, _⟩ := h'
  have hcn : nuGcdI (nuGcdI a b) c = k := by rw [content_eq (by omega) (by omega) (by omega), hkk]
  have bx := le_of_mul hk (x := x) (n := 1000000) (by rw [← ha]; exact g1)
  have by' := le_of_mul hk (x := y) (n := 1000000) (by rw [← hb]; exact g2)
  have bz := le_of_mul hk (x := z) (n := 1000000) (by rw [← hc]; exact g3)
  have ex : xa a b c = x := by unfold xa; rw [hcn, ha, Int.mul_tdiv_cancel_left _ (by omega), wrap_id (by omega) (by omega)]
  have ey : xb a b c = y := by unfold xb; rw [hcn, hb, Int.mul_tdiv_cancel_left _ (by omega), wrap_id (by omega) (by omega)]
  have ez : xc a b c = z := by unfold xc; rw [hcn, hc, Int.mul_tdiv_cancel_left _ (by omega), wrap_id (by omega) (by omega)]
  have ed : discI x y z = dsc (x, y, z) := disc_id bx by' bz
  have hRs := redM_small0 (x := (a, b, c)) hdb
  have hR : Bd 44722 (redM (a, b, c)) := ⟨hRs.h1, hRs.h2, hRs.h3, hRs.h4⟩
  have hdet := redM_det (a, b, c)
  have hred := rdx_red (x := (a, b, c)) hdb
  obtain ⟨r1, r2, r3, _⟩ := rd_eqs hdb
  have hact : act (a, b, c) (redM (a, b, c)) = (k * (act (x, y, z) (redM (a, b, c))).1, k * (act (x, y, z) (redM (a, b, c))).2.1, k * (act (x, y, z) (redM (a, b, c))).2.2) := by
    have := act_smul k (x, y, z) (redM (a, b, c))
    rw [← this]
    simp only [← ha, ← hb, ← hc]
  have hrdx : rdx (a, b, c) = (k * (act (x, y, z) (redM (a, b, c))).1, k * (act (x, y, z) (redM (a, b, c))).2.1, k * (act (x, y, z) (redM (a, b, c))).2.2) := hact
  have hds : dsc (a, b, c) = k * k * dsc (x, y, z) := by
    unfold dsc
    simp only
    rw [ha, hb, hc]; grind
  have hneg : dsc (a, b, c) < 0 := by
    have h5 : b * b < 4 * a * c := hdom.d
    unfold dsc
    simp only
    omega
  have hkkp : 0 < k * k := Int.mul_pos hk hk
  have hneg2 : dsc (x, y, z) < 0 := by
    rcases Int.lt_or_le (dsc (x, y, z)) 0 with h6 | h6
    · exact h6
    · have := Int.mul_nonneg (Int.le_of_lt hkkp) h6
      omega
  have hdet' : dsc (act (x, y, z) (redM (a, b, c))) = dsc (x, y, z) := by rw [dsc_act, hdet]; omega
  have hgr : IsRed (dsc (act (x, y, z) (redM (a, b, c)))) (act (x, y, z) (redM (a, b, c))) := by
    rw [hrdx] at hred
    obtain ⟨a0, lo, hi, ac, _⟩ := hred
    simp only at a0 lo hi ac
    have lt' : ∀ {u v : Int}, k * u < k * v → u < v := fun hh => Int.lt_of_mul_lt_mul_left hh (Int.le_of_lt hk)
    have le' : ∀ {u v : Int}, k * u ≤ k * v → u ≤ v := fun hh => Int.le_of_mul_le_mul_left hh hk
    refine ⟨lt' (by rw [Int.mul_zero]; exact a0), lt' (by rw [Int.mul_neg]; exact lo), le' hi, ?_, rfl⟩
    rcases ac with h7 | ⟨h7, h8⟩
    · exact .inl (lt' h7)
    · exact .inr ⟨Int.eq_of_mul_eq_mul_left (by omega) h7, le' (by rw [Int.mul_zero]; exact h8)⟩
  have hconj := conj_all hk hprim hR hdet hgr hneg2
  have him : imX a b c = (tuX (dsc (x, y, z))).map (mt (x, y, z)) := by
    unfold imX imT
    rw [md_eq hdb, r1, r2, r3, hrdx]
    exact hconj
  have hlo : -10000000000000 ≤ dsc (x, y, z) := by
    have h8 := mul_bd (a := x) (b := z) (j := 1000000) (k := 1000000) (by omega) (by omega) bx bz
    have h9 := sq_nonneg y
    unfold dsc
    simp only
    have : 4 * x * z = 4 * (x * z) := Int.mul_assoc _ _ _
    omega
  have hm4 := dsc_mod (x, y, z)
  have hperm := tuX_perm (d := dsc (x, y, z)) ⟨hlo, by omega⟩ hm4
  have hsp : spX a b c = (allP (dsc (x, y, z)) 5).map (mt (x, y, z)) := by
    unfold spX
    rw [ex, ey, ez, ed]
    refine List.map_congr_left fun p hp => ?_
    exact (mtW_eq (f := (x, y, z)) ⟨bx, by', bz⟩ (hperm.mem_iff.2 hp)).1
  rw [him, hsp]
  refine ⟨hperm.map _, fun m hm => ?_⟩
  obtain ⟨p, hp, rfl⟩ := List.mem_map.1 hm
  exact (mtW_eq (f := (x, y, z)) ⟨bx, by', bz⟩ hp).2
end Go.Proofs.Ytclpoenfcpefmaa
