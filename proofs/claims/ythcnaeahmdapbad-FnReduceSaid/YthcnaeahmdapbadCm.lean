/-
  Plain laws of composition: forms that a cube ties together determine each other up to equivalence; united forms make a cube. Conditions: none; nothing here speaks of the program.
-/
import Derived.Test.YthcnaeahmdapbadRdc
import Derived.Test.YthcnaeahmdapbadGc
namespace Go.Proofs.Ythcnaeahmdapbad
open Go Go.RowKit
set_option maxRecDepth 100000
set_option linter.unusedSimpArgs false
set_option linter.unusedVariables false
set_option maxHeartbeats 4000000

/-! ### two rows with the same minors -/
theorem two_rows {p q p' q' : Nat → Int} (hm : ∀ i j, p i * q j - p j * q i = p' i * q' j - p' j * q' i) {l01 l02 l03 l12 l13 l23 : Int}
    (hb : l01 * (p 0 * q 1 - p 1 * q 0) + l02 * (p 0 * q 2 - p 2 * q 0) + l03 * (p 0 * q 3 - p 3 * q 0) + l12 * (p 1 * q 2 - p 2 * q 1) + l13 * (p 1 * q 3 - p 3 * q 1) + l23 * (p 2 * q 3 - p 3 * q 2) = 1) :
    ∃ a b c d : Int, a * d - b * c = 1 ∧ ∀ k, p' k = a * p k + b * q k ∧ q' k = c * p k + d * q k := by
  have key : ∀ i j k, p' i * (p k * q j - p j * q k) + p' j * (p i * q k - p k * q i) = p' k * (p i * q j - p j * q i) := fun i j k => by
    rw [hm k j, hm i k, hm i j]; grind
  have key' : ∀ i j k, q' i * (p k * q j - p j * q k) + q' j * (p i * q k - p k * q i) = q' k * (p i * q j - p j * q i) := fun i j k => by
    rw [hm k j, hm i k, hm i j]; grind
  let T (r : Nat → Int) (s : Nat → Int) : Int := l01 * (r 0 * s 1 - r 1 * s 0) + l02 * (r 0 * s 2 - r 2 * s 0) + l03 * (r 0 * s 3 - r 3 * s 0) + l12 * (r 1 * s 2 - r 2 * s 1) + l13 * (r 1 * s 3 - r 3 * s 1) + l23 * (r 2 * s 3 - r 3 * s 2)
  have hk : ∀ k, p' k = T p' q * p k + -(T p' p) * q k := fun k => by
    have e : T p' q * p k + -(T p' p) * q k = l01 * (p' 0 * (p k * q 1 - p 1 * q k) + p' 1 * (p 0 * q k - p k * q 0)) + l02 * (p' 0 * (p k * q 2 - p 2 * q k) + p' 2 * (p 0 * q k - p k * q 0)) + l03 * (p' 0 * (p k * q 3 - p 3 * q k) + p' 3 * (p 0 * q k - p k * q 0))
        + l12 * (p' 1 * (p k * q 2 - p 2 * q k) + p' 2 * (p 1 * q k - p k * q 1)) + l13 * (p' 1 * (p k * q 3 - p 3 * q k) + p' 3 * (p 1 * q k - p k * q 1)) + l23 * (p' 2 * (p k * q 3 - p 3 * q k) + p' 3 * (p 2 * q k - p k * q 2)) := by
      simp only [T]; grind
    rw [e, key, key, key, key, key, key]
    have e2 : l01 * (p' k * (p 0 * q 1 - p 1 * q 0)) + l02 * (p' k * (p 0 * q 2 - p 2 * q 0)) + l03 * (p' k * (p 0 * q 3 - p 3 * q 0)) + l12 * (p' k * (p 1 * q 2 - p 2 * q 1)) + l13 * (p' k * (p 1 * q 3 - p 3 * q 1)) + l23 * (p' k * (p 2 * q 3 - p 3 * q 2))
        = p' k * (l01 * (p 0 * q 1 - p 1 * q 0) + l02 * (p 0 * q 2 - p 2 * q 0) + l03 * (p 0 * q 3 - p 3 * q 0) + l12 * (p 1 * q 2 - p 2 * q 1) + l13 * (p 1 * q 3 - p 3 * q 1) + l23 * (p 2 * q 3 - p 3 * q 2)) := by grind
    rw [e2, hb, Int.mul_one]
  have hk' : ∀ k, q' k = T q' q * p k + -(T q' p) * q k := fun k => by
    have e : T q' q * p k + -(T q' p) * q k = l01 * (q' 0 * (p k * q 1 - p 1 * q k) + q' 1 * (p 0 * q k - p k * q 0)) + l02 * (q' 0 * (p k * q 2 - p 2 * q k) + q' 2 * (p 0 * q k - p k * q 0)) + l03 * (q' 0 * (p k * q 3 - p 3 * q k) + q' 3 * (p 0 * q k - p k * q 0))
        + l12 * (q' 1 * (p k * q 2 - p 2 * q k) + q' 2 * (p 1 * q k - p k * q 1)) + l13 * (q' 1 * (p k * q 3 - p 3 * q k) + q' 3 * (p 1 * q k - p k * q 1)) + l23 * (q' 2 * (p k * q 3 - p 3 * q k) + q' 3 * (p 2 * q k - p k * q 2)) := by
      simp only [T]; grind
    rw [e, key', key', key', key', key', key']
    have e2 : l01 * (q' k * (p 0 * q 1 - p 1 * q 0)) + l02 * (q' k * (p 0 * q 2 - p 2 * q 0)) + l03 * (q' k * (p 0 * q 3 - p 3 * q 0)) + l12 * (q' k * (p 1 * q 2 - p 2 * q 1)) + l13 * (q' k * (p 1 * q 3 - p 3 * q 1)) + l23 * (q' k * (p 2 * q 3 - p 3 * q 2))
        = q' k * (l01 * (p 0 * q 1 - p 1 * q 0) + l02 * (p 0 * q 2 - p 2 * q 0) + l03 * (p 0 * q 3 - p 3 * q 0) + l12 * (p 1 * q 2 - p 2 * q 1) + l13 * (p 1 * q 3 - p 3 * q 1) + l23 * (p 2 * q 3 - p 3 * q 2)) := by grind
    rw [e2, hb, Int.mul_one]
  clear_value T
  generalize T p' q = a at *
  generalize -(T p' p) = b at *
  generalize T q' q = c at *
  generalize -(T q' p) = d at *
  refine ⟨a, b, c, d, ?_, fun k => ⟨hk k, hk' k⟩⟩
  have hd : ∀ i j, p i * q j - p j * q i = (a * d - b * c) * (p i * q j - p j * q i) := fun i j => by
    have h1 := hm i j
    rw [hk i, hk j, hk' i, hk' j] at h1
    rw [h1]
    have h2 : (a * p i + b * q i) * (c * p j + d * q j) - (a * p j + b * q j) * (c * p i + d * q i) = (a * d - b * c) * (p i * q j - p j * q i) := by grind
    rw [h2, ← h1.trans h2]
    exact (h1.trans h2)
  have e : (a * d - b * c) * (l01 * (p 0 * q 1 - p 1 * q 0) + l02 * (p 0 * q 2 - p 2 * q 0) + l03 * (p 0 * q 3 - p 3 * q 0) + l12 * (p 1 * q 2 - p 2 * q 1) + l13 * (p 1 * q 3 - p 3 * q 1) + l23 * (p 2 * q 3 - p 3 * q 2))
      = l01 * ((a * d - b * c) * (p 0 * q 1 - p 1 * q 0)) + l02 * ((a * d - b * c) * (p 0 * q 2 - p 2 * q 0)) + l03 * ((a * d - b * c) * (p 0 * q 3 - p 3 * q 0)) + l12 * ((a * d - b * c) * (p 1 * q 2 - p 2 * q 1)) + l13 * ((a * d - b * c) * (p 1 * q 3 - p 3 * q 1)) + l23 * ((a * d - b * c) * (p 2 * q 3 - p 3 * q 2)) := by grind
  rw [← hd, ← hd, ← hd, ← hd, ← hd, ← hd, hb, Int.mul_one] at e
  exact e

/-! ### cubes -/
abbrev V4 := Int × Int × Int × Int
def q1 (p q : V4) : F3 := (p.1 * q.2.1 - p.2.1 * q.1, (p.1 * q.2.2.2 - p.2.2.2 * q.1) - (p.2.1 * q.2.2.1 - p.2.2.1 * q.2.1), p.2.2.1 * q.2.2.2 - p.2.2.2 * q.2.2.1)
def q2 (p q : V4) : F3 := (p.1 * q.2.2.1 - p.2.2.1 * q.1, (p.1 * q.2.2.2 - p.2.2.2 * q.1) + (p.2.1 * q.2.2.1 - p.2.2.1 * q.2.1), p.2.1 * q.2.2.2 - p.2.2.2 * q.2.1)
def q3 (p q : V4) : F3 := (-(p.1 * p.2.2.2 - p.2.1 * p.2.2.1), -(p.1 * q.2.2.2 + q.1 * p.2.2.2 - p.2.1 * q.2.2.1 - q.2.1 * p.2.2.1), -(q.1 * q.2.2.2 - q.2.1 * q.2.2.1))
/-- the three forms are those of a cube -/
def Tied (f g h : F3) : Prop := ∃ p q : V4, q1 p q = f ∧ q2 p q = g ∧ q3 p q = h
def Eqv (f g : F3) : Prop := ∃ m : M4, det m = 1 ∧ act f m = g
def Prim (f : F3) : Prop := ∃ x y z : Int, x * f.1 + y * f.2.1 + z * f.2.2 = 1

theorem prim_of {a b c : Int} (h : Int.gcd a (Int.gcd b c : Nat) = 1) : Prim (a, b, c) := by
  obtain ⟨x, y, hxy⟩ := bez h
  obtain ⟨u, v, huv⟩ := gcdL_bez b c
  have h1 := gcdL_abs b c
  have h2 : gcdL b c = (Int.gcd b c : Nat) ∨ gcdL b c = -(Int.gcd b c : Nat) := by omega
  rcases h2 with h2 | h2
  · refine ⟨x, y * u, y * v, ?_⟩
    simp only
    rw [← hxy, ← h2, ← huv]; grind
  · refine ⟨x, -(y * u), -(y * v), ?_⟩
    simp only
    have h3 : ((Int.gcd b c : Nat) : Int) = -gcdL b c := by omega
    rw [← hxy, h3, ← huv]; grind
theorem Eqv.refl (f : F3) : Eqv f f := ⟨one4, rfl, act_one f⟩
theorem Eqv.symm {f g : F3} (h : Eqv f g) : Eqv g f := by
  obtain ⟨m, h1, h2⟩ := h
  exact ⟨inv m, by rw [det_inv, h1], by rw [← h2]; exact act_inv h1⟩
theorem Eqv.trans {f g h : F3} (h1 : Eqv f g) (h2 : Eqv g h) : Eqv f h := by
  obtain ⟨m, a1, a2⟩ := h1
  obtain ⟨n, b1, b2⟩ := h2
  exact ⟨mul m n, by rw [det_mul, a1, b1]; rfl, by rw [← act_mul, a2, b2]⟩
theorem Eqv.dsc {f g : F3} (h : Eqv f g) : Go.Proofs.Ythcnaeahmdapbad.dsc g = Go.Proofs.Ythcnaeahmdapbad.dsc f := by
  obtain ⟨m, h1, h2⟩ := h
  rw [← h2, dsc_act, h1]; omega
theorem Eqv.rdx {f g : F3} (h : Eqv f g) (hf : f.dom = true) (hg : g.dom = true) : Go.Proofs.Ythcnaeahmdapbad.rdx f = Go.Proofs.Ythcnaeahmdapbad.rdx g := by
  obtain ⟨m, h1, h2⟩ := h
  exact rdx_act hf hg h1 h2
theorem eqv_rdx (f : F3) : Eqv f (rdx f) := ⟨redM f, redM_det f, rfl⟩
theorem Prim.eqv {f g : F3} (hp : Prim f) (h : Eqv f g) : Prim g := by
  obtain ⟨m, h1, h2⟩ := h.symm
  obtain ⟨x, y, z, h3⟩ := hp
  rw [← h2] at h3
  obtain ⟨a, b, c, d⟩ := m
  obtain ⟨u, v, w⟩ := g
  simp only [act, vl, pl] at h3
  refine ⟨x * a * a + y * 2 * a * b + z * b * b, x * a * c + y * (a * d + c * b) + z * b * d, x * c * c + y * 2 * c * d + z * d * d, ?_⟩
  simp only
  rw [← h3]
  grind
theorem Prim.opp {f : F3} (h : Prim f) : Prim (opp f) := by
  obtain ⟨x, y, z, h⟩ := h
  refine ⟨x, -y, z, ?_⟩
  rw [← h]
  simp only [Go.Proofs.Ythcnaeahmdapbad.opp]
  grind
theorem Tied.act1 {f g h f' : F3} (H : Tied f g h) (e : Eqv f f') : Tied f' g h := by
  obtain ⟨⟨p0, p1, p2, p3⟩, ⟨r0, r1, r2, r3⟩, h1, h2, h3⟩ := H
  obtain ⟨⟨a, b, c, d⟩, hd, he⟩ := e
  simp only [det] at hd
  subst h1 h2 h3
  refine ⟨(a * p0 + c * p2, a * p1 + c * p3, b * p0 + d * p2, b * p1 + d * p3), (a * r0 + c * r2, a * r1 + c * r3, b * r0 + d * r2, b * r1 + d * r3), ?_, ?_, ?_⟩
  · rw [← he]; simp only [q1, act, vl, pl, Prod.mk.injEq]; refine ⟨by grind, by grind, by grind⟩
  · have e1 : ∀ x : Int, (a * d - b * c) * x = x := fun x => by rw [hd, Int.one_mul]
    simp only [q2, Prod.mk.injEq]
    refine ⟨?_, ?_, ?_⟩
    · rw [← e1 (p0 * r2 - p2 * r0)]; grind
    · rw [← e1 (p0 * r3 - p3 * r0 + (p1 * r2 - p2 * r1))]; grind
    · rw [← e1 (p1 * r3 - p3 * r1)]; grind
  · have e1 : ∀ x : Int, (a * d - b * c) * x = x := fun x => by rw [hd, Int.one_mul]
    simp only [q3, Prod.mk.injEq]
    refine ⟨?_, ?_, ?_⟩
    · rw [← e1 (-(p0 * p3 - p1 * p2))]; grind
    · rw [← e1 (-(p0 * r3 + r0 * p3 - p1 * r2 - r1 * p2))]; grind
    · rw [← e1 (-(r0 * r3 - r1 * r2))]; grind
theorem Tied.swap {f g h : F3} (H : Tied f g h) : Tied g f h := by
  obtain ⟨⟨p0, p1, p2, p3⟩, ⟨r0, r1, r2, r3⟩, h1, h2, h3⟩ := H
  subst h1 h2 h3
  refine ⟨(p0, p2, p1, p3), (r0, r2, r1, r3), ?_, ?_, ?_⟩
  · simp only [q1, q2, Prod.mk.injEq]; refine ⟨trivial, by grind, trivial⟩
  · simp only [q1, q2, Prod.mk.injEq]; refine ⟨trivial, by grind, trivial⟩
  · simp only [q3, Prod.mk.injEq]; refine ⟨by grind, by grind, by grind⟩
theorem Tied.act2 {f g h g' : F3} (H : Tied f g h) (e : Eqv g g') : Tied f g' h := (H.swap.act1 e).swap
theorem Tied.act3 {f g h h' : F3} (H : Tied f g h) (e : Eqv h h') : Tied f g h' := by
  obtain ⟨⟨p0, p1, p2, p3⟩, ⟨r0, r1, r2, r3⟩, h1, h2, h3⟩ := H
  obtain ⟨⟨a, b, c, d⟩, hd, he⟩ := e
  simp only [det] at hd
  have e1 : ∀ x : Int, (a * d - b * c) * x = x := fun x => by rw [hd, Int.one_mul]
  subst h1 h2 h3
  refine ⟨(a * p0 + c * r0, a * p1 + c * r1, a * p2 + c * r2, a * p3 + c * r3), (b * p0 + d * r0, b * p1 + d * r1, b * p2 + d * r2, b * p3 + d * r3), ?_, ?_, ?_⟩
  · simp only [q1, Prod.mk.injEq]
    refine ⟨?_, ?_, ?_⟩
    · rw [← e1 (p0 * r1 - p1 * r0)]; grind
    · rw [← e1 (p0 * r3 - p3 * r0 - (p1 * r2 - p2 * r1))]; grind
    · rw [← e1 (p2 * r3 - p3 * r2)]; grind
  · simp only [q2, Prod.mk.injEq]
    refine ⟨?_, ?_, ?_⟩
    · rw [← e1 (p0 * r2 - p2 * r0)]; grind
    · rw [← e1 (p0 * r3 - p3 * r0 + (p1 * r2 - p2 * r1))]; grind
    · rw [← e1 (p1 * r3 - p3 * r1)]; grind
  · rw [← he]; simp only [q3, act, vl, pl, Prod.mk.injEq]; refine ⟨by grind, by grind, by grind⟩
def v4 (p : V4) : Nat → Int
  | 0 => p.1
  | 1 => p.2.1
  | 2 => p.2.2.1
  | 3 => p.2.2.2
  | _ => 0
theorem minors_all {p q p' q' : V4} (h01 : p.1 * q.2.1 - p.2.1 * q.1 = p'.1 * q'.2.1 - p'.2.1 * q'.1) (h02 : p.1 * q.2.2.1 - p.2.2.1 * q.1 = p'.1 * q'.2.2.1 - p'.2.2.1 * q'.1) (h03 : p.1 * q.2.2.2 - p.2.2.2 * q.1 = p'.1 * q'.2.2.2 - p'.2.2.2 * q'.1)
    (h12 : p.2.1 * q.2.2.1 - p.2.2.1 * q.2.1 = p'.2.1 * q'.2.2.1 - p'.2.2.1 * q'.2.1) (h13 : p.2.1 * q.2.2.2 - p.2.2.2 * q.2.1 = p'.2.1 * q'.2.2.2 - p'.2.2.2 * q'.2.1) (h23 : p.2.2.1 * q.2.2.2 - p.2.2.2 * q.2.2.1 = p'.2.2.1 * q'.2.2.2 - p'.2.2.2 * q'.2.2.1) :
    ∀ i j, v4 p i * v4 q j - v4 p j * v4 q i = v4 p' i * v4 q' j - v4 p' j * v4 q' i := by
  intro i j
  match i, j with
  | 0, 0 => simp [v4, Int.mul_comm]
  | 1, 1 => simp [v4, Int.mul_comm]
  | 2, 2 => simp [v4, Int.mul_comm]
  | 3, 3 => simp [v4, Int.mul_comm]
  | 0, 1 => exact h01
  | 0, 2 => exact h02
  | 0, 3 => exact h03
  | 1, 2 => exact h12
  | 1, 3 => exact h13
  | 2, 3 => exact h23
  | 1, 0 => simp only [v4]; omega
  | 2, 0 => simp only [v4]; omega
  | 3, 0 => simp only [v4]; omega
  | 2, 1 => simp only [v4]; omega
  | 3, 1 => simp only [v4]; omega
  | 3, 2 => simp only [v4]; omega
  | i + 4, 0 => simp [v4]
  | i + 4, 1 => simp [v4]
  | i + 4, 2 => simp [v4]
  | i + 4, 3 => simp [v4]
  | i + 4, j + 4 => simp [v4]
  | 0, j + 4 => simp [v4]
  | 1, j + 4 => simp [v4]
  | 2, j + 4 => simp [v4]
  | 3, j + 4 => simp [v4]
/-- THE COMPOSITE IS ONE CLASS. -/
theorem Tied.unique {f g h h' : F3} (H : Tied f g h) (H' : Tied f g h') (hp : Prim f) : Eqv h h' := by
  obtain ⟨p, q, h1, h2, h3⟩ := H
  obtain ⟨p', q', k1, k2, k3⟩ := H'
  have e1 := h1.trans k1.symm
  have e2 := h2.trans k2.symm
  simp only [q1, q2, Prod.mk.injEq] at e1 e2
  obtain ⟨x1, x2, x3⟩ := e1
  obtain ⟨y1, y2, y3⟩ := e2
  obtain ⟨x, y, z, hz⟩ := hp
  rw [← h1] at hz
  simp only [q1] at hz
  obtain ⟨a, b, c, d, hd, hk⟩ := two_rows (minors_all (p := p) (q := q) (p' := p') (q' := q') x1 y1 (by omega) (by omega) y3 x3) (l01 := x) (l02 := 0) (l03 := y) (l12 := -y) (l13 := 0) (l23 := z) (by rw [← hz]; simp only [v4]; grind)
  obtain ⟨p0, p1, p2, p3⟩ := p
  obtain ⟨r0, r1, r2, r3⟩ := q
  obtain ⟨p0', p1', p2', p3'⟩ := p'
  obtain ⟨r0', r1', r2', r3'⟩ := q'
  obtain ⟨a0, b0⟩ := hk 0
  obtain ⟨a1, b1⟩ := hk 1
  obtain ⟨a2, b2⟩ := hk 2
  obtain ⟨a3, b3⟩ := hk 3
  simp only [v4] at a0 b0 a1 b1 a2 b2 a3 b3
  refine ⟨(a, c, b, d), by simp only [det]; grind, ?_⟩
  rw [← h3, ← k3, a0, b0, a1, b1, a2, b2, a3, b3]
  simp only [q3, act, vl, pl, Prod.mk.injEq]
  refine ⟨by grind, by grind, by grind⟩
/-- A FACTOR IS ONE CLASS. -/
theorem Tied.cancel {f g h f' : F3} (H : Tied f g h) (H' : Tied f' g h) (hp : Prim g) : Eqv f f' := by
  obtain ⟨⟨p0, p1, p2, p3⟩, ⟨r0, r1, r2, r3⟩, h1, h2, h3⟩ := H
  obtain ⟨⟨p0', p1', p2', p3'⟩, ⟨r0', r1', r2', r3'⟩, k1, k2, k3⟩ := H'
  have e1 := h3.trans k3.symm
  have e2 := h2.trans k2.symm
  simp only [q3, q2, Prod.mk.injEq] at e1 e2
  obtain ⟨x1, x2, x3⟩ := e1
  obtain ⟨y1, y2, y3⟩ := e2
  obtain ⟨x, y, z, hz⟩ := hp
  rw [← h2] at hz
  simp only [q2] at hz
  obtain ⟨a, b, c, d, hd, hk⟩ := two_rows (minors_all (p := (p0, r0, p1, r1)) (q := (p2, r2, p3, r3)) (p' := (p0', r0', p1', r1')) (q' := (p2', r2', p3', r3'))
    (by simp only; grind) (by simp only; grind) (by simp only; grind) (by simp only; grind) (by simp only; grind) (by simp only; grind)) (l01 := x) (l02 := 0) (l03 := y) (l12 := -y) (l13 := 0) (l23 := z) (by rw [← hz]; simp only [v4]; grind)
  obtain ⟨a0, b0⟩ := hk 0
  obtain ⟨a1, b1⟩ := hk 1
  obtain ⟨a2, b2⟩ := hk 2
  obtain ⟨a3, b3⟩ := hk 3
  simp only [v4] at a0 b0 a1 b1 a2 b2 a3 b3
  refine ⟨(a, c, b, d), by simp only [det]; grind, ?_⟩
  rw [← h1, ← k1, a0, b0, a1, b1, a2, b2, a3, b3]
  simp only [q1, act, vl, pl, Prod.mk.injEq]
  refine ⟨by grind, by grind, by grind⟩
/-- United forms make a cube. -/
theorem tied_united (a e b c : Int) : Tied (a, b, e * c) (e, b, a * c) (c, -b, a * e) := by
  refine ⟨(1, 0, 0, -c), (0, a, e, b), ?_, ?_, ?_⟩
  · simp only [q1, Prod.mk.injEq]; refine ⟨by grind, by grind, by grind⟩
  · simp only [q2, Prod.mk.injEq]; refine ⟨by grind, by grind, by grind⟩
  · simp only [q3, Prod.mk.injEq]; refine ⟨by grind, by grind, by grind⟩
theorem eqv_turn (a b c : Int) : Eqv (c, -b, a) (a, b, c) := ⟨(0, -1, 1, 0), rfl, by simp only [act, vl, pl, Prod.mk.injEq]; refine ⟨by grind, by grind, by grind⟩⟩
theorem tied_comp (a e b c : Int) : Tied (a, b, e * c) (e, b, a * c) (a * e, b, c) := (tied_united a e b c).act3 (eqv_turn (a * e) b c)
theorem prim_comp {a e b c : Int} (h1 : Prim (a, b, e * c)) (h2 : Prim (e, b, a * c)) : Prim (a * e, b, c) := by
  obtain ⟨x, y, z, h⟩ := h1
  obtain ⟨x', y', z', h'⟩ := h2
  simp only at h h'
  refine ⟨x * x', x * a * y' + y * (x' * e + y' * b + z' * (a * c)) + z * (e * c) * y', x * a * z' * a + z * e * (x' * e) + z * e * (z' * (a * c)), ?_⟩
  simp only
  have e1 : (x * a + y * b + z * (e * c)) * (x' * e + y' * b + z' * (a * c)) = 1 := by rw [h, h']; rfl
  rw [← e1]
  grind
end Go.Proofs.Ythcnaeahmdapbad
