/-
  Plain laws: the remainders of a square root of -n modulo a prime p = x*x + n*y*y reach x. Conditions: none; nothing here speaks of the program.
-/
import Derived.Test.YtacomnelongbjabGp0
import Derived.Test.YtacomnelongbjabPrm
namespace Go.Proofs.Ytacomnelongbjab
open Go Go.RowKit
set_option maxRecDepth 100000
set_option linter.unusedSimpArgs false
set_option linter.unusedVariables false
set_option maxHeartbeats 4000000

theorem prL_no' {n : Int} (p : Int) (h : prL n p = true) : ∀ d, p ≤ d → 2 ≤ p → d * d ≤ n → n.tmod d ≠ 0 := by
  fun_induction prL n p with
  | case1 p hx hm => cases h
  | case2 p hx hm ih =>
    intro d h1 h2 h3
    by_cases g : d = p
    · subst g; simpa using hm
    · exact ih h d (by omega) (by omega) h3
  | case3 p hx =>
    intro d h1 h2 h3 _
    refine hx ⟨h2, ?_⟩
    have : p * p ≤ d * d := Int.mul_le_mul h1 h1 (by omega) (by omega)
    omega
theorem prime_isP {n : Int} (h : primeI n = true) : ∃ q : Nat, n = q ∧ IsP q := by
  have h2 := primeI_ge h
  obtain ⟨q, rfl⟩ : ∃ q : Nat, n = q := ⟨n.toNat, by omega⟩
  refine ⟨q, rfl, by omega, fun m hm => ?_⟩
  unfold primeI at h
  simp only [Bool.and_eq_true] at h
  have hno := prL_no' 2 h.2
  obtain ⟨k, hk⟩ := hm
  have hq0 : 0 < q := by omega
  have hm0 : 0 < m := by rcases Nat.eq_zero_or_pos m with e | e; · rw [e, Nat.zero_mul] at hk; omega
                         · exact e
  have hk0 : 0 < k := by rcases Nat.eq_zero_or_pos k with e | e; · rw [e, Nat.mul_zero] at hk; omega
                         · exact e
  by_cases m1 : m = 1
  · exact Or.inl m1
  by_cases k1 : k = 1
  · right; rw [hk, k1, Nat.mul_one]
  exfalso
  have hmod : ∀ d e : Nat, q = d * e → 0 < d → ((q : Nat) : Int).tmod (d : Int) = 0 := fun d e he hd => by
    rw [he, Int.natCast_mul]; exact Int.mul_tmod_right ..
  by_cases g : m ≤ k
  · have h3 : m * m ≤ q := by rw [hk]; exact Nat.mul_le_mul_left m g
    exact hno (m : Int) (by omega) (by omega) (by rw [← Int.natCast_mul]; omega) (hmod m k hk hm0)
  · have h3 : k * k ≤ q := by rw [hk]; exact Nat.mul_le_mul_right k (by omega)
    exact hno (k : Int) (by omega) (by omega) (by rw [← Int.natCast_mul]; omega) (hmod k m (by rw [hk, Nat.mul_comm]) hk0)
theorem sq_lt {a b : Int} (ha : 0 ≤ a) (h : a * a < b * b) (hb : 0 ≤ b) : a < b := by
  refine Int.not_le.1 fun g => ?_
  have := Int.mul_le_mul g g hb ha
  omega
theorem p_nsq {q : Nat} (hq : IsP q) {x : Int} (h : x * x = q) : False := by
  have h1 : (q : Int) ∣ x * x := ⟨1, by omega⟩
  have h2 : (q : Int) ∣ x := by rcases hq.imul h1 with g | g <;> exact g
  obtain ⟨k, rfl⟩ := h2
  have hq2 : (2 : Int) ≤ q := by have := hq.1; omega
  have e : (q : Int) * (q * (k * k)) = q * 1 := by rw [← Int.mul_assoc]; grind
  have e2 := Int.eq_of_mul_eq_mul_left (by omega) e
  have hk : 0 ≤ k * k := by
    rcases Int.le_total 0 k with g | g
    · exact Int.mul_nonneg g g
    · exact Int.mul_nonneg_of_nonpos_of_nonpos g g
  by_cases k0 : k * k = 0
  · rw [k0] at e2; omega
  · have : (2 : Int) * 1 ≤ q * (k * k) := Int.mul_le_mul hq2 (by omega) (by omega) (by omega)
    omega
/-- facts of a representation -/
structure Rep (n x y : Int) (q : Nat) : Prop where
  pr : IsP q
  eq : x * x + n * y * y = q
  n1 : 1 ≤ n
  x0 : 0 ≤ x
  y0 : 0 ≤ y
  nd : ¬ (q : Int) ∣ n
theorem Rep.y1 {n x y : Int} {q : Nat} (h : Rep n x y q) : 1 ≤ y := by
  have := h.y0
  have h2 := h.eq
  by_cases g : y = 0
  · rw [g] at h2; exact (p_nsq h.pr (x := x) (by simpa using h2)).elim
  · omega
theorem Rep.x1 {n x y : Int} {q : Nat} (h : Rep n x y q) : 1 ≤ x := by
  have h0 := h.x0
  have h2 := h.eq
  by_cases g : x = 0
  · exfalso
    rw [g] at h2
    have h3 : n * (y * y) = q := by rw [← h2]; grind
    have h4 : (q : Int) ∣ n * (y * y) := ⟨1, by omega⟩
    rcases h.pr.imul h4 with h5 | h5
    · exact h.nd h5
    · have h6 : (q : Int) ∣ y := by rcases h.pr.imul h5 with g | g <;> exact g
      have hy := h.y1
      have h7 := Int.le_of_dvd (by omega) h6
      have hn := h.n1
      have h8 : (1 : Int) * (y * y) ≤ n * (y * y) := Int.mul_le_mul_of_nonneg_right hn (Int.mul_nonneg h.y0 h.y0)
      have h9 : y * 1 ≤ y * y := Int.mul_le_mul_of_nonneg_left hy h.y0
      have hq := h.pr.1
      have : y = 1 := by
        by_cases g2 : y = 1
        · exact g2
        · have : y * 2 ≤ y * y := Int.mul_le_mul_of_nonneg_left (by omega) h.y0
          omega
      rw [this] at h7
      omega
  · omega
theorem Rep.sm {n x y : Int} {q : Nat} (h : Rep n x y q) : x * x < q ∧ y * y < q := by
  have h1 := h.x1
  have h2 := h.y1
  have hn := h.n1
  have e := h.eq
  have hy : 1 * (y * y) ≤ n * (y * y) := Int.mul_le_mul_of_nonneg_right hn (Int.mul_nonneg h.y0 h.y0)
  have hy1 : 1 * 1 ≤ y * y := Int.mul_le_mul h2 h2 (by omega) (by omega)
  have hx1 : 1 * 1 ≤ x * x := Int.mul_le_mul h1 h1 (by omega) (by omega)
  rw [Int.mul_assoc] at e
  omega
theorem Rep.lt {n x y : Int} {q : Nat} (h : Rep n x y q) : x < q ∧ y < q := by
  obtain ⟨h1, h2⟩ := h.sm
  have h3 := h.x1
  have h4 := h.y1
  have h5 : x * 1 ≤ x * x := Int.mul_le_mul_of_nonneg_left h3 h.x0
  have h6 : y * 1 ≤ y * y := Int.mul_le_mul_of_nonneg_left h4 h.y0
  omega
theorem Rep.no_x {n x y : Int} {q : Nat} (h : Rep n x y q) : ¬ (q : Int) ∣ x := fun g => by
  have := Int.le_of_dvd (by have := h.x1; omega) g
  have := h.lt
  omega
theorem Rep.no_y {n x y : Int} {q : Nat} (h : Rep n x y q) : ¬ (q : Int) ∣ y := fun g => by
  have := Int.le_of_dvd (by have := h.y1; omega) g
  have := h.lt
  omega
/-- x is prime to n*y -/
theorem Rep.cop {n x y : Int} {q : Nat} (h : Rep n x y q) : Int.gcd x (n * y) = 1 := by
  refine gcd_one_of_p (fun s hs h1 h2 => ?_) ?_
  · have h3 : (s : Int) ∣ q := by
      rw [← h.eq]
      exact Int.dvd_add (Int.dvd_trans h1 (Int.dvd_mul_right x x)) (Int.dvd_trans h2 (Int.dvd_mul_right (n * y) y))
    have h4 : s ∣ q := Int.ofNat_dvd.1 h3
    rcases h.pr.2 s h4 with g | g
    · have := hs.1; omega
    · subst g; exact h.no_x h1
  · have h1 := h.n1
    have h2 := h.y1
    exact Int.mul_ne_zero (by omega) (by omega)
theorem Rep.copy {n x y : Int} {q : Nat} (h : Rep n x y q) : Int.gcd x y = 1 := by
  have h1 := h.cop
  have h2 : (Int.gcd x y : Int) ∣ (Int.gcd x (n * y) : Nat) := Int.dvd_coe_gcd (Int.gcd_dvd_left ..) (Int.dvd_trans (Int.gcd_dvd_right ..) (Int.dvd_mul_left ..))
  rw [h1] at h2
  have := Int.ofNat_dvd.1 h2
  exact Nat.dvd_one.1 this
theorem dvd_cop {x y z : Int} (h : Int.gcd x y = 1) (hd : x ∣ y * z) : x ∣ z := by
  obtain ⟨u, v, e⟩ := bez h
  obtain ⟨k, hk⟩ := hd
  refine ⟨u * z + v * k, ?_⟩
  have : (u * x + v * y) * z = z := by rw [e, Int.one_mul]
  rw [← this]; grind
/-- what two remainders that follow each other tell -/
structure Eu (r a b : Int) (q : Nat) (u v s : Int) : Prop where
  det : a * v + b * u = q
  u0 : 0 ≤ u
  uv : u ≤ v
  v1 : 1 ≤ v
  b0 : 0 ≤ b
  ba : b < a
  s1 : s = 1 ∨ s = -1
  cb : (q : Int) ∣ b - s * v * r
  ca : (q : Int) ∣ a + s * u * r
  big : (q : Int) < a * a
theorem Eu.start {r : Int} {q : Nat} (h0 : 0 ≤ r) (h : r < q) (hq : 2 ≤ q) : Eu r q r q 0 1 1 := by
  refine ⟨by omega, by omega, by omega, by omega, h0, h, Or.inl rfl, ⟨0, by grind⟩, ⟨1, by grind⟩, ?_⟩
  have : (q : Int) * 2 ≤ q * q := Int.mul_le_mul_of_nonneg_left (by omega) (by omega)
  omega
theorem Eu.next {r a b : Int} {q : Nat} {u v s : Int} (h : Eu r a b q u v s) (hb : (q : Int) < b * b) : Eu r b (a % b) q v (u + a / b * v) (-s) := by
  have hb1 : 0 < b := by
    have := h.b0
    by_cases g : b = 0
    · rw [g] at hb; omega
    · omega
  have hmod := Int.emod_add_mul_ediv a b
  have hq1 : 1 ≤ a / b := (Int.le_ediv_iff_mul_le hb1).2 (by have := h.ba; omega)
  have hv := h.v1
  have hp : 1 * v ≤ a / b * v := Int.mul_le_mul_of_nonneg_right hq1 (by omega)
  have hu := h.u0
  have hd := h.det
  generalize a / b = Q at *
  have e : a % b = a - b * Q := by omega
  refine ⟨?_, by omega, by omega, by omega, Int.emod_nonneg _ (by omega), Int.emod_lt_of_pos _ hb1, ?_, ?_, ?_, hb⟩
  · rw [e, ← hd]; grind
  · rcases h.s1 with g | g <;> omega
  · obtain ⟨k1, e1⟩ := h.ca
    obtain ⟨k2, e2⟩ := h.cb
    refine ⟨k1 - Q * k2, ?_⟩
    rw [e, Int.mul_sub, ← e1, show (q : Int) * (Q * k2) = Q * (q * k2) by grind, ← e2]
    grind
  · obtain ⟨k2, e2⟩ := h.cb
    exact ⟨k2, by rw [← e2]; grind⟩
theorem sq_nn (a : Int) : 0 ≤ a * a := by
  rcases Int.le_total 0 a with g | g
  · exact Int.mul_nonneg g g
  · exact Int.mul_nonneg_of_nonpos_of_nonpos g g
theorem sq_ge1 {a : Int} (h : a ≠ 0) : 1 ≤ a * a := by
  have := sq_nn a
  have : a * a ≠ 0 := Int.mul_ne_zero h h
  omega
/-- the first small remainder is x -/
theorem Eu.last {n x y r a b : Int} {q : Nat} {u v s : Int} (h : Eu r a b q u v s) (R : Rep n x y q) (hr : (q : Int) ∣ r * r + n) (hxy : n = 1 → y < x) (hb : b * b ≤ q) : b = x := by
  have hx1 := R.x1
  have hy1 := R.y1
  have hn1 := R.n1
  have hv1 := h.v1
  have hb0 := h.b0
  have hu0 := h.u0
  have hq2 : (2 : Int) ≤ q := by have := R.pr.1; omega
  have heq := R.eq
  have hdet := h.det
  have hbq : b * b < q := by
    rcases Int.lt_or_eq_of_le hb with g | g
    · exact g
    · exact (p_nsq R.pr g).elim
  have hbu : 0 ≤ b * u := Int.mul_nonneg hb0 hu0
  have hav : a * v ≤ q := by omega
  have hva : v < a := by
    refine Int.not_le.1 fun g => ?_
    have ha : 0 ≤ a := by have := h.ba; omega
    have := Int.mul_le_mul_of_nonneg_left g ha
    have := h.big
    omega
  have hvq : v * v < q := by
    have h1 : v * v ≤ a * v := Int.mul_le_mul_of_nonneg_right (by omega) (by omega)
    rcases Int.lt_or_eq_of_le (show v * v ≤ q by omega) with g | g
    · exact g
    · exact (p_nsq R.pr g).elim
  -- x is e*r*y modulo q
  obtain ⟨e, he, hxe⟩ : ∃ e : Int, (e = 1 ∨ e = -1) ∧ (q : Int) ∣ x - e * r * y := by
    have h1 : (q : Int) ∣ (x - r * y) * (x + r * y) := by
      obtain ⟨k, hk⟩ := hr
      refine ⟨1 - k * y * y, ?_⟩
      have : n = q * k - r * r := by omega
      rw [Int.mul_sub, Int.mul_one, show (q : Int) * (k * y * y) = (q * k) * (y * y) by grind, ← hk, ← heq]
      grind
    rcases R.pr.imul h1 with g | g
    · exact ⟨1, Or.inl rfl, by simpa using g⟩
    · refine ⟨-1, Or.inr rfl, ?_⟩
      have : x - -1 * r * y = x + r * y := by grind
      rw [this]; exact g
  obtain ⟨f, hf, hfe⟩ : ∃ f : Int, (f = 1 ∨ f = -1) ∧ f = e * s := by
    refine ⟨e * s, ?_, rfl⟩
    rcases he with rfl | rfl <;> rcases h.s1 with g | g <;> rw [g] <;> simp
  have hee : e * e = 1 := by rcases he with rfl | rfl <;> rfl
  have hss : s * s = 1 := by rcases h.s1 with g | g <;> rw [g] <;> rfl
  have hff : f * f = 1 := by rcases hf with rfl | rfl <;> rfl
  obtain ⟨kb, hkb⟩ := h.cb
  obtain ⟨kx, hkx⟩ := hxe
  obtain ⟨kr, hkr⟩ := hr
  have hB : b = s * v * r + q * kb := by omega
  have hX : x = e * r * y + q * kx := by omega
  have hD : (q : Int) ∣ b * y - f * v * x := by
    refine ⟨kb * y - f * v * kx, ?_⟩
    rw [hX, hB, hfe]
    have : e * s * v * (e * r * y) = (e * e) * (s * v * r * y) := by grind
    rw [Int.mul_add, this, hee]
    grind
  have hE : (q : Int) ∣ b * x + f * n * v * y := by
    have e1 : b * x = (s * v * r + q * kb) * x := by rw [← hB]
    have e2 : s * v * r * x = s * v * r * (e * r * y + q * kx) := by rw [← hX]
    refine ⟨kb * x + s * v * r * kx + e * s * v * y * kr, ?_⟩
    rw [hfe, Int.mul_add, Int.mul_add, show (q : Int) * (e * s * v * y * kr) = e * s * v * y * (q * kr) by grind, ← hkr, e1, Int.add_mul, e2]
    grind
  obtain ⟨D, hD⟩ := hD
  obtain ⟨E, hE⟩ := hE
  have hid : (b * b + n * (v * v)) * (x * x + n * y * y) = (b * x + f * n * v * y) * (b * x + f * n * v * y) + n * ((b * y - f * v * x) * (b * y - f * v * x)) := by
    have : (b * x + f * n * v * y) * (b * x + f * n * v * y) + n * ((b * y - f * v * x) * (b * y - f * v * x)) = b * b * (x * x) + (f * f) * (n * n * (v * v) * (y * y)) + n * (b * b * (y * y)) + (f * f) * (n * (v * v) * (x * x)) := by grind
    rw [this, hff]; grind
  rw [heq, hD, hE] at hid
  have hid2 : (q : Int) * (b * b + n * (v * v)) = q * (q * (E * E + n * (D * D))) := by rw [Int.mul_comm, hid]; grind
  have hid3 := Int.eq_of_mul_eq_mul_left (by omega) hid2
  have hnv : n * (v * v) ≤ n * (q - 1) := Int.mul_le_mul_of_nonneg_left (by omega) (by omega)
  have hlt : q * (E * E + n * (D * D)) < q * (n + 1) := by
    rw [← hid3]
    have : (q : Int) * (n + 1) = n * (q - 1) + n + q := by grind
    omega
  have hlt2 : E * E + n * (D * D) < n + 1 := Int.lt_of_mul_lt_mul_left hlt (by omega)
  have hEE := sq_nn E
  by_cases hD0 : D = 0
  · -- the points are parallel
    rw [hD0, Int.mul_zero] at hD
    have hby : 0 ≤ b * y := Int.mul_nonneg hb0 (by omega)
    have hvx : 1 * 1 ≤ v * x := Int.mul_le_mul hv1 hx1 (by omega) (by omega)
    have hf1 : f = 1 := by
      rcases hf with g | g
      · exact g
      · rw [g, show -1 * v * x = -(v * x) by grind] at hD
        omega
    rw [hf1, Int.one_mul] at hD
    have hd1 : x ∣ y * b := ⟨v, by rw [Int.mul_comm y b, Int.mul_comm x v]; omega⟩
    obtain ⟨t, rfl⟩ := dvd_cop R.copy hd1
    have hvt : v = y * t := by
      have : x * (t * y) = x * v := by rw [← Int.mul_assoc, Int.mul_comm x v]; omega
      have := Int.eq_of_mul_eq_mul_left (by omega) this
      rw [Int.mul_comm y t]; omega
    have htq : t ∣ (q : Int) := ⟨a * y + x * u, by rw [← hdet, hvt]; grind⟩
    have ht0 : 0 ≤ t := by
      refine Int.not_lt.1 fun g => ?_
      have := Int.mul_neg_of_pos_of_neg (show 0 < x by omega) g
      omega
    obtain ⟨T, rfl⟩ : ∃ T : Nat, t = T := ⟨t.toNat, by omega⟩
    rcases R.pr.2 T (Int.ofNat_dvd.1 htq) with g | g
    · rw [g]; simp
    · exfalso
      rw [g] at hbq
      have h1 : 1 * (q : Int) ≤ x * q := Int.mul_le_mul_of_nonneg_right hx1 (by omega)
      have h2 : (q : Int) * q ≤ x * q * (x * q) := Int.mul_le_mul (by omega) (by omega) (by omega) (by omega)
      have h3 : (q : Int) * 2 ≤ q * q := Int.mul_le_mul_of_nonneg_left hq2 (by omega)
      omega
  · exfalso
    have hDD := sq_ge1 hD0
    have hnD : n * 1 ≤ n * (D * D) := Int.mul_le_mul_of_nonneg_left hDD (by omega)
    have hE0 : E = 0 := Classical.byContradiction fun g => by have := sq_ge1 g; omega
    rw [hE0, Int.mul_zero] at hE
    have hbx : 0 ≤ b * x := Int.mul_nonneg hb0 (by omega)
    have hnv1 : 1 * 1 ≤ n * v := Int.mul_le_mul hn1 hv1 (by omega) (by omega)
    have hnvy : 1 * 1 ≤ n * v * y := Int.mul_le_mul (by omega) hy1 (by omega) (by omega)
    have hf1 : f = -1 := by
      rcases hf with g | g
      · rw [g, show 1 * n * v * y = n * v * y by grind] at hE
        omega
      · exact g
    rw [hf1] at hE hD
    have hE2 : b * x = n * v * y := by
      have : -1 * n * v * y = -(n * v * y) := by grind
      omega
    have hd1 : x ∣ n * y * v := ⟨b, by rw [Int.mul_comm x b, hE2]; grind⟩
    obtain ⟨t, rfl⟩ := dvd_cop R.cop hd1
    have hbt : b = n * t * y := by
      have : x * b = x * (n * t * y) := by rw [Int.mul_comm x b, hE2]; grind
      exact Int.eq_of_mul_eq_mul_left (by omega) this
    have hDq : t * q = q * D := by
      rw [← hD, ← heq, hbt]; grind
    have ht0 : 0 < t := by
      refine Int.not_le.1 fun g => ?_
      rcases Int.lt_or_eq_of_le g with g | g
      · have := Int.mul_neg_of_pos_of_neg (show 0 < x by omega) g
        omega
      · rw [g] at hv1; omega
    have htD : D = t := (Int.eq_of_mul_eq_mul_left (show (q : Int) ≠ 0 by omega) (by rw [← hDq, Int.mul_comm])).symm
    have ht1 : t = 1 := by
      by_cases g : t = 1
      · exact g
      · exfalso
        have h1 : 2 * 2 ≤ t * t := Int.mul_le_mul (by omega) (by omega) (by omega) (by omega)
        have h2 : n * 4 ≤ n * (D * D) := Int.mul_le_mul_of_nonneg_left (by rw [htD]; omega) (by omega)
        omega
    rw [ht1, Int.mul_one] at hdet hva hav
    rw [ht1] at hbt
    rw [Int.mul_one] at hbt
    -- the other orthogonal basis: then y is at least x
    have h1 : x * (a - x) = n * y * (y - u) := by
      rw [hbt, ← heq] at hdet
      rw [Int.mul_sub, Int.mul_comm x a, Int.mul_sub]
      omega
    have h2 : 0 < x * (a - x) := Int.mul_pos (by omega) (by omega)
    have hny : 0 < n * y := Int.mul_pos (by omega) (by omega)
    have h3 : 0 < y - u := by
      refine Int.not_le.1 fun g => ?_
      have := Int.mul_nonpos_of_nonneg_of_nonpos (show 0 ≤ n * y by omega) g
      omega
    have hd2 : x ∣ n * y * (y - u) := ⟨a - x, h1.symm⟩
    have h4 := Int.le_of_dvd h3 (dvd_cop R.cop hd2)
    have hyx : x ≤ y := by omega
    have h5 : x * x ≤ y * y := Int.mul_le_mul hyx hyx (by omega) (by omega)
    have hn : n = 1 := by
      by_cases g : n = 1
      · exact g
      · exfalso
        rw [hbt] at hbq
        have h6 : n * 2 ≤ n * n := Int.mul_le_mul_of_nonneg_left (by omega) (by omega)
        have h7 : (n + 1) * (y * y) ≤ n * n * (y * y) := Int.mul_le_mul_of_nonneg_right (by omega) (sq_nn y)
        have h8 : n * y * (n * y) = n * n * (y * y) := by grind
        have h9 : (n + 1) * (y * y) = n * y * y + y * y := by grind
        omega
    have := hxy hn
    omega
/-- the remainders from a pair on -/
def euL (p a b : Int) : List Int := if _h : 0 < b ∧ p < b * b then b :: euL p b (a % b) else [b]
  termination_by b.toNat
  decreasing_by
    have := Int.emod_lt_of_pos a _h.1
    omega
theorem euL_ne (p a b : Int) : euL p a b ≠ [] := by
  rw [euL.eq_def]; split <;> simp
theorem eu_last {n x y r : Int} {q : Nat} (R : Rep n x y q) (hr : (q : Int) ∣ r * r + n) (hxy : n = 1 → y < x) : ∀ (k : Nat) (a b u v s : Int), b.toNat ≤ k → Eu r a b q u v s → (euL q a b).getLast (euL_ne _ _ _) = x := by
  intro k
  induction k with
  | zero =>
    intro a b u v s hk h
    have hb := h.b0
    have e : euL q a b = [b] := by rw [euL.eq_def, dif_neg (by omega)]
    simp only [e, List.getLast_singleton]
    refine h.last R hr hxy ?_
    obtain rfl : b = 0 := by omega
    omega
  | succ k ih =>
    intro a b u v s hk h
    by_cases g : 0 < b ∧ (q : Int) < b * b
    · have e : euL q a b = b :: euL q b (a % b) := by rw [euL.eq_def, dif_pos g]
      simp only [e]
      rw [List.getLast_cons (euL_ne _ _ _)]
      refine ih b (a % b) _ _ _ ?_ (h.next g.2)
      have := Int.emod_lt_of_pos a g.1
      omega
    · have e : euL q a b = [b] := by rw [euL.eq_def, dif_neg g]
      simp only [e, List.getLast_singleton]
      refine h.last R hr hxy ?_
      have hb := h.b0
      by_cases g0 : b = 0
      · rw [g0]; omega
      · omega
/-- a root of -n above the half -/
theorem Rep.root {n x y : Int} {q : Nat} (R : Rep n x y q) (hodd : q ≠ 2) : ∃ r : Int, (q : Int) / 2 + 1 ≤ r ∧ r < q ∧ (q : Int) ∣ r * r + n := by
  have hq2 : (2 : Int) ≤ q := by have := R.pr.1; omega
  have hg : Int.gcd y q = 1 := by
    have h1 := R.pr.cop (a := y.natAbs) (fun g => R.no_y (Int.ofNat_dvd_left.2 g))
    rw [Nat.gcd_comm] at h1
    exact h1
  obtain ⟨w, z, e⟩ := bez hg
  have hd : (q : Int) ∣ (x * w) * (x * w) + n := by
    have h1 : x * x = q - n * y * y := by have := R.eq; omega
    have h2 : w * y = 1 - z * q := by omega
    refine ⟨w * w + 2 * n * z - n * z * z * q, ?_⟩
    have : x * w * (x * w) = (x * x) * (w * w) := by grind
    rw [this, h1]
    have : n * y * y * (w * w) = n * ((w * y) * (w * y)) := by grind
    rw [Int.sub_mul, this, h2]
    grind
  generalize x * w = c at hd
  have hmod := Int.emod_add_mul_ediv c q
  have hm0 := Int.emod_nonneg c (show (q : Int) ≠ 0 by omega)
  have hm1 := Int.emod_lt_of_pos c (show (0 : Int) < q by omega)
  have hodd2 : (q : Int) % 2 = 1 := by
    refine Classical.byContradiction fun g => ?_
    have : 2 ∣ q := Nat.dvd_of_mod_eq_zero (by omega)
    rcases R.pr.2 2 this with h | h <;> omega
  obtain ⟨k, hk⟩ := hd
  have hd2 : (q : Int) ∣ (c % q) * (c % q) + n := by
    generalize c % (q : Int) = m at *
    generalize c / (q : Int) = j at *
    refine ⟨k - j * (m + c), ?_⟩
    have : m = c - q * j := by omega
    rw [Int.mul_sub, ← hk, this]; grind
  have hne : c % (q : Int) ≠ 0 := fun g => by
    rw [g] at hd2
    exact R.nd (by simpa using hd2)
  by_cases g : (q : Int) / 2 + 1 ≤ c % q
  · exact ⟨_, g, hm1, hd2⟩
  · refine ⟨q - c % q, by omega, by omega, ?_⟩
    obtain ⟨k, hk⟩ := hd2
    generalize c % (q : Int) = m at *
    refine ⟨q - 2 * m + k, ?_⟩
    rw [Int.mul_add, ← hk]; grind
end Go.Proofs.Ytacomnelongbjab
