/-
  The composition of classes is associative; the order of a class divides the number of classes. Plain mathematics. Conditions: none.
-/
import Derived.Test.YthcnaeahmdapbaaGt
namespace Go.Proofs.Ythcnaeahmdapbaa
open Go Go.RowKit
set_option maxRecDepth 100000
set_option linter.unusedSimpArgs false
set_option linter.unusedVariables false
set_option maxHeartbeats 4000000

/-! ### what is prime -/
def Pr (p : Nat) : Prop := 1 < p ∧ ∀ a b : Nat, p ∣ a * b → p ∣ a ∨ p ∣ b
theorem pr_ex : ∀ n : Nat, 1 < n → ∃ p, Pr p ∧ p ∣ n := by
  intro n
  induction n using Nat.strongRecOn with
  | _ n ih =>
    intro hn
    by_cases h : ∃ m, 1 < m ∧ m < n ∧ m ∣ n
    · obtain ⟨m, h1, h2, h3⟩ := h
      obtain ⟨p, hp, hd⟩ := ih m h2 h1
      exact ⟨p, hp, Nat.dvd_trans hd h3⟩
    · refine ⟨n, ⟨hn, fun a b hab => ?_⟩, Nat.dvd_refl n⟩
      by_cases hg : Nat.gcd n a = 1
      · exact .inr (Nat.Coprime.dvd_of_dvd_mul_left hg hab)
      · left
        have hgn : Nat.gcd n a ∣ n := Nat.gcd_dvd_left n a
        have hg0 : 0 < Nat.gcd n a := Nat.gcd_pos_of_pos_left a (by omega)
        have hle := Nat.le_of_dvd (by omega) hgn
        by_cases he : Nat.gcd n a = n
        · rw [← he]; exact Nat.gcd_dvd_right n a
        · exact absurd ⟨Nat.gcd n a, by omega, by omega, hgn⟩ h
theorem cop_of {a b : Nat} (h0 : 0 < b) (h : ∀ p, Pr p → p ∣ a → ¬ p ∣ b) : Nat.gcd a b = 1 := by
  have h1 : 0 < Nat.gcd a b := Nat.gcd_pos_of_pos_right a h0
  by_cases h2 : Nat.gcd a b = 1
  · exact h2
  · obtain ⟨p, hp, hd⟩ := pr_ex (Nat.gcd a b) (by omega)
    exact absurd (Nat.dvd_trans hd (Nat.gcd_dvd_right a b)) (h p hp (Nat.dvd_trans hd (Nat.gcd_dvd_left a b)))
theorem cop_not {a b p : Nat} (hp : Pr p) (h : Nat.gcd a b = 1) (ha : p ∣ a) (hb : p ∣ b) : False := by
  have := Nat.dvd_gcd ha hb
  rw [h] at this
  have := Nat.le_of_dvd (by omega) this
  have := hp.1
  omega
/-- n = s t: s has nothing in common with u, each prime of t divides u -/
theorem part_of (u : Nat) : ∀ n : Nat, 0 < n → ∃ s t, n = s * t ∧ Nat.gcd s u = 1 ∧ ∀ p, Pr p → p ∣ t → p ∣ u := by
  intro n
  induction n using Nat.strongRecOn with
  | _ n ih =>
    intro hn
    by_cases h : Nat.gcd n u = 1
    · exact ⟨n, 1, by simp, h, fun p hp hd => absurd (Nat.le_of_dvd (by omega) hd) (by have := hp.1; omega)⟩
    · have hg0 : 0 < Nat.gcd n u := Nat.gcd_pos_of_pos_left u hn
      obtain ⟨m, hm⟩ := Nat.gcd_dvd_left n u
      have hm0 : 0 < m := by
        rcases Nat.eq_zero_or_pos m with h0 | h0
        · subst h0; omega
        · exact h0
      have hlt : m < n := by
        have : 2 * m ≤ Nat.gcd n u * m := Nat.mul_le_mul_right m (by omega)
        omega
      obtain ⟨s, t, h1, h2, h3⟩ := ih m hlt hm0
      refine ⟨s, Nat.gcd n u * t, ?_, h2, fun p hp hd => ?_⟩
      · rw [hm, h1]; grind
      · rcases hp.2 _ _ hd with h4 | h4
        · exact Nat.dvd_trans h4 (Nat.gcd_dvd_right n u)
        · exact h3 p hp h4
theorem dm {p a : Int} (c : Int) (h : p ∣ a) : p ∣ c * a := Int.dvd_trans h (Int.dvd_mul_left c a)
/-! ### a form has a value without a divisor in common with n -/
theorem pr_int {p : Nat} (hp : Pr p) {a b : Int} (h : (p : Int) ∣ a * b) : (p : Int) ∣ a ∨ (p : Int) ∣ b := by
  have h1 : p ∣ a.natAbs * b.natAbs := by
    rw [← Int.natAbs_mul]
    exact Int.ofNat_dvd_left.1 h
  rcases hp.2 _ _ h1 with h2 | h2
  · exact .inl (Int.ofNat_dvd_left.2 h2)
  · exact .inr (Int.ofNat_dvd_left.2 h2)
theorem val_ex {f : F3} (hf : Prim f) (n : Nat) (hn : 0 < n) : ∃ x y : Nat, Nat.gcd x y = 1 ∧ ∀ p, Pr p → p ∣ n → ¬ (p : Int) ∣ vl f x y := by
  obtain ⟨A, B, C⟩ := f
  obtain ⟨s, t, h1, h2, h3⟩ := part_of A.natAbs n hn
  have ht0 : 0 < t := Nat.pos_of_ne_zero fun e => by subst e; omega
  have hs0 : 0 < s := Nat.pos_of_ne_zero fun e => by subst e; omega
  obtain ⟨x, r, h4, h5, h6⟩ := part_of C.natAbs t ht0
  have hx0 : 0 < x := Nat.pos_of_ne_zero fun e => by subst e; omega
  have hxs : Nat.gcd x s = 1 := cop_of hs0 fun p hp hd hd2 => cop_not hp h2 hd2 (h3 p hp (h4 ▸ Nat.dvd_trans hd (Nat.dvd_mul_right x r)))
  refine ⟨x, s, hxs, fun p hp hd hv => ?_⟩
  have hv' : (p : Int) ∣ A * x * x + B * x * s + C * s * s := hv
  have hpx : ¬ (p ∣ x ∧ p ∣ s) := fun ⟨k1, k2⟩ => cop_not hp hxs k1 k2
  rw [h1] at hd
  rcases hp.2 _ _ hd with k1 | k1
  · have k1' : (p : Int) ∣ (s : Int) := Int.natCast_dvd_natCast.2 k1
    have k2 : (p : Int) ∣ A * x * x := by
      have := Int.dvd_sub hv' (dm (B * x + C * s) k1')
      have e : A * x * x + B * x * s + C * s * s - (B * x + C * s) * s = A * x * x := by grind
      rwa [e] at this
    rcases pr_int hp k2 with k3 | k3
    · rcases pr_int hp k3 with k4 | k4
      · exact cop_not hp h2 k1 (Int.ofNat_dvd_left.1 k4)
      · exact hpx ⟨Int.natCast_dvd_natCast.1 k4, k1⟩
    · exact hpx ⟨Int.natCast_dvd_natCast.1 k3, k1⟩
  · have kA : (p : Int) ∣ A := Int.ofNat_dvd_left.2 (h3 p hp k1)
    have kps : ¬ p ∣ s := fun k => cop_not hp h2 k (h3 p hp k1)
    rw [h4] at k1
    rcases hp.2 _ _ k1 with k2 | k2
    · have k2' : (p : Int) ∣ (x : Int) := Int.natCast_dvd_natCast.2 k2
      have k3 : (p : Int) ∣ C * s * s := by
        have := Int.dvd_sub hv' (dm (A * x + B * s) k2')
        have e : A * x * x + B * x * s + C * s * s - (A * x + B * s) * x = C * s * s := by grind
        rwa [e] at this
      rcases pr_int hp k3 with k4 | k4
      · rcases pr_int hp k4 with k5 | k5
        · exact cop_not hp h5 k2 (Int.ofNat_dvd_left.1 k5)
        · exact kps (Int.natCast_dvd_natCast.1 k5)
      · exact kps (Int.natCast_dvd_natCast.1 k4)
    · have kC : (p : Int) ∣ C := Int.ofNat_dvd_left.2 (h6 p hp k2)
      have kpx : ¬ p ∣ x := fun k => cop_not hp h5 k (h6 p hp k2)
      have k3 : (p : Int) ∣ B * x * s := by
        have e : A * x * x + B * x * s + C * s * s - (x * x) * A - (s * s) * C = B * x * s := by grind
        have := Int.dvd_sub (Int.dvd_sub hv' (dm ((x : Int) * x) kA)) (dm ((s : Int) * s) kC)
        rwa [e] at this
      have kB : (p : Int) ∣ B := by
        rcases pr_int hp k3 with k4 | k4
        · rcases pr_int hp k4 with k5 | k5
          · exact k5
          · exact absurd (Int.natCast_dvd_natCast.1 k5) kpx
        · exact absurd (Int.natCast_dvd_natCast.1 k4) kps
      have h1p : (1 : Int) < p := by have := hp.1; omega
      exact hf.not h1p ⟨Int.emod_eq_zero_of_dvd kA, Int.emod_eq_zero_of_dvd kB, Int.emod_eq_zero_of_dvd kC⟩
/-! ### three forms with one middle coefficient -/
theorem rep_ex {f : F3} (hf : Prim f) (n : Nat) (hn : 0 < n) : ∃ g, Eqv f g ∧ ∀ p, Pr p → p ∣ n → ¬ (p : Int) ∣ g.1 := by
  obtain ⟨x, y, h1, h2⟩ := val_ex hf n hn
  have h3 : (x : Int) * cpS x y - cpQ x y * y = 1 := cp_det0 (by omega) (by omega) (by simpa [Int.gcd] using h1)
  exact ⟨act f (x, cpQ x y, y, cpS x y), ⟨(x, cpQ x y, y, cpS x y), h3, rfl⟩, h2⟩
def copI (a m : Int) : Prop := ∀ p, Pr p → (p : Int) ∣ a → ¬ (p : Int) ∣ m
theorem bezC {a m : Int} (hm : m ≠ 0) (h : copI a m) : ∃ u, m ∣ u * a - 1 := by
  have hM : 0 < (m.natAbs : Int) := by omega
  have hr := Int.emod_nonneg a (show (m.natAbs : Int) ≠ 0 by omega)
  have hdm := Int.mul_ediv_add_emod a (m.natAbs : Int)
  have hg : Int.gcd (a % (m.natAbs : Int)) (m.natAbs : Int) = 1 := by
    refine cop_of (by omega) fun p hp h1 h2 => ?_
    have k1 : (p : Int) ∣ a % (m.natAbs : Int) := Int.ofNat_dvd_left.2 h1
    have k2 : (p : Int) ∣ (m.natAbs : Int) := Int.ofNat_dvd_left.2 h2
    refine h p hp ?_ (Int.dvd_natAbs.1 k2)
    rw [← hdm]
    exact Int.dvd_add (Int.dvd_trans k2 (Int.dvd_mul_right _ _)) k1
  have hi := (iv_spec hM hr hg).2
  generalize ivI (a % (m.natAbs : Int)) (m.natAbs : Int) = u at *
  refine ⟨u, Int.natAbs_dvd.1 ?_⟩
  have e : u * a - 1 = (u * (a % (m.natAbs : Int)) - 1) + (m.natAbs : Int) * (u * (a / (m.natAbs : Int))) := by
    generalize (m.natAbs : Int) = M at *
    generalize a % M = r at *
    generalize a / M = q at *
    subst hdm
    grind
  rw [e]
  exact Int.dvd_add hi (Int.dvd_mul_right _ _)
theorem cop_dvd {a m c : Int} (hm : m ≠ 0) (h : copI a m) (hd : m ∣ a * c) : m ∣ c := by
  obtain ⟨u, k, hk⟩ := bezC hm h
  obtain ⟨z, hz⟩ := hd
  refine ⟨u * z - k * c, ?_⟩
  have e : u * (a * c) = u * (m * z) := by rw [hz]
  grind
theorem crt {a m b b' : Int} (hm : m ≠ 0) (h : copI a m) (h2 : (2 : Int) ∣ b' - b) : ∃ t, 2 * m ∣ b + 2 * a * t - b' := by
  obtain ⟨u, k, hk⟩ := bezC hm h
  obtain ⟨w, hw⟩ := h2
  refine ⟨u * w, w * k, ?_⟩
  grind
theorem shift_to {a b c B : Int} (h : 2 * a ∣ B - b) : ∃ c', Eqv (a, b, c) (a, B, c') := by
  obtain ⟨t, ht⟩ := h
  refine ⟨a * t * t + b * t + c, (1, t, 0, 1), by simp [det], ?_⟩
  rw [shift_act]
  simp only [Prod.mk.injEq, and_true, true_and]
  grind
structure Conc (f g k : F3) (a1 a2 a3 B C : Int) : Prop where
  e1 : Eqv f (a1, B, a2 * (a3 * C))
  e2 : Eqv g (a2, B, a1 * (a3 * C))
  e3 : Eqv k (a3, B, a1 * a2 * C)
theorem sq0 (b : Int) : 0 ≤ b * b := by
  rcases Int.le_total 0 b with h | h
  · exact Int.mul_nonneg h h
  · exact Int.mul_nonneg_of_nonpos_of_nonpos h h
theorem head_ne {f : F3} (h : dsc f < 0) : f.1 ≠ 0 := by
  intro e
  have := sq0 f.2.1
  unfold dsc at h
  rw [e] at h
  have e2 : 4 * (0 : Int) * f.2.2 = 0 := by grind
  omega
theorem par2 {a b c a' b' c' D : Int} (h : b * b - 4 * a * c = D) (h' : b' * b' - 4 * a' * c' = D) : (2 : Int) ∣ b' - b := by
  have k1 := sq_par (b := b) (D := D) (k := a * c) (by grind)
  have k2 := sq_par (b := b') (D := D) (k := a' * c') (by grind)
  omega
theorem copI.symm {a m : Int} (h : copI a m) : copI m a := fun p hp h1 h2 => h p hp h2 h1
theorem copI.mul {a b m : Int} (h1 : copI a m) (h2 : copI b m) : copI (a * b) m := fun p hp h3 h4 => by
  rcases pr_int hp h3 with h5 | h5
  · exact h1 p hp h5 h4
  · exact h2 p hp h5 h4
theorem conc {f g k : F3} {D : Int} (hD : D < 0) (hg : Prim g) (hk : Prim k) (df : dsc f = D) (dg : dsc g = D) (dk : dsc k = D) : ∃ a1 a2 a3 B C, Conc f g k a1 a2 a3 B C := by
  obtain ⟨a1, b1, c1⟩ := f
  have n1 : a1 ≠ 0 := head_ne (f := (a1, b1, c1)) (by omega)
  obtain ⟨⟨a2, b2, c2⟩, eg, hg2⟩ := rep_ex hg a1.natAbs (by omega)
  have d2 : dsc (a2, b2, c2) = D := eg.dsc.trans dg
  have n2 : a2 ≠ 0 := head_ne (f := (a2, b2, c2)) (by omega)
  have n12 : a1 * a2 ≠ 0 := Int.mul_ne_zero n1 n2
  obtain ⟨⟨a3, b3, c3⟩, ek, hk3⟩ := rep_ex hk (a1 * a2).natAbs (by omega)
  have d3 : dsc (a3, b3, c3) = D := ek.dsc.trans dk
  have n3 : a3 ≠ 0 := head_ne (f := (a3, b3, c3)) (by omega)
  have c12 : copI a1 a2 := fun p hp h1 h2 => hg2 p hp (Int.ofNat_dvd_left.1 h1) h2
  have c123 : copI (a1 * a2) a3 := fun p hp h1 h2 => hk3 p hp (Int.ofNat_dvd_left.1 h1) h2
  unfold dsc at df d2 d3
  simp only at df d2 d3
  obtain ⟨t, ht⟩ := crt (b := b1) (b' := b2) n2 c12 (par2 df d2)
  generalize hB1 : b1 + 2 * a1 * t = B1 at *
  have hpar : (2 : Int) ∣ b3 - B1 := by
    have := par2 df d3
    have h2 : B1 = b1 + 2 * (a1 * t) := by rw [← hB1]; grind
    omega
  obtain ⟨s, hs⟩ := crt (b := B1) (b' := b3) n3 c123 hpar
  generalize hB : B1 + 2 * (a1 * a2) * s = B at *
  have q1 : 2 * a1 ∣ B - b1 := ⟨t + a2 * s, by rw [← hB, ← hB1]; grind⟩
  have q2 : 2 * a2 ∣ B - b2 := by
    obtain ⟨z, hz⟩ := ht
    exact ⟨z + a1 * s, by rw [← hB]; grind⟩
  obtain ⟨C1, x1⟩ := shift_to (c := c1) q1
  obtain ⟨C2, x2⟩ := shift_to (c := c2) q2
  obtain ⟨C3, x3⟩ := shift_to (c := c3) hs
  have y1 := x1.dsc
  have y2 := x2.dsc
  have y3 := x3.dsc
  unfold dsc at y1 y2 y3
  simp only at y1 y2 y3
  rw [df] at y1
  rw [d2] at y2
  rw [d3] at y3
  have z12 : a1 * C1 = a2 * C2 := by
    have e1 : 4 * a1 * C1 = 4 * (a1 * C1) := by grind
    have e2 : 4 * a2 * C2 = 4 * (a2 * C2) := by grind
    omega
  have z13 : a1 * C1 = a3 * C3 := by
    have e1 : 4 * a1 * C1 = 4 * (a1 * C1) := by grind
    have e2 : 4 * a3 * C3 = 4 * (a3 * C3) := by grind
    omega
  obtain ⟨K, hK⟩ := cop_dvd n2 c12 ⟨C2, z12⟩
  have z3 : a1 * a2 * K = a3 * C3 := by rw [← z13, hK]; grind
  obtain ⟨C, hC⟩ := cop_dvd n3 c123 ⟨C3, z3⟩
  have r1 : C1 = a2 * (a3 * C) := by rw [hK, hC]
  have r2 : C2 = a1 * (a3 * C) := by
    refine Int.eq_of_mul_eq_mul_left n2 ?_
    rw [← z12, r1]; grind
  have r3 : C3 = a1 * a2 * C := by
    refine Int.eq_of_mul_eq_mul_left n3 ?_
    rw [← z3, hC]; grind
  subst r1 r2 r3
  exact ⟨a1, a2, a3, B, C, x1, eg.trans x2, ek.trans x3⟩
theorem Conc.tied12 {f g k : F3} {a1 a2 a3 B C : Int} (h : Conc f g k a1 a2 a3 B C) : Tied f g (a1 * a2, B, a3 * C) := ((tied_comp a1 a2 B (a3 * C)).act1 h.e1.symm).act2 h.e2.symm
theorem Conc.tied23 {f g k : F3} {a1 a2 a3 B C : Int} (h : Conc f g k a1 a2 a3 B C) : Tied g k (a2 * a3, B, a1 * C) := by
  have h0 := tied_comp a2 a3 B (a1 * C)
  have e1 : a3 * (a1 * C) = a1 * (a3 * C) := by grind
  have e2 : a2 * (a1 * C) = a1 * a2 * C := by grind
  rw [e1, e2] at h0
  exact (h0.act1 h.e2.symm).act2 h.e3.symm
theorem cmp_assoc {D : Int} {f g k : F3} (hf : RP D f) (hg : RP D g) (hk : RP D k) : cmp (cmp f g) k = cmp f (cmp g k) := by
  obtain ⟨a1, a2, a3, B, C, h⟩ := conc (by have := hf.hi; omega) hg.prim hk.prim hf.red.d hg.red.d hk.red.d
  have fg := cmp_rp hf hg
  have gk := cmp_rp hg hk
  have e12 : Eqv (cmp f g) (a1 * a2, B, a3 * C) := (cmp_tied hf hg).unique h.tied12 hf.prim
  have e23 : Eqv (cmp g k) (a2 * a3, B, a1 * C) := (cmp_tied hg hk).unique h.tied23 hg.prim
  have t1 : Tied (cmp f g) k (a1 * a2 * a3, B, C) := ((tied_comp (a1 * a2) a3 B C).act1 e12.symm).act2 h.e3.symm
  have t2 : Tied f (cmp g k) (a1 * a2 * a3, B, C) := by
    have h0 := tied_comp a1 (a2 * a3) B C
    have e1 : a2 * a3 * C = a2 * (a3 * C) := by grind
    have e2 : a1 * (a2 * a3) = a1 * a2 * a3 := by grind
    rw [e1, e2] at h0
    exact (h0.act1 h.e1.symm).act2 e23.symm
  exact rp_unique (cmp_rp fg hk) (cmp_rp hf gk) (((cmp_tied fg hk).unique t1 fg.prim).trans ((cmp_tied hf gk).unique t2 hf.prim).symm)
theorem cmp_comm {D : Int} {f g : F3} (hf : RP D f) (hg : RP D g) : cmp f g = cmp g f :=
  rp_unique (cmp_rp hf hg) (cmp_rp hg hf) ((cmp_tied hf hg).unique (cmp_tied hg hf).swap hf.prim)
end Go.Proofs.Ythcnaeahmdapbaa
