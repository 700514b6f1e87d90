/-
  Plain laws: the list of prime factors has all primes that divide, and nothing but primes. Conditions: none; nothing here speaks of the program.
-/
import Derived.Test.YtacomnelongbjaaPf
import Derived.Test.YtacomnelongbjaaGp0
namespace Go.Proofs.Ytacomnelongbjaa
open Go Go.RowKit
set_option maxRecDepth 100000
set_option linter.unusedSimpArgs false
set_option linter.unusedVariables false
set_option maxHeartbeats 4000000

/-- a number that is prime, as an integer -/
def IsI (x : Int) : Prop := ∃ q : Nat, IsP q ∧ x = q
theorem isI_of {x : Int} (h : 2 ≤ x) (hn : ∀ q, 2 ≤ q → q < x → x % q ≠ 0) : IsI x := by
  refine ⟨x.toNat, ⟨by omega, fun m hm => ?_⟩, by omega⟩
  by_cases h1 : m = 1
  · exact .inl h1
  · refine .inr ?_
    apply Classical.byContradiction
    intro h2
    have hle := Nat.le_of_dvd (by omega) hm
    have h0 : m ≠ 0 := fun e => by rw [e] at hm; have := Nat.eq_zero_of_zero_dvd hm; omega
    refine hn m (by omega) (by omega) ?_
    have hd : (m : Int) ∣ x := by
      have := Int.natCast_dvd_natCast.2 hm
      rw [show ((x.toNat : Nat) : Int) = x by omega] at this
      exact this
    exact Int.emod_eq_zero_of_dvd hd
theorem FcI.prime {n0 m p : Int} {acc : List Int} (h : FcI n0 m p acc) (hd : m % p = 0) : IsI p := by
  refine isI_of h.p2.1 fun q h1 h2 h3 => ?_
  exact h.ns q h1 h2 (dvd_tr hd h3)
theorem big_of {m p d : Int} (hm : 1 ≤ m) (hp : 2 ≤ p) (ns : NoSm m p) (hpp : ¬ p * p ≤ m) (h2 : 2 ≤ d) (hlt : d < m) (hd : m % d = 0) : False := by
  obtain ⟨k, hk⟩ := Int.dvd_of_emod_eq_zero hd
  have hk1 : 2 ≤ k := by
    apply Classical.byContradiction
    intro hc
    have : d * k ≤ d * 1 := Int.mul_le_mul_of_nonneg_left (by omega) (by omega)
    omega
  have hdp : p ≤ d := by
    apply Classical.byContradiction
    intro hc
    exact ns d h2 (by omega) hd
  have hkp : p ≤ k := by
    apply Classical.byContradiction
    intro hc
    refine ns k hk1 (by omega) ?_
    rw [hk]
    exact Int.mul_emod_left _ _
  have h3 : p * p ≤ d * k := Int.mul_le_mul hdp hkp (by omega) (by omega)
  omega
theorem p_dvd {q : Nat} {x : Int} (hq : IsP q) (hx : IsI x) (h : (q : Int) ∣ x) : x = q := by
  obtain ⟨r, hr, rfl⟩ := hx
  have h1 := Int.natCast_dvd_natCast.1 h
  rcases hr.2 q h1 with h2 | h2
  · have := hq.1; omega
  · rw [h2]
/-- what the list so far has -/
structure FcP (acc : List Int) (m : Int) (n0 : Int) : Prop where
  pr : ∀ x ∈ acc, IsI x
  co : ∀ q : Nat, IsP q → (q : Int) ∣ n0 → (q : Int) ∣ m ∨ (q : Int) ∈ acc
theorem FcP.inner {n0 m p : Int} {acc : List Int} (hI : FcI n0 m p acc) (h : FcP acc m n0) (hd : m % p = 0) : FcP (acc ++ [p]) (m / p) n0 := by
  have hp := hI.prime hd
  refine ⟨fun x hx => ?_, fun q hq hqn => ?_⟩
  · rw [List.mem_append, List.mem_singleton] at hx
    rcases hx with hx | rfl
    · exact h.pr x hx
    · exact hp
  · rcases h.co q hq hqn with h1 | h1
    · have e : m = p * (m / p) := by
        obtain ⟨k, hk⟩ := Int.dvd_of_emod_eq_zero hd
        have hp2 := hI.p2
        rw [hk, Int.mul_ediv_cancel_left _ (by omega)]
      rw [e] at h1
      rcases hq.imul h1 with h2 | h2
      · exact .inr (by rw [← p_dvd hq hp h2]; simp)
      · exact .inl h2
    · exact .inr (by simp [h1])
theorem fcp_inner : ∀ (k : Nat) (n0 m p : Int) (acc : List Int), m.toNat ≤ k → FcI n0 m p acc → FcP acc m n0 → FcP (fcIn m p acc).1 (fcIn m p acc).2 n0 := by
  intro k
  induction k with
  | zero =>
    intro n0 m p acc hk h
    have := h.m1
    omega
  | succ k ih =>
    intro n0 m p acc hk h hP
    have h1 := h.m1
    have h2 := h.p2
    rw [fcIn.eq_def]
    split
    · rename_i g
      have := div_lt_s h1 h2.1
      exact ih n0 (m / p) p (acc ++ [p]) (by omega) (h.inner g.2.2) (hP.inner h g.2.2)
    · exact hP
theorem FcP.fin {n0 m p : Int} {acc : List Int} (hI : FcI n0 m p acc) (h : FcP acc m n0) (hpp : ¬ p * p ≤ m) : (m > 1 → FcP (acc ++ [m]) 1 n0) ∧ (¬ m > 1 → FcP acc 1 n0) := by
  have hm := hI.m1
  have hp := hI.p2
  refine ⟨fun g => ?_, fun g => ?_⟩
  · have hmp : IsI m := isI_of (by omega) fun q h1 h2 h3 => big_of hm hp.1 hI.ns hpp h1 h2 h3
    refine ⟨fun x hx => ?_, fun q hq hqn => ?_⟩
    · rw [List.mem_append, List.mem_singleton] at hx
      rcases hx with hx | rfl
      · exact h.pr x hx
      · exact hmp
    · rcases h.co q hq hqn with h1 | h1
      · exact .inr (by rw [← p_dvd hq hmp h1]; simp)
      · exact .inr (by simp [h1])
  · have : m = 1 := by omega
    subst this
    exact h
theorem fcp_outer : ∀ (k : Nat) (n0 m p : Int) (acc : List Int), n0 ≤ 1000000000 → (m + 1 - p).toNat ≤ k → FcI n0 m p acc → FcP acc m n0 → FcP (fcOut m p acc) 1 n0 := by
  intro k
  induction k with
  | zero =>
    intro n0 m p acc h0 hk h hP
    have h1 := h.m1
    have h2 := h.p2
    have hpp : ¬ p * p ≤ m := by intro g; have := sqg2 h2.1; omega
    rw [fcOut.eq_def]
    rw [dif_neg (fun g => hpp g.2)]
    split
    · rename_i g
      exact (hP.fin h hpp).1 g
    · rename_i g
      exact (hP.fin h hpp).2 g
  | succ k ih =>
    intro n0 m p acc h0 hk h hP
    have h1 := h.m1
    have h2 := h.p2
    have hle := h.le
    rw [fcOut.eq_def]
    split
    · rename_i g
      have h3 := sql2 g.1 g.2 (by omega)
      have h4 := fcIn_le p _ m acc (Nat.le_refl _)
      have h5 := sqg2 g.1
      obtain ⟨h6, h7⟩ := fc_inner _ n0 m p acc (Nat.le_refl _) h
      exact ih n0 _ (p + 1) _ h0 (by omega) (h6.next h7 (by omega)) (fcp_inner _ n0 m p acc (Nat.le_refl _) h hP)
    · rename_i g
      have hpp : ¬ p * p ≤ m := fun hc => g ⟨h2.1, hc⟩
      split
      · rename_i g2
        exact (hP.fin h hpp).1 g2
      · rename_i g2
        exact (hP.fin h hpp).2 g2
theorem ps_prime {n : Int} (h : 1 ≤ n) (h2 : n ≤ 1000000000) : (∀ x ∈ psL n, IsI x) ∧ ∀ q : Nat, IsP q → (q : Int) ∣ n → (q : Int) ∈ psL n := by
  have hP := fcp_outer _ n n 2 [] h2 (Nat.le_refl _) (fc_start h) ⟨by simp, fun q hq hn => .inl hn⟩
  have hm := (ps_all h h2).mem
  refine ⟨fun x hx => hP.pr x ((hm x).1 hx), fun q hq hn => (hm q).2 ?_⟩
  rcases hP.co q hq hn with h1 | h1
  · exact absurd h1 (p_one hq)
  · exact h1
/-! ### square-free numbers -/
/-- no square above 1 divides -/
def SqF (a : Int) : Prop := ∀ p : Nat, IsP p → ¬ ((p : Int) * p ∣ a)
/-- a is the sign times the product of the primes that divide it -/
structure MkI (a o r : Int) (done : List Int) : Prop where
  pr : a = o * r
  r1 : 1 ≤ r
  od : ∀ q : Nat, IsP q → (q : Int) ∣ o → (q : Int) ∈ done
  rd : ∀ x ∈ done, ¬ x ∣ r
theorem MkI.step {a o r p : Int} {done : List Int} (h : MkI a o r done) (hp : IsI p) (hnd : p ∉ done) (hs : SqF a) : (p ∣ a → ∃ r', MkI a (o * p) r' (done ++ [p])) ∧ (¬ p ∣ a → MkI a o r (done ++ [p])) := by
  obtain ⟨q, hq, rfl⟩ := hp
  have h1 := h.pr
  refine ⟨fun hd => ?_, fun hd => ?_⟩
  · have hr : (q : Int) ∣ r := by
      rw [h1] at hd
      rcases hq.imul hd with h2 | h2
      · exact absurd (h.od q hq h2) hnd
      · exact h2
    obtain ⟨r', hr'⟩ := hr
    have hr1 := h.r1
    have hq1 := hq.1
    have hr'1 : 1 ≤ r' := by
      apply Classical.byContradiction
      intro hc
      have : (q : Int) * r' ≤ (q : Int) * 0 := Int.mul_le_mul_of_nonneg_left (by omega) (by omega)
      omega
    have hnr : ¬ (q : Int) ∣ r' := by
      rintro ⟨s, hs'⟩
      refine hs q hq ⟨o * s, ?_⟩
      rw [h1, hr', hs']; grind
    refine ⟨r', by rw [h1, hr']; grind, hr'1, fun s hs1 hs2 => ?_, fun x hx hxr => ?_⟩
    · rw [List.mem_append, List.mem_singleton]
      rcases hs1.imul hs2 with h2 | h2
      · exact .inl (h.od s hs1 h2)
      · exact .inr (p_dvd hs1 ⟨q, hq, rfl⟩ h2).symm
    · rw [List.mem_append, List.mem_singleton] at hx
      rcases hx with hx | rfl
      · exact h.rd x hx (by rw [hr']; exact Int.dvd_mul_of_dvd_right hxr)
      · exact hnr hxr
  · refine ⟨h1, h.r1, fun s hs1 hs2 => by rw [List.mem_append]; exact .inl (h.od s hs1 hs2), fun x hx hxr => ?_⟩
    rw [List.mem_append, List.mem_singleton] at hx
    rcases hx with hx | rfl
    · exact h.rd x hx hxr
    · exact hd (by rw [h1]; exact Int.dvd_mul_of_dvd_right hxr)
theorem MkI.end_ {a o r : Int} {done : List Int} (h : MkI a o r done) (hall : ∀ q : Nat, IsP q → (q : Int) ∣ a → (q : Int) ∈ done) : o = a := by
  have hr := h.r1
  have : r = 1 := by
    apply Classical.byContradiction
    intro hc
    obtain ⟨q, hq, hd⟩ := ex_p r.toNat (by omega)
    have hd' : (q : Int) ∣ r := by
      have := Int.natCast_dvd_natCast.2 hd
      rw [show ((r.toNat : Nat) : Int) = r by omega] at this
      exact this
    refine h.rd q (hall q hq ?_) hd'
    rw [h.pr]
    exact Int.dvd_mul_of_dvd_right hd'
  rw [h.pr, this, Int.mul_one]
/-! ### what a solution tells of the primes -/
theorem bezI {a p : Int} (h : Int.gcd a p = 1) : ∃ u, p ∣ a * u - 1 := by
  obtain ⟨u, v, huv⟩ := bez h
  exact ⟨u, -v, by grind⟩
theorem leg {A B C x y z : Int} {p : Nat} (hp : IsP p) (hA : (p : Int) ∣ A) (hAs : ¬ (p : Int) * p ∣ A) (hB : ¬ (p : Int) ∣ B) (hC : ¬ (p : Int) ∣ C) (h : A * x * x + B * y * y + C * z * z = 0) (hg : ¬ ((p : Int) ∣ x ∧ (p : Int) ∣ y ∧ (p : Int) ∣ z)) : ∃ r : Int, 0 ≤ r ∧ r < p ∧ (p : Int) ∣ r * r + B * C := by
  have hp1 := hp.1
  have hBC : (p : Int) ∣ B * y * y + C * z * z := by
    have h1 : (p : Int) ∣ A * x * x := by rw [Int.mul_assoc]; exact Int.dvd_mul_of_dvd_left hA
    have h2 : B * y * y + C * z * z = -(A * x * x) := by omega
    rw [h2]
    exact Int.dvd_neg.2 h1
  have hz : ¬ (p : Int) ∣ z := by
    intro hz
    have hy : (p : Int) ∣ y := by
      have h1 : (p : Int) ∣ C * z * z := Int.dvd_mul_of_dvd_right hz
      have h2 := Int.dvd_sub hBC h1
      rw [show B * y * y + C * z * z - C * z * z = B * (y * y) by grind] at h2
      rcases hp.imul h2 with h3 | h3
      · exact absurd h3 hB
      · rcases hp.imul h3 with h4 | h4 <;> exact h4
    obtain ⟨y', rfl⟩ := hy
    obtain ⟨z', rfl⟩ := hz
    obtain ⟨a', rfl⟩ := hA
    have h1 : (p : Int) * (a' * (x * x)) = (p : Int) * ((p : Int) * (-(B * y' * y' + C * z' * z'))) := by grind
    have h2 := Int.eq_of_mul_eq_mul_left (by omega) h1
    have h3 : (p : Int) ∣ a' * (x * x) := ⟨_, h2⟩
    rcases hp.imul h3 with h4 | h4
    · exact hAs (by rw [show (p : Int) * a' = (p : Int) * a' from rfl]; exact Int.mul_dvd_mul_left _ h4)
    · have hx : (p : Int) ∣ x := by rcases hp.imul h4 with h5 | h5 <;> exact h5
      exact hg ⟨hx, ⟨y', rfl⟩, ⟨z', rfl⟩⟩
  have hgz : Int.gcd z p = 1 := gcd_one_of_p (fun q hq h1 h2 => by
    have h3 := p_dvd hq ⟨p, hp, rfl⟩ h2
    exact hz (by rw [h3]; exact h1)) (by omega)
  obtain ⟨u, k, hu⟩ := bezI hgz
  refine ⟨(B * y * u) % p, Int.emod_nonneg _ (by omega), Int.emod_lt_of_pos _ (by omega), ?_⟩
  obtain ⟨j, hj⟩ := hBC
  have e := Int.emod_add_mul_ediv (B * y * u) p
  generalize B * y * u / (p : Int) = w at e
  generalize (B * y * u) % (p : Int) = r at *
  -- r = B y u - p w
  have hr : r = B * y * u - p * w := by omega
  -- z u = 1 + p k
  have hzu : z * u = 1 + p * k := by omega
  have e1 : r * r + B * C = (B * u * u) * (B * y * y + C * z * z) - B * C * ((z * u) * (z * u) - 1) + p * (p * (w * w) - 2 * (B * y * u) * w) := by rw [hr]; grind
  rw [e1, hj, hzu]
  refine ⟨B * u * u * j - B * C * (2 * k + p * (k * k)) + (p * (w * w) - 2 * (B * y * u) * w), ?_⟩
  grind
end Go.Proofs.Ytacomnelongbjaa
