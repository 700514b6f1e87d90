/-
  Plain laws: numbers without parts, and the part of a number that is prime to another one. Conditions: none; nothing here speaks of the program.
-/
import Derived.Test.YtacomnelongbjabGc
namespace Go.Proofs.Ytacomnelongbjab
open Go Go.RowKit
set_option maxRecDepth 100000
set_option linter.unusedSimpArgs false
set_option linter.unusedVariables false
set_option maxHeartbeats 4000000

/-- a number without parts -/
def IsP (q : Nat) : Prop := 2 ≤ q ∧ ∀ m, m ∣ q → m = 1 ∨ m = q
theorem ex_p : ∀ n : Nat, 2 ≤ n → ∃ q, IsP q ∧ q ∣ n := by
  intro n
  induction n using Nat.strongRecOn with
  | ind n ih =>
    intro h
    by_cases hp : IsP n
    · exact ⟨n, hp, Nat.dvd_refl n⟩
    · have : ∃ m, m ∣ n ∧ m ≠ 1 ∧ m ≠ n := by
        apply Classical.byContradiction
        intro hc
        exact hp ⟨h, fun m hm => by
          by_cases h1 : m = 1
          · exact .inl h1
          · by_cases h2 : m = n
            · exact .inr h2
            · exact absurd ⟨m, hm, h1, h2⟩ hc⟩
      obtain ⟨m, hm, h1, h2⟩ := this
      have hle := Nat.le_of_dvd (by omega) hm
      have h0 : m ≠ 0 := fun e => by rw [e] at hm; have := Nat.eq_zero_of_zero_dvd hm; omega
      obtain ⟨q, hq, hd⟩ := ih m (by omega) (by omega)
      exact ⟨q, hq, Nat.dvd_trans hd hm⟩
theorem IsP.cop {q a : Nat} (h : IsP q) (hd : ¬ q ∣ a) : Nat.gcd q a = 1 := by
  rcases h.2 (Nat.gcd q a) (Nat.gcd_dvd_left q a) with h1 | h1
  · exact h1
  · exact absurd (by rw [← h1]; exact Nat.gcd_dvd_right q a) hd
theorem IsP.mul {q a b : Nat} (h : IsP q) (hd : q ∣ a * b) : q ∣ a ∨ q ∣ b := by
  by_cases h1 : q ∣ a
  · exact .inl h1
  · exact .inr (Nat.Coprime.dvd_of_dvd_mul_left (h.cop h1) hd)
/-- over the integers -/
theorem IsP.imul {q : Nat} {a b : Int} (h : IsP q) (hd : (q : Int) ∣ a * b) : (q : Int) ∣ a ∨ (q : Int) ∣ b := by
  have h1 : q ∣ a.natAbs * b.natAbs := by rw [← Int.natAbs_mul]; exact Int.ofNat_dvd_left.1 hd
  rcases h.mul h1 with h2 | h2
  · exact .inl (Int.ofNat_dvd_left.2 h2)
  · exact .inr (Int.ofNat_dvd_left.2 h2)
/-- the part of n that is prime to a -/
def cpart (n a : Nat) : Nat := if _h : n = 0 ∨ Nat.gcd n a = 1 then n else cpart (n / Nat.gcd n a) a
  termination_by n
  decreasing_by
    have h0 : n ≠ 0 := fun e => _h (.inl e)
    have h1 : Nat.gcd n a ≠ 1 := fun e => _h (.inr e)
    have h2 : Nat.gcd n a ≠ 0 := fun e => h0 (Nat.eq_zero_of_gcd_eq_zero_left e)
    exact Nat.div_lt_self (by omega) (by omega)
theorem cpart_spec (a : Nat) : ∀ (m n : Nat), n ≤ m → n ≠ 0 → cpart n a ∣ n ∧ Nat.gcd (cpart n a) a = 1 ∧ ∀ q, IsP q → q ∣ n → ¬ q ∣ a → q ∣ cpart n a := by
  intro m
  induction m with
  | zero => intro n h h0; omega
  | succ m ih =>
    intro n h h0
    rw [cpart.eq_def]
    split
    · rename_i hc
      rcases hc with hc | hc
      · exact absurd hc h0
      · exact ⟨Nat.dvd_refl n, hc, fun q _ hq _ => hq⟩
    · rename_i hc
      have h1 : Nat.gcd n a ≠ 1 := fun e => hc (.inr e)
      have h2 : Nat.gcd n a ≠ 0 := fun e => h0 (Nat.eq_zero_of_gcd_eq_zero_left e)
      have hd := Nat.gcd_dvd_left n a
      have hlt : n / Nat.gcd n a < n := Nat.div_lt_self (by omega) (by omega)
      have hne : n / Nat.gcd n a ≠ 0 := by
        have := Nat.div_pos (Nat.le_of_dvd (by omega) hd) (by omega)
        omega
      obtain ⟨r1, r2, r3⟩ := ih (n / Nat.gcd n a) (by omega) hne
      refine ⟨Nat.dvd_trans r1 (Nat.div_dvd_of_dvd hd), r2, fun q hq hqn hqa => r3 q hq ?_ hqa⟩
      have e : n = Nat.gcd n a * (n / Nat.gcd n a) := (Nat.mul_div_cancel' hd).symm
      rw [e] at hqn
      rcases hq.mul hqn with h3 | h3
      · exact absurd (Nat.dvd_trans h3 (Nat.gcd_dvd_right n a)) hqa
      · exact h3
theorem gcd_one_of_p {a b : Int} (h : ∀ q : Nat, IsP q → (q : Int) ∣ a → (q : Int) ∣ b → False) (hb : b ≠ 0) : Int.gcd a b = 1 := by
  apply Classical.byContradiction
  intro hc
  have h0 : Int.gcd a b ≠ 0 := fun e => hb (Int.gcd_eq_zero_iff.1 e).2
  obtain ⟨q, hq, hd⟩ := ex_p (Int.gcd a b) (by omega)
  exact h q hq (Int.dvd_trans (Int.natCast_dvd_natCast.2 hd) (Int.gcd_dvd_left ..)) (Int.dvd_trans (Int.natCast_dvd_natCast.2 hd) (Int.gcd_dvd_right ..))
theorem p_one {q : Nat} (h : IsP q) : ¬ (q : Int) ∣ 1 := fun hd => by
  have := Int.le_of_dvd (by omega) hd
  have := h.1
  omega
theorem p_gcd {q : Nat} {a b : Int} (h : IsP q) (hg : Int.gcd a b = 1) (h1 : (q : Int) ∣ a) (h2 : (q : Int) ∣ b) : False := by
  have h3 := Int.dvd_coe_gcd h1 h2
  rw [hg] at h3
  exact p_one h h3
end Go.Proofs.Ytacomnelongbjab
