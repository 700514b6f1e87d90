/-
  Plain laws: the identity composes to what it is composed with, and the powers of a class come back to the identity. Conditions: none; nothing here speaks of the program.
-/
import Derived.Test.YthcnaeahmdapbaaPw
import Derived.Test.YthcnaeahmdapbaaGr0
namespace Go.Proofs.Ythcnaeahmdapbaa
open Go Go.RowKit
set_option maxRecDepth 100000
set_option linter.unusedSimpArgs false
set_option linter.unusedVariables false
set_option maxHeartbeats 4000000

theorem cmp_id {D : Int} {f : F3} (hf : RP D f) (h4 : D % 4 = 0 ∨ D % 4 = 1) : cmp (prI D) f = f := by
  have hp := pr_rp hf.lo hf.hi h4
  obtain ⟨e, B, c⟩ := f
  have h1 : Tied (1, B, e * c) (e, B, 1 * c) (1 * e, B, c) := tied_comp 1 e B c
  rw [Int.one_mul, Int.one_mul] at h1
  have hd := hf.dsc
  have hd' : B * B - 4 * (e * c) = D := by rw [← hd]; unfold dsc; grind
  have hpar : B % 2 = D % 2 := sq_par (k := e * c) (by omega)
  obtain ⟨ep, _⟩ := prI_eq ⟨by have := hf.lo; omega, hf.hi⟩ h4
  have h2 : Eqv (prI D) (1, B, e * c) := by
    refine ⟨(1, (B - D % 2) / 2, 0, 1), by simp [det], ?_⟩
    rw [ep, shift_act]
    have t1 : 2 * ((B - D % 2) / 2) = B - D % 2 := by omega
    have t2 : 4 * ((D % 2 - D) / 4) = D % 2 - D := by omega
    generalize (B - D % 2) / 2 = t at *
    generalize (D % 2 - D) / 4 = u at *
    have hb : D % 2 = 0 ∨ D % 2 = 1 := by omega
    have hB : B = D % 2 + 2 * t := by omega
    have hbb : (D % 2) * (D % 2) = D % 2 := by rcases hb with h | h <;> rw [h] <;> rfl
    generalize D % 2 = b at *
    simp only [Prod.mk.injEq]
    refine ⟨trivial, by omega, ?_⟩
    have k1 : B * B = b * b + 4 * (b * t) + 4 * (t * t) := by rw [hB]; grind
    have k2 : 1 * t * t + b * t + u = t * t + b * t + u := by grind
    rw [k2]
    omega
  have h3 := (cmp_tied hp hf).unique (h1.act1 h2.symm) hp.prim
  exact rp_unique (cmp_rp hp hf) hf h3
theorem nodup_le {α : Type} [DecidableEq α] : ∀ (l L : List α), l.Nodup → (∀ x ∈ l, x ∈ L) → l.length ≤ L.length
  | [], L, _, _ => by simp
  | a :: l, L, hn, hs => by
    rw [List.nodup_cons] at hn
    have ha := hs a (by simp)
    have ih := nodup_le l (L.erase a) hn.2 fun x hx => by
      have hne : x ≠ a := fun e => hn.1 (e ▸ hx)
      exact (List.mem_erase_of_ne hne).2 (hs x (by simp [hx]))
    rw [List.length_erase_of_mem ha] at ih
    have : 0 < L.length := List.length_pos_of_mem ha
    simp only [List.length_cons]
    omega
theorem pigeon {α : Type} [DecidableEq α] (L : List α) (s : Nat → α) (h : ∀ n, s n ∈ L) : ∃ i j, i < j ∧ j ≤ L.length ∧ s i = s j := by
  apply Classical.byContradiction
  intro hno
  have hnd : ((List.range (L.length + 1)).map s).Nodup := by
    rw [List.Nodup, List.pairwise_map]
    exact (List.pairwise_lt_range).imp_of_mem fun {a b} _ hb hab he => hno ⟨a, b, hab, by have := List.mem_range.1 hb; omega, he⟩
  have hle := nodup_le _ L hnd fun x hx => by
    obtain ⟨n, _, rfl⟩ := List.mem_map.1 hx
    exact h n
  simp at hle
  omega
theorem least {P : Nat → Prop} : ∀ n, P n → ∃ m, m ≤ n ∧ P m ∧ ∀ i, i < m → ¬ P i := by
  intro n
  induction n using Nat.strongRecOn with
  | ind n ih =>
    intro hn
    by_cases h : ∃ i, i < n ∧ P i
    · obtain ⟨i, hi, hp⟩ := h
      obtain ⟨m, h1, h2, h3⟩ := ih i hi hp
      exact ⟨m, by omega, h2, h3⟩
    · exact ⟨n, Nat.le_refl n, hn, fun i hi hp => h ⟨i, hi, hp⟩⟩
/-- the orbit of f: f, f∘f, .. -/
def orb (f : F3) : Nat → F3
  | 0 => f
  | n + 1 => cmp (orb f n) f
theorem orb_rp {D : Int} {f : F3} (hf : RP D f) : ∀ n, RP D (orb f n)
  | 0 => hf
  | n + 1 => cmp_rp (orb_rp hf n) hf
/-- THE POWERS COME BACK. -/
theorem orb_end {D : Int} {f : F3} (hf : RP D f) (h4 : D % 4 = 0 ∨ D % 4 = 1) : ∃ n, n < (redF D).length ∧ orb f n = prI D := by
  have hp := pr_rp hf.lo hf.hi h4
  let s : Nat → F3 := fun n => match n with | 0 => prI D | n + 1 => orb f n
  have hs : ∀ n, RP D (s n) := fun n => by cases n with | zero => exact hp | succ n => exact orb_rp hf n
  have hsn : ∀ n, s (n + 1) = cmp (s n) f := fun n => by
    cases n with
    | zero => exact (cmp_id hf h4).symm
    | succ n => rfl
  obtain ⟨i, j, hij, hj, he⟩ := pigeon (redF D) s fun n => rp_mem (hs n)
  have down : ∀ (i k : Nat), s i = s (i + k) → s 0 = s k := by
    intro i
    induction i with
    | zero => intro k h; rw [Nat.zero_add] at h; exact h
    | succ i ih =>
      intro k h
      have e1 : i + 1 + k = (i + k) + 1 := by omega
      rw [e1, hsn, hsn] at h
      exact ih k (cmp_inj (hs i) (hs (i + k)) hf h)
  have h0 := down i (j - i) (by rw [show i + (j - i) = j by omega]; exact he)
  obtain ⟨n, hn⟩ : ∃ n, j - i = n + 1 := ⟨j - i - 1, by omega⟩
  rw [hn] at h0
  exact ⟨n, by omega, h0.symm⟩
/-- the place at which the orbit of f meets the identity first -/
def OrdAt (D : Int) (f : F3) (n : Nat) : Prop := orb f n = prI D ∧ ∀ i, i < n → orb f i ≠ prI D
theorem ordAt_unique {D : Int} {f : F3} {m n : Nat} (h1 : OrdAt D f m) (h2 : OrdAt D f n) : m = n := by
  rcases Nat.lt_trichotomy m n with h | h | h
  · exact absurd h1.1 (h2.2 m h)
  · exact h
  · exact absurd h2.1 (h1.2 n h)
theorem ord_ex {D : Int} {f : F3} (hf : RP D f) (h4 : D % 4 = 0 ∨ D % 4 = 1) : ∃ n, n < (redF D).length ∧ OrdAt D f n := by
  obtain ⟨n, hn, h⟩ := orb_end hf h4
  obtain ⟨m, h1, h2, h3⟩ := least (P := fun n => orb f n = prI D) n h
  exact ⟨m, by omega, h2, h3⟩
open Classical in
noncomputable def ordN (D : Int) (f : F3) : Nat := if h : ∃ n, OrdAt D f n then Classical.choose h else 0
theorem ordN_eq {D : Int} {f : F3} {n : Nat} (h : OrdAt D f n) : ordN D f = n := by
  unfold ordN
  rw [dif_pos ⟨n, h⟩]
  exact ordAt_unique (Classical.choose_spec (p := fun n => OrdAt D f n) ⟨n, h⟩) h
end Go.Proofs.Ythcnaeahmdapbaa
