/-
  Lists of prime factors, in plain terms and as contracts of both sides. Conditions: none.
-/
import Derived.Test.YtacomnelongbjabJac
namespace Go.Proofs.Ytacomnelongbjab
open Go Go.RowKit
set_option maxRecDepth 100000
set_option linter.unusedSimpArgs false
set_option linter.unusedVariables false
set_option maxHeartbeats 4000000

theorem div_lt_s {n p : Int} (hn : 1 ≤ n) (hp : 2 ≤ p) : n / p < n ∧ 0 ≤ n / p := by
  have h1 : n * 2 ≤ n * p := Int.mul_le_mul_of_nonneg_left hp (by omega)
  exact ⟨Int.ediv_lt_of_lt_mul (by omega) (by omega), Int.ediv_nonneg (by omega) (by omega)⟩
def fcIn (n p : Int) (acc : List Int) : List Int × Int := if _h : 1 ≤ n ∧ 2 ≤ p ∧ n % p = 0 then fcIn (n / p) p (acc ++ [p]) else (acc, n)
  termination_by n.toNat
  decreasing_by
    have := div_lt_s _h.1 _h.2.1
    omega
theorem fcIn_le (p : Int) : ∀ (m : Nat) (n : Int) (acc : List Int), n.toNat ≤ m → (fcIn n p acc).2 ≤ n := by
  intro m
  induction m with
  | zero =>
    intro n acc h
    rw [fcIn.eq_def, dif_neg (by omega)]
    exact Int.le_refl _
  | succ m ih =>
    intro n acc h
    rw [fcIn.eq_def]
    split
    · rename_i g
      have := div_lt_s g.1 g.2.1
      have := ih (n / p) (acc ++ [p]) (by omega)
      omega
    · exact Int.le_refl _
theorem sqg2 {p : Int} (h : 2 ≤ p) : p * 2 ≤ p * p := Int.mul_le_mul_of_nonneg_left h (by omega)
def fcOut (n p : Int) (acc : List Int) : List Int := if _h : 2 ≤ p ∧ p * p ≤ n then fcOut (fcIn n p acc).2 (p + 1) (fcIn n p acc).1 else if n > 1 then acc ++ [n] else acc
  termination_by (n + 1 - p).toNat
  decreasing_by
    have h1 := fcIn_le p _ n acc (Nat.le_refl _)
    have h2 := sqg2 _h.1
    omega
def fcL (n : Int) : List Int := fcOut n 2 []
theorem pow2_nn (n : Nat) : (0 : Int) ≤ 2 ^ n := by
  induction n with
  | zero => simp
  | succ n ih => rw [Int.pow_succ]; omega
/-- nothing below p divides n -/
def NoSm (n p : Int) : Prop := ∀ q, 2 ≤ q → q < p → n % q ≠ 0
theorem dvd_sm {n p q : Int} (hq : 2 ≤ q) (hp : p ≠ 0) (h : n % p = 0) (h2 : (n / p) % q = 0) : n % q = 0 := by
  obtain ⟨k, hk⟩ := Int.dvd_of_emod_eq_zero h
  rw [hk, Int.mul_ediv_cancel_left _ hp] at h2
  obtain ⟨j, hj⟩ := Int.dvd_of_emod_eq_zero h2
  rw [hk, hj, show p * (q * j) = q * (p * j) by grind]
  exact Int.mul_emod_right _ _
/-- what is found so far: every element at least 2 and at most n0, odd or 2, below p; the list rises weakly -/
structure FcI (n0 m p : Int) (acc : List Int) : Prop where
  m1 : 1 ≤ m
  p2 : 2 ≤ p ∧ p ≤ 40000
  ns : NoSm m p
  pow : 2 ^ acc.length * m ≤ n0
  el : ∀ x ∈ acc, 2 ≤ x ∧ x ≤ p ∧ (x = 2 ∨ x % 2 = 1) ∧ x ≤ n0 ∧ n0 % x = 0
  so : acc.Pairwise (· ≤ ·)
  dv : n0 % m = 0
theorem FcI.le {n0 m p : Int} {acc : List Int} (h : FcI n0 m p acc) : m ≤ n0 ∧ (acc.length : Int) < n0 + 1 := by
  have h1 := h.pow
  have h2 := h.m1
  have h3 : (acc.length : Int) < 2 ^ acc.length := by
    have := Nat.lt_two_pow_self (n := acc.length)
    have e : ((2 ^ acc.length : Nat) : Int) = (2 : Int) ^ acc.length := by simp
    omega
  have h4 : (1 : Int) ≤ 2 ^ acc.length := by omega
  have h5 : (2 : Int) ^ acc.length * 1 ≤ 2 ^ acc.length * m := Int.mul_le_mul_of_nonneg_left h2 (by omega)
  have h6 : 1 * m ≤ 2 ^ acc.length * m := Int.mul_le_mul_of_nonneg_right h4 (by omega)
  omega
theorem FcI.odd {n0 m p : Int} {acc : List Int} (h : FcI n0 m p acc) (hd : m % p = 0) : p = 2 ∨ p % 2 = 1 := by
  by_cases h2 : p = 2
  · exact .inl h2
  · refine .inr ?_
    have hp := h.p2
    have h3 := h.ns 2 (by omega) (by omega)
    obtain ⟨k, hk⟩ := Int.dvd_of_emod_eq_zero hd
    by_cases h4 : p % 2 = 1
    · exact h4
    · exfalso
      obtain ⟨j, hj⟩ := Int.dvd_of_emod_eq_zero (show p % 2 = 0 by omega)
      apply h3
      rw [hk, hj, Int.mul_assoc]
      exact Int.mul_emod_right _ _
theorem dvd_tr {a b c : Int} (h1 : a % b = 0) (h2 : b % c = 0) : a % c = 0 :=
  Int.emod_eq_zero_of_dvd (Int.dvd_trans (Int.dvd_of_emod_eq_zero h2) (Int.dvd_of_emod_eq_zero h1))
theorem FcI.inner {n0 m p : Int} {acc : List Int} (h : FcI n0 m p acc) (hd : m % p = 0) : FcI n0 (m / p) p (acc ++ [p]) := by
  have hp := h.p2
  have hm := h.m1
  obtain ⟨k, hk⟩ := Int.dvd_of_emod_eq_zero hd
  have hq : m / p = k := by rw [hk, Int.mul_ediv_cancel_left _ (by omega)]
  have hk1 : 1 ≤ k := by
    apply Classical.byContradiction
    intro hc
    have : p * k ≤ p * 0 := Int.mul_le_mul_of_nonneg_left (by omega) (by omega)
    omega
  have h2 : 2 * k ≤ p * k := Int.mul_le_mul_of_nonneg_right hp.1 (by omega)
  have hpos : (0 : Int) ≤ 2 ^ acc.length := pow2_nn _
  refine ⟨by omega, hp, fun q h3 h4 h5 => h.ns q h3 h4 (dvd_sm h3 (by omega) hd h5), ?_, fun x hx => ?_, ?_, ?_⟩
  · rw [hq, List.length_append, List.length_singleton, Int.pow_succ, Int.mul_assoc]
    have h3 := h.pow
    have h4 : 2 ^ acc.length * (2 * k) ≤ 2 ^ acc.length * m := Int.mul_le_mul_of_nonneg_left (by omega) hpos
    omega
  · rw [List.mem_append, List.mem_singleton] at hx
    rcases hx with hx | rfl
    · exact h.el x hx
    · have := h.le
      have h6 : x * 1 ≤ x * k := Int.mul_le_mul_of_nonneg_left hk1 (by omega)
      exact ⟨hp.1, Int.le_refl _, h.odd hd, by omega, dvd_tr h.dv hd⟩
  · rw [List.pairwise_append]
    exact ⟨h.so, by simp, fun x hx y hy => by rw [List.mem_singleton] at hy; subst hy; exact (h.el x hx).2.1⟩
  · refine dvd_tr h.dv ?_
    rw [hq, hk]
    exact Int.mul_emod_left _ _
theorem FcI.next {n0 m p : Int} {acc : List Int} (h : FcI n0 m p acc) (hd : ¬ m % p = 0) (hp : p < 40000) : FcI n0 m (p + 1) acc := by
  have h1 := h.p2
  refine ⟨h.m1, ⟨by omega, by omega⟩, fun q h3 h4 => ?_, h.pow, fun x hx => ?_, h.so, h.dv⟩
  · by_cases h5 : q = p
    · subst h5; exact hd
    · exact h.ns q h3 (by omega)
  · have := h.el x hx
    exact ⟨this.1, by omega, this.2.2⟩
theorem sql2 {p n : Int} (hp : 2 ≤ p) (h : p * p ≤ n) (hn : n ≤ 1000000000) : p ≤ 31700 := by
  apply Classical.byContradiction
  intro hc
  have h1 : 31701 * p ≤ p * p := Int.mul_le_mul_of_nonneg_right (by omega) (by omega)
  omega
/-- the whole list -/
structure FcE (n0 : Int) (l : List Int) : Prop where
  el : ∀ x ∈ l, 2 ≤ x ∧ (x = 2 ∨ x % 2 = 1) ∧ x ≤ n0 ∧ n0 % x = 0
  so : l.Pairwise (· ≤ ·)
  pow : 2 ^ l.length ≤ n0
theorem FcE.len2 {n0 : Int} {l : List Int} (h : FcE n0 l) (h2 : n0 ≤ 1000000000) : l.length ≤ 1000000000 := by
  have h1 := h.pow
  have h3 := Nat.lt_two_pow_self (n := l.length)
  have e : ((2 ^ l.length : Nat) : Int) = (2 : Int) ^ l.length := by simp
  omega
theorem FcI.last {n0 m p : Int} {acc : List Int} (h : FcI n0 m p acc) (hp : ¬ p * p ≤ m) (hm : m > 1) : FcE n0 (acc ++ [m]) := by
  have h1 := h.p2
  have h2 := h.m1
  have hge : p ≤ m := by
    apply Classical.byContradiction
    intro hc
    exact h.ns m (by omega) (by omega) Int.emod_self
  have hodd : m = 2 ∨ m % 2 = 1 := by
    by_cases g : p = 2
    · subst g; omega
    · have := h.ns 2 (by omega) (by omega)
      omega
  have hle := h.le
  refine ⟨fun x hx => ?_, ?_, ?_⟩
  · rw [List.mem_append, List.mem_singleton] at hx
    rcases hx with hx | rfl
    · have := h.el x hx
      exact ⟨this.1, this.2.2.1, this.2.2.2⟩
    · exact ⟨by omega, hodd, hle.1, h.dv⟩
  · rw [List.pairwise_append]
    exact ⟨h.so, by simp, fun x hx y hy => by rw [List.mem_singleton] at hy; subst hy; have := (h.el x hx).2.1; omega⟩
  · rw [List.length_append, List.length_singleton, Int.pow_succ]
    have h3 := h.pow
    have hpos : (0 : Int) ≤ 2 ^ acc.length := pow2_nn _
    have h4 : 2 ^ acc.length * 2 ≤ 2 ^ acc.length * m := Int.mul_le_mul_of_nonneg_left (by omega) hpos
    omega
theorem FcI.end_ {n0 m p : Int} {acc : List Int} (h : FcI n0 m p acc) : FcE n0 acc := by
  refine ⟨fun x hx => by have := h.el x hx; exact ⟨this.1, this.2.2.1, this.2.2.2⟩, h.so, ?_⟩
  have h3 := h.pow
  have h2 := h.m1
  have hpos : (0 : Int) ≤ 2 ^ acc.length := pow2_nn _
  have h4 : 2 ^ acc.length * 1 ≤ 2 ^ acc.length * m := Int.mul_le_mul_of_nonneg_left h2 hpos
  omega
theorem fc_inner : ∀ (k : Nat) (n0 m p : Int) (acc : List Int), m.toNat ≤ k → FcI n0 m p acc → FcI n0 (fcIn m p acc).2 p (fcIn m p acc).1 ∧ ¬ (fcIn m p acc).2 % p = 0 := by
  intro k
  induction k with
  | zero =>
    intro n0 m p acc hk h
    have := h.m1
    omega
  | succ k ih =>
    intro n0 m p acc hk h
    have h1 := h.m1
    have h2 := h.p2
    rw [fcIn.eq_def]
    split
    · rename_i g
      have := div_lt_s h1 h2.1
      exact ih n0 (m / p) p (acc ++ [p]) (by omega) (h.inner g.2.2)
    · rename_i g
      exact ⟨h, fun hc => g ⟨h1, h2.1, hc⟩⟩
theorem fc_outer : ∀ (k : Nat) (n0 m p : Int) (acc : List Int), n0 ≤ 1000000000 → (m + 1 - p).toNat ≤ k → FcI n0 m p acc → FcE n0 (fcOut m p acc) := by
  intro k
  induction k with
  | zero =>
    intro n0 m p acc h0 hk h
    have h1 := h.m1
    have h2 := h.p2
    rw [fcOut.eq_def]
    rw [dif_neg (by intro g; have := sqg2 g.1; omega)]
    split
    · rename_i g
      exact h.last (by intro g; have := sqg2 h2.1; omega) g
    · exact h.end_
  | succ k ih =>
    intro n0 m p acc h0 hk h
    have h1 := h.m1
    have h2 := h.p2
    have hle := h.le
    rw [fcOut.eq_def]
    split
    · rename_i g
      have h3 := sql2 g.1 g.2 (by omega)
      have h4 := fcIn_le p _ m acc (Nat.le_refl _)
      have h5 := sqg2 g.1
      obtain ⟨h6, h7⟩ := fc_inner _ n0 m p acc (Nat.le_refl _) h
      exact ih n0 _ (p + 1) _ h0 (by omega) (h6.next h7 (by omega))
    · rename_i g
      split
      · rename_i g2
        exact h.last (fun hc => g ⟨h2.1, hc⟩) g2
      · exact h.end_
theorem fc_start {n : Int} (h : 1 ≤ n) : FcI n n 2 [] := ⟨h, ⟨by omega, by omega⟩, fun q h1 h2 => by omega, by simp, by simp, List.Pairwise.nil, Int.emod_self⟩
theorem fc_all {n : Int} (h : 1 ≤ n) (h2 : n ≤ 1000000000) : FcE n (fcL n) := fc_outer _ n n 2 [] h2 (Nat.le_refl _) (fc_start h)
/-! ### each prime once -/
def putI (l : List Int) (n : Int) : List Int := if l.getLast? = some n then l else l ++ [n]
def psL (n : Int) : List Int := (fcL n).foldl putI []
/-- strictly rising, all at most n -/
structure Ris (l : List Int) (n : Int) : Prop where
  so : l.Pairwise (· < ·)
  le : ∀ x ∈ l, x ≤ n
theorem putL_len (l : List Int) (n : Int) : (putI l n).length ≤ l.length + 1 := by
  unfold putI
  split <;> simp
theorem Ris.put {l : List Int} {n : Int} (h : Ris l n) : Ris (putI l n) n := by
  unfold putI
  split
  · exact h
  · rename_i hne
    refine ⟨?_, fun x hx => ?_⟩
    · rw [List.pairwise_append]
      refine ⟨h.so, by simp, fun x hx y hy => ?_⟩
      rw [List.mem_singleton] at hy; subst hy
      have h1 := h.le x hx
      apply Classical.byContradiction
      intro hc
      have hxy : x = y := by omega
      subst hxy
      apply hne
      -- x is in l and nothing in l is above it: it is the last one
      obtain ⟨i, hi, hix⟩ := List.mem_iff_getElem.1 hx
      have hl : i = l.length - 1 := by
        apply Classical.byContradiction
        intro hc2
        have h2 := List.pairwise_iff_getElem.1 h.so i (l.length - 1) hi (by omega) (by omega)
        have h3 := h.le l[l.length - 1] (List.getElem_mem _)
        omega
      rw [List.getLast?_eq_getElem?, ← hl, List.getElem?_eq_getElem hi, hix]
    · rw [List.mem_append, List.mem_singleton] at hx
      rcases hx with hx | rfl
      · exact h.le x hx
      · omega
theorem Ris.mono {l : List Int} {n m : Int} (h : Ris l n) (hm : n ≤ m) : Ris l m := ⟨h.so, fun x hx => by have := h.le x hx; omega⟩
theorem putL_mem {l : List Int} {n x : Int} (h : x ∈ putI l n) : x ∈ l ∨ x = n := by
  unfold putI at h
  split at h
  · exact .inl h
  · simpa using h
theorem mem_putL {l : List Int} {n x : Int} (h : x ∈ l ∨ x = n) : x ∈ putI l n := by
  unfold putI
  split
  · rename_i hl
    rcases h with h | rfl
    · exact h
    · exact List.mem_of_getLast? hl
  · simpa using h
theorem fold_put : ∀ (l acc : List Int) (n : Int), Ris acc n → (∀ x ∈ l, n ≤ x) → l.Pairwise (· ≤ ·) → ∃ m, Ris (l.foldl putI acc) m ∧ (∀ x, x ∈ l.foldl putI acc ↔ x ∈ acc ∨ x ∈ l) ∧ (l.foldl putI acc).length ≤ acc.length + l.length
  | [], acc, n, h, _, _ => ⟨n, h, by simp, by simp⟩
  | a :: l, acc, n, h, hl, hp => by
    rw [List.pairwise_cons] at hp
    obtain ⟨m, h1, h2, h3⟩ := fold_put l (putI acc a) a (h.mono (hl a (by simp))).put (fun x hx => hp.1 x hx) hp.2
    refine ⟨m, h1, fun x => ?_, ?_⟩
    · rw [List.foldl_cons, h2, List.mem_cons]
      constructor
      · rintro (h4 | h4)
        · rcases putL_mem h4 with h5 | h5
          · exact .inl h5
          · exact .inr (.inl h5)
        · exact .inr (.inr h4)
      · rintro (h4 | h4 | h4)
        · exact .inl (mem_putL (.inl h4))
        · exact .inl (mem_putL (.inr h4))
        · exact .inr h4
    · have := putL_len acc a
      simp only [List.foldl_cons, List.length_cons]
      omega
theorem fold_take {l : List Int} {n : Nat} (h : n < l.length) (acc : List Int) : (l.take (n + 1)).foldl putI acc = putI ((l.take n).foldl putI acc) (l.getD n 0) := by
  have e : l.take (n + 1) = l.take n ++ [l.getD n 0] := by rw [List.take_add_one]; simp [List.getD_eq_getElem?_getD, h]
  rw [e, List.foldl_append]; rfl
structure PsE (n : Int) : Prop where
  el : ∀ x ∈ psL n, 2 ≤ x ∧ (x = 2 ∨ x % 2 = 1) ∧ x ≤ n ∧ n % x = 0
  so : (psL n).Pairwise (· < ·)
  len : (psL n).length ≤ (fcL n).length
  mem : ∀ x, x ∈ psL n ↔ x ∈ fcL n
theorem ps_all {n : Int} (h : 1 ≤ n) (h2 : n ≤ 1000000000) : PsE n := by
  have hf := fc_all h h2
  obtain ⟨m, h3, h4, h5⟩ := fold_put (fcL n) [] 0 ⟨List.Pairwise.nil, by simp⟩ (fun x hx => by have := (hf.el x hx).1; omega) hf.so
  have hm : ∀ x, x ∈ psL n ↔ x ∈ fcL n := fun x => by unfold psL; rw [h4]; simp
  exact ⟨fun x hx => hf.el x ((hm x).1 hx), h3.so, by unfold psL; simpa using h5, hm⟩
/-- what the fold has at hand behind its first elements -/
theorem fold_ris {l : List Int} (hp : l.Pairwise (· ≤ ·)) {n : Nat} (h : n < l.length) (h0 : ∀ x ∈ l, 0 ≤ x) : Ris ((l.take n).foldl putI []) (l.getD n 0) ∧ ((l.take n).foldl putI []).length ≤ n := by
  obtain ⟨m, h3, h4, h5⟩ := fold_put (l.take n) [] 0 ⟨List.Pairwise.nil, by simp⟩ (fun x hx => h0 x (List.mem_of_mem_take hx)) (hp.sublist (List.take_sublist _ _))
  refine ⟨⟨h3.so, fun x hx => ?_⟩, ?_⟩
  · have := (h4 x).1 hx
    simp only [List.not_mem_nil, false_or] at this
    obtain ⟨i, hi, hix⟩ := List.mem_iff_getElem.1 this
    rw [List.length_take] at hi
    rw [List.getElem_take] at hix
    have hh := List.pairwise_iff_getElem.1 hp i n (by omega) h (by omega)
    rw [← hix]
    simp only [List.getD_eq_getElem?_getD, List.getElem?_eq_getElem h, Option.getD_some]
    exact hh
  · simp only [List.length_nil, List.length_take] at h5
    omega
end Go.Proofs.Ytacomnelongbjab
