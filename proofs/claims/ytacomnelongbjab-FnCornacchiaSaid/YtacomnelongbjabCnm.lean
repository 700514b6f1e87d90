/-
  Plain laws: how many triples solve a form in three variables modulo a prime. Conditions: none.
-/
import Derived.Test.YtacomnelongbjabPrm
namespace Go.Proofs.Ytacomnelongbjab
open Go Go.RowKit
set_option maxRecDepth 100000
set_option linter.unusedSimpArgs false
set_option linter.unusedVariables false
set_option maxHeartbeats 4000000

def sumN : Nat → (Nat → Nat) → Nat
  | 0, _ => 0
  | n + 1, f => sumN n f + f n
theorem sumN_ext {n : Nat} {f g : Nat → Nat} (h : ∀ i, i < n → f i = g i) : sumN n f = sumN n g := by
  induction n with
  | zero => rfl
  | succ n ih => rw [sumN, sumN, ih (fun i hi => h i (by omega)), h n (by omega)]
theorem sumN_mulL (n : Nat) (f : Nat → Nat) (k : Nat) : k * sumN n f = sumN n fun i => k * f i := by
  induction n with
  | zero => rfl
  | succ n ih => rw [sumN, sumN, Nat.mul_add, ih]
theorem sumN_mulR (n : Nat) (f : Nat → Nat) (k : Nat) : sumN n f * k = sumN n fun i => f i * k := by
  induction n with
  | zero => simp [sumN]
  | succ n ih => rw [sumN, sumN, Nat.add_mul, ih]
theorem sumN_add (n : Nat) (f g : Nat → Nat) : (sumN n fun i => f i + g i) = sumN n f + sumN n g := by
  induction n with
  | zero => rfl
  | succ n ih => simp only [sumN]; rw [ih]; omega
theorem sumN_const (n k : Nat) : (sumN n fun _ => k) = n * k := by
  induction n with
  | zero => simp [sumN]
  | succ n ih => rw [sumN, ih, Nat.succ_mul]
/-- a sum of powers of X, of which n are the j-th -/
def Dig (X j S n k : Nat) : Prop := ∃ lo hi, S = lo + X ^ j * (n + X * hi) ∧ lo * X ≤ k * X ^ j ∧ n ≤ k
theorem Dig.add {X j S n k S' n' k' : Nat} (h : Dig X j S n k) (h' : Dig X j S' n' k') : Dig X j (S + S') (n + n') (k + k') := by
  obtain ⟨lo, hi, h1, h2, h3⟩ := h
  obtain ⟨lo', hi', h1', h2', h3'⟩ := h'
  refine ⟨lo + lo', hi + hi', ?_, ?_, by omega⟩
  · rw [h1, h1']; simp only [Nat.mul_add]; omega
  · rw [Nat.add_mul, Nat.add_mul]; omega
theorem Dig.sum {X j : Nat} {n : Nat} {f g k : Nat → Nat} (h : ∀ i, i < n → Dig X j (f i) (g i) (k i)) : Dig X j (sumN n f) (sumN n g) (sumN n k) := by
  induction n with
  | zero => exact ⟨0, 0, by simp [sumN], by simp, Nat.le_refl _⟩
  | succ n ih => exact (ih fun i hi => h i (by omega)).add (h n (by omega))
theorem Dig.pow {X : Nat} (hX : 0 < X) (j e : Nat) : Dig X j (X ^ e) (if e = j then 1 else 0) 1 := by
  rcases Nat.lt_trichotomy e j with h | h | h
  · refine ⟨X ^ e, 0, by simp [show e ≠ j by omega], ?_, by simp [show e ≠ j by omega]⟩
    rw [← Nat.pow_succ, Nat.one_mul]
    exact Nat.pow_le_pow_right hX (by omega)
  · exact ⟨0, 0, by simp [h], by simp, by simp [h]⟩
  · refine ⟨0, X ^ (e - j - 1), ?_, by simp, by simp [show e ≠ j by omega]⟩
    have : X ^ e = X ^ j * (X * X ^ (e - j - 1)) := by
      rw [← Nat.pow_succ', ← Nat.pow_add]
      congr 1; omega
    simp [show e ≠ j by omega, this]
theorem Dig.get {X j S n k : Nat} (h : Dig X j S n k) (hk : k < X) : S / X ^ j % X = n := by
  obtain ⟨lo, hi, h1, h2, h3⟩ := h
  have hX : 0 < X ^ j := Nat.pow_pos (by omega)
  have hlo : lo < X ^ j := by
    apply Nat.lt_of_not_le
    intro hc
    have h4 : X ^ j * X ≤ lo * X := Nat.mul_le_mul_right _ hc
    have h5 : k * X ^ j < X * X ^ j := Nat.mul_lt_mul_of_pos_right hk hX
    rw [Nat.mul_comm X] at h5
    omega
  rw [h1, Nat.add_mul_div_left _ _ hX, Nat.div_eq_of_lt hlo, Nat.zero_add, Nat.add_mul_mod_self_left, Nat.mod_eq_of_lt (by omega)]
/-- the number of triples of a form modulo p -/
def cn1 (p B C : Nat) : Nat := sumN p fun x => sumN p fun y => sumN p fun z => if (x * x + B * (y * y) + C * (z * z)) % p = 0 then 1 else 0
def X15 : Nat := 32768
def thP (p B : Nat) : Nat := sumN p fun y => X15 ^ (B * (y * y) % p)
theorem cn1_dig {p B C : Nat} (hp : 0 < p) (hp3 : p * (p * (p * 1)) < X15) :
    cn1 p B C = thP p 1 * thP p B * thP p C / X15 ^ 0 % X15 + thP p 1 * thP p B * thP p C / X15 ^ p % X15 + thP p 1 * thP p B * thP p C / X15 ^ (2 * p) % X15 := by
  have hX : 0 < X15 := by decide
  have e : thP p 1 * thP p B * thP p C = sumN p fun x => sumN p fun y => sumN p fun z => X15 ^ (1 * (x * x) % p + B * (y * y) % p + C * (z * z) % p) := by
    unfold thP
    rw [Nat.mul_assoc, sumN_mulR]
    refine sumN_ext fun x _ => ?_
    rw [sumN_mulR, sumN_mulL]
    refine sumN_ext fun y _ => ?_
    rw [sumN_mulL, sumN_mulL]
    refine sumN_ext fun z _ => ?_
    rw [Nat.pow_add, Nat.pow_add, Nat.mul_assoc]
  have key : ∀ j, thP p 1 * thP p B * thP p C / X15 ^ j % X15 = sumN p fun x => sumN p fun y => sumN p fun z => if 1 * (x * x) % p + B * (y * y) % p + C * (z * z) % p = j then 1 else 0 := by
    intro j
    rw [e]
    refine Dig.get (k := sumN p fun _ => sumN p fun _ => sumN p fun _ => 1) ?_ (by rw [sumN_const, sumN_const, sumN_const]; exact hp3)
    exact Dig.sum fun x _ => Dig.sum fun y _ => Dig.sum fun z _ => Dig.pow hX _ _
  rw [key, key, key, ← sumN_add, ← sumN_add]
  refine sumN_ext fun x _ => ?_
  rw [← sumN_add, ← sumN_add]
  refine sumN_ext fun y _ => ?_
  rw [← sumN_add, ← sumN_add]
  refine sumN_ext fun z _ => ?_
  have h1 := Nat.mod_lt (1 * (x * x)) hp
  have h2 := Nat.mod_lt (B * (y * y)) hp
  have h3 := Nat.mod_lt (C * (z * z)) hp
  have h4 : (x * x + B * (y * y) + C * (z * z)) % p = (1 * (x * x) % p + B * (y * y) % p + C * (z * z) % p) % p := by
    rw [Nat.one_mul]; simp [Nat.add_mod]
  rw [h4]
  generalize 1 * (x * x) % p = a at *
  generalize B * (y * y) % p = b at *
  generalize C * (z * z) % p = c at *
  by_cases g0 : a + b + c < p
  · rw [Nat.mod_eq_of_lt g0]
    split <;> rename_i g
    · rw [if_neg (by omega), if_neg (by omega)]
    · rw [if_neg (by omega), if_neg (by omega)]
  · by_cases g1 : a + b + c < 2 * p
    · have : (a + b + c) % p = a + b + c - p := by rw [Nat.mod_eq_sub_mod (by omega), Nat.mod_eq_of_lt (by omega)]
      rw [this, if_neg (show ¬ a + b + c = 0 by omega), if_neg (show ¬ a + b + c = 2 * p by omega)]
      by_cases g2 : a + b + c = p
      · rw [if_pos (by omega), if_pos g2]
      · rw [if_neg (by omega), if_neg g2]
    · have : (a + b + c) % p = a + b + c - 2 * p := by rw [Nat.mod_eq_sub_mod (by omega), Nat.mod_eq_sub_mod (by omega), Nat.mod_eq_of_lt (by omega)]; omega
      rw [this, if_neg (show ¬ a + b + c = 0 by omega), if_neg (show ¬ a + b + c = p by omega)]
      by_cases g2 : a + b + c = 2 * p
      · rw [if_pos (by omega), if_pos g2]
      · rw [if_neg (by omega), if_neg g2]
def allN : Nat → (Nat → Bool) → Bool
  | 0, _ => true
  | n + 1, f => allN n f && f n
theorem allN_at {n : Nat} {f : Nat → Bool} (h : allN n f = true) {i : Nat} (hi : i < n) : f i = true := by
  induction n with
  | zero => omega
  | succ n ih =>
    rw [allN, Bool.and_eq_true] at h
    by_cases e : i = n
    · rw [e]; exact h.2
    · exact ih h.1 (by omega)
def digs (p Q : Nat) : Nat := Q / X15 ^ 0 % X15 + Q / X15 ^ p % X15 + Q / X15 ^ (2 * p) % X15
def okP (p : Nat) : Bool := allN p fun B => B == 0 || allN p fun C => C == 0 || digs p (thP p 1 * thP p B * thP p C) == p * p
theorem prL_no {n : Int} (p : Int) (h : prL n p = true) : ∀ d, p ≤ d → 2 ≤ p → d * d ≤ n → n.tmod d ≠ 0 := by
  fun_induction prL n p with
  | case1 p hc hm => cases h
  | case2 p hc hm ih =>
    intro d hd h2 hdn
    by_cases e : d = p
    · rw [e]; exact hm
    · exact ih h d (by omega) (by omega) hdn
  | case3 p hc =>
    intro d hd h2 hdn
    exfalso
    apply hc
    refine ⟨h2, ?_⟩
    have : p * p ≤ d * d := Int.mul_le_mul hd hd (by omega) (by omega)
    omega
theorem prime_no {n : Int} (h : primeI n = true) {d : Int} (hd : 2 ≤ d) (hdn : d * d ≤ n) : n.tmod d ≠ 0 := by
  simp only [primeI, Bool.and_eq_true] at h
  exact prL_no 2 h.2 d hd (by omega) hdn
def oddP : List Nat := [3, 5, 7, 11, 13, 17, 19, 23, 29, 31]
theorem prime31 {p : Nat} (h : primeI (p : Int) = true) (h2 : p ≤ 31) (h3 : p ≠ 2) : p ∈ oddP := by
  have h1 := primeI_ge h
  have e1 : p = 3 ∨ p % 2 ≠ 0 := by
    by_cases g : 4 ≤ p
    · have := prime_no h (d := 2) (by omega) (by omega)
      rw [Int.tmod_eq_emod_of_nonneg (by omega)] at this
      omega
    · omega
  have e2 : p < 9 ∨ p % 3 ≠ 0 := by
    by_cases g : 9 ≤ p
    · have := prime_no h (d := 3) (by omega) (by omega)
      rw [Int.tmod_eq_emod_of_nonneg (by omega)] at this
      omega
    · omega
  have e3 : p < 25 ∨ p % 5 ≠ 0 := by
    by_cases g : 25 ≤ p
    · have := prime_no h (d := 5) (by omega) (by omega)
      rw [Int.tmod_eq_emod_of_nonneg (by omega)] at this
      omega
    · omega
  have key : ((List.range 32).all fun p => decide (p ≤ 2) || (decide (p ≠ 3 ∧ p % 2 = 0) || (decide (9 ≤ p ∧ p % 3 = 0) || (decide (25 ≤ p ∧ p % 5 = 0) || decide (p ∈ oddP))))) = true := by decide
  have := List.all_eq_true.1 key p (by simp; omega)
  simp only [Bool.or_eq_true, decide_eq_true_eq] at this
  rcases this with h | h | h | h | h
  · omega
  · omega
  · omega
  · omega
  · exact h
def inv1 (p : Nat) : Bool := allN p fun a => a == 0 || !(allN p fun u => !((u * a) % p == 1))
theorem okP_all : (oddP.all fun p => okP p && inv1 p) = true := by decide +kernel
theorem allN_ex {n : Nat} {f : Nat → Bool} (h : allN n f = false) : ∃ i, i < n ∧ f i = false := by
  induction n with
  | zero => cases h
  | succ n ih =>
    rw [allN, Bool.and_eq_false_iff] at h
    rcases h with h | h
    · obtain ⟨i, hi, hf⟩ := ih h
      exact ⟨i, by omega, hf⟩
    · exact ⟨n, by omega, h⟩
/-- whether a triple of places solves -/
def zr (a b c : Int) (p x y z : Nat) : Nat := if (a * x * x + b * y * y + c * z * z) % (p : Int) = 0 then 1 else 0
def cn3 (a b c : Int) (p : Nat) : Nat := sumN p fun x => sumN p fun y => sumN p fun z => zr a b c p x y z
theorem zr_scale {a b c : Int} {p u B C : Nat} (x y z : Nat) {t r s : Int} (h1 : u * a = 1 + p * t) (h2 : u * b = B + p * s) (h3 : u * c = C + p * r) :
    zr a b c p x y z = if (x * x + B * (y * y) + C * (z * z)) % p = 0 then 1 else 0 := by
  unfold zr
  have e : ((a * x * x + b * y * y + c * z * z) % (p : Int) = 0) ↔ ((x * x + B * (y * y) + C * (z * z)) % p = 0) := by
    rw [← Int.dvd_iff_emod_eq_zero, ← Nat.dvd_iff_mod_eq_zero, ← Int.natCast_dvd_natCast]
    have hN : ((x * x + B * (y * y) + C * (z * z) : Nat) : Int) = x * x + B * (y * y) + C * (z * z) := by simp
    rw [hN]
    constructor
    · rintro ⟨k, hk⟩
      refine ⟨u * k - t * (x * x) - s * (y * y) - r * (z * z), ?_⟩
      grind
    · rintro ⟨k, hk⟩
      refine ⟨a * k + a * t * (x * x) + a * s * (y * y) + a * r * (z * z) - t * (a * x * x + b * y * y + c * z * z), ?_⟩
      grind
  by_cases g : (x * x + B * (y * y) + C * (z * z)) % p = 0
  · rw [if_pos g, if_pos (e.2 g)]
  · rw [if_neg g, if_neg (fun h => g (e.1 h))]
/-- the number of solutions modulo an odd prime that divides no coefficient -/
theorem cn3_sq {a b c : Int} {p : Nat} (hp : p ∈ oddP) (ha : a % (p : Int) ≠ 0) (hb : b % (p : Int) ≠ 0) (hc : c % (p : Int) ≠ 0) : cn3 a b c p = p * p := by
  have hall := List.all_eq_true.1 okP_all p hp
  rw [Bool.and_eq_true] at hall
  obtain ⟨hok, hinv⟩ := hall
  have hb3 : ∀ p ∈ oddP, 2 ≤ p ∧ p ≤ 31 ∧ p * (p * (p * 1)) < X15 := by decide
  obtain ⟨p2, p31, p3⟩ := hb3 p hp
  have p0 : (0 : Int) < p := by omega
  have ra := Int.emod_nonneg a (show (p : Int) ≠ 0 by omega)
  have rb := Int.emod_lt_of_pos a p0
  have h0 := allN_at hinv (i := (a % (p : Int)).toNat) (by omega)
  have hn0 : ((a % (p : Int)).toNat == 0) = false := beq_eq_false_iff_ne.2 (by omega)
  rw [hn0, Bool.false_or, Bool.not_eq_true'] at h0
  obtain ⟨u, hu, hf⟩ := allN_ex h0
  have hu1 : u * (a % (p : Int)).toNat % p = 1 := by simpa using hf
  have hua : ((u : Int) * a) % p = 1 := by
    have e1 : ((u * (a % (p : Int)).toNat % p : Nat) : Int) = 1 := by rw [hu1]; rfl
    rw [Int.natCast_emod, Int.natCast_mul, Int.toNat_of_nonneg ra, Int.mul_emod, Int.emod_emod_of_dvd _ (Int.dvd_refl _), ← Int.mul_emod] at e1
    exact e1
  have nz : ∀ b : Int, b % (p : Int) ≠ 0 → ((u : Int) * b) % p ≠ 0 := fun b hb h => by
    obtain ⟨k, hk⟩ := Int.dvd_of_emod_eq_zero h
    have e2 := Int.mul_ediv_add_emod ((u : Int) * a) p
    rw [hua] at e2
    apply hb
    apply Int.emod_eq_zero_of_dvd
    refine ⟨a * k - b * (((u : Int) * a) / p), ?_⟩
    grind
  have e1 := Int.mul_ediv_add_emod ((u : Int) * a) p
  have e2 := Int.mul_ediv_add_emod ((u : Int) * b) p
  have e3 := Int.mul_ediv_add_emod ((u : Int) * c) p
  rw [hua] at e1
  have b0 := Int.emod_nonneg ((u : Int) * b) (show (p : Int) ≠ 0 by omega)
  have b1 := Int.emod_lt_of_pos ((u : Int) * b) p0
  have c0 := Int.emod_nonneg ((u : Int) * c) (show (p : Int) ≠ 0 by omega)
  have c1 := Int.emod_lt_of_pos ((u : Int) * c) p0
  have b2 := nz b hb
  have c2 := nz c hc
  obtain ⟨B, hB⟩ : ∃ B : Nat, ((u : Int) * b) % p = B := ⟨_, (Int.toNat_of_nonneg b0).symm⟩
  obtain ⟨C, hC⟩ : ∃ C : Nat, ((u : Int) * c) % p = C := ⟨_, (Int.toNat_of_nonneg c0).symm⟩
  rw [hB] at e2 b1 b2
  rw [hC] at e3 c1 c2
  have key : cn3 a b c p = cn1 p B C := by
    refine sumN_ext fun x _ => sumN_ext fun y _ => sumN_ext fun z _ => ?_
    exact zr_scale (u := u) x y z (t := (u : Int) * a / p) (s := (u : Int) * b / p) (r := (u : Int) * c / p) (by omega) (by omega) (by omega)
  rw [key, cn1_dig (by omega) p3]
  have h4 := allN_at hok (i := B) (by omega)
  have hB0 : (B == 0) = false := beq_eq_false_iff_ne.2 (by omega)
  rw [hB0, Bool.false_or] at h4
  have h5 := allN_at h4 (i := C) (by omega)
  have hC0 : (C == 0) = false := beq_eq_false_iff_ne.2 (by omega)
  rw [hC0, Bool.false_or, beq_iff_eq] at h5
  exact h5
theorem sumN_app (n k : Nat) (f : Nat → Nat) : sumN (n + k) f = sumN n f + sumN k fun r => f (n + r) := by
  induction k with
  | zero => rfl
  | succ k ih => rw [← Nat.add_assoc, sumN, ih, sumN]; omega
theorem sumN_split (m p : Nat) (f : Nat → Nat) : sumN (m * p) f = sumN m fun q => sumN p fun r => f (q * p + r) := by
  induction m with
  | zero => simp [sumN]
  | succ m ih => rw [Nat.succ_mul, sumN_app, ih, sumN]
def zi (a b c : Int) (p i : Nat) : Nat := zr a b c p (i / p / p) (i / p % p) (i % p)
theorem zi_all (a b c : Int) {p : Nat} (hp : 0 < p) : sumN (p * p * p) (zi a b c p) = cn3 a b c p := by
  rw [sumN_split, sumN_split]
  refine sumN_ext fun x _ => sumN_ext fun y hy => sumN_ext fun z hz => ?_
  unfold zi
  have e1 : ((x * p + y) * p + z) / p = x * p + y := by rw [Nat.mul_comm, Nat.mul_add_div hp, Nat.div_eq_of_lt hz]; rfl
  have e2 : ((x * p + y) * p + z) % p = z := by rw [Nat.mul_comm, Nat.mul_add_mod, Nat.mod_eq_of_lt hz]
  have e3 : (x * p + y) / p = x := by rw [Nat.mul_comm, Nat.mul_add_div hp, Nat.div_eq_of_lt hy]; rfl
  have e4 : (x * p + y) % p = y := by rw [Nat.mul_comm, Nat.mul_add_mod, Nat.mod_eq_of_lt hy]
  rw [e1, e2, e3, e4]
theorem zr_le (a b c : Int) (p x y z : Nat) : zr a b c p x y z ≤ 1 := by unfold zr; split <;> omega
theorem sumN_le {n : Nat} {f : Nat → Nat} {k : Nat} (h : ∀ i, i < n → f i ≤ k) : sumN n f ≤ n * k := by
  induction n with
  | zero => simp [sumN]
  | succ n ih => have := ih fun i hi => h i (by omega); have := h n (by omega); rw [sumN, Nat.succ_mul]; omega
end Go.Proofs.Ytacomnelongbjab
