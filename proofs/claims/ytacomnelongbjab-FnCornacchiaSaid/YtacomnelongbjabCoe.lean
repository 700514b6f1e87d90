/-
  What the kernel's numbers tell: the ways of a number are those of its list of prime factors; for an idoneal k each value prime to 2*k is taken as often as its ways say, and primes are values where their residues are. Conditions: none; nothing here speaks of the program.
-/
import Derived.Test.YtacomnelongbjabCod
namespace Go.Proofs.Ytacomnelongbjab
open Go Go.RowKit
set_option maxRecDepth 100000
set_option linter.unusedSimpArgs false
set_option linter.unusedVariables false
set_option maxHeartbeats 4000000

theorem bleI {a b : Nat} (h : a ≤ b) : Nat.ble a b = true := by rw [Nat.ble_eq]; exact h
theorem beqI {a b : Nat} (h : a = b) : Nat.beq a b = true := by rw [Nat.beq_eq]; exact h
/-! ### the ways of a list -/
def wL : Int → Nat → List Int → Nat
  | _, w, [] => w
  | q, w, x :: l => wL x (if q = 0 ∨ q = x then w else 2 * w) l
theorem cast_mod {n p : Nat} : ((n : Int) % (p : Int) = 0) ↔ n % p = 0 := by
  rw [← Int.natCast_emod]; omega
theorem gw_spec : ∀ (f : Nat) (n p q w : Nat), 1 ≤ n → 2 ≤ p →
    (gw f true n p q w ≠ 0 → ∃ L, (∀ acc, fcOut n p acc = acc ++ L) ∧ wL q w L = gw f true n p q w) ∧
    (gw f false n p q w ≠ 0 → ∃ L, (∀ acc, fcOut (fcIn n p acc).2 (p + 1) (fcIn n p acc).1 = acc ++ L) ∧ wL q w L = gw f false n p q w) := by
  intro f
  induction f with
  | zero =>
    intro n p q w hn hp
    exact ⟨fun h => absurd rfl h, fun h => absurd rfl h⟩
  | succ f ih =>
    intro n p q w hn hp
    constructor
    · intro h
      by_cases g : p * p ≤ n
      · have e : gw (f + 1) true n p q w = gw f false n p q w := by
          show (bif Nat.ble (p * p) n then _ else _) = _
          rw [bleI g]; rfl
        rw [e] at h ⊢
        obtain ⟨L, h1, h2⟩ := (ih n p q w hn hp).2 h
        refine ⟨L, fun acc => ?_, h2⟩
        rw [fcOut.eq_def, dif_pos ⟨by omega, by rw [← Int.natCast_mul]; omega⟩]
        exact h1 acc
      · have gf : Nat.ble (p * p) n = false := by rw [← Bool.not_eq_true, Nat.ble_eq]; exact g
        have hout : ∀ acc, fcOut (n : Int) (p : Int) acc = if (n : Int) > 1 then acc ++ [(n : Int)] else acc := fun acc => by
          rw [fcOut.eq_def, dif_neg (fun h => g (by have := h.2; rw [← Int.natCast_mul] at this; omega))]
        by_cases g1 : n ≤ 1
        · have e : gw (f + 1) true n p q w = w := by
            show (bif Nat.ble (p * p) n then _ else bif Nat.ble n 1 then w else _) = w
            rw [gf, bleI g1]; rfl
          rw [e]
          refine ⟨[], fun acc => ?_, rfl⟩
          rw [hout, if_neg (by omega), List.append_nil]
        · have g1f : Nat.ble n 1 = false := by rw [← Bool.not_eq_true, Nat.ble_eq]; exact g1
          have e : gw (f + 1) true n p q w = bif Nat.beq q 0 || Nat.beq q n then w else 2 * w := by
            show (bif Nat.ble (p * p) n then _ else bif Nat.ble n 1 then w else _) = _
            rw [gf, g1f]; rfl
          refine ⟨[(n : Int)], fun acc => ?_, ?_⟩
          · rw [hout, if_pos (by omega)]
          · rw [e]
            show (if (q : Int) = 0 ∨ (q : Int) = n then w else 2 * w) = _
            by_cases c : q = 0 ∨ q = n
            · rw [if_pos (by omega)]
              have : (Nat.beq q 0 || Nat.beq q n) = true := by rw [Bool.or_eq_true, Nat.beq_eq, Nat.beq_eq]; exact c
              rw [this]; rfl
            · rw [if_neg (by omega)]
              have : (Nat.beq q 0 || Nat.beq q n) = false := by rw [← Bool.not_eq_true, Bool.or_eq_true, Nat.beq_eq, Nat.beq_eq]; exact c
              rw [this]; rfl
    · intro h
      by_cases g : n % p = 0
      · have e : gw (f + 1) false n p q w = gw f false (n / p) p p (bif Nat.beq q 0 || Nat.beq q p then w else 2 * w) := by
          show (bif Nat.beq (n % p) 0 then _ else _) = _
          rw [beqI g]; rfl
        rw [e] at h ⊢
        have hn1 : 1 ≤ n / p := by
          have := Nat.div_add_mod n p
          rcases Nat.eq_zero_or_pos (n / p) with c | c
          · rw [c, g] at this; omega
          · exact c
        obtain ⟨L, h1, h2⟩ := (ih (n / p) p p _ hn1 hp).2 h
        refine ⟨(p : Int) :: L, fun acc => ?_, ?_⟩
        · have ef : fcIn (n : Int) (p : Int) acc = fcIn ((n / p : Nat) : Int) (p : Int) (acc ++ [(p : Int)]) := by
            rw [fcIn.eq_def, dif_pos ⟨by omega, by omega, cast_mod.2 g⟩, Int.natCast_ediv]
          rw [ef, h1, List.append_assoc]; rfl
        · rw [← h2]
          show wL p (if (q : Int) = 0 ∨ (q : Int) = p then w else 2 * w) L = _
          by_cases c : q = 0 ∨ q = p
          · rw [if_pos (by omega)]
            have : (Nat.beq q 0 || Nat.beq q p) = true := by rw [Bool.or_eq_true, Nat.beq_eq, Nat.beq_eq]; exact c
            rw [this]; rfl
          · rw [if_neg (by omega)]
            have : (Nat.beq q 0 || Nat.beq q p) = false := by rw [← Bool.not_eq_true, Bool.or_eq_true, Nat.beq_eq, Nat.beq_eq]; exact c
            rw [this]; rfl
      · have gf : Nat.beq (n % p) 0 = false := by rw [← Bool.not_eq_true, Nat.beq_eq]; exact g
        have e : gw (f + 1) false n p q w = gw f true n (p + 1) q w := by
          show (bif Nat.beq (n % p) 0 then _ else _) = _
          rw [gf]; rfl
        rw [e] at h ⊢
        obtain ⟨L, h1, h2⟩ := (ih n (p + 1) q w hn (by omega)).1 h
        refine ⟨L, fun acc => ?_, h2⟩
        have ef : fcIn (n : Int) (p : Int) acc = (acc, (n : Int)) := by
          rw [fcIn.eq_def, dif_neg (fun h => g (cast_mod.1 h.2.2))]
        rw [ef]
        exact h1 acc
theorem split100 {a b : Nat} {f : Nat → Bool} (h : (allN a fun i => allN 100 fun j => f (100 * (b + i) + j)) = true) {m : Nat} (h1 : 100 * b ≤ m) (h2 : m < 100 * (b + a)) : f m = true := by
  have := allN_at (allN_at h (i := m / 100 - b) (by omega)) (i := m % 100) (by omega)
  have e : 100 * (b + (m / 100 - b)) + m % 100 = m := by omega
  rw [e] at this
  exact this
theorem tbl_at {m : Nat} (h : m ≤ 10000) : tblOk m = true := by
  by_cases h1 : m < 4000
  · have := allN_at (allN_at tbl1 (i := m / 100) (by omega)) (i := m % 100) (by omega)
    rw [Nat.div_add_mod] at this
    exact this
  · by_cases h2 : m < 7000
    · exact split100 (b := 40) (a := 30) tbl2 (by omega) (by omega)
    · exact split100 (b := 70) (a := 31) tbl3 (by omega) (by omega)
/-- the table tells the ways of a number -/
theorem way_law {m : Nat} (h1 : 2 ≤ m) (h2 : m ≤ 10000) : tbl / 64 ^ m % 64 = wL 0 1 (fcL m) := by
  have h := tbl_at h2
  unfold tblOk at h
  simp only [Bool.or_eq_true, Bool.and_eq_true, Nat.ble_eq, Nat.beq_eq] at h
  rcases h with h | h | h
  · omega
  · omega
  · have h3 : wayN m ≠ 0 := by
      have := h.1
      unfold Nat.blt at this
      rw [Nat.ble_eq] at this
      omega
    rw [h.2]
    obtain ⟨L, e1, e2⟩ := (gw_spec 300 m 2 0 1 (by omega) (by omega)).1 h3
    have e3 : fcL (m : Int) = L := by
      have := e1 []
      rw [List.nil_append] at this
      exact this
    rw [e3]
    exact e2.symm
/-! ### primes -/
theorem hasF_no : ∀ (f d m : Nat), 2 ≤ d → hasF f d m = true → ¬ IsP m := by
  intro f
  induction f with
  | zero => intro d m hd h; cases h
  | succ f ih =>
    intro d m hd h hp
    have h' : (Nat.ble (d * d) m && (Nat.beq (m % d) 0 || hasF f (d + 1) m)) = true := h
    simp only [Bool.and_eq_true, Bool.or_eq_true, Nat.ble_eq, Nat.beq_eq] at h'
    rcases h'.2 with g | g
    · rcases hp.2 d (Nat.dvd_of_mod_eq_zero g) with e | e
      · omega
      · have : d * 2 ≤ d * d := Nat.mul_le_mul_left d hd
        have := h'.1
        omega
    · exact ih (d + 1) m (by omega) g hp
theorem bit_lor {a b s : Nat} : (Nat.lor a b / 2 ^ s % 2 = 1) ↔ (a / 2 ^ s % 2 = 1 ∨ b / 2 ^ s % 2 = 1) := by
  have h := Nat.testBit_or a b s
  rw [Nat.testBit_eq_decide_div_mod_eq, Nat.testBit_eq_decide_div_mod_eq, Nat.testBit_eq_decide_div_mod_eq] at h
  have e : Nat.lor a b = a ||| b := rfl
  rw [e]
  by_cases c1 : a / 2 ^ s % 2 = 1 <;> by_cases c2 : b / 2 ^ s % 2 = 1 <;> simp [c1, c2] at h ⊢ <;> exact h
theorem bit_pow {x s : Nat} : (2 ^ x / 2 ^ s % 2 = 1) ↔ x = s := by
  have h := Nat.testBit_two_pow (n := x) (m := s)
  rw [Nat.testBit_eq_decide_div_mod_eq] at h
  simpa using h
theorem mkM_mem : ∀ {l : List Nat} {m : Nat}, mkM l / 2 ^ m % 2 = 1 → m ∈ l
  | [], m, h => by simp [mkM] at h
  | x :: l, m, h => by
    rw [mkM, bit_lor, bit_pow] at h
    rcases h with h | h
    · rw [h]; exact List.mem_cons_self
    · exact List.mem_cons_of_mem _ (mkM_mem h)
theorem prims_all {p : Nat} (hp : IsP p) (h : p ≤ 10000) (h2 : p ≠ 2) : p ∈ prims := by
  have h3 : p ≠ 10000 := fun e => by
    rcases hp.2 2 (by rw [e]; exact ⟨5000, rfl⟩) with g | g <;> omega
  have h4 := allN_at (allN_at prm_ok (i := p / 100) (by omega)) (i := p % 100) (by omega)
  rw [Nat.div_add_mod] at h4
  unfold prmT at h4
  simp only [Bool.or_eq_true, Nat.ble_eq, Nat.beq_eq] at h4
  rcases h4 with g | g | g
  · have := hp.1; omega
  · exact absurd hp (hasF_no _ _ _ (by omega) g)
  · exact mkM_mem g
/-! ### how often values are taken -/
def cntP (k r m : Nat) : Nat := sumN 101 fun x => sumN (r + 1) fun y => bif okPt k x y && Nat.beq (x * x + k * (y * y)) m then 1 else 0
theorem thK_dig {k r : Nat} (hr : r ≤ 100) (m : Nat) : thK k r / XX ^ m % XX = cntP k r m := by
  have h0 : ∀ x y : Nat, Dig XX m (trm k x y) (bif okPt k x y && Nat.beq (x * x + k * (y * y)) m then 1 else 0) 1 := fun x y => by
    unfold trm
    cases okPt k x y with
    | false => exact ⟨0, 0, by simp, by omega, by simp⟩
    | true =>
      rw [cond_true, Bool.true_and]
      have h := Dig.pow (X := XX) (by decide) m (x * x + k * (y * y))
      have e : (bif Nat.beq (x * x + k * (y * y)) m then 1 else 0) = if x * x + k * (y * y) = m then 1 else 0 := by
        by_cases c : x * x + k * (y * y) = m
        · rw [if_pos c, beqI c]; rfl
        · rw [if_neg c, show Nat.beq (x * x + k * (y * y)) m = false by rw [← Bool.not_eq_true, Nat.beq_eq]; exact c]; rfl
      rw [e]; exact h
  have h := Dig.sum (n := 101) (X := XX) (j := m) fun x _ => Dig.sum (n := r + 1) fun y _ => h0 x y
  refine Dig.get h ?_
  rw [sumN_const, sumN_const]
  unfold XX
  omega
theorem allL_at : ∀ {l : List Nat} {f : Nat → Bool}, allL l f = true → ∀ x ∈ l, f x = true
  | [], _, _, x, hx => by cases hx
  | y :: l, f, h, x, hx => by
    have h' : (f y && allL l f) = true := h
    rw [Bool.and_eq_true] at h'
    rcases List.mem_cons.1 hx with rfl | g
    · exact h'.1
    · exact allL_at h'.2 x g
theorem allP_at : ∀ {l : List (Nat × Nat)} {f : Nat → Nat → Bool}, allP l f = true → ∀ {k}, memP l k = true → ∃ r, f k r = true
  | [], _, _, k, hk => by cases hk
  | y :: l, f, h, k, hk => by
    have h' : (f y.1 y.2 && allP l f) = true := h
    have hk' : (Nat.beq y.1 k || memP l k) = true := hk
    rw [Bool.and_eq_true] at h'
    rw [Bool.or_eq_true, Nat.beq_eq] at hk'
    rcases hk' with rfl | g
    · exact ⟨_, h'.1⟩
    · exact allP_at h'.2 g
theorem chk_at {k : Nat} (h : memI k = true) : ∃ r, chkA k r = true := by
  unfold memI at h
  simp only [Bool.or_eq_true] at h
  rcases h with h | h | h | h
  · exact allP_at chk1 h
  · exact allP_at chk2 h
  · exact allP_at chk3 h
  · exact allP_at chk4 h
theorem okPt_iff {k x y : Nat} : okPt k x y = true ↔ x * x + k * (y * y) ≤ 10000 ∧ Nat.gcd x y = 1 ∧ Nat.gcd (x * x + k * (y * y)) (2 * k) = 1 := by
  unfold okPt
  simp only [Bool.and_eq_true, Nat.ble_eq, Nat.beq_eq]
/-- each value is taken as often as its ways say -/
theorem cnt_law {k r x y : Nat} (h : chkA k r = true) (hx : x < 101) (hy : y < r + 1) (ho : okPt k x y = true) (hv : 2 ≤ x * x + k * (y * y)) :
    cntP k r (x * x + k * (y * y)) = wayT k (x * x + k * (y * y)) := by
  unfold chkA chkT at h
  simp only [Bool.and_eq_true, Nat.ble_eq] at h
  have h1 := allN_at (allN_at h.2.1 hx) hy
  rw [ho] at h1
  simp only [Bool.not_true, Bool.false_or, Bool.or_eq_true, Nat.ble_eq, Nat.beq_eq] at h1
  rcases h1 with g | g
  · omega
  · rw [← thK_dig h.1.1]; exact g
theorem orN_bit {s : Nat} {f : Nat → Nat} : ∀ {n : Nat}, (orN n f / 2 ^ s % 2 = 1) ↔ ∃ x, x < n ∧ f x / 2 ^ s % 2 = 1
  | 0 => by simp [orN]
  | n + 1 => by
    rw [orN, bit_lor, orN_bit]
    constructor
    · rintro (⟨x, h1, h2⟩ | h)
      · exact ⟨x, by omega, h2⟩
      · exact ⟨n, by omega, h⟩
    · rintro ⟨x, h1, h2⟩
      by_cases c : x = n
      · rw [c] at h2; exact Or.inr h2
      · exact Or.inl ⟨x, by omega, h2⟩
theorem msk_bit {n s : Nat} : (mskN n / 2 ^ s % 2 = 1) ↔ ∃ x, x < 4 * n ∧ (x * x % (4 * n) = s ∨ (x * x + n) % (4 * n) = s) := by
  unfold mskN
  rw [orN_bit]
  constructor
  · rintro ⟨x, h1, h2⟩
    rw [bit_lor, bit_pow, bit_pow] at h2
    exact ⟨x, h1, h2⟩
  · rintro ⟨x, h1, h2⟩
    refine ⟨x, h1, ?_⟩
    rw [bit_lor, bit_pow, bit_pow]
    exact h2
/-- a prime is a value exactly if its residue is one of a value -/
theorem prm_law {n r p : Nat} (h : chkA n r = true) (hp : IsP p) (h1 : p ≤ 10000) (h2 : p ≠ 2) (h3 : n % p ≠ 0) :
    (cntP n r p ≠ 0) ↔ ∃ x, x < 4 * n ∧ (x * x % (4 * n) = p % (4 * n) ∨ (x * x + n) % (4 * n) = p % (4 * n)) := by
  unfold chkA chkP at h
  simp only [Bool.and_eq_true, Nat.ble_eq] at h
  have h4 := allL_at h.2.2 p (prims_all hp h1 h2)
  rw [← msk_bit, ← thK_dig h.1.1]
  have g : Nat.beq (n % p) 0 = false := by rw [← Bool.not_eq_true, Nat.beq_eq]; exact h3
  rw [g, Bool.false_or] at h4
  by_cases c : mskN n / 2 ^ (p % (4 * n)) % 2 = 0
  · rw [beqI c, cond_true, Nat.beq_eq] at h4
    rw [h4, c]; simp
  · have c' : Nat.beq (mskN n / 2 ^ (p % (4 * n)) % 2) 0 = false := by rw [← Bool.not_eq_true, Nat.beq_eq]; exact c
    rw [c', cond_false] at h4
    have h5 : ¬ (thK n r / XX ^ p % XX = 0) := fun e => by rw [beqI e] at h4; cases h4
    have c2 : mskN n / 2 ^ (p % (4 * n)) % 2 = 1 := by omega
    simp [h5, c2]
theorem chk_r {k r : Nat} (h : chkA k r = true) : r ≤ 100 ∧ 10000 < (r + 1) * (r + 1) * k := by
  unfold chkA Nat.blt at h
  simp only [Bool.and_eq_true, Nat.ble_eq] at h
  exact ⟨h.1.1, h.1.2⟩
/-- a k that is not listed has a reduced form that is not its own inverse -/
theorem wit_ex {k : Nat} (h1 : 1 ≤ k) (h2 : k ≤ 500) (h : memI k = false) : ∃ a b c : Nat, 0 < b ∧ 2 * b < a ∧ a < c ∧ a * c = k + b * b ∧ Nat.gcd (Nat.gcd a (2 * b)) c = 1 := by
  have h3 := allN_at ido_ok (i := k) (by omega)
  rw [h, Bool.false_or] at h3
  simp only [Bool.or_eq_true, Nat.beq_eq] at h3
  rcases h3 with g | g
  · omega
  · unfold wit at g
    have g' : (allN 27 fun a => allN 14 fun b => !witP k a b) = false := by simpa using g
    obtain ⟨a, _, ha⟩ := allN_ex g'
    obtain ⟨b, _, hb⟩ := allN_ex ha
    have hw : witP k a b = true := by simpa using hb
    unfold witP Nat.blt at hw
    simp only [Bool.and_eq_true, Nat.ble_eq, Nat.beq_eq] at hw
    obtain ⟨w1, w2, w3, w4, w5⟩ := hw
    have e : a * ((k + b * b) / a) = k + b * b := Nat.mul_div_cancel' (Nat.dvd_of_mod_eq_zero w3)
    refine ⟨a, b, (k + b * b) / a, by omega, by omega, ?_, e, w5⟩
    generalize (k + b * b) / a = c at *
    refine Nat.lt_of_not_le fun hc => ?_
    have := Nat.mul_le_mul_left a hc
    omega
end Go.Proofs.Ytacomnelongbjab
