/-
  Plain laws: the values of x*x + n*y*y for idoneal n. Conditions: none.
-/
import Derived.Test.YtacomnelongbjabCoe
import Derived.Test.YtacomnelongbjabCpp
import Derived.Test.YtacomnelongbjabCpr
namespace Go.Proofs.Ytacomnelongbjab
open Go Go.RowKit
set_option maxRecDepth 100000
set_option linter.unusedSimpArgs false
set_option linter.unusedVariables false
set_option maxHeartbeats 4000000

theorem ido_mem {k : Nat} (hn : 1 ≤ k ∧ k ≤ 500) (hi : idoB (k : Int) = true) : memI k = true := by
  refine Bool.not_eq_false _ |>.mp fun hm => ?_
  obtain ⟨a, b, c, h1, h2, h3, h4, h5⟩ := wit_ex hn.1 hn.2 hm
  have q1 : (2 * b + 1) * (2 * b + 1) ≤ a * a := Nat.mul_le_mul (by omega) (by omega)
  have q2 : a * a ≤ a * c := Nat.mul_le_mul_left a (by omega)
  have q3 : (2 * b + 1) * (2 * b + 1) = 4 * (b * b) + 4 * b + 1 := by grind
  have q4 : a * 1 ≤ a * c := Nat.mul_le_mul_left a (by omega)
  have q5 : 1 * c ≤ a * c := Nat.mul_le_mul_right c (by omega)
  have hd : -2000 ≤ -4 * (k : Int) ∧ -4 * (k : Int) ≤ -3 := by omega
  have hr : IsRed (-4 * (k : Int)) ((a : Int), 2 * (b : Int), (c : Int)) := by
    refine ⟨?_, ?_, ?_, Or.inl ?_, ?_⟩
    · show 0 < (a : Int); omega
    · show -(a : Int) < 2 * (b : Int); omega
    · show 2 * (b : Int) ≤ a; omega
    · show (a : Int) < c; omega
    · show 2 * (b : Int) * (2 * (b : Int)) - 4 * (a : Int) * (c : Int) = -4 * (k : Int)
      have e : (a : Int) * c = k + b * b := by rw [← Int.natCast_mul, h4]; simp
      rw [Int.mul_assoc 4, e]
      grind
  have hp : primB ((a : Int), 2 * (b : Int), (c : Int)) = true := by
    unfold primB
    have g1 : Int.gcd (2 * (b : Int)) c ≤ 1000000000 := by
      have := gcd_le (a := 2 * (b : Int)) (b := (c : Int)) (by omega) (by omega)
      omega
    rw [gcdI_eq (a := 2 * (b : Int)) (b := (c : Int)) (by omega) (by omega), gcdI_eq (by omega) (by omega), beq_iff_eq]
    have e2 : Int.gcd (a : Int) ((Int.gcd (2 * (b : Int)) (c : Int) : Nat) : Int) = Nat.gcd a (Nat.gcd (2 * b) c) := by
      have : Int.gcd (2 * (b : Int)) (c : Int) = Nat.gcd (2 * b) c := rfl
      rw [this]; rfl
    rw [e2, ← Nat.gcd_assoc, h5]; rfl
  have hx := (mem_redF hd).2 ⟨hr, hp⟩
  unfold idoB allAmbB at hi
  rw [beq_iff_eq] at hi
  have hlen : ((redF (-4 * (k : Int))).filter ambB).length = (redF (-4 * (k : Int))).length := by
    have : (ambL (-4 * (k : Int))).length = (redF (-4 * (k : Int))).length := by omega
    exact this
  have := List.length_filter_eq_length_iff.1 hlen _ hx
  unfold ambB at this
  simp only [Bool.or_eq_true, beq_iff_eq] at this
  omega
/-! ### counting -/
theorem sumN_zero {n : Nat} {f : Nat → Nat} (h : ∀ j, j < n → f j = 0) : sumN n f = 0 := by
  induction n with
  | zero => rfl
  | succ n ih => rw [sumN, ih (fun j hj => h j (by omega)), h n (by omega)]
theorem sumN_one {n i : Nat} {f : Nat → Nat} (hi : i < n) (h1 : f i = 1) (h0 : ∀ j, j < n → j ≠ i → f j = 0) : sumN n f = 1 := by
  induction n with
  | zero => omega
  | succ n ih =>
    rw [sumN]
    by_cases c : i = n
    · subst c
      rw [h1, sumN_zero fun j hj => h0 j (by omega) (by omega)]
    · rw [ih (by omega) (fun j hj => h0 j (by omega)), h0 n (by omega) (by omega)]
theorem sumN_ne {n : Nat} {f : Nat → Nat} (h : sumN n f ≠ 0) : ∃ i, i < n ∧ f i ≠ 0 := by
  refine Classical.byContradiction fun hc => h (sumN_zero fun j hj => Classical.byContradiction fun g => hc ⟨j, hj, g⟩)
theorem sumN_ge {n i : Nat} {f : Nat → Nat} (hi : i < n) : f i ≤ sumN n f := by
  induction n with
  | zero => omega
  | succ n ih =>
    rw [sumN]
    by_cases c : i = n
    · subst c; omega
    · have := ih (by omega); omega
theorem primP_nat {x y : Nat} (hx : x ≤ 1000000) (hy : y ≤ 1000000) : primP ((x : Int), (y : Int)) = true ↔ Nat.gcd x y = 1 := by
  unfold primP
  rw [gcdI_eq (by show (x : Int).natAbs ≤ _; omega) (by show (y : Int).natAbs ≤ _; omega), beq_iff_eq]
  show ((Nat.gcd x y : Nat) : Int) = 1 ↔ _
  omega
theorem prB_of {n m x y : Int} (hn : 1 ≤ n ∧ n ≤ 500) (hm : m ≤ 10000) (hx : 0 ≤ x) (hy : 0 ≤ y) (he : x * x + n * y * y = m) (hp : primP (x, y) = true) : x * x ≤ m ∧ prB n m x = true ∧ prY n m x = y := by
  have hnv : 0 ≤ n * y * y := Int.mul_nonneg (Int.mul_nonneg (by omega) hy) hy
  have hxm : x * x ≤ m := by omega
  have hq : prY n m x = y := by
    unfold prY
    obtain ⟨d1, d2, d3, d4⟩ := tdn (k := m - x * x) hn.1 (by omega)
    have hxx := sq_nn x
    have h4 : m - x * x = n * (y * y) := by rw [← Int.mul_assoc]; omega
    have h6 : (m - x * x) / n = y * y := by rw [h4]; exact Int.mul_ediv_cancel_left _ (by omega)
    rw [d1]
    exact (root_of hy h6.symm (by omega)).2
  exact ⟨hxm, (prB_iff hn hm hx hxm).2 (by rw [hq]; exact ⟨he, hy, hp⟩), hq⟩
theorem val_cast {k x y : Nat} : (x : Int) * x + (k : Int) * y * y = ((x * x + k * (y * y) : Nat) : Int) := by
  rw [Int.mul_assoc]; simp
/-- x has at most one partner -/
theorem inner_eq {k r m x : Nat} (hk : 1 ≤ k ∧ k ≤ 500) (hr : 10000 < (r + 1) * (r + 1) * k) (hm : m ≤ 10000) (hg : Nat.gcd m (2 * k) = 1) :
    (sumN (r + 1) fun y => bif okPt k x y && Nat.beq (x * x + k * (y * y)) m then 1 else 0) = if (x : Int) * x ≤ m ∧ prB (k : Int) (m : Int) (x : Int) = true then 1 else 0 := by
  have hki : 1 ≤ (k : Int) ∧ (k : Int) ≤ 500 := by omega
  have hmi : (m : Int) ≤ 10000 := by omega
  have key : ∀ y, okPt k x y = true → x * x + k * (y * y) = m → (x : Int) * x ≤ m ∧ prB (k : Int) (m : Int) (x : Int) = true ∧ prY (k : Int) (m : Int) (x : Int) = y := fun y ho hv => by
    obtain ⟨o1, o2, o3⟩ := okPt_iff.1 ho
    have b1 : x ≤ x * x ∨ x = 0 := by
      rcases Nat.eq_zero_or_pos x with c | c
      · exact Or.inr c
      · exact Or.inl (Nat.le_mul_of_pos_right x c)
    have b2 : y ≤ 10000 := by
      rcases Nat.eq_zero_or_pos y with c | c
      · omega
      · have h1 : y * 1 ≤ y * y := Nat.mul_le_mul_left y c
        have h2 : 1 * (y * y) ≤ k * (y * y) := Nat.mul_le_mul_right _ hk.1
        omega
    exact prB_of hki hmi (Int.natCast_nonneg x) (Int.natCast_nonneg y) (by rw [val_cast, hv]) ((primP_nat (by omega) (by omega)).2 o2)
  by_cases c : (x : Int) * x ≤ m ∧ prB (k : Int) (m : Int) (x : Int) = true
  · rw [if_pos c]
    obtain ⟨e, y0, hp⟩ := (prB_iff hki hmi (Int.natCast_nonneg x) c.1).1 c.2
    obtain ⟨y, hy⟩ : ∃ y : Nat, prY (k : Int) (m : Int) (x : Int) = y := ⟨_, (Int.toNat_of_nonneg y0).symm⟩
    rw [hy] at e hp
    rw [val_cast] at e
    have hv : x * x + k * (y * y) = m := by omega
    have b1 : x ≤ 10000 := by
      rcases Nat.eq_zero_or_pos x with c | c
      · omega
      · have := Nat.le_mul_of_pos_right x c
        omega
    have b2 : y ≤ 10000 := by
      rcases Nat.eq_zero_or_pos y with c | c
      · omega
      · have h1 : y * 1 ≤ y * y := Nat.mul_le_mul_left y c
        have h2 : 1 * (y * y) ≤ k * (y * y) := Nat.mul_le_mul_right _ hk.1
        omega
    have ho : okPt k x y = true := okPt_iff.2 ⟨by omega, (primP_nat (by omega) (by omega)).1 hp, by rw [hv]; exact hg⟩
    have hyr : y < r + 1 := by
      refine Nat.lt_of_not_le fun g => ?_
      have h1 : (r + 1) * (r + 1) ≤ y * y := Nat.mul_le_mul g g
      have h2 := Nat.mul_le_mul_right k h1
      rw [Nat.mul_comm (y * y) k] at h2
      omega
    refine sumN_one hyr ?_ fun z hz hne => ?_
    · rw [ho, beqI hv]; rfl
    · cases hz2 : okPt k x z && Nat.beq (x * x + k * (z * z)) m with
      | false => rfl
      | true =>
        rw [Bool.and_eq_true, Nat.beq_eq] at hz2
        obtain ⟨-, -, k3⟩ := key z hz2.1 hz2.2
        rw [hy] at k3
        omega
  · rw [if_neg c]
    refine sumN_zero fun y _ => ?_
    cases hz2 : okPt k x y && Nat.beq (x * x + k * (y * y)) m with
    | false => rfl
    | true =>
      rw [Bool.and_eq_true, Nat.beq_eq] at hz2
      obtain ⟨k1, k2, -⟩ := key y hz2.1 hz2.2
      exact absurd ⟨k1, k2⟩ c
theorem prR_step {n m : Int} (x : Nat) : (prR n m (x : Int)).length = (if (x : Int) * x ≤ m ∧ prB n m (x : Int) = true then 1 else 0) + (prR n m ((x + 1 : Nat) : Int)).length := by
  have e : ((x + 1 : Nat) : Int) = (x : Int) + 1 := by simp
  by_cases c : (x : Int) * x ≤ m
  · rw [prR.eq_def n m (x : Int), dif_pos ⟨Int.natCast_nonneg x, c⟩, List.length_append, e]
    by_cases d : prB n m (x : Int) = true
    · rw [if_pos d, if_pos ⟨c, d⟩]; rfl
    · rw [if_neg d, if_neg (fun h => d h.2)]; rfl
  · rw [prR.eq_def n m (x : Int), dif_neg (fun h => c h.2), if_neg (fun h => c h.1), e, prR.eq_def n m ((x : Int) + 1), dif_neg]
    · rfl
    · rintro ⟨h1, h2⟩
      have := sq_lt2 (Int.natCast_nonneg x) (show (x : Int) < x + 1 by omega)
      omega
/-- the length of the list is the count -/
theorem prR_cnt {k r m : Nat} (hk : 1 ≤ k ∧ k ≤ 500) (hr : 10000 < (r + 1) * (r + 1) * k) (hm : m ≤ 10000) (hg : Nat.gcd m (2 * k) = 1) :
    (prR (k : Int) (m : Int) 0).length = cntP k r m := by
  have h : ∀ x : Nat, sumN x (fun x => sumN (r + 1) fun y => bif okPt k x y && Nat.beq (x * x + k * (y * y)) m then 1 else 0) + (prR (k : Int) (m : Int) (x : Int)).length = (prR (k : Int) (m : Int) 0).length := by
    intro x
    induction x with
    | zero => simp [sumN]
    | succ x ih =>
      rw [sumN, inner_eq hk hr hm hg, ← ih, prR_step x]
      omega
  have h1 := h 101
  have h2 : prR (k : Int) (m : Int) ((101 : Nat) : Int) = [] := by
    rw [prR.eq_def, dif_neg]
    rintro ⟨_, h⟩
    have : ((101 : Nat) : Int) * ((101 : Nat) : Int) = 10201 := by decide
    omega
  rw [h2] at h1
  exact h1.symm
/-! ### the two laws -/
/-- each value prime to 2*k is taken as often as its ways say -/
theorem ways_law {k m : Nat} (hk : 1 ≤ k ∧ k ≤ 500) (hi : idoB (k : Int) = true) (hm : 2 ≤ m ∧ m ≤ 10000) (hg : Nat.gcd m (2 * k) = 1) (hl : prR (k : Int) (m : Int) 0 ≠ []) :
    (prR (k : Int) (m : Int) 0).length = if k = 1 then 2 * wL 0 1 (fcL (m : Int)) else wL 0 1 (fcL (m : Int)) := by
  obtain ⟨r, hr⟩ := chk_at (ido_mem hk hi)
  obtain ⟨r1, r2⟩ := chk_r hr
  rw [prR_cnt hk r2 hm.2 hg]
  obtain ⟨q, hq⟩ := List.exists_mem_of_ne_nil _ hl
  obtain ⟨h0, h1, h2, h3, h4⟩ := prR_mem (n := (k : Int)) (m := (m : Int)) (by omega) (by omega) 0 hq
  obtain ⟨⟨x, y⟩, rfl⟩ : ∃ p : Nat × Nat, q = ((p.1 : Int), (p.2 : Int)) := ⟨(q.1.toNat, q.2.toNat), Prod.ext (Int.toNat_of_nonneg h1).symm (Int.toNat_of_nonneg h2).symm⟩
  simp only at h3
  rw [val_cast] at h3
  have hv : x * x + k * (y * y) = m := by omega
  have b1 : x < 101 := by
    refine Nat.lt_of_not_le fun g => ?_
    have := Nat.mul_le_mul g g
    omega
  have hyr : y < r + 1 := by
    refine Nat.lt_of_not_le fun g => ?_
    have h1 : (r + 1) * (r + 1) ≤ y * y := Nat.mul_le_mul g g
    have h2 := Nat.mul_le_mul_right k h1
    rw [Nat.mul_comm (y * y) k] at h2
    omega
  have ho : okPt k x y = true := okPt_iff.2 ⟨by omega, (primP_nat (by omega) (by omega)).1 h4, by rw [hv]; exact hg⟩
  have hc := cnt_law hr b1 hyr ho (by omega)
  rw [hv] at hc
  rw [hc]
  unfold wayT
  rw [way_law hm.1 hm.2]
  by_cases c : k = 1
  · rw [if_pos c, beqI c]; rfl
  · rw [if_neg c, show Nat.beq k 1 = false by rw [← Bool.not_eq_true, Nat.beq_eq]; exact c]; rfl
theorem rsH_iff {n k s : Nat} : rsH n k s = true ↔ ∃ x, x < k ∧ (x * x % (4 * n) = s ∨ (x * x + n) % (4 * n) = s) := by
  unfold rsH
  simp only [List.any_eq_true, List.mem_range, Bool.or_eq_true, decide_eq_true_eq]
/-- a prime is a value exactly if its residue is a principal one -/
theorem prime_law {n p : Int} (hf : facB n = true) (hi : idoB n = true) (hp : primeI p = true) (h2 : p > 2) (h3 : p ≤ 10000) (h4 : n.tmod p ≠ 0) : decide (p.tmod (4 * n) ∈ rsO n) = coB n p := by
  have hn := facB_in hf
  obtain ⟨k, rfl⟩ : ∃ k : Nat, n = k := ⟨n.toNat, by omega⟩
  obtain ⟨q, rfl, hq⟩ := prime_isP hp
  have hk : 1 ≤ k ∧ k ≤ 500 := by omega
  obtain ⟨r, hr⟩ := chk_at (ido_mem hk hi)
  obtain ⟨r1, r2⟩ := chk_r hr
  have hmod : k % q ≠ 0 := fun g => h4 (by rw [Int.tmod_eq_emod_of_nonneg (Int.natCast_nonneg _), ← Int.natCast_emod, g]; rfl)
  have hnd : ¬ q ∣ k := fun g => hmod (Nat.mod_eq_zero_of_dvd g)
  have hnd4 : ¬ q ∣ 2 * (2 * k) := fun g => by
    have hq2 : ¬ q ∣ 2 := fun g => by have := Nat.le_of_dvd (by omega) g; omega
    rcases hq.mul g with g | g
    · exact hq2 g
    · rcases hq.mul g with g | g
      · exact hq2 g
      · exact hnd g
  have hg2 : Nat.gcd q (2 * k) = 1 := hq.cop fun g => hnd4 (Nat.dvd_trans g (Nat.dvd_mul_left ..))
  have hlaw := prm_law hr hq (by omega) (by omega) hmod
  have hs : shPrimeB (q : Int) = true := by unfold shPrimeB; rw [decide_eq_true h3, hp]; rfl
  have hcR : coR (k : Int) (q : Int) = crL (k : Int) (q : Int) 0 := by unfold coR cB; rw [hf, hs]; rfl
  -- the count tells the pair
  have hcnt : cntP k r q ≠ 0 ↔ coB (k : Int) (q : Int) = true := by
    unfold coB
    rw [hcR]
    constructor
    · intro h
      obtain ⟨x, hx, h5⟩ := sumN_ne h
      obtain ⟨y, hy, h6⟩ := sumN_ne h5
      have h7 : (okPt k x y && Nat.beq (x * x + k * (y * y)) q) = true := by
        cases hc : okPt k x y && Nat.beq (x * x + k * (y * y)) q with
        | true => rfl
        | false => rw [hc] at h6; exact absurd rfl h6
      rw [Bool.and_eq_true, Nat.beq_eq] at h7
      cases hc : crL (k : Int) (q : Int) 0 with
      | some z => rfl
      | none => exact (crL_none (x := (x : Int)) (z := (y : Int)) (by omega) (by omega) 0 hc (by omega) (by omega) (by rw [val_cast, h7.2])).elim
    · intro h
      obtain ⟨⟨x', y'⟩, hc⟩ := Option.isSome_iff_exists.1 h
      obtain ⟨x0, y0, e, -⟩ := crL_some (by omega) 0 hc
      have R : Rep (k : Int) x' y' q := ⟨hq, e, by omega, x0, y0, fun g => hnd (Int.ofNat_dvd.1 g)⟩
      have hcop := R.copy
      obtain ⟨x, rfl⟩ : ∃ x : Nat, x' = x := ⟨_, (Int.toNat_of_nonneg x0).symm⟩
      obtain ⟨y, rfl⟩ : ∃ y : Nat, y' = y := ⟨_, (Int.toNat_of_nonneg y0).symm⟩
      rw [val_cast] at e
      have hv : x * x + k * (y * y) = q := by omega
      have b1 : x < 101 := by
        refine Nat.lt_of_not_le fun g => ?_
        have := Nat.mul_le_mul g g
        omega
      have hyr : y < r + 1 := by
        refine Nat.lt_of_not_le fun g => ?_
        have h1 : (r + 1) * (r + 1) ≤ y * y := Nat.mul_le_mul g g
        have h2 := Nat.mul_le_mul_right k h1
        rw [Nat.mul_comm (y * y) k] at h2
        omega
      have ho : okPt k x y = true := okPt_iff.2 ⟨by omega, hcop, by rw [hv]; exact hg2⟩
      have h1 : 1 ≤ sumN (r + 1) fun y => bif okPt k x y && Nat.beq (x * x + k * (y * y)) q then 1 else 0 := by
        have := sumN_ge (f := fun y => bif okPt k x y && Nat.beq (x * x + k * (y * y)) q then 1 else 0) hyr
        simp only [ho, beqI hv, Bool.and_true, cond_true] at this
        exact this
      have h2 := sumN_ge (f := fun x => sumN (r + 1) fun y => bif okPt k x y && Nat.beq (x * x + k * (y * y)) q then 1 else 0) b1
      unfold cntP
      omega
  have em : (q : Int).tmod (4 * (k : Int)) = ((q % (4 * k) : Nat) : Int) := by
    rw [Int.tmod_eq_emod_of_nonneg (Int.natCast_nonneg _), Int.natCast_emod, Int.natCast_mul]; rfl
  have eO : rsO (k : Int) = rsL k (4 * k) := by unfold rsO; rw [hf, Int.toNat_natCast]; rfl
  have hlt : q % (4 * k) < 4 * k := Nat.mod_lt _ (by omega)
  have hgc : (gcdI ((q % (4 * k) : Nat) : Int) ((4 * k : Nat) : Int) == 1) = true := by
    rw [gcdI_eq (by omega) (by omega), beq_iff_eq]
    have : Nat.gcd (q % (4 * k)) (4 * k) = 1 := by
      rw [← Nat.gcd_rec, Nat.gcd_comm]
      exact hq.cop (by rw [show 4 * k = 2 * (2 * k) by omega]; exact hnd4)
    show ((Nat.gcd (q % (4 * k)) (4 * k) : Nat) : Int) = 1
    rw [this]; rfl
  rw [Bool.eq_iff_iff, decide_eq_true_iff, ← hcnt, hlaw, em, eO, rsL_mem]
  unfold rsG
  rw [hgc, Bool.and_true, rsH_iff]
  exact ⟨fun h => h.2, fun h => ⟨hlt, h⟩⟩
end Go.Proofs.Ytacomnelongbjab
