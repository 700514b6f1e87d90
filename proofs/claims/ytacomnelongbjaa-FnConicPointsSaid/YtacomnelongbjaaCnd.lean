/-
  The second point of a conic is a solution, and small solutions stand in the list. Conditions: none.
-/
import Derived.Test.YtacomnelongbjaaCnp
namespace Go.Proofs.Ytacomnelongbjaa
open Go Go.RowKit
theorem formB_iff {x y z : Int} : formB x y z = true ↔ (-1000000 ≤ x ∧ x ≤ 1000000) ∧ (-1000000 ≤ y ∧ y ≤ 1000000) ∧ (-1000000 ≤ z ∧ z ≤ 1000000) := by
  simp only [formB, Bool.and_eq_true, areB_iff]
theorem ev_eq {a b c x y z : Int} (h1 : triB a b c = true) (h2 : formB x y z = true) : wrap64 (wrap64 (wrap64 (wrap64 (a * x) * x) + wrap64 (wrap64 (b * y) * y)) + wrap64 (wrap64 (c * z) * z)) = a * x * x + b * y * y + c * z * z := by
  obtain ⟨⟨ha, hb, hc⟩, _⟩ := triB_iff h1
  obtain ⟨hx, hy, hz⟩ := formB_iff.1 h2
  have k1 := mul_bd (a := a) (b := x) (j := 400) (k := 1000000) (by omega) (by omega) ha hx
  have k2 := mul_bd (a := a * x) (b := x) (j := 400000000) (k := 1000000) (by omega) (by omega) ⟨by omega, by omega⟩ hx
  have k3 := mul_bd (a := b) (b := y) (j := 400) (k := 1000000) (by omega) (by omega) hb hy
  have k4 := mul_bd (a := b * y) (b := y) (j := 400000000) (k := 1000000) (by omega) (by omega) ⟨by omega, by omega⟩ hy
  have k5 := mul_bd (a := c) (b := z) (j := 400) (k := 1000000) (by omega) (by omega) hc hz
  have k6 := mul_bd (a := c * z) (b := z) (j := 400000000) (k := 1000000) (by omega) (by omega) ⟨by omega, by omega⟩ hz
  rw [wrap_id (n := a * x) (by omega) (by omega), wrap_id (n := a * x * x) (by omega) (by omega), wrap_id (n := b * y) (by omega) (by omega), wrap_id (n := b * y * y) (by omega) (by omega), wrap_id (n := c * z) (by omega) (by omega), wrap_id (n := c * z * z) (by omega) (by omega), wrap_id (n := a * x * x + b * y * y) (by omega) (by omega), wrap_id (by omega) (by omega)]
theorem isB_iff {a b c x y z : Int} (h1 : triB a b c = true) (h2 : formB x y z = true) : isB a b c x y z = true ↔ a * x * x + b * y * y + c * z * z = 0 ∧ (x ≠ 0 ∨ y ≠ 0 ∨ z ≠ 0) := by
  unfold isB
  rw [ev_eq h1 h2]
  simp
theorem sp_zero {a b c x y z m n k l X Y Z : Int} (h : a * x * x + b * y * y + c * z * z = 0) (hk : k = a * m * m + b * n * n) (hl : l = a * x * m + b * y * n) (hX : X = k * x - 2 * l * m) (hY : Y = k * y - 2 * l * n) (hZ : Z = k * z) : a * X * X + b * Y * Y + c * Z * Z = 0 := by
  have e : a * X * X + b * Y * Y + c * Z * Z = k * k * (a * x * x + b * y * y + c * z * z) - 4 * (k * l) * (a * x * m + b * y * n) + 4 * (l * l) * (a * m * m + b * n * n) := by
    subst hX hY hZ; clear hk hl h; grind
  rw [e, h, ← hk, ← hl]
  grind
theorem ex_div {X S G : Int} (hG : G ∣ X) (hS : S = G ∨ S = -G) (h0 : G ≠ 0) (hX : X.natAbs ≤ 10000000000000) : X = S * wrap64 (X.tdiv S) := by
  have hd : S ∣ X := by
    rcases hS with rfl | rfl
    · exact hG
    · exact Int.neg_dvd.2 hG
  have h1 := tdiv_bd' (a := X) (b := S) (k := 10000000000000) ⟨by omega, by omega⟩
  rw [wrap_id (by omega) (by omega)]
  exact (Int.mul_tdiv_cancel' hd).symm
theorem nn_of {S z : Int} (h : (0 < S ∧ 0 ≤ S * z) ∨ (S < 0 ∧ S * z ≤ 0)) : 0 ≤ z := by
  rcases h with ⟨h1, h2⟩ | ⟨h1, h2⟩
  · refine Int.not_lt.1 fun g => ?_
    have := Int.mul_neg_of_pos_of_neg h1 g
    omega
  · refine Int.not_lt.1 fun g => ?_
    have := Int.mul_pos_of_neg_of_neg h1 g
    omega
/-- what the second point is -/
theorem sp_point {a b c x y z m n : Int} (h : spB a b c x y z m n = true) :
    triB a b c = true ∧ formB (oX a b x y z m n) (oY a b x y z m n) (oZ a b x y z m n) = true ∧ isB a b c (oX a b x y z m n) (oY a b x y z m n) (oZ a b x y z m n) = true ∧ 0 ≤ oZ a b x y z m n ∧ Int.gcd (oX a b x y z m n) (Int.gcd (oY a b x y z m n) (oZ a b x y z m n) : Nat) = 1 := by
  unfold spB spP spO at h
  simp only [Bool.and_eq_true, Bool.not_eq_true', beq_eq_false_iff_ne] at h
  obtain ⟨⟨hall, ht, hi⟩, hg, hf⟩ := h
  have hsm : (-1000 ≤ x ∧ x ≤ 1000) ∧ (-1000 ≤ y ∧ y ≤ 1000) ∧ (-1000 ≤ z ∧ z ≤ 1000) := by
    simp only [List.all_cons, List.all_nil, Bool.and_eq_true, sm_iff, and_true] at hall
    exact ⟨hall.1, hall.2.1, hall.2.2.1⟩
  have hfo : formB x y z = true := formB_iff.2 (by omega)
  obtain ⟨hev, -⟩ := (isB_iff ht hfo).1 hi
  obtain ⟨⟨eX, bX⟩, ⟨eY, bY⟩, eZ, bZ⟩ := sp_eqs ht hall
  have hGe := spG_eq ht hall
  have hGr := spG_rng ht hall
  have hz := sp_zero (m := m) (n := n) (X := spX a b x y m n) (Y := spY a b x y m n) (Z := spZ a b z m n) hev rfl rfl eX eY eZ
  have hS : spS a b x y z m n = spG a b x y z m n ∨ spS a b x y z m n = -spG a b x y z m n := by
    unfold spS
    rw [wrap_id (by omega) (by omega)]
    cases flB (spX a b x y m n) (spY a b x y m n) (spZ a b z m n) with
    | true => rw [cond_true]; omega
    | false => rw [cond_false]; omega
  have hsg : (0 < spS a b x y z m n ∧ 0 ≤ spZ a b z m n) ∨ (spS a b x y z m n < 0 ∧ spZ a b z m n ≤ 0) := by
    have e : spS a b x y z m n = bif flB (spX a b x y m n) (spY a b x y m n) (spZ a b z m n) then wrap64 (0 - spG a b x y z m n) else spG a b x y z m n := rfl
    cases hf : flB (spX a b x y m n) (spY a b x y m n) (spZ a b z m n) with
    | true =>
      rw [hf, cond_true, wrap_id (by omega) (by omega)] at e
      right
      refine ⟨by omega, ?_⟩
      unfold flB at hf
      simp only [Bool.or_eq_true, Bool.and_eq_true, decide_eq_true_eq, beq_iff_eq] at hf
      omega
    | false =>
      rw [hf, cond_false] at e
      left
      refine ⟨by omega, ?_⟩
      unfold flB at hf
      simp only [Bool.or_eq_false_iff, decide_eq_false_iff_not] at hf
      omega
  have dX : spG a b x y z m n ∣ spX a b x y m n := by rw [hGe]; exact Int.gcd_dvd_left ..
  have dYZ : spG a b x y z m n ∣ (Int.gcd (spY a b x y m n) (spZ a b z m n) : Nat) := by rw [hGe]; exact Int.gcd_dvd_right ..
  have dY : spG a b x y z m n ∣ spY a b x y m n := Int.dvd_trans dYZ (Int.gcd_dvd_left ..)
  have dZ : spG a b x y z m n ∣ spZ a b z m n := Int.dvd_trans dYZ (Int.gcd_dvd_right ..)
  have fX : spX a b x y m n = spS a b x y z m n * oX a b x y z m n := ex_div dX hS hg bX
  have fY : spY a b x y m n = spS a b x y z m n * oY a b x y z m n := ex_div dY hS hg bY
  have fZ : spZ a b z m n = spS a b x y z m n * oZ a b x y z m n := ex_div dZ hS hg bZ
  refine ⟨ht, hf, ?_⟩
  rw [isB_iff ht hf]
  generalize oX a b x y z m n = U at *
  generalize oY a b x y z m n = V at *
  generalize oZ a b x y z m n = W at *
  generalize spS a b x y z m n = S at *
  generalize spG a b x y z m n = G at *
  have hS0 : S ≠ 0 := by omega
  refine ⟨⟨?_, ?_⟩, nn_of (S := S) (by rw [← fZ]; exact hsg), ?_⟩
  · rw [fX, fY, fZ] at hz
    have e : S * S * (a * U * U + b * V * V + c * W * W) = 0 := by rw [← hz]; grind
    rcases Int.mul_eq_zero.1 e with h | h
    · exact absurd h (Int.mul_ne_zero hS0 hS0)
    · exact h
  · refine Classical.byContradiction fun h => ?_
    have hu : U = 0 ∧ V = 0 ∧ W = 0 := by omega
    obtain ⟨rfl, rfl, rfl⟩ := hu
    rw [fX, fY, fZ] at hGe
    simp at hGe
    exact hg hGe
  · rw [fX, fY, fZ, Int.gcd_mul_left] at hGe
    have e1 : ((S.natAbs * Int.gcd V W : Nat) : Int).natAbs = S.natAbs * Int.gcd V W := rfl
    have e : Int.gcd (S * U) ((S.natAbs * Int.gcd V W : Nat) : Int) = S.natAbs * Int.gcd U (Int.gcd V W : Nat) := by
      unfold Int.gcd
      rw [Int.natAbs_mul, Int.natAbs_natCast, Nat.gcd_mul_left, Int.natAbs_natCast]
    rw [e] at hGe
    have h5 : G.natAbs = S.natAbs := by omega
    have h6 : S.natAbs = S.natAbs * Int.gcd U (Int.gcd V W : Nat) := by omega
    have h7 : 0 < S.natAbs := by omega
    exact (Nat.eq_of_mul_eq_mul_left h7 (by rw [← h6, Nat.mul_one])).symm
/-! ### small solutions stand in the list -/
theorem rowL_mem {a b c m z y : Int} (h2 : y ≤ m) (hP : slP a b c m y z = true) (y0 : Int) (h1 : y0 ≤ y) : slX a b c y z ∈ rowL a b c m z y0 := by
  fun_induction rowL a b c m z y0 with
  | case1 y0 h ih =>
    rw [List.mem_append]
    by_cases g : y0 = y
    · subst g
      left
      rw [if_pos hP]
      exact List.mem_singleton.2 rfl
    · exact Or.inr (ih (by omega))
  | case2 y0 h => omega
theorem rowL_all {a b c m z : Int} {x : F3} (y0 : Int) (h : x ∈ rowL a b c m z y0) : ∃ y, y0 ≤ y ∧ y ≤ m ∧ slP a b c m y z = true ∧ x = slX a b c y z := by
  fun_induction rowL a b c m z y0 with
  | case1 y0 h0 ih =>
    rw [List.mem_append] at h
    rcases h with h | h
    · split at h
      · rename_i g
        exact ⟨y0, Int.le_refl _, h0, g, List.mem_singleton.1 h⟩
      · cases h
    · obtain ⟨y, h1, h2, h3⟩ := ih h
      exact ⟨y, by omega, h2, h3⟩
  | case2 => cases h
theorem outL_mem {a b c m y z : Int} (hy : 0 ≤ y ∧ y ≤ m) (hz : z ≤ m) (hP : slP a b c m y z = true) (z0 : Int) (h1 : z0 ≤ z) : slX a b c y z ∈ outL a b c m z0 := by
  fun_induction outL a b c m z0 with
  | case1 z0 h ih =>
    rw [List.mem_append]
    by_cases g : z0 = z
    · subst g
      exact Or.inl (rowL_mem hy.2 hP 0 hy.1)
    · exact Or.inr (ih (by omega))
  | case2 z0 h => omega
theorem outL_all {a b c m : Int} {x : F3} (z0 : Int) (h : x ∈ outL a b c m z0) : ∃ y z, (0 ≤ y ∧ y ≤ m) ∧ (z0 ≤ z ∧ z ≤ m) ∧ slP a b c m y z = true ∧ x = slX a b c y z := by
  fun_induction outL a b c m z0 with
  | case1 z0 h0 ih =>
    rw [List.mem_append] at h
    rcases h with h | h
    · obtain ⟨y, h1, h2, h3⟩ := rowL_all 0 h
      exact ⟨y, z0, ⟨h1, h2⟩, ⟨Int.le_refl _, h0⟩, h3⟩
    · obtain ⟨y, z, h1, h2, h3⟩ := ih h
      exact ⟨y, z, h1, ⟨by omega, h2.2⟩, h3⟩
  | case2 => cases h
/-- every listed spot is a solution -/
theorem sol_is {a b c : Int} (ht : triB a b c = true) {x : F3} (h : x ∈ solL a b c 20) : formB x.1 x.2.1 x.2.2 = true ∧ isB a b c x.1 x.2.1 x.2.2 = true := by
  obtain ⟨y, z, hy, hz, hP, rfl⟩ := outL_all 0 h
  unfold slP at hP
  simp only [Bool.and_eq_true, decide_eq_true_eq, beq_iff_eq] at hP
  obtain ⟨hB, hx, hg⟩ := hP
  have hT : Tr a b c y z := ⟨triB_iff ht, ⟨by omega, by omega⟩, by omega, by omega⟩
  obtain ⟨e, h0, h1⟩ := thX_sq hT hB
  have hf : formB (thX a b c y z) y z = true := formB_iff.2 (by omega)
  refine ⟨hf, (isB_iff ht hf).2 ⟨e, ?_⟩⟩
  refine Classical.byContradiction fun h => ?_
  have hu : thX a b c y z = 0 ∧ y = 0 ∧ z = 0 := by omega
  obtain ⟨u1, rfl, rfl⟩ := hu
  rw [u1] at hg
  exact absurd hg (by decide +kernel)
/-- every small solution without a common divisor is listed -/
theorem sol_has {a b c x y z : Int} (ht : triB a b c = true) (hf : formB x y z = true) (hi : isB a b c x y z = true) (hz : 0 ≤ z) (hg : Int.gcd x (Int.gcd y z : Nat) = 1) (hx : 0 ≤ x ∧ x ≤ 20) (hy : 0 ≤ y ∧ y ≤ 20) (hz2 : z ≤ 20) : (x, y, z) ∈ solL a b c 20 := by
  obtain ⟨e, -⟩ := (isB_iff ht hf).1 hi
  have hT : Tr a b c y z := ⟨triB_iff ht, ⟨by omega, by omega⟩, by omega, by omega⟩
  have ha := hT.1.2
  obtain ⟨r1, -⟩ := thR_eq hT
  obtain ⟨q1, q2⟩ := thQ_in hT
  have er : thR b c y z = a * (x * x) := by rw [r1]; grind
  have eq : thQ a b c y z = x * x := by rw [q1, er]; exact Int.mul_tdiv_cancel_left _ ha
  have hB : thB a b c y z = true := by
    unfold thB
    rw [eq, er, Bool.and_eq_true, beq_iff_eq]
    exact ⟨Int.mul_tmod_right .., (sqB_iff (by omega)).2 ⟨x, rfl⟩⟩
  have hX : thX a b c y z = x := by
    rw [thX_yes hB, eq]
    have hxx : 0 ≤ x * x := Int.mul_nonneg hx.1 hx.1
    obtain ⟨s1, s2, s3⟩ := rootI_spec hxx (by omega)
    refine root_uniq s1 hx.1 s2 s3 (Int.le_refl _) ?_
    grind
  have hP : slP a b c 20 y z = true := by
    unfold slP
    rw [hB, hX, decide_eq_true hx.2]
    have h1 := gcd_big (a := y) (b := z) (by omega) (by omega)
    rw [(cont_big (a := x) (b := y) (c := z) (by omega) (by omega) (by omega)).2, hg]
    rfl
  have := outL_mem hy hz2 hP 0 hz
  unfold slX at this
  rw [hX] at this
  exact this
end Go.Proofs.Ytacomnelongbjaa
