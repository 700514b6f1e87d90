/-
  Contracts of the composition of forms, on both sides. Conditions: none.
-/
import Derived.Test.YtclpoenfcpefmaaUn
import Derived.Test.YtclpoenfcpefmaaInv
import Derived.Test.YtclpoenfcpefmaaIte
namespace Go.Proofs.Ytclpoenfcpefmaa
open Go Go.RowKit
set_option maxRecDepth 100000
set_option linter.unusedSimpArgs false
set_option linter.unusedVariables false
set_option maxHeartbeats 4000000

def IvP (a m : Int) : Prop := (0 ≤ a ∧ a ≤ 1000000000) ∧ (1 ≤ m ∧ m ≤ 1000000000) ∧ Int.gcd a m = 1
theorem EG.wraps {a m r s x y X Y e : Int} (h : EG a m r s x y X Y e) (hs : 0 < s) (hm : m ≤ 1000000000) :
    wrap64 (r.tdiv s) = r.tdiv s ∧ wrap64 (r.tdiv s * s) = r.tdiv s * s ∧ wrap64 (r - r.tdiv s * s) = r - r.tdiv s * s ∧ wrap64 (r.tdiv s * y) = r.tdiv s * y ∧ wrap64 (x - r.tdiv s * y) = x - r.tdiv s * y := by
  obtain ⟨h1, ⟨h2, h3⟩, ⟨h4, h5⟩, ⟨h6, h7⟩, h8, h9⟩ := h.next hs
  have k1 := h.r0
  have k2 := h.r1
  exact ⟨wrap_id (by omega) (by omega), wrap_id (by omega) (by omega), wrap_id (by omega) (by omega), wrap_id (by omega) (by omega), wrap_id (by omega) (by omega)⟩
theorem EG.less {a m r s x y X Y e : Int} (h : EG a m r s x y X Y e) (hs : 0 < s) : (r - r.tdiv s * s).toNat < s.toNat := by
  rw [sub_tdiv]
  have := Int.tmod_lt_of_pos r hs
  omega
theorem ivI_end {a m r s x y : Int} (h : egL r s x y = egL m (a % m) 0 1) (hs : ¬ 0 < s) : ivI a m = x % m := by
  unfold ivI
  rw [← h, egL.eq_def, dif_neg hs]
-- (not in this seat: NuInv)
-- (not in this seat: Inv2)
/-! ### the first point -/
structure FpPre (K a b c n : Int) : Prop where
  a1 : -1000 ≤ a ∧ a ≤ 1000
  b1 : -1000 ≤ b ∧ b ≤ 1000
  c1 : -1000 ≤ c ∧ c ≤ 1000
  n1 : -1000000 ≤ n ∧ n ≤ 1000000
  k1 : K ≤ 4000
  ex : ∃ x0 y0, FPt K (a, b, c) n x0 y0
theorem val_mid {A B C u v : Int} (hA : -1000 ≤ A ∧ A ≤ 1000) (hB : -1000 ≤ B ∧ B ≤ 1000) (hC : -1000 ≤ C ∧ C ≤ 1000) (hu : 0 ≤ u ∧ u ≤ 4000) (hv : 0 ≤ v ∧ v ≤ 4000) : valI A B C u v = vl (A, B, C) u v ∧ (vl (A, B, C) u v).natAbs ≤ 1000000000000000 := by
  have h1 := mul_bd (a := A) (b := u) (j := 1000) (k := 4000) (by omega) (by omega) ⟨by omega, by omega⟩ ⟨by omega, by omega⟩
  have h2 := mul_bd (a := A * u) (b := u) (j := 4000000) (k := 4000) (by omega) (by omega) ⟨by omega, by omega⟩ ⟨by omega, by omega⟩
  have h3 := mul_bd (a := B) (b := u) (j := 1000) (k := 4000) (by omega) (by omega) ⟨by omega, by omega⟩ ⟨by omega, by omega⟩
  have h4 := mul_bd (a := B * u) (b := v) (j := 4000000) (k := 4000) (by omega) (by omega) ⟨by omega, by omega⟩ ⟨by omega, by omega⟩
  have h5 := mul_bd (a := C) (b := v) (j := 1000) (k := 4000) (by omega) (by omega) ⟨by omega, by omega⟩ ⟨by omega, by omega⟩
  have h6 := mul_bd (a := C * v) (b := v) (j := 4000000) (k := 4000) (by omega) (by omega) ⟨by omega, by omega⟩ ⟨by omega, by omega⟩
  have e : valI A B C u v = vl (A, B, C) u v := by
    rw [valI_eq, wrap_id (by omega) (by omega)]; rfl
  refine ⟨e, ?_⟩
  unfold vl
  simp only
  omega
theorem wrap_s {x : Int} (h : 0 ≤ x ∧ x ≤ 5000) : wrap64 (x + 1) = x + 1 := wrap_id (by omega) (by omega)
theorem fpS_hit {g : F3} {n s x y : Int} (h : s ≤ 4000 ∧ x ≤ s ∧ y ≤ s) (ho : okP g n s x y) : fpS g n s x y = (x, y) := by
  rw [fpS.eq_def, dif_pos h.1, dif_pos h.2.1, dif_pos h.2.2, if_pos ho]
theorem fpS_miss {g : F3} {n s x y : Int} (h : s ≤ 4000 ∧ x ≤ s ∧ y ≤ s) (ho : ¬ okP g n s x y) : fpS g n s x y = fpS g n s x (y + 1) := by
  rw [fpS.eq_def, dif_pos h.1, dif_pos h.2.1, dif_pos h.2.2, if_neg ho]
theorem fpS_col {g : F3} {n s x y : Int} (h : s ≤ 4000 ∧ x ≤ s ∧ ¬ y ≤ s) : fpS g n s x y = fpS g n s (x + 1) 0 := by
  rw [fpS.eq_def, dif_pos h.1, dif_pos h.2.1, dif_neg h.2.2]
theorem fpS_size {g : F3} {n s x y : Int} (h : s ≤ 4000 ∧ ¬ x ≤ s) : fpS g n s x y = fpS g n (s + 1) 0 0 := by
  rw [fpS.eq_def, dif_pos h.1, dif_neg h.2]
/-- the place (s, x, y) is not behind the place (m, x0, y0) -/
def Bef (m x0 y0 s x y : Int) : Prop := s < m ∨ (s = m ∧ (x < x0 ∨ (x = x0 ∧ y ≤ y0)))
theorem Bef.next {m x0 y0 s x y : Int} (h : Bef m x0 y0 s x y) (hne : ¬ (s = m ∧ x = x0 ∧ y = y0)) : Bef m x0 y0 s x (y + 1) := by unfold Bef at *; omega
theorem Bef.col {m x0 y0 s x y : Int} (h : Bef m x0 y0 s x y) (h1 : ¬ y ≤ s) (h2 : y0 ≤ m) (h3 : 0 ≤ y0) : Bef m x0 y0 s (x + 1) 0 := by unfold Bef at *; omega
theorem Bef.size {m x0 y0 s x : Int} (h : Bef m x0 y0 s x 0) (h1 : ¬ x ≤ s) (h2 : x0 ≤ m) (h3 : 0 ≤ x0 ∧ 0 ≤ y0) : Bef m x0 y0 (s + 1) 0 0 := by unfold Bef at *; omega
theorem Bef.le {m x0 y0 s x y : Int} (h : Bef m x0 y0 s x y) : s ≤ m := by unfold Bef at h; omega
-- (not in this seat: FirstPoint)
theorem most_max (x y : Int) : mostI x y = max x y := by unfold mostI; split <;> omega
-- (not in this seat: CoPoint)
end Go.Proofs.Ytclpoenfcpefmaa
