/-
  Contract of the points at which a form has a value, as the program finds them. Conditions: none.
-/
import Derived.Test.YtacomnelongbjabRt
import Derived.Test.YtacomnelongbjabLst2
namespace Go.Proofs.Ytacomnelongbjab
open Go Go.RowKit
set_option maxRecDepth 100000
set_option linter.unusedSimpArgs false
set_option linter.unusedVariables false
set_option maxHeartbeats 4000000

theorem fp_snoc2 (L : List P2) (x y : Int) : fp L ++ [[x, y]] = fp (L ++ [(x, y)]) := fp_snoc L (x, y)
/-- a definite form of this chapter and a value -/
structure Vd (f : F3) (n : Int) : Prop where
  a0 : 0 < f.1
  a1 : f.1 ≤ 1000000
  b : -1000000 ≤ f.2.1 ∧ f.2.1 ≤ 1000000
  c0 : 0 < f.2.2
  c1 : f.2.2 ≤ 1000000
  d : -2000 ≤ dsc f ∧ dsc f ≤ -3
  n0 : 1 ≤ n
  n1 : n ≤ 10000
def rtX (f : F3) (n x : Int) : Int := dsc f * x * x + 4 * f.2.2 * n
def px (f : F3) (n x : Int) : List P2 :=
  if sqB (rtX f n x) = true then (if (-f.2.1 * x - rootI (rtX f n x)).tmod (2 * f.2.2) = 0 then [(x, (-f.2.1 * x - rootI (rtX f n x)).tdiv (2 * f.2.2))] else []) ++
    (if 0 < rootI (rtX f n x) ∧ (-f.2.1 * x + rootI (rtX f n x)).tmod (2 * f.2.2) = 0 then [(x, (-f.2.1 * x + rootI (rtX f n x)).tdiv (2 * f.2.2))] else []) else []
def ptL (f : F3) (n hi x : Int) : List P2 := if _h : x ≤ hi then px f n x ++ ptL f n hi (x + 1) else []
  termination_by (hi + 1 - x).toNat
  decreasing_by omega
def ptB (f : F3) (n : Int) : Int := rootI ((4 * f.2.2 * n).tdiv (-dsc f))
def ptI (f : F3) (n : Int) : List P2 := ptL f n (ptB f n) (-ptB f n)
theorem px_len (f : F3) (n x : Int) : (px f n x).length ≤ 2 := by
  unfold px
  split
  · rw [List.length_append]
    split <;> split <;> simp
  · simp
theorem ptL_len (f : F3) (n hi x : Int) : (ptL f n hi x).length ≤ 2 * (hi + 1 - x).toNat := by
  fun_induction ptL f n hi x with
  | case1 x h ih =>
    rw [List.length_append]
    have := px_len f n x
    omega
  | case2 x h => simp
theorem tdiv_bd {a b k : Int} (h : -k ≤ a ∧ a ≤ k) : -k ≤ a.tdiv b ∧ a.tdiv b ≤ k := by
  have h1 : (a.tdiv b).natAbs ≤ a.natAbs := by rw [Int.natAbs_tdiv]; exact Nat.div_le_self _ _
  omega
theorem Vd.four {f : F3} {n : Int} (h : Vd f n) : 0 ≤ 4 * f.2.2 * n ∧ 4 * f.2.2 * n ≤ 40000000000 ∧ 4 * f.2.2 ≤ 4000000 := by
  have h1 := h.c0; have h2 := h.c1; have h3 := h.n0; have h4 := h.n1
  have h5 := mul_bd (a := 4 * f.2.2) (b := n) (j := 4000000) (k := 10000) (by omega) (by omega) ⟨by omega, by omega⟩ ⟨by omega, by omega⟩
  have h6 : 0 ≤ 4 * f.2.2 * n := Int.mul_nonneg (by omega) (by omega)
  omega
theorem Vd.bound {f : F3} {n : Int} (h : Vd f n) : 0 ≤ ptB f n ∧ ptB f n ≤ 200000 := by
  obtain ⟨h1, h2, _⟩ := h.four
  have h3 := h.d
  have h4 := tdiv_bd (a := 4 * f.2.2 * n) (b := -dsc f) (k := 40000000000) ⟨by omega, h2⟩
  have h5 : 0 ≤ (4 * f.2.2 * n).tdiv (-dsc f) := Int.tdiv_nonneg h1 (by omega)
  exact ⟨(rootI_spec h5 (by omega)).1, root_le h5 (by omega) (by omega) (by omega)⟩
theorem Vd.rt {f : F3} {n x : Int} (h : Vd f n) (hx : -200001 ≤ x ∧ x ≤ 200001) : -90000000000000 ≤ dsc f * x ∧ dsc f * x ≤ 90000000000000 ∧ -90000000000000 ≤ dsc f * x * x ∧ dsc f * x * x ≤ 90000000000000 ∧ rtX f n x ≤ 40000000000 ∧ -90000000000000 ≤ rtX f n x := by
  obtain ⟨h1, h2, _⟩ := h.four
  have h3 := h.d
  have h5 := mul_bd (a := dsc f) (b := x) (j := 2000) (k := 200001) (by omega) (by omega) ⟨by omega, by omega⟩ hx
  have h6 := mul_bd (a := dsc f * x) (b := x) (j := 400002000) (k := 200001) (by omega) (by omega) ⟨by omega, by omega⟩ hx
  have h7 : dsc f * x * x = dsc f * (x * x) := Int.mul_assoc _ _ _
  have h8 : dsc f * (x * x) ≤ 0 := Int.mul_nonpos_of_nonpos_of_nonneg (by omega) (sq_nonneg x)
  unfold rtX
  omega
theorem Vd.root_in {f : F3} {n x : Int} (h : Vd f n) (hx : -200001 ≤ x ∧ x ≤ 200001) (hs : sqB (rtX f n x) = true) : 0 ≤ rootI (rtX f n x) ∧ rootI (rtX f n x) ≤ 200000 := by
  obtain ⟨_, _, _, _, h1, _⟩ := h.rt hx
  have h0 : 0 ≤ rtX f n x := by
    simp only [sqB, Bool.and_eq_true, decide_eq_true_eq] at hs
    exact hs.1
  exact ⟨(rootI_spec h0 (by omega)).1, root_le h0 (by omega) (by omega) (by omega)⟩
theorem Vd.bx {f : F3} {n x : Int} (h : Vd f n) (hx : -200001 ≤ x ∧ x ≤ 200001) : -300000000000 ≤ -f.2.1 * x ∧ -f.2.1 * x ≤ 300000000000 := by
  have h1 := h.b
  have h5 := mul_bd (a := -f.2.1) (b := x) (j := 1000000) (k := 200001) (by omega) (by omega) ⟨by omega, by omega⟩ hx
  omega
theorem shown_dsc {a b c : Int} (h : shownB a b c = true) : discI a b c = dsc (a, b, c) ∧ -2000 ≤ dsc (a, b, c) ∧ dsc (a, b, c) ≤ -3 ∧ (dsc (a, b, c) % 4 = 0 ∨ dsc (a, b, c) % 4 = 1) := by
  simp only [shownB, defB, formB, Bool.and_eq_true, areB_iff, decide_eq_true_eq] at h
  obtain ⟨⟨⟨h1, h2, h3⟩, h4, _⟩, h6⟩ := h
  have e : discI a b c = dsc (a, b, c) := disc_id h1 h2 h3
  rw [e] at h4 h6
  have h7 : dsc (a, b, c) = b * b - 4 * (a * c) := by unfold dsc; simp only; rw [Int.mul_assoc]
  have h8 : (b * b) % 4 = 0 ∨ (b * b) % 4 = 1 := by
    rw [Int.mul_emod]
    have h9 : b % 4 = 0 ∨ b % 4 = 1 ∨ b % 4 = 2 ∨ b % 4 = 3 := by omega
    rcases h9 with h | h | h | h <;> rw [h] <;> simp
  exact ⟨e, h6, by omega, by omega⟩
def vdB (f : F3) (n : Int) : Prop := Vd f n
theorem shown_vd {a b c n : Int} (h : shownB a b c = true) (hn : 1 ≤ n ∧ n ≤ 10000) : Vd (a, b, c) n := by
  obtain ⟨_, h1, h2, _⟩ := shown_dsc h
  have hd := domB_iff.1 (shown_domB h)
  simp only [shownB, defB, formB, Bool.and_eq_true, areB_iff, decide_eq_true_eq] at h
  obtain ⟨⟨⟨g1, g2, g3⟩, g4, _⟩, g6⟩ := h
  exact ⟨hd.a0, g1.2, g2, hd.c0, g3.2, ⟨h1, h2⟩, hn.1, hn.2⟩
theorem red_vd {d : Int} {x : F3} {n : Int} (hd : -2000 ≤ d ∧ d ≤ -3) (h : IsRed d x) (hn : 1 ≤ n ∧ n ≤ 10000) : Vd x n := by
  have hs := h.small hd.1
  have e : dsc x = d := h.d
  exact ⟨by omega, by omega, by omega, by omega, by omega, by omega, hn.1, hn.2⟩
theorem Vd.disc {a b c n : Int} (h : Vd (a, b, c) n) : discI a b c = dsc (a, b, c) := by
  have h1 := h.a0; have h2 := h.a1; have h3 := h.b; have h4 := h.c0; have h5 := h.c1
  exact disc_id ⟨by simp only at h1; omega, h2⟩ h3 ⟨by simp only at h4; omega, h5⟩
-- (not in this seat: Points)

/-! ### what the list holds -/
theorem vl_iff {f : F3} {n x y : Int} (hc : 0 < f.2.2) : vl f x y = n ↔ (2 * f.2.2 * y + f.2.1 * x) * (2 * f.2.2 * y + f.2.1 * x) = rtX f n x := by
  have e : (2 * f.2.2 * y + f.2.1 * x) * (2 * f.2.2 * y + f.2.1 * x) - rtX f n x = 4 * f.2.2 * (vl f x y - n) := by unfold rtX vl dsc; grind
  constructor
  · intro h
    rw [h, Int.sub_self, Int.mul_zero] at e
    omega
  · intro h
    rw [h, Int.sub_self] at e
    have h2 : vl f x y - n = 0 := by
      rcases Int.mul_eq_zero.1 e.symm with h3 | h3
      · omega
      · exact h3
    omega
theorem sq_root {r s : Int} (hr : 0 ≤ r) (h : s * s = r * r) : s = r ∨ s = -r := by
  have h1 : (s - r) * (s + r) = 0 := by grind
  rcases Int.mul_eq_zero.1 h1 with h | h <;> omega
theorem div_iff {u c y : Int} (hc : 0 < c) : (u.tmod c = 0 ∧ u.tdiv c = y) ↔ u = c * y := by
  constructor
  · rintro ⟨h1, h2⟩
    have := Int.mul_tdiv_add_tmod u c
    rw [h1, h2] at this
    omega
  · rintro rfl
    exact ⟨Int.mul_tmod_right _ _, Int.mul_tdiv_cancel_left _ (by omega)⟩
theorem mem_px {f : F3} {n : Int} (hv : Vd f n) {x : Int} (hx : -200001 ≤ x ∧ x ≤ 200001) {p : P2} : p ∈ px f n x ↔ p.1 = x ∧ vl f x p.2 = n := by
  obtain ⟨p1, y⟩ := p
  have hc := hv.c0
  obtain ⟨_, _, _, _, r5, r6⟩ := hv.rt hx
  simp only
  rw [vl_iff hc]
  unfold px
  cases hs : sqB (rtX f n x) with
  | false =>
    rw [if_neg (by simp)]
    constructor
    · intro h; cases h
    · rintro ⟨_, h⟩
      have : sqB (rtX f n x) = true := (sqB_iff (by omega)).2 ⟨_, h⟩
      rw [this] at hs; cases hs
  | true =>
    rw [if_pos rfl]
    obtain ⟨q, hq⟩ := (sqB_iff (by omega)).1 hs
    have h0 : 0 ≤ rtX f n x := by rw [← hq]; exact sq_nonneg q
    obtain ⟨b1, b2, b3⟩ := rootI_spec h0 (by omega)
    have hr2 : rootI (rtX f n x) * rootI (rtX f n x) = rtX f n x := by
      have h4 : ((q.natAbs : Int)) * (q.natAbs : Int) = q * q := Int.natAbs_mul_self' q
      have h6 : ((q.natAbs : Int) + 1) * ((q.natAbs : Int) + 1) = (q.natAbs : Int) * (q.natAbs : Int) + 2 * (q.natAbs : Int) + 1 := by grind
      rw [root_uniq (s := q.natAbs) b1 (by omega) b2 b3 (by omega) (by omega)]
      omega
    generalize rootI (rtX f n x) = r at *
    have key : ∀ s : Int, (-f.2.1 * x + s).tmod (2 * f.2.2) = 0 ∧ (-f.2.1 * x + s).tdiv (2 * f.2.2) = y ↔ 2 * f.2.2 * y + f.2.1 * x = s := by
      intro s
      rw [div_iff (by omega)]
      have : -f.2.1 * x = -(f.2.1 * x) := by grind
      omega
    have km := key (-r)
    have kp := key r
    rw [← Int.sub_eq_add_neg] at km
    rw [List.mem_append, ← hr2]
    constructor
    · rintro (h | h)
      · split at h
        · rename_i h1
          simp only [List.mem_singleton, Prod.mk.injEq] at h
          refine ⟨h.1, ?_⟩
          rw [km.1 ⟨h1, h.2.symm⟩]; grind
        · cases h
      · split at h
        · rename_i h1
          simp only [List.mem_singleton, Prod.mk.injEq] at h
          refine ⟨h.1, ?_⟩
          rw [kp.1 ⟨h1.2, h.2.symm⟩]
        · cases h
    · rintro ⟨rfl, h⟩
      rcases sq_root b1 h with h1 | h1
      · by_cases hr0 : r = 0
        · subst hr0
          left
          have := km.2 (by omega)
          rw [if_pos this.1, List.mem_singleton, this.2]
        · right
          have := kp.2 h1
          rw [if_pos ⟨by omega, this.1⟩, List.mem_singleton, this.2]
      · left
        have := km.2 h1
        rw [if_pos this.1, List.mem_singleton, this.2]
theorem mem_ptL {f : F3} {n : Int} (hv : Vd f n) {hi : Int} (hh : hi ≤ 200000) {p : P2} (x : Int) (hx : -200000 ≤ x) : p ∈ ptL f n hi x ↔ (x ≤ p.1 ∧ p.1 ≤ hi) ∧ vl f p.1 p.2 = n := by
  fun_induction ptL f n hi x with
  | case1 x h ih =>
    rw [List.mem_append, ih (by omega), mem_px hv ⟨by omega, by omega⟩]
    constructor
    · rintro (⟨h1, h2⟩ | ⟨h1, h2⟩)
      · subst h1; exact ⟨⟨Int.le_refl _, h⟩, h2⟩
      · exact ⟨by omega, h2⟩
    · rintro ⟨h1, h2⟩
      by_cases hp : p.1 = x
      · left; rw [← hp]; exact ⟨rfl, h2⟩
      · right; exact ⟨by omega, h2⟩
  | case2 x h =>
    constructor
    · intro h1; cases h1
    · rintro ⟨h1, _⟩; omega
/-- THE POINTS ARE ALL POINTS. -/
theorem mem_ptI {f : F3} {n : Int} (hv : Vd f n) {p : P2} : p ∈ ptI f n ↔ vl f p.1 p.2 = n := by
  obtain ⟨g1, g2⟩ := hv.bound
  unfold ptI
  rw [mem_ptL hv g2 _ (by omega)]
  constructor
  · exact fun h => h.2
  · intro h
    refine ⟨?_, h⟩
    have h1 := (vl_iff hv.c0).1 h
    have h2 := sq_nonneg (2 * f.2.2 * p.2 + f.2.1 * p.1)
    rw [h1] at h2
    have hd := hv.d
    -- x x ≤ 4 C n / -d
    have h3 : rtX f n p.1 = dsc f * (p.1 * p.1) + 4 * f.2.2 * n := by unfold rtX; grind
    obtain ⟨f1, f2, _⟩ := hv.four
    have h4 : p.1 * p.1 ≤ (4 * f.2.2 * n).tdiv (-dsc f) := by
      rw [Int.tdiv_eq_ediv_of_nonneg f1]
      apply (Int.le_ediv_iff_mul_le (by omega)).2
      have : p.1 * p.1 * -dsc f = -(dsc f * (p.1 * p.1)) := by grind
      omega
    have h5 : (4 * f.2.2 * n).tdiv (-dsc f) ≤ 40000000000 := (tdiv_bd (a := 4 * f.2.2 * n) (b := -dsc f) (k := 40000000000) ⟨by omega, f2⟩).2
    have h6 : 0 ≤ (4 * f.2.2 * n).tdiv (-dsc f) := Int.tdiv_nonneg f1 (by omega)
    obtain ⟨b1, b2, b3⟩ := rootI_spec h6 (by omega)
    have h7 : rootI ((4 * f.2.2 * n).tdiv (-dsc f)) = ptB f n := rfl
    rw [h7] at b1 b2 b3
    -- |x| ≤ bound
    constructor
    · by_cases hc : -ptB f n ≤ p.1
      · exact hc
      · exfalso
        have : (ptB f n + 1) * (ptB f n + 1) ≤ (-p.1) * (-p.1) := Int.mul_le_mul (by omega) (by omega) (by omega) (by omega)
        have : (-p.1) * (-p.1) = p.1 * p.1 := by grind
        omega
    · by_cases hc : p.1 ≤ ptB f n
      · exact hc
      · exfalso
        have : (ptB f n + 1) * (ptB f n + 1) ≤ p.1 * p.1 := Int.mul_le_mul (by omega) (by omega) (by omega) (by omega)
        omega
end Go.Proofs.Ytacomnelongbjab
