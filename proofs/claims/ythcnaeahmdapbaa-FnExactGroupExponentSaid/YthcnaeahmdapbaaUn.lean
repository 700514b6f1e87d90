/-
  Plain laws of united forms: inverses modulo a number, the completed form, and the composite of two reduced forms. Conditions: none; nothing here speaks of the program.
-/
import Derived.Test.YthcnaeahmdapbaaFp
import Derived.Test.YthcnaeahmdapbaaRt
namespace Go.Proofs.Ythcnaeahmdapbaa
open Go Go.RowKit
set_option maxRecDepth 100000
set_option linter.unusedSimpArgs false
set_option linter.unusedVariables false
set_option maxHeartbeats 4000000

/-! ### inverses -/
theorem sub_tdiv (r s : Int) : r - r.tdiv s * s = r.tmod s := by
  have := Int.mul_tdiv_add_tmod r s
  rw [Int.mul_comm (r.tdiv s)]; omega
def egL (r s x y : Int) : Int := if _h : 0 < s then egL s (r - r.tdiv s * s) y (x - r.tdiv s * y) else x
  termination_by s.toNat
  decreasing_by
    rw [sub_tdiv]
    have := Int.tmod_lt_of_pos r _h
    omega
structure EG (a m r s x y X Y e : Int) : Prop where
  e1 : e = 1 ∨ e = -1
  x1 : x = -(e * X)
  y1 : y = e * Y
  X0 : 0 ≤ X
  X1 : X ≤ m
  Y0 : 0 ≤ Y
  Y1 : Y ≤ m
  r0 : 0 < r
  r1 : r ≤ m
  s0 : 0 ≤ s
  s1 : s ≤ m
  k : X * s + Y * r = m
  g : Int.gcd r s = 1
  dx : m ∣ x * a - r
  dy : m ∣ y * a - s
theorem gcd_step {r s : Int} : Int.gcd s (r.tmod s) = Int.gcd r s := by
  unfold Int.gcd
  rw [Int.natAbs_tmod, Nat.gcd_comm, ← Nat.gcd_rec, Nat.gcd_comm]
theorem EG.next {a m r s x y X Y e : Int} (h : EG a m r s x y X Y e) (hs : 0 < s) :
    EG a m s (r - r.tdiv s * s) y (x - r.tdiv s * y) Y (X + r.tdiv s * Y) (-e) ∧ (0 ≤ r.tdiv s ∧ r.tdiv s ≤ m) ∧ (0 ≤ r.tdiv s * s ∧ r.tdiv s * s ≤ m) ∧ (-m ≤ r.tdiv s * y ∧ r.tdiv s * y ≤ m) ∧ (-m ≤ x - r.tdiv s * y ∧ x - r.tdiv s * y ≤ m) := by
  obtain ⟨e1, x1, y1, X0, X1, Y0, Y1, r0, r1, s0, s1, k, g, dx, dy⟩ := h
  have g' : Int.gcd s (r - r.tdiv s * s) = 1 := by rw [sub_tdiv, gcd_step, g]
  have hr : r - r.tdiv s * s = r.tmod s := sub_tdiv r s
  have hr0 : 0 ≤ r.tmod s := Int.tmod_nonneg s (by omega)
  have hr1 : r.tmod s < s := Int.tmod_lt_of_pos r hs
  have hq : 0 ≤ r.tdiv s := Int.tdiv_nonneg (by omega) (by omega)
  generalize r.tmod s = t at *
  generalize r.tdiv s = q at *
  have hqs : 0 ≤ q * s := Int.mul_nonneg hq (by omega)
  have hqY : 0 ≤ q * Y := Int.mul_nonneg hq Y0
  have hq1 : q * 1 ≤ q * s := Int.mul_le_mul_of_nonneg_left (by omega) hq
  have k' : Y * (r - q * s) + (X + q * Y) * s = m := by rw [← k]; grind
  have h1 : 0 ≤ Y * (r - q * s) := Int.mul_nonneg Y0 (by omega)
  have h2 : (X + q * Y) * 1 ≤ (X + q * Y) * s := Int.mul_le_mul_of_nonneg_left (by omega) (by omega)
  have hqy : q * y = q * Y ∨ q * y = -(q * Y) := by
    rcases e1 with e1 | e1
    · left; rw [y1, e1, Int.one_mul]
    · right; rw [y1, e1]; grind
  have hxy : x - q * y = -e * (X + q * Y) := by rw [x1, y1]; grind
  have hxy' : x - q * y = X + q * Y ∨ x - q * y = -(X + q * Y) := by
    rw [hxy]
    rcases e1 with e1 | e1
    · right; rw [e1]; grind
    · left; rw [e1]; grind
  refine ⟨⟨by omega, by rw [y1]; grind, hxy, Y0, Y1, by omega, by omega, hs, s1, by omega, by omega, k', g', dy, ?_⟩, ⟨hq, by omega⟩, ⟨hqs, by omega⟩, ⟨by omega, by omega⟩, by omega, by omega⟩
  have e2 : (x - q * y) * a - (r - q * s) = (x * a - r) - q * (y * a - s) := by grind
  rw [e2]
  exact Int.dvd_sub dx (Int.dvd_mul_of_dvd_right dy)
theorem egL_dvd {a m r s x y X Y e : Int} (h : EG a m r s x y X Y e) : m ∣ egL r s x y * a - 1 := by
  fun_induction egL r s x y generalizing X Y e with
  | case1 r s x y hs ih => exact ih (h.next hs).1
  | case2 r s x y hs =>
    have h0 := h.s0
    have hz : s = 0 := by omega
    subst hz
    have hg := h.g
    rw [Int.gcd_zero_right] at hg
    have hr := h.r0
    have : r = 1 := by omega
    subst this
    exact h.dx
theorem EG.start {a m : Int} (hm : 0 < m) (ha : 0 ≤ a) (hg : Int.gcd a m = 1) : EG a m m (a % m) 0 1 0 1 1 := by
  have h1 := Int.emod_nonneg a (show m ≠ 0 by omega)
  have h2 := Int.emod_lt_of_pos a hm
  refine ⟨.inl rfl, by omega, by omega, by omega, by omega, by omega, by omega, hm, by omega, h1, by omega, by omega, ?_, ?_, ?_⟩
  · rw [← Int.tmod_eq_emod_of_nonneg ha, gcd_step, hg]
  · exact ⟨-1, by omega⟩
  · refine ⟨a / m, ?_⟩
    have := Int.mul_ediv_add_emod a m
    omega
def ivI (a m : Int) : Int := egL m (a % m) 0 1 % m
theorem iv_spec {a m : Int} (hm : 0 < m) (ha : 0 ≤ a) (hg : Int.gcd a m = 1) : (0 ≤ ivI a m ∧ ivI a m < m) ∧ m ∣ ivI a m * a - 1 := by
  have h := egL_dvd (EG.start hm ha hg)
  unfold ivI
  generalize egL m (a % m) 0 1 = z at *
  refine ⟨⟨Int.emod_nonneg z (by omega), Int.emod_lt_of_pos z hm⟩, ?_⟩
  have e1 := Int.mul_ediv_add_emod z m
  have e2 : z % m * a - 1 = (z * a - 1) - m * (z / m * a) := by
    have e3 : z % m = z - m * (z / m) := by omega
    rw [e3]; grind
  rw [e2]
  exact Int.dvd_sub h (Int.dvd_mul_right m _)

/-! ### the completed form -/
def cpS (x y : Int) : Int := if y = 0 then x else ivI x y
def cpQ (x y : Int) : Int := if y = 0 then 0 else (x * ivI x y - 1) / y
def cpT (g : F3) (x y : Int) : Int := -(pl g x y (cpQ x y) (cpS x y) / (2 * vl g x y))
def cpM (g : F3) (x y : Int) : M4 := (x, cpQ x y + cpT g x y * x, y, cpS x y + cpT g x y * y)
def cpF (g : F3) (x y : Int) : F3 := act g (cpM g x y)
theorem cp_det0 {x y : Int} (hx : 0 ≤ x) (hy : 0 ≤ y) (hg : Int.gcd x y = 1) : x * cpS x y - cpQ x y * y = 1 := by
  unfold cpS cpQ
  by_cases h : y = 0
  · subst h
    rw [if_pos rfl, if_pos rfl]
    rw [Int.gcd_zero_right] at hg
    have : x = 1 := by omega
    subst this; rfl
  · rw [if_neg h, if_neg h]
    obtain ⟨_, h2⟩ := iv_spec (a := x) (m := y) (by omega) hx hg
    rw [Int.mul_comm x, Int.ediv_mul_cancel h2]; omega
theorem cpM_det {g : F3} {x y : Int} (hx : 0 ≤ x) (hy : 0 ≤ y) (hg : Int.gcd x y = 1) : det (cpM g x y) = 1 := by
  have h := cp_det0 hx hy hg
  simp only [det, cpM]
  rw [← h]; grind
theorem cpF_1 (g : F3) (x y : Int) : (cpF g x y).1 = vl g x y := rfl
theorem cpF_2 {g : F3} {x y : Int} (hv : 0 < vl g x y) : (cpF g x y).2.1 = pl g x y (cpQ x y) (cpS x y) % (2 * vl g x y) := by
  have e : (cpF g x y).2.1 = pl g x y (cpQ x y) (cpS x y) + 2 * vl g x y * cpT g x y := by
    simp only [cpF, act, cpM, pl, vl]; grind
  rw [e]
  unfold cpT
  have := Int.mul_ediv_add_emod (pl g x y (cpQ x y) (cpS x y)) (2 * vl g x y)
  rw [Int.mul_neg]; omega

/-! ### the first point -/
def okP (g : F3) (n s x y : Int) : Prop := max x y = s ∧ Int.gcd x y = 1 ∧ Int.gcd (vl g x y) n = 1
instance (g : F3) (n s x y : Int) : Decidable (okP g n s x y) := by unfold okP; infer_instance
def fpS (g : F3) (n s x y : Int) : Int × Int :=
  if _h : s ≤ 4000 then (if _h1 : x ≤ s then (if _h2 : y ≤ s then (if okP g n s x y then (x, y) else fpS g n s x (y + 1)) else fpS g n s (x + 1) 0) else fpS g n (s + 1) 0 0) else (1, 0)
  termination_by (4001 - s).toNat * 25000000 + (4002 - x).toNat * 4999 + (4002 - y).toNat
  decreasing_by all_goals omega
theorem fpS_ok {K : Int} (hK : K ≤ 4000) {g : F3} {n x0 y0 : Int} (h0 : FPt K g n x0 y0) (s x y : Int) (hs : 0 ≤ s) (hx : 0 ≤ x) (hy : 0 ≤ y) (hp : s < max x0 y0 ∨ (s = max x0 y0 ∧ (x < x0 ∨ (x = x0 ∧ y ≤ y0)))) : FPt K g n (fpS g n s x y).1 (fpS g n s x y).2 := by
  have a1 := h0.x1
  have a2 := h0.y1
  have a3 := h0.x0
  have a4 := h0.y0
  fun_induction fpS g n s x y with
  | case1 s x y h h1 h2 h3 => exact ⟨hx, by omega, hy, by omega, h3.2.1, h3.2.2⟩
  | case2 s x y h h1 h2 h3 ih =>
    apply ih hs hx (by omega)
    have : ¬ (s = max x0 y0 ∧ x = x0 ∧ y = y0) := by
      rintro ⟨rfl, rfl, rfl⟩
      exact h3 ⟨rfl, h0.xy, h0.v⟩
    omega
  | case3 s x y h h1 h2 ih => exact ih hs (by omega) (by omega) (by omega)
  | case4 s x y h h1 ih => exact ih (by omega) (by omega) (by omega) (by omega)
  | case5 s x y h => omega
def fpX (g : F3) (n : Int) : Int := (fpS g n 0 0 0).1
def fpY (g : F3) (n : Int) : Int := (fpS g n 0 0 0).2
theorem fp_ok {g : F3} (hp : Prim g) {n : Int} (hn : 1 ≤ n ∧ n ≤ 25) : FPt 5 g n (fpX g n) (fpY g n) := by
  obtain ⟨x0, y0, h0⟩ := ex_pt hp hn
  refine fpS_ok (by omega) h0 0 0 0 (by omega) (by omega) (by omega) ?_
  have := h0.x0
  have := h0.y0
  by_cases h : x0 = 0 ∧ y0 = 0
  · have h1 := h0.xy
    rw [h.1, h.2] at h1
    simp at h1
  · omega
theorem fpS_one {g : F3} {n : Int} : fpS g n 0 0 0 = fpS g n 1 0 0 := by
  rw [fpS.eq_def, dif_pos (by omega), dif_pos (by omega), dif_pos (by omega), if_neg (by rintro ⟨_, h, _⟩; simp at h)]
  rw [fpS.eq_def, dif_pos (by omega), dif_pos (by omega), dif_neg (by omega)]
  rw [fpS.eq_def, dif_pos (by omega), dif_neg (by omega)]
  rfl

/-! ### united forms -/
def uE (f g : F3) : Int := vl g (fpX g f.1) (fpY g f.1)
def uH (f g : F3) : F3 := cpF g (fpX g f.1) (fpY g f.1)
def uB1 (f : F3) : Int := f.2.1 % (2 * f.1)
def uT (f g : F3) : Int := ((uH f g).2.1 - uB1 f) / 2 * ivI f.1 (uE f g) % uE f g
def uB (f g : F3) : Int := uB1 f + 2 * f.1 * uT f g
def uS1 (f g : F3) : Int := (uB f g - f.2.1) / (2 * f.1)
def uS2 (f g : F3) : Int := (uB f g - (uH f g).2.1) / (2 * uE f g)
def uC (f g : F3) : Int := (uB f g * uB f g - dsc f) / (4 * f.1 * uE f g)
def uM (f g : F3) : M4 := mul (cpM g (fpX g f.1) (fpY g f.1)) (1, uS2 f g, 0, 1)
/-- reduced, primitive, of a small discriminant -/
structure RP (D : Int) (f : F3) : Prop where
  red : IsRed D f
  prim : Prim f
  lo : -2000 ≤ D
  hi : D ≤ -3
theorem RP.a25 {D : Int} {f : F3} (h : RP D f) : 1 ≤ f.1 ∧ f.1 ≤ 25 := by
  obtain ⟨h1, h2, h3, h4⟩ := h
  obtain ⟨h5, h6⟩ := h1.three
  have ha := h1.a0
  have hl := h1.le
  refine ⟨by omega, ?_⟩
  by_cases hc : f.1 ≤ 25
  · exact hc
  · exfalso
    have k1 : 26 * 26 ≤ f.1 * f.1 := Int.mul_le_mul (by omega) (by omega) (by omega) (by omega)
    have k2 : f.1 * f.1 ≤ f.1 * f.2.2 := Int.mul_le_mul_of_nonneg_left hl (by omega)
    have k3 := h1.d
    have k4 := h1.abs
    have k5 : f.2.1 * f.2.1 ≤ f.1 * f.1 := (sq_in (by omega) k4).2
    have k6 : 4 * f.1 * f.2.2 = 4 * (f.1 * f.2.2) := Int.mul_assoc _ _ _
    omega
theorem RP.c700 {D : Int} {f : F3} (h : RP D f) : 1 ≤ f.2.2 ∧ f.2.2 ≤ 700 := by
  have ⟨a1, a2⟩ := h.a25
  obtain ⟨h1, h2, h3, h4⟩ := h
  have hl := h1.le
  have k3 := h1.d
  have k4 := h1.abs
  have k5 : f.2.1 * f.2.1 ≤ 25 * 25 := (sq_in (by omega) ⟨by omega, by omega⟩).2
  have k6 : 4 * f.1 * f.2.2 = 4 * (f.1 * f.2.2) := Int.mul_assoc _ _ _
  have k7 : 1 * f.2.2 ≤ f.1 * f.2.2 := Int.mul_le_mul_of_nonneg_right a1 (by omega)
  omega
theorem RP.dom {D : Int} {f : F3} (h : RP D f) : f.dom = true := red_domB (by have := h.lo; omega) h.red
theorem RP.dsc {D : Int} {f : F3} (h : RP D f) : Go.Proofs.Ythcnaeahmdapbaa.dsc f = D := by
  have := h.red.d
  unfold Go.Proofs.Ythcnaeahmdapbaa.dsc
  rw [← this]
/-- what the united forms are -/
structure UOk (D : Int) (f g : F3) : Prop where
  e0 : 0 < uE f g
  e1 : uE f g ≤ 35000
  pt : FPt 5 g f.1 (fpX g f.1) (fpY g f.1)
  iv : Int.gcd f.1 (uE f g) = 1
  hB : 0 ≤ (uH f g).2.1 ∧ (uH f g).2.1 < 2 * uE f g
  b1 : 0 ≤ uB1 f ∧ uB1 f < 2 * f.1
  par : ((uH f g).2.1 - uB1 f) % 2 = 0
  t : 0 ≤ uT f g ∧ uT f g < uE f g
  da : uB f g - f.2.1 = 2 * f.1 * uS1 f g
  de : uB f g - (uH f g).2.1 = 2 * uE f g * uS2 f g
  dc : uB f g * uB f g - D = 4 * f.1 * uE f g * uC f g
  f1 : act f (1, uS1 f g, 0, 1) = (f.1, uB f g, uE f g * uC f g)
  g1 : act g (uM f g) = (uE f g, uB f g, f.1 * uC f g)
  mdet : det (uM f g) = 1
theorem vl_small {g : F3} {x y : Int} (ha : 0 ≤ g.1 ∧ g.1 ≤ 25) (hb : -25 ≤ g.2.1 ∧ g.2.1 ≤ 25) (hc : 0 ≤ g.2.2 ∧ g.2.2 ≤ 700) (hx : 0 ≤ x ∧ x ≤ 5) (hy : 0 ≤ y ∧ y ≤ 5) : vl g x y ≤ 35000 := by
  have h1 := mul_bd (a := g.1) (b := x) (j := 25) (k := 5) (by omega) (by omega) ⟨by omega, by omega⟩ ⟨by omega, by omega⟩
  have h2 := mul_bd (a := g.1 * x) (b := x) (j := 125) (k := 5) (by omega) (by omega) ⟨by omega, by omega⟩ ⟨by omega, by omega⟩
  have h3 := mul_bd (a := g.2.1) (b := x) (j := 25) (k := 5) (by omega) (by omega) ⟨by omega, by omega⟩ ⟨by omega, by omega⟩
  have h4 := mul_bd (a := g.2.1 * x) (b := y) (j := 125) (k := 5) (by omega) (by omega) ⟨by omega, by omega⟩ ⟨by omega, by omega⟩
  have h5 := mul_bd (a := g.2.2) (b := y) (j := 700) (k := 5) (by omega) (by omega) ⟨by omega, by omega⟩ ⟨by omega, by omega⟩
  have h6 := mul_bd (a := g.2.2 * y) (b := y) (j := 3500) (k := 5) (by omega) (by omega) ⟨by omega, by omega⟩ ⟨by omega, by omega⟩
  unfold vl
  omega
theorem sq_par {b D k : Int} (h : b * b - D = 4 * k) : b % 2 = D % 2 := by
  have h1 : (b * b) % 2 = D % 2 := by omega
  rw [Int.mul_emod] at h1
  have h2 : b % 2 = 0 ∨ b % 2 = 1 := by omega
  rcases h2 with h | h <;> rw [h] at h1 ⊢ <;> simpa using h1
theorem shift_act (a b c s : Int) : act (a, b, c) (1, s, 0, 1) = (a, b + 2 * a * s, a * s * s + b * s + c) := by
  simp only [act, vl, pl, Prod.mk.injEq]
  refine ⟨by grind, by grind, by grind⟩
theorem uni_ok {D : Int} {f g : F3} (hf : RP D f) (hg : RP D g) : UOk D f g := by
  have pt := fp_ok hg.prim hf.a25
  have ha := hf.a25
  have ga := hg.a25
  have gc := hg.c700
  have gb := hg.red.abs
  have hv0 : 0 < uE f g := by
    have h1 := vl_min (a := g.1) (b := g.2.1) (c := g.2.2) (by omega) gb hg.red.le (x := fpX g f.1) (y := fpY g f.1) (by
      by_cases h : fpX g f.1 = 0
      · by_cases h2 : fpY g f.1 = 0
        · have h3 := pt.xy
          rw [h, h2] at h3
          simp at h3
        · exact .inr h2
      · exact .inl h)
    have : 0 < vl g (fpX g f.1) (fpY g f.1) := by
      have e : (g.1, g.2.1, g.2.2) = g := rfl
      rw [e] at h1; omega
    exact this
  have hv1 : uE f g ≤ 35000 := vl_small ⟨by omega, by omega⟩ ⟨by omega, by omega⟩ ⟨by omega, by omega⟩ ⟨pt.x0, pt.x1⟩ ⟨pt.y0, pt.y1⟩
  have hiv : Int.gcd f.1 (uE f g) = 1 := by rw [Int.gcd_comm]; exact pt.v
  have hB : 0 ≤ (uH f g).2.1 ∧ (uH f g).2.1 < 2 * uE f g := by
    have e : (uH f g).2.1 = _ := cpF_2 hv0
    have hv' : 0 < vl g (fpX g f.1) (fpY g f.1) := hv0
    rw [e]
    exact ⟨Int.emod_nonneg _ (by omega), Int.emod_lt_of_pos _ (by omega)⟩
  have b1 : 0 ≤ uB1 f ∧ uB1 f < 2 * f.1 := ⟨Int.emod_nonneg _ (by omega), Int.emod_lt_of_pos _ (by omega)⟩
  have hH : uH f g = act g (cpM g (fpX g f.1) (fpY g f.1)) := rfl
  have hcd : det (cpM g (fpX g f.1) (fpY g f.1)) = 1 := cpM_det pt.x0 pt.y0 pt.xy
  have hHd : dsc (uH f g) = D := by rw [hH, dsc_act, hcd, hg.dsc]; omega
  have hE : (uH f g).1 = uE f g := rfl
  have hHd' : (uH f g).2.1 * (uH f g).2.1 - D = 4 * (uE f g * (uH f g).2.2) := by
    rw [← hHd]; unfold dsc; rw [hE]; grind
  have hfd : f.2.1 * f.2.1 - D = 4 * (f.1 * f.2.2) := by
    have := hf.dsc; rw [← this]; unfold dsc; grind
  have p1 := sq_par hHd'
  have p2 := sq_par hfd
  have eb := Int.mul_ediv_add_emod f.2.1 (2 * f.1)
  have par : ((uH f g).2.1 - uB1 f) % 2 = 0 := by
    unfold uB1
    have e1 : 2 * f.1 * (f.2.1 / (2 * f.1)) = 2 * (f.1 * (f.2.1 / (2 * f.1))) := Int.mul_assoc _ _ _
    omega
  obtain ⟨⟨iv0, iv1⟩, ⟨j, hj⟩⟩ := iv_spec (a := f.1) (m := uE f g) hv0 (by omega) hiv
  have t : 0 ≤ uT f g ∧ uT f g < uE f g := ⟨Int.emod_nonneg _ (by omega), Int.emod_lt_of_pos _ hv0⟩
  have hda : uB f g - f.2.1 = 2 * f.1 * (uT f g - f.2.1 / (2 * f.1)) := by
    unfold uB uB1
    rw [Int.mul_sub]; omega
  have da : uB f g - f.2.1 = 2 * f.1 * uS1 f g := by
    have e : uS1 f g = uT f g - f.2.1 / (2 * f.1) := by
      unfold uS1
      rw [hda, Int.mul_ediv_cancel_left _ (by omega)]
    rw [e, hda]
  have hk : ∃ z, uB f g - (uH f g).2.1 = 2 * uE f g * z := by
    have e1 := Int.mul_ediv_add_emod (((uH f g).2.1 - uB1 f) / 2 * ivI f.1 (uE f g)) (uE f g)
    have e2 : uT f g = ((uH f g).2.1 - uB1 f) / 2 * ivI f.1 (uE f g) - uE f g * (((uH f g).2.1 - uB1 f) / 2 * ivI f.1 (uE f g) / uE f g) := by
      unfold uT; omega
    have e3 : (uH f g).2.1 - uB1 f = 2 * (((uH f g).2.1 - uB1 f) / 2) := by omega
    unfold uB
    generalize ((uH f g).2.1 - uB1 f) / 2 = k at *
    generalize k * ivI f.1 (uE f g) / uE f g = w at *
    refine ⟨k * j - f.1 * w, ?_⟩
    have e4 : ivI f.1 (uE f g) * f.1 = uE f g * j + 1 := by omega
    have e5 : uB1 f + 2 * f.1 * uT f g - (uH f g).2.1 = 2 * f.1 * uT f g - 2 * k := by omega
    rw [e5, e2]
    have e6 : 2 * f.1 * (k * ivI f.1 (uE f g) - uE f g * w) - 2 * k = 2 * k * (ivI f.1 (uE f g) * f.1) - 2 * k - 2 * f.1 * uE f g * w := by grind
    rw [e6, e4]; grind
  have de : uB f g - (uH f g).2.1 = 2 * uE f g * uS2 f g := by
    obtain ⟨z, hz⟩ := hk
    have e : uS2 f g = z := by
      unfold uS2
      rw [hz, Int.mul_ediv_cancel_left _ (by omega)]
    rw [e, hz]
  have eF : act f (1, uS1 f g, 0, 1) = (f.1, uB f g, f.1 * uS1 f g * uS1 f g + f.2.1 * uS1 f g + f.2.2) := by
    have := shift_act f.1 f.2.1 f.2.2 (uS1 f g)
    have e : f.2.1 + 2 * f.1 * uS1 f g = uB f g := by omega
    rw [e] at this
    exact this
  have eG : act g (uM f g) = (uE f g, uB f g, uE f g * uS2 f g * uS2 f g + (uH f g).2.1 * uS2 f g + (uH f g).2.2) := by
    unfold uM
    rw [← act_mul, ← hH]
    have := shift_act (uH f g).1 (uH f g).2.1 (uH f g).2.2 (uS2 f g)
    have e : (uH f g).2.1 + 2 * uE f g * uS2 f g = uB f g := by omega
    rw [hE, e] at this
    have e2 : uH f g = (uE f g, (uH f g).2.1, (uH f g).2.2) := rfl
    rw [e2]
    exact this
  have dF : uB f g * uB f g - 4 * f.1 * (f.1 * uS1 f g * uS1 f g + f.2.1 * uS1 f g + f.2.2) = D := by
    have h1 : dsc (act f (1, uS1 f g, 0, 1)) = D := by
      rw [dsc_act, hf.dsc]
      simp [det]
    rw [eF] at h1
    exact h1
  have hmd : det (uM f g) = 1 := by
    unfold uM
    rw [det_mul, hcd]
    simp [det]
  have dG : uB f g * uB f g - 4 * uE f g * (uE f g * uS2 f g * uS2 f g + (uH f g).2.1 * uS2 f g + (uH f g).2.2) = D := by
    have h1 : dsc (act g (uM f g)) = D := by rw [dsc_act, hg.dsc, hmd]; omega
    rw [eG] at h1
    exact h1
  generalize hc1 : f.1 * uS1 f g * uS1 f g + f.2.1 * uS1 f g + f.2.2 = c1 at *
  generalize hc2 : uE f g * uS2 f g * uS2 f g + (uH f g).2.1 * uS2 f g + (uH f g).2.2 = c2 at *
  have hcc : f.1 * c1 = uE f g * c2 := by
    have e1 : 4 * f.1 * c1 = 4 * (f.1 * c1) := Int.mul_assoc _ _ _
    have e2 : 4 * uE f g * c2 = 4 * (uE f g * c2) := Int.mul_assoc _ _ _
    omega
  have hc1' : c1 = uE f g * (ivI f.1 (uE f g) * c2 - j * c1) := by
    have e1 : c1 = ivI f.1 (uE f g) * (f.1 * c1) - (ivI f.1 (uE f g) * f.1 - 1) * c1 := by grind
    rw [hcc, hj] at e1
    have e2 : ivI f.1 (uE f g) * (uE f g * c2) - uE f g * j * c1 = uE f g * (ivI f.1 (uE f g) * c2 - j * c1) := by grind
    rw [e2] at e1
    exact e1
  generalize ivI f.1 (uE f g) * c2 - j * c1 = c at *
  have dc : uB f g * uB f g - D = 4 * f.1 * uE f g * c := by
    rw [hc1'] at dF
    have e1 : 4 * f.1 * (uE f g * c) = 4 * f.1 * uE f g * c := by grind
    omega
  have hC : uC f g = c := by
    unfold uC
    rw [hf.dsc, dc, Int.mul_ediv_cancel_left]
    have := Int.mul_pos (show 0 < 4 * f.1 by omega) hv0
    omega
  have hc2' : c2 = f.1 * c := by
    have e1 : uE f g * c2 = uE f g * (f.1 * c) := by rw [← hcc, hc1']; grind
    exact Int.eq_of_mul_eq_mul_left (by omega) e1
  exact ⟨hv0, hv1, pt, hiv, hB, b1, par, t, da, de, by rw [hC]; exact dc, by rw [eF, hC, hc1'], by rw [eG, hC, hc2'], hmd⟩

/-! ### the composite -/
def uF (f g : F3) : F3 := (f.1 * uE f g, uB f g, uC f g)
def cmp (f g : F3) : F3 := rdx (uF f g)
theorem uB_bd {D : Int} {f g : F3} (hf : RP D f) (hg : RP D g) : 0 ≤ uB f g ∧ uB f g < 2 * f.1 * uE f g := by
  have u := uni_ok hf hg
  have ha := hf.a25
  have h1 := u.b1
  have h2 := u.t
  have h3 : 0 ≤ 2 * f.1 * uT f g := Int.mul_nonneg (by omega) h2.1
  have h4 : 2 * f.1 * uT f g ≤ 2 * f.1 * (uE f g - 1) := Int.mul_le_mul_of_nonneg_left (by omega) (by omega)
  have h5 : 2 * f.1 * (uE f g - 1) = 2 * f.1 * uE f g - 2 * f.1 := by grind
  unfold uB
  omega
theorem aE_bd {D : Int} {f g : F3} (hf : RP D f) (hg : RP D g) : 1 ≤ f.1 * uE f g ∧ f.1 * uE f g ≤ 875000 := by
  have u := uni_ok hf hg
  have ha := hf.a25
  have h1 := u.e0
  have h2 := u.e1
  have h3 := Int.mul_pos (show 0 < f.1 by omega) h1
  have h4 := mul_bd (a := f.1) (b := uE f g) (j := 25) (k := 35000) (by omega) (by omega) ⟨by omega, by omega⟩ ⟨by omega, by omega⟩
  omega
theorem uC_bd {D : Int} {f g : F3} (hf : RP D f) (hg : RP D g) : 1 ≤ uC f g ∧ uC f g ≤ 876000 := by
  have u := uni_ok hf hg
  have ⟨h1, h2⟩ := uB_bd hf hg
  have ⟨h3, h4⟩ := aE_bd hf hg
  have h5 := u.dc
  have hlo := hf.lo
  have hhi := hf.hi
  have e1 : 4 * f.1 * uE f g * uC f g = 4 * (f.1 * uE f g * uC f g) := by grind
  have e2 : 2 * f.1 * uE f g = 2 * (f.1 * uE f g) := Int.mul_assoc _ _ _
  rw [e1] at h5
  rw [e2] at h2
  generalize f.1 * uE f g = n at *
  generalize uB f g = b at *
  generalize uC f g = c at *
  have h6 := sq_nonneg b
  have hc : 0 < c := by
    have : 0 < n * c := by omega
    exact Int.pos_of_mul_pos_right this (by omega)
  refine ⟨by omega, ?_⟩
  by_cases hcc : c ≤ 876000
  · exact hcc
  · exfalso
    have k1 : b * b ≤ (2 * n) * (2 * n) := Int.mul_le_mul (by omega) (by omega) (by omega) (by omega)
    have k2 : n * (n + 1000) ≤ n * c := Int.mul_le_mul_of_nonneg_left (by omega) (by omega)
    have k3 : (2 * n) * (2 * n) = 4 * (n * n) := by grind
    have k4 : n * (n + 1000) = n * n + n * 1000 := Int.mul_add _ _ _
    omega
theorem uF_ok {D : Int} {f g : F3} (hf : RP D f) (hg : RP D g) : (uF f g).dom = true ∧ Prim (uF f g) ∧ dsc (uF f g) = D ∧ Tied f g (uF f g) := by
  have u := uni_ok hf hg
  have ⟨h1, h2⟩ := uB_bd hf hg
  have ⟨h3, h4⟩ := aE_bd hf hg
  have ⟨h5, h6⟩ := uC_bd hf hg
  have e1 : Eqv f (f.1, uB f g, uE f g * uC f g) := ⟨_, by simp [det], u.f1⟩
  have e2 : Eqv g (uE f g, uB f g, f.1 * uC f g) := ⟨_, u.mdet, u.g1⟩
  have hD : dsc (uF f g) = D := by
    have := u.dc
    unfold dsc uF
    simp only
    have e : 4 * (f.1 * uE f g) * uC f g = 4 * f.1 * uE f g * uC f g := by grind
    omega
  have e3 : 2 * f.1 * uE f g = 2 * (f.1 * uE f g) := Int.mul_assoc _ _ _
  refine ⟨domB_iff.2 ⟨by simp only [uF]; omega, by simp only [uF]; omega, ?_, by simp only [uF]; omega, by simp only [uF]; omega, by simp only [uF]; omega⟩, prim_comp (hf.prim.eqv e1) (hg.prim.eqv e2), hD, ((tied_comp f.1 (uE f g) (uB f g) (uC f g)).act1 e1.symm).act2 e2.symm⟩
  have := hf.hi
  unfold dsc at hD
  omega
theorem cmp_rp {D : Int} {f g : F3} (hf : RP D f) (hg : RP D g) : RP D (cmp f g) := by
  obtain ⟨h1, h2, h3, h4⟩ := uF_ok hf hg
  have h5 := rdx_red h1
  rw [h3] at h5
  exact ⟨h5, h2.eqv (eqv_rdx _), hf.lo, hf.hi⟩
theorem cmp_tied {D : Int} {f g : F3} (hf : RP D f) (hg : RP D g) : Tied f g (cmp f g) := (uF_ok hf hg).2.2.2.act3 (eqv_rdx _)
theorem rp_unique {D : Int} {f g : F3} (hf : RP D f) (hg : RP D g) (h : Eqv f g) : f = g := by
  obtain ⟨m, h1, h2⟩ := h
  exact red_unique hf.red hg.red h1 h2
/-- a factor is told by the composite -/
theorem cmp_inj {D : Int} {p q f : F3} (hp : RP D p) (hq : RP D q) (hf : RP D f) (h : cmp p f = cmp q f) : p = q := by
  have h1 := cmp_tied hp hf
  have h2 := cmp_tied hq hf
  rw [h] at h1
  exact rp_unique hp hq (h1.cancel h2 hf.prim)
end Go.Proofs.Ythcnaeahmdapbaa
