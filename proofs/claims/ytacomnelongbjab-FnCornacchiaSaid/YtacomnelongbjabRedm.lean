/-
  Plain laws of the reduction of a definite form: what a step gives, and that it ends. Conditions: none; nothing here speaks of the program.
-/
import Derived.Test.YtacomnelongbjabForm
namespace Go.Proofs.Ytacomnelongbjab
open Go Go.RowKit

theorem wrap_id {n : Int} (h1 : -9223372036854775808 ≤ n) (h2 : n ≤ 9223372036854775807) : wrap64 n = n := IntWalk.wrap64_in n ⟨h1, h2⟩
theorem wrap_mod (n : Int) : wrap64 n % 18446744073709551616 = n % 18446744073709551616 := by unfold wrap64; omega
theorem wrap_congr {m n : Int} (h : m % 18446744073709551616 = n % 18446744073709551616) : wrap64 m = wrap64 n := by unfold wrap64; omega
theorem wrap_add_l (m n : Int) : wrap64 (wrap64 m + n) = wrap64 (m + n) := by unfold wrap64; omega
theorem wrap_add_r (m n : Int) : wrap64 (m + wrap64 n) = wrap64 (m + n) := by unfold wrap64; omega
theorem wrap_sub_l (m n : Int) : wrap64 (wrap64 m - n) = wrap64 (m - n) := by unfold wrap64; omega
theorem wrap_sub_r (m n : Int) : wrap64 (m - wrap64 n) = wrap64 (m - n) := by unfold wrap64; omega
theorem wrap_mul_l (m n : Int) : wrap64 (wrap64 m * n) = wrap64 (m * n) := wrap_congr (by rw [Int.mul_emod, wrap_mod, ← Int.mul_emod])
theorem wrap_mul_r (m n : Int) : wrap64 (m * wrap64 n) = wrap64 (m * n) := wrap_congr (by rw [Int.mul_emod, wrap_mod, ← Int.mul_emod])

theorem valI_eq (a b c x y : Int) : valI a b c x y = wrap64 (a * x * x + b * x * y + c * y * y) := by
  simp only [valI, wrap_add_l, wrap_add_r, wrap_mul_l]
theorem polI_eq (a b c x y u v : Int) : polI a b c x y u v = wrap64 (2 * a * x * u + b * (x * v + y * u) + 2 * c * y * v) := by
  simp only [polI, wrap_add_l, wrap_add_r, wrap_mul_l, wrap_mul_r]
theorem discI_eq (a b c : Int) : discI a b c = wrap64 (b * b - 4 * a * c) := by
  simp only [discI, wrap_sub_l, wrap_sub_r, wrap_mul_l]

/-- a definite form with coefficients within bounds -/
structure Dom (a b c : Int) : Prop where
  a0 : 0 < a
  c0 : 0 < c
  d : b * b < 4 * a * c
  a1 : a ≤ 1000000000
  b1 : -2000000000 ≤ b ∧ b ≤ 2000000000
  c1 : c ≤ 1000000000

theorem norm_iff {a b : Int} (ha : 0 < a) (h : a ≤ 1000000000000) : isNormalI a b = true ↔ -a < b ∧ b ≤ a := by
  unfold isNormalI
  rw [wrap_id (by omega) (by omega)]
  simp
theorem modI_eq {x m : Int} (hm : 0 < m) (hm1 : m ≤ 1000000000000) : modI x m = x % m := by
  unfold modI
  have h1 := Int.emod_nonneg x (show m ≠ 0 by omega)
  have h2 := Int.emod_lt_of_pos x hm
  by_cases hx : 0 ≤ x
  · rw [Int.tmod_eq_emod_of_nonneg hx, if_neg (by omega)]
  · rw [Int.tmod_eq_emod]
    split
    · split
      · omega
      · simp
    · have : m.natAbs = m := by omega
      split
      · rw [wrap_id (by omega) (by omega)]; omega
      · omega
theorem fdivI_eq {x m : Int} (hm : 0 < m) (hm1 : m ≤ 1000000000000) (hx : -1000000000000 ≤ x ∧ x ≤ 1000000000000) : fdivI x m = x / m := by
  unfold fdivI
  rw [modI_eq hm hm1]
  have h1 := Int.emod_nonneg x (show m ≠ 0 by omega)
  have h2 := Int.emod_lt_of_pos x hm
  have hin : wrap64 (x - x % m) = x - x % m := wrap_id (by omega) (by omega)
  rw [hin]
  have h3 : x - x % m = x / m * m := by have := Int.mul_ediv_add_emod x m; rw [Int.mul_comm]; omega
  rw [h3, Int.mul_tdiv_cancel _ (by omega)]
  have h4 : x / m ≤ 1000000000000 := Int.le_trans (Int.ediv_le_ediv hm hx.2) (Int.ediv_le_self _ (by omega))
  have h5 : -1000000000000 ≤ x / m := by
    apply (Int.le_ediv_iff_mul_le hm).2
    have : -1000000000000 * m ≤ -1000000000000 * 1 := Int.mul_le_mul_of_nonpos_left (by omega) (by omega)
    omega
  exact wrap_id (by omega) (by omega)

/-- a translation makes a definite form normal -/
theorem trans_dom {a b c : Int} (h : Dom a b c) (hn : ¬ (-a < b ∧ b ≤ a)) :
    actI a b c 1 ((a - b) / (2 * a)) 0 1 = [a, b + 2 * a * ((a - b) / (2 * a)), a * ((a - b) / (2 * a)) * ((a - b) / (2 * a)) + b * ((a - b) / (2 * a)) + c] ∧
    Dom a (b + 2 * a * ((a - b) / (2 * a))) (a * ((a - b) / (2 * a)) * ((a - b) / (2 * a)) + b * ((a - b) / (2 * a)) + c) ∧ -a < b + 2 * a * ((a - b) / (2 * a)) ∧ b + 2 * a * ((a - b) / (2 * a)) ≤ a := by
  obtain ⟨ha, hc, hd, ha1, hb1, hc1⟩ := h
  have e1 := Int.mul_ediv_add_emod (a - b) (2 * a)
  have e2 := Int.emod_nonneg (a - b) (show 2 * a ≠ 0 by omega)
  have e3 := Int.emod_lt_of_pos (a - b) (show 0 < 2 * a by omega)
  generalize (a - b) / (2 * a) = t at *
  generalize hb' : b + 2 * a * t = b' at *
  have hbl : -a < b' := by omega
  have hbu : b' ≤ a := by omega
  have hsq : b' * b' ≤ b * b := by
    have : 0 ≤ (b - b') * (b + b') := by
      by_cases hb : a < b
      · exact Int.mul_nonneg (by omega) (by omega)
      · exact Int.mul_nonneg_of_nonpos_of_nonpos (by omega) (by omega)
    have h2 : (b - b') * (b + b') = b * b - b' * b' := by grind
    omega
  generalize hc' : a * t * t + b * t + c = c' at *
  have h4 : 4 * a * c' = b' * b' + (4 * a * c - b * b) := by subst hb' hc'; grind
  have hc0 : 0 < c' := by
    have h5 : 0 ≤ b' * b' := by
      rcases Int.le_total 0 b' with h | h
      · exact Int.mul_nonneg h h
      · exact Int.mul_nonneg_of_nonpos_of_nonpos h h
    have h6 : 0 < 4 * a * c' := by omega
    exact Int.pos_of_mul_pos_right h6 (by omega)
  have hcc : c' ≤ c := by
    have h6 : 4 * a * c' ≤ 4 * a * c := by omega
    exact Int.le_of_mul_le_mul_left h6 (by omega)
  refine ⟨?_, ⟨ha, hc0, by omega, ha1, by omega, by omega⟩, hbl, hbu⟩
  simp only [actI, valI_eq, polI_eq]
  have x1 : a * 1 * 1 + b * 1 * 0 + c * 0 * 0 = a := by grind
  have x2 : 2 * a * 1 * t + b * (1 * 1 + 0 * t) + 2 * c * 0 * 1 = b' := by subst hb'; grind
  have x3 : a * t * t + b * t * 1 + c * 1 * 1 = c' := by subst hc'; grind
  rw [x1, x2, x3, wrap_id (by omega) (by omega), wrap_id (by omega) (by omega), wrap_id (by omega) (by omega)]
/-- the exchange -/
theorem swap_dom {a b c : Int} (h : Dom a b c) : actI a b c 0 (-1) 1 0 = [c, -b, a] ∧ Dom c (-b) a := by
  obtain ⟨ha, hc, hd, ha1, hb1, hc1⟩ := h
  refine ⟨?_, ⟨hc, ha, by have : -b * -b = b * b := by grind
                          have : 4 * c * a = 4 * a * c := by grind
                          omega, hc1, by omega, ha1⟩⟩
  simp only [actI, valI_eq, polI_eq]
  have x1 : a * 0 * 0 + b * 0 * 1 + c * 1 * 1 = c := by grind
  have x2 : 2 * a * 0 * -1 + b * (0 * 0 + 1 * -1) + 2 * c * 1 * 0 = -b := by grind
  have x3 : a * -1 * -1 + b * -1 * 0 + c * 0 * 0 = a := by grind
  rw [x1, x2, x3, wrap_id (by omega) (by omega), wrap_id (by omega) (by omega), wrap_id (by omega) (by omega)]

def domB (a b c : Int) : Bool := decide (0 < a) && (decide (0 < c) && (decide (b * b < 4 * a * c) && (decide (a ≤ 1000000000) && (decide (-2000000000 ≤ b ∧ b ≤ 2000000000) && decide (c ≤ 1000000000)))))
theorem domB_iff {a b c : Int} : domB a b c = true ↔ Dom a b c := by
  simp only [domB, Bool.and_eq_true, decide_eq_true_eq]
  exact ⟨fun ⟨h1, h2, h3, h4, h5, h6⟩ => ⟨h1, h2, h3, h4, h5, h6⟩, fun h => ⟨h.a0, h.c0, h.d, h.a1, h.b1, h.c1⟩⟩

abbrev F3 := Int × Int × Int
abbrev M4 := Int × Int × Int × Int
def F3.l (x : F3) : List Int := [x.1, x.2.1, x.2.2]
def M4.l (x : M4) : List Int := [x.1, x.2.1, x.2.2.1, x.2.2.2]
def timesT (m n : M4) : M4 := (wrap64 (wrap64 (m.1 * n.1) + wrap64 (m.2.1 * n.2.2.1)), wrap64 (wrap64 (m.1 * n.2.1) + wrap64 (m.2.1 * n.2.2.2)), wrap64 (wrap64 (m.2.2.1 * n.1) + wrap64 (m.2.2.2 * n.2.2.1)), wrap64 (wrap64 (m.2.2.1 * n.2.1) + wrap64 (m.2.2.2 * n.2.2.2)))
def nextF (x : F3) : F3 := if isNormalI x.1 x.2.1 = true then (x.2.2, -x.2.1, x.1) else (x.1, x.2.1 + 2 * x.1 * ((x.1 - x.2.1) / (2 * x.1)), x.1 * ((x.1 - x.2.1) / (2 * x.1)) * ((x.1 - x.2.1) / (2 * x.1)) + x.2.1 * ((x.1 - x.2.1) / (2 * x.1)) + x.2.2)
def nextM (x : F3) : M4 := if isNormalI x.1 x.2.1 = true then (0, -1, 1, 0) else (1, (x.1 - x.2.1) / (2 * x.1), 0, 1)
def F3.red (x : F3) : Bool := isReducedI x.1 x.2.1 x.2.2
def F3.dom (x : F3) : Bool := domB x.1 x.2.1 x.2.2
def F3.mu (x : F3) : Nat := 4 * x.1.toNat + (if isNormalI x.1 x.2.1 = true then (if x.2.1 < 0 then 1 else 0) else 2)

theorem next_spec {x : F3} (hd : x.dom = true) (hr : x.red = false) : (nextF x).dom = true ∧ (nextF x).mu < x.mu ∧ actI x.1 x.2.1 x.2.2 (nextM x).1 (nextM x).2.1 (nextM x).2.2.1 (nextM x).2.2.2 = (nextF x).l := by
  obtain ⟨a, b, c⟩ := x
  have h : Dom a b c := domB_iff.1 hd
  have hred : isReducedI a b c = false := hr
  have ha1 := h.a1
  have hc1 := h.c1
  cases hn : isNormalI a b with
  | true =>
    have hn' := (norm_iff h.a0 (by omega)).1 hn
    obtain ⟨h1, h2⟩ := swap_dom h
    have e1 : nextF (a, b, c) = (c, -b, a) := by simp [nextF, hn]
    have e2 : nextM (a, b, c) = (0, -1, 1, 0) := by simp [nextM, hn]
    rw [e1, e2]
    refine ⟨domB_iff.2 h2, ?_, h1⟩
    have hc0 := h.c0
    have ha0 := h.a0
    have hlt : c < a ∨ (c = a ∧ b < 0) := by
      simp only [isReducedI, hn, Bool.true_and, Bool.or_eq_false_iff, decide_eq_false_iff_not, Bool.and_eq_false_iff, beq_eq_false_iff_ne] at hred
      omega
    simp only [F3.mu, hn, if_true]
    rcases hlt with hlt | ⟨rfl, hb⟩
    · have hx : (if isNormalI c (-b) = true then (if -b < 0 then 1 else 0) else 2) ≤ 2 := by
        split
        · split <;> omega
        · omega
      omega
    · have hn2 : isNormalI c (-b) = true := (norm_iff hc0 (by omega)).2 ⟨by omega, by omega⟩
      rw [hn2, if_pos rfl, if_neg (by omega), if_pos hb]
      omega
  | false =>
    have hn' : ¬ (-a < b ∧ b ≤ a) := fun hx => by rw [(norm_iff h.a0 (by omega)).2 hx] at hn; cases hn
    obtain ⟨h1, h2, h3, h4⟩ := trans_dom h hn'
    have e1 : nextF (a, b, c) = (a, b + 2 * a * ((a - b) / (2 * a)), a * ((a - b) / (2 * a)) * ((a - b) / (2 * a)) + b * ((a - b) / (2 * a)) + c) := by simp [nextF, hn]
    have e2 : nextM (a, b, c) = (1, (a - b) / (2 * a), 0, 1) := by simp [nextM, hn]
    rw [e1, e2]
    refine ⟨domB_iff.2 h2, ?_, h1⟩
    have hn2 : isNormalI a (b + 2 * a * ((a - b) / (2 * a))) = true := (norm_iff h.a0 (by omega)).2 ⟨h3, h4⟩
    simp only [F3.mu, hn, hn2, if_true]
    split <;> simp

/-- THE REDUCED FORM, and the matrix that leads there. -/
def redL (x : F3) (m : M4) : F3 × M4 := if _h : x.dom = true ∧ x.red = false then redL (nextF x) (timesT m (nextM x)) else (x, m)
  termination_by x.mu
  decreasing_by exact (next_spec _h.1 _h.2).2.1
end Go.Proofs.Ytacomnelongbjab
