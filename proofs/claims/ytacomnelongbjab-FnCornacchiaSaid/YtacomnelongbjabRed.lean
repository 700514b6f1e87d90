/-
  Contracts of the reduction, on both sides. Conditions: none.
-/
import Derived.Test.YtacomnelongbjabRedm
namespace Go.Proofs.Ytacomnelongbjab
open Go Go.RowKit
set_option maxRecDepth 100000
set_option linter.unusedSimpArgs false
set_option linter.unusedVariables false
set_option maxHeartbeats 4000000

theorem F3.dom_of {x : F3} (h : x.dom = true) : Dom x.1 x.2.1 x.2.2 := domB_iff.1 h
theorem two_a {x : F3} (h : x.dom = true) : wrap64 (2 * x.1) ≠ 0 := by
  have h1 := (F3.dom_of h).a0
  have h2 := (F3.dom_of h).a1
  rw [wrap_id (by omega) (by omega)]
  omega
theorem fdiv_dom {x : F3} (h : x.dom = true) : fdivI (wrap64 (x.1 - x.2.1)) (wrap64 (2 * x.1)) = (x.1 - x.2.1) / (2 * x.1) := by
  have d := F3.dom_of h
  have h1 := d.a0
  have h2 := d.a1
  have h3 := d.b1
  rw [wrap_id (n := x.1 - x.2.1) (by omega) (by omega), wrap_id (by omega) (by omega)]
  exact fdivI_eq (by omega) (by omega) (by omega)
theorem step_next {x : F3} (h : x.dom = true) (hr : x.red = false) : stP x.1 x.2.1 x.2.2 = (nextM x).1 ∧ stQ x.1 x.2.1 x.2.2 = (nextM x).2.1 ∧ stR x.1 x.2.1 x.2.2 = (nextM x).2.2.1 ∧ stS x.1 x.2.1 x.2.2 = (nextM x).2.2.2 := by
  have hr' : isReducedI x.1 x.2.1 x.2.2 = false := hr
  unfold stP stQ stR stS nextM
  rw [hr', fdiv_dom h]
  cases isNormalI x.1 x.2.1 <;> simp
theorem norm_zero {x : F3} (h : x.dom = true) : (reNormalI x.1 x.2.1 != 0) = !isNormalI x.1 x.2.1 := by
  have d := F3.dom_of h
  have ha1 := d.a1
  have hn := norm_iff (b := x.2.1) d.a0 (by omega)
  have e : reNormalI x.1 x.2.1 = (x.1 - x.2.1) / (2 * x.1) := fdiv_dom h
  rw [e]
  have h0 := d.a0
  have e1 := Int.mul_ediv_add_emod (x.1 - x.2.1) (2 * x.1)
  have e2 := Int.emod_nonneg (x.1 - x.2.1) (show 2 * x.1 ≠ 0 by omega)
  have e3 := Int.emod_lt_of_pos (x.1 - x.2.1) (show 0 < 2 * x.1 by omega)
  have key : (x.1 - x.2.1) / (2 * x.1) = 0 ↔ (-x.1 < x.2.1 ∧ x.2.1 ≤ x.1) := by
    constructor
    · intro hz
      rw [hz, Int.mul_zero] at e1
      omega
    · intro hz
      exact Int.ediv_eq_zero_of_lt (by omega) (by omega)
  cases hb : isNormalI x.1 x.2.1 with
  | true => rw [key.2 (hn.1 hb)]; rfl
  | false =>
    have : ¬ (x.1 - x.2.1) / (2 * x.1) = 0 := fun hz => by rw [hn.2 (key.1 hz)] at hb; cases hb
    simpa using this
theorem move_next {x : F3} (h : x.dom = true) (hr : x.red = false) : mvP x.1 x.2.1 x.2.2 = (nextM x).1 ∧ mvQ x.1 x.2.1 x.2.2 = (nextM x).2.1 ∧ mvR x.1 x.2.1 x.2.2 = (nextM x).2.2.1 ∧ mvS x.1 x.2.1 x.2.2 = (nextM x).2.2.2 := by
  have hr' : isReducedI x.1 x.2.1 x.2.2 = false := hr
  have e : reNormalI x.1 x.2.1 = (x.1 - x.2.1) / (2 * x.1) := fdiv_dom h
  unfold mvP mvQ mvR mvS nextM
  rw [hr', norm_zero h, e]
  cases isNormalI x.1 x.2.1 <;> simp
def rdA (a b c : Int) : Int := (redL (a, b, c) (1, 0, 0, 1)).1.1
def rdB (a b c : Int) : Int := (redL (a, b, c) (1, 0, 0, 1)).1.2.1
def rdC (a b c : Int) : Int := (redL (a, b, c) (1, 0, 0, 1)).1.2.2
def rdP (a b c : Int) : Int := (redL (a, b, c) (1, 0, 0, 1)).2.1
def rdQ (a b c : Int) : Int := (redL (a, b, c) (1, 0, 0, 1)).2.2.1
def rdR (a b c : Int) : Int := (redL (a, b, c) (1, 0, 0, 1)).2.2.2.1
def rdS (a b c : Int) : Int := (redL (a, b, c) (1, 0, 0, 1)).2.2.2.2
-- (not in this seat: Reduce)
-- (not in this seat: ReReduce)
end Go.Proofs.Ytacomnelongbjab
