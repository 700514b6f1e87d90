/-
  Contracts of the functions that ask which values a form has, on both sides, and of the laws on them. Conditions: none.
-/
import Derived.Test.YtacomnelongbjabVat
import Derived.Test.YtacomnelongbjabPrm
import Derived.Test.YtacomnelongbjabLsti
namespace Go.Proofs.Ytacomnelongbjab
open Go Go.RowKit
set_option maxRecDepth 100000
set_option linter.unusedSimpArgs false
set_option linter.unusedVariables false
set_option maxHeartbeats 4000000

/-- a form that may be asked for all values of this chapter -/
def VF (f : F3) : Prop := Vd f 1
theorem VF.vd {f : F3} (h : VF f) {n : Int} (hn : 1 ≤ n ∧ n ≤ 10000) : Vd f n := ⟨h.a0, h.a1, h.b, h.c0, h.c1, h.d, hn.1, hn.2⟩
theorem shown_rd {a b c : Int} (h : shownB a b c = true) : VF (rdA a b c, rdB a b c, rdC a b c) ∧ IsRed (dsc (a, b, c)) (rdA a b c, rdB a b c, rdC a b c) := by
  have hd := shown_domB h
  obtain ⟨_, h1, h2, _⟩ := shown_dsc h
  have hr := rdx_red (x := (a, b, c)) hd
  have e : rdx (a, b, c) = (rdA a b c, rdB a b c, rdC a b c) := (rd3_eq hd).symm
  rw [e] at hr
  exact ⟨red_vd ⟨h1, h2⟩ hr ⟨by omega, by omega⟩, hr⟩
theorem ptI_len {f : F3} {n : Int} (h : Vd f n) : (ptI f n).length ≤ 1000000 := by
  have h1 := ptL_len f n (ptB f n) (-ptB f n)
  obtain ⟨h2, h3⟩ := h.bound
  unfold ptI
  omega
def hasB (f : F3) (n : Int) : Bool := decide (((ptI f n).length : Int) > 0)
def fpB (f : F3) (p : Int) : Bool := primeI p && hasB f p
def firL (p : Int → Bool) (m n : Int) : Option Int := if _h : n ≤ m then (if p n = true then some n else firL p m (n + 1)) else none
  termination_by (m + 1 - n).toNat
  decreasing_by omega
theorem firL_yes {p : Int → Bool} {m n : Int} (h : n ≤ m) (hp : p n = true) : firL p m n = some n := by rw [firL.eq_def, dif_pos h, if_pos hp]
theorem firL_no {p : Int → Bool} {m n : Int} (h : n ≤ m) (hp : p n = false) : firL p m n = firL p m (n + 1) := by rw [firL.eq_def, dif_pos h, if_neg (by rw [hp]; simp)]
theorem firL_end {p : Int → Bool} {m n : Int} (h : ¬ n ≤ m) : firL p m n = none := by rw [firL.eq_def, dif_neg h]
def fpO (a b c : Int) : Option Int := if classB a b c = true then firL (fpB (rdA a b c, rdB a b c, rdC a b c)) 10000 2 else none
def fpN (a b c : Int) : Int := (fpO a b c).getD 0
def fpS (a b c : Int) : Bool := (fpO a b c).isSome
-- (not in this seat: FirstPrime)
-- (not in this seat: SFirstPrime)
-- (not in this seat: LawFirstPrime)

/-! ### primes that a form represents -/
-- (not in this seat: PrimesUpTo)
-- (not in this seat: IpValues)
theorem inI_split (n lo hi : Int) : inI n lo hi = (decide (n ≥ lo) && decide (n ≤ hi)) := rfl
theorem not_lt_dec (m k : Int) : decide (m < k) = !decide (m ≥ k) := by rw [Bool.eq_iff_iff]; simp
theorem not_gt_dec (m k : Int) : decide (m > k) = !decide (m ≤ k) := by rw [Bool.eq_iff_iff]; simp
def pofB (a b c m : Int) : Bool := classB a b c && inI m 0 10000
def pofL (a b c m : Int) : List Int := selI (fpB (rdA a b c, rdB a b c, rdC a b c)) m 2
-- (not in this seat: PrimesOf)
-- (not in this seat: SPrimesOf)
-- (not in this seat: LawPrimesOf)
end Go.Proofs.Ytacomnelongbjab
