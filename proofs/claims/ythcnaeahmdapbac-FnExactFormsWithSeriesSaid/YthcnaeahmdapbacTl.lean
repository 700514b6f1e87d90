/-
  Contracts of ThetaSeries and FirstDifference on both sides, and of their laws. Conditions: none.
-/
import Derived.Test.YthcnaeahmdapbacThs
import Derived.Test.YthcnaeahmdapbacLsti
namespace Go.Proofs.Ythcnaeahmdapbac
open Go Go.RowKit
set_option maxRecDepth 100000
set_option linter.unusedSimpArgs false
set_option linter.unusedVariables false
set_option maxHeartbeats 4000000

def tsL (a b c n : Int) : List Int := 1 :: thL (rdA a b c, rdB a b c, rdC a b c) n 1
def tsB (a b c n : Int) : Bool := shownB a b c && inI n 0 100
theorem tsL_len (a b c n : Int) : (tsL a b c n).length = (n + 1 - 1).toNat + 1 := by rw [tsL, List.length_cons, thL_len]
theorem th_pre {a b c : Int} (h : shownB a b c = true) : domB a b c = true ∧ TH (rdA a b c, rdB a b c, rdC a b c) := by
  obtain ⟨h1, h2⟩ := shown_rd h
  exact ⟨shown_domB h, h1, h2.abs, h2.le⟩
theorem inI_100 {n : Int} (h : inI n 0 100 = true) : 0 ≤ n ∧ n ≤ 100 := by simpa [inI] using h
-- (not in this seat: IsTerms)
-- (not in this seat: ThTerms)
-- (not in this seat: ThetaS)
-- (not in this seat: SThetaS)
theorem ts_len (a b c n : Int) : (onL (tsB a b c n) (tsL a b c n)).length ≤ 101 := by
  cases h : tsB a b c n with
  | false => simp [onL]
  | true =>
    unfold tsB at h
    rw [Bool.and_eq_true] at h
    have := inI_100 h.2
    show (tsL a b c n).length ≤ 101
    rw [tsL_len]; omega
-- (not in this seat: LawTheta)

/-! ### the first difference -/
def fdS (l m : List Int) (k : Nat) : Int × Bool := if _h : k < l.length then (if l.getD k 0 = m.getD k 0 then fdS l m (k + 1) else ((k : Int), true)) else (0, false)
  termination_by l.length - k
def fdG (a b c x y z : Int) : Bool := shownB a b c && shownB x y z
def fdI (a b c x y z : Int) : Int := onB (fdG a b c x y z) (fdS (tsL a b c 100) (tsL x y z 100) 0).1
def fdB (a b c x y z : Int) : Bool := fdG a b c x y z && (fdS (tsL a b c 100) (tsL x y z 100) 0).2
-- (not in this seat: FirstDiff)
-- (not in this seat: SFirstDiff)
-- (not in this seat: LawFirstDiff)
end Go.Proofs.Ythcnaeahmdapbac
