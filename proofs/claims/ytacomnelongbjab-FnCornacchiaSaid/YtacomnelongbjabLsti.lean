/-
  Rows of integers: contracts of the laws' helpers on them. Conditions: none.
-/
import Derived.Test.YtacomnelongbjabLst
namespace Go.Proofs.Ytacomnelongbjab
open Go Go.RowKit
set_option maxRecDepth 100000
set_option linter.unusedSimpArgs false
set_option linter.unusedVariables false
set_option maxHeartbeats 4000000

/-- the integers from n to m for which p holds -/
def selI (p : Int → Bool) (m n : Int) : List Int := if _h : n ≤ m then (if p n = true then [n] else []) ++ selI p m (n + 1) else []
  termination_by (m + 1 - n).toNat
  decreasing_by omega
theorem selI_len (p : Int → Bool) (m n : Int) : (selI p m n).length ≤ (m + 1 - n).toNat := by
  fun_induction selI p m n with
  | case1 n h ih =>
    rw [List.length_append]
    have : (if p n = true then [n] else []).length ≤ 1 := by split <;> simp
    omega
  | case2 n h => simp
theorem selI_yes {p : Int → Bool} {m n : Int} (h : n ≤ m) (hp : p n = true) : selI p m n = n :: selI p m (n + 1) := by
  rw [selI.eq_def, dif_pos h, if_pos hp]; rfl
theorem selI_no {p : Int → Bool} {m n : Int} (h : n ≤ m) (hp : p n = false) : selI p m n = selI p m (n + 1) := by
  rw [selI.eq_def, dif_pos h, if_neg (by rw [hp]; simp)]; rfl
theorem selI_end {p : Int → Bool} {m n : Int} (h : ¬ n ≤ m) : selI p m n = [] := by rw [selI.eq_def, dif_neg h]
theorem sel_acc0 {p : Int → Bool} {m n k : Int} {acc : List Int} (h : acc ++ selI p m n = selI p m k) : acc.length ≤ (m + 1 - k).toNat := by
  have h1 := selI_len p m k
  rw [← h, List.length_append] at h1
  omega
theorem take_get {l : List Int} {n : Nat} (h : n < l.length) : l.take (n + 1) = l.take n ++ [l.getD n 0] := by
  rw [List.take_add_one]; simp [List.getD_eq_getElem?_getD, h]
-- (not in this seat: EqIntS)
def rampI (k : Int) (n : Nat) : List Int := (List.range n).map fun j : Nat => k + (j : Int)
theorem rampI_length (k : Int) (n : Nat) : (rampI k n).length = n := by simp [rampI]
theorem rampI_succ (k : Int) (n : Nat) : rampI k (n + 1) = rampI k n ++ [k + (n : Int)] := by simp [rampI, List.range_succ]
theorem rampI_at (k : Int) {n q : Nat} (h : q < n) : (rampI k n).getD q 0 = k + (q : Int) := by
  simp [rampI, List.getD_eq_getElem?_getD, h]
theorem heldI_pos (n : Nat) : decide (1 + (n : Int) < 0) = false := by rw [decide_eq_false_iff_not]; omega
-- (not in this seat: MarkIntS)
-- (not in this seat: HeldIntS)
end Go.Proofs.Ytacomnelongbjab
