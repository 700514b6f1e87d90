/-
  Rows of rows of integers: contracts of the laws' helpers on them. Conditions: none.
-/
import Derived.Test.YtclpoenfcpefmaaLsti
import Derived.Test.YtclpoenfcpefmaaIte
namespace Go.Proofs.Ytclpoenfcpefmaa
open Go Go.RowKit
set_option maxRecDepth 100000
set_option linter.unusedSimpArgs false
set_option linter.unusedVariables false
set_option maxHeartbeats 4000000

def sumL : List (List Int) → Nat
  | [] => 0
  | l :: ll => l.length + sumL ll
def rampSS : Int → List (List Int) → List (List Int)
  | _, [] => []
  | k, l :: ll => rampI k l.length :: rampSS (k + (l.length : Int)) ll
theorem rampSS_length : ∀ (k : Int) (ll : List (List Int)), (rampSS k ll).length = ll.length
  | _, [] => rfl
  | k, l :: ll => by simp [rampSS, rampSS_length _ ll]
theorem sumL_take : ∀ {ll : List (List Int)} {n : Nat}, n < ll.length → sumL (ll.take (n + 1)) = sumL (ll.take n) + (ll.getD n []).length
  | [], n, h => by simp at h
  | l :: ll, 0, _ => by simp [sumL]
  | l :: ll, n + 1, h => by
    have := sumL_take (ll := ll) (n := n) (by simpa using h)
    simp only [List.take_succ_cons, sumL, List.getD_cons_succ] at this ⊢
    omega
theorem rampSS_take : ∀ {ll : List (List Int)} {n : Nat} (k : Int), n < ll.length → rampSS k (ll.take (n + 1)) = rampSS k (ll.take n) ++ [rampI (k + (sumL (ll.take n) : Int)) (ll.getD n []).length]
  | [], n, _, h => by simp at h
  | l :: ll, 0, k, _ => by simp [rampSS, sumL]
  | l :: ll, n + 1, k, h => by
    have := rampSS_take (ll := ll) (n := n) (k + (l.length : Int)) (by simpa using h)
    simp only [List.take_succ_cons, rampSS, sumL, List.getD_cons_succ, List.cons_append] at this ⊢
    rw [this]
    congr 4
    omega
theorem rampSS_at : ∀ {ll : List (List Int)} {n : Nat} (k : Int), n < ll.length → (rampSS k ll).getD n [] = rampI (k + (sumL (ll.take n) : Int)) (ll.getD n []).length
  | [], n, _, h => by simp at h
  | l :: ll, 0, k, _ => by simp [rampSS, sumL]
  | l :: ll, n + 1, k, h => by
    have := rampSS_at (ll := ll) (n := n) (k + (l.length : Int)) (by simpa using h)
    simp only [List.take_succ_cons, rampSS, sumL, List.getD_cons_succ] at this ⊢
    rw [this]
    congr 1
    omega
theorem rampSS_idem : ∀ (k : Int) (ll : List (List Int)), rampSS k (rampSS k ll) = rampSS k ll
  | _, [] => rfl
  | k, l :: ll => by simp only [rampSS, rampI_length, rampSS_idem]
theorem sumL_ramp : ∀ (k : Int) (ll : List (List Int)), sumL (rampSS k ll) = sumL ll
  | _, [] => rfl
  | k, l :: ll => by simp only [rampSS, sumL, rampI_length, sumL_ramp]
theorem sumL_le {B : Nat} : ∀ (ll : List (List Int)), (∀ l ∈ ll, l.length ≤ B) → sumL ll ≤ ll.length * B
  | [], _ => by simp [sumL]
  | l :: ll, h => by
    have h1 := sumL_le ll fun x hx => h x (by simp [hx])
    have h2 := h l (by simp)
    rw [sumL, List.length_cons, Nat.succ_mul]
    omega
theorem sumL_take_le {ll : List (List Int)} (n : Nat) : sumL (ll.take n) ≤ sumL ll := by
  induction ll generalizing n with
  | nil => simp [sumL]
  | cons l ll ih =>
    cases n with
    | zero => simp [sumL]
    | succ n =>
      have := ih n
      simp only [List.take_succ_cons, sumL]
      omega
/-- not more than a thousand rows and more, none of them longer -/
def SSok (ll : List (List Int)) : Prop := ll.length ≤ 2000 ∧ ∀ l ∈ ll, l.length ≤ 2000
theorem SSok.sum {ll : List (List Int)} (h : SSok ll) (n : Nat) : sumL (ll.take n) ≤ 4000000 := by
  have h1 := sumL_le ll h.2
  have h2 := sumL_take_le (ll := ll) n
  have h3 : ll.length * 2000 ≤ 2000 * 2000 := Nat.mul_le_mul h.1 (Nat.le_refl _)
  omega
theorem SSok.at {ll : List (List Int)} (h : SSok ll) (n : Nat) : (ll.getD n []).length ≤ 2000 := by
  rw [List.getD_eq_getElem?_getD]
  cases hn : ll[n]? with
  | none => simp
  | some l => exact h.2 l (List.mem_of_getElem? hn)
theorem SSok.ramp {ll : List (List Int)} (h : SSok ll) (k : Int) : SSok (rampSS k ll) := by
  refine ⟨by rw [rampSS_length]; exact h.1, fun l hl => ?_⟩
  obtain ⟨n, hn⟩ := List.getElem?_of_mem hl
  have hlt := (List.getElem?_eq_some_iff.1 hn).1
  rw [rampSS_length] at hlt
  have h1 := rampSS_at k hlt
  rw [List.getD_eq_getElem?_getD, hn, Option.getD_some] at h1
  rw [h1, rampI_length]
  exact h.at n
theorem takeS_get {l : List (List Int)} {n : Nat} (h : n < l.length) : l.take (n + 1) = l.take n ++ [l.getD n []] := by
  rw [List.take_add_one]; simp [List.getD_eq_getElem?_getD, h]
-- (not in this seat: EqIntSS)
-- (not in this seat: MarkIntSS)
-- (not in this seat: HeldIntSS)
theorem heldS_pos (n : Nat) : decide (1 + (n : Int) < 0) = false := by rw [decide_eq_false_iff_not]; omega
def onT (h : Bool) (l : List (List Int)) : List (List Int) := bif h then l else []
theorem SSok.on {h : Bool} {l : List (List Int)} (hl : h = true → SSok l) : SSok (onT h l) := by
  cases h with
  | false => exact ⟨Nat.zero_le _, fun x hx => by cases hx⟩
  | true => exact hl rfl
end Go.Proofs.Ytclpoenfcpefmaa
