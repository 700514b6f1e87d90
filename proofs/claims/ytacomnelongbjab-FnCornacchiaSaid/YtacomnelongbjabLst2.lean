/-
  Rows of structs of 2 integers: how they read as lists of tuples; contracts of the laws' helpers on them. Conditions: none.
-/
import Derived.Test.YtacomnelongbjabLst
namespace Go.Proofs.Ytacomnelongbjab
open Go Go.RowKit
set_option maxRecDepth 100000
set_option linter.unusedSimpArgs false
set_option linter.unusedVariables false
set_option maxHeartbeats 4000000

abbrev P2 := Int × Int
def toP (x : List Int) : P2 := (x.getD 0 0, x.getD 1 0)
def P2.l2 (x : P2) : List Int := [x.1, x.2]
def nth2 (l : List (List Int)) (q : Nat) : P2 := toP (l.getD q [0, 0])
def fp (L : List P2) : List (List Int) := L.map P2.l2
def unfp (l : List (List Int)) : List P2 := l.map toP
theorem rng2 (l : List (List Int)) (q : Nat) : (List.range 2).map (fun j => (l.getD q [0, 0]).getD j 0) = [(nth2 l q).1, (nth2 l q).2] := rfl
theorem fld2_0 (l : List (List Int)) (q : Nat) : (l.getD q [0, 0]).getD 0 0 = (nth2 l q).1 := rfl
theorem fld2_1 (l : List (List Int)) (q : Nat) : (l.getD q [0, 0]).getD 1 0 = (nth2 l q).2 := rfl
theorem unfp_fp (L : List P2) : unfp (fp L) = L := by
  unfold unfp fp
  rw [List.map_map]
  exact (List.map_congr_left (fun x _ => rfl)).trans (List.map_id L)
theorem fp_length (L : List P2) : (fp L).length = L.length := by simp [fp]
theorem unfp_length (l : List (List Int)) : (unfp l).length = l.length := by simp [unfp]
theorem fp_nil : fp [] = [] := rfl
theorem fp_snoc (L : List P2) (x : P2) : fp L ++ [[x.1, x.2]] = fp (L ++ [x]) := by simp [fp, P2.l2]
theorem fp_append (L M : List P2) : fp L ++ fp M = fp (L ++ M) := by simp [fp]
theorem fp_take (L : List P2) (n : Nat) : (fp L).take n = fp (L.take n) := by simp [fp]
theorem fp_drop (L : List P2) (n : Nat) : (fp L).drop n = fp (L.drop n) := by simp [fp]
theorem nth2_eq (l : List (List Int)) (q : Nat) : nth2 l q = (unfp l).getD q (0, 0) := by
  unfold nth2 unfp
  simp only [List.getD_eq_getElem?_getD, List.getElem?_map]
  cases l[q]? <;> rfl
theorem unfp_take (l : List (List Int)) {n : Nat} (h : n < l.length) : (unfp l).take (n + 1) = (unfp l).take n ++ [nth2 l n] := by
  rw [List.take_add_one, nth2_eq]
  have : n < (unfp l).length := by rw [unfp_length]; exact h
  simp [List.getD_eq_getElem?_getD, this]
theorem unfp_mem (l : List (List Int)) {n : Nat} (h : n < l.length) : nth2 l n ∈ unfp l := by
  rw [nth2_eq]
  have : n < (unfp l).length := by rw [unfp_length]; exact h
  simp [List.getD_eq_getElem?_getD, this]
theorem unfp_at {l : List (List Int)} {n : Nat} (h : n < l.length) : (unfp l)[n]? = some (nth2 l n) := by
  rw [nth2_eq]
  have : n < (unfp l).length := by rw [unfp_length]; exact h
  simp [List.getD_eq_getElem?_getD, this]
def ramp2 (k : Int) (n : Nat) : List (List Int) := (List.range n).map fun j : Nat => [k + 2 * (j : Int), k + 2 * (j : Int) + 1]
theorem ramp2_length (k : Int) (n : Nat) : (ramp2 k n).length = n := by simp [ramp2]
theorem ramp2_succ (k : Int) (n : Nat) : ramp2 k (n + 1) = ramp2 k n ++ [[k + 2 * (n : Int), k + 2 * (n : Int) + 1]] := by simp [ramp2, List.range_succ]
theorem ramp2_at (k : Int) {n q : Nat} (h : q < n) : (ramp2 k n).getD q [0, 0] = [k + 2 * (q : Int), k + 2 * (q : Int) + 1] := by
  simp [ramp2, List.getD_eq_getElem?_getD, h]
theorem held2_pos (n : Nat) : decide (1 + 2 * (n : Int) < 0) = false := by rw [decide_eq_false_iff_not]; omega
def wf2 (l : List (List Int)) : Prop := fp (unfp l) = l
theorem wf2_fp (L : List P2) : wf2 (fp L) := by unfold wf2; rw [unfp_fp]
theorem wf2_at {l : List (List Int)} (h : wf2 l) {n : Nat} (hn : n < l.length) : l.getD n [0, 0] = [(nth2 l n).1, (nth2 l n).2] := by
  have h1 : (fp (unfp l)).getD n [0, 0] = l.getD n [0, 0] := by rw [h]
  rw [← h1, nth2_eq]
  have hn' : n < (unfp l).length := by rw [unfp_length]; exact hn
  simp only [fp, List.getD_eq_getElem?_getD, List.getElem?_map, List.getElem?_eq_getElem hn', Option.map_some, Option.getD_some, P2.l2]
theorem eq2_iff (x y : P2) : (x.1 == y.1 && x.2 == y.2) = true ↔ x = y := by
  obtain ⟨a, b⟩ := x
  obtain ⟨a', b'⟩ := y
  simp
-- (not in this seat: EqPoint)
-- (not in this seat: EqPointS)
-- (not in this seat: MarkPointS)
-- (not in this seat: HeldPointS)
end Go.Proofs.Ytacomnelongbjab
