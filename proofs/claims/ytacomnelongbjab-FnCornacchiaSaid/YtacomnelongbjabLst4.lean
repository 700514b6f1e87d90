/-
  Rows of structs of 4 integers: how they read as lists of tuples; contracts of the laws' helpers on them. Conditions: none.
-/
import Derived.Test.YtacomnelongbjabLst
namespace Go.Proofs.Ytacomnelongbjab
open Go Go.RowKit
set_option maxRecDepth 100000
set_option linter.unusedSimpArgs false
set_option linter.unusedVariables false
set_option maxHeartbeats 4000000

def toM (x : List Int) : M4 := (x.getD 0 0, x.getD 1 0, x.getD 2 0, x.getD 3 0)
def M4.l4 (x : M4) : List Int := [x.1, x.2.1, x.2.2.1, x.2.2.2]
def nth4 (l : List (List Int)) (q : Nat) : M4 := toM (l.getD q [0, 0, 0, 0])
def fm (L : List M4) : List (List Int) := L.map M4.l4
def unfm (l : List (List Int)) : List M4 := l.map toM
theorem rng4 (l : List (List Int)) (q : Nat) : (List.range 4).map (fun j => (l.getD q [0, 0, 0, 0]).getD j 0) = [(nth4 l q).1, (nth4 l q).2.1, (nth4 l q).2.2.1, (nth4 l q).2.2.2] := rfl
theorem fld4_0 (l : List (List Int)) (q : Nat) : (l.getD q [0, 0, 0, 0]).getD 0 0 = (nth4 l q).1 := rfl
theorem fld4_1 (l : List (List Int)) (q : Nat) : (l.getD q [0, 0, 0, 0]).getD 1 0 = (nth4 l q).2.1 := rfl
theorem fld4_2 (l : List (List Int)) (q : Nat) : (l.getD q [0, 0, 0, 0]).getD 2 0 = (nth4 l q).2.2.1 := rfl
theorem fld4_3 (l : List (List Int)) (q : Nat) : (l.getD q [0, 0, 0, 0]).getD 3 0 = (nth4 l q).2.2.2 := rfl
theorem unfm_fm (L : List M4) : unfm (fm L) = L := by
  unfold unfm fm
  rw [List.map_map]
  exact (List.map_congr_left (fun x _ => rfl)).trans (List.map_id L)
theorem fm_length (L : List M4) : (fm L).length = L.length := by simp [fm]
theorem unfm_length (l : List (List Int)) : (unfm l).length = l.length := by simp [unfm]
theorem fm_nil : fm [] = [] := rfl
theorem fm_snoc (L : List M4) (x : M4) : fm L ++ [[x.1, x.2.1, x.2.2.1, x.2.2.2]] = fm (L ++ [x]) := by simp [fm, M4.l4]
theorem fm_append (L M : List M4) : fm L ++ fm M = fm (L ++ M) := by simp [fm]
theorem fm_take (L : List M4) (n : Nat) : (fm L).take n = fm (L.take n) := by simp [fm]
theorem fm_drop (L : List M4) (n : Nat) : (fm L).drop n = fm (L.drop n) := by simp [fm]
theorem nth4_eq (l : List (List Int)) (q : Nat) : nth4 l q = (unfm l).getD q (0, 0, 0, 0) := by
  unfold nth4 unfm
  simp only [List.getD_eq_getElem?_getD, List.getElem?_map]
  cases l[q]? <;> rfl
theorem unfm_take (l : List (List Int)) {n : Nat} (h : n < l.length) : (unfm l).take (n + 1) = (unfm l).take n ++ [nth4 l n] := by
  rw [List.take_add_one, nth4_eq]
  have : n < (unfm l).length := by rw [unfm_length]; exact h
  simp [List.getD_eq_getElem?_getD, this]
theorem unfm_mem (l : List (List Int)) {n : Nat} (h : n < l.length) : nth4 l n ∈ unfm l := by
  rw [nth4_eq]
  have : n < (unfm l).length := by rw [unfm_length]; exact h
  simp [List.getD_eq_getElem?_getD, this]
theorem unfm_at {l : List (List Int)} {n : Nat} (h : n < l.length) : (unfm l)[n]? = some (nth4 l n) := by
  rw [nth4_eq]
  have : n < (unfm l).length := by rw [unfm_length]; exact h
  simp [List.getD_eq_getElem?_getD, this]
def ramp4 (k : Int) (n : Nat) : List (List Int) := (List.range n).map fun j : Nat => [k + 4 * (j : Int), k + 4 * (j : Int) + 1, k + 4 * (j : Int) + 2, k + 4 * (j : Int) + 3]
theorem ramp4_length (k : Int) (n : Nat) : (ramp4 k n).length = n := by simp [ramp4]
theorem ramp4_succ (k : Int) (n : Nat) : ramp4 k (n + 1) = ramp4 k n ++ [[k + 4 * (n : Int), k + 4 * (n : Int) + 1, k + 4 * (n : Int) + 2, k + 4 * (n : Int) + 3]] := by simp [ramp4, List.range_succ]
theorem ramp4_at (k : Int) {n q : Nat} (h : q < n) : (ramp4 k n).getD q [0, 0, 0, 0] = [k + 4 * (q : Int), k + 4 * (q : Int) + 1, k + 4 * (q : Int) + 2, k + 4 * (q : Int) + 3] := by
  simp [ramp4, List.getD_eq_getElem?_getD, h]
theorem held4_pos (n : Nat) : decide (1 + 4 * (n : Int) < 0) = false := by rw [decide_eq_false_iff_not]; omega
def wf4 (l : List (List Int)) : Prop := fm (unfm l) = l
theorem wf4_fm (L : List M4) : wf4 (fm L) := by unfold wf4; rw [unfm_fm]
theorem wf4_at {l : List (List Int)} (h : wf4 l) {n : Nat} (hn : n < l.length) : l.getD n [0, 0, 0, 0] = [(nth4 l n).1, (nth4 l n).2.1, (nth4 l n).2.2.1, (nth4 l n).2.2.2] := by
  have h1 : (fm (unfm l)).getD n [0, 0, 0, 0] = l.getD n [0, 0, 0, 0] := by rw [h]
  rw [← h1, nth4_eq]
  have hn' : n < (unfm l).length := by rw [unfm_length]; exact hn
  simp only [fm, List.getD_eq_getElem?_getD, List.getElem?_map, List.getElem?_eq_getElem hn', Option.map_some, Option.getD_some, M4.l4]
theorem eq4_iff (x y : M4) : (x.1 == y.1 && (x.2.1 == y.2.1 && (x.2.2.1 == y.2.2.1 && x.2.2.2 == y.2.2.2))) = true ↔ x = y := by
  obtain ⟨a, b, c, d⟩ := x
  obtain ⟨a', b', c', d'⟩ := y
  simp
-- (not in this seat: EqMatrix)
-- (not in this seat: EqMatrixS)
-- (not in this seat: MarkMatrixS)
-- (not in this seat: HeldMatrixS)
end Go.Proofs.Ytacomnelongbjab
