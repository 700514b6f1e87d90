/-
  Lists of structs: how rows read as lists of tuples; contracts of the laws' helpers on them. Conditions: none.
-/
import Derived.Test.YtacomnelongbjabCls
namespace Go.Proofs.Ytacomnelongbjab
open Go Go.RowKit
set_option maxRecDepth 100000
set_option linter.unusedSimpArgs false
set_option linter.unusedVariables false
set_option maxHeartbeats 4000000

/-! ### rows of structs of three integers -/
def toF (x : List Int) : F3 := (x.getD 0 0, x.getD 1 0, x.getD 2 0)
def nth3 (l : List (List Int)) (q : Nat) : F3 := toF (l.getD q [0, 0, 0])
def fl (L : List F3) : List (List Int) := L.map F3.l
def unfl (l : List (List Int)) : List F3 := l.map toF
theorem rng3 (l : List (List Int)) (q : Nat) : (List.range 3).map (fun j => (l.getD q [0, 0, 0]).getD j 0) = [(nth3 l q).1, (nth3 l q).2.1, (nth3 l q).2.2] := rfl
theorem fld3_0 (l : List (List Int)) (q : Nat) : (l.getD q [0, 0, 0]).getD 0 0 = (nth3 l q).1 := rfl
theorem fld3_1 (l : List (List Int)) (q : Nat) : (l.getD q [0, 0, 0]).getD 1 0 = (nth3 l q).2.1 := rfl
theorem fld3_2 (l : List (List Int)) (q : Nat) : (l.getD q [0, 0, 0]).getD 2 0 = (nth3 l q).2.2 := rfl
theorem unfl_fl (L : List F3) : unfl (fl L) = L := by
  unfold unfl fl
  rw [List.map_map]
  exact (List.map_congr_left (fun x _ => rfl)).trans (List.map_id L)
theorem fl_length (L : List F3) : (fl L).length = L.length := by simp [fl]
theorem unfl_length (l : List (List Int)) : (unfl l).length = l.length := by simp [unfl]
theorem fl_nil : fl [] = [] := rfl
theorem fl_snoc (L : List F3) (x : F3) : fl L ++ [[x.1, x.2.1, x.2.2]] = fl (L ++ [x]) := by simp [fl, F3.l]
theorem nth3_eq (l : List (List Int)) (q : Nat) : nth3 l q = (unfl l).getD q (0, 0, 0) := by
  unfold nth3 unfl
  simp only [List.getD_eq_getElem?_getD, List.getElem?_map]
  cases l[q]? <;> rfl
theorem unfl_take (l : List (List Int)) {n : Nat} (h : n < l.length) : (unfl l).take (n + 1) = (unfl l).take n ++ [nth3 l n] := by
  rw [List.take_add_one, nth3_eq]
  have : n < (unfl l).length := by rw [unfl_length]; exact h
  simp [List.getD_eq_getElem?_getD, this]
theorem unfl_mem (l : List (List Int)) {n : Nat} (h : n < l.length) : nth3 l n ∈ unfl l := by
  rw [nth3_eq]
  have : n < (unfl l).length := by rw [unfl_length]; exact h
  simp [List.getD_eq_getElem?_getD, this]
theorem unfl_at {l : List (List Int)} {n : Nat} (h : n < l.length) : (unfl l)[n]? = some (nth3 l n) := by
  rw [nth3_eq]
  have : n < (unfl l).length := by rw [unfl_length]; exact h
  simp [List.getD_eq_getElem?_getD, this]
theorem wsucc {n m : Nat} (h : n < m) (hm : m ≤ 100000000000) : wrap64 ((n : Int) + 1) = ((n + 1 : Nat) : Int) := by
  rw [wrap_id (by omega) (by omega)]; omega
theorem ilt_iff {n m : Nat} : decide ((n : Int) < (m : Int)) = true ↔ n < m := by simp
theorem inlt_iff {n m : Nat} : decide ((n : Int) < (m : Int)) = false ↔ m ≤ n := by simp

/-- the first q elements are alike -/
theorem take_eq_full {α : Type} {l m : List α} (hl : l.length = m.length) {q : Nat} (hq : l.length ≤ q) (h : l.take q = m.take q) : l = m := by
  rwa [List.take_of_length_le hq, List.take_of_length_le (by omega)] at h

-- (not in this seat: ToForm)
-- (not in this seat: EqForm)
theorem eq3_iff (x y : F3) : (x.1 == y.1 && (x.2.1 == y.2.1 && x.2.2 == y.2.2)) = true ↔ x = y := by
  obtain ⟨a, b, c⟩ := x
  obtain ⟨a', b', c'⟩ := y
  simp
-- (not in this seat: EqFormS)
/-- what a marked row holds: the numbers from k on, one after the other -/
def ramp3 (k : Int) (n : Nat) : List (List Int) := (List.range n).map fun j : Nat => [k + 3 * (j : Int), k + 3 * (j : Int) + 1, k + 3 * (j : Int) + 2]
theorem ramp3_length (k : Int) (n : Nat) : (ramp3 k n).length = n := by simp [ramp3]
theorem ramp3_succ (k : Int) (n : Nat) : ramp3 k (n + 1) = ramp3 k n ++ [[k + 3 * (n : Int), k + 3 * (n : Int) + 1, k + 3 * (n : Int) + 2]] := by simp [ramp3, List.range_succ]
theorem ramp3_at (k : Int) {n q : Nat} (h : q < n) : (ramp3 k n).getD q [0, 0, 0] = [k + 3 * (q : Int), k + 3 * (q : Int) + 1, k + 3 * (q : Int) + 2] := by
  simp [ramp3, List.getD_eq_getElem?_getD, h]
theorem set_part {α : Type} {A : List α} {l : List α} {n : Nat} (x : α) (hA : A.length = n) (hn : n < l.length) : (A ++ l.drop n).set n x = (A ++ [x]) ++ l.drop (n + 1) := by
  rw [List.set_append_right _ _ (by omega), show n - A.length = 0 by omega, List.drop_eq_getElem_cons hn, List.set_cons_zero, List.append_assoc]
  rfl
theorem get_part {α : Type} {A : List α} {l : List α} {n : Nat} (x d : α) (hA : A.length = n) : ((A ++ [x]) ++ l).getD n d = x := by
  rw [List.getD_eq_getElem?_getD, List.getElem?_append_left (by simp; omega), List.getElem?_append_right (by omega)]
  simp [hA]
theorem set_again {α : Type} {A : List α} {l : List α} {n : Nat} (x y : α) (hA : A.length = n) : ((A ++ [x]) ++ l).set n y = (A ++ [y]) ++ l := by
  rw [List.append_assoc, List.set_append_right _ _ (by omega), show n - A.length = 0 by omega, List.append_assoc]
  rfl
def wf3 (l : List (List Int)) : Prop := fl (unfl l) = l
theorem wf3_fl (L : List F3) : wf3 (fl L) := by unfold wf3; rw [unfl_fl]
theorem wf3_at {l : List (List Int)} (h : wf3 l) {n : Nat} (hn : n < l.length) : l.getD n [0, 0, 0] = [(nth3 l n).1, (nth3 l n).2.1, (nth3 l n).2.2] := by
  have h1 : (fl (unfl l)).getD n [0, 0, 0] = l.getD n [0, 0, 0] := by rw [h]
  rw [← h1, nth3_eq]
  have hn' : n < (unfl l).length := by rw [unfl_length]; exact hn
  simp only [fl, List.getD_eq_getElem?_getD, List.getElem?_map, List.getElem?_eq_getElem hn', Option.map_some, Option.getD_some, F3.l]
theorem drop_at {α : Type} {A l : List α} {n : Nat} (d : α) (hA : A.length = n) : (A ++ l.drop n).getD n d = l.getD n d := by
  rw [List.getD_eq_getElem?_getD, List.getElem?_append_right (by omega), List.getElem?_drop, List.getD_eq_getElem?_getD, show n + (n - A.length) = n by omega]
-- (not in this seat: MarkFormS)
-- (not in this seat: HeldFormS)
end Go.Proofs.Ytacomnelongbjab
