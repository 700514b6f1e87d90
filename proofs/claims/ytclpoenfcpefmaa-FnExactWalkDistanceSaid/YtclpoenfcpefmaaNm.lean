/-
  Contracts of the matrix of neighbours and of the matrix of walks on both sides, and of the laws NeighbourMatrix and WalkMatrix. Conditions: none.
-/
import Derived.Test.YtclpoenfcpefmaaGr0
import Derived.Test.YtclpoenfcpefmaaLss
import Derived.Test.YtclpoenfcpefmaaSub2
namespace Go.Proofs.Ytclpoenfcpefmaa
open Go Go.RowKit
set_option maxRecDepth 100000
set_option linter.unusedSimpArgs false
set_option linter.unusedVariables false
set_option maxHeartbeats 4000000

/-- a neighbour of a class is a class -/
theorem nb_rp {d p : Int} {f x : F3} (hf : RP d f) (hp : 2 ≤ p ∧ p ≤ 43) (hx : x ∈ nbL f p) : RP d x := by
  unfold nbL at hx
  obtain ⟨y, hy, rfl⟩ := List.mem_map.1 hx
  obtain ⟨hy1, hc⟩ := List.mem_filter.1 hy
  have hr : RedP f := RedP.of ⟨hf.lo, hf.hi⟩ hf.red
  obtain ⟨q1, q2, _⟩ := quo_dom hr hp hy1 hc
  obtain ⟨h1, h2, h3, h4, _⟩ := sfL_dom hr hp hy1
  have hc' : gcdI y.1 (gcdI y.2.1 y.2.2) = p := by simpa [ctP] using hc
  obtain ⟨⟨a, ha⟩, ⟨b, hb⟩, ⟨c, hcc⟩⟩ := gcd_dvd3 (by omega) (by omega) (by omega) hc'
  have eq : quoF p y = (a, b, c) := by
    unfold quoF
    rw [ha, hb, hcc, Int.mul_tdiv_cancel_left _ (by omega), Int.mul_tdiv_cancel_left _ (by omega), Int.mul_tdiv_cancel_left _ (by omega)]
  have hprim : Prim (a, b, c) := by
    have k := gcd_le (a := y.2.1) (b := y.2.2) (by omega) (by omega)
    rw [gcdI_eq (a := y.2.1) (by omega) (by omega), gcdI_eq (by omega) (by omega), ha, hb, hcc, Int.gcd_mul_left, Int.natCast_mul] at hc'
    have hpn : ((p.natAbs : Nat) : Int) = p := by omega
    rw [hpn, Int.gcd_mul_left, Int.natCast_mul, hpn] at hc'
    have h5 : ((Int.gcd a (Int.gcd b c : Nat) : Nat) : Int) = 1 := by
      have h6 : p * ((Int.gcd a (Int.gcd b c : Nat) : Nat) : Int) = p * 1 := by rw [hc']; omega
      exact Int.eq_of_mul_eq_mul_left (by omega) h6
    exact prim_of (by omega)
  have hred := rdx_red (x := quoF p y) q1
  have e : rdF (quoF p y) = rdx (quoF p y) := rd3_eq q1
  have hd : dsc (quoF p y) = d := by rw [q2]; exact hf.red.d
  rw [hd] at hred
  rw [e]
  have hpr : Prim (quoF p y) := by rw [eq]; exact hprim
  exact ⟨hred, hpr.eqv (eqv_rdx _), hf.lo, hf.hi⟩
def bump (r : List Int) (i : Nat) : List Int := r.set i (wrap64 (r.getD i 0 + 1))
def nrow (L N : List F3) : List Int := N.foldl (fun r h => bump r (L.idxOf h)) (List.replicate L.length 0)
def nmL (L : List F3) (p : Int) : List (List Int) := L.map fun f => nrow L (nbL f p)
theorem nrow_nil (L : List F3) : nrow L [] = List.replicate L.length 0 := rfl
theorem nrow_snoc (L N : List F3) (h : F3) : nrow L (N ++ [h]) = bump (nrow L N) (L.idxOf h) := by unfold nrow; rw [List.foldl_append]; rfl
theorem nrow_len (L : List F3) (N : List F3) : (nrow L N).length = L.length := by
  unfold nrow
  have : ∀ (N : List F3) (r : List Int), (N.foldl (fun r h => bump r (L.idxOf h)) r).length = r.length := by
    intro N
    induction N with
    | nil => intro r; rfl
    | cons h N ih => intro r; rw [List.foldl_cons, ih]; unfold bump; simp
  rw [this]; simp
theorem nmL_len (L : List F3) (p : Int) : (nmL L p).length = L.length := by unfold nmL; simp
theorem nmL_at {L : List F3} {p : Int} {k : Nat} (hk : k < (fl L).length) : (nmL L p).take (k + 1) = (nmL L p).take k ++ [nrow L (nbL (nth3 (fl L) k) p)] := by
  have h1 := unfl_at hk
  rw [unfl_fl] at h1
  unfold nmL
  rw [List.take_add_one, List.getElem?_map, h1]
  rfl
theorem nbs_len {f : F3} {p : Int} (hp : 2 ≤ p ∧ p ≤ 43) : (nbL f p).length ≤ 100 := by
  unfold nbL
  rw [List.length_map]
  exact Nat.le_trans (List.length_filter_le _ _) (Nat.le_trans (sfL_len f hp) (by omega))
-- (not in this seat: NbMat0)
-- (not in this seat: HkNbM)
/-! ### the law of the neighbours' matrix -/
def nmB (d p : Int) : Bool := negB d && idxB p
theorem nmL_ok {d p : Int} (h : negB d = true) : SSok (nmL (redF d) p) := by
  have hlen := redF_len (negB_in h).1
  refine ⟨by rw [nmL_len]; omega, fun l hl => ?_⟩
  unfold nmL at hl
  obtain ⟨f, _, rfl⟩ := List.mem_map.1 hl
  rw [nrow_len]; omega
theorem nmB_neg {d p : Int} (h : nmB d p = true) : negB d = true ∧ 2 ≤ p ∧ p ≤ 43 := by
  unfold nmB at h
  rw [Bool.and_eq_true] at h
  exact ⟨h.1, idx_in h.2⟩
/-! ### walks -/
def addN (s : List Int) (m : Int) (r : List Int) : Nat → List Int
  | 0 => r
  | l + 1 => (addN s m r l).set l (wrap64 ((addN s m r l).getD l 0 + wrap64 (m * s.getD l 0)))
def midN (M : List (List Int)) (row : List Int) : Nat → List Int
  | 0 => List.replicate M.length 0
  | j + 1 => addN (M.getD j []) (row.getD j 0) (midN M row j) (M.getD j []).length
def walkN (M : List (List Int)) (i : Nat) : Nat → List Int
  | 0 => (List.replicate M.length 0).set i 1
  | k + 1 => midN M (walkN M i k) (walkN M i k).length
theorem addN_len (s : List Int) (m : Int) (r : List Int) : ∀ l, (addN s m r l).length = r.length
  | 0 => rfl
  | l + 1 => by rw [addN, List.length_set, addN_len]
theorem midN_len (M : List (List Int)) (row : List Int) : ∀ j, (midN M row j).length = M.length
  | 0 => by simp [midN]
  | j + 1 => by rw [midN, addN_len, midN_len]
theorem walkN_len (M : List (List Int)) (i : Nat) : ∀ k, (walkN M i k).length = M.length
  | 0 => by simp [walkN]
  | k + 1 => by rw [walkN, midN_len]
def wkL (M : List (List Int)) (k : Int) : List (List Int) := (List.range M.length).map fun i => walkN M i k.toNat
theorem wkL_len (M : List (List Int)) (k : Int) : (wkL M k).length = M.length := by simp [wkL]
theorem wkL_take {M : List (List Int)} {k : Int} {n : Nat} (hn : n < M.length) : (wkL M k).take (n + 1) = (wkL M k).take n ++ [walkN M n k.toNat] := by
  rw [takeS_get (by rw [wkL_len]; exact hn)]
  congr 2
  unfold wkL
  simp [List.getD_eq_getElem?_getD, hn]
/-- a square of integers -/
def SqOk (M : List (List Int)) : Prop := M.length ≤ 2000 ∧ ∀ j, j < M.length → (M.getD j []).length = M.length
theorem nmL_sq {d p : Int} (h : negB d = true) : SqOk (nmL (redF d) p) := by
  have hlen := redF_len (negB_in h).1
  refine ⟨by rw [nmL_len]; omega, fun j hj => ?_⟩
  have hm : (nmL (redF d) p).getD j [] ∈ nmL (redF d) p := by
    rw [List.getD_eq_getElem?_getD, List.getElem?_eq_getElem hj, Option.getD_some]
    exact List.getElem_mem hj
  rw [nmL_len]
  unfold nmL at hm ⊢
  obtain ⟨f, _, hf⟩ := List.mem_map.1 hm
  rw [← hf, nrow_len]
theorem wkL_ok {M : List (List Int)} (h : SqOk M) (k : Int) : SSok (wkL M k) := by
  refine ⟨by rw [wkL_len]; exact h.1, fun l hl => ?_⟩
  unfold wkL at hl
  obtain ⟨i, _, rfl⟩ := List.mem_map.1 hl
  rw [walkN_len]; exact h.1
end Go.Proofs.Ytclpoenfcpefmaa
