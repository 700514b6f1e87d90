/-
  The order of a class divides the number of classes. Plain mathematics. Conditions: none.
-/
import Derived.Test.YthcnaeahmdapbaaGx
namespace Go.Proofs.Ythcnaeahmdapbaa
open Go Go.RowKit
set_option maxRecDepth 100000
set_option linter.unusedSimpArgs false
set_option linter.unusedVariables false
set_option maxHeartbeats 4000000

def prodL (D : Int) (L : List F3) : F3 := L.foldr cmp (prI D)
theorem prod_rp {D : Int} (h1 : RP D (prI D)) : ∀ L : List F3, (∀ y ∈ L, RP D y) → RP D (prodL D L)
  | [], _ => h1
  | y :: L, h => cmp_rp (h y (by simp)) (prod_rp h1 L fun z hz => h z (by simp [hz]))
theorem prod_perm {D : Int} (h1 : RP D (prI D)) {L M : List F3} (hp : L.Perm M) : (∀ y ∈ L, RP D y) → prodL D L = prodL D M := by
  induction hp with
  | nil => intro _; rfl
  | cons y _ ih =>
    intro h
    show cmp y (prodL D _) = cmp y (prodL D _)
    rw [ih fun z hz => h z (by simp [hz])]
  | swap y z L =>
    intro h
    have hy := h y (by simp)
    have hz := h z (by simp)
    have hL := prod_rp h1 L fun u hu => h u (by simp [hu])
    show cmp z (cmp y (prodL D L)) = cmp y (cmp z (prodL D L))
    rw [← cmp_assoc hz hy hL, ← cmp_assoc hy hz hL, cmp_comm hz hy]
  | trans p1 _ ih1 ih2 =>
    intro h
    exact (ih1 h).trans (ih2 fun z hz => h z (p1.mem_iff.2 hz))
def pwr (D : Int) (x : F3) : Nat → F3
  | 0 => prI D
  | n + 1 => cmp x (pwr D x n)
theorem pwr_rp {D : Int} (h1 : RP D (prI D)) {x : F3} (hx : RP D x) : ∀ n, RP D (pwr D x n)
  | 0 => h1
  | n + 1 => cmp_rp hx (pwr_rp h1 hx n)
theorem prod_map {D : Int} (h1 : RP D (prI D)) (h4 : D % 4 = 0 ∨ D % 4 = 1) {x : F3} (hx : RP D x) : ∀ L : List F3, (∀ y ∈ L, RP D y) → prodL D (L.map (cmp x)) = cmp (pwr D x L.length) (prodL D L)
  | [], _ => (cmp_id h1 h4).symm
  | y :: L, h => by
    have hy := h y (by simp)
    have hL : ∀ z ∈ L, RP D z := fun z hz => h z (by simp [hz])
    have ih := prod_map h1 h4 hx L hL
    have hP := prod_rp h1 L hL
    have hw := pwr_rp h1 hx L.length
    show cmp (cmp x y) (prodL D (L.map (cmp x))) = cmp (cmp x (pwr D x L.length)) (cmp y (prodL D L))
    rw [ih, cmp_assoc hx hy (cmp_rp hw hP), cmp_assoc hx hw (cmp_rp hy hP), ← cmp_assoc hy hw hP, ← cmp_assoc hw hy hP, cmp_comm hy hw]
theorem perm_of {α : Type} [DecidableEq α] : ∀ (l L : List α), l.Nodup → (∀ x ∈ l, x ∈ L) → l.length = L.length → l.Perm L
  | [], L, _, _, hl => by
    have : L = [] := List.length_eq_zero_iff.1 hl.symm
    rw [this]
  | a :: l, L, hn, hs, hl => by
    rw [List.nodup_cons] at hn
    have ha := hs a (by simp)
    have ih := perm_of l (L.erase a) hn.2 (fun x hx => by
      have hne : x ≠ a := fun e => hn.1 (e ▸ hx)
      exact (List.mem_erase_of_ne hne).2 (hs x (by simp [hx]))) (by
      rw [List.length_erase_of_mem ha]
      simp only [List.length_cons] at hl
      omega)
    exact (ih.cons a).trans (List.perm_cons_erase ha).symm
/-- THE POWER WITH THE NUMBER OF CLASSES IS THE IDENTITY. -/
theorem pwr_all {D : Int} (hd : -2000 ≤ D ∧ D ≤ -3) (h4 : D % 4 = 0 ∨ D % 4 = 1) (hall : ∀ y ∈ redF D, RP D y) {x : F3} (hx : RP D x) : pwr D x (redF D).length = prI D := by
  have h1 := pr_rp hd.1 hd.2 h4
  have hperm : ((redF D).map (cmp x)).Perm (redF D) := by
    refine perm_of _ _ ?_ (fun z hz => ?_) (List.length_map _)
    · rw [List.Nodup, List.pairwise_map]
      refine (redF_nodup D).imp_of_mem fun {y z} hy hz hne he => hne ?_
      have ry := hall y hy
      have rz := hall z hz
      rw [cmp_comm hx ry, cmp_comm hx rz] at he
      exact cmp_inj ry rz hx he
    · obtain ⟨y, hy, rfl⟩ := List.mem_map.1 hz
      exact rp_mem (cmp_rp hx (hall y hy))
  have hP := prod_rp h1 (redF D) hall
  have e1 := prod_map h1 h4 hx (redF D) hall
  have e2 := prod_perm h1 hperm fun z hz => by
    obtain ⟨y, hy, rfl⟩ := List.mem_map.1 hz
    exact cmp_rp hx (hall y hy)
  rw [e2] at e1
  have e3 := cmp_id hP h4
  exact cmp_inj (pwr_rp h1 hx _) h1 hP (e1.symm.trans e3.symm)
theorem pwr_orb {D : Int} (h1 : RP D (prI D)) (h4 : D % 4 = 0 ∨ D % 4 = 1) {x : F3} (hx : RP D x) : ∀ n, pwr D x (n + 1) = orb x n
  | 0 => by
    show cmp x (prI D) = x
    rw [cmp_comm hx h1, cmp_id hx h4]
  | n + 1 => by
    show cmp x (pwr D x (n + 1)) = cmp (orb x n) x
    rw [pwr_orb h1 h4 hx n, cmp_comm hx (orb_rp hx n)]
theorem pwr_add {D : Int} (h1 : RP D (prI D)) (h4 : D % 4 = 0 ∨ D % 4 = 1) {x : F3} (hx : RP D x) (n : Nat) : ∀ m, pwr D x (m + n) = cmp (pwr D x m) (pwr D x n)
  | 0 => by
    rw [Nat.zero_add]
    exact (cmp_id (pwr_rp h1 hx n) h4).symm
  | m + 1 => by
    have e : m + 1 + n = (m + n) + 1 := by omega
    rw [e]
    show cmp x (pwr D x (m + n)) = cmp (cmp x (pwr D x m)) (pwr D x n)
    rw [pwr_add h1 h4 hx n m, cmp_assoc hx (pwr_rp h1 hx m) (pwr_rp h1 hx n)]
theorem pwr_mul {D : Int} (h1 : RP D (prI D)) (h4 : D % 4 = 0 ∨ D % 4 = 1) {x : F3} (hx : RP D x) {n : Nat} (hn : pwr D x n = prI D) : ∀ k, pwr D x (k * n) = prI D
  | 0 => by rw [Nat.zero_mul]; rfl
  | k + 1 => by
    rw [Nat.succ_mul, pwr_add h1 h4 hx, pwr_mul h1 h4 hx hn k, hn]
    exact cmp_id h1 h4
/-- THE ORDER OF A CLASS DIVIDES THE NUMBER OF CLASSES. -/
theorem ord_dvd {D : Int} (hd : -2000 ≤ D ∧ D ≤ -3) (h4 : D % 4 = 0 ∨ D % 4 = 1) (hall : ∀ y ∈ redF D, RP D y) {x : F3} (hx : RP D x) {n : Nat} (ho : OrdAt D x n) : n + 1 ∣ (redF D).length := by
  have h1 := pr_rp hd.1 hd.2 h4
  have hall' := pwr_all hd h4 hall hx
  have hn : pwr D x (n + 1) = prI D := (pwr_orb h1 h4 hx n).trans ho.1
  have hdm := Nat.div_add_mod (redF D).length (n + 1)
  have hlt := Nat.mod_lt (redF D).length (show 0 < n + 1 by omega)
  have e1 : (redF D).length = (redF D).length / (n + 1) * (n + 1) + (redF D).length % (n + 1) := by rw [Nat.mul_comm]; exact hdm.symm
  rw [e1, pwr_add h1 h4 hx, pwr_mul h1 h4 hx hn, cmp_id (pwr_rp h1 hx _) h4] at hall'
  refine Nat.dvd_of_mod_eq_zero ?_
  cases hm : (redF D).length % (n + 1) with
  | zero => rfl
  | succ r =>
    rw [hm, pwr_orb h1 h4 hx] at hall'
    exact absurd hall' (ho.2 r (by omega))
end Go.Proofs.Ythcnaeahmdapbaa
