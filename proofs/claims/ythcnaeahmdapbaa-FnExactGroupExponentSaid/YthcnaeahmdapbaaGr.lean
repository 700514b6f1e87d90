/-
  Contracts of the law ClassIndex; the first class is the identity. Conditions: none.
-/
import Derived.Test.YthcnaeahmdapbaaGr0
import Derived.Test.YthcnaeahmdapbaaOr
import Derived.Test.YthcnaeahmdapbaaAm
namespace Go.Proofs.Ythcnaeahmdapbaa
open Go Go.RowKit
set_option maxRecDepth 100000
set_option linter.unusedSimpArgs false
set_option linter.unusedVariables false
set_option maxHeartbeats 4000000

/-- the first class is the identity -/
theorem redF_head {d : Int} (h : negB d = true) : ∃ T, redF d = prI d :: T := by
  have hd := negB_in h
  have h4 : d % 4 = 0 ∨ d % 4 = 1 := by
    simp only [negB, Bool.and_eq_true, decide_eq_true_eq] at h
    have := modI_eq (x := d) (m := 4) (by omega) (by omega)
    omega
  have hp := pr_rp hd.1 hd.2 h4
  have hpi := prI_eq (d := d) ⟨by omega, hd.2⟩ h4
  have hm := (mem_allRed hd).2 hp.red
  have hs : allRed d = allB d 1 (1 - 1) ++ allA d (1 + 1) := allA_step (by omega) (decide_eq_true (by omega))
  have hone : ∀ x ∈ allB d 1 (1 - 1), x = prI d := by
    intro x hx
    have h1 : IsRed d x := (mem_allRed hd).1 (by rw [hs]; exact List.mem_append_left _ hx)
    have h2 := ((mem_allB _).1 hx).1
    obtain ⟨a, b, c⟩ := x
    simp only at h2
    subst h2
    obtain ⟨_, r1, r2, r3, r4⟩ := h1
    simp only at r1 r2 r3 r4
    rw [hpi.1]
    have hb : b = 0 ∨ b = 1 := by omega
    have hb2 : b * b = b := by rcases hb with rfl | rfl <;> rfl
    rw [hb2] at r4
    have e1 : b = d % 2 := by omega
    subst e1
    simp only [Prod.mk.injEq, true_and]
    omega
  have hin : prI d ∈ allB d 1 (1 - 1) := by
    rw [hs] at hm
    rcases List.mem_append.1 hm with h1 | h1
    · exact h1
    · have := ((mem_allA (1 + 1) (by omega)).1 h1).1
      rw [hpi.1] at this
      simp only at this
      omega
  have hpb : primB (prI d) = true := ((mem_redF hd).1 (rp_mem hp)).2
  unfold redF
  rw [hs]
  generalize allB d 1 (1 - 1) = A at *
  cases A with
  | nil => cases hin
  | cons x A =>
    rw [hone x (by simp)]
    rw [List.cons_append, List.filter_cons, if_pos hpb]
    exact ⟨_, rfl⟩
def ciI (a b c : Int) : Int := (((redF (dsc (a, b, c))).idxOf (rd a b c) : Nat) : Int)
def onN (h : Bool) (n : Int) : Int := bif h then n else 0
-- (not in this seat: ClassIndex)
-- (not in this seat: SClassIndex)
-- (not in this seat: LawClassIndex)
end Go.Proofs.Ythcnaeahmdapbaa
