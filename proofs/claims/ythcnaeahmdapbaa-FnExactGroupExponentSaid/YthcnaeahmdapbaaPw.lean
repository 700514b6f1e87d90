/-
  Contracts of powers on both sides, and of the law PowerForm. Conditions: none.
-/
import Derived.Test.YthcnaeahmdapbaaCo5
namespace Go.Proofs.Ythcnaeahmdapbaa
open Go Go.RowKit
set_option maxRecDepth 100000
set_option linter.unusedSimpArgs false
set_option linter.unusedVariables false
set_option maxHeartbeats 4000000

abbrev fComposeR : Nat := fCompose
def cComposeR : Ctr
  | [.s [a, b, c], .s [x, y, z]] => some ⟨UnPre a b c x y z, .one (.s [(cmp (a, b, c) (x, y, z)).1, (cmp (a, b, c) (x, y, z)).2.1, (cmp (a, b, c) (x, y, z)).2.2]), []⟩
  | _ => none
theorem un_cu {a b c x y z : Int} (h : UnPre a b c x y z) : CuPre a b c x y z ∧ coxA a b c x y z = (cmp (a, b, c) (x, y, z)).1 ∧ coxB a b c x y z = (cmp (a, b, c) (x, y, z)).2.1 ∧ coxC a b c x y z = (cmp (a, b, c) (x, y, z)).2.2 := by
  obtain ⟨D, hf, hg⟩ := h
  have e1 := rd_red hf
  have e2 := rd_red hg
  have hc : CuPre a b c x y z := by
    refine ⟨hf.dom, hg.dom, D, ?_, ?_⟩
    · have : (rdA a b c, rdB a b c, rdC a b c) = (a, b, c) := e1
      rw [this]; exact hf
    · have : (rdA x y z, rdB x y z, rdC x y z) = (x, y, z) := e2
      rw [this]; exact hg
  have h := cx_cmp hc
  rw [e1, e2] at h
  rw [← h]
  exact ⟨hc, rfl, rfl, rfl⟩
theorem okComposeR : CtrOk Try.prog fComposeR cComposeR := CtrOk.imp okCompose fun args ce' h hp => by
  unfold cComposeR at h
  split at h
  case h_2 => cases h
  rename_i a b c x y z
  simp only [Option.some.injEq] at h
  subst h
  obtain ⟨h1, h2, h3, h4⟩ := un_cu hp
  exact ⟨_, rfl, h1, by simp only [h2, h3, h4], rfl⟩
abbrev fCoMulR : Nat := fCoMul
def cCoMulR : Ctr
  | [.s [a, b, c], .s [x, y, z]] => some ⟨UnPre a b c x y z, .one (.s [(cmp (a, b, c) (x, y, z)).1, (cmp (a, b, c) (x, y, z)).2.1, (cmp (a, b, c) (x, y, z)).2.2]), []⟩
  | _ => none
theorem okCoMulR : CtrOk Try.prog fCoMulR cCoMulR := CtrOk.imp okCoMul fun args ce' h hp => by
  unfold cCoMulR at h
  split at h
  case h_2 => cases h
  rename_i a b c x y z
  simp only [Option.some.injEq] at h
  subst h
  obtain ⟨h1, h2, h3, h4⟩ := un_cu hp
  exact ⟨_, rfl, h1, by simp only [h2, h3, h4], rfl⟩
/-- a class form's opposite -/
theorem opp_rp {x y z : Int} (h : classB x y z = true) : RP (dsc (x, y, z)) (rd x (wrap64 (0 - y)) z) ∧ domB x (wrap64 (0 - y)) z = true ∧ rd x (wrap64 (0 - y)) z = rd (rdA x y z) (wrap64 (0 - rdB x y z)) (rdC x y z) ∧ domB (rdA x y z) (wrap64 (0 - rdB x y z)) (rdC x y z) = true ∧ discI x (wrap64 (0 - y)) z = dsc (x, y, z) := by
  obtain ⟨r2, d2⟩ := class_rp h
  have hod := class_opp h
  have hw : wrap64 (0 - y) = -y := (class_dom h).neg
  have hp : Prim (x, y, z) := r2.prim.eqv ((eqv_rdx (x, y, z)).symm |> fun e => by rw [← rd3_eq d2] at e; exact e)
  have ho : Prim (x, wrap64 (0 - y), z) := by rw [hw]; exact hp.opp
  have hdo : dsc (x, wrap64 (0 - y), z) = dsc (x, y, z) := by rw [hw]; exact dsc_opp (x, y, z)
  have hr := rdx_red (x := (x, wrap64 (0 - y), z)) hod
  have hp2 := ho.eqv (eqv_rdx _)
  have e : rdx (x, wrap64 (0 - y), z) = rd x (wrap64 (0 - y)) z := (rd3_eq hod).symm
  have hw2 : wrap64 (0 - rdB x y z) = -rdB x y z := (F3.dom_of r2.dom).neg
  have hd2 : domB (rdA x y z) (wrap64 (0 - rdB x y z)) (rdC x y z) = true := by rw [hw2]; exact opp_dom r2.dom
  rw [hdo] at hr
  refine ⟨⟨by rw [← e]; exact hr, by rw [← e]; exact hp2, r2.lo, r2.hi⟩, hod, ?_, hd2, ?_⟩
  · rw [← e, rd_rdx hd2, hw, hw2]
    have h1 := rdx_opp (x := (x, y, z)) d2
    have h2 : rdx (x, y, z) = (rdA x y z, rdB x y z, rdC x y z) := (rd3_eq d2).symm
    rw [h2] at h1
    exact h1
  · rw [hw]
    have h1 := (class_disc h).1
    have h2 : discI x (-y) z = discI x y z := by unfold discI; rw [show -y * -y = y * y by grind]
    rw [h2, h1]
def pwL (k : Int) (f p : F3) : F3 := if _h : k > 0 then pwL (k / 2) (cmp f f) (if k % 2 = 1 then cmp p f else p) else p
  termination_by k.toNat
  decreasing_by omega
theorem pwL_go {k : Int} {f p : F3} (h : k > 0) : pwL k f p = pwL (k / 2) (cmp f f) (if k % 2 = 1 then cmp p f else p) := by rw [pwL.eq_def, dif_pos h]
theorem pwL_end {k : Int} {f p : F3} (h : ¬ k > 0) : pwL k f p = p := by rw [pwL.eq_def, dif_neg h]
def pwX (a b c k : Int) : F3 := if k < 0 then pwL (-k) (rd a (wrap64 (0 - b)) c) (prI (dsc (a, b, c))) else pwL k (rd a b c) (prI (dsc (a, b, c)))
def pwA (a b c k : Int) : Int := (pwX a b c k).1
def pwB (a b c k : Int) : Int := (pwX a b c k).2.1
def pwC (a b c k : Int) : Int := (pwX a b c k).2.2
theorem pr_rp {D : Int} (hlo : -2000 ≤ D) (hhi : D ≤ -3) (h4 : D % 4 = 0 ∨ D % 4 = 1) : RP D (prI D) := by
  obtain ⟨e, h⟩ := prI_eq ⟨by omega, hhi⟩ h4
  refine ⟨h, ?_, hlo, hhi⟩
  rw [e]
  exact ⟨1, 0, 0, by simp⟩
theorem rp_disc {D x y z : Int} (h : RP D (x, y, z)) : discI x y z = D := by
  have h1 := h.a25
  have h2 := h.red.abs
  have h3 := h.c700
  simp only at h1 h2 h3
  rw [(disc_small h1 ⟨by omega, by omega⟩ h3).1]
  exact h.dsc
structure PwPre (a b c k : Int) : Prop where
  cl : classB a b c = true
  k1 : -1000000 ≤ k ∧ k ≤ 1000000
-- (not in this seat: PowerF0)
-- (not in this seat: CoPower)
/-! ### the law -/
def pwG (a b c k : Int) : Bool := classB a b c && goodI k
-- (not in this seat: PowerF)
-- (not in this seat: SPowerF)
-- (not in this seat: LawPower)
end Go.Proofs.Ythcnaeahmdapbaa
