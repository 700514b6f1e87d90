/-
  Contracts of IsAmbiguousClass, AmbiguousKind, IsIdentity and EquivalenceMatrix on both sides, and of their laws. Conditions: none.
-/
import Derived.Test.YtacomnelongbjaaRdc
import Derived.Test.YtacomnelongbjaaInv
import Derived.Test.YtacomnelongbjaaLst4
namespace Go.Proofs.Ytacomnelongbjaa
open Go Go.RowKit
set_option maxRecDepth 100000
set_option linter.unusedSimpArgs false
set_option linter.unusedVariables false
set_option maxHeartbeats 4000000

-- (not in this seat: IsAmb)
def rd3 (a b c : Int) : F3 := (rdA a b c, rdB a b c, rdC a b c)
theorem rd3_eq {a b c : Int} (h : domB a b c = true) : rd3 a b c = rdx (a, b, c) := by
  obtain ⟨e1, e2, e3, _⟩ := rd_eqs h
  unfold rd3
  rw [e1, e2, e3]
theorem eqI_3 (a b c x y z : Int) : (bif a == x then (bif b == y then (bif c == z then true else false) else false) else false) = decide ((a, b, c) = (x, y, z)) := by
  rw [Bool.eq_iff_iff]
  cases h1 : (a == x) <;> cases h2 : (b == y) <;> cases h3 : (c == z) <;> simp_all
-- (not in this seat: GeAmb)
-- (not in this seat: IsAmbC)
-- (not in this seat: SIsAmbC)
-- (not in this seat: LawIsAmb)
def kindI (x : F3) : Int := bif x.2.1 == 0 then 1 else bif x.1 == x.2.1 then 2 else bif x.1 == x.2.2 then 3 else 0
-- (not in this seat: AmbKind)
-- (not in this seat: SAmbKind)
-- (not in this seat: LawAmbKind)
def idB (a b c : Int) : Bool := decide (rd3 a b c = prI (discI a b c))
theorem class_negB {a b c : Int} (h : classB a b c = true) : negB (discI a b c) = true := by
  obtain ⟨e1, e2, e3, e4⟩ := class_disc h
  rw [e1]
  simp only [negB, Bool.and_eq_true, decide_eq_true_eq]
  rw [modI_eq (by omega) (by omega)]
  omega
-- (not in this seat: IsId)
-- (not in this seat: IsIdent)
-- (not in this seat: SIsIdent)
-- (not in this seat: LawIsId)

/-! ### EquivalenceMatrix -/
def md (a b c : Int) : M4 := (rdP a b c, rdQ a b c, rdR a b c, rdS a b c)
theorem md_eq {a b c : Int} (h : domB a b c = true) : md a b c = redM (a, b, c) := by
  obtain ⟨_, _, _, e1, e2, e3, e4⟩ := rd_eqs h
  unfold md
  rw [e1, e2, e3, e4]
def emM (a b c x y z : Int) : List Int :=
  timesI (rdP a b c) (rdQ a b c) (rdR a b c) (rdS a b c) (wrap64 (detI (rdP x y z) (rdQ x y z) (rdR x y z) (rdS x y z) * rdS x y z)) (wrap64 (wrap64 (0 - detI (rdP x y z) (rdQ x y z) (rdR x y z) (rdS x y z)) * rdQ x y z)) (wrap64 (wrap64 (0 - detI (rdP x y z) (rdQ x y z) (rdR x y z) (rdS x y z)) * rdR x y z)) (wrap64 (detI (rdP x y z) (rdQ x y z) (rdR x y z) (rdS x y z) * rdP x y z))
def emP (a b c x y z : Int) : Int := (emM a b c x y z).getD 0 0
def emQ (a b c x y z : Int) : Int := (emM a b c x y z).getD 1 0
def emR (a b c x y z : Int) : Int := (emM a b c x y z).getD 2 0
def emS (a b c x y z : Int) : Int := (emM a b c x y z).getD 3 0
theorem emM_eq (a b c x y z : Int) : emM a b c x y z = [emP a b c x y z, emQ a b c x y z, emR a b c x y z, emS a b c x y z] := rfl
def emOk (a b c x y z : Int) : Bool := (defB a b c && defB x y z) && (decide ((rdA a b c, rdB a b c, rdC a b c) = (rdA x y z, rdB x y z, rdC x y z)) && matB (emP a b c x y z) (emQ a b c x y z) (emR a b c x y z) (emS a b c x y z))
-- (not in this seat: EquivM)
-- (not in this seat: SEquivM)
-- (not in this seat: LawEquivM)
end Go.Proofs.Ytacomnelongbjaa
