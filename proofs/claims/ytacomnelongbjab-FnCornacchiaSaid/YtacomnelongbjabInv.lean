/-
  Contracts of InverseForm on both sides, and of its law. Conditions: none.
-/
import Derived.Test.YtacomnelongbjabLst
namespace Go.Proofs.Ytacomnelongbjab
open Go Go.RowKit
set_option maxRecDepth 100000
set_option linter.unusedSimpArgs false
set_option linter.unusedVariables false
set_option maxHeartbeats 4000000

-- (not in this seat: Inverse)
-- (not in this seat: CoInverse)
-- (not in this seat: SInverse)
-- (not in this seat: LawInverse)
end Go.Proofs.Ytacomnelongbjab
