/-
  The law RistoEquals answers true.
-/
import Derived.Test.YtdkmcpbjicnfmaaGreatL3
namespace Go.Proofs.YtdkmcpbjicnfmaaGreat
open Go Vx Go.RowKit

theorem mulP_can (a b : Nat) : mulP (canP a) (canP b) = mulP a b := by
 rw [mulP_eq, mulP_eq, canP_eq, canP_eq, ← Nat.mul_mod]
end Go.Proofs.YtdkmcpbjicnfmaaGreat
