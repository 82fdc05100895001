/-
  The laws AlgebraScalars, AlgebraBack answer true.
-/
import Derived.Test.YtdkmcpbjicnfmaaL8
import Derived.Test.YtdkmcpbjicnfmaaM3
namespace Go.Proofs.Ytdkmcpbjicnfmaa
open Go Vx Go.RowKit

theorem dec_self {n : Int} : decide (n = n) = true := decide_eq_true rfl
end Go.Proofs.Ytdkmcpbjicnfmaa
