/-
  The law RistoDecodes answers true.
-/
import Derived.Test.YtdkmcpbjicnfmaaGreatL4
namespace Go.Proofs.YtdkmcpbjicnfmaaGreat
open Go Vx Go.RowKit
end Go.Proofs.YtdkmcpbjicnfmaaGreat
