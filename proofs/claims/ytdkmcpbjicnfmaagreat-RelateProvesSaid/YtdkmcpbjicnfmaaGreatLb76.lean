/-
  The document's signatures: points and nonces.
-/
import Derived.Test.YtdkmcpbjicnfmaaGreatL13
namespace Go.Proofs.YtdkmcpbjicnfmaaGreat
open Go Vx Go.RowKit
end Go.Proofs.YtdkmcpbjicnfmaaGreat
