/-
  The law RistoDecodes answers true.
-/
import Derived.Test.YtdkmcpbjicnfmaaL4
namespace Go.Proofs.Ytdkmcpbjicnfmaa
open Go Vx Go.RowKit
end Go.Proofs.Ytdkmcpbjicnfmaa
