/-
  The law RistoEquals answers true.
-/
import Derived.Test.YtdkmcpbjicnfmaaL3
namespace Go.Proofs.Ytdkmcpbjicnfmaa
open Go Vx Go.RowKit
end Go.Proofs.Ytdkmcpbjicnfmaa
