/-
  Contracts of signatures.
-/
import Derived.Test.YtdkmcpbjicnfmaaLb68
import Derived.Test.YtdkmcpbjicnfmaaL8
namespace Go.Proofs.Ytdkmcpbjicnfmaa
open Go Vx Go.RowKit

noncomputable def bN : Nat := rencP (baseP ())
end Go.Proofs.Ytdkmcpbjicnfmaa
