/-
  Contracts of relations: are two proofs the same?
-/
import Derived.Test.YtdkmcpbjicnfmaaGreatLb86
import Derived.Test.YtdkmcpbjicnfmaaGreatLb85
namespace Go.Proofs.YtdkmcpbjicnfmaaGreat
open Go Vx Go.RowKit
end Go.Proofs.YtdkmcpbjicnfmaaGreat
