/-
  The law RistoEquals answers true.
-/
import Derived.Test.YtcgmcohkkigphaaGreatL3
namespace Go.Proofs.YtcgmcohkkigphaaGreat
open Go Vx Go.RowKit

theorem Oh (a b:Nat):ah (aH a) (aH b)=ah a b:=by
 rw [lZ,lZ,ed,ed,← Nat.mul_mod]
end Go.Proofs.YtcgmcohkkigphaaGreat
