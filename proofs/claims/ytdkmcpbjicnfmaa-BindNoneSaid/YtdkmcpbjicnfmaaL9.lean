/-
  The laws AlgebraScalars, AlgebraBack answer true.
-/
import Derived.Test.YtdkmcpbjicnfmaaL8
import Derived.Test.YtdkmcpbjicnfmaaM3
namespace Go.Proofs.Ytdkmcpbjicnfmaa
open Go Vx Go.RowKit
end Go.Proofs.Ytdkmcpbjicnfmaa

/-
  The law AlgebraBack answers true; what sums of terms stand for.
-/
namespace Go.Proofs.Ytdkmcpbjicnfmaa
open Go Vx Go.RowKit

inductive Terms : List (List D) → E → Prop
 | nil : Terms [] 0
 | cons {a n : Nat} {P S : E} {l : List (List D)} : okS a = true → Pt n P → Terms l S → Terms ([.n a, .n n] :: l) (E.mul a P + S)
noncomputable abbrev inL (a : Nat) : Nat := bif okS a && !allB [decide (a = 0)] then powL a 7237005577332262213973186563042994240857116359379907606001950938285454250987 else 0
end Go.Proofs.Ytdkmcpbjicnfmaa
