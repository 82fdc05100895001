/-
  Contracts of the document's numbers: ones.
-/
import Derived.Test.YtdkmcpbjicnfmaaL3
import Derived.Test.YtdkmcpbjicnfmaaM3
import Derived.Test.YtdkmcpbjicnfmaaLb19
import Derived.Test.YtdkmcpbjicnfmaaM2
namespace Go.Proofs.Ytdkmcpbjicnfmaa
open Go Vx Go.RowKit
end Go.Proofs.Ytdkmcpbjicnfmaa

/-
  Contracts of the document's numbers: powers.
-/
namespace Go.Proofs.Ytdkmcpbjicnfmaa
open Go Vx Go.RowKit

theorem pow_one (a e : Nat) : mulP (powP a e) a = powP a (1 + e) := by
 rw [mulP_eq, powP_eq, powP_eq, Nat.mod_mul_mod, ← Nat.pow_succ]
 congr 2; omega

def e3 : Nat := 7237005577332262213973186563042994240829374041602535252466099000494570602494
end Go.Proofs.Ytdkmcpbjicnfmaa

/-
  Contracts of the document's numbers: sums, opposites, signs, bytes.
-/
namespace Go.Proofs.Ytdkmcpbjicnfmaa
open Go Vx Go.RowKit

noncomputable def negN : Nat → Nat := hidden' fun a => if a ≤ pP then (pP - a) % pP else (pP + 115792089237316195423570985008687907853269984665640564039457584007913129639936 - a) % pP
noncomputable def oddN : Nat → Bool := hidden' fun a => decide (a % 2 = 1)
noncomputable def absN (a : Nat) : Nat := bif oddN a then negN a else a
end Go.Proofs.Ytdkmcpbjicnfmaa

/-
  Contracts of the document's numbers: roots, bytes.
-/
namespace Go.Proofs.Ytdkmcpbjicnfmaa
open Go Vx Go.RowKit

noncomputable def rtX0 (w : Nat) : Nat := bif decide (mulP (powP w e3) (powP w e3) = w) then powP w e3 else mulP (powP w e3) iP
noncomputable def rtX : Nat → Nat := hidden' rtX0
noncomputable def rtB : Nat → Bool := hidden' fun w => decide (mulP (rtX w) (rtX w) = w)
end Go.Proofs.Ytdkmcpbjicnfmaa

/-
  Contracts of the document's numbers: the root of a quotient; its numbers are the program's.
-/
namespace Go.Proofs.Ytdkmcpbjicnfmaa
open Go Vx Go.RowKit

noncomputable def nr0 (u v : Nat) : Nat × Bool := bif decide (u = 0) then (0, true) else bif decide (v = 0) then (0, false) else bif rtB (mulP u (invP v)) then (absN (rtX (mulP u (invP v))), true) else (absN (rtX (mulP (mulP u (invP v)) iP)), false)
noncomputable def nrR : Nat → Nat → Nat := hidden' fun u v => (nr0 u v).1
noncomputable def nrB : Nat → Nat → Bool := hidden' fun u v => (nr0 u v).2
end Go.Proofs.Ytdkmcpbjicnfmaa

/-
  Contracts of the document's curve.
-/
namespace Go.Proofs.Ytdkmcpbjicnfmaa
open Go Vx Go.RowKit
end Go.Proofs.Ytdkmcpbjicnfmaa

/-
  Contracts of the document's elements: out of bytes.
-/
namespace Go.Proofs.Ytdkmcpbjicnfmaa
open Go Vx Go.RowKit
end Go.Proofs.Ytdkmcpbjicnfmaa
