/-
  Contracts of the document's curve and elements: sums, bytes.
-/
import Derived.Test.YtdkmcpbjicnfmaaL4
import Derived.Test.YtdkmcpbjicnfmaaLb29
namespace Go.Proofs.Ytdkmcpbjicnfmaa
open Go Vx Go.RowKit
end Go.Proofs.Ytdkmcpbjicnfmaa

/-
  Contracts of the document's elements: into bytes; points of a seed.
-/
namespace Go.Proofs.Ytdkmcpbjicnfmaa
open Go Vx Go.RowKit

noncomputable def gU (Y : Nat) : Nat := addP (canP 1) (negN (mulP Y Y))
noncomputable def gR (X Y : Nat) : Nat := nrR (canP 1) (mulP (gU Y) (mulP (mulP X Y) (mulP X Y)))
noncomputable def gA (X Y : Nat) : Nat := mulP (gR X Y) (gU Y)
noncomputable def gE (X Y : Nat) : Nat := mulP (gR X Y) (mulP X Y)
noncomputable def gC (X Y : Nat) : Nat := mulP (mulP (gA X Y) (gE X Y)) (mulP X Y)
noncomputable def g1 (X Y : Nat) : Bool := oddN (mulP (mulP X Y) (gC X Y))
noncomputable def g2 (X Y : Nat) : Bool := oddN (mulP (mulP iP Y) (gC X Y))
noncomputable def g3 (X Y : Nat) : Bool := oddN (mulP X (gC X Y))

noncomputable def hR (y : Nat) : Nat := nrR (addP (mulP y y) (negN (canP 1))) (addP (mulP dP (mulP y y)) (canP 1))
noncomputable def hB (y : Nat) : Bool := nrB (addP (mulP y y) (negN (canP 1))) (addP (mulP dP (mulP y y)) (canP 1))

structure RepQ (x y z : Nat) (P : E) : Prop where
 hz : k z ≠ 0
 hx : k x = P.x * k z
 hy : k y = P.y * k z
end Go.Proofs.Ytdkmcpbjicnfmaa

/-
  The law RistoEncodes answers true.
-/
namespace Go.Proofs.Ytdkmcpbjicnfmaa
open Go Vx Go.RowKit
end Go.Proofs.Ytdkmcpbjicnfmaa

/-
  Contracts of the document's map.
-/
namespace Go.Proofs.Ytdkmcpbjicnfmaa
open Go Vx Go.RowKit
end Go.Proofs.Ytdkmcpbjicnfmaa
