/-
  Contracts of the document's curve and elements: sums, bytes.
-/
import Derived.Test.YtdkmcpbjicnfmaaL4
import Derived.Test.YtdkmcpbjicnfmaaLb29
namespace Go.Proofs.Ytdkmcpbjicnfmaa
open Go Vx Go.RowKit
end Go.Proofs.Ytdkmcpbjicnfmaa

/-
  Contracts of the document's elements: into bytes; points of a seed.
-/
namespace Go.Proofs.Ytdkmcpbjicnfmaa
open Go Vx Go.RowKit

noncomputable def gU (Y : Nat) : Nat := addP (canP 1) (negN (mulP Y Y))
noncomputable def gR (X Y : Nat) : Nat := nrR (canP 1) (mulP (gU Y) (mulP (mulP X Y) (mulP X Y)))
noncomputable def gA (X Y : Nat) : Nat := mulP (gR X Y) (gU Y)
noncomputable def gE (X Y : Nat) : Nat := mulP (gR X Y) (mulP X Y)
noncomputable def gC (X Y : Nat) : Nat := mulP (mulP (gA X Y) (gE X Y)) (mulP X Y)
noncomputable def g1 (X Y : Nat) : Bool := oddN (mulP (mulP X Y) (gC X Y))
noncomputable def g2 (X Y : Nat) : Bool := oddN (mulP (mulP iP Y) (gC X Y))
noncomputable def g3 (X Y : Nat) : Bool := oddN (mulP X (gC X Y))

noncomputable def hR (y : Nat) : Nat := nrR (addP (mulP y y) (negN (canP 1))) (addP (mulP dP (mulP y y)) (canP 1))
noncomputable def hB (y : Nat) : Bool := nrB (addP (mulP y y) (negN (canP 1))) (addP (mulP dP (mulP y y)) (canP 1))
noncomputable def atQ0 (y : Nat) (o : Bool) : Nat × Nat × Nat := bif !(!hB y || (o && decide (hR y = 0))) then (bif o then negN (hR y) else hR y, y, canP 1) else (0, 0, 0)
noncomputable def atQX : Nat → Bool → Nat := hidden' fun y o => (atQ0 y o).1
noncomputable def atQY : Nat → Bool → Nat := hidden' fun y o => (atQ0 y o).2.1
noncomputable def atQZ : Nat → Bool → Nat := hidden' fun y o => (atQ0 y o).2.2
noncomputable def atQB : Nat → Bool → Bool := hidden' fun y o => !(!hB y || (o && decide (hR y = 0)))
theorem atQX_eq (y : Nat) (o : Bool) : atQX y o = (atQ0 y o).1 := by unfold atQX; rw [seal_eq]
theorem atQY_eq (y : Nat) (o : Bool) : atQY y o = (atQ0 y o).2.1 := by unfold atQY; rw [seal_eq]
theorem atQZ_eq (y : Nat) (o : Bool) : atQZ y o = (atQ0 y o).2.2 := by unfold atQZ; rw [seal_eq]
theorem atQB_eq (y : Nat) (o : Bool) : atQB y o = !(!hB y || (o && decide (hR y = 0))) := by unfold atQB; rw [seal_eq]

theorem hR_eq (y : Nat) : hR (canP y) = rootR (subP (mulP y y) 1) (addP (mulP dP (mulP y y)) 1) := by
  unfold hR
  rw [mulP_can, can1, subN_of one_lt, nrR_of (subP_lt _ _) (addP_lt _ _)]
theorem hB_eq (y : Nat) : hB (canP y) = rootB (subP (mulP y y) 1) (addP (mulP dP (mulP y y)) 1) := by
  unfold hB
  rw [mulP_can, can1, subN_of one_lt, nrB_of (subP_lt _ _) (addP_lt _ _)]
theorem atQB_of (y : Nat) (o : Bool) : atQB (canP y) o = atB y o := by rw [atQB_eq, hB_eq, hR_eq, atB_eq]
/-- Three numbers are a point's. -/
structure RepQ (x y z : Nat) (P : E) : Prop where
  hz : k z ≠ 0
  hx : k x = P.x * k z
  hy : k y = P.y * k z
theorem atQ_rep {y : Nat} {o : Bool} (h : atB y o = true) {P : E} (hP : RepP (atP y o) P) : RepQ (atQX (canP y) o) (atQY (canP y) o) (atQZ (canP y) o) P := by
  have hq : atQX (canP y) o = (atP y o).x ∧ atQY (canP y) o = (atP y o).y ∧ atQZ (canP y) o = (atP y o).z := by
    rw [atQX_eq, atQY_eq, atQZ_eq, atP_eq]
    unfold atQ0 at0
    rw [← atQB_eq, atQB_of, h, hR_eq, negN_of (rootR_lt _ _), can1]
    exact ⟨rfl, rfl, rfl⟩
  obtain ⟨e1, e2, e3⟩ := hq
  rw [e1, e2, e3]
  exact ⟨hP.z, hP.x, hP.y⟩
end Go.Proofs.Ytdkmcpbjicnfmaa

/-
  The law RistoEncodes answers true.
-/
namespace Go.Proofs.Ytdkmcpbjicnfmaa
open Go Vx Go.RowKit
end Go.Proofs.Ytdkmcpbjicnfmaa

/-
  Contracts of the document's map.
-/
namespace Go.Proofs.Ytdkmcpbjicnfmaa
open Go Vx Go.RowKit
end Go.Proofs.Ytdkmcpbjicnfmaa
