/-
  Contracts of the document's curve and elements: sums, bytes.
-/
import Derived.Test.YtcgmcohkkigphaaGreatL4
import Derived.Test.YtcgmcohkkigphaaGreatLb29
namespace Go.Proofs.YtcgmcohkkigphaaGreat
open Go Vx Go.RowKit
end Go.Proofs.YtcgmcohkkigphaaGreat

/-
  Contracts of the document's elements: into bytes; points of a seed.
-/
namespace Go.Proofs.YtcgmcohkkigphaaGreat
open Go Vx Go.RowKit

noncomputable def gU (Y:Nat):Nat:=bH (aH 1) (uF (ah Y Y))
noncomputable def gR (X Y:Nat):Nat:=nrR (aH 1) (ah (gU Y) (ah (ah X Y) (ah X Y)))
noncomputable def gA (X Y:Nat):Nat:=ah (gR X Y) (gU Y)
noncomputable def gE (X Y:Nat):Nat:=ah (gR X Y) (ah X Y)
noncomputable def gC (X Y:Nat):Nat:=ah (ah (gA X Y) (gE X Y)) (ah X Y)
noncomputable def g1 (X Y:Nat):Bool:=wO (ah (ah X Y) (gC X Y))
noncomputable def g2 (X Y:Nat):Bool:=wO (ah (ah iP Y) (gC X Y))
noncomputable def g3 (X Y:Nat):Bool:=wO (ah X (gC X Y))

noncomputable def hR (y:Nat):Nat:=nrR (bH (ah y y) (uF (aH 1))) (bH (ah dP (ah y y)) (aH 1))
noncomputable def hB (y:Nat):Bool:=nrB (bH (ah y y) (uF (aH 1))) (bH (ah dP (ah y y)) (aH 1))
noncomputable def Rf (y:Nat) (o:Bool):Nat × Nat × Nat:=bif !(!hB y || (o && decide (hR y=0))) then (bif o then uF (hR y) else hR y,y,aH 1) else (0,0,0)
noncomputable def aaU:Nat→Bool→Nat:=aA fun y o=> (Rf y o).1
noncomputable def aaV:Nat→Bool→Nat:=aA fun y o=> (Rf y o).2.1
noncomputable def aaW:Nat→Bool→Nat:=aA fun y o=> (Rf y o).2.2
noncomputable def ai2:Nat→Bool→Bool:=aA fun y o=> !(!hB y || (o && decide (hR y=0)))
theorem afC (y:Nat) (o:Bool):aaU y o=(Rf y o).1:=by unfold aaU; rw [aO]
theorem afD (y:Nat) (o:Bool):aaV y o=(Rf y o).2.1:=by unfold aaV; rw [aO]
theorem afE (y:Nat) (o:Bool):aaW y o=(Rf y o).2.2:=by unfold aaW; rw [aO]
theorem UF (y:Nat) (o:Bool):ai2 y o= !(!hB y || (o && decide (hR y=0))):=by unfold ai2; rw [aO]

theorem ahK (y:Nat):hR (aH y)=dU (bX (ah y y) 1) (bH (ah dP (ah y y)) 1):=by
 unfold hR
 rw [Oh,M5,Dx LJ,acb (XE _ _) (UA _ _)]
theorem alk (y:Nat):hB (aH y)=kT (bX (ah y y) 1) (bH (ah dP (ah y y)) 1):=by
 unfold hB
 rw [Oh,M5,Dx LJ,ab8 (XE _ _) (UA _ _)]
theorem afB (y:Nat) (o:Bool):ai2 (aH y) o=atB y o:=by rw [UF,alk,ahK,Kg]
structure ak4 (x y z:Nat) (P:E):Prop where
 hz:k z≠0
 hx:k x=P.x*k z
 hy:k y=P.y*k z
theorem afF {y:Nat} {o:Bool} (h:atB y o=true) {P:E} (hP:fq (atP y o) P):ak4 (aaU (aH y) o) (aaV (aH y) o) (aaW (aH y) o) P:=by
 have hq:aaU (aH y) o=(atP y o).x∧aaV (aH y) o=(atP y o).y∧aaW (aH y) o=(atP y o).z:=by
  rw [afC,afD,afE,Kh]
  unfold Rf at0
  rw [← UF,afB,h,ahK,zt (adr _ _),M5]
  exact ⟨rfl,rfl,rfl⟩
 obtain ⟨e1,e2,e3⟩:=hq
 rw [e1,e2,e3]
 exact ⟨hP.z,hP.x,hP.y⟩
end Go.Proofs.YtcgmcohkkigphaaGreat

/-
  The law RistoEncodes answers true.
-/
namespace Go.Proofs.YtcgmcohkkigphaaGreat
open Go Vx Go.RowKit
end Go.Proofs.YtcgmcohkkigphaaGreat

/-
  Contracts of the document's map.
-/
namespace Go.Proofs.YtcgmcohkkigphaaGreat
open Go Vx Go.RowKit
end Go.Proofs.YtcgmcohkkigphaaGreat
