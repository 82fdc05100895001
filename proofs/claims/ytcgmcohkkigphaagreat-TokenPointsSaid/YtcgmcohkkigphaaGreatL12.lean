/-
  What signatures come to, in points of the group.
-/
import Derived.Test.YtcgmcohkkigphaaGreatL11
import Derived.Test.YtcgmcohkkigphaaGreatL9
import Derived.Test.YtcgmcohkkigphaaGreatL8
namespace Go.Proofs.YtcgmcohkkigphaaGreat
open Go Vx Go.RowKit

theorem ahx: ∃ G,Pt bN G:=by
 obtain ⟨P,h1,h2,_⟩:=aaZ
 exact ⟨P,Pt.of h1 h2⟩
noncomputable def bE:E:=Classical.choose ahx
theorem mR:Pt bN bE:=Classical.choose_spec ahx
theorem ala:bN≠0:=afH
theorem Lb:0<lP:=by unfold lP; decide
theorem LA {a:Nat} (h:bU a=true):a<lP:=oW.1 h
theorem Dj (n:Nat):bU (n % lP)=true:=oW.2 (Nat.mod_lt _ Lb)
theorem kz (a:Nat):aW a=a % lP:=F3 a
theorem gG {a:Nat} (h:bU a=true):aW a=a:=by rw [kz,Nat.mod_eq_of_lt (LA h)]
theorem Fz (n:Nat):bU (aW n)=true:=by rw [kz]; exact Dj n
theorem ajQ {P:E} (he:Ev P) (hne: ¬ Co P 0) {n:Nat}:Co (E.mul n P) 0↔n % lP=0:=by
 constructor
 · intro h
   rcases Nat.eq_zero_or_pos (n % lP) with h0 | h0
   · exact h0
   · exfalso
     have hx:n % lP<lP:=Nat.mod_lt _ Lb
     have h1:Co (E.mul (n % lP) P) 0:=jJ (rC he (Nat.mod_mod _ _)) h
     have hi:=ZF h0 hx rfl
     have h2:=Rz h1 (SV (n % lP) (lP - 2))
     rw [← E.iU,E.mo] at h2
     have h3:Co (E.mul 1 P) (E.mul (n % lP*SV (n % lP) (lP - 2)) P):=rC he (by rw [hi]; exact Nat.mod_eq_of_lt (by unfold lP; decide))
     rw [E.mul_one] at h3
     exact hne (jJ h3 h2)
 · intro h
   exact rC he (b:=0) (by rw [h]; rfl)
theorem ak9: ¬ Co bE 0:=fun h=> ala (mR.Q0.2 h)
theorem ai4 {n:Nat}:Co (E.mul n bE) 0↔n % lP=0:=ajQ mR.1 ak9
end Go.Proofs.YtcgmcohkkigphaaGreat

/-
  The law's known signature, worked out.
-/
namespace Go.Proofs.YtcgmcohkkigphaaGreat
open Go Vx Go.RowKit

abbrev r5:Nat:=57508903943393600895749509425442319287243818866879131272463261763848326966948
end Go.Proofs.YtcgmcohkkigphaaGreat
