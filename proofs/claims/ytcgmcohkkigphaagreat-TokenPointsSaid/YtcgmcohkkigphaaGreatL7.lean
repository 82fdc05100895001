/-
  Contracts of the program's scalars: Times.
-/
import Derived.Test.YtcgmcohkkigphaaGreatL6
import Derived.Test.YtcgmcohkkigphaaGreatU2
import Derived.Test.YtcgmcohkkigphaaGreatX4
import Derived.Test.YtcgmcohkkigphaaGreatL3
set_option maxRecDepth 100000
namespace Go.Proofs.YtcgmcohkkigphaaGreat
open Go Vx Go.RowKit

def q8 (r:Nat→Int):List L:= [.int .u64 (r 0), .int .u64 (r 1), .int .u64 (r 2), .int .u64 (r 3), .int .u64 (r 4), .int .u64 (r 5), .int .u64 (r 6), .int .u64 (r 7)]
def l8 (r:Nat→Int):List (List D):= [[.i (r 0)],[.i (r 1)],[.i (r 2)],[.i (r 3)],[.i (r 4)],[.i (r 5)],[.i (r 6)],[.i (r 7)]]
def dq (n i:Nat):Int:=((digit 64 n i:Nat):Int)
def stT (x y:Nat) (r:Nat→Int) (i:Int):St:=⟨[.aC, .aC, .aC, .aC, .one (.ptr 2 0), .one (.ptr 5 0), .one (.ptr 6 0), .one (.sl 7 0 8 8)]++List.replicate 11 .aC++ [aN i]++List.replicate 53 .aC,
 [none,none,some ⟨28, .ps [.int .u8 0, .int .u8 0, .int .u8 0, .int .u8 0, .int .u8 0, .int .u8 0, .int .u8 0, .int .u8 0, .int .u8 0, .int .u8 0, .int .u8 0, .int .u8 0, .int .u8 0, .int .u8 0, .int .u8 0, .int .u8 0, .int .u8 0, .int .u8 0, .int .u8 0, .int .u8 0, .int .u8 0, .int .u8 0, .int .u8 0, .int .u8 0, .int .u8 0, .int .u8 0, .int .u8 0, .int .u8 0, .int .u8 0, .int .u8 0, .int .u8 0, .int .u8 0]⟩,none,none,some ⟨155, .ps [.pk .u64 64 4 x]⟩,some ⟨155, .ps [.pk .u64 64 4 y]⟩,some ⟨78, .ps (q8 r)⟩]⟩
theorem uf (n i:Nat):0≤dq n i∧dq n i<18446744073709551616:=by
 unfold dq digit
 have:=Nat.mod_lt (n / 2^(64*i)) (show 2^64 > 0 by decide)
 simp only [Nat.reducePow] at*
 omega
theorem ve (n:Nat): ∀ k,jl (dq n) k=((n % 2^(64*k):Nat):Int)
 | 0=> by simp [jl,Nat.mod_one]
 | k+1=> by
   rw [jl,ve n k]
   have e:n % 2^(64*(k+1))=n % 2^(64*k)+2^(64*k)*digit 64 n k:=by
    rw [show 64*(k+1)=64*k+64 from rfl,Nat.pow_add,Nat.mod_mul]
    rfl
   rw [e]
   unfold dq
   simp only [Int.natCast_add,Int.natCast_mul,Int.natCast_pow,Int.cast_ofNat_Int]
   rw [Int.mul_comm (2^(64*k))]
theorem Sm {r:Nat→Int} (h: ∀ j,0≤r j∧r j<18446744073709551616):((limbs (l8 r):Nat):Int)=jl r 8:=by
 unfold limbs l8 uC
 simp only [List.map_cons,List.map_nil,List.headD_cons,D.xy,cO,jl]
 have h0:=h 0; have h1:=h 1; have h2:=h 2; have h3:=h 3; have h4:=h 4; have h5:=h 5; have h6:=h 6; have h7:=h 7
 generalize r 0=a0 at*; generalize r 1=a1 at*; generalize r 2=a2 at*; generalize r 3=a3 at*
 generalize r 4=a4 at*; generalize r 5=a5 at*; generalize r 6=a6 at*; generalize r 7=a7 at*
 clear h
 have p1:(2:Int)^(64*1)=2^64:=rfl
 have ps: ∀ k,(2:Int)^(64*(k+1))=2^(64*k)*2^64:=fun k=> by rw [Nat.mul_succ,Int.pow_add]
 have p0:(2:Int)^(64*0)=1:=rfl
 rw [ps 6,ps 5,ps 4,ps 3,ps 2,ps 1,ps 0,p0]
 simp only [Int.natCast_add,Int.natCast_mul,Int.natCast_pow,Int.cast_ofNat_Int,Int.toNat_of_nonneg h0.1,Int.toNat_of_nonneg h1.1,Int.toNat_of_nonneg h2.1,Int.toNat_of_nonneg h3.1,Int.toNat_of_nonneg h4.1,Int.toNat_of_nonneg h5.1,Int.toNat_of_nonneg h6.1,Int.toNat_of_nonneg h7.1]
 generalize (2:Int)^64=M
 grind
theorem aaw {x y:Nat} (hx:x<115792089237316195423570985008687907853269984665640564039457584007913129639936) (hy:y<115792089237316195423570985008687907853269984665640564039457584007913129639936) {r:Nat→Int} (h:Yl (dq x) (dq y) 4 r):limbs (l8 r)=x*y:=by
 have e:=Sm h.x8
 have hv:=h.val
 have px:jl (dq x) 4=(x:Int):=by rw [ve,show (2:Nat)^(64*4)=115792089237316195423570985008687907853269984665640564039457584007913129639936 from by decide+kernel,Nat.mod_eq_of_lt hx]
 have py:jl (dq y) 4=(y:Int):=by rw [ve,show (2:Nat)^(64*4)=115792089237316195423570985008687907853269984665640564039457584007913129639936 from by decide+kernel,Nat.mod_eq_of_lt hy]
 rw [px,py,← e] at hv
 exact_mod_cast hv

noncomputable def PS:List D→Option (List Bool × V)
 | [.n a, .n b]=> some ([],cB (aW (aW a*aW b)))
 | _=> none
noncomputable def Xv:aj:=spec [iq,iq] PS
noncomputable abbrev JX:List (FuncId × aj):= [(176,Du),(177,Tp),(178,Gc),(179,PT),(117,qL)]
theorem ji:aD Tryz.prog (aK JX):=(.cons Bi (.cons OG (.cons zD (.cons Dm (.cons ow .nil)))))
theorem ZA:bg Tryz.prog 120 Xv:=by
 refine az (cx:=dx JX) (c:=af Tryz.f120) Tryz.func120 (by kernel_rfl) (by kernel_rfl) rfl ?_
 intro ds chk v vs hF ht he hr base
 unfold PS at hF
 split at hF
 · rename_i a b
   cases hF
   have hvs:vs= [cB a,cB b]:=by simp only [bq,bn,bF,bD,Option.some.injEq] at he; exact he.symm
   subst hvs
   have hx:aW a<115792089237316195423570985008687907853269984665640564039457584007913129639936:=Nat.lt_trans (zX a) (by decide)
   have hy:aW b<115792089237316195423570985008687907853269984665640564039457584007913129639936:=Nat.lt_trans (zX b) (by decide)
   have hI0:Yl (dq (aW a)) (dq (aW b)) 0 (fun _=> 0):=⟨fun _=> ⟨by decide,by decide⟩,fun _ _=> rfl,by simp [jl]⟩
   refine bM.items _ _ _ (ae.fw (bS ji) (n:=100) (k:=4) (kt:= [4,5,6,7,19]) (kh:= [2,5,6,7]) (m:=8) (e:= .normal) (st':=stT (aW a) (aW b) (fun _=> 0) 0) (by kernel_rfl) ?_)
   generalize aW a=x at*
   generalize aW b=y at*
   refine ae.loop (id:=0) (by kernel_rfl) (fun m s=> ∃ r,s=stT x y r (4 - (m:Int))∧m≤4∧Yl (dq x) (dq y) (4 - m) r) 4 ⟨fun _=> 0,rfl,Nat.le_refl _,by have:=hI0; exact this⟩ ?_
   rintro m s ⟨r,rfl,hm,hI⟩
   match m,hm,hI with
   | 4,_,hI=> exact ae.di (bS ji) (n:=100) (kt:= [4,5,6,7,19]) (kh:= [2,5,6,7]) (m:=8) (e:= .normal) (st':=stT x y (mW r (dq x 0) (dq y) 0) 1) (by kernel_rfl) ⟨3,by decide,_,rfl,by decide,hI.step (uf x) (uf y)⟩
   | 3,_,hI=> exact ae.di (bS ji) (n:=100) (kt:= [4,5,6,7,19]) (kh:= [2,5,6,7]) (m:=8) (e:= .normal) (st':=stT x y (mW r (dq x 1) (dq y) 1) 2) (by kernel_rfl) ⟨2,by decide,_,rfl,by decide,hI.step (uf x) (uf y)⟩
   | 2,_,hI=> exact ae.di (bS ji) (n:=100) (kt:= [4,5,6,7,19]) (kh:= [2,5,6,7]) (m:=8) (e:= .normal) (st':=stT x y (mW r (dq x 2) (dq y) 2) 3) (by kernel_rfl) ⟨1,by decide,_,rfl,by decide,hI.step (uf x) (uf y)⟩
   | 1,_,hI=> exact ae.di (bS ji) (n:=100) (kt:= [4,5,6,7,19]) (kh:= [2,5,6,7]) (m:=8) (e:= .normal) (st':=stT x y (mW r (dq x 3) (dq y) 3) 4) (by kernel_rfl) ⟨0,by decide,_,rfl,by decide,hI.step (uf x) (uf y)⟩
   | 0,_,hI=>
     refine ae.di (bS ji) (n:=100) (kt:= [4,5,6,7,19]) (kh:= [2,5,6,7]) (m:=8) (e:= .exit 0) (st':=stT x y r 4) (by kernel_rfl) ?_
     rw [← aaw hx hy hI]
     exact bZ (bS ji) (n:=200) (bs0:= []) (by kernel_rfl) (aL.refl _) trivial
 · cases hF
end Go.Proofs.YtcgmcohkkigphaaGreat

/-
  Contracts of the program's scalars: Inverse.
-/
namespace Go.Proofs.YtcgmcohkkigphaaGreat
open Go Vx Go.RowKit

noncomputable def SV:Nat→Nat→Nat:=aA fun a n=> a^n % 7237005577332262213973186563042994240857116359379907606001950938285454250989
theorem agx (a n:Nat):SV a n=a^n % 7237005577332262213973186563042994240857116359379907606001950938285454250989:=by unfold SV; rw [aO]
end Go.Proofs.YtcgmcohkkigphaaGreat

/-
  Contracts of the document's scalars: often.
-/
namespace Go.Proofs.YtcgmcohkkigphaaGreat
open Go Vx Go.RowKit

def Lv (n:Int):Nat:=7237005577332262213973186563042994240857116359379907606001950938285454250989*2^n.toNat
end Go.Proofs.YtcgmcohkkigphaaGreat

/-
  Contracts of the document's scalars: Rest.
-/
namespace Go.Proofs.YtcgmcohkkigphaaGreat
open Go Vx Go.RowKit

def lL:List L:= [.pk .u64 32 9 (Lv 0), .pk .u64 32 9 (Lv 1), .pk .u64 32 9 (Lv 2), .pk .u64 32 9 (Lv 3), .pk .u64 32 9 (Lv 4), .pk .u64 32 9 (Lv 5), .pk .u64 32 9 (Lv 6), .pk .u64 32 9 (Lv 7), .pk .u64 32 9 (Lv 8)]
end Go.Proofs.YtcgmcohkkigphaaGreat

/-
  Contracts of the document's scalars: Of, Wide, Plus.
-/
namespace Go.Proofs.YtcgmcohkkigphaaGreat
open Go Vx Go.RowKit
end Go.Proofs.YtcgmcohkkigphaaGreat

/-
  Contracts of the document's scalars: Minus, Times, Inverse.
-/
namespace Go.Proofs.YtcgmcohkkigphaaGreat
open Go Vx Go.RowKit
end Go.Proofs.YtcgmcohkkigphaaGreat
