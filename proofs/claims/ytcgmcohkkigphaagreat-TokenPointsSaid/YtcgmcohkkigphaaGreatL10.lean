/-
  Contracts of words turned about.
-/
import Derived.Test.YtcgmcohkkigphaaGreatL1
import Derived.Test.YtcgmcohkkigphaaGreatS1
set_option maxRecDepth 100000
namespace Go.Proofs.YtcgmcohkkigphaaGreat
open Go Vx Go.RowKit

def Av (kd:IntKind) (b m:Nat) (x k:Int):Int:=(((ak kd (x*((2^min (((((ak .u64 k).toNat &&& m:Nat):Int))).toNat b:Nat):Int))).toNat ||| (x / ((2^min (ak .u64 ((b:Int) - (((ak .u64 k).toNat &&& m:Nat):Int))).toNat b:Nat):Int)).toNat:Nat):Int)
theorem GV {x n:Nat} {k:Int} (hx:x<2^64) (hn:n≤64) (hs:(ak .u64 k).toNat &&& 63=64 - n):Av .u64 64 63 (x:Int) k=(Pk 64 n x:Nat):=by
 unfold Av
 rw [hs,← akh hn hx,Int.toNat_natCast,Nat.min_eq_left (show 64 - n≤64 by omega)]
 have e1:(ak .u64 ((64:Nat) - ((64 - n:Nat):Int))).toNat=n:=by simp only [ak]; omega
 have e2:(ak .u64 ((x:Int)*((2^(64 - n):Nat):Int))).toNat=x*2^(64 - n) % 2^64:=by
  rw [← Int.natCast_mul]
  generalize x*2^(64 - n)=y
  simp only [ak]; omega
 rw [e1,e2,Nat.min_eq_left hn,← Int.natCast_ediv,Int.toNat_natCast]

noncomputable def Xx:List D→Option (List Bool × V)
 | [.i x, .i k]=> some ([decide (0≤ak .u64 (64 - (((ak .u64 k).toNat &&& 63:Nat):Int)))],j6 (Av .u64 64 63 x k))
 | _=> none
noncomputable def aeq:aj:=spec [Au,GU] Xx
noncomputable abbrev Qt:List (FuncId × aj):= []
theorem Uh:aD Tryz.prog (aK Qt):=aD.nil
theorem acB:bg Tryz.prog 226 aeq:=by
 refine az (cx:=dx Qt) (c:=af Tryz.f226) Tryz.func226 (by kernel_rfl) (by kernel_rfl) rfl ?_
 intro ds chk v vs hF ht he hr base
 unfold Xx at hF
 split at hF
 · rename_i x k
   cases hF
   have hvs:vs= [j6 x,aN k]:=by simp only [bq,bn,bF,bD,Option.some.injEq] at he; exact he.symm
   subst hvs
   exact aB (bS Uh) (n:=100) (bs0:= []) (h:=Eq.trans (b:=aS [decide (0≤ak .u64 (64 - (((ak .u64 k).toNat &&& 63:Nat):Int)))] (aV (j6 (Av .u64 64 63 x k)))) (by kernel_rfl) (ai ht)) (aL.refl _) trivial
 · cases hF
end Go.Proofs.YtcgmcohkkigphaaGreat

/-
  One round of the great sum: the program's numbers are the sum's.
-/
namespace Go.Proofs.YtcgmcohkkigphaaGreat
open Go Vx Go.RowKit

def afI (e:Int) (a b c:Int):Int:=(((((Av .u64 64 63 e a).toNat^^^(Av .u64 64 63 e b).toNat:Nat):Int).toNat^^^(Av .u64 64 63 e c).toNat:Nat):Int)
def ag0 (e:Int) (a b:Int) (c:Nat):Int:=(((((Av .u64 64 63 e a).toNat^^^(Av .u64 64 63 e b).toNat:Nat):Int).toNat^^^(e / ((2^c:Nat):Int)).toNat:Nat):Int)
def chI (e f g:Int):Int:=((((e.toNat &&& f.toNat:Nat):Int).toNat^^^(((18446744073709551615 - e).toNat &&& g.toNat:Nat):Int).toNat:Nat):Int)
def ajC (a b c:Int):Int:=((((((a.toNat &&& b.toNat:Nat):Int).toNat^^^((a.toNat &&& c.toNat:Nat):Int).toNat:Nat):Int).toNat^^^((b.toNat &&& c.toNat:Nat):Int).toNat:Nat):Int)
def t1I (e f g h k w:Int):Int:=ak .u64 (ak .u64 (ak .u64 (ak .u64 (h+afI e (-14) (-18) (-41))+chI e f g)+k)+w)
def t2I (a b c:Int):Int:=ak .u64 (afI a (-28) (-34) (-39)+ajC a b c)
theorem UK {x i j l:Nat} {a b c:Int} (hx:x<2^64) (hi:i≤64) (hj:j≤64) (hl:l≤64) (ha:(ak .u64 a).toNat &&& 63=64 - i) (hb:(ak .u64 b).toNat &&& 63=64 - j) (hc:(ak .u64 c).toNat &&& 63=64 - l):
 afI (x:Int) a b c=(Ki 64 i j l x:Nat):=by
 unfold afI Ki
 rw [GV hx hi ha,GV hx hj hb,GV hx hl hc]
 simp only [Int.toNat_natCast]
theorem XA {x i j l:Nat} {a b:Int} (hx:x<2^64) (hi:i≤64) (hj:j≤64) (ha:(ak .u64 a).toNat &&& 63=64 - i) (hb:(ak .u64 b).toNat &&& 63=64 - j):
 ag0 (x:Int) a b l=(PY 64 i j l x:Nat):=by
 unfold ag0 PY
 rw [GV hx hi ha,GV hx hj hb,← Int.natCast_ediv]
 simp only [Int.toNat_natCast]
theorem ai7 {e f g:Nat} (he:e<2^64):chI (e:Int) (f:Int) (g:Int)=(chN 64 e f g:Nat):=by
 unfold chI chN
 rw [show ((18446744073709551615:Int) - (e:Int)).toNat=2^64 - 1 - e by omega]
 simp only [Int.toNat_natCast]
theorem aga (a b c:Nat):ajC (a:Int) (b:Int) (c:Int)=(abX a b c:Nat):=by
 unfold ajC abX
 simp only [Int.toNat_natCast]
theorem wrap64 (n:Nat):ak .u64 (n:Int)=((n % 2^64:Nat):Int):=by simp only [ak]; omega
theorem aky {e f g h k w:Nat} (he:e<2^64):t1I e f g h k w=(((h+Ki 64 14 18 41 e+chN 64 e f g+k+w) % 2^64:Nat):Int):=by
 unfold t1I
 rw [UK (i:=14) (j:=18) (l:=41) he (by decide) (by decide) (by decide) (by decide) (by decide) (by decide),ai7 he]
 simp only [← Int.natCast_add,wrap64]
 congr 1
 omega
theorem akz {a b c:Nat} (ha:a<2^64):t2I a b c=(((Ki 64 28 34 39 a+abX a b c) % 2^64:Nat):Int):=by
 unfold t2I
 rw [UK (i:=28) (j:=34) (l:=39) ha (by decide) (by decide) (by decide) (by decide) (by decide) (by decide),aga]
 simp only [← Int.natCast_add,wrap64]
theorem agV {v:W8} {k w:Nat} (ha:v.a<2^64) (he:v.e<2^64):
 ak .u64 (t1I v.e v.f v.g v.h k w+t2I v.a v.b v.c)=((agW eO k w v).a:Int)∧ak .u64 (v.d+t1I v.e v.f v.g v.h k w)=((agW eO k w v).e:Int):=by
 rw [aky he,akz ha]
 refine ⟨?_,?_⟩
 · show _=(((v.h+Ki 64 14 18 41 v.e+chN 64 v.e v.f v.g+k+w+(Ki 64 28 34 39 v.a+abX v.a v.b v.c)) % 2^64:Nat):Int)
   simp only [← Int.natCast_add,wrap64]
   congr 1
   omega
 · show _=(((v.d+(v.h+Ki 64 14 18 41 v.e+chN 64 v.e v.f v.g+k+w)) % 2^64:Nat):Int)
   simp only [← Int.natCast_add,wrap64]
   congr 1
   omega
end Go.Proofs.YtcgmcohkkigphaaGreat
