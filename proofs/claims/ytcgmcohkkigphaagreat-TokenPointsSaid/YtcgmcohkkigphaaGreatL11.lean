/-
  Contracts of transcripts: what is asked of one.
-/
import Derived.Test.YtcgmcohkkigphaaGreatLb62
import Derived.Test.YtcgmcohkkigphaaGreatL6
import Derived.Test.YtcgmcohkkigphaaGreatL8
set_option maxRecDepth 100000
namespace Go.Proofs.YtcgmcohkkigphaaGreat
open Go Vx Go.RowKit

abbrev ahg:Ty:= .one .str
abbrev jH (s:ByteArray):V:= .one (.str s)
abbrev amY:Ty:= .ptr [.sl [.int .u8]]
abbrev amc (x:List (List D)):V:= .one (.rp [.sl [.int .u8]] [.l x] 0)
abbrev SC:=List (List D) × Nat
def Iw (p:SC) (y:List (List D)):SC:=(p.1.take p.2++y,p.2+y.length)
def b4I (n:Int):List (List D):= [[.i (ak .u8 (ak .u32 n / ((2^min (24:Int).toNat 32:Nat):Int)))],[.i (ak .u8 (ak .u32 n / ((2^min (16:Int).toNat 32:Nat):Int)))],[.i (ak .u8 (ak .u32 n / ((2^min (8:Int).toNat 32:Nat):Int)))],[.i (ak .u8 (ak .u32 n))]]
def Y3 (p:SC) (n:Int) (y:List (List D)):SC:=Iw (Iw p (b4I n)) y
def ckA (p:SC) (y:List (List D)):List Bool:= [decide (p.2≤p.1.length),decide (p.2≤p.2),decide ((p.2+y.length)*1≤140737488355328),decide (p.2+y.length<4611686018427387904)]
noncomputable def ckF (p:SC) (n:Int) (y:List (List D)):List Bool:=dG .i64 n::(ckA p (b4I n)++ckA (Iw p (b4I n)) y)
def MN (p:SC) (x:List (List D)):Prop:=p.1=x∧p.2=x.length
theorem xC {p:SC} {x y:List (List D)} (h:MN p x):MN (Iw p y) (x++y):=by
 obtain ⟨h1,h2⟩:=h
 unfold Iw
 refine ⟨?_,by simp only [h2,List.length_append]⟩
 simp only [h1,h2,List.take_length]
theorem dJ {a b:List Bool} (h1:allT a) (h2:allT b):allT (a++b):=by
 intro c hc
 rcases List.mem_append.1 hc with h | h
 · exact h1 c h
 · exact h2 c h
theorem Ee {p:SC} {x y:List (List D)} (h:MN p x) (hl:x.length+y.length<70368744177664):allT (ckA p y):=by
 obtain ⟨h1,h2⟩:=h
 refine aF ?_ (aF ?_ (aF ?_ (aU ?_)))<;> (rw [decide_eq_true_iff])<;> (try rw [h1])<;> (try rw [h2])<;> omega
def Q4 (n:Nat):List (List D):= [[.i ((n / 16777216 % 256:Nat):Int)],[.i ((n / 65536 % 256:Nat):Int)],[.i ((n / 256 % 256:Nat):Int)],[.i ((n % 256:Nat):Int)]]
theorem aaX {n:Nat}:b4I (n:Int)=Q4 n:=by
 have e1:ak .u8 (ak .u32 (n:Int) / ((2^min (24:Int).toNat 32:Nat):Int))=((n / 16777216 % 256:Nat):Int):=by
  rw [show ((2^min (24:Int).toNat 32:Nat):Int)=16777216 from rfl]; simp only [ak]; omega
 have e2:ak .u8 (ak .u32 (n:Int) / ((2^min (16:Int).toNat 32:Nat):Int))=((n / 65536 % 256:Nat):Int):=by
  rw [show ((2^min (16:Int).toNat 32:Nat):Int)=65536 from rfl]; simp only [ak]; omega
 have e3:ak .u8 (ak .u32 (n:Int) / ((2^min (8:Int).toNat 32:Nat):Int))=((n / 256 % 256:Nat):Int):=by
  rw [show ((2^min (8:Int).toNat 32:Nat):Int)=256 from rfl]; simp only [ak]; omega
 have e4:ak .u8 (ak .u32 (n:Int))=((n % 256:Nat):Int):=by simp only [ak]; omega
 unfold b4I Q4
 rw [e1,e2,e3,e4]
def fmL (y:List (List D)):List (List D):=Q4 y.length++y
theorem afG (n:Nat):(Q4 n).length=4:=rfl
theorem ze (y:List (List D)):(fmL y).length=4+y.length:=by unfold fmL; rw [List.length_append,afG]
theorem KV {p:SC} {x y:List (List D)} (h:MN p x):MN (Y3 p (y.length:Nat) y) (x++fmL y):=by
 unfold Y3 fmL
 rw [← List.append_assoc,aaX]
 exact xC (xC h)
theorem Ry {p:SC} {x y:List (List D)} (h:MN p x) (hl:x.length+4+y.length<70368744177664):allT (ckF p (y.length:Nat) y):=by
 unfold ckF
 refine aF (kQ (by omega) (by omega)) (dJ (Ee h ?_) (Ee (xC h) ?_))
 · show x.length+4<_; omega
 · rw [List.length_append]; show x.length+4+y.length<_; omega
theorem ib (s:ByteArray):(ofStr s).length=s.size:=by
 unfold ofStr
 rw [List.length_map,Array.length_toList]
 rfl
def aaT (x:List (List D)) (q:Int) (l:List (List D)):List (List D):=x++ [[.i q]]++fmL l

noncomputable def Js:List D→Option (List Bool × V)
 | [.l [[.l x]], .s s]=> some ([decide (x.length+s.size<549755813888)],cB (aW (nG (aaT x 2 (ofStr s)))))
 | _=> none
noncomputable def Gf:aj:=spec [amY,ahg] Js
noncomputable abbrev sH:List (FuncId × aj):= [(217,Pz),(210,Po)]
theorem Mo:aD Tryz.prog (aK sH):=(.cons SI (.cons SG .nil))
noncomputable abbrev vH:List (FuncId × Func):= [(211,Tryz.f211),(208,Tryz.f208)]
theorem NU:bf Tryz.prog (gY vH):=(bf.cons Tryz.func211 (by kernel_rfl) (bf.cons Tryz.func208 (by kernel_rfl) bf.nil))
theorem FB:bg Tryz.prog 183 Gf:=by
 refine az (cx:=bJ true false sH vH []) (c:=af Tryz.f183) Tryz.func183 (by kernel_rfl) (by kernel_rfl) rfl ?_
 intro ds chk v vs hF ht he hr base
 unfold Js at hF
 split at hF
 · rename_i x s
   cases hF
   have hvs:vs= [amc x,jH s]:=by simp only [bq,bn,bF,bD,Option.some.injEq] at he; exact he.symm
   subst hvs
   have hx:x.length+s.size<549755813888:=of_decide_eq_true (ht _ (by simp))
   have hsl:=ib s
   have hev:w9 (bJ true false sH vH []) 400 (af Tryz.f183) ⟨t0 Tryz.f183 [amc x,jH s],[]⟩ (jv (bJ true false sH vH []) Tryz.f183 base)=
    aS ([decide ((0+x.length)*1≤140737488355328),decide (0+x.length<4611686018427387904)]++(ckA ([]++x,0+x.length) [[.i 2]]++(ckF (Iw ([]++x,0+x.length) [[.i 2]]) (s.size:Nat) (ofStr s)++
     [decide (0+(Y3 (Iw ([]++x,0+x.length) [[.i 2]]) (s.size:Nat) (ofStr s)).2≤(Y3 (Iw ([]++x,0+x.length) [[.i 2]]) (s.size:Nat) (ofStr s)).1.length),decide ((((Y3 (Iw ([]++x,0+x.length) [[.i 2]]) (s.size:Nat) (ofStr s)).1.drop 0).take (Y3 (Iw ([]++x,0+x.length) [[.i 2]]) (s.size:Nat) (ofStr s)).2).length<1099511627776)])))
     (aV (cB (aW (nG (((Y3 (Iw ([]++x,0+x.length) [[.i 2]]) (s.size:Nat) (ofStr s)).1.drop 0).take (Y3 (Iw ([]++x,0+x.length) [[.i 2]]) (s.size:Nat) (ofStr s)).2))))):=by kernel_rfl
   have ho1:MN ([]++x,0+x.length) x:=⟨List.nil_append x,Nat.zero_add _⟩
   have ho2:=xC (y:= [[D.i 2]]) ho1
   have ho3:=KV (y:=ofStr s) ho2
   rw [hsl] at ho3
   rw [ai] at hev
   rotate_left 1
   · refine dJ (aF (by rw [decide_eq_true_iff]; omega) (aU (by rw [decide_eq_true_iff]; omega))) (dJ (Ee ho1 (by show x.length+1<_; omega)) (dJ ?_ ?_))
     · have:=Ry (y:=ofStr s) ho2 (by rw [List.length_append,hsl]; show x.length+1+4+s.size<_; omega)
       rw [hsl] at this
       exact this
     · have hl:(x++ [[D.i 2]]++fmL (ofStr s)).length=x.length+1+(4+s.size):=by rw [List.length_append,List.length_append,ze,hsl]; rfl
       refine aF (by rw [decide_eq_true_iff,ho3.1,ho3.2]; omega) (aU ?_)
       rw [decide_eq_true_iff,ho3.1,List.length_take,List.length_drop]
       omega
   rw [ho3.1,ho3.2,List.drop_zero,List.take_length] at hev
   exact aB (dM (sy:=true) (rw:=false) Mo NU dO.nil) (bs0:= []) hev (aL.refl _) trivial
 · cases hF
end Go.Proofs.YtcgmcohkkigphaaGreat

/-
  Contracts of signatures: the challenge.
-/
namespace Go.Proofs.YtcgmcohkkigphaaGreat
open Go Vx Go.RowKit

def qa (c n:Nat):List (List D):=(List.range c).map fun (i:Nat)=> [.i ((digit 8 n i:Nat):Int)]
theorem gu (c n:Nat):(qa c n).length=c:=by simp [qa]
def nP (p:SC) (l:ByteArray) (n:Int) (y:List (List D)):SC:=Y3 (Y3 (Iw p [[.i 1]]) (l.size:Nat) (ofStr l)) n y
noncomputable def wW (p:SC) (l:ByteArray) (n:Int) (y:List (List D)):List Bool:=ckA p [[.i 1]]++(ckF (Iw p [[.i 1]]) (l.size:Nat) (ofStr l)++ckF (Y3 (Iw p [[.i 1]]) (l.size:Nat) (ofStr l)) n y)
def qd (x:List (List D)) (l:ByteArray) (y:List (List D)):List (List D):=x++ [[.i 1]]++fmL (ofStr l)++fmL y
theorem jI (x:List (List D)) (l:ByteArray) (y:List (List D)):(qd x l y).length=x.length+1+(4+l.size)+(4+y.length):=by
 unfold qd
 rw [List.length_append,List.length_append,List.length_append,ze,ze,ib]
 rfl
theorem lV {p:SC} {x:List (List D)} (h:MN p x) (l:ByteArray) (y:List (List D)) {n:Int} (hn:n=(y.length:Nat)):MN (nP p l n y) (qd x l y):=by
 subst hn
 have h1:=KV (y:=ofStr l) (xC (y:= [[D.i 1]]) h)
 rw [ib] at h1
 exact KV h1
theorem kH {p:SC} {x:List (List D)} (h:MN p x) (l:ByteArray) (y:List (List D)) {n:Int} (hn:n=(y.length:Nat)) (hl:x.length+l.size+y.length<35184372088832):allT (wW p l n y):=by
 subst hn
 have h0:=xC (y:= [[D.i 1]]) h
 have h1:=KV (y:=ofStr l) h0
 have k1:=Ry (y:=ofStr l) h0 (by rw [List.length_append,ib]; show x.length+1+4+l.size<_; omega)
 rw [ib] at h1 k1
 refine dJ (Ee h (by show x.length+1<_; omega)) (dJ k1 (Ry h1 ?_))
 rw [List.length_append,List.length_append,ze,ib]
 show x.length+1+(4+l.size)+4+y.length<_
 omega
def H8 (l:ByteArray):SC:=Iw (b4I (l.size:Nat),4) (ofStr l)
noncomputable def aa9 (l:ByteArray):List Bool:=dG .i64 (l.size:Nat)::ckA (b4I (l.size:Nat),4) (ofStr l)
def Lm (l:ByteArray):List (List D):=fmL (ofStr l)
theorem VO (l:ByteArray):MN (H8 l) (Lm l):=by
 unfold H8 Lm fmL
 rw [ib,← aaX]
 exact xC ⟨rfl,rfl⟩
theorem Ng (l:ByteArray) (hl:l.size<35184372088832):allT (aa9 l):=by
 refine aF (kQ (by omega) (by omega)) (Ee (x:=b4I (l.size:Nat)) ⟨rfl,rfl⟩ ?_)
 rw [ib]
 show 4+l.size<_
 omega
theorem Om (l:ByteArray):(Lm l).length=4+l.size:=by unfold Lm; rw [ze,ib]
abbrev iI:ByteArray:=⟨#[99,111,109,109,105,116]⟩
abbrev lN:ByteArray:=⟨#[99,104,97,108,108,101,110,103,101]⟩
end Go.Proofs.YtcgmcohkkigphaaGreat

/-
  Contracts of signatures.
-/
namespace Go.Proofs.YtcgmcohkkigphaaGreat
open Go Vx Go.RowKit

noncomputable def bN:Nat:=iV (qh ())
end Go.Proofs.YtcgmcohkkigphaaGreat
