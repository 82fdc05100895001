/-
  What relations are: their parts, what they come to.
-/
import Derived.Test.YtcgmcohkkigphaaGreatL12
namespace Go.Proofs.YtcgmcohkkigphaaGreat
open Go Vx Go.RowKit

abbrev ahc:Ty:= .one (.sl [.pk .u8 8 32, .sl [.int .i64, .pk .u8 8 32]])
abbrev iw (x:List (List D)):V:= .one (.rd [.pk .u8 8 32, .sl [.int .i64, .pk .u8 8 32]] x)
abbrev QT:Ty:= .one (.sl [.pk .u8 8 32])
abbrev kE (x:List (List D)):V:= .one (.rd [.pk .u8 8 32] x)
abbrev amV:Ty:= .ag [.pk .u8 8 32, .sl [.int .i64, .pk .u8 8 32]]
abbrev MJ (a:Nat) (x:List (List D)):V:= .ag (.ps [.pk .u8 8 32 a, .rd [.int .i64, .pk .u8 8 32] x])
abbrev akJ:V:= .one .fG
def iR (e:List D):Nat:=(e.headD (.n 0)).toN
def cz (e:List D):List (List D):=(e.tail.headD (.n 0)).wR
def mD (p:List D):Int:=(p.headD (.n 0)).xy
def Dn (p:List D):Nat:=(p.tail.headD (.n 0)).toN
def kX (l:List (List D)) (i:Nat):Nat:=iR (l.getD i [])
noncomputable def dK:List (List D)→Bool
 | []=> true
 | d::l=> bif !bU (iR d) then false else dK l
def gX (n:Int):List (List D)→Bool
 | []=> true
 | p::l=> bif decide (mD p<0) then false else bif decide (n≤mD p) then false else gX n l
def nW (n:Int):List (List D)→Bool
 | []=> true
 | e::l=> bif decide ((16:Int)<((cz e).length:Nat)) then false else bif !gX n (cz e) then false else nW n l
def xZ (l:Nat) (x:List (List D)) (n:Int):Bool:=bif decide ((1000:Int)<(l:Nat)) then false else bif decide (((x.length:Nat):Int)<1) then false else bif decide ((16:Int)<(x.length:Nat)) then false else bif decide (n<1) then false else
 bif decide ((32:Int)<n) then false else nW n x
noncomputable def zR:List (List D)→Bool
 | []=> true
 | p::l=> bif !aJ (Dn p) then false else zR l
noncomputable def qG:List (List D)→Bool
 | []=> true
 | e::l=> bif !aJ (iR e) then false else bif !zR (cz e) then false else qG l
def iZ (l q:List (List D)):List (List D):=q.map fun p=> [.n (kX l (mD p).toNat), .n (Dn p)]
noncomputable def oD (l q:List (List D)):Nat:=fH (iZ l q)
noncomputable def H6 (s:List (List D)):List (List D)→Bool
 | []=> true
 | e::l=> bif !decide (oD s (cz e)=iR e) then false else H6 s l
theorem DR: ∀ {l:List (List D)},dK l=true→ ∀ {i:Nat},i<l.length→bU (kX l i)=true
 | [],_,i,hi=> absurd hi (Nat.not_lt_zero i)
 | d::l,h,i,hi=> by
   unfold dK at h
   cases hd:bU (iR d) with
   | false=> rw [hd] at h; cases h
   | true=>
     rw [hd] at h
     cases i with
     | zero=> exact hd
     | succ i=> exact DR (l:=l) h (Nat.lt_of_succ_lt_succ hi)
theorem BX {n:Int} {p:List D} {l:List (List D)} (h:gX n (p::l)=true):0≤mD p∧mD p<n∧gX n l=true:=by
 unfold gX at h
 by_cases h1:mD p<0
 · rw [decide_eq_true h1] at h; cases h
 · by_cases h2:n≤mD p
   · rw [decide_eq_false h1,decide_eq_true h2] at h; cases h
   · rw [decide_eq_false h1,decide_eq_false h2] at h
     exact ⟨by omega,by omega,h⟩
theorem ZR {p:List D} {l:List (List D)} (h:zR (p::l)=true):aJ (Dn p)=true∧zR l=true:=by
 unfold zR at h
 cases h1:aJ (Dn p) with
 | false=> rw [h1] at h; cases h
 | true=> rw [h1] at h; exact ⟨rfl,h⟩
theorem NQ {n:Int} {e:List D} {l:List (List D)} (h:nW n (e::l)=true):(cz e).length≤16∧gX n (cz e)=true∧nW n l=true:=by
 unfold nW at h
 by_cases h1:(16:Int)<((cz e).length:Nat)
 · rw [decide_eq_true h1] at h; cases h
 · rw [decide_eq_false h1] at h
   cases h2:gX n (cz e) with
   | false=> rw [h2] at h; cases h
   | true=> rw [h2] at h; exact ⟨by omega,rfl,h⟩
theorem ZQ {e:List D} {l:List (List D)} (h:qG (e::l)=true):aJ (iR e)=true∧zR (cz e)=true∧qG l=true:=by
 unfold qG at h
 cases h1:aJ (iR e) with
 | false=> rw [h1] at h; cases h
 | true=>
   rw [h1] at h
   cases h2:zR (cz e) with
   | false=> rw [h2] at h; cases h
   | true=> rw [h2] at h; exact ⟨rfl,rfl,h⟩
theorem F5 {l:Nat} {x:List (List D)} {n:Int} (h:xZ l x n=true):l≤1000∧1≤x.length∧x.length≤16∧1≤n∧n≤32∧nW n x=true:=by
 unfold xZ at h
 by_cases h1:(1000:Int)<(l:Nat)
 · rw [decide_eq_true h1] at h; cases h
 rw [decide_eq_false h1] at h
 by_cases h2:((x.length:Nat):Int)<1
 · rw [decide_eq_true h2] at h; cases h
 rw [decide_eq_false h2] at h
 by_cases h3:(16:Int)<(x.length:Nat)
 · rw [decide_eq_true h3] at h; cases h
 rw [decide_eq_false h3] at h
 by_cases h4:n<1
 · rw [decide_eq_true h4] at h; cases h
 rw [decide_eq_false h4] at h
 by_cases h5:(32:Int)<n
 · rw [decide_eq_true h5] at h; cases h
 rw [decide_eq_false h5] at h
 exact ⟨by omega,by omega,by omega,by omega,by omega,h⟩
abbrev gy:ByteArray:=⟨#[114,101,108,97,116,101]⟩
abbrev lS:ByteArray:=⟨#[108,97,98,101,108]⟩
abbrev kW:ByteArray:=⟨#[115,101,99,114,101,116,115]⟩
abbrev qJ:ByteArray:=⟨#[108,101,102,116]⟩
abbrev Ab:ByteArray:=⟨#[112,97,114,116]⟩
def alA (x:List (List D)) (p:List D):List (List D):=qd x Ab (Q4 (mD p).toNat++qa 32 (Dn p))
def pQ (x:List (List D)):List (List D)→List (List D)
 | []=> x
 | p::l=> pQ (alA x p) l
def eqX (x:List (List D)) (e:List D) (c:Nat):List (List D):=qd (pQ (qd x qJ (qa 32 (iR e))) (cz e)) iI (qa 32 c)
def zW (com:Nat→Nat) (x:List (List D)) (j:Nat):List (List D)→List (List D)
 | []=> x
 | e::l=> zW com (eqX x e (com j)) (j+1) l
def CO (t:ByteArray) (n:Nat):List (List D):=qd (qd (Lm gy) lS (ofStr t)) kW (Q4 n)
noncomputable def CL:ByteArray→List (List D)→Nat→(Nat→Nat)→Nat:=aA fun t x n com=> aW (nG (aaT (zW com (CO t n) 0 x) 2 (ofStr lN)))
theorem zV (t:ByteArray) (x:List (List D)) (n:Nat) (com:Nat→Nat):CL t x n com=aW (nG (aaT (zW com (CO t n) 0 x) 2 (ofStr lN))):=by unfold CL; rw [aO]
theorem FW {com com':Nat→Nat}: ∀ {l x:List (List D)} {j:Nat},(∀ i,i<l.length→com (j+i)=com' (j+i))→zW com x j l=zW com' x j l
 | [],_,_,_=> rfl
 | e::l,x,j,h=> by
   unfold zW
   rw [show com j=com' j from h 0 (Nat.succ_pos _)]
   exact FW fun i hi=> by
    have:=h (i+1) (Nat.succ_lt_succ hi)
    rw [show j+1+i=j+(i+1) by omega]
    exact this
theorem Te {com com':Nat→Nat} {t:ByteArray} {x:List (List D)} {n:Nat} (h: ∀ i,i<x.length→com i=com' i):CL t x n com=CL t x n com':=by
 rw [zV,zV,FW (com:=com) (com':=com') fun i hi=> by rw [Nat.zero_add]; exact h i hi]
noncomputable def LV (c a k:Nat):Nat:=bif bU k && bU (bif bU c && bU a then aW (aW c*aW a) else 0) then aW (aW k+aW (bif bU c && bU a then aW (aW c*aW a) else 0)) else 0
noncomputable def kS (t:ByteArray) (x s k:List (List D)):Nat:=CL t x s.length fun j=> oD k (cz (x.getD j []))
noncomputable def jY (c:Nat) (s k:List (List D)) (n:Nat):List (List D):=(List.range n).map fun i=> [.n (LV c (kX s i) (kX k i))]
noncomputable def Bn (t:ByteArray) (x s k:List (List D)):Int:=bif !xZ t.size x (s.length:Nat) then 2 else bif !decide (((k.length:Nat):Int)=(s.length:Nat)) then 2 else bif !dK s then 50 else bif !dK k then 50 else bif !qG x then 51 else bif !H6 s x then 110 else 0
noncomputable def mq (c:Nat):Nat:=bif bU 0 && bU c then aW (aW 0+aW (lI 7237005577332262213973186563042994240857116359379907606001950938285454250989 (aW c))) else 0
noncomputable def QX (t:ByteArray) (x:List (List D)) (n:Nat) (c:Nat) (s:List (List D)):Nat:=CL t x n fun j=> fH ([.n (mq c), .n (iR (x.getD j []))]::iZ s (cz (x.getD j [])))
noncomputable def qU (t:ByteArray) (x:List (List D)) (n:Int) (c:Nat) (s:List (List D)):Int:=bif !xZ t.size x n then 2 else bif !decide (((s.length:Nat):Int)=n) then 2 else bif !bU c then 50 else bif !dK s then 50 else bif !qG x then 51 else
 bif !decide (QX t x n.toNat c s=c) then 110 else 0
end Go.Proofs.YtcgmcohkkigphaaGreat

/-
  What is proved is taken: relations, in points of the group.
-/
namespace Go.Proofs.YtcgmcohkkigphaaGreat
open Go Vx Go.RowKit

theorem Eg (s q:List (List D)):(iZ s q).length=q.length:=by unfold iZ; rw [List.length_map]
theorem neg_eq {c:Nat} (hc:bU c=true):mq c=(lP - c) % lP:=by
 have h0:bU 0=true:=oW.2 Lb
 have hcl:=LA hc
 have hl:=N9
 unfold mq
 rw [hc,h0,gG h0,gG hc,kz,kz,lJ]
 show (0+(lP+2^256 - c) % 2^256 % lP) % lP=_
 generalize lP=l at*
 generalize (2:Nat)^256=t at*
 by_cases h:c=0
 · subst h
   rw [Nat.sub_zero,Nat.add_mod_right,Nat.mod_eq_of_lt hl,Nat.mod_self,Nat.sub_zero,Nat.mod_self]
   exact Nat.zero_mod _
 · rw [show l+t - c=t+(l - c) by omega,Nat.add_mod_left,Nat.mod_eq_of_lt (show l - c<t by omega),Nat.zero_add,Nat.mod_mod]
theorem agi {c:Nat} (hc:bU c=true):bU (mq c)=true:=by rw [neg_eq hc]; exact Dj _
theorem aki {c a k:Nat} (hc:bU c=true) (ha:bU a=true) (hk:bU k=true):LV c a k=(k+c*a) % lP:=by
 have hx:bU (aW (c*a))=true:=Fz _
 unfold LV
 rw [hc,ha,hk,gG hc,gG ha,gG hk,Bool.and_self,cond_true,hx,gG hx,kz,kz,Nat.add_mod_mod]
 rfl
theorem ads {c a k:Nat}:bU (LV c a k)=true:=by
 unfold LV
 generalize (bU k && bU (bif bU c && bU a then aW (aW c*aW a) else 0))=b
 cases b with
 | false=> exact oW.2 Lb
 | true=> exact Fz _
theorem zQ (c:Nat) (s k:List (List D)) (n:Nat):(jY c s k n).length=n:=by unfold jY; rw [List.length_map,List.length_range]
theorem LP {c:Nat} {s k:List (List D)} {n i:Nat} (hi:i<n):kX (jY c s k n) i=LV c (kX s i) (kX k i):=by
 unfold jY
 conv=> lhs; unfold kX
 rw [List.getD_eq_getElem?_getD,List.getElem?_map,List.getElem?_range hi]
 rfl
theorem MQ: ∀ {l:List (List D)},(∀ i,i<l.length→bU (kX l i)=true)→dK l=true
 | [],_=> rfl
 | d::l,h=> by
   unfold dK
   rw [show bU (iR d)=true from h 0 (Nat.succ_pos _)]
   exact MQ fun i hi=> h (i+1) (Nat.succ_lt_succ hi)
theorem agM (c:Nat) (s k:List (List D)) (n:Nat):dK (jY c s k n)=true:=MQ fun i hi=> by
 rw [zQ] at hi
 rw [LP hi]
 exact ads
theorem IE {c:Nat} {s k:List (List D)} (hc:bU c=true) (hs:dK s=true) (hk:dK k=true) (hl:k.length=s.length): ∀ {q:List (List D)},gX (s.length:Nat) q=true→zR q=true→
 ∃ R K X,Terms (iZ (jY c s k s.length) q) R∧Terms (iZ k q) K∧Terms (iZ s q) X∧Co R (K+E.mul c X)
 | [],_,_=> ⟨0,0,0, .nil, .nil, .nil,by rw [E.mo,E.zero_add]; exact kK _⟩
 | p::q,h,hp=> by
   obtain ⟨h1,h2,h3⟩:=BX h
   obtain ⟨p1,p2⟩:=ZR hp
   obtain ⟨R,K,X,t1,t2,t3,t4⟩:=IE hc hs hk hl h3 p2
   obtain ⟨P,_,hP⟩:=Pt.SE p1
   have hi:(mD p).toNat<s.length:=by omega
   have o1:=DR hs hi
   have o2:=DR hk (show (mD p).toNat<k.length by omega)
   have o3:bU (kX (jY c s k s.length) (mD p).toNat)=true:=by rw [LP hi]; exact ads
   refine ⟨_,_,_, .cons o3 hP t1, .cons o2 hP t2, .cons o1 hP t3,?_⟩
   rw [LP hi,aki hc o1 o2]
   have e1:Co (E.mul ((kX k (mD p).toNat+c*kX s (mD p).toNat) % lP) P) (E.mul (kX k (mD p).toNat) P+E.mul c (E.mul (kX s (mD p).toNat) P)):=by
    rw [← E.iU,← E.add_mul]
    exact rC hP.1 (by rw [Nat.mod_mod,Nat.mul_comm])
   rw [E.mul_add]
   have e2:=tZ e1 t4
   generalize E.mul (kX k (mD p).toNat) P=A at*
   generalize E.mul c (E.mul (kX s (mD p).toNat) P)=B at*
   generalize E.mul c X=C at*
   have e3:A+K+(B+C)=A+B+(K+C):=by
    rw [E.add_assoc,E.add_assoc,← E.add_assoc K,E.add_comm K B,E.add_assoc B]
   rw [e3]
   exact e2
theorem ajG {c:Nat} (hc:bU c=true) {P:E} (he:Ev P):Co (E.mul (mq c) P+E.mul c P) 0:=by
 rw [neg_eq hc,← E.add_mul]
 refine rC he (b:=0) ?_
 rw [Nat.mod_add_mod,Nat.sub_add_cancel (Nat.le_of_lt (LA hc)),Nat.mod_self]
 rfl
theorem ahl {c a:Nat} {s k q:List (List D)} (hc:bU c=true) (hs:dK s=true) (hk:dK k=true) (hl:k.length=s.length) (hq:gX (s.length:Nat) q=true) (hn:q.length≤16) (hp:zR q=true) (ha:a=oD s q):
 fH ([.n (mq c), .n a]::iZ (jY c s k s.length) q)=oD k q:=by
 obtain ⟨R,K,X,t1,t2,t3,t4⟩:=IE hc hs hk hl hq hp
 have hX:=(sG t3 (by rw [Eg]; omega)).2
 have hK:=(sG t2 (by rw [Eg]; omega)).2
 have hA:Pt a X:=by rw [ha]; exact hX
 have h1:=(sG (.cons (agi hc) hA t1) (by show (iZ _ q).length+1≤64; rw [Eg]; omega)).2
 refine h1.eq hK ?_
 have h2:=tZ (kK (E.mul (mq c) X)) t4
 have h3:=tZ (kK K) (ajG hc hX.1)
 rw [E.add_zero] at h3
 rw [← E.add_assoc,E.add_comm (E.mul (mq c) X) K,E.add_assoc] at h2
 exact jJ h2 h3
end Go.Proofs.YtcgmcohkkigphaaGreat
