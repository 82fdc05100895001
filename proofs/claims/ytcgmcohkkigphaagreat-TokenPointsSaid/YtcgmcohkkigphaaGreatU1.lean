/-
  The field of 2^255 - 19 as numbers: what the program's lowest functions answer. Each is sealed, so that nobody unfolds it by the way. No program stands in it.
-/
import Derived.Test.YtcgmcohkkigphaaGreatX1
namespace Vx

def pP:Nat:=57896044618658097711785492504343953926634992332820282019728792003956564819949

noncomputable def FP:Nat→Nat→Nat:=aA fun a b=> (a+b) % 115792089237316195423570985008687907853269984665640564039457584007913129639936
noncomputable def zO:Nat→Nat→Nat:=aA fun a b=> (a+b) / 115792089237316195423570985008687907853269984665640564039457584007913129639936
noncomputable def lI:Nat→Nat→Nat:=aA fun a b=> (a+115792089237316195423570985008687907853269984665640564039457584007913129639936 - b) % 115792089237316195423570985008687907853269984665640564039457584007913129639936
noncomputable def jW:Nat→Nat→Bool:=aA fun a b=> decide (a<b)
noncomputable def aH:Nat→Nat:=aA fun a=> a % pP
noncomputable def lq:Nat→Nat→Bool:=aA fun a b=> decide (a % pP=b % pP)
noncomputable def nz:Nat→Bool:=aA fun a=> decide (a % pP % 2=1)
noncomputable def BV:Nat→Int→Nat:=aA fun a c=> (a+c.toNat*115792089237316195423570985008687907853269984665640564039457584007913129639936) % pP
noncomputable def bH:Nat→Nat→Nat:=aA fun a b=> (a+b) % pP
noncomputable def fJ:Nat→Nat:=aA fun a=> (pP - a % pP) % pP
noncomputable def bX:Nat→Nat→Nat:=aA fun a b=> (a+(pP - b % pP)) % pP
noncomputable def ah:Nat→Nat→Nat:=aA fun a b=> a*b % pP
noncomputable def gF:Nat→Nat→Nat:=aA fun a e=> a^e % pP
noncomputable def kZ:Nat→Nat:=aA fun a=> if a % pP % 2=1 then (pP - a % pP) % pP else a % pP

noncomputable def Ig:Nat→Nat→Nat:=aA fun a k=> a / 2^k
noncomputable def fI:Nat→Nat:=aA fun a=> gF a (pP - 2)
noncomputable def iP:Nat:=aA (gF 2 (Ig pP 2))
noncomputable def F7 (u v:Nat):Nat × Bool:=
 let cube:=ah (ah v v) v
 let seven:=ah (ah cube cube) v
 let r:=ah (ah u cube) (gF (ah u seven) (Ig pP 3))
 let check:=ah v (ah r r)
 let turned:=lq check (fJ u)
 (kZ (bif turned || lq check (fJ (ah u iP)) then ah r iP else r),lq check u || turned)
noncomputable def dU:Nat→Nat→Nat:=aA fun u v=> (F7 u v).1
noncomputable def kT:Nat→Nat→Bool:=aA fun u v=> (F7 u v).2
theorem F9 (u v:Nat):dU u v=(F7 u v).1:=by unfold dU; rw [aO]
theorem F8 (u v:Nat):kT u v=(F7 u v).2:=by unfold kT; rw [aO]

noncomputable def uD:Nat→Bool:=aA fun a=> decide (a<pP)
theorem Dc (a:Nat):uD a=decide (a<pP):=by unfold uD; rw [aO]
theorem Dv (a k:Nat):Ig a k=a / 2^k:=by unfold Ig; rw [aO]
theorem Db (a:Nat):fI a=gF a (pP - 2):=by unfold fI; rw [aO]
theorem abJ:iP=gF 2 (Ig pP 2):=by unfold iP; rw [aO]

noncomputable def wu:Int→Bool:=aA fun c=> decide (c<288230376151711744)
theorem ym (c:Int):wu c=decide (c<288230376151711744):=by unfold wu; rw [aO]

theorem uN (a b:Nat):FP a b=(a+b) % 115792089237316195423570985008687907853269984665640564039457584007913129639936:=by unfold FP; rw [aO]
theorem qF (a b:Nat):zO a b=(a+b) / 115792089237316195423570985008687907853269984665640564039457584007913129639936:=by unfold zO; rw [aO]
theorem lJ (a b:Nat):lI a b=(a+115792089237316195423570985008687907853269984665640564039457584007913129639936 - b) % 115792089237316195423570985008687907853269984665640564039457584007913129639936:=by unfold lI; rw [aO]
theorem kv (a b:Nat):jW a b=decide (a<b):=by unfold jW; rw [aO]
theorem ed (a:Nat):aH a=a % pP:=by unfold aH; rw [aO]
theorem Gu (a b:Nat):lq a b=decide (a % pP=b % pP):=by unfold lq; rw [aO]
theorem rZ (a:Nat):nz a=decide (a % pP % 2=1):=by unfold nz; rw [aO]
theorem EO (a:Nat) (c:Int):BV a c=(a+c.toNat*115792089237316195423570985008687907853269984665640564039457584007913129639936) % pP:=by unfold BV; rw [aO]
theorem yI (a b:Nat):bH a b=(a+b) % pP:=by unfold bH; rw [aO]
theorem oV (a:Nat):fJ a=(pP - a % pP) % pP:=by unfold fJ; rw [aO]
theorem Mg (a b:Nat):bX a b=(a+(pP - b % pP)) % pP:=by unfold bX; rw [aO]
theorem lZ (a b:Nat):ah a b=a*b % pP:=by unfold ah; rw [aO]
theorem l5 (a e:Nat):gF a e=a^e % pP:=by unfold gF; rw [aO]
theorem CQ (a:Nat):kZ a=if a % pP % 2=1 then (pP - a % pP) % pP else a % pP:=by unfold kZ; rw [aO]

theorem Gz (a b:Nat):bH a (fJ b)=bX a b:=by
 rw [yI,oV,Mg,Nat.add_mod,Nat.mod_mod,← Nat.add_mod]
end Vx

/-
  Points of the curve as four numbers: what the program's functions of layers 3 and 4 answer. Each is sealed. No program stands in it.
-/
namespace Vx

structure P4 where
 x:Nat
 y:Nat
 z:Nat
 t:Nat

noncomputable def dP:Nat:=aA (ah (fJ 121665) (fI 121666))
noncomputable def Vt:P4:=⟨0,1,1,0⟩
noncomputable def QZ:P4:=⟨0,0,0,0⟩
theorem abe:dP=ah (fJ 121665) (fI 121666):=by unfold dP; rw [aO]
noncomputable def TF (p:P4) (q:P4) (tw:Nat):P4:=
 let a:=ah (bX p.y p.x) (bX q.y q.x)
 let b:=ah (bH p.y p.x) (bH q.y q.x)
 let c:=ah (ah p.t tw) q.t
 let zz:=ah p.z q.z
 let d:=bH zz zz
 let e:=bX b a
 let f:=bX d c
 let g:=bH d c
 let h:=bH b a
 ⟨ah e f,ah g h,ah f g,ah e h⟩
noncomputable def alY:P4→P4→Nat→Nat:=aA fun p q tw=> (TF p q tw).x
noncomputable def alZ:P4→P4→Nat→Nat:=aA fun p q tw=> (TF p q tw).y
noncomputable def al0:P4→P4→Nat→Nat:=aA fun p q tw=> (TF p q tw).z
noncomputable def alX:P4→P4→Nat→Nat:=aA fun p q tw=> (TF p q tw).t
noncomputable def Ae (p:P4) (q:P4) (tw:Nat):P4:=⟨alY p q tw,alZ p q tw,al0 p q tw,alX p q tw⟩
theorem Mi (p:P4) (q:P4) (tw:Nat):Ae p q tw=TF p q tw:=by
 unfold Ae alY alZ al0 alX
 simp only [aO]
noncomputable def DK (p:P4) (q:P4):P4:=Ae p q (bH dP dP)
noncomputable def aht:P4→P4→Nat:=aA fun p q=> (DK p q).x
noncomputable def ahu:P4→P4→Nat:=aA fun p q=> (DK p q).y
noncomputable def ahv:P4→P4→Nat:=aA fun p q=> (DK p q).z
noncomputable def ahs:P4→P4→Nat:=aA fun p q=> (DK p q).t
noncomputable def yG (p:P4) (q:P4):P4:=⟨aht p q,ahu p q,ahv p q,ahs p q⟩
theorem yH (p:P4) (q:P4):yG p q=DK p q:=by
 unfold yG aht ahu ahv ahs
 simp only [aO]
noncomputable def atB:Nat→Bool→Bool:=aA fun y odd=>
 !(!kT (bX (ah y y) 1) (bH (ah dP (ah y y)) 1) || (odd && decide (dU (bX (ah y y) 1) (bH (ah dP (ah y y)) 1)=0)))
theorem Kg (y:Nat) (odd:Bool):atB y odd= !(!kT (bX (ah y y) 1) (bH (ah dP (ah y y)) 1) || (odd && decide (dU (bX (ah y y) 1) (bH (ah dP (ah y y)) 1)=0))):=by
 unfold atB; rw [aO]
noncomputable def at0 (y:Nat) (odd:Bool):P4:=
 let r:=dU (bX (ah y y) 1) (bH (ah dP (ah y y)) 1)
 let x:=bif odd then fJ r else r
 bif atB y odd then ⟨x,aH y,1,ah x y⟩ else QZ
noncomputable def atX:Nat→Bool→Nat:=aA fun y odd=> (at0 y odd).x
noncomputable def atY:Nat→Bool→Nat:=aA fun y odd=> (at0 y odd).y
noncomputable def atZ:Nat→Bool→Nat:=aA fun y odd=> (at0 y odd).z
noncomputable def atT:Nat→Bool→Nat:=aA fun y odd=> (at0 y odd).t
noncomputable def atP (y:Nat) (odd:Bool):P4:=⟨atX y odd,atY y odd,atZ y odd,atT y odd⟩
theorem Kh (y:Nat) (odd:Bool):atP y odd=at0 y odd:=by
 unfold atP atX atY atZ atT
 simp only [aO]
noncomputable def base0 (_u:Unit):P4:=atP (ah 4 (fI 5)) false
noncomputable def ahz:Unit→Nat:=aA fun _u=> (base0 _u).x
noncomputable def ahA:Unit→Nat:=aA fun _u=> (base0 _u).y
noncomputable def ahB:Unit→Nat:=aA fun _u=> (base0 _u).z
noncomputable def ahy:Unit→Nat:=aA fun _u=> (base0 _u).t
noncomputable def qh (_u:Unit):P4:=⟨ahz _u,ahA _u,ahB _u,ahy _u⟩
theorem DY (_u:Unit):qh _u=base0 _u:=by
 unfold qh ahz ahA ahB ahy
 simp only [aO]
end Vx

/-
  Elements of the group as four numbers: what the program's functions of layer 4 answer. Each is sealed. No program stands in it.
-/
namespace Vx

noncomputable def uB:Nat:=aA (fJ (bH 1 dP))
theorem E9:uB=fJ (bH 1 dP):=by unfold uB; rw [aO]
noncomputable def xh:Nat:=aA (dU 1 uB)
theorem EL:xh=dU 1 uB:=by unfold xh; rw [aO]
noncomputable def uq:Nat:=aA (fJ (dU uB 1))
theorem NH:uq=fJ (dU uB 1):=by unfold uq; rw [aO]
noncomputable def uo:Nat:=aA (bX 1 (ah dP dP))
theorem NF:uo=bX 1 (ah dP dP):=by unfold uo; rw [aO]
noncomputable def xg:Nat:=aA (ah (bX dP 1) (bX dP 1))
theorem NG:xg=ah (bX dP 1) (bX dP 1):=by unfold xg; rw [aO]
noncomputable def I1:Nat→Nat:=aA fun b=> b % 2^255
noncomputable def Sn:Nat→Nat:=aA fun b=> b % 2^256
noncomputable def R5:Nat→Nat:=aA fun b=> b / 2^256
noncomputable def Pf (p:P4):Nat:=
 let u1:=ah (bH p.z p.y) (bX p.z p.y)
 let u2:=ah p.x p.y
 let r:=dU 1 (ah u1 (ah u2 u2))
 let a:=ah r u1
 let b:=ah r u2
 let c:=ah (ah a b) p.t
 let o:=nz (ah p.t c)
 let x:=bif o then ah p.y iP else p.x
 let y:=bif o then ah p.x iP else p.y
 let b:=bif o then ah a xh else b
 let y:=bif nz (ah x c) then fJ y else y
 aH (kZ (ah b (bX p.z y)))
noncomputable def iV:P4→Nat:=aA Pf
theorem FZ (p:P4):iV p=Pf p:=by unfold iV; rw [aO]
noncomputable def Bp (n:Nat):Bool:=
 let s:=aH n
 let ss:=ah s s
 let u1:=bX 1 ss
 let u2:=bH 1 ss
 let uu:=ah u2 u2
 let v:=bX (fJ (ah dP (ah u1 u1))) uu
 let r:=dU 1 (ah v uu)
 let a:=ah r u2
 let x:=kZ (ah (bH s s) a)
 let y:=ah u1 (ah (ah r a) v)
 uD n && !nz s && (kT 1 (ah v uu) && !nz (ah x y) && !lq y 0)
noncomputable def aJ:Nat→Bool:=aA Bp
theorem vV (n:Nat):aJ n=Bp n:=by unfold aJ; rw [aO]
noncomputable def zT (n:Nat):P4:=
 let s:=aH n
 let ss:=ah s s
 let u1:=bX 1 ss
 let u2:=bH 1 ss
 let uu:=ah u2 u2
 let v:=bX (fJ (ah dP (ah u1 u1))) uu
 let r:=dU 1 (ah v uu)
 let a:=ah r u2
 let x:=kZ (ah (bH s s) a)
 let y:=ah u1 (ah (ah r a) v)
 bif aJ n then ⟨x,y,1,ah x y⟩ else QZ
noncomputable def aij:Nat→Nat:=aA fun n=> (zT n).x
noncomputable def aik:Nat→Nat:=aA fun n=> (zT n).y
noncomputable def ail:Nat→Nat:=aA fun n=> (zT n).z
noncomputable def aii:Nat→Nat:=aA fun n=> (zT n).t
noncomputable def jD (n:Nat):P4:=⟨aij n,aik n,ail n,aii n⟩
theorem zU (n:Nat):jD n=zT n:=by
 unfold jD aij aik ail aii
 simp only [aO]
noncomputable def afU (p:P4) (q:P4):Bool:=lq (ah p.x q.y) (ah p.y q.x) || lq (ah p.y q.y) (ah p.x q.x)
noncomputable def abx:P4→P4→Bool:=aA afU
theorem Vf (p:P4) (q:P4):abx p q=afU p q:=by unfold abx; rw [aO]
noncomputable def IW (one:Nat) (i:Nat) (d:Nat) (m:Nat) (a:Nat) (b:Nat) (t:Nat):P4:=
 let r:=ah i (ah t t)
 let u:=ah (bH r one) a
 let v:=ah (fJ (bH one (ah r d))) (bH r d)
 let s:=bif kT u v then dU u v else fJ (kZ (ah (dU u v) t))
 let c:=bif kT u v then fJ one else r
 let n':=bX (ah (ah c (bX r one)) b) v
 let ss:=ah s s
 let w0:=ah (bH s s) v
 let w1:=ah n' m
 let w2:=bX one ss
 let w3:=bH one ss
 ⟨ah w0 w3,ah w2 w1,ah w1 w3,ah w0 w2⟩
noncomputable def ahM:Nat→Nat→Nat→Nat→Nat→Nat→Nat→Nat:=aA fun one i d m a b t=> (IW one i d m a b t).x
noncomputable def ahN:Nat→Nat→Nat→Nat→Nat→Nat→Nat→Nat:=aA fun one i d m a b t=> (IW one i d m a b t).y
noncomputable def ahO:Nat→Nat→Nat→Nat→Nat→Nat→Nat→Nat:=aA fun one i d m a b t=> (IW one i d m a b t).z
noncomputable def ahL:Nat→Nat→Nat→Nat→Nat→Nat→Nat→Nat:=aA fun one i d m a b t=> (IW one i d m a b t).t
noncomputable def ER (one:Nat) (i:Nat) (d:Nat) (m:Nat) (a:Nat) (b:Nat) (t:Nat):P4:=⟨ahM one i d m a b t,ahN one i d m a b t,ahO one i d m a b t,ahL one i d m a b t⟩
theorem abG (one:Nat) (i:Nat) (d:Nat) (m:Nat) (a:Nat) (b:Nat) (t:Nat):ER one i d m a b t=IW one i d m a b t:=by
 unfold ER ahM ahN ahO ahL
 simp only [aO]
noncomputable def Ph (b:Nat):P4:=
 yG (ER 1 iP dP uq uo xg (aH (I1 (Sn b)))) (ER 1 iP dP uq uo xg (aH (I1 (R5 b))))
noncomputable def ais:Nat→Nat:=aA fun b=> (Ph b).x
noncomputable def ait:Nat→Nat:=aA fun b=> (Ph b).y
noncomputable def aiu:Nat→Nat:=aA fun b=> (Ph b).z
noncomputable def air:Nat→Nat:=aA fun b=> (Ph b).t
noncomputable def Wu (b:Nat):P4:=⟨ais b,ait b,aiu b,air b⟩
theorem adq (b:Nat):Wu b=Ph b:=by
 unfold Wu ais ait aiu air
 simp only [aO]
end Vx

/-
  The numbers of the field of 2^255 - 19 as they can be computed: each sealed function is another one's equal that the kernel works out. No program stands in it.
-/
namespace Vx

def OV:Nat→Nat→Nat→Nat→Nat
 | 0,_,_,acc=> acc
 | f+1,a,e,acc=> OV f (a*a % pP) (e / 2) (bif Nat.beq (e % 2) 1 then acc*a % pP else acc)

theorem OW: ∀ (f a e acc:Nat),e<2^f→OV f a e acc % pP=acc*a^e % pP
 | 0,a,e,acc,h=> by
   have:e=0:=by simpa using h
   subst this
   simp [OV]
 | f+1,a,e,acc,h=> by
   unfold OV
   have h2:e / 2<2^f:=by rw [Nat.pow_succ] at h; omega
   rw [OW f _ _ _ h2]
   have hp:(a*a % pP)^(e / 2) % pP=a^(2*(e / 2)) % pP:=by
    rw [← Nat.pow_mod,Nat.pow_mul,Nat.pow_two]
   have hb:e % 2=0∨e % 2=1:=by omega
   rcases hb with hb | hb
   · have he:e=2*(e / 2):=by omega
     rw [hb]
     show acc*(a*a % pP)^(e / 2) % pP=_
     rw [Nat.mul_mod,hp,← Nat.mul_mod,← he]
   · have he:e=2*(e / 2)+1:=by omega
     rw [hb]
     show acc*a % pP*(a*a % pP)^(e / 2) % pP=_
     rw [Nat.mul_mod,hp,Nat.mod_mod,← Nat.mul_mod]
     conv=> rhs; rw [he]
     rw [Nat.pow_succ,Nat.mul_assoc,Nat.mul_comm a]

def powC (a e:Nat):Nat:=OV (Nat.log2 e+1) a e 1 % pP
theorem SX (a e:Nat):gF a e=powC a e:=by
 rw [l5,powC,OW _ _ _ _ Nat.lt_log2_self,Nat.one_mul]

def mulC (a b:Nat):Nat:=a*b % pP
def wK (a b:Nat):Nat:=(a+b) % pP
def H7 (a:Nat):Nat:=(pP - a % pP) % pP
def Ad (a b:Nat):Nat:=(a+(pP - b % pP)) % pP
def YF (a:Nat):Nat:=a % pP
def Cm (a b:Nat):Bool:=Nat.beq (a % pP) (b % pP)
def Ow (a:Nat):Bool:=Nat.beq (a % pP % 2) 1
def Yn (a:Nat):Nat:=bif Ow a then H7 a else YF a
def aks (a k:Nat):Nat:=a / 2^k
def ajA (a:Nat):Bool:=Nat.blt a pP
theorem nZ (a b:Nat):ah a b=mulC a b:=lZ a b
theorem tN (a b:Nat):bH a b=wK a b:=yI a b
theorem xR (a:Nat):fJ a=H7 a:=oV a
theorem BD (a b:Nat):bX a b=Ad a b:=Mg a b
theorem Kk (a:Nat):aH a=YF a:=ed a
theorem aev (a k:Nat):Ig a k=aks a k:=Dv a k
theorem CR (a b:Nat):decide (a=b)=Nat.beq a b:=by
 cases h:Nat.beq a b with
 | true=> exact decide_eq_true (Nat.eq_of_beq_eq_true h)
 | false=> exact decide_eq_false (Nat.ne_of_beq_eq_false h)
theorem Me (a b:Nat):lq a b=Cm a b:=by rw [Gu,Cm,CR]
theorem acg (a:Nat):nz a=Ow a:=by rw [rZ,Ow,CR]
theorem J7 (a:Nat):kZ a=Yn a:=by
 rw [CQ,Yn,Ow,← CR]
 by_cases h:a % pP % 2=1
 · rw [if_pos h,decide_eq_true h]; rfl
 · rw [if_neg h,decide_eq_false h]; rfl
theorem vk (a b:Nat):Nat.blt a b=true↔a<b:=by rw [Nat.blt_eq]
theorem ajB (a:Nat):uD a=ajA a:=by
 rw [Dc,ajA]
 cases h:Nat.blt a pP with
 | true=> exact decide_eq_true ((vk _ _).1 h)
 | false=> exact decide_eq_false fun h2=> by rw [(vk _ _).2 h2] at h; cases h

def ajy (a:Nat):Nat:=powC a (pP - 2)
theorem Sd (a:Nat):fI a=ajy a:=by rw [Db,SX]; rfl
def iC:Nat:=powC 2 (aks pP 2)
theorem ajv:iP=iC:=by rw [abJ,SX,aev]; rfl
def sV (u v:Nat):Nat × Bool:=
 let cube:=mulC (mulC v v) v
 let seven:=mulC (mulC cube cube) v
 let r:=mulC (mulC u cube) (powC (mulC u seven) (aks pP 3))
 let check:=mulC v (mulC r r)
 let turned:=Cm check (H7 u)
 (Yn (bif turned || Cm check (H7 (mulC u iC)) then mulC r iC else r),Cm check u || turned)
theorem Wv (u v:Nat):F7 u v=sV u v:=by
 unfold F7 sV
 simp only [nZ,SX,aev,Me,xR,J7,ajv]
theorem vY (u v:Nat):dU u v=(sV u v).1:=by rw [F9,Wv]
theorem Ww (u v:Nat):kT u v=(sV u v).2:=by rw [F8,Wv]

def dC:Nat:=mulC (H7 121665) (ajy 121666)
theorem RA:dP=dC:=by rw [abe,nZ,xR,Sd]; rfl
theorem ai9:dC=37095705934669439343138083508754565189542113879843219016388785533085940283555:=by decide+kernel
theorem aju:iC=19681161376707505956807079304988542015446066515923890162744021073123829784752:=by decide+kernel

def akw (p q:P4) (tw:Nat):P4:=
 let a:=mulC (Ad p.y p.x) (Ad q.y q.x)
 let b:=mulC (wK p.y p.x) (wK q.y q.x)
 let c:=mulC (mulC p.t tw) q.t
 let zz:=mulC p.z q.z
 let d:=wK zz zz
 let e:=Ad b a
 let f:=Ad d c
 let g:=wK d c
 let h:=wK b a
 ⟨mulC e f,mulC g h,mulC f g,mulC e h⟩
theorem akx (p q:P4) (tw:Nat):Ae p q tw=akw p q tw:=by
 rw [Mi]; unfold TF akw
 simp only [nZ,tN,BD]
def Iq (p q:P4):P4:=akw p q (wK dC dC)
theorem Uz (p q:P4):yG p q=Iq p q:=by
 rw [yH]; unfold DK Iq
 simp only [akx,tN,RA]
def ai1 (y:Nat) (odd:Bool):Bool:=
 !(!(sV (Ad (mulC y y) 1) (wK (mulC dC (mulC y y)) 1)).2 || (odd && Nat.beq (sV (Ad (mulC y y) 1) (wK (mulC dC (mulC y y)) 1)).1 0))
theorem ahw (y:Nat) (odd:Bool):atB y odd=ai1 y odd:=by
 rw [Kg,CR]; unfold ai1
 simp only [Ww,vY,BD,tN,nZ,RA]
def atC (y:Nat) (odd:Bool):P4:=
 let r:=(sV (Ad (mulC y y) 1) (wK (mulC dC (mulC y y)) 1)).1
 let x:=bif odd then H7 r else r
 bif ai1 y odd then ⟨x,YF y,1,mulC x y⟩ else ⟨0,0,0,0⟩
theorem ak8 (y:Nat) (odd:Bool):atP y odd=atC y odd:=by
 rw [Kh]; unfold at0 atC QZ
 simp only [vY,BD,tN,nZ,RA,ahw,xR,Kk]
def aaY:P4:=atC (mulC 4 (ajy 5)) false
theorem UH:qh ()=aaY:=by
 rw [DY]; unfold base0 aaY
 simp only [ak8,nZ,Sd]
def ahW:Nat:=H7 (wK 1 dC)
def ahH:Nat:=(sV 1 ahW).1
theorem af8:uB=ahW:=by rw [E9,xR,tN,RA]; rfl
theorem afZ:xh=ahH:=by rw [EL,vY,af8]; rfl
def ajh (p:P4):Nat:=
 let u1:=mulC (wK p.z p.y) (Ad p.z p.y)
 let u2:=mulC p.x p.y
 let r:=(sV 1 (mulC u1 (mulC u2 u2))).1
 let a:=mulC r u1
 let b:=mulC r u2
 let c:=mulC (mulC a b) p.t
 let o:=Ow (mulC p.t c)
 let x:=bif o then mulC p.y iC else p.x
 let y:=bif o then mulC p.x iC else p.y
 let b:=bif o then mulC a ahH else b
 let y:=bif Ow (mulC x c) then H7 y else y
 YF (Yn (mulC b (Ad p.z y)))
theorem Wt (p:P4):iV p=ajh p:=by
 rw [FZ]; unfold Pf ajh
 simp only [nZ,tN,BD,vY,acg,xR,J7,Kk,ajv,afZ]
def abk (n:Nat):Bool:=
 let s:=YF n
 let ss:=mulC s s
 let u1:=Ad 1 ss
 let u2:=wK 1 ss
 let uu:=mulC u2 u2
 let v:=Ad (H7 (mulC dC (mulC u1 u1))) uu
 let r:=(sV 1 (mulC v uu)).1
 let a:=mulC r u2
 let x:=Yn (mulC (wK s s) a)
 let y:=mulC u1 (mulC (mulC r a) v)
 ajA n && !Ow s && ((sV 1 (mulC v uu)).2 && !Ow (mulC x y) && !Cm y 0)
theorem O7 (n:Nat):aJ n=abk n:=by
 rw [vV]; unfold Bp abk
 simp only [nZ,tN,BD,vY,Ww,acg,xR,J7,Kk,RA,ajB,Me]
def alc (n:Nat):P4:=
 let s:=YF n
 let ss:=mulC s s
 let u1:=Ad 1 ss
 let u2:=wK 1 ss
 let uu:=mulC u2 u2
 let v:=Ad (H7 (mulC dC (mulC u1 u1))) uu
 let r:=(sV 1 (mulC v uu)).1
 let a:=mulC r u2
 let x:=Yn (mulC (wK s s) a)
 let y:=mulC u1 (mulC (mulC r a) v)
 bif abk n then ⟨x,y,1,mulC x y⟩ else ⟨0,0,0,0⟩
theorem agR (n:Nat):jD n=alc n:=by
 rw [zU]; unfold zT alc QZ
 simp only [nZ,tN,BD,vY,xR,J7,Kk,RA,O7]
def alf (p q:P4):Bool:=Cm (mulC p.x q.y) (mulC p.y q.x) || Cm (mulC p.y q.y) (mulC p.x q.x)
theorem ajn (p q:P4):abx p q=alf p q:=by
 rw [Vf]; unfold afU alf
 simp only [nZ,Me]
theorem abu:ajh aaY=53453403443306840533278073560698739391446669128918427283046925944918568268514:=by decide+kernel
theorem Bt:iV (qh ())=53453403443306840533278073560698739391446669128918427283046925944918568268514:=by
 rw [Wt,UH,abu]
theorem Zi:aJ (iV (qh ()))=true:=by
 rw [Bt,O7]; decide+kernel
theorem Zj:abx (jD (iV (qh ()))) (qh ())=true:=by
 rw [Bt,agR,ajn,UH]; decide+kernel
end Vx

/-
  Eight digits of 32 bits, that may have grown: what a pass of carries makes of them. No program stands in it.
-/
namespace Vx
open Go

def yQ (d:Nat→Int):Nat→Int
 | 0=> 0
 | i+1=> ak .u64 (yQ d i+d i) / 4294967296
def q9 (d:Nat→Int) (i:Nat):Int:=ak .u64 (yQ d i+d i) % 4294967296

def aR (d:Nat→Int):Nat→Int
 | 0=> 0
 | i+1=> aR d i+d i*2^(32*i)

theorem pass {d:Nat→Int} {m:Nat} (h: ∀ i,i<m→0≤d i∧d i<2199023255552): ∀ i,i≤m→
 0≤yQ d i∧yQ d i<1024∧aR (q9 d) i+yQ d i*2^(32*i)=aR d i
 | 0,_=> by simp [yQ,aR]
 | i+1,hi=> by
   obtain ⟨h1,h2,h3⟩:=pass h i (by omega)
   obtain ⟨h4,h5⟩:=h i (by omega)
   have hw:ak .u64 (yQ d i+d i)=yQ d i+d i:=by
    simp only [ak]; omega
   have hc:yQ d (i+1)=(yQ d i+d i) / 4294967296:=by rw [yQ,hw]
   have he:q9 d i=(yQ d i+d i) % 4294967296:=by rw [q9,hw]
   refine ⟨by rw [hc]; omega,by rw [hc]; omega,?_⟩
   have hs:q9 d i+yQ d (i+1)*4294967296=yQ d i+d i:=by rw [hc,he]; omega
   have hp:(2:Int)^(32*(i+1))=4294967296*2^(32*i):=by
    rw [Nat.mul_succ,Int.pow_add,Int.mul_comm]; rfl
   rw [aR,aR,hp,← h3]
   generalize (2:Int)^(32*i)=P at*
   have:q9 d i*P+yQ d (i+1)*(4294967296*P)=yQ d i*P+d i*P:=by
    rw [← Int.mul_assoc,← Int.add_mul,hs,Int.add_mul]
   omega

theorem vB {d:Nat→Int} (i:Nat):0≤q9 d i∧q9 d i<4294967296:=by
 unfold q9
 exact ⟨Int.emod_nonneg _ (by decide),Int.emod_lt_of_pos _ (by decide)⟩

theorem jZ {d e:Nat→Int}: ∀ n,(∀ i,i<n→d i=e i)→aR d n=aR e n
 | 0,_=> rfl
 | n+1,h=> by rw [aR,aR,jZ n (fun i hi=> h i (by omega)),h n (by omega)]

theorem jM {d:Nat→Int}: ∀ n,(∀ i,i<n→0≤d i∧d i<4294967296)→0≤aR d n∧aR d n<2^(32*n)
 | 0,_=> by simp [aR]
 | n+1,h=> by
   obtain ⟨h1,h2⟩:=jM n (fun i hi=> h i (by omega))
   obtain ⟨h3,h4⟩:=h n (by omega)
   have hp:(2:Int)^(32*(n+1))=4294967296*2^(32*n):=by
    rw [Nat.mul_succ,Int.pow_add,Int.mul_comm]; rfl
   have hpos:(0:Int)<2^(32*n):=Int.pow_pos (by decide)
   rw [aR,hp]
   generalize (2:Int)^(32*n)=P at*
   have h5:0≤d n*P:=Int.mul_nonneg h3 (Int.le_of_lt hpos)
   have h6:d n*P≤4294967295*P:=Int.mul_le_mul_of_nonneg_right (by omega) (Int.le_of_lt hpos)
   omega
end Vx

/-
  Digits that may have grown, modulo p: what three passes, and what follows them, make. No program stands in it.
-/
namespace Vx
open Go

def og (d:Nat→Int) (i:Nat):Int:=bif Nat.beq i 0 then ak .u64 (q9 d 0+ak .u64 (38*yQ d 8)) else q9 d i

theorem Bo {d e:Nat→Int} {x:Int} (h0:e 0=d 0+x) (h: ∀ i,0<i→e i=d i): ∀ n,aR e (n+1)=aR d (n+1)+x
 | 0=> by simp [aR,h0]
 | n+1=> by rw [aR,Bo h0 h n,h (n+1) (by omega),aR.eq_def d (n+1+1)]; simp only []; omega

theorem alb {i:Nat} (h:0<i):Nat.beq i 0=false:=by
 cases i with
 | zero=> omega
 | succ i=> rfl

theorem Oo {d:Nat→Int} (h: ∀ i,i<8→0≤d i∧d i<2199023255552):
 og d 0=q9 d 0+38*yQ d 8∧(∀ i,0<i→og d i=q9 d i)∧0≤yQ d 8∧yQ d 8<1024∧
 aR (og d) 8+yQ d 8*115792089237316195423570985008687907853269984665640564039457584007913129639898=aR d 8∧
 aR (og d) 8=aR (q9 d) 8+38*yQ d 8∧0≤aR (q9 d) 8∧aR (q9 d) 8<115792089237316195423570985008687907853269984665640564039457584007913129639936:=by
 obtain ⟨h1,h2,h3⟩:=pass h 8 (Nat.le_refl _)
 have he:=vB (d:=d) 0
 have h0:og d 0=q9 d 0+38*yQ d 8:=by
  show ak .u64 (q9 d 0+ak .u64 (38*yQ d 8))=_
  simp only [ak]
  clear h3
  omega
 have hs: ∀ i,0<i→og d i=q9 d i:=by
  intro i hi
  show (bif Nat.beq i 0 then _ else _)=_
  rw [alb hi]; rfl
 have hsum:aR (og d) 8=aR (q9 d) 8+38*yQ d 8:=Bo h0 hs 7
 obtain ⟨h4,h5⟩:=jM (d:=q9 d) 8 (fun i _=> vB i)
 have hp:(2:Int)^(32*8)=115792089237316195423570985008687907853269984665640564039457584007913129639936:=by decide
 rw [hp] at h3 h5
 refine ⟨h0,hs,h1,h2,?_,hsum,h4,h5⟩
 rw [hsum]
 clear hsum hs h0 he h4 h5 hp h
 omega

structure RInv (N:Int) (k:Nat) (d:Nat→Int):Prop where
 x8: ∀ i,i<8→0≤d i∧d i<1099511627776
 val:aR d 8 % 57896044618658097711785492504343953926634992332820282019728792003956564819949=N % 57896044618658097711785492504343953926634992332820282019728792003956564819949
 one:1≤k→(∀ i,0<i→i<8→d i<4294967296)∧aR d 8<115792089237316195423570985008687907853269984665640564039457584007913129678848
 two:2≤k→ ∀ i,i<8→d i<4294967296

theorem Jn {d:Nat→Int} (h: ∀ i,0≤d i): ∀ n,d 0≤aR d (n+1)
 | 0=> by simp [aR]
 | n+1=> by
   have:=Jn h n
   have h2:0≤d (n+1)*2^(32*(n+1)):=Int.mul_nonneg (h _) (Int.le_of_lt (Int.pow_pos (by decide)))
   rw [aR]
   omega

theorem RInv.step {N:Int} {k:Nat} {d:Nat→Int} (h:RInv N k d):RInv N (k+1) (og d):=by
 obtain ⟨h0,hs,hc0,hc1,hsum,hsum2,he0,he1⟩:=Oo fun i hi=> ⟨(h.x8 i hi).1,by have:=(h.x8 i hi).2; omega⟩
 have hr: ∀ i,0≤q9 d i∧q9 d i<4294967296:=fun i=> vB i
 refine ⟨?_,?_,?_,?_⟩
 · intro i _
   by_cases hi:i=0
   · subst hi
     rw [h0]
     have:=hr 0
     clear hsum hsum2 he1
     omega
   · rw [hs i (by omega)]
     have:=hr i
     omega
 · rw [← h.val,← hsum]
   generalize aR (og d) 8=s
   generalize yQ d 8=c
   have e:(115792089237316195423570985008687907853269984665640564039457584007913129639898:Int)=57896044618658097711785492504343953926634992332820282019728792003956564819949*2:=by decide
   rw [e,← Int.mul_assoc,Int.mul_comm c,Int.mul_assoc,Int.add_mul_emod_self_left]
 · intro _
   refine ⟨fun i hi _=> ?_,?_⟩
   · rw [hs i hi]; exact (hr i).2
   · rw [hsum2]
     clear hsum hsum2
     omega
 · intro hk i _
   by_cases hi:i=0
   · subst hi
     have h1:=(h.one (by omega)).2
     have hhead:q9 d 0≤aR (q9 d) 8:=Jn (d:=q9 d) (fun i=> (hr i).1) 7
     rw [h0]
     have hr0:=hr 0
     have hcc:yQ d 8=0∨yQ d 8=1:=by
      rw [hsum2] at hsum
      clear hsum2 h0 hhead
      omega
     rcases hcc with hcc | hcc
     · rw [hcc]; omega
     · rw [hsum2,hcc] at hsum
       rw [hcc]
       clear hsum2 h0
       omega
   · rw [hs i (by omega)]; exact (hr i).2

def jq (d:Nat→Int) (i:Nat):Int:=
 bif Nat.beq i 0 then ak .u64 (d 0+ak .u64 (19*(d 7 / 2147483648))) else bif Nat.beq i 7 then d 7 % 2147483648 else d i

theorem RX {N:Int} {d:Nat→Int} (h:RInv N 2 d):(∀ i,i<8→0≤jq d i∧jq d i<2199023255552)∧
 aR (jq d) 8 % 57896044618658097711785492504343953926634992332820282019728792003956564819949=N % 57896044618658097711785492504343953926634992332820282019728792003956564819949∧
 0≤aR (jq d) 8∧aR (jq d) 8<57896044618658097711785492504343953926634992332820282019728792003956564819987:=by
 have hr: ∀ i,i<8→0≤d i∧d i<4294967296:=fun i hi=> ⟨(h.x8 i hi).1,h.two (by decide) i hi⟩
 have h7:=hr 7 (by decide)
 have h0:=hr 0 (by decide)
 have e0:jq d 0=d 0+19*(d 7 / 2147483648):=by
  show ak .u64 (d 0+ak .u64 (19*(d 7 / 2147483648)))=_
  simp only [ak]
  omega
 have e7:jq d 7=d 7 % 2147483648:=rfl
 have es: ∀ i,0<i→i≠7→jq d i=d i:=by
  intro i hi h7
  show (bif Nat.beq i 0 then _ else bif Nat.beq i 7 then _ else _)=_
  rw [alb hi]
  have:Nat.beq i 7=false:=by
   cases hb:Nat.beq i 7
   · rfl
   · exact absurd (Nat.eq_of_beq_eq_true hb) h7
  rw [this]; rfl
 have hsum:aR (jq d) 8=aR d 8 - (d 7 / 2147483648)*57896044618658097711785492504343953926634992332820282019728792003956564819949:=by
  have s7:aR (jq d) 7=aR d 7+19*(d 7 / 2147483648):=by
   have:=Bo (d:=fun i=> bif Nat.beq i 7 then 0 else d i) (e:=fun i=> bif Nat.beq i 7 then 0 else jq d i) (x:=19*(d 7 / 2147483648)) (by show jq d 0=d 0+19*(d 7 / 2147483648); exact e0) (fun i hi=> by
    by_cases h7:i=7
    · subst h7; rfl
    · have:Nat.beq i 7=false:=by
       cases hb:Nat.beq i 7
       · rfl
       · exact absurd (Nat.eq_of_beq_eq_true hb) h7
      simp only [this,cond_false]
      exact es i hi h7) 6
   have c1:aR (fun i=> bif Nat.beq i 7 then 0 else jq d i) 7=aR (jq d) 7:=jZ 7 fun i hi=> by
    have:Nat.beq i 7=false:=by
     cases hb:Nat.beq i 7
     · rfl
     · exact absurd (Nat.eq_of_beq_eq_true hb) (by omega)
    simp only [this,cond_false]
   have c2:aR (fun i=> bif Nat.beq i 7 then 0 else d i) 7=aR d 7:=jZ 7 fun i hi=> by
    have:Nat.beq i 7=false:=by
     cases hb:Nat.beq i 7
     · rfl
     · exact absurd (Nat.eq_of_beq_eq_true hb) (by omega)
    simp only [this,cond_false]
   rw [← c1,← c2]
   exact this
  have p1:aR (jq d) 8=aR (jq d) 7+jq d 7*2^(32*7):=rfl
  have p2:aR d 8=aR d 7+d 7*2^(32*7):=rfl
  have hp:(2:Int)^(32*7)=26959946667150639794667015087019630673637144422540572481103610249216:=by decide
  rw [p1,p2,s7,e7,hp]
  clear p1 p2 s7 hp es h hr
  omega
 have hlow:0≤aR d 7∧aR d 7<26959946667150639794667015087019630673637144422540572481103610249216:=by
  have:=jM (d:=d) 7 (fun i hi=> hr i (by omega))
  have hp:(2:Int)^(32*7)=26959946667150639794667015087019630673637144422540572481103610249216:=by decide
  rw [hp] at this
  exact this
 have hd:aR d 8=aR d 7+d 7*26959946667150639794667015087019630673637144422540572481103610249216:=by
  have p2:aR d 8=aR d 7+d 7*2^(32*7):=rfl
  have hp:(2:Int)^(32*7)=26959946667150639794667015087019630673637144422540572481103610249216:=by decide
  rw [p2,hp]
 refine ⟨?_,?_,?_⟩
 · intro i hi
   by_cases hi0:i=0
   · subst hi0; rw [e0]; omega
   · by_cases hi7:i=7
     · subst hi7; rw [e7]; omega
     · rw [es i (by omega) hi7]
       have:=hr i hi
       omega
 · rw [← h.val,hsum,Int.sub_mul_emod_self_right]
 · rw [hsum,hd]
   clear hsum hd es hr h e0 e7
   omega

def Bl (i:Int):Int:=bif decide (i=0) then 4294967277 else bif decide (i=7) then 2147483647 else 4294967295
def eY (i:Nat):Int:=Bl (i:Int)
theorem xW (i:Nat):0≤eY i∧eY i<4294967296:=by
 unfold eY Bl
 cases decide ((i:Int)=0)<;> cases decide ((i:Int)=7)<;> simp
theorem xX:aR eY 8=57896044618658097711785492504343953926634992332820282019728792003956564819949:=by decide+kernel

theorem agN {d q:Nat→Int} {m:Nat} (hd: ∀ i,i<m+1→0≤d i∧d i<4294967296) (hq: ∀ i,i<m+1→0≤q i∧q i<4294967296):
 (aR d (m+1)<aR q (m+1))↔(d m<q m∨(d m=q m∧aR d m<aR q m)):=by
 obtain ⟨h1,h2⟩:=jM m (fun i hi=> hd i (by omega))
 obtain ⟨h3,h4⟩:=jM m (fun i hi=> hq i (by omega))
 rw [aR,aR]
 have hpos:(0:Int)<2^(32*m):=Int.pow_pos (by decide)
 generalize (2:Int)^(32*m)=P at*
 constructor
 · intro h
   rcases Int.lt_trichotomy (d m) (q m) with hlt | heq | hgt
   · exact .inl hlt
   · rw [heq] at h; exact .inr ⟨heq,by omega⟩
   · exfalso
     have:(q m+1)*P≤d m*P:=Int.mul_le_mul_of_nonneg_right (by omega) (by omega)
     rw [Int.add_mul,Int.one_mul] at this
     omega
 · rintro (h | ⟨h,h'⟩)
   · have:(d m+1)*P≤q m*P:=Int.mul_le_mul_of_nonneg_right (by omega) (by omega)
     rw [Int.add_mul,Int.one_mul] at this
     omega
   · rw [h]; omega

def fn8 (a b c d e f g h:Int):Nat→Int
 | 0=> a | 1=> b | 2=> c | 3=> d | 4=> e | 5=> f | 6=> g | 7=> h | _=> 0
noncomputable def BF:Int→Int→Int→Int→Int→Int→Int→Int→Int:=aA fun a b c d e f g h=> aR (fn8 a b c d e f g h) 8
theorem Mh (a b c d e f g h:Int):BF a b c d e f g h=aR (fn8 a b c d e f g h) 8:=by unfold BF; rw [aO]
theorem wy (d:Nat→Int):BF (d 0) (d 1) (d 2) (d 3) (d 4) (d 5) (d 6) (d 7)=aR d 8:=by
 rw [Mh]; rfl
noncomputable def Zn:Int→Bool:=aA fun s=> decide (s<57896044618658097711785492504343953926634992332820282019728792003956564819949)
theorem Lc (s:Int):Zn s=decide (s<57896044618658097711785492504343953926634992332820282019728792003956564819949):=by unfold Zn; rw [aO]
noncomputable def iM:Int→Bool:=aA fun s=> decide (s<4294967296)
theorem Ld (s:Int):iM s=decide (s<4294967296):=by unfold iM; rw [aO]
noncomputable def bV:Int→Bool:=aA fun s=> decide (s<1099511627776)
theorem vO (s:Int):bV s=decide (s<1099511627776):=by unfold bV; rw [aO]
noncomputable def Br:Int→Nat:=aA fun s=> (s % 57896044618658097711785492504343953926634992332820282019728792003956564819949).toNat
theorem vW (s:Int):Br s=(s % 57896044618658097711785492504343953926634992332820282019728792003956564819949).toNat:=by unfold Br; rw [aO]
end Vx

/-
  Digits less the digits of p; digits of a sum of digits. No program stands in it.
-/
namespace Vx
open Go

def M3 (d:Nat→Int):Nat→Int
 | 0=> 0
 | i+1=> ak .u64 (1 - ak .u64 (ak .u64 (ak .u64 (4294967296+d i) - eY i) - M3 d i) / 4294967296)
def oAt (d:Nat→Int) (i:Nat):Int:=ak .u64 (ak .u64 (ak .u64 (4294967296+d i) - eY i) - M3 d i) % 4294967296

theorem borrow {d:Nat→Int} {m:Nat} (h: ∀ i,i<m→0≤d i∧d i<4294967296): ∀ i,i≤m→
 0≤M3 d i∧M3 d i≤1∧aR (oAt d) i+aR eY i=aR d i+M3 d i*2^(32*i)
 | 0,_=> by simp [M3,aR]
 | i+1,hi=> by
   obtain ⟨h1,h2,h3⟩:=borrow h i (by omega)
   obtain ⟨h4,h5⟩:=h i (by omega)
   obtain ⟨h6,h7⟩:=xW i
   have hw:ak .u64 (ak .u64 (ak .u64 (4294967296+d i) - eY i) - M3 d i)=4294967296+d i - eY i - M3 d i:=by
    simp only [ak]; omega
   have ho:oAt d i=(4294967296+d i - eY i - M3 d i) % 4294967296:=by rw [oAt,hw]
   have hb:M3 d (i+1)=1 - (4294967296+d i - eY i - M3 d i) / 4294967296:=by
    rw [M3,hw]
    simp only [ak]; omega
   refine ⟨by rw [hb]; omega,by rw [hb]; omega,?_⟩
   have hs:oAt d i+eY i+M3 d i=d i+M3 d (i+1)*4294967296:=by rw [ho,hb]; omega
   have hp:(2:Int)^(32*(i+1))=4294967296*2^(32*i):=by
    rw [Nat.mul_succ,Int.pow_add,Int.mul_comm]; rfl
   rw [aR,aR.eq_def eY,aR.eq_def d,hp]
   simp only []
   generalize (2:Int)^(32*i)=P at*
   have:oAt d i*P+eY i*P+M3 d i*P=d i*P+M3 d (i+1)*(4294967296*P):=by
    rw [← Int.mul_assoc,← Int.add_mul,← Int.add_mul,← Int.add_mul,hs]
   omega

theorem VT {d:Nat→Int} (i:Nat):0≤oAt d i∧oAt d i<4294967296:=by
 unfold oAt
 exact ⟨Int.emod_nonneg _ (by decide),Int.emod_lt_of_pos _ (by decide)⟩

theorem FU {e:Nat→Int} (h: ∀ i,0≤e i∧e i<4294967296): ∀ m i,i<m→aR e m / 2^(32*i) % 4294967296=e i
 | 0,_,hi=> by omega
 | m+1,i,hi=> by
   by_cases him:i=m
   · subst him
     obtain ⟨h1,h2⟩:=jM (d:=e) i (fun j _=> h j)
     have hpos:(0:Int)<2^(32*i):=Int.pow_pos (by decide)
     rw [aR,Int.add_mul_ediv_right _ _ (by omega),Int.ediv_eq_zero_of_lt h1 h2,Int.zero_add]
     exact Int.emod_eq_of_lt (h i).1 (h i).2
   · have ih:=FU h m i (by omega)
     have hpos:(0:Int)<2^(32*i):=Int.pow_pos (by decide)
     have hp:(2:Int)^(32*m)=(4294967296*2^(32*(m - i - 1)))*2^(32*i):=by
      have:32*m=32+32*(m - i - 1)+32*i:=by omega
      rw [this,Int.pow_add,Int.pow_add]; rfl
     rw [aR,hp,← Int.mul_assoc,Int.add_mul_ediv_right _ _ (by omega),← Int.mul_assoc,Int.mul_comm (e m),Int.mul_assoc,Int.add_mul_emod_self_left]
     exact ih
end Vx

/-
  Sixteen digits to which one digit's multiple of others is added: a round of long multiplication. No program stands in it.
-/
namespace Vx
open Go

def mc (r:Nat→Int) (x:Int) (y:Nat→Int) (i:Nat):Nat→Int
 | 0=> 0
 | k+1=> ak .u64 (ak .u64 (mc r x y i k+r (i+k))+ak .u64 (x*y k)) / 4294967296
def me (r:Nat→Int) (x:Int) (y:Nat→Int) (i k:Nat):Int:=ak .u64 (ak .u64 (mc r x y i k+r (i+k))+ak .u64 (x*y k)) % 4294967296

theorem ahZ {r y:Nat→Int} {x:Int} {i:Nat} (hx:0≤x∧x<4294967296) (hr: ∀ k,0≤r k∧r k<4294967296) (hy: ∀ k,0≤y k∧y k<4294967296): ∀ k,
 0≤mc r x y i k∧mc r x y i k<4294967296∧aR (me r x y i) k+mc r x y i k*2^(32*k)=aR (fun k=> r (i+k)) k+x*aR y k
 | 0=> by simp [mc,aR]
 | k+1=> by
   obtain ⟨h1,h2,h3⟩:=ahZ (i:=i) hx hr hy k
   obtain ⟨h4,h5⟩:=hr (i+k)
   obtain ⟨h6,h7⟩:=hy k
   have hm0:0≤x*y k:=Int.mul_nonneg hx.1 h6
   have hm1:x*y k≤4294967295*4294967295:=Int.mul_le_mul (by omega) (by omega) h6 (by omega)
   have hw:ak .u64 (ak .u64 (mc r x y i k+r (i+k))+ak .u64 (x*y k))=mc r x y i k+r (i+k)+x*y k:=by
    simp only [ak]; omega
   have hc:mc r x y i (k+1)=(mc r x y i k+r (i+k)+x*y k) / 4294967296:=by rw [mc,hw]
   have he:me r x y i k=(mc r x y i k+r (i+k)+x*y k) % 4294967296:=by rw [me,hw]
   refine ⟨by rw [hc]; omega,by rw [hc]; omega,?_⟩
   have hs:me r x y i k+mc r x y i (k+1)*4294967296=mc r x y i k+r (i+k)+x*y k:=by rw [hc,he]; omega
   have hp:(2:Int)^(32*(k+1))=4294967296*2^(32*k):=by
    rw [Nat.mul_succ,Int.pow_add,Int.mul_comm]; rfl
   rw [aR,aR.eq_def (fun k=> r (i+k)),aR.eq_def y,hp]
   simp only []
   generalize (2:Int)^(32*k)=P at*
   have:me r x y i k*P+mc r x y i (k+1)*(4294967296*P)=mc r x y i k*P+r (i+k)*P+x*(y k*P):=by
    rw [← Int.mul_assoc,← Int.add_mul,hs,Int.add_mul,Int.add_mul,Int.mul_assoc x]
   rw [Int.mul_add]
   omega

def ky (r:Nat→Int) (x:Int) (y:Nat→Int) (i j:Nat):Int:=
 bif Nat.blt j i then r j else bif Nat.blt j (i+8) then me r x y i (j - i) else bif Nat.beq j (i+8) then mc r x y i 8 else r j

theorem su (r:Nat→Int) (i:Nat): ∀ k,aR r (i+k)=aR r i+2^(32*i)*aR (fun k=> r (i+k)) k
 | 0=> by simp [aR]
 | k+1=> by
   have e1:aR (fun k=> r (i+k)) (k+1)=aR (fun k=> r (i+k)) k+r (i+k)*2^(32*k):=rfl
   have e2:aR r (i+(k+1))=aR r (i+k)+r (i+k)*2^(32*(i+k)):=rfl
   have e3:(2:Int)^(32*(i+k))=2^(32*i)*2^(32*k):=by rw [Nat.mul_add,Int.pow_add]
   rw [e2,e1,su r i k,e3,Int.mul_add,Int.add_assoc]
   congr 2
   rw [← Int.mul_assoc,Int.mul_comm (r (i+k)),Int.mul_assoc]

theorem UL {a b:Nat} (h:a<b):Nat.blt a b=true:=by rw [Nat.blt_eq]; exact h
theorem wV {a b:Nat} (h:b≤a):Nat.blt a b=false:=by
 cases hb:Nat.blt a b
 · rfl
 · rw [Nat.blt_eq] at hb; omega

theorem I6 {r:Nat→Int} {x:Int} {y:Nat→Int} {i j:Nat} (h:j<i):ky r x y i j=r j:=by
 unfold ky; rw [UL h]; rfl
theorem I7 {r:Nat→Int} {x:Int} {y:Nat→Int} {i k:Nat} (h:k<8):ky r x y i (i+k)=me r x y i k:=by
 unfold ky; rw [wV (by omega),UL (by omega),Nat.add_sub_cancel_left]; rfl
theorem I8 {r:Nat→Int} {x:Int} {y:Nat→Int} {i:Nat}:ky r x y i (i+8)=mc r x y i 8:=by
 unfold ky; rw [wV (by omega),wV (by omega),Nat.beq_refl]; rfl
theorem Fg {r:Nat→Int} {x:Int} {y:Nat→Int} {i j:Nat} (h:i+8<j):ky r x y i j=r j:=by
 unfold ky; rw [wV (by omega),wV (by omega)]
 have:Nat.beq j (i+8)=false:=by
  cases hb:Nat.beq j (i+8)
  · rfl
  · have:=Nat.eq_of_beq_eq_true hb; omega
 rw [this]; rfl

structure MInv (x y:Nat→Int) (i:Nat) (r:Nat→Int):Prop where
 x8: ∀ j,0≤r j∧r j<4294967296
 zero: ∀ j,i+8≤j→r j=0
 val:aR r (i+8)=aR x i*aR y 8

theorem MInv.step {x y:Nat→Int} {i:Nat} {r:Nat→Int} (hx: ∀ k,0≤x k∧x k<4294967296) (hy: ∀ k,0≤y k∧y k<4294967296) (h:MInv x y i r):MInv x y (i+1) (ky r (x i) y i):=by
 have hp:=fun k=> ahZ (i:=i) (hx i) h.x8 hy k
 have hme: ∀ k,0≤me r (x i) y i k∧me r (x i) y i k<4294967296:=fun k=> by
  unfold me
  exact ⟨Int.emod_nonneg _ (by decide),Int.emod_lt_of_pos _ (by decide)⟩
 refine ⟨?_,?_,?_⟩
 · intro j
   by_cases h1:j<i
   · rw [I6 h1]; exact h.x8 j
   · by_cases h2:j<i+8
     · obtain ⟨k,rfl⟩: ∃ k,j=i+k:=⟨j - i,by omega⟩
       rw [I7 (by omega)]; exact hme k
     · by_cases h3:j=i+8
       · subst h3; rw [I8]; exact ⟨(hp 8).1,(hp 8).2.1⟩
       · rw [Fg (by omega)]; exact h.x8 j
 · intro j hj
   rw [Fg (by omega)]
   exact h.zero j (by omega)
 · have e1:aR (ky r (x i) y i) (i+1+8)=aR (ky r (x i) y i) (i+8)+mc r (x i) y i 8*2^(32*(i+8)):=by
    rw [show i+1+8=(i+8)+1 from by omega,aR,I8]
   have e2:aR (ky r (x i) y i) (i+8)=aR r i+2^(32*i)*aR (me r (x i) y i) 8:=by
    rw [su,jZ i (fun j hj=> I6 hj),jZ 8 (fun k hk=> I7 hk)]
   have e3:=h.val
   rw [su] at e3
   have e4:=(hp 8).2.2
   have e5:(2:Int)^(32*(i+8))=2^(32*i)*2^(32*8):=by rw [Nat.mul_add,Int.pow_add]
   have e6:aR x (i+1)=aR x i+x i*2^(32*i):=rfl
   rw [e1,e2,e5,e6,Int.add_mul,← e3]
   generalize (2:Int)^(32*i)=P at*
   have e7:P*aR (me r (x i) y i) 8+mc r (x i) y i 8*(P*2^(32*8))=P*(aR (fun k=> r (i+k)) 8+x i*aR y 8):=by
    rw [← e4,Int.mul_add,← Int.mul_assoc (mc r (x i) y i 8),Int.mul_comm (mc r (x i) y i 8),Int.mul_assoc]
   have e8:x i*P*aR y 8=P*(x i*aR y 8):=by rw [Int.mul_comm (x i),Int.mul_assoc]
   rw [Int.add_assoc,e7,e8,Int.mul_add,Int.add_assoc]
end Vx
