/-
  What tokens and cards are: their numbers, points, equations.
-/
import Derived.Test.YtcgmcohkkigphaaGreatLb106
import Derived.Test.YtcgmcohkkigphaaGreatLb87
namespace Go.Proofs.YtcgmcohkkigphaaGreat
open Go Vx Go.RowKit

abbrev Ui:Ty:= .ag [.pk .u8 8 16, .int .u32]
abbrev Aw (i:Nat) (d:Int):V:= .ag (.ps [.pk .u8 8 16 i, .int .u32 d])
abbrev tid:Ty:= .ag [.pk .u8 8 16]
abbrev Yh (i:Nat):V:= .ag (.ps [.pk .u8 8 16 i])
abbrev al3:Ty:= .ag [.pk .u8 8 32, .pk .u8 8 32, .pk .u8 8 32, .sl [.pk .u8 8 32]]
abbrev ahm (u v c:Nat) (s:List (List D)):V:= .ag (.ps [.pk .u8 8 32 u, .pk .u8 8 32 v, .pk .u8 8 32 c, .rd [.pk .u8 8 32] s])
theorem zL (b:Nat): ∀ (l m:List Nat),cO b (l++m)=cO b l+2^(b*l.length)*cO b m
 | [],m=> by rw [List.nil_append,List.length_nil,Nat.mul_zero,Nat.pow_zero,Nat.one_mul]; exact (Nat.zero_add _).symm
 | d::l,m=> by
   rw [List.cons_append,cO,zL b l m,cO,List.length_cons,Nat.mul_succ,Nat.mul_add,Nat.pow_add]
   ac_rfl
theorem o8: ∀ n,cO 8 (List.replicate n 0)=0
 | 0=> rfl
 | n+1=> by rw [List.replicate_succ,cO,o8 n]
def Cy (n c:Nat):List Nat:=(List.range c).map (digit 8 n)
noncomputable def mQ:Nat→Nat:=aA fun i=> cO 8 (Cy i 16++(1::List.replicate 15 0))
theorem Lp (i:Nat):mQ i=cO 8 (Cy i 16++(1::List.replicate 15 0)):=by unfold mQ; rw [aO]
theorem IJ {n c:Nat} (h:n<2^(8*c)):cO 8 (Cy n c)=n:=by
 unfold Cy
 rw [List.range_eq_range',kR,Nat.mul_zero,Nat.pow_zero,Nat.div_one,Nat.mod_eq_of_lt h]
theorem Np (n c:Nat):(Cy n c).length=c:=by unfold Cy; rw [List.length_map,List.length_range]
theorem Lr {i:Nat} (h:i<2^128):mQ i=i+2^128:=by
 rw [Lp,zL,IJ (c:=16) h,Np,cO,o8]
theorem ny {i:Nat} (h:i<2^128):bU (mQ i)=true:=oW.2 (by rw [Lr h]; unfold lP; omega)
noncomputable def qj:Int→Nat:=aA Int.toNat
theorem yT (d:Int):qj d=d.toNat:=by unfold qj; rw [aO]
theorem yU {d:Int} (h:jm .u32 d=true):bU (qj d)=true:=by
 rw [yT]
 simp only [jm,Bool.and_eq_true,decide_eq_true_eq] at h
 exact oW.2 (by unfold lP; omega)
noncomputable def pK:Nat→Nat→Nat:=aA fun i c=> cO 8 (0::(Cy i 16++(c % 256::List.replicate 14 0)))
theorem Kz (i c:Nat):pK i c=cO 8 (0::(Cy i 16++(c % 256::List.replicate 14 0))):=by unfold pK; rw [aO]
theorem U8 {i c:Nat} (h:i<2^128) (hc:c<256):pK i c=256*(i+2^128*c):=by
 rw [Kz,cO,zL,IJ (c:=16) h,Np,cO,o8,Nat.mod_eq_of_lt hc]
 show 0+2^8*(i+2^(8*16)*(c+2^8*0))=_
 rw [Nat.mul_zero,Nat.add_zero,Nat.zero_add]
noncomputable abbrev Eu (i c:Nat):Bool:=bif !zB (pK i c) then aJ (pK i c) else false
noncomputable def uh (i:Nat):Nat→Nat→Option Nat
 | 0,_=> none
 | n+1,c=> bif Eu i c then some c else uh i n (c+1)
noncomputable def dW:Nat→Nat:=aA fun i=> match uh i 256 0 with
 | some c=> pK i c
 | none=> 0
noncomputable def gT:Nat→Int:=aA fun i=> match uh i 256 0 with
 | some _=> 0
 | none=> 7
theorem Ky (i:Nat):dW i=match uh i 256 0 with
 | some c=> pK i c
 | none=> 0:=by unfold dW; rw [aO]
theorem CX (i:Nat):gT i=match uh i 256 0 with
 | some _=> 0
 | none=> 7:=by unfold gT; rw [aO]
theorem IM {i:Nat}: ∀ {n c r:Nat},uh i n c=some r→Eu i r=true∧c≤r∧r<c+n
 | 0,_,_,h=> by cases h
 | n+1,c,r,h=> by
   unfold uh at h
   cases hk:Eu i c with
   | true=>
     rw [hk,cond_true] at h
     cases h
     exact ⟨hk,Nat.le_refl _,by omega⟩
   | false=>
     rw [hk,cond_false] at h
     obtain ⟨h1,h2,h3⟩:=IM h
     exact ⟨h1,by omega,by omega⟩
theorem rF (i:Nat):(gT i=0∧ ∃ c,c<256∧dW i=pK i c∧dW i≠0∧aJ (dW i)=true)∨(gT i=7∧dW i=0):=by
 rw [CX,Ky]
 cases h:uh i 256 0 with
 | none=> exact .inr ⟨rfl,rfl⟩
 | some r=>
   obtain ⟨h1,_,h3⟩:=IM h
   refine .inl ⟨rfl,r,by omega,rfl,?_⟩
   unfold Eu at h1
   cases hz:zB (pK i r) with
   | true=> rw [hz] at h1; cases h1
   | false=>
     rw [hz] at h1
     exact ⟨fun e=> (by rw [oz.2 e] at hz; cases hz),h1⟩
noncomputable abbrev Li (a b:Nat):Nat:=bif bU a && bU b then aW (aW a*aW b) else 0
noncomputable abbrev ZE (a b:Nat):Nat:=bif bU a && bU b then aW (aW a+aW b) else 0
theorem vR {a b:Nat} (ha:bU a=true) (hb:bU b=true):Li a b=a*b % lP:=by unfold Li; rw [ha,hb,gG ha,gG hb,kz]; rfl
theorem zN {a b:Nat} (ha:bU a=true) (hb:bU b=true):ZE a b=(a+b) % lP:=by unfold ZE; rw [ha,hb,gG ha,gG hb,kz]; rfl
theorem vS {a b:Nat} (ha:bU a=true) (hb:bU b=true):bU (Li a b)=true:=by rw [vR ha hb]; exact Dj _
theorem Wi {a b:Nat} (ha:bU a=true) (hb:bU b=true):bU (ZE a b)=true:=by rw [zN ha hb]; exact Dj _
noncomputable abbrev ng (u x y z i:Nat) (d:Int):Nat:=fH [[.n x, .n u],[.n (Li y (mQ i)), .n u],[.n (Li z (qj d)), .n u]]
noncomputable abbrev aho (x y z i:Nat) (d:Int):Nat:=ZE x (ZE (Li y (mQ i)) (Li z (qj d)))
noncomputable abbrev mZ (u x y z w i q:Nat):Nat:=fH [[.n x, .n u],[.n (Li y (mQ i)), .n u],[.n z, .n q],[.n w, .n bN]]
theorem Yi {x y z i:Nat} {d:Int} (hx:bU x=true) (hy:bU y=true) (hz:bU z=true) (hi:i<2^128) (hd:jm .u32 d=true):
 aho x y z i d=(x+(y*mQ i+z*qj d)) % lP∧bU (aho x y z i d)=true:=by
 have h1:=vS hy (ny hi)
 have h2:=vS hz (yU hd)
 have h3:=Wi h1 h2
 refine ⟨?_,Wi hx h3⟩
 unfold aho
 rw [zN hx h3,zN h1 h2,vR hy (ny hi),vR hz (yU hd)]
 simp only [Nat.add_mod,Nat.mod_mod]
theorem UX {u x y z i:Nat} {d:Int} {U:E} (hx:bU x=true) (hy:bU y=true) (hz:bU z=true) (hi:i<2^128) (hd:jm .u32 d=true) (hu:Pt u U):
 Pt (ng u x y z i d) (E.mul (aho x y z i d) U):=by
 have h1:=vS hy (ny hi)
 have h2:=vS hz (yU hd)
 have h:=(sG (.cons hx hu (.cons h1 hu (.cons h2 hu .nil))) (show 3≤64 by decide)).2
 rw [E.add_zero,← E.add_mul,← E.add_mul] at h
 refine h.mod hu.1 ?_
 rw [(Yi hx hy hz hi hd).1,Nat.mod_mod,vR hy (ny hi),vR hz (yU hd)]
 simp only [Nat.add_mod,Nat.mod_mod]
theorem UW {u x y z w i q:Nat} {U Q:E} (hx:bU x=true) (hy:bU y=true) (hz:bU z=true) (hw:bU w=true) (hi:i<2^128) (hu:Pt u U) (hq:Pt q Q):
 Pt (mZ u x y z w i q) (E.mul (ZE x (Li y (mQ i))) U+(E.mul z Q+E.mul w bE)):=by
 have h1:=vS hy (ny hi)
 have h:=(sG (.cons hx hu (.cons h1 hu (.cons hz hq (.cons hw mR .nil)))) (show 4≤64 by decide)).2
 rw [E.add_zero,← E.add_assoc,← E.add_mul] at h
 refine h.co (tZ (rC hu.1 ?_) (kK _))
 rw [zN hx h1,Nat.mod_mod]
abbrev lQ:ByteArray:=⟨#[118,101,115,116,114,121,32,103,114,97,110,116]⟩
abbrev qI:ByteArray:=⟨#[118,101,115,116,114,121,32,99,97,114,100]⟩
noncomputable abbrev Ve (v u i:Nat) (d:Int) (h x y z:Nat):List (List D):= [[.n v, .l [[.i 0, .n u],[.i 2, .n (aI (mQ i) u)],[.i 3, .n (aI (qj d) u)]]],[.n x, .l [[.i 0, .n bN],[.i 1, .n h]]],[.n y, .l [[.i 2, .n h]]],[.n z, .l [[.i 3, .n h]]]]
noncomputable abbrev Vd (v u i q h x y z w:Nat):List (List D):= [[.n v, .l [[.i 0, .n u],[.i 2, .n (aI (mQ i) u)],[.i 3, .n q],[.i 4, .n bN]]],[.n x, .l [[.i 0, .n bN],[.i 1, .n h]]],[.n y, .l [[.i 2, .n h]]],[.n z, .l [[.i 3, .n h]]],[.n w, .l [[.i 4, .n h]]]]
theorem aaM {a b c d:Nat} (ha:bU a=true) (hb:bU b=true) (hc:bU c=true) (hd:bU d=true):dK [[.n a],[.n b],[.n c],[.n d]]=true:=by
 show (bif !bU a then false else bif !bU b then false else bif !bU c then false else bif !bU d then false else true)=true
 rw [ha,hb,hc,hd]; rfl
theorem aaN {a b c d e:Nat} (ha:bU a=true) (hb:bU b=true) (hc:bU c=true) (hd:bU d=true) (he:bU e=true):dK [[.n a],[.n b],[.n c],[.n d],[.n e]]=true:=by
 show (bif !bU a then false else bif !bU b then false else bif !bU c then false else bif !bU d then false else bif !bU e then false else true)=true
 rw [ha,hb,hc,hd,he]; rfl
theorem ahT {u eta x b y z i:Nat} {d:Int} {l:List (List D)} {U:E} (he:bU eta=true) (hx:bU x=true) (hb:bU b=true) (hy:bU y=true) (hz:bU z=true) (hi:i<2^128) (hd:jm .u32 d=true) (hu:Pt u U) (hl:l.length=4) (ha:dK l=true):
 Bn lQ (Ve (ng u x y z i d) u i d (aI eta bN) (nk x b (aI eta bN)) (aI y (aI eta bN)) (aI z (aI eta bN))) [[.n x],[.n b],[.n y],[.n z]] l=0:=by
 have hH:=fP he mR
 have hV:=UX hx hy hz hi hd hu
 have hm:=fP (ny hi) hu
 have hD:=fP (yU hd) hu
 have h5:qG (Ve (ng u x y z i d) u i d (aI eta bN) (nk x b (aI eta bN)) (aI y (aI eta bN)) (aI z (aI eta bN)))=true:=by
  show (bif !aJ (ng u x y z i d) then false else bif !(bif !aJ u then false else bif !aJ (aI (mQ i) u) then false else bif !aJ (aI (qj d) u) then false else true) then false else
   bif !aJ (nk x b (aI eta bN)) then false else bif !(bif !aJ bN then false else bif !aJ (aI eta bN) then false else true) then false else
   bif !aJ (aI y (aI eta bN)) then false else bif !(bif !aJ (aI eta bN) then false else true) then false else bif !aJ (aI z (aI eta bN)) then false else bif !(bif !aJ (aI eta bN) then false else true) then false else true)=true
  rw [hV.dec.1,hu.dec.1,hm.dec.1,hD.dec.1,(Lg hx hb hH).dec.1,mR.dec.1,hH.dec.1,(fP hy hH).dec.1,(fP hz hH).dec.1]; rfl
 rw [Wm (s:= [[.n x],[.n b],[.n y],[.n z]]) rfl hl (aaM hx hb hy hz) ha h5]
 have e1:fH [[.n x, .n u],[.n y, .n (aI (mQ i) u)],[.n z, .n (aI (qj d) u)]]=ng u x y z i d:=by
  refine (sG (.cons hx hu (.cons hy hm (.cons hz hD .nil))) (show 3≤64 by decide)).2.eq hV ?_
  rw [E.add_zero,← E.iU,← E.iU,← E.add_mul,← E.add_mul]
  refine rC hu.1 ?_
  rw [(Yi hx hy hz hi hd).1,Nat.mod_mod,Nat.mul_comm y,Nat.mul_comm z]
 show (bif !(bif !decide (fH [[.n x, .n u],[.n y, .n (aI (mQ i) u)],[.n z, .n (aI (qj d) u)]]=ng u x y z i d) then false else bif !decide (nk x b (aI eta bN)=nk x b (aI eta bN)) then false else
  bif !decide (aI y (aI eta bN)=aI y (aI eta bN)) then false else bif !decide (aI z (aI eta bN)=aI z (aI eta bN)) then false else true) then (110:Int) else 0)=0
 rw [e1,decide_eq_true rfl,decide_eq_true rfl,decide_eq_true rfl,decide_eq_true rfl]
 rfl
theorem ahS {u eta x b y z w i q:Nat} {l:List (List D)} {U Q:E} (he:bU eta=true) (hx:bU x=true) (hb:bU b=true) (hy:bU y=true) (hz:bU z=true) (hw:bU w=true) (hi:i<2^128) (hu:Pt u U) (hq:Pt q Q) (hl:l.length=5) (ha:dK l=true):
 Bn qI (Vd (mZ u x y z w i q) u i q (aI eta bN) (nk x b (aI eta bN)) (aI y (aI eta bN)) (aI z (aI eta bN)) (aI w (aI eta bN))) [[.n x],[.n b],[.n y],[.n z],[.n w]] l=0:=by
 have hH:=fP he mR
 have hV:=UW hx hy hz hw hi hu hq
 have hm:=fP (ny hi) hu
 have h5:qG (Vd (mZ u x y z w i q) u i q (aI eta bN) (nk x b (aI eta bN)) (aI y (aI eta bN)) (aI z (aI eta bN)) (aI w (aI eta bN)))=true:=by
  show (bif !aJ (mZ u x y z w i q) then false else bif !(bif !aJ u then false else bif !aJ (aI (mQ i) u) then false else bif !aJ q then false else bif !aJ bN then false else true) then false else
   bif !aJ (nk x b (aI eta bN)) then false else bif !(bif !aJ bN then false else bif !aJ (aI eta bN) then false else true) then false else
   bif !aJ (aI y (aI eta bN)) then false else bif !(bif !aJ (aI eta bN) then false else true) then false else bif !aJ (aI z (aI eta bN)) then false else bif !(bif !aJ (aI eta bN) then false else true) then false else
   bif !aJ (aI w (aI eta bN)) then false else bif !(bif !aJ (aI eta bN) then false else true) then false else true)=true
  rw [hV.dec.1,hu.dec.1,hm.dec.1,hq.dec.1,(Lg hx hb hH).dec.1,mR.dec.1,hH.dec.1,(fP hy hH).dec.1,(fP hz hH).dec.1,(fP hw hH).dec.1]; rfl
 rw [Wm (s:= [[.n x],[.n b],[.n y],[.n z],[.n w]]) rfl hl (aaN hx hb hy hz hw) ha h5]
 have e1:fH [[.n x, .n u],[.n y, .n (aI (mQ i) u)],[.n z, .n q],[.n w, .n bN]]=mZ u x y z w i q:=by
  refine (sG (.cons hx hu (.cons hy hm (.cons hz hq (.cons hw mR .nil)))) (show 4≤64 by decide)).2.eq hV ?_
  rw [E.add_zero,← E.iU,← E.add_assoc,← E.add_mul]
  refine tZ (rC hu.1 ?_) (kK _)
  rw [zN hx (vS hy (ny hi)),vR hy (ny hi),Nat.mod_mod,Nat.mul_comm y,Nat.add_mod_mod]
 show (bif !(bif !decide (fH [[.n x, .n u],[.n y, .n (aI (mQ i) u)],[.n z, .n q],[.n w, .n bN]]=mZ u x y z w i q) then false else bif !decide (nk x b (aI eta bN)=nk x b (aI eta bN)) then false else
  bif !decide (aI y (aI eta bN)=aI y (aI eta bN)) then false else bif !decide (aI z (aI eta bN)=aI z (aI eta bN)) then false else bif !decide (aI w (aI eta bN)=aI w (aI eta bN)) then false else true) then (110:Int) else 0)=0
 rw [e1,decide_eq_true rfl,decide_eq_true rfl,decide_eq_true rfl,decide_eq_true rfl,decide_eq_true rfl]
 rfl
end Go.Proofs.YtcgmcohkkigphaaGreat
