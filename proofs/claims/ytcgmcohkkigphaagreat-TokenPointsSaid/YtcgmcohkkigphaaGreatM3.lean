/-
  The document's root is the root. No program stands in it.
-/
import Derived.Test.YtcgmcohkkigphaaGreatM1
import Derived.Test.YtcgmcohkkigphaaGreatM2
import Derived.Test.YtcgmcohkkigphaaGreatU2
namespace Vx

def e3K:Nat:=7237005577332262213973186563042994240829374041602535252466099000494570602494
theorem ajd:e3K+e3K=eR2+1:=by decide+kernel
theorem ajc:e3K=eR+1:=by decide+kernel

def rxE (e:Nat) (w:K):K:=bif decide (w^e*w^e=w) then w^e else w^e*kI

theorem akj {e q r h:Nat} (h1:e+e=q+1) (h2:q+q=h) (h3:e=r+1) (hS: ∀ {w:K},w≠0→(Sq w↔w^h=1)) (w:K):rxE e w*rxE e w=w↔Sq w:=by
 refine ⟨fun h=> ⟨_,h⟩,fun hs=> ?_⟩
 unfold rxE
 cases hd:decide (w^e*w^e=w) with
 | true=> exact of_decide_eq_true hd
 | false=>
   have hne:=of_decide_eq_false hd
   simp only [cond_false]
   have hw:w≠0:=by
    rintro rfl
    apply hne
    rw [h3,K.pow_succ]
    generalize (0:K)^r=x
    grind
   have h4:w^e*w^e=w^q*w:=by rw [← K.pow_add,h1,K.pow_succ]
   have h5:w^q*w^q=1*1:=by rw [← K.pow_add,h2,(hS hw).1 hs]; grind
   rw [h4] at hne
   generalize w^e=a at*
   generalize w^q=s at*
   have hi:=oQ
   rcases K.Cq h5 with h6 | h6
   · exact absurd (by rw [h6]; grind) hne
   · rw [h6] at h4
     generalize kI=i at*
     clear hne hd h5 h6
     grind

def rx (w:K):K:=rxE e3K w
theorem alL (w:K):rx w*rx w=w↔Sq w:=akj ajd U5 ajc Sq.iff w

section
variable {f:K→K} (hf: ∀ w,f w*f w=w↔Sq w)

def nR (f:K→K) (u v:K):K:=bif decide (u=0) then 0 else bif decide (v=0) then 0 else bif decide (f (u*ik v)*f (u*ik v)=u*ik v) then (f (u*ik v)).abs else (f (u*ik v*kI)).abs
def nB (f:K→K) (u v:K):Bool:=bif decide (u=0) then true else bif decide (v=0) then false else decide (f (u*ik v)*f (u*ik v)=u*ik v)

include hf in
theorem acd (u v:K):mM u v (nR f u v) (nB f u v):=by
 by_cases hu:u=0
 · have h1:nR f u v=0:=by unfold nR; rw [decide_eq_true hu,cond_true]
   have h2:nB f u v=true:=by unfold nB; rw [decide_eq_true hu,cond_true]
   rw [h1,h2]
   exact ⟨K.Ox,fun _=> by rw [hu]; grind,fun h=> (by cases h),fun _=> rfl,fun _=> rfl,⟨fun _=> .inl hu,fun _=> rfl⟩⟩
 · by_cases hv:v=0
   · have h1:nR f u v=0:=by unfold nR; rw [decide_eq_false hu,decide_eq_true hv,cond_false,cond_true]
     have h2:nB f u v=false:=by unfold nB; rw [decide_eq_false hu,decide_eq_true hv,cond_false,cond_true]
     rw [h1,h2]
     exact ⟨K.Ox,fun h=> (by cases h),fun _ h=> absurd hv h,fun _=> rfl,fun _=> rfl,⟨fun h=> (by cases h),fun h=> h.elim (fun h=> absurd h hu) (fun h=> absurd hv h.1)⟩⟩
   · have hk:=mh hv
     have e1:nR f u v=bif decide (f (u*ik v)*f (u*ik v)=u*ik v) then (f (u*ik v)).abs else (f (u*ik v*kI)).abs:=by unfold nR; rw [decide_eq_false hu,decide_eq_false hv,cond_false,cond_false]
     have e2:nB f u v=decide (f (u*ik v)*f (u*ik v)=u*ik v):=by unfold nB; rw [decide_eq_false hu,decide_eq_false hv,cond_false,cond_false]
     have hw0:u*ik v≠0:=by
      intro h
      apply hu
      have:u=u*ik v*v:=by grind
      rw [this,h]; grind
     have huv:u*v=v*v*(u*ik v):=by grind
     have hvw:v*(u*ik v)=u:=by grind
     rw [e1,e2]
     generalize u*ik v=w at*
     have hS:Sq (u*v)↔Sq w:=by
      rw [huv]
      exact ⟨fun h=> Sq.Fx (K.aZ hv hv) ⟨v,rfl⟩ h,fun h=> Sq.mul ⟨v,rfl⟩ h⟩
     cases hd:decide (f w*f w=w) with
     | true=>
       have h:=of_decide_eq_true hd
       simp only [cond_true]
       refine ⟨K.rf _,fun _=> by rw [K.tL,h]; exact hvw,fun h=> (by cases h),fun h=> absurd h hv,fun h=> absurd h hu,⟨fun _=> .inr ⟨hv,hS.2 ((hf w).1 h)⟩,fun _=> rfl⟩⟩
     | false=>
       have h:=of_decide_eq_false hd
       have hns: ¬ Sq w:=fun hs=> h ((hf w).2 hs)
       have hsi:=(hf (w*kI)).2 (Sq.both hns Zf)
       simp only [cond_false]
       refine ⟨K.rf _,fun h=> (by cases h),fun _ _=> by rw [K.tL,hsi]; grind,fun h=> absurd h hv,fun h=> absurd h hu,⟨fun h=> (by cases h),fun hh=> ?_⟩⟩
       rcases hh with hh | ⟨_,hh⟩
       · exact absurd hh hu
       · exact absurd (hS.1 hh) hns
end
end Vx

/-
  Elements of the group, so many times, four bits at a time. No program stands in it.
-/
namespace Vx

theorem wB {q r:P4} {P Q:E} (h1:fq q P) (h2:fq r Q):fq (Ae q r (bH dP dP)) (P+Q):=by
 have:=yJ h1 h2
 rw [yH] at this
 exact this
theorem X7 {p:P4} {P:E} (h:fq p P): ∀ i,fq (tbl p i) (E.mul i P)
 | 0=> EW
 | i+1=> by rw [tbl,E.mul_succ]; exact wB (X7 h i) h
theorem E.mul_two (n:Nat) (P:E):E.mul n P+E.mul n P=E.mul (2*n) P:=by rw [Nat.two_mul,E.add_mul]
theorem abj {o:P4} {P:E} {n:Nat} (h:fq o (E.mul n P)):fq (abh o) (E.mul (16*n) P):=by
 unfold abh
 have h1:=wB h h
 rw [E.mul_two] at h1
 have h2:=wB h1 h1
 rw [E.mul_two] at h2
 have h3:=wB h2 h2
 rw [E.mul_two] at h3
 have h4:=wB h3 h3
 rw [E.mul_two] at h4
 have e:2*(2*(2*(2*n)))=16*n:=by omega
 rw [e] at h4
 exact h4
theorem X8 {k:Nat} {p:P4} {P:E} (h:fq p P) (hk:k<2^256): ∀ m,m≤64→fq (tmR k p m) (E.mul (k / 2^(4*(64 - m))) P)
 | 0,_=> by
   have:k / 2^(4*(64 - 0))=0:=Nat.div_eq_of_lt hk
   rw [this]
   exact EW
 | m+1,hm=> by
   have h1:=abj (X8 h hk m (by omega))
   have h2:=wB h1 (X7 h (k / 2^(4*(63 - m)) % 16))
   rw [← E.add_mul] at h2
   have e:16*(k / 2^(4*(64 - m)))+k / 2^(4*(63 - m)) % 16=k / 2^(4*(64 - (m+1))):=by
    have e1:4*(64 - m)=4*(63 - m)+4:=by omega
    have e2:64 - (m+1)=63 - m:=by omega
    rw [e1,e2,Nat.pow_add,← Nat.div_div_eq_div_mul]
    generalize k / 2^(4*(63 - m))=q
    rw [show (2:Nat)^4=16 from rfl]
    omega
   rw [e] at h2
   exact h2
theorem akE {k:Nat} {p:P4} {P:E} (h:fq p P) (hk:k<2^256):fq (tmP k p) (E.mul k P):=by
 have:=X8 h hk 64 (Nat.le_refl _)
 rw [ae1]
 rw [Nat.sub_self,Nat.mul_zero,Nat.pow_zero,Nat.div_one] at this
 exact this
end Vx

/-
  Elements as they are encoded: a number stands for points that count as one. No program stands in it.
-/
namespace Vx

theorem exists_rep (P:E): ∃ q,fq q P:=by
 refine ⟨⟨P.x.val,P.y.val,1,(P.x*P.y).val⟩,?_,?_,?_,?_⟩
 · show k 1≠0
   rw [iA]; exact K.jf
 · show k P.x.val=P.x*k 1
   rw [CB,iA]; generalize P.x=a; grind
 · show k P.y.val=P.y*k 1
   rw [CB,iA]; generalize P.y=a; grind
 · show k (P.x*P.y).val=P.x*P.y*k 1
   rw [CB,iA]; generalize P.x*P.y=a; grind

def Pt (n:Nat) (P:E):Prop:=Ev P∧ ∃ q,fq q P∧n=iV q

theorem Pt.of {q:P4} {P:E} (h:fq q P) (e:Ev P):Pt (iV q) P:=⟨e,q,h,rfl⟩
theorem Pt.eq_iff {n m:Nat} {P Q:E} (h:Pt n P) (h':Pt m Q):n=m↔Co P Q:=by
 obtain ⟨e,q,hq,rfl⟩:=h
 obtain ⟨e',q',hq',rfl⟩:=h'
 exact aji hq hq' e e'
theorem Pt.eq {n m:Nat} {P Q:E} (h:Pt n P) (h':Pt m Q) (hc:Co P Q):n=m:=(h.eq_iff h').2 hc
theorem Pt.co {n:Nat} {P Q:E} (h:Pt n P) (hc:Co P Q):Pt n Q:=by
 obtain ⟨q,hq⟩:=exists_rep Q
 have h2:=Pt.of hq (abz hc h.1)
 rw [h.eq h2 hc]
 exact h2
theorem Pt.dec {n:Nat} {P:E} (h:Pt n P):aJ n=true∧ ∃ Q,fq (jD n) Q∧Co P Q∧Ev Q:=by
 obtain ⟨e,q,hq,rfl⟩:=h
 exact afQ hq e
theorem Pt.SE {n:Nat} (h:aJ n=true): ∃ P,fq (jD n) P∧Pt n P:=by
 obtain ⟨P,h1,h2,h3⟩:=Va h
 exact ⟨P,h1,h2,_,h1,h3.symm⟩
theorem Pt.lt {n:Nat} {P:E} (h:Pt n P):n<pP:=by
 obtain ⟨e,q,hq,rfl⟩:=h
 exact (yZ hq e).2
theorem ajj:iV Vt=0:=by rw [Wt]; unfold Vt; decide+kernel
theorem Pt.zero:Pt 0 0:=by
 have:=Pt.of EW za
 rw [ajj] at this
 exact this
theorem Pt.Q0 {n:Nat} {P:E} (h:Pt n P):n=0↔Co P 0:=h.eq_iff Pt.zero
theorem Pt.map (b:Nat): ∃ P,Pt (iV (Wu b)) P:=by
 obtain ⟨P,Q,e1,e2,_,_,h3⟩:=agb b
 exact ⟨P+Q,Pt.of h3 (EH e1 e2)⟩
theorem Pt.mod {n a b:Nat} {P:E} (h:Pt n (E.mul a P)) (e:Ev P) (hab:a % lP=b % lP):Pt n (E.mul b P):=h.co (rC e hab)
end Vx
