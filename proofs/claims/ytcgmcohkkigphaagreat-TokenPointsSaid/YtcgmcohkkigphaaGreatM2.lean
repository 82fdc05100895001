/-
  What an element is encoded as, what is decoded: one canonical point of each coset. No program stands in it.
-/
import Derived.Test.YtcgmcohkkigphaaGreatM1
namespace Vx

structure Can (s:K) (P:E):Prop where
 even:s.odd=false
 xe:P.x.odd=false
 te:(P.x*P.y).odd=false
 y0:P.y≠0
 x0:P.x=0→P.y=1
 ev:Ev P
 eq:s*s*(1+P.y)=1 - P.y

section
variable {n:Nat} [NeZero n] {d x y z w s:Fin n}
theorem c1 (h:s*s*(1+y)=1 - y) (hy:1+y=0):(2:Fin n)*1=0:=by grind
theorem c2 (h:s*s*(1+y)=1 - y):y*(1+s*s)=1 - s*s:=by grind
theorem c3 (h:y*(1+s*s)=1 - s*s) (h2:1+s*s=0):(2:Fin n)*1=0:=by grind
theorem c4 (hy:y=1) (h2: -y=1):(2:Fin n)*1=0:=by grind
end
theorem DF:(2:K)*1≠0:=K.aZ K.yA K.jf
theorem Can.yne {s:K} {P:E} (h:Can s P):1+P.y≠0:=fun e=> DF (c1 h.eq e)
theorem K.zy {a:K} (h:a.odd=false) (h2:(-a).odd=false):a=0:=by
 apply Classical.byContradiction
 intro h0
 rw [K.zx h0,h] at h2
 cases h2

theorem Eb {s s':K} {P P':E} (h:Can s P) (h':Can s' P') (hc:Co P P'):P=P'∧s=s':=by
 have hP:P'=P:=by
  have hte: ∀ Q:E,Q.y*Q.x=P.x*P.y→kI*P.y*(kI*P.x)= -(P.x*P.y):=fun _ _=> by have:=oQ; grind
  have nti: ∀ Q:E,(Q.x*Q.y).odd=false→Q.x*Q.y= -(P.x*P.y)→Q.y≠0→(P.x=0→Q.y=0)→False:=by
   intro Q h1 h2 h3 h4
   rw [h2] at h1
   have:=K.zy h.te h1
   rcases K.dh this with e | e
   · exact h3 (h4 e)
   · exact h.y0 e
  rcases Ni hc with e | e | e | e
  · exact e
  · exfalso
    have hx:P'.x= -P.x:=by rw [e]; rfl
    have hy:P'.y= -P.y:=by rw [e]; rfl
    have h0:P.x=0:=K.zy h.xe (by rw [← hx]; exact h'.xe)
    have h1:=h.x0 h0
    have h2:=h'.x0 (by rw [hx,h0]; decide)
    rw [hy] at h2
    exact DF (c4 h1 h2)
  · exfalso
    have hi:=oQ
    refine nti P' h'.te ?_ h'.y0 ?_
    · rw [e]; show kI*P.y*(kI*P.x)=_; grind
    · intro h0; rw [e]; show kI*P.x=0; grind
  · exfalso
    have hi:=oQ
    refine nti P' h'.te ?_ h'.y0 ?_
    · rw [e]; show -(kI*P.y)* -(kI*P.x)=_; grind
    · intro h0; rw [e]; show -(kI*P.x)=0; grind
 subst hP
 refine ⟨rfl,K.jc h.even h'.even (K.cancel h.yne ?_)⟩
 rw [h.eq,h'.eq]
theorem YG {s:K} {P P':E} (h:Can s P) (h':Can s P'):P=P':=by
 have e1:=c2 h.eq
 have e2:=c2 h'.eq
 have hne:1+s*s≠0:=fun e=> DF (c3 e1 e)
 exact E.jc (K.cancel hne (e1.trans e2.symm)) h.xe h'.xe

/-! Decoding. -/
def tu (s:K):K:= -(kD*((1 - s*s)*(1 - s*s))) - (1+s*s)*(1+s*s)

section
variable {n:Nat} [NeZero n] {d x y z w s u1 u2 v r a:Fin n}
theorem c6 (hr:v*(u2*u2)*(r*r)=1) (hx:x*x=4*z*(r*r)*(u2*u2)) (hy:y=u1*(r*(r*u2)*v)):y*u2=u1∧x*x*v=4*z:=
 ⟨by grobner,by grobner⟩
theorem c7 (hv:v= -(d*((1 - s*s)*(1 - s*s))) - (1+s*s)*(1+s*s)) (h1:y*(1+s*s)=1 - s*s) (h2:x*x*v=4*(s*s)):
 (y*y - x*x)*(v*((1+s*s)*(1+s*s)))=(1+d*x*x*y*y)*(v*((1+s*s)*(1+s*s))):=by
 subst hv
 grobner
theorem c8 (hv:v= -(d*((1 - s*s)*(1 - s*s))) - (1+s*s)*(1+s*s)) (h2:x*x*v=4*(s*s)):(1 - d*(x*x))*v=(-1 - d)*((1+s*s)*(1+s*s)):=by
 subst hv
 grobner
theorem c10 (h1:y*(1+x)=1 - x) (h:x=0):y=1:=by subst h; grobner
theorem c9 (h1:y*(1+s*s)=1 - s*s):s*s*(1+y)=1 - y:=by grobner
end

theorem Nn {s r x y:K} {b:Bool} (he:s.odd=false) (hr:mM 1 (tu s*((1+s*s)*(1+s*s))) r b) (hx:x=((s+s)*(r*(1+s*s))).abs) (hy:y=(1 - s*s)*(r*(r*(1+s*s))*tu s)):
 (b=true∧(x*y).odd=false∧y≠0→ ∃ P:E,P.x=x∧P.y=y∧Can s P)∧(∀ P,Can s P→b=true∧x=P.x∧y=P.y):=by
 have hxx:x*x=4*(s*s)*(r*r)*((1+s*s)*(1+s*s)):=by rw [hx,K.tL]; grobner
 constructor
 · rintro ⟨hb,ht,hy0⟩
   have hr2:=hr.yes hb
   have hv:tu s= -(kD*((1 - s*s)*(1 - s*s))) - (1+s*s)*(1+s*s):=rfl
   generalize tu s=v at*
   have hvne:v*((1+s*s)*(1+s*s))≠0:=fun e=> by
    rw [e] at hr2
    exact K.jf (hr2.symm.trans (by generalize r*r=q; grobner))
   obtain ⟨h1,h2⟩:=c6 hr2 hxx hy
   have on:y*y - x*x=1+kD*x*x*y*y:=K.cancel hvne (c7 hv h1 h2)
   have hsv:Sq v:=by
    have:Sq (v*((1+s*s)*(1+s*s))*(r*r)):=by rw [hr2]; exact Sq.one
    have hrr:r*r≠0:=fun e=> by
     rw [e] at hr2
     exact K.jf (hr2.symm.trans (by generalize v*((1+s*s)*(1+s*s))=q; grobner))
    have h3:=Sq.r9 hrr ⟨r,rfl⟩ this
    have hu:(1+s*s)*(1+s*s)≠0:=fun e=> by
     rw [e] at hvne
     exact hvne (by generalize v=q; grobner)
    exact Sq.r9 hu ⟨_,rfl⟩ h3
   have hv0:v≠0:=fun e=> by
    rw [e] at hvne
    exact hvne (by grobner)
   have hev:Sq (1 - kD*(x*x)):=by
    refine Sq.r9 hv0 hsv ?_
    rw [c8 hv h2]
    exact Sq.mul pz ⟨_,rfl⟩
   refine ⟨⟨x,y,on⟩,rfl,rfl,he,?_,ht,hy0,?_,hev,c9 h1⟩
   · show x.odd=false
     rw [hx]; exact K.rf _
   · intro hx0
     have hx0:x=0:=hx0
     show y=1
     rw [hx0] at h2
     have h4:4*(s*s)=0:=by rw [← h2]; grobner
     have h5:s*s=0:=by
      rcases K.dh h4 with h | h
      · exact absurd h (by decide+kernel)
      · exact h
     exact c10 h1 h5
 · intro P hP
   have heq:=hP.eq
   have hyne:=hP.yne
   have hon:=P.G6
   have h1:=c2 heq
   have hu:1+s*s≠0:=fun e=> DF (c3 h1 e)
   have hv:tu s= -(kD*((1 - s*s)*(1 - s*s))) - (1+s*s)*(1+s*s):=rfl
   -- x² v = 4 s²
   have hxv:P.x*P.x*tu s=4*(s*s):=by
    refine K.cancel (abp P.y) ?_
    have e1:tu s= -((1+s*s)*(1+s*s)*(1+kD*(P.y*P.y))):=by rw [hv,← h1]; grobner
    have e2:4*(s*s)=(1+s*s)*(1+s*s)*(1 - P.y*P.y):=by
     have:(1+s*s)*(1+s*s)*(1 - P.y*P.y)=(1+s*s)*(1+s*s) - (P.y*(1+s*s))*(P.y*(1+s*s)):=by grobner
     rw [this,h1]; grobner
    rw [e1,e2]
    generalize 1+kD*(P.y*P.y)=q at*
    generalize (1+s*s)*(1+s*s)=p at*
    generalize P.x*P.x=m at*
    generalize P.y*P.y=l at*
    clear h1 heq hyne e1 e2 hv hu hxx hx hy hr
    grobner
   have hvs:Sq (tu s)∧tu s≠0:=by
    by_cases hx0:P.x=0
    · have hy1:=hP.x0 hx0
      have hs0:s*s=0:=by
       rw [hx0] at hxv
       have h4:4*(s*s)=0:=by rw [← hxv]; generalize tu s=q; grobner
       rcases K.dh h4 with h | h
       · exact absurd h (by decide+kernel)
       · exact h
      have e:tu s= -1 - kD:=by
       rw [hv,hs0]; decide+kernel
      rw [e]
      exact ⟨pz,by decide+kernel⟩
    · have hx2:P.x*P.x≠0:=K.aZ hx0 hx0
      have hs2:=ahF hP.ev
      have e2:P.x*P.x*tu s=(1+s*s)*(1+s*s)*(1 - P.y*P.y):=by
       have:(1+s*s)*(1+s*s)*(1 - P.y*P.y)=(1+s*s)*(1+s*s) - (P.y*(1+s*s))*(P.y*(1+s*s)):=by grobner
       rw [hxv,this,h1]; grobner
      refine ⟨Sq.Fx hx2 ⟨_,rfl⟩ (by rw [e2]; exact Sq.mul ⟨_,rfl⟩ hs2),?_⟩
      intro e0
      rw [e0] at e2
      have h3:(1+s*s)*(1+s*s)*(1 - P.y*P.y)=0:=by rw [← e2]; generalize P.x*P.x=q; grobner
      rcases K.dh h3 with h | h
      · exact K.aZ hu hu h
      · have hw:=P.akN
        rw [h] at hw
        have h5:(-1 - kD)*(P.x*P.x)=0:=by rw [← hw]; generalize 1 - kD*(P.x*P.x)=q; grobner
        rcases K.dh h5 with h | h
        · exact absurd h (by decide+kernel)
        · exact hx2 h
   have hv0:tu s*((1+s*s)*(1+s*s))≠0:=K.aZ hvs.2 (K.aZ hu hu)
   have hb:b=true:=hr.iff.2 (.inr ⟨hv0,by
    have e:1*(tu s*((1+s*s)*(1+s*s)))=tu s*((1+s*s)*(1+s*s)):=by generalize tu s*((1+s*s)*(1+s*s))=q; grobner
    rw [e]
    exact Sq.mul hvs.1 ⟨_,rfl⟩⟩)
   have hr2:=hr.yes hb
   obtain ⟨g1,g2⟩:=c6 hr2 hxx hy
   refine ⟨hb,K.jc (by rw [hx]; exact K.rf _) hP.xe (K.cancel hvs.2 ?_),K.cancel hu ?_⟩
   · rw [g2,hxv]
   · rw [g1,h1]

theorem abV (n:Nat):uD n=true↔n<pP:=by rw [abW,decide_eq_true_eq]
theorem CW {n:Nat}:aJ n=true↔n<pP∧ ∃ P,Can (k n) P:=by
 rw [vV]
 unfold Bp
 simp only [Bool.and_eq_true,abV,Bool.not_eq_true',Fv,wh]
 obtain ⟨hr,_⟩:=nE 1 (ah (bX (fJ (ah dP (ah (bX 1 (ah (aH n) (aH n))) (bX 1 (ah (aH n) (aH n)))))) (ah (bH 1 (ah (aH n) (aH n))) (bH 1 (ah (aH n) (aH n))))) (ah (bH 1 (ah (aH n) (aH n))) (bH 1 (ah (aH n) (aH n)))))
 generalize dU 1 (ah (bX (fJ (ah dP (ah (bX 1 (ah (aH n) (aH n))) (bX 1 (ah (aH n) (aH n)))))) (ah (bH 1 (ah (aH n) (aH n))) (bH 1 (ah (aH n) (aH n))))) (ah (bH 1 (ah (aH n) (aH n))) (bH 1 (ah (aH n) (aH n)))))=r at*
 generalize kT 1 (ah (bX (fJ (ah dP (ah (bX 1 (ah (aH n) (aH n))) (bX 1 (ah (aH n) (aH n)))))) (ah (bH 1 (ah (aH n) (aH n))) (bH 1 (ah (aH n) (aH n))))) (ah (bH 1 (ah (aH n) (aH n))) (bH 1 (ah (aH n) (aH n)))))=b at*
 simp only [iy,uz,sS,uy,H5,EY,EX,iA] at hr ⊢
 have core:=fun he=> Nn (s:=k n) (r:=k r) (b:=b) he hr rfl rfl
 show (n<pP∧(k n).odd=false)∧(b=true∧(((k n+k n)*(k r*(1+k n*k n))).abs*((1 - k n*k n)*(k r*(k r*(1+k n*k n))*tu (k n)))).odd=false)∧decide ((1 - k n*k n)*(k r*(k r*(1+k n*k n))*tu (k n))=k 0)=false↔_
 constructor
 · rintro ⟨⟨h1,h2⟩,⟨h3,h4⟩,h5⟩
   obtain ⟨P,_,_,hP⟩:=(core h2).1 ⟨h3,h4,of_decide_eq_false h5⟩
   exact ⟨h1,P,hP⟩
 · rintro ⟨h1,P,hP⟩
   obtain ⟨h3,h4,h5⟩:=(core hP.even).2 P hP
   rw [h4,h5]
   exact ⟨⟨h1,hP.even⟩,⟨h3,hP.te⟩,decide_eq_false hP.y0⟩
theorem U2 {n:Nat} {P:E} (hn:n<pP) (hP:Can (k n) P):fq (jD n) P∧(jD n).z=1:=by
 have hb:aJ n=true:=CW.2 ⟨hn,P,hP⟩
 rw [zU]
 unfold zT
 rw [hb]
 simp only [cond_true]
 obtain ⟨hr,_⟩:=nE 1 (ah (bX (fJ (ah dP (ah (bX 1 (ah (aH n) (aH n))) (bX 1 (ah (aH n) (aH n)))))) (ah (bH 1 (ah (aH n) (aH n))) (bH 1 (ah (aH n) (aH n))))) (ah (bH 1 (ah (aH n) (aH n))) (bH 1 (ah (aH n) (aH n)))))
 generalize dU 1 (ah (bX (fJ (ah dP (ah (bX 1 (ah (aH n) (aH n))) (bX 1 (ah (aH n) (aH n)))))) (ah (bH 1 (ah (aH n) (aH n))) (bH 1 (ah (aH n) (aH n))))) (ah (bH 1 (ah (aH n) (aH n))) (bH 1 (ah (aH n) (aH n)))))=r at*
 simp only [iy,uz,sS,uy,H5,EY,iA] at hr
 obtain ⟨_,h4,h5⟩:=(Nn hP.even hr rfl rfl).2 P hP
 have hx:k (kZ (ah (bH (aH n) (aH n)) (ah r (bH 1 (ah (aH n) (aH n))))))=P.x:=by
  rw [← h4]; simp only [iy,sS,EY,EX,iA]
 have hy:k (ah (bX 1 (ah (aH n) (aH n))) (ah (ah r (ah r (bH 1 (ah (aH n) (aH n))))) (bX (fJ (ah dP (ah (bX 1 (ah (aH n) (aH n))) (bX 1 (ah (aH n) (aH n)))))) (ah (bH 1 (ah (aH n) (aH n))) (bH 1 (ah (aH n) (aH n)))))))=P.y:=by
  rw [← h5]; simp only [iy,uz,sS,uy,H5,EY,iA]; rfl
 refine ⟨⟨K.jf,?_,?_,?_⟩,trivial⟩
 · show k (kZ _)=P.x*k 1
   rw [hx,iA]; generalize P.x=q; grobner
 · show k (ah _ _)=P.y*k 1
   rw [hy,iA]; generalize P.y=q; grobner
 · show k (ah (kZ _) (ah _ _))=P.x*P.y*k 1
   rw [iy,hx,hy,iA]; generalize P.x*P.y=q; grobner

/-! Encoding. -/
section
variable {n:Nat} [NeZero n] {d i x y z w s u1 u2 v r a b c t N:Fin n}
theorem f1 (h1:u1=z*z*(1 - y*y)) (h2:u2=z*z*(x*y)) (hr:u1*(u2*u2)*(r*r)=1) (ht:t=x*y*z) (hc:c=r*u1*(r*u2)*t):c*u2=t∧t*c=x*y*(c*z):=by
 constructor<;> subst ht<;> grobner
theorem f2 (h2:u2=z*z*(x*y)) (ht:t=x*y*z) (h:c*u2=t):(c*z)*(x*y*z)=1*(x*y*z):=by subst ht; grobner
theorem f3 (h1:u1=z*z*(1 - y*y)) (hr:u1*(u2*u2)*(r*r)=1):(r*u2)*(r*u2)*(z*z*(1 - y*y))=1:=by subst h1; grobner
theorem f4 (hon:y*y - x*x=1+d*x*x*y*y) (h1:u1=z*z*(1 - y*y)) (h2:u2=z*z*(x*y)) (hr:u1*(u2*u2)*(r*r)=1) (hN:(-1 - d)*(N*N)=1):
 (r*u1*N)*(r*u1*N)*(z*z*(1+x*x))*(u2*u2)=1*(u2*u2):=by
 have e1:r*u1*N*(r*u1*N)*(z*z*(1+x*x))*(u2*u2)=(u1*(u2*u2)*(r*r))*(u1*(z*z)*(1+x*x))*(N*N):=by grobner
 have e2:u1*(z*z)*(1+x*x)=z*z*(z*z)*((-1 - d)*(x*x*(y*y))):=by subst h1; grobner
 rw [e1,hr,e2]
 subst h2
 grobner
theorem f6 (h:i*i= -1):1 - i*x*(i*x)=1+x*x:=by grobner
theorem f7 (h:i*i= -1):i*y*(i*x)= -(x*y):=by grobner
theorem f5 (hb:b*b*(z*z*(1 - y*y))=1):(b*(z - y*z))*(b*(z - y*z))*(1+y)=1 - y:=by grobner
end
theorem K.zA {a:K} (h:a≠0) (ho:a.odd=true):(-a).odd=false:=by rw [K.zx h,ho]; rfl

theorem abv {P:E} (hev:Ev P) {z u1 u2 r t c N x1 y1 b1 y2 s:K} {b:Bool} (hz:z≠0) (h1:u1=z*z*(1 - P.y*P.y)) (h2:u2=z*z*(P.x*P.y)) (hr:mM 1 (u1*(u2*u2)) r b) (ht:t=P.x*P.y*z) (hc:c=r*u1*(r*u2)*t)
 (hN:(-1 - kD)*(N*N)=1)
 (hx1:x1=bif (t*c).odd then kI*P.y*z else P.x*z) (hy1:y1=bif (t*c).odd then kI*P.x*z else P.y*z) (hb1:b1=bif (t*c).odd then r*u1*N else r*u2)
 (hy2:y2=bif (x1*c).odd then -y1 else y1) (hs:s=(b1*(z - y2)).abs): ∃ Q,Can s Q∧Co P Q:=by
 by_cases hT:P.x*P.y=0
 · have hu2:u2=0:=by rw [h2,hT]; generalize z*z=q; grobner
   have hr0:r=0:=hr.none (by rw [hu2]; generalize u1=q; grobner)
   have hb0:b1=0:=by
    rw [hb1,hr0]
    cases (t*c).odd
    · show 0*u2=0; generalize u2=q; grobner
    · show 0*u1*N=0; generalize u1=q; grobner
   have hs0:s=0:=by
    rw [hs,hb0]
    have:0*(z - y2)=0:=by generalize z - y2=q; grobner
    rw [this]; decide
   refine ⟨0,⟨by rw [hs0]; rfl,rfl,by show ((0:K)*1).odd=false; decide+kernel,K.jf,fun _=> rfl,za,?_⟩,vw (kJ.2 ⟨P,hT,(E.zero_add P).symm⟩)⟩
   show s*s*(1+1)=1 - 1
   rw [hs0]; decide+kernel
 · have hx0:P.x≠0:=fun e=> hT (by rw [e]; generalize P.y=q; grobner)
   have hy0:P.y≠0:=fun e=> hT (by rw [e]; generalize P.x=q; grobner)
   have hzz:=K.aZ hz hz
   have hw0:1 - P.y*P.y≠0:=fun e=> by
    have hw:=P.akN
    rw [e] at hw
    have h5:(-1 - kD)*(P.x*P.x)=0:=by rw [← hw]; generalize 1 - kD*(P.x*P.x)=q; grobner
    rcases K.dh h5 with h | h
    · exact absurd h (by decide+kernel)
    · exact K.aZ hx0 hx0 h
   have hu1:u1≠0:=by rw [h1]; exact K.aZ hzz hw0
   have hu2:u2≠0:=by rw [h2]; exact K.aZ hzz hT
   have hb:b=true:=hr.iff.2 (.inr ⟨K.aZ hu1 (K.aZ hu2 hu2),by
    have e:1*(u1*(u2*u2))=z*z*(1 - P.y*P.y)*(u2*u2):=by rw [h1]; generalize z*z*(1 - P.y*P.y)*(u2*u2)=q; grobner
    rw [e]
    exact Sq.mul (Sq.mul ⟨_,rfl⟩ (ahF hev)) ⟨_,rfl⟩⟩)
   have hr2:=hr.yes hb
   obtain ⟨g1,g2⟩:=f1 h1 h2 hr2 ht hc
   have hcz:c*z=1:=K.cancel (K.aZ hT hz) (f2 h2 ht g1)
   have htc:t*c=P.x*P.y:=by rw [g2,hcz]; generalize P.x*P.y=q; grobner
   rw [htc] at hx1 hy1 hb1
   -- the first stage
   obtain ⟨Q,hQ,qx,qy,qb,qt,qx0,qy0⟩: ∃ Q:E,Co P Q∧x1=Q.x*z∧y1=Q.y*z∧b1*b1*(z*z*(1 - Q.y*Q.y))=1∧(Q.x*Q.y).odd=false∧Q.x≠0∧Q.y≠0:=by
    cases ho:(P.x*P.y).odd with
    | false=>
      rw [ho] at hx1 hy1 hb1
      refine ⟨P,kK P,hx1,hy1,?_,ho,hx0,hy0⟩
      rw [hb1]
      exact f3 h1 hr2
    | true=>
      rw [ho] at hx1 hy1 hb1
      have hi:=oQ
      refine ⟨P.ti,kJ.2 ⟨_,Um,E.ae0 P⟩,hx1,hy1,?_,?_,K.aZ VE hy0,K.aZ VE hx0⟩
      · have h3:=K.cancel (K.aZ hu2 hu2) (f4 P.on h1 h2 hr2 hN)
        rw [hb1]
        show r*u1*N*(r*u1*N)*(z*z*(1 - kI*P.x*(kI*P.x)))=1
        rw [f6 hi]; exact h3
      · show (kI*P.y*(kI*P.x)).odd=false
        rw [f7 hi]; exact K.zA hT ho
   have hxc:x1*c=Q.x:=by
    rw [qx]
    have e:Q.x*z*c=Q.x*(c*z):=by grobner
    rw [e,hcz]; generalize Q.x=q; grobner
   rw [hxc] at hy2
   obtain ⟨R,hR,ry,rb,rt,rx0,ry0,rx⟩: ∃ R:E,Co Q R∧y2=R.y*z∧b1*b1*(z*z*(1 - R.y*R.y))=1∧(R.x*R.y).odd=false∧R.x≠0∧R.y≠0∧R.x.odd=false:=by
    cases ho:Q.x.odd with
    | false=>
      rw [ho] at hy2
      exact ⟨Q,kK Q,hy2.trans qy,qb,qt,qx0,qy0,ho⟩
    | true=>
      rw [ho] at hy2
      refine ⟨Q.t2,kJ.2 ⟨_,Ul,E.aeH Q⟩,?_,?_,?_,?_,?_,K.zA qx0 ho⟩
      · rw [hy2,qy]; show -(Q.y*z)= -Q.y*z; grobner
      · show b1*b1*(z*z*(1 - -Q.y* -Q.y))=1
        have e: -Q.y* -Q.y=Q.y*Q.y:=by grobner
        rw [e]; exact qb
      · show (-Q.x* -Q.y).odd=false
        have e: -Q.x* -Q.y=Q.x*Q.y:=by grobner
        rw [e]; exact qt
      · show -Q.x≠0
        intro e; exact qx0 (by grobner)
      · show -Q.y≠0
        intro e; exact qy0 (by grobner)
   refine ⟨R,⟨?_,rx,rt,ry0,fun h=> absurd h rx0,abz (jJ hQ hR) hev,?_⟩,jJ hQ hR⟩
   · rw [hs]; exact K.rf _
   · rw [hs,K.tL,ry]
     exact f5 rb

theorem VF:k uB= -1 - kD:=by rw [E9,uy,sS,H5,iA]; generalize kD=q; grobner
theorem af0:(-1 - kD)*(k xh*k xh)=1:=by
 obtain ⟨hr,_⟩:=nE 1 uB
 rw [VF,iA] at hr
 rw [EL]
 exact hr.yes (hr.iff.2 (.inr ⟨by decide+kernel,by
  have e:1*(-1 - kD)= -1 - kD:=by generalize -1 - kD=q; grobner
  rw [e]; exact pz⟩))
theorem yZ {q:P4} {P:E} (h:fq q P) (hev:Ev P):(∃ Q,Can (k (iV q)) Q∧Co P Q)∧iV q<pP:=by
 rw [FZ]
 unfold Pf
 refine ⟨?_,UR _⟩
 obtain ⟨hr,_⟩:=nE 1 (ah (ah (bH q.z q.y) (bX q.z q.y)) (ah (ah q.x q.y) (ah q.x q.y)))
 simp only [iy,uz,sS,iA] at hr
 have hx:=h.x
 have hy:=h.y
 refine abv hev h.z (u1:=(k q.z+k q.y)*(k q.z - k q.y)) (u2:=k q.x*k q.y) (t:=k q.t) (N:=k xh) ?_ ?_ hr h.t rfl af0 rfl rfl rfl rfl ?_
 · rw [hy]; grobner
 · rw [hx,hy]; grobner
 · simp only [EY,EX,iy,uz,sS,uy,Si,Zg,Fv]
   have e1:k q.y*kI=kI*P.y*k q.z:=by rw [hy]; grobner
   have e2:k q.x*kI=kI*P.x*k q.z:=by rw [hx]; grobner
   rw [e1,e2,hx,hy]
end Vx

/-
  What is mapped is a point such as twice another one; elements that are encoded alike. No program stands in it.
-/
namespace Vx

section
variable {n:Nat} [NeZero n] {d i t x y z w s u v r c b m N A B g w0 w1 w2 w3 j1 j3:Fin n}
theorem h1 (hv:v= -(1+r*d)*(r+d)) (hu:u=(r+1)*(1 - d*d)) (hb:b=(d - 1)*(d - 1)) (hm:m= -1*(r - 1)*b - v):m*m*(1+d)=(v+u)*(v+u)+d*((v - u)*(v - u)):=by
 subst hm hb hu hv; grobner
theorem h2 (hv:v= -(1+r*d)*(r+d)) (hu:u=(r+1)*(1 - d*d)) (hb:b=(d - 1)*(d - 1)) (hm:m=r*(r - 1)*b - v):m*m*(1+d)=(v+r*u)*(v+r*u)+d*((v - r*u)*(v - r*u)):=by
 subst hm hb hu hv; grobner
theorem h3 (hg:g=s*s*v) (hm:m*m*(1+d)=(v+g)*(v+g)+d*((v - g)*(v - g))) (hN:N*N= -1 - d) (h0:w0=(s+s)*v) (hw1:w1=m*N) (hw2:w2=1 - s*s) (hw3:w3=1+s*s):
 (w2*w2*(w1*w1) - w0*w0*(w3*w3))*(v*v)=(w1*w1*(w3*w3)+d*(w0*w0*(w2*w2)))*(v*v)∧w1*w1 - d*(w0*w0)=(-1 - d)*((v+g)*(v+g)):=by
 have e1:w1*w1= -((v+g)*(v+g)+d*((v - g)*(v - g))):=by
  have:w1*w1= -(m*m*(1+d)):=by subst hw1; grobner
  rw [this,hm]
 have e0:w0*w0=4*g*v:=by subst h0 hg; grobner
 have e2:w2*v=v - g:=by subst hw2 hg; grobner
 have e3:w3*v=v+g:=by subst hw3 hg; grobner
 constructor
 · have f1:(w2*w2*(w1*w1) - w0*w0*(w3*w3))*(v*v)=(w2*v)*(w2*v)*(w1*w1) - w0*w0*((w3*v)*(w3*v)):=by grobner
   have f2:(w1*w1*(w3*w3)+d*(w0*w0*(w2*w2)))*(v*v)=w1*w1*((w3*v)*(w3*v))+d*(w0*w0*((w2*v)*(w2*v))):=by grobner
   rw [f1,f2,e2,e3,e1,e0]
   grobner
 · rw [e1,e0]; grobner
theorem h4 (h:(w2*w2*(w1*w1) - w0*w0*(w3*w3))=(w1*w1*(w3*w3)+d*(w0*w0*(w2*w2)))) (i1:w1*j1=1) (i3:w3*j3=1):
 w2*j3*(w2*j3) - w0*j1*(w0*j1)=1+d*(w0*j1)*(w0*j1)*(w2*j3)*(w2*j3):=by
 have e:(w2*w2*(w1*w1) - w0*w0*(w3*w3))*(j1*j1*(j3*j3))=(w1*w1*(w3*w3)+d*(w0*w0*(w2*w2)))*(j1*j1*(j3*j3)):=by rw [h]
 clear h
 grobner
theorem h5 (i1:w1*j1=1) (i3:w3*j3=1):w0*w3=w0*j1*(w1*w3)∧w2*w1=w2*j3*(w1*w3)∧w0*w2=w0*j1*(w2*j3)*(w1*w3):=
 ⟨by grobner,by grobner,by grobner⟩
theorem h6 (h:w1*w1 - d*(w0*w0)=(-1 - d)*A) (i1:w1*j1=1):w1*w1*(1 - d*(w0*j1*(w0*j1)))=(-1 - d)*A:=by grobner
theorem h7 (hv:v= -(1+r*d)*(r+d)) (hr:r+1=0):v=(1 - d)*(1 - d):=by
 have:r= -1:=by grobner
 subst this
 subst hv
 grobner
theorem h8 (hv:v= -(1+r*d)*(r+d)):(r=0→v= -d)∧(r=1→v= -((1+d)*(1+d))):=by
 constructor
 · intro h; subst h; subst hv; grobner
 · intro h; subst h; subst hv; grobner
theorem h9 (h1:v=g) (h2:v= -g):2*v=0:=by grobner
theorem h10 (hm:m*m*(1+d)=A*A+d*(B*B)) (h:m=0):A*A= -d*(B*B):=by subst h; grobner
theorem h11 (hm:m*m*(1+d)=(v+g)*(v+g)+d*((v - g)*(v - g))) (h:v+g=0):m*m*(1+d)=d*((2*v)*(2*v)):=by
 have:g= -v:=by grobner
 subst this
 grobner
theorem h12 (hz:s=0) (h0:w0=(s+s)*v) (hw2:w2=1 - s*s) (hw3:w3=1+s*s):w0=0∧w2=1∧w3=1:=by
 subst hz; subst h0 hw2 hw3; refine ⟨?_,?_,?_⟩<;> grobner
theorem h13 (h0:w0=0) (h2:w2=1) (h3:w3=1):w0*w3=0*(w1*w3)∧w2*w1=1*(w1*w3)∧w0*w2=0*1*(w1*w3):=by
 subst h0 h2 h3; refine ⟨?_,?_,?_⟩<;> grobner
theorem h14 (hm:m=r*(r - 1)*b - v) (hv:v=0):m=r*(r - 1)*b:=by subst hv; grobner
end

theorem Ll: ¬ Sq (-kD):=fun h=> nJ (by
 have:=Sq.neg h
 have e: - -kD=kD:=by grobner
 rwa [e] at this)

theorem Y7 {t r u v b A N q s c m w0 w1 w2 w3:K} {o:Bool} (hr:r=kI*(t*t)) (hA:A=1 - kD*kD) (hu:u=(r+1)*A) (hv:v= -(1+r*kD)*(r+kD)) (hq:mM u v q o)
 (hs:s=bif o then q else -(q*t).abs) (hc:c=bif o then -1 else r) (hb:b=(kD - 1)*(kD - 1)) (hm:m=c*(r - 1)*b - v) (hN:N*N= -1 - kD)
 (h0:w0=(s+s)*v) (hw1:w1=m*N) (hw2:w2=1 - s*s) (hw3:w3=1+s*s):
 ∃ P:E,w1*w3≠0∧w0*w3=P.x*(w1*w3)∧w2*w1=P.y*(w1*w3)∧w0*w2=P.x*P.y*(w1*w3)∧Ev P:=by
 have hN0:N≠0:=fun e=> by rw [e] at hN; exact absurd hN (by decide+kernel)
 have hd1:(1+kD:K)≠0:=by decide+kernel
 have hA0:A≠0:=by rw [hA]; decide+kernel
 rw [hA] at hu
 by_cases hv0:v=0
 · have hu0:u≠0:=fun e=> by
    rw [hu] at e
    rcases K.dh e with e | e
    · have:=h7 hv e
      rw [hv0] at this
      exact absurd this.symm (by decide+kernel)
    · exact hA0 (hA.trans e)
   have ho:o=false:=by
    cases ho:o with
    | false=> rfl
    | true=> exact absurd (hq.iff.1 ho) (fun h=> h.elim hu0 fun h=> h.1 hv0)
   have hq0:=hq.none hv0
   rw [ho] at hs hc
   have hs0:s=0:=by
    rw [hs,hq0]
    show -(0*t).abs=0
    have e:0*t=0:=by grobner
    rw [e]; decide
   have hc2:c=r:=hc
   rw [hc2] at hm
   have hm2:=h14 hm hv0
   obtain ⟨r0,r1⟩:=h8 hv
   have hr0:r≠0:=fun e=> by have:=r0 e; rw [hv0] at this; exact absurd this.symm (by decide+kernel)
   have hr1:r - 1≠0:=fun e=> by
    have e2:r=1:=by grobner
    have:=r1 e2; rw [hv0] at this; exact absurd this.symm (by decide+kernel)
   have hm0:m≠0:=by rw [hm2,hb]; exact K.aZ (K.aZ hr0 hr1) (by decide+kernel)
   obtain ⟨a0,a2,a3⟩:=h12 hs0 h0 hw2 hw3
   obtain ⟨b1,b2,b3⟩:=h13 (w1:=w1) a0 a2 a3
   refine ⟨0,?_,b1,b2,b3,za⟩
   rw [a3,hw1]
   exact K.aZ (K.aZ hm0 hN0) K.jf
 · obtain ⟨g,hg,hk⟩: ∃ g,g=s*s*v∧m*m*(1+kD)=(v+g)*(v+g)+kD*((v - g)*(v - g)):=by
    cases ho:o with
    | true=>
      rw [ho] at hs hc
      have hs:s=q:=hs
      have hc:c= -1:=hc
      rw [hc] at hm
      refine ⟨u,?_,h1 hv hu hb hm⟩
      rw [hs,← hq.yes ho]; grobner
    | false=>
      rw [ho] at hs hc
      have hs:s= -(q*t).abs:=hs
      have hc:c=r:=hc
      rw [hc] at hm
      refine ⟨r*u,?_,h2 hv hu hb hm⟩
      have e1:s*s=q*t*(q*t):=by rw [hs,← K.tL (q*t)]; generalize (q*t).abs=a; grobner
      have e2:=hq.no ho hv0
      rw [e1,hr]
      have e3:q*t*(q*t)*v=v*(q*q)*(t*t):=by grobner
      rw [e3,e2]; grobner
   have hm0:m≠0:=fun e=> by
    have h:=h10 hk e
    by_cases hB:v - g=0
    · rw [hB] at h
      have hAA:(v+g)*(v+g)=0:=by rw [h]; grobner
      have hA2:v+g=0:=(K.dh hAA).elim id id
      have h9:=h9 (v:=v) (g:=g) (by grobner) (by grobner)
      rcases K.dh h9 with e | e
      · exact K.yA e
      · exact hv0 e
    · exact Ll (JL hB h.symm)
   have hA0:v+g≠0:=fun e=> by
    have h:=h11 hk e
    have h1d:Sq (1+kD):=by
     have:=Sq.neg pz
     have e: -(-1 - kD)=1+kD:=by generalize kD=x; grobner
     rwa [e] at this
    have h2v:(2*v)*(2*v)≠0:=K.aZ (K.aZ K.yA hv0) (K.aZ K.yA hv0)
    refine nJ (Sq.r9 h2v ⟨_,rfl⟩ ?_)
    rw [← h]
    exact Sq.mul ⟨_,rfl⟩ h1d
   have hw10:w1≠0:=by rw [hw1]; exact K.aZ hm0 hN0
   have hw30:w3≠0:=fun e=> by
    have:w3*v=v+g:=by rw [hw3,hg]; grobner
    rw [e] at this
    exact hA0 (by rw [← this]; grobner)
   obtain ⟨e1,e2⟩:=h3 hg hk hN h0 hw1 hw2 hw3
   have e1:=K.cancel (K.aZ hv0 hv0) e1
   have i1:=mh hw10
   have i3:=mh hw30
   generalize ik w1=j1 at*
   generalize ik w3=j3 at*
   obtain ⟨b1,b2,b3⟩:=h5 (w0:=w0) (w2:=w2) i1 i3
   refine ⟨⟨w0*j1,w2*j3,h4 e1 i1 i3⟩,K.aZ hw10 hw30,b1,b2,b3,?_⟩
   show Sq (1 - kD*(w0*j1*(w0*j1)))
   refine Sq.Fx (K.aZ hw10 hw10) ⟨_,rfl⟩ ?_
   rw [h6 e2 i1]
   exact Sq.mul pz ⟨_,rfl⟩

theorem afY:k uq*k uq= -1 - kD:=by
 obtain ⟨hr,_⟩:=nE uB 1
 rw [VF,iA] at hr
 rw [NH,uy]
 have h:=hr.yes (hr.iff.2 (.inr ⟨K.jf,by
  have e:(-1 - kD)*1= -1 - kD:=by generalize -1 - kD=q; grobner
  rw [e]; exact pz⟩))
 rw [← h]
 generalize k (dU uB 1)=q
 grobner
theorem NR (t:Nat): ∃ P,fq (ER 1 iP dP uq uo xg t) P∧Ev P:=by
 rw [abG]
 unfold IW
 obtain ⟨hr,_⟩:=nE (ah (bH (ah iP (ah t t)) 1) uo) (ah (fJ (bH 1 (ah (ah iP (ah t t)) dP))) (bH (ah iP (ah t t)) dP))
 have ha:k uo=1 - kD*kD:=by rw [NF,uz,iy,H5,iA]
 have hb:k xg=(kD - 1)*(kD - 1):=by rw [NG,iy,uz,H5,iA]
 simp only [iy,sS,uy,H5,Zg,iA] at hr
 have core:=Y7 (t:=k t) (A:=k uo) (b:=k xg) (N:=k uq) rfl ha rfl rfl hr rfl rfl hb rfl afY rfl rfl rfl rfl
 obtain ⟨P,c0,c1,c2,c3,c4⟩:=core
 refine ⟨P,⟨?_,?_,?_,?_⟩,c4⟩<;> simp only [iy,sS,uz,uy,H5,Zg,iA,Si,EX]
 · exact c0
 · exact c1
 · exact c2
 · exact c3
theorem agb (b:Nat): ∃ P Q,Ev P∧Ev Q∧fq (ER 1 iP dP uq uo xg (aH (I1 (Sn b)))) P∧fq (ER 1 iP dP uq uo xg (aH (I1 (R5 b)))) Q∧fq (Wu b) (P+Q):=by
 obtain ⟨P,h1,e1⟩:=NR (aH (I1 (Sn b)))
 obtain ⟨Q,h2,e2⟩:=NR (aH (I1 (R5 b)))
 refine ⟨P,Q,e1,e2,h1,h2,?_⟩
 rw [adq]
 exact yJ h1 h2

/-! One element, one number. -/
theorem aji {q r:P4} {P Q:E} (h1:fq q P) (h2:fq r Q) (e1:Ev P) (e2:Ev Q):iV q=iV r↔Co P Q:=by
 obtain ⟨⟨P',c1,d1⟩,l1⟩:=yZ h1 e1
 obtain ⟨⟨Q',c2,d2⟩,l2⟩:=yZ h2 e2
 constructor
 · intro h
   rw [h] at c1
   have:=YG c1 c2
   subst this
   exact jJ d1 (vw d2)
 · intro h
   exact BZ l1 l2 (Eb c1 c2 (jJ (vw d1) (jJ h d2))).2
theorem afQ {q:P4} {P:E} (h:fq q P) (e:Ev P):aJ (iV q)=true∧ ∃ Q,fq (jD (iV q)) Q∧Co P Q∧Ev Q:=by
 obtain ⟨⟨Q,c1,d1⟩,l1⟩:=yZ h e
 exact ⟨CW.2 ⟨l1,Q,c1⟩,Q,(U2 l1 c1).1,d1,c1.ev⟩
theorem Va {n:Nat} (h:aJ n=true): ∃ P,fq (jD n) P∧Ev P∧iV (jD n)=n:=by
 obtain ⟨hn,P,hP⟩:=CW.1 h
 have hr:=(U2 hn hP).1
 obtain ⟨⟨Q,c1,d1⟩,l1⟩:=yZ hr hP.ev
 exact ⟨P,hr,hP.ev,BZ l1 hn (Eb c1 hP (vw d1)).2⟩
end Vx

/-
  Multiples of points, and how many points there are: 8 l. No program stands in it.
-/
namespace Vx

def E.mul:Nat→E→E
 | 0,_=> 0
 | n+1,P=> E.mul n P+P
theorem E.mul_zero (P:E):E.mul 0 P=0:=rfl
theorem E.mul_succ (n:Nat) (P:E):E.mul (n+1) P=E.mul n P+P:=rfl
theorem E.mul_one (P:E):E.mul 1 P=P:=by rw [E.mul_succ,E.mul_zero,E.zero_add]
theorem E.add_mul (m:Nat) (P:E): ∀ n,E.mul (m+n) P=E.mul m P+E.mul n P
 | 0=> by rw [Nat.add_zero,E.mul_zero,E.add_zero]
 | n+1=> by rw [← Nat.add_assoc,E.mul_succ,E.add_mul m P n,E.mul_succ,E.add_assoc]
theorem E.mo: ∀ n,E.mul n 0=0
 | 0=> rfl
 | n+1=> by rw [E.mul_succ,E.mo n,E.add_zero]
theorem E.amm (A B C D:E):(A+B)+(C+D)=(A+C)+(B+D):=by
 rw [E.add_assoc,← E.add_assoc B,E.add_comm B C,E.add_assoc C,← E.add_assoc]
theorem E.mul_add (P Q:E): ∀ n,E.mul n (P+Q)=E.mul n P+E.mul n Q
 | 0=> by rw [E.mul_zero,E.mul_zero,E.mul_zero,E.add_zero]
 | n+1=> by rw [E.mul_succ,E.mul_add P Q n,E.mul_succ,E.mul_succ,E.amm]
theorem E.iU (m:Nat) (P:E): ∀ n,E.mul (m*n) P=E.mul n (E.mul m P)
 | 0=> rfl
 | n+1=> by rw [Nat.mul_succ,E.add_mul,E.iU m P n,E.mul_succ]
theorem E.DN {P Q R:E} (h:P+R=Q+R):P=Q:=by
 have:(P+R)+ -R=(Q+R)+ -R:=by rw [h]
 rwa [E.add_assoc,E.add_assoc,E.add_neg,E.add_zero,E.add_zero] at this
theorem ME {T:E} (h:T.MM): ∀ n,(E.mul n T).MM
 | 0=> Ap
 | n+1=> DD (ME h n) h
theorem Vi {P:E} (h:Ev P): ∀ n,Ev (E.mul n P)
 | 0=> za
 | n+1=> EH (Vi h n) h
theorem Rz {P Q:E} (h:Co P Q): ∀ n,Co (E.mul n P) (E.mul n Q)
 | 0=> kK _
 | n+1=> tZ (Rz h n) h

/-! The kernel works multiples out. -/
def VK:Nat→Nat→P4→P4→P4
 | 0,_,_,acc=> acc
 | f+1,e,q,acc=> VK f (e / 2) (Iq q q) (bif Nat.beq (e % 2) 1 then Iq acc q else acc)
theorem Bc: ∀ (f e:Nat) (q acc:P4) (P A:E),e<2^f→fq q P→fq acc A→fq (VK f e q acc) (A+E.mul e P)
 | 0,e,q,acc,P,A,h,_,ha=> by
   have:e=0:=by simpa using h
   subst this
   rw [E.mul_zero,E.add_zero]; exact ha
 | f+1,e,q,acc,P,A,h,hq,ha=> by
   unfold VK
   have h2:e / 2<2^f:=by rw [Nat.pow_succ] at h; omega
   have hqq:fq (Iq q q) (P+P):=by rw [← Uz]; exact yJ hq hq
   have hPP:P+P=E.mul 2 P:=by rw [E.mul_succ,E.mul_one]
   have hb:e % 2=0∨e % 2=1:=by omega
   rcases hb with hb | hb
   · rw [hb]
     have:=Bc f (e / 2) _ _ _ _ h2 hqq ha
     rw [hPP,← E.iU,show 2*(e / 2)=e by omega] at this
     exact this
   · rw [hb]
     have haq:fq (Iq acc q) (A+P):=by rw [← Uz]; exact yJ ha hq
     have:=Bc f (e / 2) _ _ _ _ h2 hqq haq
     rw [hPP,← E.iU,E.add_assoc] at this
     have e1:P+E.mul (2*(e / 2)) P=E.mul e P:=by
      rw [E.add_comm]
      show E.mul (2*(e / 2)+1) P=_
      rw [show 2*(e / 2)+1=e by omega]
     rw [e1] at this
     exact this
def VJ (e:Nat) (q:P4):P4:=VK (Nat.log2 e+1) e q ⟨0,1,1,0⟩
theorem vQ {q:P4} {P:E} (e:Nat) (h:fq q P):fq (VJ e q) (E.mul e P):=by
 have:=Bc (Nat.log2 e+1) e q ⟨0,1,1,0⟩ P 0 Nat.lt_log2_self h EW
 rwa [E.zero_add] at this

def gE:E:=⟨47490639360184182837601875270316946735278442122217188244898328344323804759522,3,by decide+kernel⟩
def gQ:P4:=⟨47490639360184182837601875270316946735278442122217188244898328344323804759522,3,1,47490639360184182837601875270316946735278442122217188244898328344323804759522*3⟩
theorem KW:fq gQ gE:=⟨by decide+kernel,by decide+kernel,by decide+kernel,by decide+kernel⟩
def lP:Nat:=7237005577332262213973186563042994240857116359379907606001950938285454250989
theorem agK:av lP:=df
def xz (q:P4):Nat × Nat:=(q.x % pP,(q.y % pP+(pP - q.z % pP)) % pP)
theorem Pg {q:P4} {P:E} (h:fq q P) (hx:xz q=(0,0)):P=0:=by
 have h1:k q.x=0:=K.ext (by rw [mg]; exact congrArg Prod.fst hx)
 have h2:k q.y - k q.z=0:=by
  have h3:(q.y % pP+(pP - q.z % pP)) % pP=0:=congrArg Prod.snd hx
  have e:bX q.y q.z=0:=by
   rw [Mg,Nat.add_mod]
   rw [Nat.add_mod,Nat.mod_mod] at h3
   exact h3
  rw [← uz,e]
  rfl
 refine E.ext (K.cancel h.z ?_) (K.cancel h.z ?_)
 · rw [← h.x,h1]; show 0=0*k q.z; generalize k q.z=z; grobner
 · rw [← h.y]; show k q.y=1*k q.z; grobner
theorem uQ {q:P4} {P:E} (h:fq q P) (hx:(q.x % pP==0 && (q.y % pP+(pP - q.z % pP)) % pP==0)=false):P≠0:=by
 intro e
 subst e
 have h1:k q.x=0:=by rw [h.x]; show 0*k q.z=0; generalize k q.z=z; grobner
 have h2:k q.y=k q.z:=by rw [h.y]; show 1*k q.z=k q.z; generalize k q.z=z; grobner
 have e1:q.x % pP=0:=by rw [← mg,h1]; rfl
 have e2:q.y % pP=q.z % pP:=by rw [← mg,← mg,h2]
 rw [e1,e2] at hx
 have e3:(q.z % pP+(pP - q.z % pP)) % pP=0:=by
  have:=Nat.mod_lt q.z acL
  rw [show q.z % pP+(pP - q.z % pP)=pP by omega,Nat.mod_self]
 rw [e3] at hx
 exact absurd hx (by decide)
theorem alj:E.mul (8*lP) gE=0:=Pg (vQ _ KW) (by decide+kernel)
theorem ajt:E.mul (4*lP) gE≠0:=uQ (vQ _ KW) (by decide+kernel)
theorem g_8:E.mul 8 gE≠0:=uQ (vQ _ KW) (by decide+kernel)
theorem amz:(E.mul (2*lP) gE).MM:=by
 have h:=vQ (2*lP) KW
 have h0:k (VJ (2*lP) gQ).x*k (VJ (2*lP) gQ).y=0:=by decide+kernel
 unfold E.MM
 have hz:=h.z
 rw [h.x,h.y] at h0
 generalize k (VJ (2*lP) gQ).z=z at*
 refine K.cancel (K.aZ hz hz) ?_
 grobner
theorem abF: ¬ Ev gE:=by
 have h0:(1 - kD*(gE.x*gE.x):K)≠0:=IK _
 refine Sv ?_ h0
 apply K.ext
 rw [K.nC,← Cg]
 decide+kernel

theorem mul_gcd (P:E): ∀ (i j:Nat),E.mul i P=0→E.mul j P=0→E.mul (Nat.gcd i j) P=0:=by
 intro i j
 induction i,j using Nat.gcd.induction with
 | H0 j=> intro _ h; simpa using h
 | H1 i j hi ih=>
   intro h1 h2
   rw [Nat.gcd_rec]
   refine ih ?_ h1
   have:E.mul j P=E.mul (i*(j / i)) P+E.mul (j % i) P:=by rw [← E.add_mul,Nat.div_add_mod]
   rw [this,E.iU,h1,E.mo,E.zero_add] at h2
   exact h2
theorem af2: ∀ i,0<i→i<8*lP→E.mul i gE≠0:=by
 intro i h0 hi he
 have hg:=mul_gcd gE i (8*lP) he alj
 have hd:Nat.gcd i (8*lP)∣8*lP:=Nat.gcd_dvd_right _ _
 have hle:Nat.gcd i (8*lP)≤i:=Nat.le_of_dvd h0 (Nat.gcd_dvd_left _ _)
 obtain ⟨m,hm⟩:=hd
 generalize Nat.gcd i (8*lP)=g at*
 have hm1:1<m:=by
  apply Classical.byContradiction
  intro h
  have:m=0∨m=1:=by omega
  rcases this with rfl | rfl
  · omega
  · omega
 have hpr: ∀ q∈ [2,2,2,lP],av q:=aa cu (aa cu (aa cu (aa agK aM)))
 obtain ⟨q,hq,c,hc⟩:=AQ hpr hm1 (by
  have:O3 [2,2,2,lP]=8*lP:=by decide+kernel
  rw [this]; exact ⟨g,by rw [hm,Nat.mul_comm]⟩)
 have key: ∀ a,8*lP=q*a→E.mul a gE=0:=by
  intro a ha
  have hq0:0<q:=by have:=(hpr q hq).1; omega
  have:a=g*c:=by
   have:q*a=q*(g*c):=by rw [← ha,hm,hc,Nat.mul_left_comm]
   exact Nat.eq_of_mul_eq_mul_left hq0 this
  rw [this,E.iU,hg,E.mo]
 simp only [List.mem_cons,List.not_mem_nil,or_false] at hq
 rcases hq with rfl | rfl | rfl | rfl
 · exact ajt (key _ (by omega))
 · exact ajt (key _ (by omega))
 · exact ajt (key _ (by omega))
 · exact g_8 (key _ (by omega))

def Ef (P:E):Nat:=P.y.val*2+P.x.val % 2
theorem UY (P:E):Ef P<2*pP:=by unfold Ef; have:=P.y.isLt; omega
theorem code_inj {P Q:E} (h:Ef P=Ef Q):P=Q:=by
 unfold Ef at h
 have hy:P.y=Q.y:=K.ext (by omega)
 have hx:P.x.val % 2=Q.x.val % 2:=by omega
 refine E.ext ?_ hy
 have hsq:P.x*P.x=Q.x*Q.x:=K.cancel (abp P.y) (by rw [P.G6,hy,Q.G6])
 rcases K.Cq hsq with e | e
 · exact e
 · by_cases h0:Q.x=0
   · rw [e,h0]; decide
   · have h1:=K.zx h0
     rw [← e] at h1
     unfold K.odd at h1
     rw [hx] at h1
     cases h2:(Q.x.val % 2==1)<;> rw [h2] at h1<;> cases h1
theorem ahJ: ∀ i j,i<j→j<8*lP→E.mul i gE≠E.mul j gE:=by
 intro i j hij hj h
 refine af2 (j - i) (by omega) (by omega) ?_
 refine E.DN (R:=E.mul i gE) ?_
 rw [← E.add_mul,E.zero_add,show j - i+i=j by omega,h]
theorem Re (P:E): ∃ i,P=E.mul i gE:=by
 apply Classical.byContradiction
 intro hno
 have hno: ∀ i,P≠E.mul i gE:=fun i h=> hno ⟨i,h⟩
 have hle:=agw (m:=16*lP) (n:=2*pP) (fun i=> if i<8*lP then Ef (E.mul i gE) else Ef (E.mul (i - 8*lP) gE+P)) (fun i _=> by
  by_cases h:i<8*lP
  · simp only [if_pos h]; exact UY _
  · simp only [if_neg h]; exact UY _) (fun i j hij hj=> by
  by_cases h1:j<8*lP
  · simp only [if_pos h1,if_pos (Nat.lt_trans hij h1)]
    exact fun h=> ahJ i j hij h1 (code_inj h)
  · by_cases h2:i<8*lP
    · simp only [if_neg h1,if_pos h2]
      intro h
      have h:=code_inj h
      refine hno (8*lP - (j - 8*lP)+i) ?_
      rw [E.add_mul,h,← E.add_assoc,← E.add_mul,show 8*lP - (j - 8*lP)+(j - 8*lP)=8*lP by omega,alj,E.zero_add]
    · simp only [if_neg h1,if_neg h2]
      intro h
      exact ahJ (i - 8*lP) (j - 8*lP) (by omega) (by omega) (E.DN (code_inj h)))
 have: ¬ 16*lP≤2*pP:=by decide
 exact this hle
theorem afV {i:Nat} (h:Ev (E.mul i gE)):i % 2=0:=by
 apply Classical.byContradiction
 intro h1
 have hi:i=2*(i / 2)+1:=by omega
 have h2:Ev (E.mul (2*(i / 2)) gE):=by
  rw [Nat.mul_comm,E.iU,E.mul_succ,E.mul_one]
  exact Y0 _
 rw [hi,E.mul_succ] at h
 have h3:=EH h (ajr h2)
 rw [E.add_comm,← E.add_assoc,E.add_comm (-_),E.add_neg,E.zero_add] at h3
 exact abF h3
theorem als {P:E} (h:Ev P):(E.mul lP P).MM:=by
 obtain ⟨i,rfl⟩:=Re P
 have hi:=afV h
 rw [← E.iU,show i*lP=2*lP*(i / 2) by
  have:i=2*(i / 2):=by omega
  rw [Nat.mul_comm 2 lP,Nat.mul_assoc,← this,Nat.mul_comm],E.iU]
 exact ME amz _
theorem rC {P:E} (h:Ev P) {a b:Nat} (hab:a % lP=b % lP):Co (E.mul a P) (E.mul b P):=by
 have key: ∀ n,Co (E.mul (n % lP) P) (E.mul n P):=by
  intro n
  refine kJ.2 ⟨E.mul (n / lP) (E.mul lP P),ME (als h) _,?_⟩
  rw [← E.iU,← E.add_mul,Nat.add_comm,Nat.div_add_mod]
 exact jJ (vw (key a)) (hab ▸ key b)
end Vx
