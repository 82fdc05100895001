/-
  The laws AlgebraScalars, AlgebraBack answer true.
-/
import Derived.Test.YtcgmcohkkigphaaGreatL8
import Derived.Test.YtcgmcohkkigphaaGreatM3
namespace Go.Proofs.YtcgmcohkkigphaaGreat
open Go Vx Go.RowKit

def Yc:List Bool→Out
 | []=> aV (bI true)
 | c::l=> bif c then Yc l else aV (bI false)
theorem Yd: ∀ {l:List Bool},allT l→Yc l=aV (bI true)
 | [],_=> rfl
 | c::l,h=> by
   obtain ⟨h1,h2⟩:=fT h
   rw [Yc,h1,cond_true,Yd h2]
end Go.Proofs.YtcgmcohkkigphaaGreat

/-
  The law AlgebraBack answers true; what sums of terms stand for.
-/
namespace Go.Proofs.YtcgmcohkkigphaaGreat
open Go Vx Go.RowKit

inductive Terms:List (List D)→E→Prop
 | nil:Terms [] 0
 | cons {a n:Nat} {P S:E} {l:List (List D)}:bU a=true→Pt n P→Terms l S→Terms ([.n a, .n n]::l) (E.mul a P+S)
theorem oW {a:Nat}:bU a=true↔a<lP:=by
 show jW a 7237005577332262213973186563042994240857116359379907606001950938285454250989=true↔_
 rw [kv,decide_eq_true_iff]; rfl
theorem N9:lP<2^256:=by unfold lP; decide+kernel
theorem aeF: ∀ {l:List (List D)} {S:E},Terms l S→ ∀ {o:P4} {Q:E},fq o Q→Ev Q→ ∃ o' R,uV o l=(0,o')∧fq o' R∧Ev R∧Co R (Q+S):=by
 intro l S h
 induction h with
 | nil=>
   intro o Q hr he
   exact ⟨o,Q,by rw [uV],hr,he,by rw [E.add_zero]; exact kK Q⟩
 | @cons a n P S l ha hp _ ih=>
   intro o Q hr he
   obtain ⟨h1,P',h2,h3,h4⟩:=hp.dec
   have e1:trK [.n a, .n n]=a:=rfl
   have e2:trP [.n a, .n n]=n:=rfl
   have ha':jW a 7237005577332262213973186563042994240857116359379907606001950938285454250989=true:=ha
   rw [uV,e1,e2,ha',h1,Bool.not_true,cond_false,cond_false]
   obtain ⟨o',R,g1,g2,g3,g4⟩:=ih (yJ hr (akE h2 (Nat.lt_trans (oW.1 ha) N9))) (EH he (Vi h4 a))
   refine ⟨o',R,g1,g2,g3,jJ g4 ?_⟩
   rw [E.add_assoc]
   exact tZ (kK Q) (tZ (Rz (vw h3) a) (kK S))
theorem sG {l:List (List D)} {S:E} (h:Terms l S) (hl:l.length≤64):P7 l=0∧Pt (fH l) S:=by
 obtain ⟨o,R,h1,h2,h3,h4⟩:=aeF h EW za
 rw [E.zero_add] at h4
 obtain ⟨f1,f2,_⟩:=wz (Nat.not_lt.2 hl) h1
 refine ⟨f1,?_⟩
 rw [f2 rfl]
 exact (Pt.of h2 h3).co h4
theorem ag5 {a n:Nat} {P:E} (ha:bU a=true) (h:Pt n P):P7 [[.n a, .n n]]=0∧Pt (fH [[.n a, .n n]]) (E.mul a P):=by
 have:=sG (.cons ha h .nil) (show 1≤64 by decide)
 rw [E.add_zero] at this
 exact this
theorem ag6 {a n b m:Nat} {P Q:E} (ha:bU a=true) (h:Pt n P) (hb:bU b=true) (h':Pt m Q):
 P7 [[.n a, .n n],[.n b, .n m]]=0∧Pt (fH [[.n a, .n n],[.n b, .n m]]) (E.mul a P+E.mul b Q):=by
 have:=sG (.cons ha h (.cons hb h' .nil)) (show 2≤64 by decide)
 rw [E.add_zero] at this
 exact this
theorem Y2 {n a x:Nat} (hn:1<n) (h1:a^(n - 1) % n=1) (hf: ∀ x,0<x→x<n→ ∃ k,k<n - 1∧a^k % n=x) (h0:0<x) (hx:x<n):x^(n - 1) % n=1:=by
 obtain ⟨k,_,hk⟩:=hf x h0 hx
 rw [← hk,← Nat.pow_mod,← Nat.pow_mul,Nat.mul_comm]
 exact o9 h1 hn k
theorem inv_of {n x:Nat} (hn:1<n) (h:x^(n - 1) % n=1):x*(x^(n - 2) % n) % n=1:=by
 rw [Nat.mul_mod,Nat.mod_mod,← Nat.mul_mod,Nat.mul_comm,← Nat.pow_succ,show (n - 2).succ=n - 1 by omega]
 exact h
theorem ZN {n a:Nat} {fs:List Nat} (h:dz n a fs=true) (hp: ∀ q∈fs,av q) {x:Nat} (h0:0<x) (hx:x<n) {m:Nat} (hm:n - 2=m):x*(x^m % n) % n=1:=by
 obtain ⟨h1,h2,_,h4,_⟩:=aG h hp
 rw [← hm]
 exact inv_of h1 (Y2 h1 h2 h4 h0 hx)
theorem acN (a n:Nat):SV a n=a^n % lP:=agx a n
theorem ZF {x m:Nat} (h0:0<x) (hx:x<lP) (hm:lP - 2=m):x*SV x m % lP=1:=by
 rw [acN]
 exact ZN (n:=lP) bB bC h0 hx hm
noncomputable abbrev inL (a:Nat):Nat:=bif bU a && !dS [decide (a=0)] then SV a 7237005577332262213973186563042994240857116359379907606001950938285454250987 else 0
end Go.Proofs.YtcgmcohkkigphaaGreat
