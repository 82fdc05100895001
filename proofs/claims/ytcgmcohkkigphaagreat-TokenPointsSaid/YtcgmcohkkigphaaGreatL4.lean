/-
  Contracts of the document's numbers: ones.
-/
import Derived.Test.YtcgmcohkkigphaaGreatL3
import Derived.Test.YtcgmcohkkigphaaGreatM3
import Derived.Test.YtcgmcohkkigphaaGreatLb19
import Derived.Test.YtcgmcohkkigphaaGreatM2
set_option maxRecDepth 100000
namespace Go.Proofs.YtcgmcohkkigphaaGreat
open Go Vx Go.RowKit

abbrev aiN:Ty:= .one (.sl [.int .i64])
abbrev QY (x:List (List D)):V:= .one (.rd [.int .i64] x)
def uL (n:Int) (x:List (List D)):List (List D):=x++List.replicate (n.toNat - x.length) [.i 1]
def stO (n:Int) (y:List (List D)) (k:Nat):St:=⟨[aN n, .aC, .aC, .aC, .aC, .one (.row 0 1 0 k k)]++List.replicate 11 .aC,[some ⟨3, .row [.int .i64] y⟩]⟩

noncomputable def Xf:Nat→List D→Option (List Bool × V × List bQ)
 | base,[.i n, .l x]=> some ([decide (x.length<1099511627776),decide (n<1099511627776)], .one (.row base 1 0 (uL n x).length (uL n x).length),[⟨3, .row [.int .i64] (uL n x)⟩])
 | _,_=> none
noncomputable def Ma:aj:=Cn [GU,aiN] Xf
noncomputable abbrev uX:List (FuncId × aj):= []
theorem sP:aD Tryz.prog (aK uX):=aD.nil
theorem FK:bg Tryz.prog 204 Ma:=by
 refine AR (cx:=iG uX) (c:=af Tryz.f204) Tryz.func204 (by kernel_rfl) (by kernel_rfl) ?_
 intro base ds chk v bs vs hF ht he hr
 unfold Xf at hF
 split at hF
 · rename_i n x
   cases hF
   have hvs:vs= [aN n,QY x]:=by simp only [bq,bn,bF,bD,Option.some.injEq] at he; exact he.symm
   subst hvs
   have hx:x.length<1099511627776:=of_decide_eq_true (ht _ (by simp))
   have hn:n<1099511627776:=of_decide_eq_true (ht (decide (n<1099511627776)) (by simp))
   have h0:bG (iG uX) 100 ((items (af Tryz.f204)).take 2) ⟨t0 Tryz.f204 [aN n,QY x],[]⟩ (Zh [0,5] [1] 2 [(1,0)] 1)=
    aS [decide ((0+x.length)*8≤140737488355328),decide (0+x.length<4611686018427387904)] (.done .normal (stO n x (0+x.length))):=by kernel_rfl
   rw [ai (aF (by rw [decide_eq_true_iff]; omega) (aU (by rw [decide_eq_true_iff]; omega)))] at h0
   rw [Nat.zero_add] at h0
   refine bM.items _ _ _ (ae.amI (dB sP) rfl (k:=2) h0 ?_)
   refine ae.loop (id:=0) (by kernel_rfl) (fun m s=> ∃ y,s=stO n y y.length∧m=n.toNat - y.length∧uL n y=uL n x∧y.length<2199023255552) (n.toNat - x.length) ⟨x,rfl,rfl,rfl,by omega⟩ ?_
   rintro m s ⟨y,rfl,hm,hy,hyl⟩
   have hevN: ∀ k,bG (iG uX) 100 (items (aY (af Tryz.f204) 2)) (stO n y k) (Zh [0,5] [2] 3 [(2,0)] 1)=
    aS [dG .i64 (k:Nat)] (bif decide (((k:Nat):Int)<n) then
     aS [decide (k≤y.length),decide (k≤k),decide ((k+1)*8≤140737488355328),decide (k+1<4611686018427387904)] (.done .normal (stO n (y.take k++ [[.i 1]]) (k+1)))
     else .fail 11):=by intro k; kernel_rfl
   have hevE: ∀ k,bG (iG uX) 100 (items (aY (af Tryz.f204) 2)) (stO n y k) (iF 0 [0,5] [0] 1)=
    aS [dG .i64 (k:Nat)] (bif decide (((k:Nat):Int)<n) then
     aS [decide (k≤y.length),decide (k≤k),decide ((k+1)*8≤140737488355328),decide (k+1<4611686018427387904)] (.fail 11)
     else .done (.exit 0) (stO n y k)):=by intro k; kernel_rfl
   have h1:=hevN y.length
   have h2:=hevE y.length
   clear hevN hevE
   have hk:allT [dG .i64 (y.length:Nat)]:=aU (kQ (by omega) (by omega))
   rw [ai hk] at h1 h2
   cases hb:decide (((y.length:Nat):Int)<n) with
   | true=>
     rw [hb] at h1
     have hlt:((y.length:Nat):Int)<n:=of_decide_eq_true hb
     rw [cond_true,ai (aF (by simp) (aF (by simp) (aF (by rw [decide_eq_true_iff]; omega) (aU (by rw [decide_eq_true_iff]; omega))))),List.take_length] at h1
     refine ae.allM (dB sP) rfl h1 ⟨m - 1,by omega,y++ [[.i 1]],by rw [List.length_append]; rfl,by rw [List.length_append]; simp only [List.length_cons,List.length_nil]; omega,?_,by rw [List.length_append]; simp only [List.length_cons,List.length_nil]; omega⟩
     rw [← hy]
     unfold uL
     rw [List.length_append,List.append_assoc]
     congr 1
     have:n.toNat - y.length=(n.toNat - (y.length+1))+1:=by omega
     rw [this,List.replicate_succ]
     rfl
   | false=>
     rw [hb,cond_false] at h2
     have hge: ¬ ((y.length:Nat):Int)<n:=of_decide_eq_false hb
     refine ae.di (dB sP) h2 ?_
     have hyy:uL n x=y:=by
      rw [← hy]
      unfold uL
      have:n.toNat - y.length=0:=by omega
      rw [this,List.replicate_zero,List.append_nil]
     rw [hyy]
     exact bZ (dB sP) (n:=100) (bs0:= [⟨3, .row [.int .i64] y⟩]) (by kernel_rfl) (aL.refl _) ⟨rfl,kF.refl _,fun ts h=> ⟨ts,h⟩⟩
 · cases hF
end Go.Proofs.YtcgmcohkkigphaaGreat

/-
  Contracts of the document's numbers: powers.
-/
namespace Go.Proofs.YtcgmcohkkigphaaGreat
open Go Vx Go.RowKit

noncomputable def aiA:List D→Option (List Bool × V)
 | [.i n]=> some ([],tF (aH n.toNat))
 | _=> none
noncomputable def ad9:aj:=spec [Au] aiA
noncomputable abbrev aeO:List (FuncId × aj):= [(201,Xi)]
theorem aeW:aD Tryz.prog (aK aeO):=(.cons Zy .nil)
theorem LG:bg Tryz.prog 161 ad9:=by
 refine az (cx:=dx aeO) (c:=af Tryz.f161) Tryz.func161 (by kernel_rfl) (by kernel_rfl) rfl ?_
 intro ds chk v vs hF ht he hr base
 unfold aiA at hF
 split at hF
 · rename_i n
   cases hF
   have hvs:vs= [j6 n]:=by simp only [bq,bn,bF,bD,Option.some.injEq] at he; exact he.symm
   subst hvs
   exact aB (bS aeW) (n:=400) (bs0:= []) (by kernel_rfl) (aL.refl _) trivial
 · cases hF

def mU (x:List (List D)):Nat:=x.foldr (fun d r=> (bif decide ((d.headD (.n 0)).xy=1) then 1 else 0)+2*r) 0
def stW (a:Nat) (x:List (List D)) (i:Int) (c:Nat):St:=⟨[.aC,QY x, .one (.ptr 0 0), .aC, .one (.ptr 1 0), .one (.ptr 3 0),aN i]++List.replicate 20 .aC,
 [some ⟨147, .ps [.pk .u64 32 8 a]⟩,some ⟨147, .ps (dl fun _=> 0)⟩,none,some ⟨147, .ps [.pk .u64 32 8 c]⟩]⟩
theorem Wj (a e:Nat):ah (gF a e) (gF a e)=gF a (2*e):=by
 rw [lZ,l5,l5,← Nat.mul_mod,← Nat.pow_add]
 congr 2; omega
theorem pow_one (a e:Nat):ah (gF a e) a=gF a (1+e):=by
 rw [lZ,l5,l5,Nat.mod_mul_mod,← Nat.pow_succ]
 congr 2; omega
theorem YC (a:Nat) {x:List (List D)} {j:Nat} (h:j<x.length):gF a (mU (x.drop j))=
 bif decide (((x.getD j []).headD (.n 0)).xy=1) then ah (ah (gF a (mU (x.drop (j+1)))) (gF a (mU (x.drop (j+1))))) a else ah (gF a (mU (x.drop (j+1)))) (gF a (mU (x.drop (j+1)))):=by
 rw [List.drop_eq_getElem_cons h,List.getD_eq_getElem?_getD,List.getElem?_eq_getElem h,Option.getD_some]
 have:mU (x[j]::x.drop (j+1))=(bif decide ((x[j].headD (.n 0)).xy=1) then 1 else 0)+2*mU (x.drop (j+1)):=rfl
 rw [this]
 cases decide ((x[j].headD (.n 0)).xy=1) with
 | true=> simp only [cond_true]; rw [Wj,pow_one]
 | false=> simp only [cond_false]; rw [Wj,Nat.zero_add]

noncomputable def PM:List D→Option (List Bool × V)
 | [.n a, .l x]=> some ([decide (x.length<1099511627776)],tF (gF a (mU x)))
 | _=> none
noncomputable def Dr:aj:=spec [Uk,aiN] PM
noncomputable abbrev wE:List (FuncId × aj):= [(161,ad9),(159,JG)]
theorem mI:aD Tryz.prog (aK wE):=(.cons LG (.cons zJ .nil))
theorem Bg:bg Tryz.prog 203 Dr:=by
 refine az (cx:=iG wE) (c:=af Tryz.f203) Tryz.func203 (by kernel_rfl) (by kernel_rfl) rfl ?_
 intro ds chk v vs hF ht he hr base
 unfold PM at hF
 split at hF
 · rename_i a x
   cases hF
   have hvs:vs= [tF a,QY x]:=by simp only [bq,bn,bF,bD,Option.some.injEq] at he; exact he.symm
   subst hvs
   have hx:x.length<1099511627776:=of_decide_eq_true (ht _ (by simp))
   have h0:bG (iG wE) 100 ((items (af Tryz.f203)).take 3) ⟨t0 Tryz.f203 [tF a,QY x],[]⟩ (iF 0 [1,2,4,5,6] [0,1,3] 4)=
    aS [dG .i64 (x.length:Nat),dG .i64 ((x.length:Nat) - 1)] (.done .normal (stW a x ((x.length:Nat) - 1) (aH 1))):=by kernel_rfl
   rw [ai (aF (kQ (by omega) (by omega)) (aU (kQ (by omega) (by omega))))] at h0
   refine bM.items _ _ _ (ae.fw (dB mI) (k:=3) h0 ?_)
   refine ae.loop (id:=0) (by kernel_rfl) (fun m s=> ∃ c,s=stW a x ((m:Int) - 1) c∧m≤x.length∧c=gF a (mU (x.drop m))) x.length ⟨_,rfl,Nat.le_refl _,?_⟩ ?_
   · rw [List.drop_length,ed,l5]
     rfl
   rintro m s ⟨c,rfl,hm,hc⟩
   cases m with
   | zero=>
     refine ae.di (dB mI) (n:=100) (kt:= [1,2,4,5,6]) (kh:= [0,1,3]) (m:=4) (e:= .exit 0) (st':=stW a x (-1) c) (by kernel_rfl) ?_
     have:gF a (mU x)=c:=by rw [hc]; rfl
     rw [this]
     exact bZ (dB mI) (n:=100) (bs0:= []) (by kernel_rfl) (aL.refl _) trivial
   | succ j=>
     have hj:j<x.length:=hm
     have hi:((j+1:Nat):Int) - 1=(j:Int):=by omega
     rw [hi]
     have hev:bG (iG wE) 100 (items (aY (af Tryz.f203) 3)) (stW a x (j:Int) c) (iF 0 [1,2,4,5,6] [0,1,3] 4)=
      aS [decide ((0:Int)≤(j:Int)),decide ((j:Int)<(x.length:Int))]
       (bif decide (((x.getD (j:Int).toNat []).headD (.n 0)).xy=1) then
        aS [dG .i64 ((j:Int) - 1)] (.done .normal (stW a x ((j:Int) - 1) (ah (ah c c) a)))
       else aS [dG .i64 ((j:Int) - 1)] (.done .normal (stW a x ((j:Int) - 1) (ah c c)))):=by kernel_rfl
     have hc1:allT [decide ((0:Int)≤(j:Int)),decide ((j:Int)<(x.length:Int))]:=aF (by rw [decide_eq_true_iff]; omega) (aU (by rw [decide_eq_true_iff]; omega))
     have hc2:allT [dG .i64 ((j:Int) - 1)]:=aU (kQ (by omega) (by omega))
     rw [ai hc1,ai hc2,ai hc2,Int.toNat_natCast] at hev
     have hstep:=YC a hj
     cases hb:decide (((x.getD j []).headD (.n 0)).xy=1) with
     | true=>
       rw [hb,cond_true] at hev hstep
       exact ae.di (dB mI) hev ⟨j,Nat.lt_succ_self j,_,rfl,Nat.le_of_lt hj,by rw [hc,hstep]⟩
     | false=>
       rw [hb,cond_false] at hev hstep
       exact ae.di (dB mI) hev ⟨j,Nat.lt_succ_self j,_,rfl,Nat.le_of_lt hj,by rw [hc,hstep]⟩
 · cases hF

def ah2:List (List D):=uL 255 [[.i 1],[.i 1],[.i 0],[.i 1],[.i 0]]
def ah3:List (List D):=uL 253 [[.i 1],[.i 1],[.i 0],[.i 1]]
def ah4:List (List D):=uL 252 [[.i 0]]
theorem acE (a:Nat):gF a (mU ah2)=fI a:=by
 have:mU ah2=pP - 2:=by decide+kernel
 rw [this,Db]
theorem acF:gF (aH 2) (mU ah3)=iP:=by
 have:mU ah3=Ig pP 2:=by rw [Dv]; decide+kernel
 rw [this,abJ,ed]
 congr 1
def e3:Nat:=7237005577332262213973186563042994240829374041602535252466099000494570602494
theorem acG:mU ah4=e3:=by decide+kernel

noncomputable def ad4:List D→Option (List Bool × V)
 | [.n a]=> some ([],tF (fI a))
 | _=> none
noncomputable def ad3:aj:=spec [Uk] ad4
noncomputable abbrev XV:List (FuncId × aj):= [(204,Ma),(203,Dr)]
theorem aan:aD Tryz.prog (aK XV):=(.cons FK (.cons Bg .nil))
theorem V6:bg Tryz.prog 170 ad3:=by
 refine az (cx:=iG XV) (c:=af Tryz.f170) Tryz.func170 (by kernel_rfl) (by kernel_rfl) rfl ?_
 intro ds chk v vs hF ht he hr base
 unfold ad4 at hF
 split at hF
 · rename_i a
   cases hF
   have hvs:vs= [tF a]:=by simp only [bq,bn,bF,bD,Option.some.injEq] at he; exact he.symm
   subst hvs
   rw [← acE]
   exact aB (dB aan) (n:=200) (bs0:= []) (by kernel_rfl) (aL.refl _) trivial
 · cases hF

noncomputable def alP:List D→Option (List Bool × V)
 | []=> some ([],tF iP)
 | _=> none
noncomputable def sNI:aj:=spec [] alP
noncomputable abbrev aiK:List (FuncId × aj):= [(204,Ma),(203,Dr),(161,ad9)]
theorem aha:aD Tryz.prog (aK aiK):=(.cons FK (.cons Bg (.cons LG .nil)))
theorem ah1:bg Tryz.prog 164 sNI:=by
 refine az (cx:=iG aiK) (c:=af Tryz.f164) Tryz.func164 (by kernel_rfl) (by kernel_rfl) rfl ?_
 intro ds chk v vs hF ht he hr base
 unfold alP at hF
 split at hF
 · cases hF
   have hvs:vs= []:=by simp only [bq,Option.some.injEq] at he; exact he.symm
   subst hvs
   rw [← acF]
   exact aB (dB aha) (n:=200) (bs0:= []) (by kernel_rfl) (aL.refl _) trivial
 · cases hF
end Go.Proofs.YtcgmcohkkigphaaGreat

/-
  Contracts of the document's numbers: sums, opposites, signs, bytes.
-/
namespace Go.Proofs.YtcgmcohkkigphaaGreat
open Go Vx Go.RowKit

theorem Tj {n:Nat} (h:Ti (tF n)):n<115792089237316195423570985008687907853269984665640564039457584007913129639936:=by
 have:n<2^(32*8):=h.1
 exact this
theorem Kt {n:Nat} (h:n<115792089237316195423570985008687907853269984665640564039457584007913129639936):aR (dg n) 8=(n:Int):=by
 have:aR (dg n) 8=((n % 2^(32*8):Nat):Int):=mE n 8
 rw [this,show (2:Nat)^(32*8)=115792089237316195423570985008687907853269984665640564039457584007913129639936 from by decide+kernel,Nat.mod_eq_of_lt h]
def wS (a b:Nat) (i:Nat):Int:=ak .u64 (dg a i+dg b i)
theorem aaL (a b i:Nat):wS a b i=dg a i+dg b i:=by
 have h1:=fF a i
 have h2:=fF b i
 simp only [wS,ak]; omega
theorem afw {a b:Nat} (ha:a<115792089237316195423570985008687907853269984665640564039457584007913129639936) (hb:b<115792089237316195423570985008687907853269984665640564039457584007913129639936):Br (aR (wS a b) 8)=bH a b:=by
 have hs: ∀ m,aR (wS a b) m=aR (dg a) m+aR (dg b) m:=by
  intro m
  induction m with
  | zero=> simp [aR]
  | succ m ih=>
    have e1:aR (wS a b) (m+1)=aR (wS a b) m+wS a b m*2^(32*m):=rfl
    have e2:aR (dg a) (m+1)=aR (dg a) m+dg a m*2^(32*m):=rfl
    have e3:aR (dg b) (m+1)=aR (dg b) m+dg b m*2^(32*m):=rfl
    rw [e1,e2,e3,ih,aaL,Int.add_mul]; omega
 rw [hs,Kt ha,Kt hb,vW,yI]
 unfold pP
 clear hs
 omega

def ngP (i:Nat):Int:=4294967296+eY i
def Oq (a:Nat):Nat→Int
 | 0=> 0
 | i+1=> ak .u64 (1 - ak .u64 (ak .u64 (ngP i - dg a i) - Oq a i) / 4294967296)
def uG (a:Nat) (i:Nat):Int:=ak .u64 (ak .u64 (ngP i - dg a i) - Oq a i) % 4294967296
theorem Jc (a:Nat): ∀ i,0≤Oq a i∧Oq a i≤1∧aR (uG a) i+aR (dg a) i=aR eY i+Oq a i*2^(32*i)
 | 0=> by simp [Oq,aR]
 | i+1=> by
   obtain ⟨h1,h2,h3⟩:=Jc a i
   obtain ⟨h4,h5⟩:=fF a i
   obtain ⟨h6,h7⟩:=xW i
   have hw:ak .u64 (ak .u64 (ngP i - dg a i) - Oq a i)=4294967296+eY i - dg a i - Oq a i:=by
    simp only [ak,ngP]; omega
   have ho:uG a i=(4294967296+eY i - dg a i - Oq a i) % 4294967296:=by rw [uG,hw]
   have hb:Oq a (i+1)=1 - (4294967296+eY i - dg a i - Oq a i) / 4294967296:=by
    rw [Oq,hw]
    simp only [ak]; omega
   refine ⟨by rw [hb]; omega,by rw [hb]; omega,?_⟩
   have hs:uG a i+dg a i+Oq a i=eY i+Oq a (i+1)*4294967296:=by rw [ho,hb]; omega
   have hp:(2:Int)^(32*(i+1))=4294967296*2^(32*i):=by
    rw [Nat.mul_succ,Int.pow_add,Int.mul_comm]; rfl
   rw [aR,aR.eq_def (dg a),aR.eq_def eY,hp]
   simp only []
   generalize (2:Int)^(32*i)=P at*
   have:uG a i*P+dg a i*P+Oq a i*P=eY i*P+Oq a (i+1)*(4294967296*P):=by
    rw [← Int.mul_assoc,← Int.add_mul,← Int.add_mul,← Int.add_mul,hs]
   omega
theorem VP (a i:Nat):0≤uG a i∧uG a i<4294967296:=⟨Int.emod_nonneg _ (by decide),Int.emod_lt_of_pos _ (by decide)⟩
noncomputable def uF:Nat→Nat:=aA fun a=> if a≤pP then (pP - a) % pP else (pP+115792089237316195423570985008687907853269984665640564039457584007913129639936 - a) % pP
theorem VL (a:Nat):uF a=if a≤pP then (pP - a) % pP else (pP+115792089237316195423570985008687907853269984665640564039457584007913129639936 - a) % pP:=by unfold uF; rw [aO]
theorem agj {a:Nat} (ha:a<115792089237316195423570985008687907853269984665640564039457584007913129639936):Br (aR (uG a) 8)=uF a:=by
 obtain ⟨h1,h2,h3⟩:=Jc a 8
 obtain ⟨h4,h5⟩:=jM (d:=uG a) 8 (fun i _=> VP a i)
 rw [Kt ha,xX,show (2:Int)^(32*8)=115792089237316195423570985008687907853269984665640564039457584007913129639936 from by decide+kernel] at h3
 rw [show (2:Int)^(32*8)=115792089237316195423570985008687907853269984665640564039457584007913129639936 from by decide+kernel] at h5
 rw [vW,VL]
 unfold pP
 generalize aR (uG a) 8=s at*
 generalize Oq a 8=t at*
 have ht:t=0∨t=1:=by omega
 split
 · rcases ht with rfl | rfl<;> omega
 · rcases ht with rfl | rfl<;> omega
noncomputable def wO:Nat→Bool:=aA fun a=> decide (a % 2=1)
theorem VU (a:Nat):wO a=decide (a % 2=1):=by unfold wO; rw [aO]
noncomputable def oC (a:Nat):Nat:=bif wO a then uF a else a

noncomputable def ad2:List D→Option (List Bool × V)
 | [.n a, .n b]=> some ([],tF (bH a b))
 | _=> none
noncomputable def ad1:aj:=spec [Uk,Uk] ad2
noncomputable abbrev XU:List (FuncId × aj):= [(200,qK)]
theorem aam:aD Tryz.prog (aK XU):=(.cons ou .nil)
theorem V5:bg Tryz.prog 172 ad1:=by
 refine az (cx:=dx XU) (c:=af Tryz.f172) Tryz.func172 (by kernel_rfl) (by kernel_rfl) rfl ?_
 intro ds chk v vs hF ht he hr base
 unfold ad2 at hF
 split at hF
 · rename_i a b
   cases hF
   have hvs:vs= [tF a,tF b]:=by simp only [bq,bn,bF,bD,Option.some.injEq] at he; exact he.symm
   subst hvs
   obtain ⟨h1,h2,_⟩:=hr
   have hck:allT [bV (wS a b 0),bV (wS a b 1),bV (wS a b 2),bV (wS a b 3),bV (wS a b 4),bV (wS a b 5),bV (wS a b 6),bV (wS a b 7)]:=by
    have q: ∀ i,bV (wS a b i)=true:=fun i=> by rw [vO,decide_eq_true_iff]; have h1:=fF a i; have h2:=fF b i; rw [aaL]; omega
    exact aF (q 0) (aF (q 1) (aF (q 2) (aF (q 3) (aF (q 4) (aF (q 5) (aF (q 6) (aU (q 7))))))))
   rw [← afw (Tj h1) (Tj h2),← wy]
   exact aB (bS aam) (n:=200) (bs0:= []) (h:=Eq.trans (b:=aS [bV (wS a b 0),bV (wS a b 1),bV (wS a b 2),bV (wS a b 3),bV (wS a b 4),bV (wS a b 5),bV (wS a b 6),bV (wS a b 7)] (aV (tF (Br (BF (wS a b 0) (wS a b 1) (wS a b 2) (wS a b 3) (wS a b 4) (wS a b 5) (wS a b 6) (wS a b 7)))))) (by kernel_rfl) (ai hck)) (aL.refl _) trivial
 · cases hF

noncomputable def ad6:List D→Option (List Bool × V)
 | [.n a]=> some ([],tF (uF a))
 | _=> none
noncomputable def PL:aj:=spec [Uk] ad6
noncomputable abbrev XX:List (FuncId × aj):= [(200,qK),(206,Dt)]
theorem aao:aD Tryz.prog (aK XX):=(.cons ou (.cons Bh .nil))
theorem Dl:bg Tryz.prog 166 PL:=by
 refine az (cx:=dx XX) (c:=af Tryz.f166) Tryz.func166 (by kernel_rfl) (by kernel_rfl) rfl ?_
 intro ds chk v vs hF ht he hr base
 unfold ad6 at hF
 split at hF
 · rename_i a
   cases hF
   have hvs:vs= [tF a]:=by simp only [bq,bn,bF,bD,Option.some.injEq] at he; exact he.symm
   subst hvs
   obtain ⟨h1,_⟩:=hr
   have hck:allT [bV (uG a 0),bV (uG a 1),bV (uG a 2),bV (uG a 3),bV (uG a 4),bV (uG a 5),bV (uG a 6),bV (uG a 7)]:=by
    have q: ∀ i,bV (uG a i)=true:=fun i=> by rw [vO,decide_eq_true_iff]; have h1:=VP a i; omega
    exact aF (q 0) (aF (q 1) (aF (q 2) (aF (q 3) (aF (q 4) (aF (q 5) (aF (q 6) (aU (q 7))))))))
   rw [← agj (Tj h1),← wy]
   exact aB (bS aao) (n:=200) (bs0:= []) (h:=Eq.trans (b:=aS [bV (uG a 0),bV (uG a 1),bV (uG a 2),bV (uG a 3),bV (uG a 4),bV (uG a 5),bV (uG a 6),bV (uG a 7)] (aV (tF (Br (BF (uG a 0) (uG a 1) (uG a 2) (uG a 3) (uG a 4) (uG a 5) (uG a 6) (uG a 7)))))) (by kernel_rfl) (ai hck)) (aL.refl _) trivial
 · cases hF

noncomputable def aec:List D→Option (List Bool × V)
 | [.n a, .n b]=> some ([],tF (bH a (uF b)))
 | _=> none
noncomputable def aiC:aj:=spec [Uk,Uk] aec
noncomputable abbrev XZ:List (FuncId × aj):= [(172,ad1),(166,PL)]
theorem aaq:aD Tryz.prog (aK XZ):=(.cons V5 (.cons Dl .nil))
theorem agr:bg Tryz.prog 160 aiC:=by
 refine az (cx:=dx XZ) (c:=af Tryz.f160) Tryz.func160 (by kernel_rfl) (by kernel_rfl) rfl ?_
 intro ds chk v vs hF ht he hr base
 unfold aec at hF
 split at hF
 · rename_i a b
   cases hF
   have hvs:vs= [tF a,tF b]:=by simp only [bq,bn,bF,bD,Option.some.injEq] at he; exact he.symm
   subst hvs
   exact aB (bS aaq) (n:=400) (bs0:= []) (by kernel_rfl) (aL.refl _) trivial
 · cases hF

theorem ajM (a:Nat):decide ((((digit 32 a 0:Nat):Int)) % 2=1)=wO a:=by
 rw [VU]
 refine decide_eq_decide.2 ?_
 unfold digit
 rw [Nat.mul_zero,Nat.pow_zero,Nat.div_one]
 have:(2:Nat)^32=4294967296:=by decide
 rw [this]
 omega

noncomputable def ad8:List D→Option (List Bool × V)
 | [.n a]=> some ([],bI (wO a))
 | _=> none
noncomputable def ad7:aj:=spec [Uk] ad8
noncomputable abbrev XY:List (FuncId × aj):= []
theorem aap:aD Tryz.prog (aK XY):=aD.nil
theorem V7:bg Tryz.prog 163 ad7:=by
 refine az (cx:=dx XY) (c:=af Tryz.f163) Tryz.func163 (by kernel_rfl) (by kernel_rfl) rfl ?_
 intro ds chk v vs hF ht he hr base
 unfold ad8 at hF
 split at hF
 · rename_i a
   cases hF
   have hvs:vs= [tF a]:=by simp only [bq,bn,bF,bD,Option.some.injEq] at he; exact he.symm
   subst hvs
   rw [← ajM]
   exact aB (bS aap) (n:=200) (bs0:= []) (by kernel_rfl) (aL.refl _) trivial
 · cases hF

def QI (b:Bool) (x y:Nat):Out:=bif b then aV (tF x) else aV (tF y)
theorem QJ (b:Bool) (x y:Nat):QI b x y=aV (tF (bif b then x else y)):=by cases b<;> rfl

noncomputable def adZ:List D→Option (List Bool × V)
 | [.n a]=> some ([],tF (oC a))
 | _=> none
noncomputable def adY:aj:=spec [Uk] adZ
noncomputable abbrev XT:List (FuncId × aj):= [(163,ad7),(166,PL)]
theorem aal:aD Tryz.prog (aK XT):=(.cons V7 (.cons Dl .nil))
theorem V4:bg Tryz.prog 168 adY:=by
 refine az (cx:=dx XT) (c:=af Tryz.f168) Tryz.func168 (by kernel_rfl) (by kernel_rfl) rfl ?_
 intro ds chk v vs hF ht he hr base
 unfold adZ at hF
 split at hF
 · rename_i a
   cases hF
   have hvs:vs= [tF a]:=by simp only [bq,bn,bF,bD,Option.some.injEq] at he; exact he.symm
   subst hvs
   exact aB (bS aal) (n:=200) (bs0:= []) (h:=Eq.trans (b:=QI (wO a) (uF a) a) (by kernel_rfl) (QJ _ _ _)) (aL.refl _) trivial
 · cases hF

noncomputable def Xj:List D→Option (List Bool × V)
 | [.n a]=> some ([],bI (dS [decide (a=0)]))
 | _=> none
noncomputable def Tq:aj:=spec [Uk] Xj
noncomputable abbrev Qm:List (FuncId × aj):= []
theorem T9:aD Tryz.prog (aK Qm):=aD.nil
theorem OH:bg Tryz.prog 174 Tq:=by
 refine az (cx:=dx Qm) (c:=af Tryz.f174) Tryz.func174 (by kernel_rfl) (by kernel_rfl) rfl ?_
 intro ds chk v vs hF ht he hr base
 unfold Xj at hF
 split at hF
 · rename_i a
   cases hF
   have hvs:vs= [tF a]:=by simp only [bq,bn,bF,bD,Option.some.injEq] at he; exact he.symm
   subst hvs
   exact aB (bS T9) (n:=200) (bs0:= []) (by kernel_rfl) (aL.refl _) trivial
 · cases hF
end Go.Proofs.YtcgmcohkkigphaaGreat

/-
  Contracts of the document's numbers: roots, bytes.
-/
namespace Go.Proofs.YtcgmcohkkigphaaGreat
open Go Vx Go.RowKit

noncomputable def agZ (w:Nat):Nat:=bif decide (ah (gF w e3) (gF w e3)=w) then gF w e3 else ah (gF w e3) iP
noncomputable def Ci:Nat→Nat:=aA agZ
theorem adv (w:Nat):Ci w=agZ w:=by unfold Ci; rw [aO]
noncomputable def rtB:Nat→Bool:=aA fun w=> decide (ah (Ci w) (Ci w)=w)
theorem adu (w:Nat):rtB w=decide (ah (Ci w) (Ci w)=w):=by unfold rtB; rw [aO]
noncomputable def Ur (w x:Nat):Out:=
 bif !dS [decide (ah x x=w)] then aV (.dX [MO (oC (ah x iP)),bY (dS [decide (ah (ah x iP) (ah x iP)=w)])]) else aV (.dX [MO (oC x),bY (dS [decide (ah x x=w)])])
theorem aaz (w:Nat):Ur w (gF w e3)=aV (.dX [MO (oC (Ci w)),bY (rtB w)]):=by
 rw [adu,adv]
 unfold agZ Ur
 generalize gF w e3=x
 simp only [dS]
 cases h:decide (ah x x=w) with
 | true=> simp [h]
 | false=> simp

noncomputable def aiB:List D→Option (List Bool × V)
 | [.n w]=> some ([], .dX [MO (oC (Ci w)),bY (rtB w)])
 | _=> none
noncomputable def alQ:aj:=spec [Uk] aiB
noncomputable abbrev aeP:List (FuncId × aj):= [(203,Dr),(204,Ma),(159,JG),(164,sNI),(168,adY)]
theorem aeX:aD Tryz.prog (aK aeP):=(.cons Bg (.cons FK (.cons zJ (.cons ah1 (.cons V4 .nil)))))
theorem ajP:bg Tryz.prog 202 alQ:=by
 refine az (cx:=iG aeP) (c:=af Tryz.f202) Tryz.func202 (by kernel_rfl) (by kernel_rfl) rfl ?_
 intro ds chk v vs hF ht he hr base
 unfold aiB at hF
 split at hF
 · rename_i w
   cases hF
   have hvs:vs= [tF w]:=by simp only [bq,bn,bF,bD,Option.some.injEq] at he; exact he.symm
   subst hvs
   exact aB (dB aeX) (n:=200) (bs0:= []) (h:=Eq.trans (b:=Ur w (gF w (mU ah4))) (by kernel_rfl) (by rw [acG]; exact aaz w)) (aL.refl _) trivial
 · cases hF

def b8 (n i:Nat):Int:=ak .u64 ((digit 8 n i:Nat):Int)
def mF (n i:Nat):Int:=ak .u64 (ak .u64 (256*ak .u64 (ak .u64 (256*ak .u64 (ak .u64 (256*ak .u64 (0+b8 n (4*i+3)))+b8 n (4*i+2)))+b8 n (4*i+1)))+b8 n (4*i))
theorem UG (n i:Nat):b8 n i=((digit 8 n i:Nat):Int)∧0≤b8 n i∧b8 n i<256:=by
 have h:digit 8 n i<256:=Nat.mod_lt _ (by decide)
 unfold b8
 simp only [ak]
 omega
theorem amv (n i:Nat):((digit 32 n i:Nat):Int)=16777216*(digit 8 n (4*i+3):Nat)+65536*(digit 8 n (4*i+2):Nat)+256*(digit 8 n (4*i+1):Nat)+(digit 8 n (4*i):Nat):=by
 unfold digit
 have e0:n / 2^(8*(4*i))=n / 2^(32*i):=by congr 2; omega
 have e1:n / 2^(8*(4*i+1))=n / 2^(32*i) / 256:=by rw [Nat.div_div_eq_div_mul,show (256:Nat)=2^8 from rfl,← Nat.pow_add]; congr 2; omega
 have e2:n / 2^(8*(4*i+2))=n / 2^(32*i) / 65536:=by rw [Nat.div_div_eq_div_mul,show (65536:Nat)=2^16 from rfl,← Nat.pow_add]; congr 2; omega
 have e3:n / 2^(8*(4*i+3))=n / 2^(32*i) / 16777216:=by rw [Nat.div_div_eq_div_mul,show (16777216:Nat)=2^24 from rfl,← Nat.pow_add]; congr 2; omega
 rw [e0,e1,e2,e3]
 generalize n / 2^(32*i)=m
 rw [show (2:Nat)^32=4294967296 from by decide,show (2:Nat)^8=256 from by decide]
 omega
theorem Td (n i:Nat):mF n i=dg n i:=by
 have h0:=UG n (4*i)
 have h1:=UG n (4*i+1)
 have h2:=UG n (4*i+2)
 have h3:=UG n (4*i+3)
 have h4:=amv n i
 unfold mF dg
 generalize b8 n (4*i)=x0 at*
 generalize b8 n (4*i+1)=x1 at*
 generalize b8 n (4*i+2)=x2 at*
 generalize b8 n (4*i+3)=x3 at*
 simp only [ak]
 omega
theorem aj8 {n:Nat} (h:n<115792089237316195423570985008687907853269984665640564039457584007913129639936):aR (mF n) 8=(n:Int):=by
 rw [jZ 8 (fun i _=> Td n i)]
 exact Kt h
theorem aj7 (n:Nat):Br (n:Int)=aH n:=by
 rw [vW,ed]
 unfold pP
 omega
theorem aj9 (n:Nat):Zn (n:Int)=uD n:=by
 rw [Lc,Dc]
 refine decide_eq_decide.2 ?_
 unfold pP
 omega

noncomputable def Xg:List D→Option (List Bool × V)
 | [.n n]=> some ([], .dX [MO (aH n),bY (uD n)])
 | _=> none
noncomputable def aea:aj:=spec [iq] Xg
noncomputable abbrev Qk:List (FuncId × aj):= [(200,qK),(207,L9)]
theorem TY:aD Tryz.prog (aK Qk):=(.cons ou (.cons Jf .nil))
theorem acs:bg Tryz.prog 171 aea:=by
 refine az (cx:=dx Qk) (c:=af Tryz.f171) Tryz.func171 (by kernel_rfl) (by kernel_rfl) rfl ?_
 intro ds chk v vs hF ht he hr base
 unfold Xg at hF
 split at hF
 · rename_i n
   cases hF
   have hvs:vs= [cB n]:=by simp only [bq,bn,bF,bD,Option.some.injEq] at he; exact he.symm
   subst hvs
   obtain ⟨h1,_⟩:=hr
   have hck:allT [bV (mF n 0),bV (mF n 1),bV (mF n 2),bV (mF n 3),bV (mF n 4),bV (mF n 5),bV (mF n 6),bV (mF n 7),iM (mF n 0),iM (mF n 1),iM (mF n 2),iM (mF n 3),iM (mF n 4),iM (mF n 5),iM (mF n 6),iM (mF n 7)]:=by
    have q1: ∀ i,bV (mF n i)=true:=fun i=> by rw [vO,decide_eq_true_iff,Td]; have:=fF n i; omega
    have q2: ∀ i,iM (mF n i)=true:=fun i=> by rw [Ld,decide_eq_true_iff,Td]; have:=fF n i; omega
    exact (aF (q1 0) (aF (q1 1) (aF (q1 2) (aF (q1 3) (aF (q1 4) (aF (q1 5) (aF (q1 6) (aF (q1 7) (aF (q2 0) (aF (q2 1) (aF (q2 2) (aF (q2 3) (aF (q2 4) (aF (q2 5) (aF (q2 6) (aU (q2 7)))))))))))))))))
   rw [← aj7,← aj9,← aj8 (Dp h1),← wy]
   exact aB (bS TY) (n:=400) (bs0:= []) (h:=Eq.trans (b:=aS [bV (mF n 0),bV (mF n 1),bV (mF n 2),bV (mF n 3),bV (mF n 4),bV (mF n 5),bV (mF n 6),bV (mF n 7),iM (mF n 0),iM (mF n 1),iM (mF n 2),iM (mF n 3),iM (mF n 4),iM (mF n 5),iM (mF n 6),iM (mF n 7)] (aV (.dX [MO (Br (BF (mF n 0) (mF n 1) (mF n 2) (mF n 3) (mF n 4) (mF n 5) (mF n 6) (mF n 7))),bY (Zn (BF (mF n 0) (mF n 1) (mF n 2) (mF n 3) (mF n 4) (mF n 5) (mF n 6) (mF n 7)))]))) (by kernel_rfl) (ai hck)) (aL.refl _) trivial
 · cases hF
end Go.Proofs.YtcgmcohkkigphaaGreat

/-
  Contracts of the document's numbers: the root of a quotient; its numbers are the program's.
-/
namespace Go.Proofs.YtcgmcohkkigphaaGreat
open Go Vx Go.RowKit

abbrev uqt (x y z:Nat):U:= .ag (.ps [.pk .u64 32 8 x, .pk .u64 32 8 y, .pk .u64 32 8 z])
def afa:U:= .ag (.ps [z0,z0,z0,z0,z0,z0,z0,z0])
theorem GX:gN afa (MO 0):=gN.of (RH (e:=fun _=> 0) (n:=0) (fun _=> ⟨by decide,by decide⟩) (by simp [aR]))
noncomputable def nr0 (u v:Nat):Nat × Bool:=bif decide (u=0) then (0,true) else bif decide (v=0) then (0,false) else bif rtB (ah u (fI v)) then (oC (Ci (ah u (fI v))),true) else (oC (Ci (ah (ah u (fI v)) iP)),false)
noncomputable def nrR:Nat→Nat→Nat:=aA fun u v=> (nr0 u v).1
noncomputable def nrB:Nat→Nat→Bool:=aA fun u v=> (nr0 u v).2
theorem aca (u v:Nat):nrR u v=(nr0 u v).1:=by unfold nrR; rw [aO]
theorem ab7 (u v:Nat):nrB u v=(nr0 u v).2:=by unfold nrB; rw [aO]
def J2 (a b c:Bool) (x y:Nat):Out:=bif a then aV (.dX [afa,bY true]) else bif b then aV (.dX [afa,bY false]) else bif c then aV (.dX [MO x,bY true]) else aV (.dX [MO y,bY false])
def QW (a b c:Bool) (x y:Nat):V:=bif a then (.dX [afa,bY true]) else bif b then (.dX [afa,bY false]) else bif c then (.dX [MO x,bY true]) else (.dX [MO y,bY false])
theorem MG (a b c:Bool) (x y:Nat):J2 a b c x y=aV (QW a b c x y):=by cases a<;> cases b<;> cases c<;> rfl
theorem Zp (u v:Nat):aL (QW (dS [decide (u=0)]) (dS [decide (v=0)]) (rtB (ah u (fI v))) (oC (Ci (ah u (fI v)))) (oC (Ci (ah (ah u (fI v)) iP)))) (.dX [MO (nrR u v),bY (nrB u v)]):=by
 rw [aca,ab7]
 unfold nr0
 simp only [dS]
 generalize oC (Ci (ah u (fI v)))=x
 generalize oC (Ci (ah (ah u (fI v)) iP))=y
 generalize rtB (ah u (fI v))=c
 cases decide (u=0) with
 | true=> exact aL.tC GX (gN.refl _)
 | false=>
   cases decide (v=0) with
   | true=> exact aL.tC GX (gN.refl _)
   | false=> cases c<;> exact aL.refl _

noncomputable def Xh:List D→Option (List Bool × V)
 | [.n u, .n v]=> some ([], .dX [MO (nrR u v),bY (nrB u v)])
 | _=> none
noncomputable def aeb:aj:=spec [Uk,Uk] Xh
noncomputable abbrev Ql:List (FuncId × aj):= [(174,Tq),(159,JG),(170,ad3),(202,alQ),(164,sNI)]
theorem TZ:aD Tryz.prog (aK Ql):=(.cons OH (.cons zJ (.cons V6 (.cons ajP (.cons ah1 .nil)))))
theorem acu:bg Tryz.prog 162 aeb:=by
 refine az (cx:=dx Ql) (c:=af Tryz.f162) Tryz.func162 (by kernel_rfl) (by kernel_rfl) rfl ?_
 intro ds chk v vs hF ht he hr base
 unfold Xh at hF
 split at hF
 · rename_i u v
   cases hF
   have hvs:vs= [tF u,tF v]:=by simp only [bq,bn,bF,bD,Option.some.injEq] at he; exact he.symm
   subst hvs
   exact aB (bS TZ) (n:=200) (bs0:= []) (h:=Eq.trans (b:=J2 (dS [decide (u=0)]) (dS [decide (v=0)]) (rtB (ah u (fI v))) (oC (Ci (ah u (fI v)))) (oC (Ci (ah (ah u (fI v)) iP)))) (by kernel_rfl) (MG _ _ _ _ _)) (Zp u v) trivial
 · cases hF

theorem ahr:0<pP:=by decide
theorem zt {a:Nat} (h:a<pP):uF a=fJ a:=by
 rw [VL,oV,if_pos (Nat.le_of_lt h),Nat.mod_eq_of_lt h]
theorem Lt {a:Nat} (h:a<pP):wO a=nz a:=by rw [VU,rZ,Nat.mod_eq_of_lt h]
theorem yF {a:Nat} (h:a<pP):oC a=kZ a:=by
 unfold oC
 rw [Lt h,zt h,CQ,rZ,oV,Nat.mod_eq_of_lt h]
 by_cases ho:a % 2=1
 · rw [if_pos ho,decide_eq_true ho,cond_true]
 · rw [if_neg ho,decide_eq_false ho,cond_false]
theorem Dx {a b:Nat} (h:b<pP):bH a (uF b)=bX a b:=by rw [zt h,Gz]
theorem amw:e3=e3K:=rfl
theorem EZ {w:Nat} (h:w<pP):k (Ci w)=rx (k w)∧Ci w<pP:=by
 rw [adv]
 unfold agZ rx rxE
 have h1:k (gF w e3)=k w^e3K:=by rw [ahU,amw]
 have h2:gF w e3<pP:=agy _ _
 rw [← h1]
 generalize gF w e3=x at*
 have hd:decide (ah x x=w)=decide (k x*k x=k w):=by
  refine decide_eq_decide.2 ?_
  rw [← iy]
  exact ⟨fun e=> by rw [e],fun e=> BZ (dY _ _) h e⟩
 rw [hd]
 cases decide (k x*k x=k w) with
 | true=> exact ⟨rfl,h2⟩
 | false=> exact ⟨by simp only [cond_false,iy,Zg],dY _ _⟩
theorem alq {w:Nat} (h:w<pP):rtB w=decide (rx (k w)*rx (k w)=k w):=by
 rw [adu]
 refine decide_eq_decide.2 ?_
 rw [← (EZ h).1,← iy]
 exact ⟨fun e=> by rw [e],fun e=> BZ (dY _ _) h e⟩
theorem N7 {a:Nat} (h:a<pP):decide (a=0)=decide (k a=0):=by
 refine decide_eq_decide.2 ⟨fun e=> by rw [e]; rfl,fun e=> BZ h (by decide) e⟩
theorem amo (a b c:Bool) (x y:Nat):k (bif a then ((0:Nat),true) else bif b then (0,false) else bif c then (x,true) else (y,false)).1=(bif a then 0 else bif b then 0 else bif c then k x else k y)∧
 (bif a then ((0:Nat),true) else bif b then (0,false) else bif c then (x,true) else (y,false)).2=(bif a then true else bif b then false else c)∧
 (x<pP→y<pP→(bif a then ((0:Nat),true) else bif b then (0,false) else bif c then (x,true) else (y,false)).1<pP):=by
 cases a<;> cases b<;> cases c<;> simp only [cond_true,cond_false,La]<;> exact ⟨trivial,trivial,fun h1 h2=> by first | exact ahr | exact h1 | exact h2⟩
theorem ajI {u v:Nat} (hu:u<pP) (hv:v<pP):k (nrR u v)=nR rx (k u) (k v)∧nrB u v=nB rx (k u) (k v)∧nrR u v<pP:=by
 have hx:k (Ci (ah u (fI v)))=rx (k u*ik (k v)):=by rw [(EZ (dY u (fI v))).1,iy,abR]
 have hy:k (Ci (ah (ah u (fI v)) iP))=rx (k u*ik (k v)*kI):=by rw [(EZ (dY (ah u (fI v)) iP)).1,iy,iy,abR,Zg]
 have hb:rtB (ah u (fI v))=decide (rx (k u*ik (k v))*rx (k u*ik (k v))=k u*ik (k v)):=by rw [alq (dY _ _),iy,abR]
 have hx':k (oC (Ci (ah u (fI v))))=(rx (k u*ik (k v))).abs:=by rw [yF (EZ (dY u (fI v))).2,EX,hx]
 have hy':k (oC (Ci (ah (ah u (fI v)) iP)))=(rx (k u*ik (k v)*kI)).abs:=by rw [yF (EZ (dY (ah u (fI v)) iP)).2,EX,hy]
 have lx:oC (Ci (ah u (fI v)))<pP:=by rw [yF (EZ (dY u (fI v))).2]; exact J8 _
 have ly:oC (Ci (ah (ah u (fI v)) iP))<pP:=by rw [yF (EZ (dY (ah u (fI v)) iP)).2]; exact J8 _
 obtain ⟨b1,b2,b3⟩:=amo (decide (u=0)) (decide (v=0)) (rtB (ah u (fI v))) (oC (Ci (ah u (fI v)))) (oC (Ci (ah (ah u (fI v)) iP)))
 rw [aca,ab7]
 unfold nr0
 refine ⟨b1.trans ?_,b2.trans ?_,b3 lx ly⟩
 · rw [hx',hy',hb,N7 hu,N7 hv]
   unfold nR
   rfl
 · rw [hb,N7 hu,N7 hv]
   unfold nB
   rfl
theorem Ot {u v:Nat} (hu:u<pP) (hv:v<pP):nrR u v=dU u v∧nrB u v=kT u v:=by
 obtain ⟨h2,h3⟩:=nE u v
 obtain ⟨h4,h5⟩:=(acd alL (k u) (k v)).unique h2
 obtain ⟨k1,k2,k3⟩:=ajI hu hv
 exact ⟨BZ k3 h3 (k1.trans h4),k2.trans h5⟩
theorem acb {u v:Nat} (hu:u<pP) (hv:v<pP):nrR u v=dU u v:=(Ot hu hv).1
theorem ab8 {u v:Nat} (hu:u<pP) (hv:v<pP):nrB u v=kT u v:=(Ot hu hv).2
theorem adr (u v:Nat):dU u v<pP:=(nE u v).2
theorem M5:aH 1=1:=by rw [ed]; decide
theorem ams:aH 2=2:=by rw [ed]; decide
theorem LJ:1<pP:=by decide
end Go.Proofs.YtcgmcohkkigphaaGreat

/-
  Contracts of the document's curve.
-/
namespace Go.Proofs.YtcgmcohkkigphaaGreat
open Go Vx Go.RowKit

theorem aa5 {a:Nat} (h:a<pP):aH a=a:=by rw [ed,Nat.mod_eq_of_lt h]
theorem agT:ah (uF (aH 121665)) (fI (aH 121666))=dP:=by
 rw [abe,aa5 (by decide),aa5 (by decide),zt (by decide)]

noncomputable def alR:List D→Option (List Bool × V)
 | []=> some ([],tF dP)
 | _=> none
noncomputable def sQD:aj:=spec [] alR
noncomputable abbrev aiL:List (FuncId × aj):= [(159,JG),(166,PL),(161,ad9),(170,ad3)]
theorem ahb:aD Tryz.prog (aK aiL):=(.cons zJ (.cons Dl (.cons LG (.cons V6 .nil))))
theorem alv:bg Tryz.prog 173 sQD:=by
 refine az (cx:=dx aiL) (c:=af Tryz.f173) Tryz.func173 (by kernel_rfl) (by kernel_rfl) rfl ?_
 intro ds chk v vs hF ht he hr base
 unfold alR at hF
 split at hF
 · cases hF
   have hvs:vs= []:=by simp only [bq,Option.some.injEq] at he; exact he.symm
   subst hvs
   rw [← agT]
   exact aB (bS ahb) (n:=200) (bs0:= []) (by kernel_rfl) (aL.refl _) trivial
 · cases hF
end Go.Proofs.YtcgmcohkkigphaaGreat

/-
  Contracts of the document's elements: out of bytes.
-/
namespace Go.Proofs.YtcgmcohkkigphaaGreat
open Go Vx Go.RowKit

noncomputable def qU1 (s:Nat):Nat:=bH (aH 1) (uF (ah s s))
noncomputable def qU2 (s:Nat):Nat:=bH (aH 1) (ah s s)
noncomputable def qV (s:Nat):Nat:=bH (uF (ah dP (ah (qU1 s) (qU1 s)))) (uF (ah (qU2 s) (qU2 s)))
noncomputable def qW (s:Nat):Nat:=ah (qV s) (ah (qU2 s) (qU2 s))
noncomputable def qR (s:Nat):Nat:=nrR (aH 1) (qW s)
noncomputable def qX (s:Nat):Nat:=oC (ah (aH 2) (ah s (ah (qR s) (qU2 s))))
noncomputable def qY (s:Nat):Nat:=ah (ah (qU1 s) (qR s)) (ah (ah (qR s) (qU2 s)) (qV s))
noncomputable def pU1 (s:Nat):Nat:=bX 1 (ah s s)
noncomputable def pU2 (s:Nat):Nat:=bH 1 (ah s s)
noncomputable def pV (s:Nat):Nat:=bX (fJ (ah dP (ah (pU1 s) (pU1 s)))) (ah (pU2 s) (pU2 s))
noncomputable def pW (s:Nat):Nat:=ah (pV s) (ah (pU2 s) (pU2 s))
noncomputable def pR (s:Nat):Nat:=dU 1 (pW s)
noncomputable def pX (s:Nat):Nat:=kZ (ah (bH s s) (ah (pR s) (pU2 s)))
noncomputable def pY (s:Nat):Nat:=ah (pU1 s) (ah (ah (pR s) (ah (pR s) (pU2 s))) (pV s))
theorem aly (s:Nat):pW s<pP:=dY _ _
theorem alz (s:Nat):pY s<pP:=dY _ _
theorem adg (n:Nat):Bp n=(uD n && !nz (aH n) && (kT 1 (pW (aH n)) && !nz (ah (pX (aH n)) (pY (aH n))) && !lq (pY (aH n)) 0)):=rfl
theorem agQ (n:Nat):zT n=bif aJ n then ⟨pX (aH n),pY (aH n),1,ah (pX (aH n)) (pY (aH n))⟩ else QZ:=rfl
theorem ada (s:Nat):qU1 s=pU1 s:=by unfold qU1 pU1; rw [M5,Dx (dY _ _)]
theorem LQ (s:Nat):qU2 s=pU2 s:=by unfold qU2 pU2; rw [M5]
theorem aie (s:Nat):qV s=pV s:=by unfold qV pV; rw [ada,LQ,zt (dY dP _),Dx (dY _ _)]
theorem adb (s:Nat):qW s=pW s:=by unfold qW pW; rw [aie,LQ]
theorem aic (s:Nat):qR s=pR s:=by unfold qR pR; rw [adb,M5,acb LJ (aly s)]
theorem alr:k 2=1+1:=by decide+kernel
theorem aif (s:Nat):qX s=pX s:=by
 unfold qX pX
 rw [yF (dY _ _),aic,LQ,ams]
 congr 1
 refine BZ (dY _ _) (dY _ _) ?_
 simp only [iy,sS,alr]
 grind
theorem ade (s:Nat):qY s=pY s:=by
 unfold qY pY
 rw [aic,ada,LQ,aie]
 refine BZ (dY _ _) (dY _ _) ?_
 simp only [iy]
 grind
def Us:U:= .ag (.ps [z0,z0,z0,z0,z0,z0,z0,z0,z0,z0,z0,z0,z0,z0,z0,z0,z0,z0,z0,z0,z0,z0,z0,z0])
theorem afc:gN Us (uqt 0 0 0):=by
 intro σ x h
 obtain ⟨xs,e,hc⟩:=h
 obtain ⟨h1,h2,_⟩:=dm (m:=8) (a:= [z0,z0,z0,z0,z0,z0,z0,z0]) (r:= [z0,z0,z0,z0,z0,z0,z0,z0,z0,z0,z0,z0,z0,z0,z0,z0]) rfl hc
 obtain ⟨h3,h4,_⟩:=dm (m:=8) (a:= [z0,z0,z0,z0,z0,z0,z0,z0]) (r:= [z0,z0,z0,z0,z0,z0,z0,z0]) rfl h2
 have key: ∀ {ys:List Value},aX σ [z0,z0,z0,z0,z0,z0,z0,z0] ys→dV σ (.pk .u64 32 8 0) ys:=by
  intro ys hy
  obtain ⟨zs,e3,g1⟩:=GX σ (.agg ys.toArray) ⟨ys,rfl,hy⟩
  have:ys=zs:=by simpa using e3
  subst this
  obtain ⟨a1,a2,f1,l1,rfl⟩:=g1
  rw [List.append_nil] at f1
  rw [f1]; exact l1
 exact ⟨xs,e,xs.take 8,xs.drop 8,(List.take_append_drop 8 xs).symm,key h1,(xs.drop 8).take 8,(xs.drop 8).drop 8,(List.take_append_drop 8 _).symm,key h3,_,[],(List.append_nil _).symm,key h4,rfl⟩
def QP (b1 b2 b3 b4 b5:Bool) (x y o:Nat):Out:=
 bif !b1 then aV (.dX [Us,bY false]) else bif b2 then aV (.dX [Us,bY false]) else bif !b3 then aV (.dX [Us,bY false]) else bif b4 then aV (.dX [Us,bY false]) else bif b5 then aV (.dX [Us,bY false]) else aV (.dX [uqt x y o,bY true])
def MI (b1 b2 b3 b4 b5:Bool) (x y o:Nat):V:=bif (b1 && !b2 && (b3 && !b4 && !b5)) then (.dX [uqt x y o,bY true]) else .dX [Us,bY false]
theorem QQ (b1 b2 b3 b4 b5:Bool) (x y o:Nat):QP b1 b2 b3 b4 b5 x y o=aV (MI b1 b2 b3 b4 b5 x y o):=by
 cases b1<;> cases b2<;> cases b3<;> cases b4<;> cases b5<;> rfl
theorem adf (n:Nat):aL (MI (uD n) (wO (aH n)) (nrB (aH 1) (qW (aH n))) (wO (ah (qX (aH n)) (qY (aH n)))) (dS [decide (qY (aH n)=0)]) (qX (aH n)) (qY (aH n)) (aH 1))
 (.dX [uqt (jD n).x (jD n).y (jD n).z,bY (aJ n)]):=by
 have hy:decide (qY (aH n)=0)=lq (pY (aH n)) 0:=by
  rw [ade,wh,La,N7 (alz _)]
 have hb:aJ n=(uD n && !wO (aH n) && (nrB (aH 1) (qW (aH n)) && !wO (ah (qX (aH n)) (qY (aH n))) && !dS [decide (qY (aH n)=0)])):=by
  rw [vV,adg,Lt (UR _),Lt (dY _ _),aif,M5,ab8 LJ (by rw [adb]; exact dY _ _),adb]
  simp only [dS]
  rw [hy,ade]
 unfold MI
 rw [← hb,zU,agQ,aif,ade,M5]
 cases aJ n with
 | true=> exact aL.refl _
 | false=> exact aL.tC afc (gN.refl _)

noncomputable def aee:List D→Option (List Bool × V)
 | [.n n]=> some ([], .dX [uqt (jD n).x (jD n).y (jD n).z,bY (aJ n)])
 | _=> none
noncomputable def aiD:aj:=spec [iq] aee
noncomputable abbrev X0:List (FuncId × aj):= [(171,aea),(163,ad7),(161,ad9),(159,JG),(160,aiC),(172,ad1),(166,PL),(173,sQD),(162,aeb),(168,adY),(174,Tq)]
theorem aar:aD Tryz.prog (aK X0):=(.cons acs (.cons V7 (.cons LG (.cons zJ (.cons agr (.cons V5 (.cons Dl (.cons alv (.cons acu (.cons V4 (.cons OH .nil)))))))))))
theorem ags:bg Tryz.prog 113 aiD:=by
 refine az (cx:=dx X0) (c:=af Tryz.f113) Tryz.func113 (by kernel_rfl) (by kernel_rfl) rfl ?_
 intro ds chk v vs hF ht he hr base
 unfold aee at hF
 split at hF
 · rename_i n
   cases hF
   have hvs:vs= [cB n]:=by simp only [bq,bn,bF,bD,Option.some.injEq] at he; exact he.symm
   subst hvs
   exact aB (bS aar) (n:=200) (bs0:= []) (h:=Eq.trans (b:=QP (uD n) (wO (aH n)) (nrB (aH 1) (qW (aH n))) (wO (ah (qX (aH n)) (qY (aH n)))) (dS [decide (qY (aH n)=0)]) (qX (aH n)) (qY (aH n)) (aH 1)) (by kernel_rfl) (QQ _ _ _ _ _ _ _ _)) (adf n) trivial
 · cases hF
end Go.Proofs.YtcgmcohkkigphaaGreat
