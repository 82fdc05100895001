/-
  Contracts of relations: are numbers, scalars, points right?
-/
import Derived.Test.YtcgmcohkkigphaaGreatL14
set_option maxRecDepth 100000
namespace Go.Proofs.YtcgmcohkkigphaaGreat
open Go Vx Go.RowKit

theorem ll {n:Nat} (h:n<9223372036854775808):dG .i64 ((n:Nat):Int)=true:=kQ (by omega) (by omega)
theorem jU (j:Nat):decide ((0:Int)≤(j:Int))=true:=by rw [decide_eq_true_iff]; omega
theorem dec_lt {j n:Nat} (h:j<n):decide (((j:Nat):Int)<((n:Nat):Int))=true:=by rw [decide_eq_true_iff]; omega
theorem dL (n:Nat):decide (((n:Nat):Int)<((n:Nat):Int))=false:=decide_eq_false (by omega)
theorem max_lt {n:Nat} (h:n≤maxLen):n<9223372036854775808:=Nat.lt_of_le_of_lt h (by decide)
theorem CZ {x:List (List D)} (h: ∀ (i:Nat) (e:List D),x[i]? =some e→jh [.pk .u8 8 32, .sl [.int .i64, .pk .u8 8 32]] e) (j:Nat):(cz (x.getD j [])).length<9223372036854775808:=by
 rw [List.getD_eq_getElem?_getD]
 cases hj:x[j]? with
 | none=> exact Nat.zero_lt_succ _
 | some e=> exact max_lt (h j e hj).2.1.1
def jk (n:Nat):List V:=List.replicate n .aC
def Z7 (x:List (List D)) (i:Int):St:=⟨jk 2++ [.one (.bool false), .aC, .aC,kE x,aN (x.length:Nat),aN i]++jk 7,[]⟩
def aeA (n:Int):St:=⟨jk 2++ [aN n]++jk 3++ [.one (.bool false)]++jk 25++ [bW,bW,bW]++jk 25,[]⟩
def Ii (x:List (List D)) (n i:Int):St:=⟨jk 2++ [aN n]++jk 3++ [.one (.bool false)]++jk 25++ [iw x,aN (x.length:Nat),aN i]++jk 25,[]⟩
def P5 (x:List (List D)) (n i:Int) (p:List (List D)) (j:Int):St:=⟨jk 2++ [aN n]++jk 3++ [.one (.bool false)]++jk 25++ [iw x,aN (x.length:Nat),aN i]++jk 8++ [.one (.rd [.int .i64, .pk .u8 8 32] p),aN (p.length:Nat),aN j]++jk 14,[]⟩
def Ih (x:List (List D)) (i:Int):St:=⟨jk 2++ [.one (.bool false)]++jk 4++ [iw x,aN (x.length:Nat),aN i]++jk 20,[]⟩
def TB (x:List (List D)) (i:Int) (p:List (List D)) (j:Int):St:=⟨jk 2++ [.one (.bool false)]++jk 4++ [iw x,aN (x.length:Nat),aN i]++jk 8++ [.one (.rd [.int .i64, .pk .u8 8 32] p),aN (p.length:Nat),aN j]++jk 9,[]⟩

noncomputable def Gj:List D→Option (List Bool × V)
 | [.l x]=> some ([],bI (dK x))
 | _=> none
noncomputable def Bz:aj:=spec [QT] Gj
noncomputable abbrev uW:List (FuncId × aj):= [(76,gH)]
theorem Ik:aD Tryz.prog (aK uW):=(.cons fB .nil)
noncomputable abbrev AA:Cx:=bJ true false uW [] []
theorem qA:Ok AA:=dM (sy:=true) (rw:=false) Ik bf.nil dO.nil
theorem Ce:bg Tryz.prog 122 Bz:=by
 refine az (cx:=bJ true false uW [] []) (c:=af Tryz.f122) Tryz.func122 (by kernel_rfl) (by kernel_rfl) rfl ?_
 intro ds chk v vs hF ht he hr base
 unfold Gj at hF
 split at hF
 · rename_i x
   cases hF
   have hvs:vs= [kE x]:=by simp only [bq,bn,bF,bD,Option.some.injEq] at he; exact he.symm
   subst hvs
   obtain ⟨hrng,_⟩:=hr
   have hlx:=ll (max_lt hrng.1)
   have h0:bG AA 100 ((items (af Tryz.f122)).take 2) ⟨t0 Tryz.f122 [kE x],[]⟩ (iF 0 [2,5,6,7] [] 0)=aS [dG .i64 (x.length:Nat)] (.done .normal (Z7 x 0)):=by kernel_rfl
   rw [ai (by first | exact iL | exact aU hlx)] at h0
   refine bM.items _ _ _ (ae.fw qA (k:=2) h0 ?_)
   refine ae.loop (id:=0) (by kernel_rfl) (fun m s=> ∃ j:Nat,s=Z7 x (j:Int)∧j+m=x.length∧dK x=dK (x.drop j)) x.length ⟨0,rfl,Nat.zero_add _,rfl⟩ ?_
   rintro m s ⟨j,rfl,hj,hg⟩
   have hev: ∀ i:Int,bG AA 100 (items (aY (af Tryz.f122) 2)) (Z7 x i) (iF 0 [2,5,6,7] [] 0)=
    aS [] (bif decide (i<(x.length:Nat)) then aS [decide (0≤i),decide (i<(x.length:Nat))] (bif !bU (iR (x.getD i.toNat [])) then .done .ret (Z7 x i)
     else aS [dG .i64 (i+1)] (.done .normal (Z7 x (i+1)))) else .done (.exit 0) (Z7 x i)):=by intro i; kernel_rfl
   have h1:=hev (j:Int)
   rw [Int.toNat_natCast,ai (by first | exact iL | exact aU hlx)] at h1
   cases m with
   | zero=>
     have hj:j=x.length:=hj
     subst hj
     rw [dL,cond_false] at h1
     rw [List.drop_length] at hg
     rw [hg]
     refine ae.di qA h1 ?_
     exact bZ qA (n:=100) (bs0:= []) (by kernel_rfl) (aL.refl _) trivial
   | succ m=>
     have hjl:j<x.length:=by omega
     have hx:=max_lt hrng.1
     rw [jU,dec_lt hjl,cond_true,ai (aF rfl (aU rfl)),ai (aU (show dG .i64 ((j:Int)+1)=true from kQ (by omega) (by omega)))] at h1
     rw [drop_cons hjl,dK] at hg
     cases hb:(!bU (iR (x.getD j []))) with
     | true=>
       rw [hb,cond_true] at h1 hg
       rw [hg]
       exact ae.di qA h1 ⟨_,[],(by kernel_rfl),aL.refl _,trivial⟩
     | false=>
       rw [hb,cond_false] at h1 hg
       exact ae.di qA h1 ⟨m,Nat.lt_succ_self m,j+1,rfl,by omega,hg⟩
 · cases hF

noncomputable def Pv:List D→Option (List Bool × V)
 | [.s s, .l x, .i n]=> some ([decide (s.size<9223372036854775808)],bI (xZ s.size x n))
 | _=> none
noncomputable def LZ:aj:=spec [ahg,ahc,GU] Pv
noncomputable abbrev BG:List (FuncId × aj):= []
theorem Qx:aD Tryz.prog (aK BG):=aD.nil
noncomputable abbrev rq:Cx:=bJ true false BG [] []
theorem gq:Ok rq:=dM (sy:=true) (rw:=false) Qx bf.nil dO.nil
theorem Je:bg Tryz.prog 121 LZ:=by
 refine az (cx:=bJ true false BG [] []) (c:=af Tryz.f121) Tryz.func121 (by kernel_rfl) (by kernel_rfl) rfl ?_
 intro ds chk v vs hF ht he hr base
 unfold Pv at hF
 split at hF
 · rename_i s x n
   cases hF
   have hvs:vs= [jH s,iw x,aN n]:=by simp only [bq,bn,bF,bD,Option.some.injEq] at he; exact he.symm
   subst hvs
   obtain ⟨_,hrng,_⟩:=hr
   have hs:s.size<9223372036854775808:=of_decide_eq_true (ht _ (by simp))
   have hx:=max_lt hrng.1
   have hlx:=ll hx
   have hpl:=CZ hrng.2
   have ct: ∀ {j:Nat},j<x.length→dG .i64 ((j:Int)+1)=true:=fun {j} h=> kQ (by omega) (by omega)
   have h0:bG rq 100 ((items (af Tryz.f121)).take 4) ⟨t0 Tryz.f121 [jH s,iw x,aN n],[]⟩ (iF 0 [2,6,32,33,34] [] 0)=aS [dG .i64 (s.size:Nat)] (bif decide ((1000:Int)<(s.size:Nat)) then .done .ret (aeA n) else aS [dG .i64 (x.length:Nat)] (bif decide (((x.length:Nat):Int)<1) then .done .ret (aeA n) else aS [dG .i64 (x.length:Nat)] (bif decide ((16:Int)<(x.length:Nat)) then .done .ret (aeA n) else bif decide (n<1) then .done .ret (aeA n) else bif decide ((32:Int)<n) then .done .ret (aeA n) else aS [dG .i64 (x.length:Nat)] (.done .normal (Ii x n 0))))):=by kernel_rfl
   rw [ai (aU (ll hs)),ai (aU hlx),ai (aU hlx)] at h0
   try rw [ai (aU hlx)] at h0
   have c3:decide (((x.length:Nat):Int)<1)=decide (((x.length:Nat):Int)<1):=by first | rfl | (rw [decide_eq_decide]; omega)
   have c5:decide (n<1)=decide (n<1):=by first | rfl | (rw [decide_eq_decide]; omega)
   rw [c3,c5] at h0
   clear c3 c5
   have hF:xZ s.size x n=bif decide ((1000:Int)<(s.size:Nat)) then false else bif decide (((x.length:Nat):Int)<1) then false else bif decide ((16:Int)<(x.length:Nat)) then false else bif decide (n<1) then false else
    bif decide ((32:Int)<n) then false else nW n x:=rfl
   rw [hF]
   clear hF
   cases k0:decide ((1000:Int)<(s.size:Nat)) with
   | true=>
     rw [k0] at h0
     exact bM.items _ _ _ (ae.fw gq (k:=4) h0 ⟨_,[],(by kernel_rfl),aL.refl _,trivial⟩)
   | false=>
   rw [k0] at h0
   cases k1:decide (((x.length:Nat):Int)<1) with
   | true=>
     rw [k1] at h0
     exact bM.items _ _ _ (ae.fw gq (k:=4) h0 ⟨_,[],(by kernel_rfl),aL.refl _,trivial⟩)
   | false=>
   rw [k1] at h0
   cases k2:decide ((16:Int)<(x.length:Nat)) with
   | true=>
     rw [k2] at h0
     exact bM.items _ _ _ (ae.fw gq (k:=4) h0 ⟨_,[],(by kernel_rfl),aL.refl _,trivial⟩)
   | false=>
   rw [k2] at h0
   cases k3:decide (n<1) with
   | true=>
     rw [k3] at h0
     exact bM.items _ _ _ (ae.fw gq (k:=4) h0 ⟨_,[],(by kernel_rfl),aL.refl _,trivial⟩)
   | false=>
   rw [k3] at h0
   cases k4:decide ((32:Int)<n) with
   | true=>
     rw [k4] at h0
     exact bM.items _ _ _ (ae.fw gq (k:=4) h0 ⟨_,[],(by kernel_rfl),aL.refl _,trivial⟩)
   | false=>
   rw [k4] at h0
   refine bM.items _ _ _ (ae.fw gq (k:=4) h0 ?_)
   refine ae.loop (id:=0) (by kernel_rfl) (fun m s=> ∃ j:Nat,s=(Ii x n (j:Int))∧j+m=x.length∧nW n x=nW n (x.drop j)) x.length ⟨0,rfl,Nat.zero_add _,rfl⟩ ?_
   rintro m s ⟨j,rfl,hj,hg⟩
   have hhd: ∀ i:Int,bG rq 100 ((items (aY (af Tryz.f121) 4)).take 2) (Ii x n i) (iF 0 [2,6,32,33,34] [] 0)=aS [] (bif decide (i<(x.length:Nat)) then .done .normal (Ii x n i) else .done (.exit 0) (Ii x n i)):=by intro i; kernel_rfl
   have h1:=hhd (j:Int)
   rw [ai (by first | exact iL | exact aU hlx)] at h1
   cases m with
   | zero=>
     have hj:j=x.length:=hj
     subst hj
     rw [dL,cond_false] at h1
     rw [List.drop_length] at hg
     rw [hg]
     refine ae.fw gq (k:=2) h1 ?_
     exact bZ gq (n:=100) (bs0:= []) (by kernel_rfl) (aL.refl _) trivial
   | succ m=>
     have hjl:j<x.length:=by omega
     rw [dec_lt hjl,cond_true] at h1
     have hlp:=ll (hpl j)
     have hp:=hpl j
     have d0:=jU j
     have d1:=dec_lt hjl
     refine ae.fw gq (k:=2) h1 (ae.gP (id:=1) (by kernel_rfl) ?_)
     have hbk: ∀ i:Int,bG rq 100 ((items (gP (aY (af Tryz.f121) 4) 2)).take 4) (Ii x n i) (iF 0 [2,6,32,33,34,43,44,45] [] 0)=aS [decide (0≤i),decide (i<(x.length:Nat)),dG .i64 ((cz (x.getD i.toNat [])).length:Nat)] (bif decide ((16:Int)<((cz (x.getD i.toNat [])).length:Nat)) then .done .ret (Ii x n i) else aS [dG .i64 ((cz (x.getD i.toNat [])).length:Nat)] (.done .normal (P5 x n i (cz (x.getD i.toNat [])) 0))):=by intro i; kernel_rfl
     have h2:=hbk (j:Int)
     rw [Int.toNat_natCast,d0,d1] at h2
     try rw [hlp] at h2
     rw [drop_cons hjl,nW] at hg
     cases hb:(decide ((16:Int)<((cz (x.getD j [])).length:Nat))) with
     | true=>
       rw [hb] at h2 hg
       rw [hg]
       exact ae.fw gq (k:=4) h2 ⟨_,[],(by kernel_rfl),aL.refl _,trivial⟩
     | false=>
       rw [hb] at h2 hg
       refine ae.fw gq (k:=4) h2 ?_
       refine ae.loop (id:=2) (by kernel_rfl) (fun m' s=> ∃ q:Nat,s=(P5 x n (j:Int) ((cz (x.getD j []))) (q:Int))∧q+m'=((cz (x.getD j []))).length∧gX n ((cz (x.getD j [])))=gX n (((cz (x.getD j []))).drop q)) ((cz (x.getD j []))).length ⟨0,rfl,Nat.zero_add _,rfl⟩ ?_
       rintro m' s ⟨q,rfl,hq,hg2⟩
       have hin: ∀ (i:Int) (p:List (List D)) (q:Int),bG rq 100 (items (aY (gP (aY (af Tryz.f121) 4) 2) 4)) (P5 x n i p q) (iF 0 [2,6,32,33,34,43,44,45] [] 0)=aS [] (bif decide (q<((p).length:Nat)) then aS [decide (0≤q),decide (q<((p).length:Nat))] (bif decide (mD ((p).getD q.toNat [])<0) then .done .ret (P5 x n i p q) else aS [] (bif decide (n≤mD ((p).getD q.toNat [])) then .done .ret (P5 x n i p q) else aS [dG .i64 (q+1)] (.done .normal (P5 x n i p (q+1))))) else .done (.exit 2) (P5 x n i p q)):=by intro i p q; kernel_rfl
       have h3:=hin (j:Int) ((cz (x.getD j []))) (q:Int)
       try rw [Int.toNat_natCast] at h3
       try rw [Int.toNat_natCast] at h3
       try rw [d0] at h3
       try rw [d1] at h3
       try rw [hlp] at h3
       cases m' with
       | zero=>
         have hq:q=((cz (x.getD j []))).length:=hq
         subst hq
         rw [dL] at h3
         rw [List.drop_length] at hg2
         have hg2:gX n ((cz (x.getD j [])))=true:=hg2
         rw [hg2] at hg
         have hout: ∀ (i:Int) (p:List (List D)) (q:Int),bG rq 100 ((items (gP (aY (af Tryz.f121) 4) 2)).drop 5) (P5 x n i p q) (iF 0 [2,6,32,33,34] [] 0)= .done .normal (Ii x n i):=by intro i p q; kernel_rfl
         have htl: ∀ i:Int,bG rq 100 ((items (aY (af Tryz.f121) 4)).drop 3) (Ii x n i) (iF 0 [2,6,32,33,34] [] 0)=aS [dG .i64 (i+1)] (.done .normal (Ii x n (i+1))):=by intro i; kernel_rfl
         refine ae.di gq h3 ?_
         refine ae.di gq (hout (j:Int) ((cz (x.getD j []))) _) ?_
         have h4:=htl (j:Int)
         rw [ai (aU (ct hjl))] at h4
         exact ae.di gq h4 ⟨m,Nat.lt_succ_self m,j+1,rfl,by omega,hg⟩
       | succ m'=>
         have hql:q<((cz (x.getD j []))).length:=by omega
         rw [dec_lt hql,jU q,show dG .i64 ((q:Int)+1)=true from kQ (by omega) (by omega)] at h3
         rw [drop_cons hql,gX] at hg2
         cases hc0:(decide (mD (((cz (x.getD j []))).getD q [])<0)) with
         | true=>
           rw [hc0,cond_true] at h3 hg2
           rw [hg2,Bool.not_false,cond_true] at hg
           rw [hg]
           exact ae.di gq h3 ⟨_,[],(by kernel_rfl),aL.refl _,trivial⟩
         | false=>
           rw [hc0,cond_false] at h3 hg2
           cases hc1:(decide (n≤mD (((cz (x.getD j []))).getD q []))) with
           | true=>
             rw [hc1,cond_true] at h3 hg2
             rw [hg2,Bool.not_false,cond_true] at hg
             rw [hg]
             exact ae.di gq h3 ⟨_,[],(by kernel_rfl),aL.refl _,trivial⟩
           | false=>
             rw [hc1,cond_false] at h3 hg2
             exact ae.di gq h3 ⟨m',Nat.lt_succ_self m',q+1,rfl,by omega,hg2⟩
 · cases hF

noncomputable def Ju:List D→Option (List Bool × V)
 | [.l x]=> some ([],bI (qG x))
 | _=> none
noncomputable def Gh:aj:=spec [ahc] Ju
noncomputable abbrev yu:List (FuncId × aj):= [(73,qH)]
theorem Mr:aD Tryz.prog (aK yu):=(.cons o5 .nil)
noncomputable abbrev nS:Cx:=bJ true false yu [] []
theorem je:Ok nS:=dM (sy:=true) (rw:=false) Mr bf.nil dO.nil
theorem FD:bg Tryz.prog 123 Gh:=by
 refine az (cx:=bJ true false yu [] []) (c:=af Tryz.f123) Tryz.func123 (by kernel_rfl) (by kernel_rfl) rfl ?_
 intro ds chk v vs hF ht he hr base
 unfold Ju at hF
 split at hF
 · rename_i x
   cases hF
   have hvs:vs= [iw x]:=by simp only [bq,bn,bF,bD,Option.some.injEq] at he; exact he.symm
   subst hvs
   obtain ⟨hrng,_⟩:=hr
   have hx:=max_lt hrng.1
   have hlx:=ll hx
   have hpl:=CZ hrng.2
   have ct: ∀ {j:Nat},j<x.length→dG .i64 ((j:Int)+1)=true:=fun {j} h=> kQ (by omega) (by omega)
   have h0:bG nS 100 ((items (af Tryz.f123)).take 2) ⟨t0 Tryz.f123 [iw x],[]⟩ (iF 0 [2,7,8,9] [] 0)=aS [dG .i64 (x.length:Nat)] (.done .normal (Ih x 0)):=by kernel_rfl
   rw [ai (aU hlx)] at h0
   refine bM.items _ _ _ (ae.fw je (k:=2) h0 ?_)
   refine ae.loop (id:=0) (by kernel_rfl) (fun m s=> ∃ j:Nat,s=(Ih x (j:Int))∧j+m=x.length∧qG x=qG (x.drop j)) x.length ⟨0,rfl,Nat.zero_add _,rfl⟩ ?_
   rintro m s ⟨j,rfl,hj,hg⟩
   have hhd: ∀ i:Int,bG nS 100 ((items (aY (af Tryz.f123) 2)).take 2) (Ih x i) (iF 0 [2,7,8,9] [] 0)=aS [] (bif decide (i<(x.length:Nat)) then .done .normal (Ih x i) else .done (.exit 0) (Ih x i)):=by intro i; kernel_rfl
   have h1:=hhd (j:Int)
   rw [ai (by first | exact iL | exact aU hlx)] at h1
   cases m with
   | zero=>
     have hj:j=x.length:=hj
     subst hj
     rw [dL,cond_false] at h1
     rw [List.drop_length] at hg
     rw [hg]
     refine ae.fw je (k:=2) h1 ?_
     exact bZ je (n:=100) (bs0:= []) (by kernel_rfl) (aL.refl _) trivial
   | succ m=>
     have hjl:j<x.length:=by omega
     rw [dec_lt hjl,cond_true] at h1
     have hlp:=ll (hpl j)
     have hp:=hpl j
     have d0:=jU j
     have d1:=dec_lt hjl
     refine ae.fw je (k:=2) h1 (ae.gP (id:=1) (by kernel_rfl) ?_)
     have hbk: ∀ i:Int,bG nS 100 ((items (gP (aY (af Tryz.f123) 2) 2)).take 4) (Ih x i) (iF 0 [2,7,8,9,18,19,20] [] 0)=aS [decide (0≤i),decide (i<(x.length:Nat))] (bif !aJ (iR (x.getD i.toNat [])) then .done .ret (Ih x i) else aS [dG .i64 ((cz (x.getD i.toNat [])).length:Nat)] (.done .normal (TB x i (cz (x.getD i.toNat [])) 0))):=by intro i; kernel_rfl
     have h2:=hbk (j:Int)
     rw [Int.toNat_natCast,d0,d1] at h2
     try rw [hlp] at h2
     rw [drop_cons hjl,qG] at hg
     cases hb:(!aJ (iR (x.getD j []))) with
     | true=>
       rw [hb] at h2 hg
       rw [hg]
       exact ae.fw je (k:=4) h2 ⟨_,[],(by kernel_rfl),aL.refl _,trivial⟩
     | false=>
       rw [hb] at h2 hg
       refine ae.fw je (k:=4) h2 ?_
       refine ae.loop (id:=2) (by kernel_rfl) (fun m' s=> ∃ q:Nat,s=(TB x (j:Int) ((cz (x.getD j []))) (q:Int))∧q+m'=((cz (x.getD j []))).length∧zR ((cz (x.getD j [])))=zR (((cz (x.getD j []))).drop q)) ((cz (x.getD j []))).length ⟨0,rfl,Nat.zero_add _,rfl⟩ ?_
       rintro m' s ⟨q,rfl,hq,hg2⟩
       have hin: ∀ (i:Int) (p:List (List D)) (q:Int),bG nS 100 (items (aY (gP (aY (af Tryz.f123) 2) 2) 4)) (TB x i p q) (iF 0 [2,7,8,9,18,19,20] [] 0)=aS [] (bif decide (q<((p).length:Nat)) then aS [decide (0≤q),decide (q<((p).length:Nat))] (bif !aJ (Dn ((p).getD q.toNat [])) then .done .ret (TB x i p q) else aS [dG .i64 (q+1)] (.done .normal (TB x i p (q+1)))) else .done (.exit 2) (TB x i p q)):=by intro i p q; kernel_rfl
       have h3:=hin (j:Int) ((cz (x.getD j []))) (q:Int)
       try rw [Int.toNat_natCast] at h3
       try rw [Int.toNat_natCast] at h3
       try rw [d0] at h3
       try rw [d1] at h3
       try rw [hlp] at h3
       cases m' with
       | zero=>
         have hq:q=((cz (x.getD j []))).length:=hq
         subst hq
         rw [dL] at h3
         rw [List.drop_length] at hg2
         have hg2:zR ((cz (x.getD j [])))=true:=hg2
         rw [hg2] at hg
         have hout: ∀ (i:Int) (p:List (List D)) (q:Int),bG nS 100 ((items (gP (aY (af Tryz.f123) 2) 2)).drop 5) (TB x i p q) (iF 0 [2,7,8,9] [] 0)= .done .normal (Ih x i):=by intro i p q; kernel_rfl
         have htl: ∀ i:Int,bG nS 100 ((items (aY (af Tryz.f123) 2)).drop 3) (Ih x i) (iF 0 [2,7,8,9] [] 0)=aS [dG .i64 (i+1)] (.done .normal (Ih x (i+1))):=by intro i; kernel_rfl
         refine ae.di je h3 ?_
         refine ae.di je (hout (j:Int) ((cz (x.getD j []))) _) ?_
         have h4:=htl (j:Int)
         rw [ai (aU (ct hjl))] at h4
         exact ae.di je h4 ⟨m,Nat.lt_succ_self m,j+1,rfl,by omega,hg⟩
       | succ m'=>
         have hql:q<((cz (x.getD j []))).length:=by omega
         rw [dec_lt hql,jU q,show dG .i64 ((q:Int)+1)=true from kQ (by omega) (by omega)] at h3
         rw [drop_cons hql,zR] at hg2
         cases hc0:(!aJ (Dn (((cz (x.getD j []))).getD q []))) with
         | true=>
           rw [hc0,cond_true] at h3 hg2
           rw [hg2,Bool.not_false,cond_true] at hg
           rw [hg]
           exact ae.di je h3 ⟨_,[],(by kernel_rfl),aL.refl _,trivial⟩
         | false=>
           rw [hc0,cond_false] at h3 hg2
           exact ae.di je h3 ⟨m',Nat.lt_succ_self m',q+1,rfl,by omega,hg2⟩
 · cases hF
end Go.Proofs.YtcgmcohkkigphaaGreat

/-
  Contracts of relations: commitments.
-/
namespace Go.Proofs.YtcgmcohkkigphaaGreat
open Go Vx Go.RowKit

theorem qw {n:Int}: ∀ {p:List (List D)},gX n p=true→ ∀ {q:Nat},q<p.length→0≤mD (p.getD q [])∧mD (p.getD q [])<n
 | [],_,q,h=> absurd h (Nat.not_lt_zero q)
 | a::p,h,q,hq=> by
   obtain ⟨h1,h2,h3⟩:=BX h
   cases q with
   | zero=> exact ⟨h1,h2⟩
   | succ q=> exact qw (p:=p) h3 (Nat.lt_of_succ_lt_succ hq)
theorem vz (l:List (List D)) {p:List (List D)} {j:Nat} (h:j<p.length):iZ l (p.drop j)= [.n (kX l (mD (p.getD j [])).toNat), .n (Dn (p.getD j []))]::iZ l (p.drop (j+1)):=by
 rw [drop_cons h]; rfl
abbrev akK (p:List (List D)):V:= .one (.rd [.int .i64, .pk .u8 8 32] p)
abbrev al5 (y:List (List D)):Option bQ:=some ⟨105, .row [.pk .u8 8 32, .pk .u8 8 32] y⟩
def hC0:Hp:= [none,some ⟨37, .ps nO⟩]
def hC1 (y:List (List D)):Hp:= [none,some ⟨37, .ps nO⟩,al5 y]
def alT (l p:List (List D)) (v:V) (h:Hp) (i:Int):St:=⟨[.aC,kE l,v]++jk 3++ [.one (.ptr 1 0)]++jk 5++ [akK p,aN (p.length:Nat),aN i]++jk 21,h⟩
abbrev amO (k:Nat):V:= .one (.row 2 64 0 k k)

def aew (l p:List (List D)) (i:Int):St:=alT l p akJ hC0 i
def ZZ (l p:List (List D)) (y:List (List D)) (k:Nat) (i:Int):St:=alT l p (amO k) (hC1 y) i

noncomputable def Jt:List D→Option (List Bool × V)
 | [.n _, .l p, .l l]=> some ([gX (l.length:Nat) p,decide (p.length<1099511627776)],cB (oD l p))
 | _=> none
noncomputable def Gg:aj:=spec [amV,QT, .agl] Jt
noncomputable abbrev yo:List (FuncId × aj):= [(66,Pp)]
theorem Mq:aD Tryz.prog (aK yo):=(.cons Dk .nil)
noncomputable abbrev l7:Cx:=bJ true false yo [] []
theorem oh:Ok l7:=dM (sy:=true) (rw:=false) Mq bf.nil dO.nil
theorem FC:bg Tryz.prog 124 Gg:=by
 refine az (cx:=bJ true false yo [] []) (c:=af Tryz.f124) Tryz.func124 (by kernel_rfl) (by kernel_rfl) rfl ?_
 intro ds chk v vs hF ht he hr base
 unfold Jt at hF
 split at hF
 · rename_i a p l
   cases hF
   have hvs:vs= [MJ a p,kE l,akJ]:=by simp only [bq,bn,bF,bD,Option.some.injEq] at he; exact he.symm
   subst hvs
   have hgp:gX (l.length:Nat) p=true:=ht _ (by simp)
   have hpb:p.length<1099511627776:=of_decide_eq_true (ht (decide (p.length<1099511627776)) (by simp))
   have hlp:=ll (show p.length<9223372036854775808 by omega)
   have h0:bG l7 100 ((items (af Tryz.f124)).take 2) ⟨t0 Tryz.f124 [MJ a p,kE l,akJ],[]⟩ (iF 0 [1,2,6,12,13,14] [1] 2)=aS [dG .i64 (p.length:Nat)] (.done .normal (aew l p  0)):=by kernel_rfl
   rw [ai (by first | exact iL | exact aU hlp)] at h0
   refine bM.items _ _ _ (ae.fw oh (k:=2) h0 ?_)
   refine ae.loop (id:=0) (by kernel_rfl) (fun m s=> ∃ j:Nat,j+m=p.length∧((j=0∧s=aew l p  0)∨ ∃ y,s=ZZ l p  y y.length (j:Int)∧y.length=j∧iZ l p=y++iZ l (p.drop j))) p.length ⟨0,Nat.zero_add _, .inl ⟨rfl,rfl⟩⟩ ?_
   rintro m s ⟨j,hj,hs⟩
   have hl0: ∀ i:Int,bG l7 100 (items (aY (af Tryz.f124) 2)) (aew l p  i) (wM 0 [1,2,6,12,13,14] [0,1,4] 5 [(4,2)] 3 [1,2,6,12,13,14] [1] 2)=
    aS [] (bif decide (i<(p.length:Nat)) then aS [decide (0≤i),decide (i<(p.length:Nat))] (aS [decide (0≤mD (p.getD i.toNat [])),decide (mD (p.getD i.toNat [])<(l.length:Nat))] (aS [] (aS [dG .i64 (i+1)]
     (.done .normal (ZZ l p  [[.n (kX l (mD (p.getD i.toNat [])).toNat), .n (Dn (p.getD i.toNat []))]] 1 (i+1)))))) else .done (.exit 0) (aew l p  i)):=by intro i; kernel_rfl
   have hl1: ∀ (y:List (List D)) (k:Nat) (i:Int),bG l7 100 (items (aY (af Tryz.f124) 2)) (ZZ l p  y k i) (wM 0 [1,2,6,12,13,14] [0,1,5] 6 [(5,2)] 3 [1,2,6,12,13,14] [1,2] 3)=
    aS [] (bif decide (i<(p.length:Nat)) then aS [decide (0≤i),decide (i<(p.length:Nat))] (aS [decide (0≤mD (p.getD i.toNat [])),decide (mD (p.getD i.toNat [])<(l.length:Nat))] (aS [] (aS [decide (k≤y.length),decide (k≤k),decide ((k+1)*64≤140737488355328),decide (k+1<4611686018427387904),dG .i64 (i+1)]
     (.done .normal (ZZ l p  (y.take k++ [[.n (kX l (mD (p.getD i.toNat [])).toNat), .n (Dn (p.getD i.toNat []))]]) (k+1) (i+1)))))) else .done (.exit 0) (ZZ l p  y k i)):=by intro y k i; kernel_rfl
   have he0: ∀ i:Int,bG l7 100 ((items (af Tryz.f124)).drop 3) (aew l p  i) (jv l7 Tryz.f124 base)=aV (cB (fH [])):=by intro i; kernel_rfl
   have he1: ∀ (y:List (List D)) (k:Nat) (i:Int),bG l7 100 ((items (af Tryz.f124)).drop 3) (ZZ l p  y k i) (jv l7 Tryz.f124 base)=aS [decide (0+k≤y.length),decide ((List.take k (List.drop 0 y)).length<9223372036854775808)] (aV (cB (fH (List.take k (List.drop 0 y))))):=by intro y k i; kernel_rfl
   rcases Nat.eq_zero_or_pos m with hm | hm
   · subst hm
     have hj:j=p.length:=hj
     rcases hs with ⟨h0,rfl⟩ | ⟨y,rfl,hy,hc⟩
     · have h1:=hl0 0
       have hp:p= []:=List.eq_nil_of_length_eq_zero (by omega)
       subst hp
       rw [ai (by first | exact iL | exact aU hlp)] at h1
       refine ae.dS oh rfl h1 ?_
       exact bZ oh (n:=100) (bs0:= []) (he0 0) (aL.refl _) trivial
     · have h1:=hl1 y y.length (j:Int)
       rw [ai (by first | exact iL | exact aU hlp),hj,dL,cond_false] at h1
       rw [hj,List.drop_length,show iZ l []= [] from rfl,List.append_nil] at hc
       have h2:=he1 y y.length ((p.length:Nat):Int)
       rw [List.drop_zero,List.take_length,ai (aF (by rw [decide_eq_true_iff]; omega) (aU (by rw [decide_eq_true_iff]; omega)))] at h2
       have hcs:oD l p=fH y:=congrArg fH hc
       rw [hcs]
       rw [hj]
       refine ae.dS oh rfl h1 ?_
       exact bZ oh (n:=100) (bs0:= []) h2 (aL.refl _) trivial
   · obtain ⟨m,rfl⟩: ∃ n,m=n+1:=⟨m - 1,by omega⟩
     have hjl:j<p.length:=by omega
     obtain ⟨g1,g2⟩:=qw hgp hjl
     have hd3:dG .i64 ((j:Int)+1)=true:=kQ (by omega) (by omega)
     have d0:=jU j
     have d1:=dec_lt hjl
     have e1:decide (0≤mD (p.getD j []))=true:=decide_eq_true g1
     have e2:decide (mD (p.getD j [])<(l.length:Nat))=true:=decide_eq_true g2
     rcases hs with ⟨h0,rfl⟩ | ⟨y,rfl,hy,hc⟩
     · subst h0
       have h1:=hl0 ((0:Nat):Int)
       rw [Int.toNat_natCast,d0,d1,e1,e2,hd3] at h1
       try rw [hlp] at h1
       refine ae.dS oh rfl h1 ⟨m,Nat.lt_succ_self m,1,by omega, .inr ⟨_,rfl,rfl,?_⟩⟩
       have:=vz l hjl
       rw [List.drop_zero] at this
       exact this
     · have h1:=hl1 y y.length (j:Int)
       rw [Int.toNat_natCast,d0,d1,e1,e2,hd3] at h1
       try rw [hlp] at h1
       rw [cond_true,ai (l:= [decide (y.length≤y.length),decide (y.length≤y.length),decide ((y.length+1)*64≤140737488355328),decide (y.length+1<4611686018427387904),true]),List.take_length] at h1
       · refine ae.dS oh rfl h1 ⟨m,Nat.lt_succ_self m,j+1,by omega, .inr ⟨y++ [[.n (kX l (mD (p.getD j [])).toNat), .n (Dn (p.getD j []))]],?_,?_,?_⟩⟩
         · rw [List.length_append]; rfl
         · rw [List.length_append,hy]; rfl
         · rw [hc,vz l hjl,List.append_assoc]; rfl
       · refine aF ?_ (aF ?_ (aF ?_ (aF ?_ (aU rfl))))<;> (rw [decide_eq_true_iff]; omega)
 · cases hF
end Go.Proofs.YtcgmcohkkigphaaGreat
