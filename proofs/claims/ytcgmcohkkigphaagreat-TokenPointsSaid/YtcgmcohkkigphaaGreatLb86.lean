/-
  The contract of Verify of relations.
-/
import Derived.Test.YtcgmcohkkigphaaGreatLb84
import Derived.Test.YtcgmcohkkigphaaGreatL8
set_option maxRecDepth 100000
namespace Go.Proofs.YtcgmcohkkigphaaGreat
open Go Vx Go.RowKit

def hV (c:Nat) (s:List (List D)) (m:Nat):Hp:= [some ⟨41, .ps [.pk .u8 8 32 c, .rd [.pk .u8 8 32] s]⟩,some ⟨28, .ps [.pk .u8 8 32 m]⟩,none,none]
def lh:V:= .one (.CV 136 [(0,0),(1,0)])
def trC (m a:Nat):C:= .ps [.pk .u8 8 32 m, .pk .u8 8 32 a]
def hWc (c:Nat) (s:List (List D)) (m:Nat) (e:List D) (X:List (List D)) (n:Nat) (t:C):Hp:=hV c s m++akp X n++ [qbl e,none,none,qbl e,some ⟨37, .ps nO⟩,some ⟨105,t⟩,none]
def alW (s:List (List D)) (e:List D) (v:V) (h:Hp) (i:Int):St:=⟨[.aC,kE s,v]++jk 3++ [.one (.ptr 15 0)]++jk 5++ [akK (cz e),aN ((cz e).length:Nat),aN i]++jk 21,h⟩
def PX:V:= .one (.sl 12 0 1 1)
def aeD (c:Nat) (s:List (List D)) (m:Nat) (e:List D) (X:List (List D)) (n:Nat) (i:Int):St:=alW s e PX (hWc c s m e X n (trC m (iR e))++ [none,some ⟨37, .ps nO⟩]) i
def Z8 (c:Nat) (s:List (List D)) (m:Nat) (e:List D) (X:List (List D)) (n:Nat) (y:List (List D)) (k:Nat) (i:Int):St:=alW s e (.one (.row 16 64 0 k k)) (hWc c s m e X n .dead++ [none,some ⟨37, .ps nO⟩,al5 y]) i
def ag2 (c:Nat) (s:List (List D)) (m:Nat) (e:List D) (X:List (List D)) (n:Nat) (t:C) (r:Nat):St:=⟨jk 6++ [.one (.ptr 15 0)]++jk 29,hWc c s m e X n t++ [none,some ⟨37, .ps [.pk .u8 8 32 r]⟩]⟩
theorem aeE (c:Nat) (s:List (List D)) (m:Nat) (e:List D) (X:List (List D)) (n:Nat) (t:List L) (r:Nat):tK (ag2 c s m e X n (.ps t) r) (ag2 c s m e X n .dead r):=by
 refine ⟨rfl,fun _=> .inl rfl,fun j=> ?_⟩
 match j with
 | 0 | 1 | 2 | 3 | 4 | 5 | 6 | 7 | 8 | 9 | 10 | 11=> exact .inl rfl
 | 12=> exact .inr ⟨_,_,_,rfl,rfl,fun _ _ _=> trivial,fun _=> rfl,fun ts h=> by cases h⟩
 | j+13=> exact .inl rfl
noncomputable abbrev aiH:List (FuncId × aj):= [(66,Pp)]
theorem ag7:aD Tryz.prog (aK aiH):= .cons Dk .nil
noncomputable abbrev amB:List (FuncId × Func):= []
noncomputable abbrev cCV:Cx:=bJ true false aiH amB []
theorem oCV:Ok cCV:=dM (sy:=true) (rw:=false) ag7 bf.nil dO.nil
theorem afK (c:Nat) (s:List (List D)) (m:Nat) (e:List D) (X:List (List D)) (n:Nat) (hgp:gX (s.length:Nat) (cz e)=true) (hpl:(cz e).length≤16):
 mK Tryz.prog 0 124 [MJ (iR e) (cz e),kE s,PX] (hWc c s m e X n (trC m (iR e))) (cB (fH ([.n m, .n (iR e)]::iZ s (cz e))))
  (hWc c s m e X n .dead++ [none,some ⟨37, .ps [.pk .u8 8 32 (fH ([.n m, .n (iR e)]::iZ s (cz e)))]⟩]):=by
 refine mK.Lu (cx:=cCV) (fn:=Tryz.f124) (c:=(af Tryz.f124)) Tryz.func124 (by kernel_rfl) (by kernel_rfl) ?_
 show bM cCV 14 (af Tryz.f124) ⟨t0 Tryz.f124 [MJ (iR e) (cz e),kE s,PX],hWc c s m e X n (trC m (iR e))⟩ _
 have hlp:=ll (show (cz e).length<9223372036854775808 by omega)
 have h0:bG cCV 100 ((items (af Tryz.f124)).take 2) ⟨t0 Tryz.f124 [MJ (iR e) (cz e),kE s,PX],hWc c s m e X n (trC m (iR e))⟩ (iF 14 [1,2,6,12,13,14] [0,1,4,5,6,7,10,11,12,15] 16)=aS [dG .i64 ((cz e).length:Nat)] (.done .normal (aeD c s m e X n 0)):=by kernel_rfl
 rw [ai (aU hlp)] at h0
 have hl0: ∀ i:Int,bG cCV 100 (items (aY (af Tryz.f124) 2)) (aeD c s m e X n i) (wM 14 [1,2,6,12,13,14] [0,1,4,5,6,7,10,11,12,15,18] 19 [(18,16)] 17 [1,2,6,12,13,14] [0,1,4,5,6,7,10,11,12,15] 16)=
  bif decide (i<((cz e).length:Nat)) then aS [decide (0≤i),decide (i<((cz e).length:Nat)),decide (0≤mD ((cz e).getD i.toNat [])),decide (mD ((cz e).getD i.toNat [])<(s.length:Nat)),dG .i64 (i+1)]
   (.done .normal (Z8 c s m e X n [[.n m, .n (iR e)],[.n (kX s (mD ((cz e).getD i.toNat [])).toNat), .n (Dn ((cz e).getD i.toNat []))]] 2 (i+1))) else .done (.exit 0) (aeD c s m e X n i):=by intro i; kernel_rfl
 have hl1: ∀ (y:List (List D)) (k:Nat) (i:Int),bG cCV 100 (items (aY (af Tryz.f124) 2)) (Z8 c s m e X n y k i) (wM 14 [1,2,6,12,13,14] [0,1,4,5,6,7,10,11,12,15,19] 20 [(19,16)] 17 [1,2,6,12,13,14] [0,1,4,5,6,7,10,11,12,15,16] 17)=
  bif decide (i<((cz e).length:Nat)) then aS [decide (0≤i),decide (i<((cz e).length:Nat)),decide (0≤mD ((cz e).getD i.toNat [])),decide (mD ((cz e).getD i.toNat [])<(s.length:Nat)),decide (k≤y.length),decide (k≤k),decide ((k+1)*64≤140737488355328),decide (k+1<4611686018427387904),dG .i64 (i+1)]
   (.done .normal (Z8 c s m e X n (y.take k++ [[.n (kX s (mD ((cz e).getD i.toNat [])).toNat), .n (Dn ((cz e).getD i.toNat []))]]) (k+1) (i+1))) else .done (.exit 0) (Z8 c s m e X n y k i):=by intro y k i; kernel_rfl
 have he0: ∀ i:Int,bG cCV 100 ((items (af Tryz.f124)).drop 3) (aeD c s m e X n i) (iF 14 [6] [0,1,4,5,6,7,10,11,12,15] 16)= .done .ret (ag2 c s m e X n (trC m (iR e)) (fH [[.n m, .n (iR e)]])):=by intro i; kernel_rfl
 have he1: ∀ (y:List (List D)) (k:Nat) (i:Int),bG cCV 100 ((items (af Tryz.f124)).drop 3) (Z8 c s m e X n y k i) (iF 14 [6] [0,1,4,5,6,7,10,11,12,15] 16)=aS [decide (0+k≤y.length),decide ((List.take k (List.drop 0 y)).length<9223372036854775808)] (.done .ret (ag2 c s m e X n .dead (fH (List.take k (List.drop 0 y))))):=by intro y k i; kernel_rfl
 refine bM.items _ _ _ (ae.fw oCV (k:=2) h0 ?_)
 refine ae.loop (id:=0) (by kernel_rfl) (fun m' s'=> ∃ j:Nat,j+m'=(cz e).length∧((j=0∧s'=aeD c s m e X n 0)∨(1≤j∧ ∃ y,s'=Z8 c s m e X n y y.length (j:Int)∧y.length=j+1∧ [.n m, .n (iR e)]::iZ s (cz e)=y++iZ s ((cz e).drop j)))) (cz e).length ⟨0,Nat.zero_add _, .inl ⟨rfl,rfl⟩⟩ ?_
 rintro m' s' ⟨j,hj,hs⟩
 rcases Nat.eq_zero_or_pos m' with hm | hm
 · subst hm
   have hj:j=(cz e).length:=hj
   rcases hs with ⟨h0,rfl⟩ | ⟨_,y,rfl,hy,hc⟩
   · have h1:=hl0 0
     have hp:cz e= []:=List.eq_nil_of_length_eq_zero (by omega)
     have h2:fH ([.n m, .n (iR e)]::iZ s (cz e))=fH [[.n m, .n (iR e)]]:=by rw [hp]; rfl
     rw [decide_eq_false (show ¬ ((0:Int)<((cz e).length:Nat)) by omega),cond_false] at h1
     rw [h2]
     refine ae.dS oCV rfl h1 ?_
     exact ae.ak6 oCV (he0 0) (aeE c s m e X n _ _) ⟨.inr rfl,by kernel_rfl,rfl⟩
   · have h1:=hl1 y y.length (j:Int)
     rw [hj,dL,cond_false] at h1
     rw [hj,List.drop_length,show iZ s []= [] from rfl,List.append_nil] at hc
     have h2:=he1 y y.length (((cz e).length:Nat):Int)
     rw [List.drop_zero,List.take_length,ai (aF (by rw [decide_eq_true_iff]; omega) (aU (by rw [decide_eq_true_iff]; omega)))] at h2
     rw [hj,hc]
     refine ae.dS oCV rfl h1 ?_
     exact ae.di oCV h2 ⟨.inr rfl,by kernel_rfl,rfl⟩
 · obtain ⟨m',rfl⟩: ∃ n,m'=n+1:=⟨m' - 1,by omega⟩
   have hjl:j<(cz e).length:=by omega
   obtain ⟨g1,g2⟩:=qw hgp hjl
   have hd3:dG .i64 ((j:Int)+1)=true:=kQ (by omega) (by omega)
   have d0:=jU j
   have d1:=dec_lt hjl
   have e1:decide (0≤mD ((cz e).getD j []))=true:=decide_eq_true g1
   have e2:decide (mD ((cz e).getD j [])<(s.length:Nat))=true:=decide_eq_true g2
   rcases hs with ⟨h0,rfl⟩ | ⟨hj1,y,rfl,hy,hc⟩
   · subst h0
     have h1:=hl0 ((0:Nat):Int)
     rw [Int.toNat_natCast,d0,d1,e1,e2,hd3] at h1
     refine ae.dS oCV rfl h1 ⟨m',Nat.lt_succ_self m',1,by omega, .inr ⟨Nat.le_refl _,_,rfl,rfl,?_⟩⟩
     have:=vz s hjl
     rw [List.drop_zero] at this
     rw [this]
     rfl
   · have h1:=hl1 y y.length (j:Int)
     rw [Int.toNat_natCast,d0,d1,e1,e2,hd3,cond_true,ai (l:= [true,true,true,true,decide (y.length≤y.length),decide (y.length≤y.length),decide ((y.length+1)*64≤140737488355328),decide (y.length+1<4611686018427387904),true]),List.take_length] at h1
     · refine ae.dS oCV rfl h1 ⟨m',Nat.lt_succ_self m',j+1,by omega, .inr ⟨by omega,y++ [[.n (kX s (mD ((cz e).getD j [])).toNat), .n (Dn ((cz e).getD j []))]],?_,?_,?_⟩⟩
       · rw [List.length_append]; rfl
       · rw [List.length_append,hy]; rfl
       · rw [hc,vz s hjl,List.append_assoc]; rfl
     · refine aF rfl (aF rfl (aF rfl (aF rfl (aF ?_ (aF ?_ (aF ?_ (aF ?_ (aU rfl))))))))<;> (rw [decide_eq_true_iff]; omega)

noncomputable abbrev Mj:List (FuncId × aj):= [(183,Gf)]
theorem Qw:aD Tryz.prog (aK Mj):=(.cons FB .nil)
noncomputable abbrev Vw:List (FuncId × Func):= [(180,Tryz.f180),(181,Tryz.f181),(208,Tryz.f208),(209,Tryz.f209),(182,Tryz.f182),(136,Tryz.f136),(124,Tryz.f124)]
theorem Vz:bf Tryz.prog (gY Vw):=(bf.cons Tryz.func180 (by kernel_rfl) (bf.cons Tryz.func181 (by kernel_rfl) (bf.cons Tryz.func208 (by kernel_rfl) (bf.cons Tryz.func209 (by kernel_rfl) (bf.cons Tryz.func182 (by kernel_rfl) (bf.cons Tryz.func136 (by kernel_rfl) (bf.cons Tryz.func124 (by kernel_rfl) bf.nil)))))))
noncomputable abbrev D9:Cx:=bJ true false Mj Vw []
theorem Ou:Ok D9:=dM (sy:=true) (rw:=false) Qw Vz dO.nil
theorem aa4 (t:ByteArray) (x:List (List D)) (s:List (List D)) (c m:Nat) (n:Int) (hr:xZ t.size x ((s.length:Nat))=true) (hn:0≤n∧n≤1000) (hrng: ∀ (i:Nat) (e:List D),x[i]? =some e→jh [.pk .u8 8 32, .sl [.int .i64, .pk .u8 8 32]] e)  :
 mK Tryz.prog 0 125 [jH t,iw x,aN n,lh] (hV c s m) (cB (CL t x n.toNat fun j=> (fun e=> (fH ([.n m, .n (iR e)]::iZ s (cz e)))) (x.getD j [])))
  ((hV c s m)++ [some ⟨28, .ps [.pk .u8 8 32 (CL t x n.toNat fun j=> (fun e=> (fH ([.n m, .n (iR e)]::iZ s (cz e)))) (x.getD j []))]⟩]):=by
 refine mK.Lu (cx:=D9) (fn:=Tryz.f125) (c:=(af Tryz.f125)) Tryz.func125 (by kernel_rfl) (by kernel_rfl) ?_
 show bM D9 4 (af Tryz.f125) ⟨t0 Tryz.f125 [jH t,iw x,aN n,lh],(hV c s m)⟩ _
 have h0:bG D9 100 ((items (af Tryz.f125)).take 3) ⟨t0 Tryz.f125 [jH t,iw x,aN n,lh],(hV c s m)⟩ (xO 4 [3,8,9,22,23,24] [0,1,4,11,35] 36 [(11,5),(35,6)] 7)=
  aS (aa9 gy++(decide (t.size≤maxLen)::(Kq (H8 gy) lS (t.size:Nat) (((ofStr t).drop 0).take t.size) [decide (0+t.size≤(ofStr t).length)]++
   (wW (nP (H8 gy) lS (t.size:Nat) (((ofStr t).drop 0).take t.size)) kW 4 (M0 n)++ [dG .i64 (x.length:Nat)]))))
   (.done .normal (qM (lh) (hV c s m) x 0 (nP (nP (H8 gy) lS (t.size:Nat) (((ofStr t).drop 0).take t.size)) kW 4 (M0 n)).1 (nP (nP (H8 gy) lS (t.size:Nat) (((ofStr t).drop 0).take t.size)) kW 4 (M0 n)).2)):=by kernel_rfl
 have hhd: ∀ (i:Int) (X:List (List D)) (n:Nat),bG D9 100 ((items (aY (af Tryz.f125) 3)).take 2) (qM (lh) (hV c s m) x i X n) (iF 4 [3,8,9,22,23,24] [0,1,4,5,6] 7)=bif decide (i<(x.length:Nat)) then .done .normal (qM (lh) (hV c s m) x i X n) else .done (.exit 0) (qM (lh) (hV c s m) x i X n):=by intro i X n; kernel_rfl
 have hbk: ∀ (i:Int) (X:List (List D)) (n:Nat),bG D9 100 ((items (gP (aY (af Tryz.f125) 3) 2)).take 3) (qM (lh) (hV c s m) x i X n) (xO 4 [3,8,9,11,22,23,24,33,34,35] [0,1,4,5,7,18] 19 [(18,6)] 8)=
  aS ([decide (0≤i),decide (i<(x.length:Nat))]++(wW (X,n) qJ 32 (qa 32 (iR (x.getD i.toNat [])))++ [dG .i64 ((cz (x.getD i.toNat [])).length:Nat)]))
   (.done .normal (BC (lh) (hV c s m) x i (x.getD i.toNat []) 0 (nP (X,n) qJ 32 (qa 32 (iR (x.getD i.toNat [])))).1 (nP (X,n) qJ 32 (qa 32 (iR (x.getD i.toNat [])))).2)):=by intro i X n; kernel_rfl
 have hin: ∀ (i:Int) (e:List D) (q:Int) (X:List (List D)) (n:Nat),bG D9 100 (items (aY (gP (aY (af Tryz.f125) 3) 2) 3)) (BC (lh) (hV c s m) x i e q X n) (wM 4 [3,8,9,11,22,23,24,33,34,35] [0,1,4,5,7,22] 23 [(22,6)] 8 [3,8,9,11,22,23,24,33,34,35] [0,1,4,5,6,7] 8)=
  bif decide (q<((cz e).length:Nat)) then aS ([decide (0≤q),decide (q<((cz e).length:Nat))]++(wW (X,n) Ab 36 (M0 (mD ((cz e).getD q.toNat []))++qa 32 (Dn ((cz e).getD q.toNat [])))++ [dG .i64 (q+1)]))
   (.done .normal (BC (lh) (hV c s m) x i e (q+1) (nP (X,n) Ab 36 (M0 (mD ((cz e).getD q.toNat []))++qa 32 (Dn ((cz e).getD q.toNat [])))).1 (nP (X,n) Ab 36 (M0 (mD ((cz e).getD q.toNat []))++qa 32 (Dn ((cz e).getD q.toNat [])))).2))
  else .done (.exit 2) (BC (lh) (hV c s m) x i e q X n):=by intro i e q X n; kernel_rfl
 have htl: ∀ (i:Int) (X:List (List D)) (n:Nat),bG D9 100 ((items (aY (af Tryz.f125) 3)).drop 3) (qM (lh) (hV c s m) x i X n) (iF 4 [3,8,9,22,23,24] [0,1,4,5,6] 7)=aS [dG .i64 (i+1)] (.done .normal (qM (lh) (hV c s m) x (i+1) X n)):=by intro i X n; kernel_rfl
 have hend: ∀ (i:Int) (X:List (List D)) (n:Nat),bG D9 100 ((items (af Tryz.f125)).drop 4) (qM (lh) (hV c s m) x i X n) (iF 4 [8] [0,1,4] 5)=aS [decide (0+n≤X.length),decide (((X.drop 0).take n).length+lN.size<549755813888)]
  (.done .ret ⟨jk 8++ [.one (.ptr 4 0)]++jk 48,(hV c s m)++ [some ⟨28, .ps [.pk .u8 8 32 (aW (nG (aaT ((X.drop 0).take n) 2 (ofStr lN))))]⟩]⟩):=by intro i X n; kernel_rfl
 obtain ⟨g1,g2,g3,g4,g5,g6⟩:=F5 hr
 have hlx:=ll (show x.length<9223372036854775808 by omega)
 have hos:=ib t
 have hY:((ofStr t).drop 0).take t.size=ofStr t:=by rw [List.drop_zero,← hos,List.take_length]
 have hnn:M0 n=Q4 n.toNat:=by rw [← Rh,Int.toNat_of_nonneg hn.1]
 rw [hY,hnn] at h0
 have o1:=VO gy
 have o2:=lV o1 lS (ofStr t) (n:=(t.size:Nat)) (by rw [hos])
 have o3:MN _ (CO t n.toNat):=lV o2 kW (Q4 n.toNat) (n:=4) rfl
 have l1:(Lm gy).length=10:=Om _
 have l2:(qd (Lm gy) lS (ofStr t)).length=24+t.size:=by rw [jI,l1,hos]; show 10+1+(4+5)+(4+t.size)=_; omega
 have l3:(CO t n.toNat).length=44+t.size:=by
  unfold CO
  rw [jI,l2]
  show 24+t.size+1+(4+7)+(4+4)=_
  omega
 have hml:(1000:Nat)≤maxLen:=by decide
 rw [ai,o3.1,o3.2] at h0
 rotate_left 1
 · refine dJ (Ng _ (by decide)) (aF (by rw [decide_eq_true_iff]; omega) (dJ (IA o1 _ _ (by rw [hos]) (by rw [l1,hos]; show 10+5+t.size<_; omega) (aU (by rw [decide_eq_true_iff]; omega))) (dJ (kH o2 _ _ rfl (by rw [l2]; show 24+t.size+7+4<_; omega)) (aU hlx))))
 refine bM.items _ _ _ (ae.O1 Ou rfl (k:=3) h0 ?_)
 refine ae.loop (id:=0) (by kernel_rfl) (fun mz sz=> ∃ (j:Nat) (X:List (List D)),sz=qM (lh) (hV c s m) x (j:Int) X X.length∧j+mz=x.length∧X.length≤2000+1000*j∧zW (fun j=> (fun e=> (fH ([.n m, .n (iR e)]::iZ s (cz e)))) (x.getD j [])) (CO t n.toNat) 0 x=zW (fun j=> (fun e=> (fH ([.n m, .n (iR e)]::iZ s (cz e)))) (x.getD j [])) X j (x.drop j)) x.length
  ⟨0,CO t n.toNat,rfl,Nat.zero_add _,by omega,rfl⟩ ?_
 rintro mz sz ⟨j,X,rfl,hj,hX,hg⟩
 have h1:=hhd (j:Int) X X.length
 cases mz with
 | zero=>
   have hj:j=x.length:=hj
   rw [hj,dL,cond_false] at h1
   rw [hj,List.drop_length,zW] at hg
   rw [hj]
   refine ae.fw Ou (k:=2) h1 ?_
   have h2:=hend ((x.length:Nat):Int) X X.length
   rw [List.drop_zero,List.take_length,ai] at h2
   · rw [zV,hg]
     exact ae.di Ou h2 ⟨.inr rfl,by kernel_rfl,rfl⟩
   · refine aF (by rw [decide_eq_true_iff]; omega) (aU ?_)
     rw [decide_eq_true_iff]
     show X.length+9<_
     omega
 | succ mz=>
   have hjl:j<x.length:=by omega
   rw [dec_lt hjl,cond_true] at h1
   have hlp:=ll (CZ hrng j)
   obtain ⟨p1,p2⟩:=nI g6 hjl
   refine ae.fw Ou (k:=2) h1 (ae.gP (id:=1) (by kernel_rfl) ?_)
   have h2:=hbk (j:Int) X X.length
   rw [Int.toNat_natCast] at h2
   rw [drop_cons hjl,zW] at hg
   generalize he:x.getD j []=e at*
   have oX:MN (X,X.length) X:=⟨rfl,rfl⟩
   have oL:=lV oX qJ (qa 32 (iR e)) (n:=32) (by rw [gu]; rfl)
   rw [ai,oL.1,oL.2] at h2
   rotate_left 1
   · exact dJ (aF (jU j) (aU (dec_lt hjl))) (dJ (kH oX _ _ (by rw [gu]; rfl) (by rw [gu]; show X.length+4+32<_; omega)) (aU hlp))
   have lL:(qd X qJ (qa 32 (iR e))).length=X.length+45:=by rw [jI,gu]; show X.length+1+(4+4)+(4+32)=_; omega
   refine ae.O1 Ou rfl (k:=3) h2 ?_
   refine ae.loop (id:=2) (by kernel_rfl) (fun my sz=> ∃ (q:Nat) (Z:List (List D)),sz=BC (lh) (hV c s m) x (j:Int) e (q:Int) Z Z.length∧q+my=(cz e).length∧Z.length≤X.length+45+49*q∧pQ (qd X qJ (qa 32 (iR e))) (cz e)=pQ Z ((cz e).drop q)) (cz e).length
    ⟨0,_,rfl,Nat.zero_add _,by omega,rfl⟩ ?_
   rintro my sz ⟨q,Z,rfl,hq,hZ,hg2⟩
   have oZ:MN (Z,Z.length) Z:=⟨rfl,rfl⟩
   have h3:=hin (j:Int) e (q:Int) Z Z.length
   cases my with
   | zero=>
     have hq:q=(cz e).length:=hq
     rw [hq,dL,cond_false] at h3
     rw [hq,List.drop_length,pQ] at hg2
     rw [hq]
     refine ae.dS Ou rfl h3 ?_
     have hfin: ∀ (i:Int) (q:Int) (X:List (List D)) (n:Nat),bG (bJ true false Mj Vw [(124,[MJ (iR e) (cz e),kE s,PX],hWc c s m e X n (trC m (iR e)),cB (fH ([.n m, .n (iR e)]::iZ s (cz e))),hWc c s m e X n .dead++ [none,some ⟨37, .ps [.pk .u8 8 32 (fH ([.n m, .n (iR e)]::iZ s (cz e)))]⟩])]) 100 ((items (gP (aY (af Tryz.f125) 3) 2)).drop 4) (BC (lh) (hV c s m) x i e q X n) (xO 4 [3,8,9,22,23,24] [0,1,4,5,26] 27 [(26,6)] 7)=
      aS ([eqS [MJ (iR e) (cz e),kE s,PX] (hWc c s m e X n (trC m (iR e))) [MJ (iR e) (cz e),kE s,PX] (hWc c s m e X n (trC m (iR e)))]++wW (X,n) iI 32 (qa 32 (fH ([.n m, .n (iR e)]::iZ s (cz e))))) (.done .normal (qM (lh) (hV c s m) x i (nP (X,n) iI 32 (qa 32 (fH ([.n m, .n (iR e)]::iZ s (cz e))))).1 (nP (X,n) iI 32 (qa 32 (fH ([.n m, .n (iR e)]::iZ s (cz e))))).2)):=by intro i q X n; kernel_rfl
     have h4:=hfin (j:Int) ((cz e).length:Nat) Z Z.length
     have oF:=lV oZ iI (qa 32 (fH ([.n m, .n (iR e)]::iZ s (cz e)))) (n:=32) (by rw [gu]; rfl)
     rw [ai,oF.1,oF.2] at h4
     rotate_left 1
     · exact dJ (aU (Ew _ _)) (kH oZ _ _ (by rw [gu]; rfl) (by rw [gu]; show Z.length+6+32<_; omega))
     have lF:(qd Z iI (qa 32 (fH ([.n m, .n (iR e)]::iZ s (cz e))))).length=Z.length+47:=by rw [jI,gu]; show Z.length+1+(4+6)+(4+32)=_; omega
     show ae D9 4 ((items (gP (aY (af Tryz.f125) 3) 2)).drop 4) (BC (lh) (hV c s m) x (j:Int) e ((cz e).length:Nat) Z Z.length) _
     refine ae.flags (cx:=(bJ true false Mj Vw [(124,[MJ (iR e) (cz e),kE s,PX],hWc c s m e Z Z.length (trC m (iR e)),cB (fH ([.n m, .n (iR e)]::iZ s (cz e))),hWc c s m e Z Z.length .dead++ [none,some ⟨37, .ps [.pk .u8 8 32 (fH ([.n m, .n (iR e)]::iZ s (cz e)))]⟩])])) (cx':=D9) rfl rfl ?_
     refine ae.ak7 (dM (sy:=true) (rw:=false) Qw Vz (dO.cons (afK c s m e Z Z.length p2 p1) dO.nil)) rfl h4 ?_
     have h5:=htl (j:Int) (qd Z iI (qa 32 (fH ([.n m, .n (iR e)]::iZ s (cz e))))) (qd Z iI (qa 32 (fH ([.n m, .n (iR e)]::iZ s (cz e))))).length
     rw [ai (aU (kQ (by omega) (by omega)))] at h5
     refine ae.di Ou h5 ⟨mz,Nat.lt_succ_self mz,j+1,_,rfl,by omega,by rw [lF]; omega,?_⟩
     rw [hg]
     unfold eqX
     rw [hg2]
   | succ my=>
     have hql:q<(cz e).length:=by omega
     obtain ⟨q1,q2⟩:=qw p2 hql
     rw [dec_lt hql,cond_true,Int.toNat_natCast,Wh _ q1] at h3
     have oP:=lV oZ Ab (Q4 (mD ((cz e).getD q [])).toNat++qa 32 (Dn ((cz e).getD q []))) (n:=36) (by rw [y36]; rfl)
     rw [ai,oP.1,oP.2] at h3
     rotate_left 1
     · exact dJ (aF (jU q) (aU rfl)) (dJ (kH oZ _ _ (by rw [y36]; rfl) (by rw [y36]; show Z.length+4+36<_; omega)) (aU (kQ (by omega) (by omega))))
     refine ae.dS Ou rfl h3 ⟨my,Nat.lt_succ_self my,q+1,_,rfl,by omega,?_,?_⟩
     · rw [jI,y36]
       show Z.length+1+(4+4)+(4+36)≤_
       omega
     · rw [hg2,drop_cons hql,pQ]
       rfl

abbrev amX:Ty:= .ag [.pk .u8 8 32, .sl [.pk .u8 8 32]]
abbrev aiT (c:Nat) (s:List (List D)):V:= .ag (.ps [.pk .u8 8 32 c, .rd [.pk .u8 8 32] s])
def TD (t:ByteArray) (x:List (List D)) (n:Int) (c:Nat) (s:List (List D)) (e:Int):St:=⟨[jH t,iw x,aN n]++jk 4++ [.one (.ptr 0 0),aN e]++jk 48,[some ⟨41, .ps [.pk .u8 8 32 c, .rd [.pk .u8 8 32] s]⟩]⟩
def akv (t:ByteArray) (x:List (List D)) (n:Int) (c:Nat) (s:List (List D)) (m:Nat):St:=⟨[jH t,iw x,aN n]++jk 4++ [.one (.ptr 0 0),aN 0, .one (.ptr 1 0)]++jk 47,[some ⟨41, .ps [.pk .u8 8 32 c, .rd [.pk .u8 8 32] s]⟩,some ⟨28, .ps [.pk .u8 8 32 m]⟩]⟩
noncomputable abbrev Za:List (FuncId × Func):= [(125,Tryz.f125)]
theorem ajx:bf Tryz.prog (gY Za):=bf.cons Tryz.func125 (by kernel_rfl) bf.nil

noncomputable def Ck:List D→Option (List Bool × V)
 | [.s t, .l x, .i n, .n c, .l s]=> some ([decide (t.size<9223372036854775808)],aN (qU t x n c s))
 | _=> none
noncomputable def yf:aj:=spec [ahg,ahc,GU,amX] Ck
noncomputable abbrev fC:List (FuncId × aj):= [(121,LZ),(122,Bz),(123,Gh),(43,akk),(135,WA)]
theorem uY:aD Tryz.prog (aK fC):=(.cons Je (.cons Ce (.cons FD (.cons aci (.cons Zt .nil)))))
noncomputable abbrev ru:Cx:=bJ true false fC [] []
theorem jX:Ok ru:=dM (sy:=true) (rw:=false) uY bf.nil dO.nil
theorem zF:bg Tryz.prog 99 yf:=by
 refine az (cx:=bJ true false fC [] []) (c:=af Tryz.f99) Tryz.func99 (by kernel_rfl) (by kernel_rfl) rfl ?_
 intro ds chk v vs hF ht he hr base
 unfold Ck at hF
 split at hF
 · rename_i t x n c s
   cases hF
   have hvs:vs= [jH t,iw x,aN n,aiT c s]:=by simp only [bq,bn,bF,bD,Option.some.injEq] at he; exact he.symm
   subst hvs
   have hts:t.size<9223372036854775808:=of_decide_eq_true (ht (decide (t.size<9223372036854775808)) (by simp))
   obtain ⟨_,hxr,_,hpr,_⟩:=hr
   obtain ⟨_,hsr,_⟩:=hpr
   have hlx:=ll (max_lt hxr.1)
   have hls:=ll (max_lt hsr.1)
   have hA:bG ru 100 ((items (af Tryz.f99)).take 2) ⟨t0 Tryz.f99 [jH t,iw x,aN n,aiT c s],[]⟩ (iF 0 [0,1,2,7,8] [0] 1)=
    aS [decide (t.size<9223372036854775808)] (bif !xZ t.size x n then .done .ret (TD t x n c s 2) else aS [dG .i64 (s.length:Nat)]
     (bif !decide (((s.length:Nat):Int)=n) then .done .ret (TD t x n c s 2) else bif !dK [[.n c]] then .done .ret (TD t x n c s 50) else bif !dK s then .done .ret (TD t x n c s 50) else bif !qG x then .done .ret (TD t x n c s 51) else .done .normal (TD t x n c s 0))):=by kernel_rfl
   have hc1:dK [[.n c]]=bU c:=by
    show (bif !bU c then false else true)=bU c
    cases bU c<;> rfl
   rw [ai (aU (by rw [decide_eq_true_iff]; exact hts)),ai (aU hls),hc1] at hA
   cases h1:xZ t.size x n with
   | false=>
     rw [h1] at hA
     rw [show qU t x n c s=2 by unfold qU; rw [h1]; rfl]
     exact bM.items _ _ _ (ae.fw jX (k:=2) hA ⟨_,[],(by kernel_rfl),aL.refl _,trivial⟩)
   | true=>
   cases h2:decide (((s.length:Nat):Int)=n) with
   | false=>
     rw [h1,h2] at hA
     rw [show qU t x n c s=2 by unfold qU; rw [h1,h2]; rfl]
     exact bM.items _ _ _ (ae.fw jX (k:=2) hA ⟨_,[],(by kernel_rfl),aL.refl _,trivial⟩)
   | true=>
   cases h3:bU c with
   | false=>
     rw [h1,h2,h3] at hA
     rw [show qU t x n c s=50 by unfold qU; rw [h1,h2,h3]; rfl]
     exact bM.items _ _ _ (ae.fw jX (k:=2) hA ⟨_,[],(by kernel_rfl),aL.refl _,trivial⟩)
   | true=>
   cases h4:dK s with
   | false=>
     rw [h1,h2,h3,h4] at hA
     rw [show qU t x n c s=50 by unfold qU; rw [h1,h2,h3,h4]; rfl]
     exact bM.items _ _ _ (ae.fw jX (k:=2) hA ⟨_,[],(by kernel_rfl),aL.refl _,trivial⟩)
   | true=>
   cases h5:qG x with
   | false=>
     rw [h1,h2,h3,h4,h5] at hA
     rw [show qU t x n c s=51 by unfold qU; rw [h1,h2,h3,h4,h5]; rfl]
     exact bM.items _ _ _ (ae.fw jX (k:=2) hA ⟨_,[],(by kernel_rfl),aL.refl _,trivial⟩)
   | true=>
   rw [h1,h2,h3,h4,h5] at hA
   have hn:((s.length:Nat):Int)=n:=of_decide_eq_true h2
   obtain ⟨g1,g2,g3,g4,g5,g6⟩:=F5 h1
   have hE:qU t x n c s=bif !decide (QX t x n.toNat c s=c) then 110 else 0:=by unfold qU; rw [h1,h2,h3,h4,h5]; rfl
   rw [hE]
   have hcall:mK Tryz.prog 0 125 [jH t,iw x,aN n,lh] (hV c s (mq c)) (cB (QX t x n.toNat c s)) (hV c s (mq c)++ [some ⟨28, .ps [.pk .u8 8 32 (QX t x n.toNat c s)]⟩]):=
    aa4 t x s c (mq c) n (by rw [hn]; exact h1) (by omega) hxr.2
   generalize QX t x n.toNat c s=C at*
   have hB:bG ru 100 (((items (af Tryz.f99)).drop 2).take 1) (TD t x n c s 0) (xO 0 [0,1,2,7,8,9] [0,3] 4 [(3,1)] 2)= .done .normal (akv t x n c s (mq c)):=by kernel_rfl
   have hC:bG (bJ true false fC Za [(125,[jH t,iw x,aN n,lh],hV c s (mq c),cB C,hV c s (mq c)++ [some ⟨28, .ps [.pk .u8 8 32 C]⟩])]) 100 ((items (af Tryz.f99)).drop 3) (akv t x n c s (mq c)) (jv (bJ true false fC Za [(125,[jH t,iw x,aN n,lh],hV c s (mq c),cB C,hV c s (mq c)++ [some ⟨28, .ps [.pk .u8 8 32 C]⟩])]) Tryz.f99 base)=
    aS [eqS [jH t,iw x,aN n,lh] (hV c s (mq c)) [jH t,iw x,aN n,lh] (hV c s (mq c))] (bif !decide (C=c) then aV (aN 110) else aV (aN 0)):=by kernel_rfl
   have hC:bG (bJ true false fC Za [(125,[jH t,iw x,aN n,lh],hV c s (mq c),cB C,hV c s (mq c)++ [some ⟨28, .ps [.pk .u8 8 32 C]⟩])]) 100 ((items (af Tryz.f99)).drop 3) (akv t x n c s (mq c)) (jv (bJ true false fC Za [(125,[jH t,iw x,aN n,lh],hV c s (mq c),cB C,hV c s (mq c)++ [some ⟨28, .ps [.pk .u8 8 32 C]⟩])]) Tryz.f99 base)=aV (aN (bif !decide (C=c) then 110 else 0)):=by
    rw [hC,ai (aU (Ew _ _))]
    cases decide (C=c)<;> rfl
   refine bM.items _ _ _ (ae.fw jX (k:=2) hA ?_)
   refine ae.O1 jX rfl (k:=1) hB ?_
   show ae ru 0 (((items (af Tryz.f99)).drop 2).drop 1) _ _
   rw [List.drop_drop]
   refine ae.flags (cx:=bJ true false fC Za [(125,[jH t,iw x,aN n,lh],hV c s (mq c),cB C,hV c s (mq c)++ [some ⟨28, .ps [.pk .u8 8 32 C]⟩])]) (cx':=bJ true false fC [] []) rfl rfl ?_
   exact bZ (dM (sy:=true) (rw:=false) uY ajx (dO.cons hcall dO.nil)) (n:=100) (bs0:= []) hC (aL.refl _) trivial
 · cases hF
end Go.Proofs.YtcgmcohkkigphaaGreat
