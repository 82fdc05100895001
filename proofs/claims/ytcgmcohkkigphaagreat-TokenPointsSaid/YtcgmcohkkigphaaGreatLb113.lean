/-
  What is issued is good, and checked; the known tokens.
-/
import Derived.Test.YtcgmcohkkigphaaGreatLb112
set_option maxRecDepth 100000
namespace Go.Proofs.YtcgmcohkkigphaaGreat
open Go Vx Go.RowKit

theorem Wo {u v:Nat} {U V:E} (hu:Pt u U) (hv:Pt v V) (h0:u≠0):uP u v=0:=by
 unfold uP
 have hz:zB u=false:=by cases hz:zB u; rfl; exact absurd (oz.1 hz) h0
 rw [hu.dec.1,hv.dec.1,hz]
 rfl
theorem ajg {m:Nat} (h:gT m=0): ∃ Q,Pt (dW m) Q:=by
 rcases rF m with ⟨_,c,_,_,_,hd⟩ | ⟨e,_⟩
 · obtain ⟨Q,_,hQ⟩:=Pt.SE hd
   exact ⟨Q,hQ⟩
 · rw [h] at e; cases e
theorem Wp {a b c d e f g h i j k:Nat} (h1:jV a b c d e f g h i j k=true):Bb (aI a bN) (nk b c (aI a bN)) (aI d (aI a bN)) (aI e (aI a bN)) (nk f g (aI a bN)) (aI h (aI a bN)) (aI i (aI a bN)) (aI j (aI a bN)) (aI k bN)=true:=by
 obtain ⟨⟨ha,hb,hc,hd,he,hf,hg,hh,hi,hj,hk⟩,h0,h2⟩:=Fb h1
 have p0:=fP ha mR
 refine age (fun n hn=> ?_) (Lf ha h0) (Lf hk h2)
 simp only [List.mem_cons,List.not_mem_nil,or_false] at hn
 rcases hn with rfl | rfl | rfl | rfl | rfl | rfl | rfl | rfl | rfl
 · exact p0.dec.1
 · exact (Lg hb hc p0).dec.1
 · exact (fP hd p0).dec.1
 · exact (fP he p0).dec.1
 · exact (Lg hf hg p0).dec.1
 · exact (fP hh p0).dec.1
 · exact (fP hi p0).dec.1
 · exact (fP hj p0).dec.1
 · exact (fP hk mR).dec.1
theorem QH {c:Nat} {s l:List (List D)} {n:Nat} (h:s.length=n):List.take n (List.drop 0 (jY c s l n))=jY c s l s.length:=by
 subst h
 rw [List.drop_zero,List.take_of_length_le (by rw [zQ]; exact Nat.le_refl _)]
theorem ahq {a b c d e f g h i j k m:Nat} {y:Int} {u:Nat} {l:List (List D)} (hB:zl (jV a b c d e f g h i j k) u l 4=true) (hm:m<2^128) (hy:jm .u32 y=true):
 gdT (jV a b c d e f g h i j k) m y b d e (aI u bN) (ng (aI u bN) b d e m y)=true∧afO (Bb (aI a bN) (nk b c (aI a bN)) (aI d (aI a bN)) (aI e (aI a bN)) (nk f g (aI a bN)) (aI h (aI a bN)) (aI i (aI a bN)) (aI j (aI a bN)) (aI k bN)) m y (aI a bN) (nk b c (aI a bN)) (aI d (aI a bN)) (aI e (aI a bN)) (aI u bN) (ng (aI u bN) b d e m y) (kS lQ (Ve (ng (aI u bN) b d e m y) (aI u bN) m y (aI a bN) (nk b c (aI a bN)) (aI d (aI a bN)) (aI e (aI a bN))) [[.n b],[.n c],[.n d],[.n e]] l) (List.take 4 (List.drop 0 (jY (kS lQ (Ve (ng (aI u bN) b d e m y) (aI u bN) m y (aI a bN) (nk b c (aI a bN)) (aI d (aI a bN)) (aI e (aI a bN))) [[.n b],[.n c],[.n d],[.n e]] l) [[.n b],[.n c],[.n d],[.n e]] l 4)))=0:=by
 obtain ⟨h1,h2,h3,h4,h5⟩:=K9 hB
 obtain ⟨⟨ha,hb,hc,hd,he,hf,hg,hh,hi,hj,hk⟩,_,_⟩:=Fb h1
 have hu:=fP h2 mR
 have hp:=Wo hu (UX hb hd he hm hy hu) (Lf h2 h3)
 unfold gdT afO
 rw [h1,hp,Wp h1,QH (n:=4) (s:= [[.n b],[.n c],[.n d],[.n e]]) rfl]
 exact ⟨decide_eq_true rfl,Jm (ahT ha hb hc hd he hm hy hu h5 h4)⟩
theorem ahp {a b c d e f g h i j k m:Nat} {u:Nat} {l:List (List D)} (hB:zl (jV a b c d e f g h i j k) u l 5=true) (hm:m<2^128) (hE:gT m=0):
 gdC (jV a b c d e f g h i j k) m f h i j (aI u bN) (mZ (aI u bN) f h i j m (dW m))=true∧afN (Bb (aI a bN) (nk b c (aI a bN)) (aI d (aI a bN)) (aI e (aI a bN)) (nk f g (aI a bN)) (aI h (aI a bN)) (aI i (aI a bN)) (aI j (aI a bN)) (aI k bN)) m (aI a bN) (nk f g (aI a bN)) (aI h (aI a bN)) (aI i (aI a bN)) (aI j (aI a bN)) (aI u bN) (mZ (aI u bN) f h i j m (dW m)) (kS qI (Vd (mZ (aI u bN) f h i j m (dW m)) (aI u bN) m (dW m) (aI a bN) (nk f g (aI a bN)) (aI h (aI a bN)) (aI i (aI a bN)) (aI j (aI a bN))) [[.n f],[.n g],[.n h],[.n i],[.n j]] l) (List.take 5 (List.drop 0 (jY (kS qI (Vd (mZ (aI u bN) f h i j m (dW m)) (aI u bN) m (dW m) (aI a bN) (nk f g (aI a bN)) (aI h (aI a bN)) (aI i (aI a bN)) (aI j (aI a bN))) [[.n f],[.n g],[.n h],[.n i],[.n j]] l) [[.n f],[.n g],[.n h],[.n i],[.n j]] l 5)))=0:=by
 obtain ⟨h1,h2,h3,h4,h5⟩:=K9 hB
 obtain ⟨⟨ha,hb,hc,hd,he,hf,hg,hh,hi,hj,hk⟩,_,_⟩:=Fb h1
 have hu:=fP h2 mR
 obtain ⟨Q,hQ⟩:=ajg hE
 have hp:=Wo hu (UW hf hh hi hj hm hu hQ) (Lf h2 h3)
 unfold gdC afN
 rw [h1,hp,Wp h1,hE,QH (n:=5) (s:= [[.n f],[.n g],[.n h],[.n i],[.n j]]) rfl]
 exact ⟨decide_eq_true rfl,Jm (ahS ha hf hg hh hi hj hm hu hQ h5 h4)⟩

abbrev smL:List L:=(L.int .u8 3::List.replicate 31 (L.int .u8 0))++((L.int .u8 4::List.replicate 31 (L.int .u8 0))++((L.int .u8 5::List.replicate 31 (L.int .u8 0))++((L.int .u8 6::List.replicate 31 (L.int .u8 0))++((L.int .u8 7::List.replicate 31 (L.int .u8 0))++((L.int .u8 9::List.replicate 31 (L.int .u8 0))++((L.int .u8 10::List.replicate 31 (L.int .u8 0))++((L.int .u8 11::List.replicate 31 (L.int .u8 0))++((L.int .u8 12::List.replicate 31 (L.int .u8 0))++((L.int .u8 13::List.replicate 31 (L.int .u8 0))++((L.int .u8 8::List.replicate 31 (L.int .u8 0))))))))))))

noncomputable def PU:List D→Option (List Bool × V)
 | []=> some ([],G5 3 4 5 6 7 9 10 11 12 13 8)
 | _=> none
noncomputable def Xz:aj:=spec [] PU
noncomputable abbrev wG:List (FuncId × aj):= []
theorem QG:aD Tryz.prog (aK wG):=aD.nil
theorem ZB:bg Tryz.prog 44 Xz:=by
 refine az (cx:=bJ false false wG [] []) (c:=af Tryz.f44) Tryz.func44 (by kernel_rfl) (by kernel_rfl) rfl ?_
 intro ds chk v vs hF ht he hr base
 unfold PU at hF
 split at hF
 · cases hF
   have hvs:vs= []:=by simp only [bq,Option.some.injEq] at he; exact he.symm
   subst hvs
   have hev:w9 (bJ false false wG [] []) 400 (af Tryz.f44) ⟨t0 Tryz.f44 [],[]⟩ (jv (bJ false false wG [] []) Tryz.f44 base)=aV (V.ag (C.ps smL)):=by kernel_rfl
   exact aB (dM (sy:=false) (rw:=false) QG bf.nil dO.nil) (n:=400) (bs0:= []) hev (aL.dec (t:=Uj) (ds:= [.n 3, .n 4, .n 5, .n 6, .n 7, .n 9, .n 10, .n 11, .n 12, .n 13, .n 8]) (by kernel_rfl) (by kernel_rfl)) trivial
 · cases hF

abbrev uI (n:Int):List (List D):=(List.range n.toNat).map fun i=> [.n (20+i)]

noncomputable def aet:Nat→List D→Option (List Bool × V × List bQ)
 | base,[.i n]=> some ([decide (n=4) || decide (n=5)], .one (.row base 32 0 n.toNat n.toNat),[⟨28, .row [.pk .u8 8 32] (uI n)⟩])
 | _,_=> none
noncomputable def aiF:aj:=Cn [GU] aet
noncomputable abbrev wF:List (FuncId × aj):= []
theorem JZ:aD Tryz.prog (aK wF):=aD.nil
theorem agt:bg Tryz.prog 45 aiF:=by
 refine AR (cx:=bJ false false wF [] []) (c:=af Tryz.f45) Tryz.func45 (by kernel_rfl) (by kernel_rfl) ?_
 intro base ds chk v bs vs hF ht he hr
 unfold aet at hF
 split at hF
 · rename_i n
   cases hF
   have hvs:vs= [aN n]:=by simp only [bq,bn,bF,bD,Option.some.injEq] at he; exact he.symm
   subst hvs
   have hn:=ht (decide (n=4) || decide (n=5)) (by simp)
   have h4:w9 (bJ false false wF [] []) 400 (af Tryz.f45) ⟨t0 Tryz.f45 [aN 4],[]⟩ (jv (bJ false false wF [] []) Tryz.f45 base)= .done .ret ⟨[.one (.row base 32 0 4 4)],[some ⟨28, .row [.pk .u8 8 32] (uI 4)⟩]⟩:=by kernel_rfl
   have h5:w9 (bJ false false wF [] []) 400 (af Tryz.f45) ⟨t0 Tryz.f45 [aN 5],[]⟩ (jv (bJ false false wF [] []) Tryz.f45 base)= .done .ret ⟨[.one (.row base 32 0 5 5)],[some ⟨28, .row [.pk .u8 8 32] (uI 5)⟩]⟩:=by kernel_rfl
   simp only [Bool.or_eq_true,decide_eq_true_eq] at hn
   rcases hn with rfl | rfl
   · exact aB (dM (sy:=false) (rw:=false) JZ bf.nil dO.nil) (n:=400) (bs0:= [⟨28, .row [.pk .u8 8 32] (uI 4)⟩]) h4 (aL.refl _) ⟨rfl,kF.refl _,fun ts h=> ⟨ts,h⟩⟩
   · exact aB (dM (sy:=false) (rw:=false) JZ bf.nil dO.nil) (n:=400) (bs0:= [⟨28, .row [.pk .u8 8 32] (uI 5)⟩]) h5 (aL.refl _) ⟨rfl,kF.refl _,fun ts h=> ⟨ts,h⟩⟩
 · cases hF

def pE1:E:=⟨51401246089277370682188405324534411434722266705554649048546205712077872962498,35403644918077312089728672649346478548230071885886564228505879274041329827254,by decide+kernel⟩
theorem abq:aJ 87112285931760246646623899502532662132992=true:=CW.2 ⟨by unfold pP; decide,pE1,⟨by decide+kernel,by decide+kernel,by decide+kernel,by decide+kernel,fun h=> absurd h (by decide+kernel),⟨3672577945823004788306779880266385070789420933814511368648827004354097273620,by decide+kernel⟩,by decide+kernel⟩⟩
theorem U7 {i:Nat}: ∀ {n c r:Nat},c≤r→r<c+n→Eu i r=true→ ∃ q,uh i n c=some q
 | 0,_,_,h1,h2,_=> by omega
 | n+1,c,r,h1,h2,h=> by
   rw [AL]
   cases hk:Eu i c with
   | true=> exact ⟨c,rfl⟩
   | false=>
     rw [cond_false]
     have hne:c≠r:=fun e=> by rw [e,h] at hk; cases hk
     exact U7 (r:=r) (by omega) (by omega) h
theorem afR {i c:Nat} (hc:c<256) (h0:pK i c≠0) (h:aJ (pK i c)=true):gT i=0:=by
 have hk:Eu i c=true:=by
  unfold Eu
  have hz:zB (pK i c)=false:=by cases hz:zB (pK i c); rfl; exact absurd (oz.1 hz) h0
  rw [hz,h]; rfl
 obtain ⟨q,hq⟩:=U7 (n:=256) (Nat.zero_le c) (by omega) hk
 rw [CX,hq]
theorem ale:gT 1=0:=by
 have e:pK 1 1=87112285931760246646623899502532662132992:=U8 (by decide) (by decide)
 exact afR (c:=1) (by decide) (by rw [e]; decide) (by rw [e]; exact abq)

theorem abZ:jV 3 4 5 6 7 9 10 11 12 13 8=true:=agc (fun n hn=> Di (by
 simp only [List.mem_cons,List.not_mem_nil,or_false] at hn
 omega)) (by decide) (by decide)
theorem VQ:dK (uI 4)=true∧dK (uI 5)=true:=by
 have h: ∀ n,n<25→bU n=true:=fun n hn=> Di (by omega)
 constructor
 · exact aaM (h 20 (by decide)) (h 21 (by decide)) (h 22 (by decide)) (h 23 (by decide))
 · exact aaN (h 20 (by decide)) (h 21 (by decide)) (h 22 (by decide)) (h 23 (by decide)) (h 24 (by decide))
theorem VC:zl (jV 3 4 5 6 7 9 10 11 12 13 8) 9 (uI 4) 4=true∧zl (jV 3 4 5 6 7 9 10 11 12 13 8) 9 (uI 5) 5=true:=
 ⟨VD abZ (Di (by decide)) (by decide) VQ.1 rfl,VD abZ (Di (by decide)) (by decide) VQ.2 rfl⟩
def amD (a b c d:Bool):Out:=bif a then (bif b then (bif c then aV (bI d) else aV (bI false)) else aV (bI false)) else aV (bI false)

noncomputable def JE:List D→Option (List Bool × V)
 | []=> some ([],bI true)
 | _=> none
noncomputable def Gr:aj:=spec [] JE
noncomputable abbrev sN:List (FuncId × aj):= [(16,JD),(31,Dq),(20,PD),(23,PE),(25,JA),(27,WQ),(29,PG),(44,Xz),(45,aiF)]
theorem MB:aD Tryz.prog (aK sN):=(.cons OD (.cons Bf (.cons SK (.cons SL (.cons OC (.cons Zw (.cons SN (.cons ZB (.cons agt .nil)))))))))
theorem FI:bg Tryz.prog 14 Gr:=by
 refine az (cx:=bJ false false sN [] []) (c:=af Tryz.f14) Tryz.func14 (by kernel_rfl) (by kernel_rfl) rfl ?_
 intro ds chk v vs hF ht he hr base
 unfold JE at hF
 split at hF
 · cases hF
   have hvs:vs= []:=by simp only [bq,Option.some.injEq] at he; exact he.symm
   subst hvs
   have hev:w9 (bJ false false sN [] []) 400 (af Tryz.f14) ⟨t0 Tryz.f14 [],[]⟩ (jv (bJ false false sN [] []) Tryz.f14 base)=aS [zl (jV 3 4 5 6 7 9 10 11 12 13 8) 9 (uI 4) 4,jV 3 4 5 6 7 9 10 11 12 13 8,zl (jV 3 4 5 6 7 9 10 11 12 13 8) 9 (uI 5) 5,decide (gT 1=0)] (amD (decide (afO (Bb (aI 3 bN) (nk 4 5 (aI 3 bN)) (aI 6 (aI 3 bN)) (aI 7 (aI 3 bN)) (nk 9 10 (aI 3 bN)) (aI 11 (aI 3 bN)) (aI 12 (aI 3 bN)) (aI 13 (aI 3 bN)) (aI 8 bN)) 1 7 (aI 3 bN) (nk 4 5 (aI 3 bN)) (aI 6 (aI 3 bN)) (aI 7 (aI 3 bN)) (aI 9 bN) (ng (aI 9 bN) 4 6 7 1 7) (kS lQ (Ve (ng (aI 9 bN) 4 6 7 1 7) (aI 9 bN) 1 7 (aI 3 bN) (nk 4 5 (aI 3 bN)) (aI 6 (aI 3 bN)) (aI 7 (aI 3 bN))) [[.n 4],[.n 5],[.n 6],[.n 7]] (uI 4)) (List.take 4 (List.drop 0 (jY (kS lQ (Ve (ng (aI 9 bN) 4 6 7 1 7) (aI 9 bN) 1 7 (aI 3 bN) (nk 4 5 (aI 3 bN)) (aI 6 (aI 3 bN)) (aI 7 (aI 3 bN))) [[.n 4],[.n 5],[.n 6],[.n 7]] (uI 4)) [[.n 4],[.n 5],[.n 6],[.n 7]] (uI 4) 4)))=0)) (gdT (jV 3 4 5 6 7 9 10 11 12 13 8) 1 7 4 6 7 (aI 9 bN) (ng (aI 9 bN) 4 6 7 1 7)) (decide (afN (Bb (aI 3 bN) (nk 4 5 (aI 3 bN)) (aI 6 (aI 3 bN)) (aI 7 (aI 3 bN)) (nk 9 10 (aI 3 bN)) (aI 11 (aI 3 bN)) (aI 12 (aI 3 bN)) (aI 13 (aI 3 bN)) (aI 8 bN)) 1 (aI 3 bN) (nk 9 10 (aI 3 bN)) (aI 11 (aI 3 bN)) (aI 12 (aI 3 bN)) (aI 13 (aI 3 bN)) (aI 9 bN) (mZ (aI 9 bN) 9 11 12 13 1 (dW 1)) (kS qI (Vd (mZ (aI 9 bN) 9 11 12 13 1 (dW 1)) (aI 9 bN) 1 (dW 1) (aI 3 bN) (nk 9 10 (aI 3 bN)) (aI 11 (aI 3 bN)) (aI 12 (aI 3 bN)) (aI 13 (aI 3 bN))) [[.n 9],[.n 10],[.n 11],[.n 12],[.n 13]] (uI 5)) (List.take 5 (List.drop 0 (jY (kS qI (Vd (mZ (aI 9 bN) 9 11 12 13 1 (dW 1)) (aI 9 bN) 1 (dW 1) (aI 3 bN) (nk 9 10 (aI 3 bN)) (aI 11 (aI 3 bN)) (aI 12 (aI 3 bN)) (aI 13 (aI 3 bN))) [[.n 9],[.n 10],[.n 11],[.n 12],[.n 13]] (uI 5)) [[.n 9],[.n 10],[.n 11],[.n 12],[.n 13]] (uI 5) 5)))=0)) (gdC (jV 3 4 5 6 7 9 10 11 12 13 8) 1 9 11 12 13 (aI 9 bN) (mZ (aI 9 bN) 9 11 12 13 1 (dW 1)))):=by kernel_rfl
   have h1:=ahq VC.1 (m:=1) (y:=7) (by decide) (by decide)
   have h2:=ahp VC.2 (m:=1) (by decide) ale
   rw [ai (aF VC.1 (aF abZ (aF VC.2 (aU (decide_eq_true ale))))),decide_eq_true h1.2,h1.1,decide_eq_true h2.2,h2.1] at hev
   exact aB (dM (sy:=false) (rw:=false) MB bf.nil dO.nil) (n:=400) (bs0:= []) hev (aL.refl _) trivial
 · cases hF
end Go.Proofs.YtcgmcohkkigphaaGreat
