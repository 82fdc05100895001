/-
  What is issued; checks.
-/
import Derived.Test.YtcgmcohkkigphaaGreatLb111
import Derived.Test.YtcgmcohkkigphaaGreatLb87
set_option maxRecDepth 100000
namespace Go.Proofs.YtcgmcohkkigphaaGreat
open Go Vx Go.RowKit

noncomputable def zl (M:Bool) (u:Nat) (l:List (List D)) (n:Nat):Bool:=M && (bU u && (!zB u && (dK l && decide (l.length=n))))
theorem K9 {M:Bool} {u:Nat} {l:List (List D)} {n:Nat} (h:zl M u l n=true):M=true∧bU u=true∧u≠0∧dK l=true∧l.length=n:=by
 unfold zl at h
 simp only [Bool.and_eq_true] at h
 obtain ⟨h1,h2,h3,h4,h5⟩:=h
 exact ⟨h1,h2,fun e=> (by rw [oz.2 e] at h3; cases h3),h4,of_decide_eq_true h5⟩
theorem VD {M:Bool} {u:Nat} {l:List (List D)} {n:Nat} (h1:M=true) (h2:bU u=true) (h3:u≠0) (h4:dK l=true) (h5:l.length=n):zl M u l n=true:=by
 unfold zl
 have hz:zB u=false:=by cases hz:zB u; rfl; exact absurd (oz.1 hz) h3
 rw [h1,h2,hz,h4,decide_eq_true h5]; rfl
def ajz (e2 e50 o:Out) (n m s z a:Bool):Out:=bif !n then e2 else bif !m then e50 else bif !s then e50 else bif z then e50 else bif !a then e50 else o
theorem abP {e2 e50 o:Out} {n m s z a:Bool} (h1:n=true) (h2:m=true) (h3:s=true) (h4:z=false) (h5:a=true):ajz e2 e50 o n m s z a=o:=by rw [h1,h2,h3,h4,h5]; rfl

noncomputable def Gn:Nat→List D→Option (List Bool × V × List bQ)
 | base,[.n a, .n b, .n c, .n d, .n e, .n f, .n g, .n h, .n i, .n j, .n k, .n m, .i y, .n u, .l l]=> some ([zl (jV a b c d e f g h i j k) u l 4], .dX [.ag (.ps [.pk .u8 8 32 (aI u bN), .pk .u8 8 32 (ng (aI u bN) b d e m y), .pk .u8 8 32 (kS lQ (Ve (ng (aI u bN) b d e m y) (aI u bN) m y (aI a bN) (nk b c (aI a bN)) (aI d (aI a bN)) (aI e (aI a bN))) [[.n b],[.n c],[.n d],[.n e]] l), .row base 32 0 4 4]), .one (.int .i64 0)],[⟨28, .row [.pk .u8 8 32] (jY (kS lQ (Ve (ng (aI u bN) b d e m y) (aI u bN) m y (aI a bN) (nk b c (aI a bN)) (aI d (aI a bN)) (aI e (aI a bN))) [[.n b],[.n c],[.n d],[.n e]] l) [[.n b],[.n c],[.n d],[.n e]] l 4)⟩])
 | _,_=> none
noncomputable def JD:aj:=Cn [Uj,Ui,iq,QT] Gn
noncomputable abbrev pF:List (FuncId × aj):= [(31,Dq),(12,uT),(77,yg),(81,yh),(82,yj),(85,Gp),(84,Gm),(64,uS),(76,gH),(80,pq),(86,Gi)]
theorem Im:aD Tryz.prog (aK pF):=(.cons Bf (.cons oq (.cons qC (.cons qD (.cons qE (.cons vU (.cons vT (.cons oo (.cons fB (.cons lK (.cons FE .nil)))))))))))
noncomputable abbrev rU:List (FuncId × Func):= [(46,Tryz.f46),(47,Tryz.f47),(79,Tryz.f79),(83,Tryz.f83),(48,Tryz.f48)]
theorem K8:bf Tryz.prog (gY rU):=(bf.cons Tryz.func46 (by kernel_rfl) (bf.cons Tryz.func47 (by kernel_rfl) (bf.cons Tryz.func79 (by kernel_rfl) (bf.cons Tryz.func83 (by kernel_rfl) (bf.cons Tryz.func48 (by kernel_rfl) bf.nil)))))
noncomputable abbrev rP:List FuncId:= [47,83]
theorem OD:bg Tryz.prog 16 JD:=by
 refine AR (cx:=rW true false pF rU [] rP) (c:=af Tryz.f16) Tryz.func16 (by kernel_rfl) (by kernel_rfl) ?_
 intro base ds chk v bs vs hF ht he hr
 unfold Gn at hF
 split at hF
 · rename_i a b c d e f g h i j k m y u l
   cases hF
   have hvs:vs= [G5 a b c d e f g h i j k,Aw m y,cB u,kE l]:=by simp only [bq,bn,bF,bD,Option.some.injEq] at he; exact he.symm
   subst hvs
   obtain ⟨h1,h2,h3,h4,h5⟩:=K9 (ht (zl (jV a b c d e f g h i j k) u l 4) (by simp))
   obtain ⟨⟨ha,hb,hc,hd,he,hf,hg,hh,hi,hj,hk⟩,_,_⟩:=Fb h1
   obtain ⟨_,hm,_,hlr,_⟩:=hr
   obtain ⟨hmi,hmy,_⟩:=hm
   have hok:dG .i64 (l.length:Nat)=true:=kQ (by omega) (by omega)
   have hev:w9 (rW true false pF rU [] rP) 400 (af Tryz.f16) ⟨t0 Tryz.f16 [G5 a b c d e f g h i j k,Aw m y,cB u,kE l],[]⟩ (jv (rW true false pF rU [] rP) Tryz.f16 base)=aS [dG .i64 (l.length:Nat)] (bif !decide (((l.length:Nat):Int)=4) then aV (.dX [.ag (.ps (nO++(nO++(nO++ [L.fG])))), .one (.int .i64 2)]) else aS [jV a b c d e f g h i j k] (ajz (aV (.dX [.ag (.ps (nO++(nO++(nO++ [L.fG])))), .one (.int .i64 2)])) (aV (.dX [.ag (.ps (nO++(nO++(nO++ [L.fG])))), .one (.int .i64 50)])) ((aS [decide (Bn lQ (Ve (ng (aI u bN) b d e m y) (aI u bN) m y (aI a bN) (nk b c (aI a bN)) (aI d (aI a bN)) (aI e (aI a bN))) [[.n b],[.n c],[.n d],[.n e]] l=0)]
    (.done .ret ⟨[.dX [.ag (.ps [.pk .u8 8 32 (aI u bN), .pk .u8 8 32 (ng (aI u bN) b d e m y), .pk .u8 8 32 (kS lQ (Ve (ng (aI u bN) b d e m y) (aI u bN) m y (aI a bN) (nk b c (aI a bN)) (aI d (aI a bN)) (aI e (aI a bN))) [[.n b],[.n c],[.n d],[.n e]] l), .row base 32 0 4 4]), .one (.int .i64 0)]],[some ⟨28, .row [.pk .u8 8 32] (jY (kS lQ (Ve (ng (aI u bN) b d e m y) (aI u bN) m y (aI a bN) (nk b c (aI a bN)) (aI d (aI a bN)) (aI e (aI a bN))) [[.n b],[.n c],[.n d],[.n e]] l) [[.n b],[.n c],[.n d],[.n e]] l 4)⟩]⟩))) true true (bU u) (zB u) (dK l))):=by kernel_rfl
   have hz:zB u=false:=by cases hz:zB u; rfl; exact absurd (oz.1 hz) h3
   rw [ai (aU hok),decide_eq_true (show ((l.length:Nat):Int)=4 by omega),Bool.not_true,cond_false,ai (aU h1),abP rfl rfl h2 hz h4,  ai (aU (decide_eq_true (ahT ha hb hc hd he hmi hmy (fP h2 mR) h5 h4)))] at hev
   exact aB (I5 (sy:=true) (rw:=false) (ex:=rP) Im K8 dO.nil) (n:=400) (bs0:= [⟨28, .row [.pk .u8 8 32] (jY (kS lQ (Ve (ng (aI u bN) b d e m y) (aI u bN) m y (aI a bN) (nk b c (aI a bN)) (aI d (aI a bN)) (aI e (aI a bN))) [[.n b],[.n c],[.n d],[.n e]] l) [[.n b],[.n c],[.n d],[.n e]] l 4)⟩]) hev (aL.refl _) ⟨rfl,kF.refl _,fun ts h=> ⟨ts,h⟩⟩
 · cases hF

noncomputable def Jz:Nat→List D→Option (List Bool × V × List bQ)
 | base,[.n a, .n b, .n c, .n d, .n e, .n f, .n g, .n h, .n i, .n j, .n k, .n m, .n u, .l l]=> some ([zl (jV a b c d e f g h i j k) u l 5,decide (gT m=0)], .dX [.ag (.ps [.pk .u8 8 32 (aI u bN), .pk .u8 8 32 (mZ (aI u bN) f h i j m (dW m)), .pk .u8 8 32 (kS qI (Vd (mZ (aI u bN) f h i j m (dW m)) (aI u bN) m (dW m) (aI a bN) (nk f g (aI a bN)) (aI h (aI a bN)) (aI i (aI a bN)) (aI j (aI a bN))) [[.n f],[.n g],[.n h],[.n i],[.n j]] l), .row base 32 0 5 5]), .one (.int .i64 0)],[⟨28, .row [.pk .u8 8 32] (jY (kS qI (Vd (mZ (aI u bN) f h i j m (dW m)) (aI u bN) m (dW m) (aI a bN) (nk f g (aI a bN)) (aI h (aI a bN)) (aI i (aI a bN)) (aI j (aI a bN))) [[.n f],[.n g],[.n h],[.n i],[.n j]] l) [[.n f],[.n g],[.n h],[.n i],[.n j]] l 5)⟩])
 | _,_=> none
noncomputable def PD:aj:=Cn [Uj,tid,iq,QT] Jz
noncomputable abbrev sJ:List (FuncId × aj):= [(31,Dq),(39,BA),(12,uT),(77,yg),(81,yh),(82,yj),(85,Gp),(84,Gm),(64,uS),(76,gH),(80,pq),(86,Gi)]
theorem Mv:aD Tryz.prog (aK sJ):=(.cons Bf (.cons uJ (.cons oq (.cons qC (.cons qD (.cons qE (.cons vU (.cons vT (.cons oo (.cons fB (.cons lK (.cons FE .nil))))))))))))
noncomputable abbrev vI:List (FuncId × Func):= [(46,Tryz.f46),(53,Tryz.f53),(94,Tryz.f94),(95,Tryz.f95),(48,Tryz.f48)]
theorem NV:bf Tryz.prog (gY vI):=(bf.cons Tryz.func46 (by kernel_rfl) (bf.cons Tryz.func53 (by kernel_rfl) (bf.cons Tryz.func94 (by kernel_rfl) (bf.cons Tryz.func95 (by kernel_rfl) (bf.cons Tryz.func48 (by kernel_rfl) bf.nil)))))
noncomputable abbrev vE:List FuncId:= [53,95]
theorem SK:bg Tryz.prog 20 PD:=by
 refine AR (cx:=rW true false sJ vI [] vE) (c:=af Tryz.f20) Tryz.func20 (by kernel_rfl) (by kernel_rfl) ?_
 intro base ds chk v bs vs hF ht he hr
 unfold Jz at hF
 split at hF
 · rename_i a b c d e f g h i j k m u l
   cases hF
   have hvs:vs= [G5 a b c d e f g h i j k,Yh m,cB u,kE l]:=by simp only [bq,bn,bF,bD,Option.some.injEq] at he; exact he.symm
   subst hvs
   obtain ⟨h1,h2,h3,h4,h5⟩:=K9 (ht (zl (jV a b c d e f g h i j k) u l 5) (by simp))
   obtain ⟨⟨ha,hb,hc,hd,he,hf,hg,hh,hi,hj,hk⟩,_,_⟩:=Fb h1
   obtain ⟨_,hm,_,hlr,_⟩:=hr
   obtain ⟨hmi,_⟩:=hm
   have hE:gT m=0:=of_decide_eq_true (ht (decide (gT m=0)) (by simp))
   have hQ: ∃ Q,Pt (dW m) Q:=by
    rcases rF m with ⟨_,c,_,_,_,hd⟩ | ⟨e,_⟩
    · obtain ⟨Q,_,hQ⟩:=Pt.SE hd
      exact ⟨Q,hQ⟩
    · rw [hE] at e; cases e
   obtain ⟨Q,hQ⟩:=hQ
   have hok:dG .i64 (l.length:Nat)=true:=kQ (by omega) (by omega)
   have hev:w9 (rW true false sJ vI [] vE) 400 (af Tryz.f20) ⟨t0 Tryz.f20 [G5 a b c d e f g h i j k,Yh m,cB u,kE l],[]⟩ (jv (rW true false sJ vI [] vE) Tryz.f20 base)=aS [dG .i64 (l.length:Nat)] (bif !decide (((l.length:Nat):Int)=5) then aV (.dX [.ag (.ps (nO++(nO++(nO++ [L.fG])))), .one (.int .i64 2)]) else aS [jV a b c d e f g h i j k] (ajz (aV (.dX [.ag (.ps (nO++(nO++(nO++ [L.fG])))), .one (.int .i64 2)])) (aV (.dX [.ag (.ps (nO++(nO++(nO++ [L.fG])))), .one (.int .i64 50)])) (bif !decide (gT m=0) then aV (.dX [.ag (.ps (nO++(nO++(nO++ [L.fG])))), .one (.int .i64 (gT m))]) else (aS [decide (Bn qI (Vd (mZ (aI u bN) f h i j m (dW m)) (aI u bN) m (dW m) (aI a bN) (nk f g (aI a bN)) (aI h (aI a bN)) (aI i (aI a bN)) (aI j (aI a bN))) [[.n f],[.n g],[.n h],[.n i],[.n j]] l=0)]
    (.done .ret ⟨[.dX [.ag (.ps [.pk .u8 8 32 (aI u bN), .pk .u8 8 32 (mZ (aI u bN) f h i j m (dW m)), .pk .u8 8 32 (kS qI (Vd (mZ (aI u bN) f h i j m (dW m)) (aI u bN) m (dW m) (aI a bN) (nk f g (aI a bN)) (aI h (aI a bN)) (aI i (aI a bN)) (aI j (aI a bN))) [[.n f],[.n g],[.n h],[.n i],[.n j]] l), .row base 32 0 5 5]), .one (.int .i64 0)]],[some ⟨28, .row [.pk .u8 8 32] (jY (kS qI (Vd (mZ (aI u bN) f h i j m (dW m)) (aI u bN) m (dW m) (aI a bN) (nk f g (aI a bN)) (aI h (aI a bN)) (aI i (aI a bN)) (aI j (aI a bN))) [[.n f],[.n g],[.n h],[.n i],[.n j]] l) [[.n f],[.n g],[.n h],[.n i],[.n j]] l 5)⟩]⟩))) true true (bU u) (zB u) (dK l))):=by kernel_rfl
   have hz:zB u=false:=by cases hz:zB u; rfl; exact absurd (oz.1 hz) h3
   rw [ai (aU hok),decide_eq_true (show ((l.length:Nat):Int)=5 by omega),Bool.not_true,cond_false,ai (aU h1),abP rfl rfl h2 hz h4,hE,decide_eq_true rfl,Bool.not_true,cond_false,ai (aU (decide_eq_true (ahS ha hf hg hh hi hj hmi (fP h2 mR) hQ h5 h4)))] at hev
   exact aB (I5 (sy:=true) (rw:=false) (ex:=vE) Mv NV dO.nil) (n:=400) (bs0:= [⟨28, .row [.pk .u8 8 32] (jY (kS qI (Vd (mZ (aI u bN) f h i j m (dW m)) (aI u bN) m (dW m) (aI a bN) (nk f g (aI a bN)) (aI h (aI a bN)) (aI i (aI a bN)) (aI j (aI a bN))) [[.n f],[.n g],[.n h],[.n i],[.n j]] l) [[.n f],[.n g],[.n h],[.n i],[.n j]] l 5)⟩]) hev (aL.refl _) ⟨rfl,kF.refl _,fun ts h=> ⟨ts,h⟩⟩
 · cases hF

noncomputable def afO (P:Bool) (m:Nat) (y:Int) (h x0 x1 x2 u v c:Nat) (s:List (List D)):Int:=bif !P then 2 else bif !decide (uP u v=0) then uP u v else qU lQ (Ve v u m y h x0 x1 x2) 4 c s
noncomputable def afN (P:Bool) (m:Nat) (h p0 p1 p2 p3 u v c:Nat) (s:List (List D)):Int:=bif !P then 2 else bif !decide (gT m=0) then gT m else bif !decide (uP u v=0) then uP u v else qU qI (Vd v u m (dW m) h p0 p1 p2 p3) 5 c s
noncomputable def gdT (M:Bool) (m:Nat) (y:Int) (x0 x1 x2 u v:Nat):Bool:=bif M then (bif decide (uP u v=0) then decide (v=ng u x0 x1 x2 m y) else false) else false
noncomputable def gdC (M:Bool) (m:Nat) (p0 p1 p2 p3 u v:Nat):Bool:=bif decide (gT m=0) then (bif M then (bif decide (uP u v=0) then decide (v=mZ u p0 p1 p2 p3 m (dW m)) else false) else false) else false
theorem acJ {f:Int→Out} (a:Bool) (x:Int) (o:Int):(bif a then f x else f o)=f (bif a then x else o):=by cases a<;> rfl
theorem acK {a b:Bool}:(bif a then aV (bI b) else aV (bI false))=aV (bI (bif a then b else false)):=by cases a<;> rfl

noncomputable def JB:List D→Option (List Bool × V)
 | [.n a, .n b, .n c, .n d, .n e, .n f, .n g, .n h, .n i, .n m, .i y, .n u, .n v, .n w, .l l]=> some ([],aN (afO (Bb a b c d e f g h i) m y a b c d u v w l))
 | _=> none
noncomputable def PE:aj:=spec [akG,Ui,al3] JB
noncomputable abbrev sK:List (FuncId × aj):= [(56,Tm),(62,Gq),(99,yf),(12,uT),(77,yg),(81,yh),(82,yj),(85,Gp),(84,Gm),(64,uS),(76,gH),(80,pq)]
theorem Mw:aD Tryz.prog (aK sK):=(.cons OB (.cons zG (.cons zF (.cons oq (.cons qC (.cons qD (.cons qE (.cons vU (.cons vT (.cons oo (.cons fB (.cons lK .nil))))))))))))
noncomputable abbrev vJ:List (FuncId × Func):= [(47,Tryz.f47),(83,Tryz.f83),(57,Tryz.f57)]
theorem NW:bf Tryz.prog (gY vJ):=(bf.cons Tryz.func47 (by kernel_rfl) (bf.cons Tryz.func83 (by kernel_rfl) (bf.cons Tryz.func57 (by kernel_rfl) bf.nil)))
noncomputable abbrev vF:List FuncId:= [47,83]
theorem SL:bg Tryz.prog 23 PE:=by
 refine az (cx:=rW true false sK vJ [] vF) (c:=af Tryz.f23) Tryz.func23 (by kernel_rfl) (by kernel_rfl) rfl ?_
 intro ds chk v vs hF ht he hr base
 unfold JB at hF
 split at hF
 · rename_i a b c d e f g h i m y u v w l
   cases hF
   have hvs:vs= [afg a b c d e f g h i,Aw m y,ahm u v w l]:=by simp only [bq,bn,bF,bD,Option.some.injEq] at he; exact he.symm
   subst hvs
   have hev:w9 (rW true false sK vJ [] vF) 400 (af Tryz.f23) ⟨t0 Tryz.f23 [afg a b c d e f g h i,Aw m y,ahm u v w l],[]⟩ (jv (rW true false sK vJ [] vF) Tryz.f23 base)=bif !Bb a b c d e f g h i then aV (aN 2) else bif !decide (uP u v=0) then aV (aN (uP u v)) else aV (aN (qU lQ (Ve v u m y a b c d) 4 w l)):=by kernel_rfl
   rw [acJ (f:=fun z=> aV (aN z)),acJ (f:=fun z=> aV (aN z))] at hev
   exact aB (I5 (sy:=true) (rw:=false) (ex:=vF) Mw NW dO.nil) (n:=400) (bs0:= []) hev (aL.refl _) trivial
 · cases hF

noncomputable def Gl:List D→Option (List Bool × V)
 | [.n a, .n b, .n c, .n d, .n e, .n f, .n g, .n h, .n i, .n m, .n u, .n v, .n w, .l l]=> some ([],aN (afN (Bb a b c d e f g h i) m a e f g h u v w l))
 | _=> none
noncomputable def JA:aj:=spec [akG,tid,al3] Gl
noncomputable abbrev pE:List (FuncId × aj):= [(56,Tm),(62,Gq),(99,yf),(39,BA),(12,uT),(77,yg),(81,yh),(82,yj),(85,Gp),(84,Gm),(64,uS),(76,gH),(80,pq)]
theorem Il:aD Tryz.prog (aK pE):=(.cons OB (.cons zG (.cons zF (.cons uJ (.cons oq (.cons qC (.cons qD (.cons qE (.cons vU (.cons vT (.cons oo (.cons fB (.cons lK .nil)))))))))))))
noncomputable abbrev rT:List (FuncId × Func):= [(53,Tryz.f53),(95,Tryz.f95),(57,Tryz.f57)]
theorem K7:bf Tryz.prog (gY rT):=(bf.cons Tryz.func53 (by kernel_rfl) (bf.cons Tryz.func95 (by kernel_rfl) (bf.cons Tryz.func57 (by kernel_rfl) bf.nil)))
noncomputable abbrev rO:List FuncId:= [53,95]
theorem OC:bg Tryz.prog 25 JA:=by
 refine az (cx:=rW true false pE rT [] rO) (c:=af Tryz.f25) Tryz.func25 (by kernel_rfl) (by kernel_rfl) rfl ?_
 intro ds chk v vs hF ht he hr base
 unfold Gl at hF
 split at hF
 · rename_i a b c d e f g h i m u v w l
   cases hF
   have hvs:vs= [afg a b c d e f g h i,Yh m,ahm u v w l]:=by simp only [bq,bn,bF,bD,Option.some.injEq] at he; exact he.symm
   subst hvs
   have hev:w9 (rW true false pE rT [] rO) 400 (af Tryz.f25) ⟨t0 Tryz.f25 [afg a b c d e f g h i,Yh m,ahm u v w l],[]⟩ (jv (rW true false pE rT [] rO) Tryz.f25 base)=bif !Bb a b c d e f g h i then aV (aN 2) else bif !decide (gT m=0) then aV (aN (gT m)) else bif !decide (uP u v=0) then aV (aN (uP u v)) else aV (aN (qU qI (Vd v u m (dW m) a e f g h) 5 w l)):=by kernel_rfl
   rw [acJ (f:=fun z=> aV (aN z)),acJ (f:=fun z=> aV (aN z)),acJ (f:=fun z=> aV (aN z))] at hev
   exact aB (I5 (sy:=true) (rw:=false) (ex:=rO) Il K7 dO.nil) (n:=400) (bs0:= []) hev (aL.refl _) trivial
 · cases hF

noncomputable def PH:List D→Option (List Bool × V)
 | [.n a, .n b, .n c, .n d, .n e, .n f, .n g, .n h, .n i, .n j, .n k, .n m, .i y, .n u, .n v]=> some ([],bI (gdT (jV a b c d e f g h i j k) m y b d e u v))
 | _=> none
noncomputable def WQ:aj:=spec [Uj,Ui,ttm] PH
noncomputable abbrev wC:List (FuncId × aj):= [(61,L6),(62,Gq),(12,uT),(77,yg),(81,yh),(82,yj),(85,Gp),(84,Gm),(64,uS),(76,gH),(80,pq)]
theorem Qz:aD Tryz.prog (aK wC):=(.cons FH (.cons zG (.cons oq (.cons qC (.cons qD (.cons qE (.cons vU (.cons vT (.cons oo (.cons fB (.cons lK .nil)))))))))))
noncomputable abbrev zk:List (FuncId × Func):= [(47,Tryz.f47),(79,Tryz.f79)]
theorem Sb:bf Tryz.prog (gY zk):=(bf.cons Tryz.func47 (by kernel_rfl) (bf.cons Tryz.func79 (by kernel_rfl) bf.nil))
noncomputable abbrev zb:List FuncId:= [47,79]
theorem Zw:bg Tryz.prog 27 WQ:=by
 refine az (cx:=rW true false wC zk [] zb) (c:=af Tryz.f27) Tryz.func27 (by kernel_rfl) (by kernel_rfl) rfl ?_
 intro ds chk v vs hF ht he hr base
 unfold PH at hF
 split at hF
 · rename_i a b c d e f g h i j k m y u v
   cases hF
   have hvs:vs= [G5 a b c d e f g h i j k,Aw m y,vtm u v]:=by simp only [bq,bn,bF,bD,Option.some.injEq] at he; exact he.symm
   subst hvs
   have hev:w9 (rW true false wC zk [] zb) 400 (af Tryz.f27) ⟨t0 Tryz.f27 [G5 a b c d e f g h i j k,Aw m y,vtm u v],[]⟩ (jv (rW true false wC zk [] zb) Tryz.f27 base)=bif jV a b c d e f g h i j k then (bif decide (uP u v=0) then aV (bI (decide (v=ng u b d e m y))) else aV (bI false)) else aV (bI false):=by kernel_rfl
   rw [acK,acK] at hev
   exact aB (I5 (sy:=true) (rw:=false) (ex:=zb) Qz Sb dO.nil) (n:=400) (bs0:= []) hev (aL.refl _) trivial
 · cases hF

noncomputable def JC:List D→Option (List Bool × V)
 | [.n a, .n b, .n c, .n d, .n e, .n f, .n g, .n h, .n i, .n j, .n k, .n m, .n u, .n v]=> some ([],bI (gdC (jV a b c d e f g h i j k) m f h i j u v))
 | _=> none
noncomputable def PG:aj:=spec [Uj,tid,ttm] JC
noncomputable abbrev sM:List (FuncId × aj):= [(61,L6),(62,Gq),(39,BA),(12,uT),(77,yg),(81,yh),(82,yj),(85,Gp),(84,Gm),(64,uS),(76,gH),(80,pq)]
theorem Mx:aD Tryz.prog (aK sM):=(.cons FH (.cons zG (.cons uJ (.cons oq (.cons qC (.cons qD (.cons qE (.cons vU (.cons vT (.cons oo (.cons fB (.cons lK .nil))))))))))))
noncomputable abbrev vK:List (FuncId × Func):= [(53,Tryz.f53),(94,Tryz.f94)]
theorem NY:bf Tryz.prog (gY vK):=(bf.cons Tryz.func53 (by kernel_rfl) (bf.cons Tryz.func94 (by kernel_rfl) bf.nil))
noncomputable abbrev vG:List FuncId:= [53,94]
theorem SN:bg Tryz.prog 29 PG:=by
 refine az (cx:=rW true false sM vK [] vG) (c:=af Tryz.f29) Tryz.func29 (by kernel_rfl) (by kernel_rfl) rfl ?_
 intro ds chk v vs hF ht he hr base
 unfold JC at hF
 split at hF
 · rename_i a b c d e f g h i j k m u v
   cases hF
   have hvs:vs= [G5 a b c d e f g h i j k,Yh m,vtm u v]:=by simp only [bq,bn,bF,bD,Option.some.injEq] at he; exact he.symm
   subst hvs
   have hev:w9 (rW true false sM vK [] vG) 400 (af Tryz.f29) ⟨t0 Tryz.f29 [G5 a b c d e f g h i j k,Yh m,vtm u v],[]⟩ (jv (rW true false sM vK [] vG) Tryz.f29 base)=bif decide (gT m=0) then (bif jV a b c d e f g h i j k then (bif decide (uP u v=0) then aV (bI (decide (v=mZ u f h i j m (dW m)))) else aV (bI false)) else aV (bI false)) else aV (bI false):=by kernel_rfl
   rw [acK,acK,acK] at hev
   exact aB (I5 (sy:=true) (rw:=false) (ex:=vG) Mx NY dO.nil) (n:=400) (bs0:= []) hev (aL.refl _) trivial
 · cases hF
end Go.Proofs.YtcgmcohkkigphaaGreat
