/-
  Numbers, ids' points and ids of points, the document's and the program's.
-/
import Derived.Test.YtcgmcohkkigphaaGreatLb113
set_option maxRecDepth 100000
namespace Go.Proofs.YtcgmcohkkigphaaGreat
open Go Vx Go.RowKit

theorem abg {d:Int} (h:jm .u32 d=true):cO 8 ([(ak .u8 (d / 1)).toNat,(ak .u8 (d / 256)).toNat,(ak .u8 (d / 65536)).toNat,(ak .u8 (d / 16777216)).toNat]++List.replicate 28 0)=qj d:=by
 rw [yT,zL,o8]
 simp only [jm,Bool.and_eq_true,decide_eq_true_eq] at h
 simp only [cO,ak]
 omega
noncomputable def Vk:Nat→Nat:=aA fun p=> cO 8 ((List.range' 1 16).map (digit 8 p))
theorem KS (p:Nat):Vk p=cO 8 ((List.range' 1 16).map (digit 8 p)):=by unfold Vk; rw [aO]
theorem ajs (p:Nat):Vk p=p / 256 % 2^128:=by rw [KS,kR]
noncomputable def EJ (p:Nat):Int:=bif !decide (gT (Vk p)=0) then 5 else bif !decide (p=dW (Vk p)) then 5 else 0
noncomputable def EK (p:Nat):Nat:=bif !decide (gT (Vk p)=0) then 0 else bif !decide (p=dW (Vk p)) then 0 else Vk p
abbrev ahj (i:Nat) (e:Int):V:= .dX [.ag (.ps [.pk .u8 8 16 i]), .one (.int .i64 e)]
abbrev exL (p:Nat):List L:=(List.range' 1 16).map fun j=> L.int .u8 ((digit 8 p j:Nat):Int)
abbrev z16:List L:=List.replicate 16 (L.int .u8 0)
theorem Vl (p:Nat) (e:Int):aL (.dX [.ag (.ps (exL p)), .one (.int .i64 e)]) (ahj (Vk p) e):=by
 rw [KS]
 exact aL.tC (gN.of (aL.dec (t:=tid) (ds:= [.n (cO 8 ((List.range' 1 16).map (digit 8 p)))]) (by kernel_rfl) (by kernel_rfl))) (gN.refl _)
theorem DI (e:Int):aL (.dX [.ag (.ps z16), .one (.int .i64 e)]) (ahj 0 e):=
 aL.tC (gN.of (aL.dec (t:=tid) (ds:= [.n 0]) (by kernel_rfl) (by kernel_rfl))) (gN.refl _)

noncomputable def WO:List D→Option (List Bool × V)
 | [.n p]=> some ([],ahj (EK p) (EJ p))
 | _=> none
noncomputable def adK:aj:=spec [iq] WO
noncomputable abbrev GI:List (FuncId × aj):= [(39,BA)]
theorem TN:aD Tryz.prog (aK GI):=(.cons uJ .nil)
noncomputable abbrev Rk:Cx:=bJ true false GI [] []
theorem Sw:Ok Rk:=dM (sy:=true) (rw:=false) TN bf.nil dO.nil
theorem aco:bg Tryz.prog 41 adK:=by
 refine az (cx:=bJ true false GI [] []) (c:=af Tryz.f41) Tryz.func41 (by kernel_rfl) (by kernel_rfl) rfl ?_
 intro ds chk v vs hF ht he hr base
 unfold WO at hF
 split at hF
 · rename_i p
   cases hF
   have hvs:vs= [cB p]:=by simp only [bq,bn,bF,bD,Option.some.injEq] at he; exact he.symm
   subst hvs
   have hev:w9 Rk 400 (af Tryz.f41) ⟨t0 Tryz.f41 [cB p],[]⟩ (jv Rk Tryz.f41 base)=bif !decide (gT (cO 8 ((List.range' 1 16).map (digit 8 p)))=0) then aV (V.dX [.ag (.ps z16), .one (.int .i64 5)]) else bif !decide (p=dW (cO 8 ((List.range' 1 16).map (digit 8 p)))) then aV (V.dX [.ag (.ps z16), .one (.int .i64 5)]) else aV (V.dX [.ag (.ps (exL p)), .one (.int .i64 0)]):=by kernel_rfl
   rw [← KS] at hev
   unfold EK EJ
   cases h1:(!decide (gT (Vk p)=0)) with
   | true=>
     rw [h1,cond_true] at hev
     exact aB Sw (n:=400) (bs0:= []) hev (DI _) trivial
   | false=>
     rw [h1,cond_false] at hev
     cases h2:(!decide (p=dW (Vk p))) with
     | true=>
       rw [h2,cond_true] at hev
       exact aB Sw (n:=400) (bs0:= []) hev (DI _) trivial
     | false=>
       rw [h2,cond_false] at hev
       exact aB Sw (n:=400) (bs0:= []) hev (Vl p _) trivial
 · cases hF

noncomputable def Xu:List D→Option (List Bool × V)
 | [.n i, .i d]=> some ([], .dX [.ag (.ps [.pk .u8 8 32 (mQ i)]), .ag (.ps [.pk .u8 8 32 (qj d)])])
 | _=> none
noncomputable def aen:aj:=spec [Ui] Xu
noncomputable abbrev Ak:List (FuncId × aj):= []
theorem Uf:aD Tryz.prog (aK Ak):=aD.nil
theorem acz:bg Tryz.prog 13 aen:=by
 refine az (cx:=bJ false false Ak [] []) (c:=af Tryz.f13) Tryz.func13 (by kernel_rfl) (by kernel_rfl) rfl ?_
 intro ds chk v vs hF ht he hr base
 unfold Xu at hF
 split at hF
 · rename_i i d
   cases hF
   have hvs:vs= [Aw i d]:=by simp only [bq,bn,bF,bD,Option.some.injEq] at he; exact he.symm
   subst hvs
   obtain ⟨⟨_,hd,_⟩,_⟩:=hr
   rw [Lp,← abg hd]
   have hev:w9 (bJ false false Ak [] []) 400 (af Tryz.f13) ⟨t0 Tryz.f13 [Aw i d],[]⟩ (jv (bJ false false Ak [] []) Tryz.f13 base)=aV (V.dX [.ag (.ps (idL i++(.int .u8 1::List.replicate 15 (.int .u8 0)))), .ag (.ps ([.int .u8 (ak .u8 (d / 1)), .int .u8 (ak .u8 (d / 256)), .int .u8 (ak .u8 (d / 65536)), .int .u8 (ak .u8 (d / 16777216))]++List.replicate 28 (.int .u8 0)))]):=by kernel_rfl
   exact aB (dM (sy:=false) (rw:=false) Uf bf.nil dO.nil) (n:=400) (bs0:= []) hev (aL.tC (gN.of (aL.dec (t:= .ag [.pk .u8 8 32]) (ds:= [.n (cO 8 (Cy i 16++(1::List.replicate 15 0)))]) (by kernel_rfl) (by kernel_rfl))) (gN.of (aL.dec (t:= .ag [.pk .u8 8 32]) (ds:= [.n (cO 8 ([(ak .u8 (d / 1)).toNat,(ak .u8 (d / 256)).toNat,(ak .u8 (d / 65536)).toNat,(ak .u8 (d / 16777216)).toNat]++List.replicate 28 0))]) (by kernel_rfl) (by kernel_rfl)))) trivial
 · cases hF

def Z6 (i:Nat) (o c:Int):St:=⟨jk 2++ [.one (.ptr 1 0),aN 0, .one (.ptr 2 0)]++jk 1++ [aN c]++jk 26,[none,some ⟨37, .ps nO⟩,some ⟨37, .ps (abr i o)⟩]⟩
def alV (c:Int) (p:List L):St:=⟨jk 2++ [.one (.ptr 1 0),aN 0, .one (.ptr 2 0)]++jk 1++ [aN c]++jk 26,[none,some ⟨37, .ps p⟩,some ⟨37, .ps p⟩]⟩

noncomputable def Xr:List D→Option (List Bool × V)
 | [.n i]=> some ([],vse (dW i) (gT i))
 | _=> none
noncomputable def Tu:aj:=spec [tid] Xr
noncomputable abbrev mH:List (FuncId × aj):= [(74,JK)]
theorem GQ:aD Tryz.prog (aK mH):=(.cons OL .nil)
noncomputable abbrev aa2:Cx:=bJ true false mH [] []
theorem Fu:Ok aa2:=dM (sy:=true) (rw:=false) GQ bf.nil dO.nil
theorem OJ:bg Tryz.prog 40 Tu:=by
 refine az (cx:=bJ true false mH [] []) (c:=af Tryz.f40) Tryz.func40 (by kernel_rfl) (by kernel_rfl) rfl ?_
 intro ds chk v vs hF ht he hr base
 unfold Xr at hF
 split at hF
 · rename_i i
   cases hF
   have hvs:vs= [Yh i]:=by simp only [bq,bn,bF,bD,Option.some.injEq] at he; exact he.symm
   subst hvs
   refine bM.items _ _ _ (ae.flags (cx:=bJ false false mH [] []) (cx':=bJ true false mH [] []) rfl rfl ?_)
   have h0:bG (bJ false false mH [] []) 400 ((items (af Tryz.f40)).take 5) ⟨t0 Tryz.f40 [Yh i],[]⟩ (iF 0 [2,3,4,6] [1,2] 3)= .done .normal (Z6 i 0 0):=by kernel_rfl
   refine ae.fw (dM (sy:=false) (rw:=false) GQ bf.nil dO.nil) (k:=5) h0 ?_
   refine ae.flags (cx:=bJ true false mH [] []) (cx':=bJ false false mH [] []) rfl rfl ?_
   have hev: ∀ o c:Int,bG aa2 100 (items (aY (af Tryz.f40) 5)) (Z6 i o c) (iF 0 [2,3,4,6] [1,2] 3)=bif decide (c<256) then
    (bif !dS (afS i (ak .u8 c)) then (bif aJ (YS i (ak .u8 c)) then .done .ret (alV c (abr i (ak .u8 c))) else aS [dG .i64 (c+1)] (.done .normal (Z6 i (ak .u8 c) (c+1)))) else aS [dG .i64 (c+1)] (.done .normal (Z6 i (ak .u8 c) (c+1))))
    else .done (.exit 2) (Z6 i o c):=by intro o c; kernel_rfl
   refine ae.loop (id:=2) (by kernel_rfl) (fun m s=> ∃ (j:Nat) (o:Int),s=Z6 i o (j:Int)∧j+m=256∧uh i 256 0=uh i m j) 256 ⟨0,0,rfl,rfl,rfl⟩ ?_
   rintro m s ⟨j,o,rfl,hj,hg⟩
   have h1:=hev o (j:Int)
   cases m with
   | zero=>
     have hj:j=256:=hj
     subst hj
     rw [decide_eq_false (by omega),cond_false] at h1
     rw [(yY hg).1,(yY hg).2]
     refine ae.di Fu h1 ?_
     exact bZ Fu (n:=100) (bs0:= []) (by kernel_rfl) (aL.tC (a:= .ag (.ps nO)) (gN.of (aL.dec (t:=iq) (ds:= [.n 0]) (by kernel_rfl) (by kernel_rfl))) (gN.refl _)) trivial
   | succ m=>
     rw [decide_eq_true (by omega),cond_true,U9,CY,ai (aU (show dG .i64 ((j:Int)+1)=true from kQ (by omega) (by omega)))] at h1
     rw [AL (n:=m) (c:=j)] at hg
     unfold Eu at hg
     cases hz:zB (pK i j) with
     | true=>
       rw [hz,Bool.not_true,cond_false] at h1
       rw [hz,Bool.not_true,cond_false,cond_false] at hg
       exact ae.di Fu h1 ⟨m,Nat.lt_succ_self m,j+1,_,rfl,by omega,hg⟩
     | false=>
       rw [hz,Bool.not_false,cond_true] at h1
       rw [hz,Bool.not_false,cond_true] at hg
       cases hd:aJ (pK i j) with
       | false=>
         rw [hd,cond_false] at h1 hg
         exact ae.di Fu h1 ⟨m,Nat.lt_succ_self m,j+1,_,rfl,by omega,hg⟩
       | true=>
         rw [hd,cond_true] at h1 hg
         rw [(KA hg).1,(KA hg).2,← CY]
         exact ae.di Fu h1 ⟨_,[],(by kernel_rfl),aL.tC (a:= .ag (.ps (abr i (ak .u8 (j:Int))))) (gN.of (aL.dec (t:=iq) (ds:= [.n (YS i (ak .u8 (j:Int)))]) (by kernel_rfl) (by kernel_rfl))) (gN.refl _),trivial⟩
 · cases hF

noncomputable def Xt:List D→Option (List Bool × V)
 | [.n p]=> some ([],ahj (EK p) (EJ p))
 | _=> none
noncomputable def aem:aj:=spec [iq] Xt
noncomputable abbrev Aj:List (FuncId × aj):= [(40,Tu)]
theorem yw:aD Tryz.prog (aK Aj):=(.cons OJ .nil)
theorem acy:bg Tryz.prog 42 aem:=by
 refine az (cx:=bJ false false Aj [] []) (c:=af Tryz.f42) Tryz.func42 (by kernel_rfl) (by kernel_rfl) rfl ?_
 intro ds chk v vs hF ht he hr base
 unfold Xt at hF
 split at hF
 · rename_i p
   cases hF
   have hvs:vs= [cB p]:=by simp only [bq,bn,bF,bD,Option.some.injEq] at he; exact he.symm
   subst hvs
   have hev:w9 (bJ false false Aj [] []) 400 (af Tryz.f42) ⟨t0 Tryz.f42 [cB p],[]⟩ (jv (bJ false false Aj [] []) Tryz.f42 base)=bif !decide (gT (cO 8 ((List.range' 1 16).map (digit 8 p)))=0) then aV (V.dX [.ag (.ps z16), .one (.int .i64 5)]) else bif !decide (p=dW (cO 8 ((List.range' 1 16).map (digit 8 p)))) then aV (V.dX [.ag (.ps z16), .one (.int .i64 5)]) else aV (V.dX [.ag (.ps (exL p)), .one (.int .i64 0)]):=by kernel_rfl
   rw [← KS] at hev
   unfold EK EJ
   cases h1:(!decide (gT (Vk p)=0)) with
   | true=>
     rw [h1,cond_true] at hev
     exact aB (dM (sy:=false) (rw:=false) yw bf.nil dO.nil) (n:=400) (bs0:= []) hev (DI _) trivial
   | false=>
     rw [h1,cond_false] at hev
     cases h2:(!decide (p=dW (Vk p))) with
     | true=>
       rw [h2,cond_true] at hev
       exact aB (dM (sy:=false) (rw:=false) yw bf.nil dO.nil) (n:=400) (bs0:= []) hev (DI _) trivial
     | false=>
       rw [h2,cond_false] at hev
       exact aB (dM (sy:=false) (rw:=false) yw bf.nil dO.nil) (n:=400) (bs0:= []) hev (Vl p _) trivial
 · cases hF
end Go.Proofs.YtcgmcohkkigphaaGreat
