/-
  Contracts of tokens' small functions.
-/
import Derived.Test.YtcgmcohkkigphaaGreatLb110
import Derived.Test.YtcgmcohkkigphaaGreatX4
set_option maxRecDepth 100000
namespace Go.Proofs.YtcgmcohkkigphaaGreat
open Go Vx Go.RowKit

abbrev idL (i:Nat):List L:=(List.range 16).map fun k=> .int .u8 (([.i ((digit 8 i k:Nat):Int)]:List D).headD (.n 0)).xy
theorem aja {d:Int} (h:jm .u32 d=true):qj d=(ak .u64 d).toNat:=by
 rw [yT]
 simp only [jm,Bool.and_eq_true,decide_eq_true_eq] at h
 simp only [ak]
 omega

noncomputable def WS:List D→Option (List Bool × V)
 | [.n i, .i d]=> some ([], .dX [.ag (.ps [.pk .u8 8 32 (mQ i)]), .ag (.ps [.pk .u8 8 32 (qj d)])])
 | _=> none
noncomputable def uT:aj:=spec [Ui] WS
noncomputable abbrev Ah:List (FuncId × aj):= [(43,akk)]
theorem TQ:aD Tryz.prog (aK Ah):=(.cons aci .nil)
theorem oq:bg Tryz.prog 12 uT:=by
 refine az (cx:=bJ true false Ah [] []) (c:=af Tryz.f12) Tryz.func12 (by kernel_rfl) (by kernel_rfl) rfl ?_
 intro ds chk v vs hF ht he hr base
 unfold WS at hF
 split at hF
 · rename_i i d
   cases hF
   have hvs:vs= [Aw i d]:=by simp only [bq,bn,bF,bD,Option.some.injEq] at he; exact he.symm
   subst hvs
   obtain ⟨⟨_,hd,_⟩,_⟩:=hr
   rw [Lp,aja hd]
   have hev:w9 (bJ true false Ah [] []) 400 (af Tryz.f12) ⟨t0 Tryz.f12 [Aw i d],[]⟩ (jv (bJ true false Ah [] []) Tryz.f12 base)=aV (.dX [.ag (.ps (idL i++(.int .u8 1::List.replicate 15 (.int .u8 0)))), .ag (.ps [.pk .u8 8 32 (ak .u64 d).toNat])]):=by kernel_rfl
   exact aB (dM (sy:=true) (rw:=false) TQ bf.nil dO.nil) (n:=400) (bs0:= []) hev (aL.tC (gN.of (aL.dec (t:= .ag [.pk .u8 8 32]) (ds:= [.n (cO 8 (Cy i 16++(1::List.replicate 15 0)))]) (by kernel_rfl) (by kernel_rfl))) (gN.refl _)) trivial
 · cases hF

def Tz (i:Nat) (o c:Int):St:=⟨jk 2++ [.one (.ptr 1 0),aN 0, .one (.ptr 2 0)]++jk 4++ [aN c]++jk 15,[none,some ⟨37, .ps nO⟩,some ⟨37, .ps (.int .u8 0::(idL i++(.int .u8 o::List.replicate 14 (.int .u8 0))))⟩]⟩
def amR (p:List L):St:=⟨jk 2++ [.one (.ptr 1 0),aN 0, .one (.ptr 2 0)]++jk 20,[none,some ⟨37, .ps p⟩,some ⟨37, .ps p⟩]⟩
abbrev abr (i:Nat) (o:Int):List L:= .int .u8 0::(idL i++(.int .u8 o::List.replicate 14 (.int .u8 0)))
def YS (i:Nat) (o:Int):Nat:=cO 8 (0::(Cy i 16++(o.toNat::List.replicate 14 0)))
theorem CY (i c:Nat):YS i (ak .u8 (c:Int))=pK i c:=by
 rw [Kz]
 unfold YS
 rw [show (ak .u8 (c:Int)).toNat=c % 256 by simp only [ak]; omega]
def afS (i:Nat) (o:Int):List Bool:=true::(((List.range 16).map fun k=> decide ((([.i ((digit 8 i k:Nat):Int)]:List D).headD (.n 0)).xy=0))++(decide (o=0)::List.replicate 14 true))
theorem ah6: ∀ {l:List Nat},cO 8 l=0↔ ∀ d∈l,d=0
 | []=> ⟨fun _ d h=> by simp at h,fun _=> rfl⟩
 | d::l=> by
   rw [cO]
   have ih:=ah6 (l:=l)
   constructor
   · intro h
     have h1:d=0:=by omega
     have h2:cO 8 l=0:=by
      have:2^8*cO 8 l=0:=by omega
      omega
     intro e he
     rcases List.mem_cons.1 he with rfl | he
     · exact h1
     · exact ih.1 h2 e he
   · intro h
     rw [h d (List.mem_cons_self ..),ih.2 fun e he=> h e (List.mem_cons_of_mem _ he)]
theorem Ir: ∀ {l:List Bool},dS l=true↔ ∀ b∈l,b=true
 | []=> ⟨fun _ b h=> by simp at h,fun _=> rfl⟩
 | b::l=> by
   have ih:=Ir (l:=l)
   rw [qf,Bool.and_eq_true,ih]
   exact ⟨fun h c hc=> (List.mem_cons.1 hc).elim (fun e=> e ▸ h.1) (h.2 c),fun h=> ⟨h b (List.mem_cons_self ..),fun c hc=> h c (List.mem_cons_of_mem _ hc)⟩⟩
theorem U9 (i c:Nat):dS (afS i (ak .u8 (c:Int)))=zB (pK i c):=by
 have hw:ak .u8 (c:Int)=((c % 256:Nat):Int):=by simp only [ak]; omega
 rw [Bool.eq_iff_iff,oz,Kz,ah6,Ir,hw]
 unfold afS Cy
 constructor
 · intro h d hd
   rcases List.mem_cons.1 hd with rfl | hd
   · rfl
   rcases List.mem_append.1 hd with hd | hd
   · obtain ⟨k,hk,rfl⟩:=List.mem_map.1 hd
     have:=of_decide_eq_true (h _ (List.mem_cons_of_mem _ (List.mem_append.2 (.inl (List.mem_map.2 ⟨k,hk,rfl⟩)))))
     exact Int.ofNat.inj this
   · rcases List.mem_cons.1 hd with rfl | hd
     · have:=of_decide_eq_true (h _ (List.mem_cons_of_mem _ (List.mem_append.2 (.inr (List.mem_cons_self ..)))))
       exact Int.ofNat.inj this
     · exact (List.mem_replicate.1 hd).2
 · intro h b hb
   rcases List.mem_cons.1 hb with rfl | hb
   · rfl
   rcases List.mem_append.1 hb with hb | hb
   · obtain ⟨k,hk,rfl⟩:=List.mem_map.1 hb
     have:=h _ (List.mem_cons_of_mem _ (List.mem_append.2 (.inl (List.mem_map.2 ⟨k,hk,rfl⟩))))
     rw [decide_eq_true_iff]
     show ((digit 8 i k:Nat):Int)=0
     rw [this]; rfl
   · rcases List.mem_cons.1 hb with rfl | hb
     · have:=h _ (List.mem_cons_of_mem _ (List.mem_append.2 (.inr (List.mem_cons_self ..))))
       rw [decide_eq_true_iff,this]; rfl
     · exact (List.mem_replicate.1 hb).2
theorem AL {i:Nat}: ∀ {n c:Nat},uh i (n+1) c=bif Eu i c then some c else uh i n (c+1):=rfl
theorem KA {i c:Nat} (h:uh i 256 0=some c):dW i=pK i c∧gT i=0:=by rw [Ky,CX,h]; exact ⟨rfl,rfl⟩
theorem yY {i:Nat} (h:uh i 256 0=none):dW i=0∧gT i=7:=by rw [Ky,CX,h]; exact ⟨rfl,rfl⟩

noncomputable def WN:List D→Option (List Bool × V)
 | [.n i]=> some ([],vse (dW i) (gT i))
 | _=> none
noncomputable def BA:aj:=spec [tid] WN
noncomputable abbrev GH:List (FuncId × aj):= [(73,qH)]
theorem TM:aD Tryz.prog (aK GH):=(.cons o5 .nil)
noncomputable abbrev Rj:Cx:=bJ true false GH [] []
theorem Be:Ok Rj:=dM (sy:=true) (rw:=false) TM bf.nil dO.nil
theorem uJ:bg Tryz.prog 39 BA:=by
 refine az (cx:=bJ true false GH [] []) (c:=af Tryz.f39) Tryz.func39 (by kernel_rfl) (by kernel_rfl) rfl ?_
 intro ds chk v vs hF ht he hr base
 unfold WN at hF
 split at hF
 · rename_i i
   cases hF
   have hvs:vs= [Yh i]:=by simp only [bq,bn,bF,bD,Option.some.injEq] at he; exact he.symm
   subst hvs
   have h0:bG Rj 100 ((items (af Tryz.f39)).take 4) ⟨t0 Tryz.f39 [Yh i],[]⟩ (iF 0 [2,3,4,9] [1,2] 3)= .done .normal (Tz i 0 0):=by kernel_rfl
   refine bM.items _ _ _ (ae.fw Be (k:=4) h0 ?_)
   have hev: ∀ o c:Int,bG Rj 100 (items (aY (af Tryz.f39) 4)) (Tz i o c) (iF 0 [2,3,4,9] [1,2] 3)=bif decide (c<256) then
    (bif !dS (afS i (ak .u8 c)) then (bif aJ (YS i (ak .u8 c)) then .done .ret ⟨(Tz i 0 0).t.set 9 (aN c),(amR (abr i (ak .u8 c))).h⟩ else aS [dG .i64 (c+1)] (.done .normal (Tz i (ak .u8 c) (c+1)))) else aS [dG .i64 (c+1)] (.done .normal (Tz i (ak .u8 c) (c+1))))
    else .done (.exit 0) (Tz i o c):=by intro o c; kernel_rfl
   refine ae.loop (id:=0) (by kernel_rfl) (fun m s=> ∃ (j:Nat) (o:Int),s=Tz i o (j:Int)∧j+m=256∧uh i 256 0=uh i m j) 256 ⟨0,0,rfl,rfl,rfl⟩ ?_
   rintro m s ⟨j,o,rfl,hj,hg⟩
   have h1:=hev o (j:Int)
   cases m with
   | zero=>
     have hj:j=256:=hj
     subst hj
     rw [decide_eq_false (by omega),cond_false] at h1
     rw [(yY hg).1,(yY hg).2]
     refine ae.di Be h1 ?_
     exact bZ Be (n:=100) (bs0:= []) (by kernel_rfl) (aL.tC (a:= .ag (.ps nO)) (gN.of (aL.dec (t:=iq) (ds:= [.n 0]) (by kernel_rfl) (by kernel_rfl))) (gN.refl _)) trivial
   | succ m=>
     rw [decide_eq_true (by omega),cond_true,U9,CY,ai (aU (show dG .i64 ((j:Int)+1)=true from kQ (by omega) (by omega)))] at h1
     rw [AL (n:=m) (c:=j)] at hg
     unfold Eu at hg
     cases hz:zB (pK i j) with
     | true=>
       rw [hz,Bool.not_true,cond_false] at h1
       rw [hz,Bool.not_true,cond_false,cond_false] at hg
       exact ae.di Be h1 ⟨m,Nat.lt_succ_self m,j+1,_,rfl,by omega,hg⟩
     | false=>
       rw [hz,Bool.not_false,cond_true] at h1
       rw [hz,Bool.not_false,cond_true] at hg
       cases hd:aJ (pK i j) with
       | false=>
         rw [hd,cond_false] at h1 hg
         exact ae.di Be h1 ⟨m,Nat.lt_succ_self m,j+1,_,rfl,by omega,hg⟩
       | true=>
         rw [hd,cond_true] at h1 hg
         rw [(KA hg).1,(KA hg).2,← CY]
         exact ae.di Be h1 ⟨_,[],(by kernel_rfl),aL.tC (a:= .ag (.ps (abr i (ak .u8 (j:Int))))) (gN.of (aL.dec (t:=iq) (ds:= [.n (YS i (ak .u8 (j:Int)))]) (by kernel_rfl) (by kernel_rfl))) (gN.refl _),trivial⟩
 · cases hF

noncomputable def uP (u v:Nat):Int:=bif !aJ u then 51 else bif !aJ v then 51 else bif zB u then 140 else 0
theorem amJ (u v:Nat):(bif !aJ u then aV (aN 51) else bif !aJ v then aV (aN 51) else bif zB u then aV (aN 140) else aV (aN 0))=aV (aN (uP u v)):=by
 unfold uP
 cases aJ u<;> cases aJ v<;> cases zB u<;> rfl

noncomputable def WT:List D→Option (List Bool × V)
 | [.n u, .n v]=> some ([],aN (uP u v))
 | _=> none
noncomputable def Gq:aj:=spec [ttm] WT
noncomputable abbrev Ai:List (FuncId × aj):= [(73,qH)]
theorem TR:aD Tryz.prog (aK Ai):=(.cons o5 .nil)
theorem zG:bg Tryz.prog 62 Gq:=by
 refine az (cx:=bJ true false Ai [] []) (c:=af Tryz.f62) Tryz.func62 (by kernel_rfl) (by kernel_rfl) rfl ?_
 intro ds chk v vs hF ht he hr base
 unfold WT at hF
 split at hF
 · rename_i u v
   cases hF
   have hvs:vs= [vtm u v]:=by simp only [bq,bn,bF,bD,Option.some.injEq] at he; exact he.symm
   subst hvs
   have hev:w9 (bJ true false Ai [] []) 400 (af Tryz.f62) ⟨t0 Tryz.f62 [vtm u v],[]⟩ (jv (bJ true false Ai [] []) Tryz.f62 base)=bif !aJ u then aV (aN 51) else bif !aJ v then aV (aN 51) else bif zB u then aV (aN 140) else aV (aN 0):=by kernel_rfl
   exact aB (dM (sy:=true) (rw:=false) TR bf.nil dO.nil) (n:=400) (bs0:= []) (hev.trans (amJ u v)) (aL.refl _) trivial
 · cases hF

noncomputable def R8:List (List D)→Nat→Int
 | [],_=> -1
 | d::l,i=> bif !bU (iR d) then (i:Int) else R8 l (i+1)
theorem Vu: ∀ (l:List (List D)) (i:Nat),decide (0≤R8 l i)= !dK l
 | [],i=> rfl
 | d::l,i=> by
   unfold R8 dK
   cases bU (iR d) with
   | true=> exact Vu l (i+1)
   | false=> exact decide_eq_true (Int.natCast_nonneg i)
def aey (x:List (List D)) (i:Int):St:=⟨[kE x, .one (.fn 78)]++jk 2++ [aN 0]++jk 2++ [aN (x.length:Nat),aN i]++jk 10,[]⟩
def amS (x:List (List D)) (e i:Int):St:=⟨[kE x, .one (.fn 78)]++jk 2++ [aN e]++jk 2++ [aN (x.length:Nat),aN i]++jk 10,[]⟩

noncomputable def WR:List D→Option (List Bool × V)
 | [.l x]=> some ([],aN (R8 x 0))
 | _=> none
noncomputable def adL:aj:=spec [QT, .fnc 78] WR
noncomputable abbrev GJ:List (FuncId × aj):= [(76,gH)]
theorem TP:aD Tryz.prog (aK GJ):=(.cons fB .nil)
noncomputable abbrev K6:List (FuncId × Func):= [(78,Tryz.f78)]
theorem Zd:bf Tryz.prog (gY K6):=(bf.cons Tryz.func78 (by kernel_rfl) bf.nil)
noncomputable abbrev Rl:Cx:=bJ true false GJ K6 []
theorem Fs:Ok Rl:=dM (sy:=true) (rw:=false) TP Zd dO.nil
theorem acp:bg Tryz.prog 118 adL:=by
 refine az (cx:=bJ true false GJ K6 []) (c:=af Tryz.f118) Tryz.func118 (by kernel_rfl) (by kernel_rfl) rfl ?_
 intro ds chk v vs hF ht he hr base
 unfold WR at hF
 split at hF
 · rename_i x
   cases hF
   have hvs:vs= [kE x, .one (.fn 78)]:=by simp only [bq,bn,bF,bD,Option.some.injEq] at he; exact he.symm
   subst hvs
   obtain ⟨hrng,_⟩:=hr
   have hlx:=ll (max_lt hrng.1)
   have h0:bG Rl 100 ((items (af Tryz.f118)).take 2) ⟨t0 Tryz.f118 [kE x, .one (.fn 78)],[]⟩ (iF 0 [0,1,4,7,8] [] 0)=aS [dG .i64 (x.length:Nat)] (.done .normal (aey x 0)):=by kernel_rfl
   rw [ai (aU hlx)] at h0
   refine bM.items _ _ _ (ae.fw Fs (k:=2) h0 ?_)
   refine ae.loop (id:=0) (by kernel_rfl) (fun m s=> ∃ j:Nat,s=aey x (j:Int)∧j+m=x.length∧R8 x 0=R8 (x.drop j) j) x.length ⟨0,rfl,Nat.zero_add _,rfl⟩ ?_
   rintro m s ⟨j,rfl,hj,hg⟩
   have hev: ∀ i:Int,bG Rl 100 (items (aY (af Tryz.f118) 2)) (aey x i) (iF 0 [0,1,4,7,8] [] 0)=
    bif decide (i<(x.length:Nat)) then aS [decide (0≤i),decide (i<(x.length:Nat))] (bif !bU (iR (x.getD i.toNat [])) then .done .ret (amS x i i)
     else aS [dG .i64 (i+1)] (.done .normal (aey x (i+1)))) else .done (.exit 0) (aey x i):=by intro i; kernel_rfl
   have h1:=hev (j:Int)
   rw [Int.toNat_natCast] at h1
   cases m with
   | zero=>
     have hj:j=x.length:=hj
     rw [hj,List.drop_length] at hg
     rw [hj,dL,cond_false] at h1
     rw [hg,hj]
     refine ae.di Fs h1 ?_
     exact bZ Fs (n:=100) (bs0:= []) (by kernel_rfl) (aL.refl _) trivial
   | succ m=>
     have hjl:j<x.length:=by omega
     have hx:=max_lt hrng.1
     rw [jU,dec_lt hjl,cond_true,ai (aF rfl (aU rfl)),ai (aU (show dG .i64 ((j:Int)+1)=true from kQ (by omega) (by omega)))] at h1
     rw [drop_cons hjl,R8] at hg
     cases hb:(!bU (iR (x.getD j []))) with
     | true=>
       rw [hb,cond_true] at h1 hg
       rw [hg]
       exact ae.di Fs h1 ⟨_,[],(by kernel_rfl),aL.refl _,trivial⟩
     | false=>
       rw [hb,cond_false] at h1 hg
       exact ae.di Fs h1 ⟨m,Nat.lt_succ_self m,j+1,rfl,by omega,hg⟩
 · cases hF

noncomputable def WM:List D→Option (List Bool × V)
 | [.l x]=> some ([],bI (!dK x))
 | _=> none
noncomputable def yg:aj:=spec [QT, .fnc 78] WM
noncomputable abbrev Qd:List (FuncId × aj):= [(118,adL)]
theorem TL:aD Tryz.prog (aK Qd):=(.cons acp .nil)
theorem qC:bg Tryz.prog 77 yg:=by
 refine az (cx:=bJ true false Qd [] []) (c:=af Tryz.f77) Tryz.func77 (by kernel_rfl) (by kernel_rfl) rfl ?_
 intro ds chk v vs hF ht he hr base
 unfold WM at hF
 split at hF
 · rename_i x
   cases hF
   have hvs:vs= [kE x, .one (.fn 78)]:=by simp only [bq,bn,bF,bD,Option.some.injEq] at he; exact he.symm
   subst hvs
   rw [← Vu x 0]
   exact aB (dM (sy:=true) (rw:=false) TL bf.nil dO.nil) (n:=400) (bs0:= []) (by kernel_rfl) (aL.refl _) trivial
 · cases hF

noncomputable def WU:List D→Option (List Bool × V)
 | [.l x]=> some ([decide (x.length<9223372036854775808)],cB (fH x))
 | _=> none
noncomputable def yh:aj:=spec [al6] WU
noncomputable abbrev Qe:List (FuncId × aj):= [(66,Pp)]
theorem TS:aD Tryz.prog (aK Qe):=(.cons Dk .nil)
theorem qD:bg Tryz.prog 81 yh:=by
 refine az (cx:=bJ true false Qe [] []) (c:=af Tryz.f81) Tryz.func81 (by kernel_rfl) (by kernel_rfl) rfl ?_
 intro ds chk v vs hF ht he hr base
 unfold WU at hF
 split at hF
 · rename_i x
   cases hF
   have hvs:vs= [ahn x]:=by simp only [bq,bn,bF,bD,Option.some.injEq] at he; exact he.symm
   subst hvs
   have hx:decide (x.length<9223372036854775808)=true:=decide_eq_true (of_decide_eq_true (ht _ (by simp)))
   exact aB (dM (sy:=true) (rw:=false) TS bf.nil dO.nil) (n:=400) (bs0:= []) (h:=Eq.trans (b:=aS [decide (x.length<9223372036854775808)] (aV (cB (fH x)))) (by kernel_rfl) (ai (aU hx))) (aL.refl _) trivial
 · cases hF

noncomputable def WV:List D→Option (List Bool × V)
 | [.n a, .n b]=> some ([],vtm a b)
 | _=> none
noncomputable def yj:aj:=spec [iq,iq] WV
noncomputable abbrev Qf:List (FuncId × aj):= []
theorem TT:aD Tryz.prog (aK Qf):=aD.nil
theorem qE:bg Tryz.prog 82 yj:=by
 refine az (cx:=bJ false false Qf [] []) (c:=af Tryz.f82) Tryz.func82 (by kernel_rfl) (by kernel_rfl) rfl ?_
 intro ds chk v vs hF ht he hr base
 unfold WV at hF
 split at hF
 · rename_i a b
   cases hF
   have hvs:vs= [cB a,cB b]:=by simp only [bq,bn,bF,bD,Option.some.injEq] at he; exact he.symm
   subst hvs
   exact aB (dM (sy:=false) (rw:=false) TT bf.nil dO.nil) (n:=400) (bs0:= []) (by kernel_rfl) (aL.refl _) trivial
 · cases hF

noncomputable def adM:List D→Option (List Bool × V)
 | [.i a, .n b]=> some ([], .ag (.ps [.int .i64 a, .pk .u8 8 32 b]))
 | _=> none
noncomputable def Gp:aj:=spec [GU,iq] adM
noncomputable abbrev XK:List (FuncId × aj):= []
theorem aad:aD Tryz.prog (aK XK):=aD.nil
theorem vU:bg Tryz.prog 85 Gp:=by
 refine az (cx:=bJ true false XK [] []) (c:=af Tryz.f85) Tryz.func85 (by kernel_rfl) (by kernel_rfl) rfl ?_
 intro ds chk v vs hF ht he hr base
 unfold adM at hF
 split at hF
 · rename_i a b
   cases hF
   have hvs:vs= [aN a,cB b]:=by simp only [bq,bn,bF,bD,Option.some.injEq] at he; exact he.symm
   subst hvs
   exact aB (dM (sy:=true) (rw:=false) aad bf.nil dO.nil) (n:=400) (bs0:= []) (by kernel_rfl) (aL.refl _) trivial
 · cases hF

noncomputable abbrev cxT:Cx:={ P:=Tryz.prog,ro:=1,tab:=aK [] }
theorem okT:Ok cxT:=⟨aD.nil,fun _ _ h=> (by cases h),fun _ _ _ _ _ h=> (by cases h),mixed⟩
noncomputable abbrev Gm:aj:=aeZ .u8 8 32
theorem vT:bg Tryz.prog 84 Gm:=by
 refine af1 (cx:=cxT) (fn:=Tryz.f84) (c:=af Tryz.f84) Tryz.func84 (by kernel_rfl) (by kernel_rfl) rfl fun a off len cap e=> ?_
 refine bM.items _ _ _ ?_
 have h:bG cxT 100 (items (af Tryz.f84)) ⟨t0 Tryz.f84 [.ag (.ps [.pk .u8 8 32 a]), .one (.sl 0 off len cap)],[some ⟨e, .dead⟩]⟩ (iF 1 [4] [0,2] 3)= .done .ret ⟨jk 4++ [.one (.ptr 2 0)]++jk 3,[some ⟨e, .dead⟩,none,some ⟨116, .ps [.pk .u8 8 32 a, .sl 0 off len cap]⟩]⟩:=by kernel_rfl
 exact ae.di okT h ⟨.inr rfl,by kernel_rfl⟩
end Go.Proofs.YtcgmcohkkigphaaGreat
