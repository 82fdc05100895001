/-
  The contract of sha.great: a block of the great sum.
-/
import Derived.Test.YtcgmcohkkigphaaGreatL10
import Derived.Test.YtcgmcohkkigphaaGreatS1
import Derived.Test.YtcgmcohkkigphaaGreatX4
import Derived.Test.YtcgmcohkkigphaaGreatL2
import Derived.Test.YtcgmcohkkigphaaGreatU2
set_option maxRecDepth 100000
namespace Go.Proofs.YtcgmcohkkigphaaGreat
open Go Vx Go.RowKit

abbrev tw8:Ty:= .ag [.pk .u64 64 8]
abbrev vw8 (n:Nat):V:= .ag (.ps [.pk .u64 64 8 n])
abbrev tby:Ty:= .one (.sl [.int .u8])
abbrev Yg (x:List (List D)):V:= .one (.rd [.int .u8] x)
abbrev amW:Ty:= .ptr [.pk .u64 64 80]
abbrev aaB (n:Nat):V:= .one (.rp [.pk .u64 64 80] [.n n] 0)
abbrev dw (l:List Nat):Nat:=cO 64 l
theorem ajl (a b c d e f g h:Nat):aL (.ag (.ps [.int .u64 (a:Int), .int .u64 (b:Int), .int .u64 (c:Int), .int .u64 (d:Int), .int .u64 (e:Int), .int .u64 (f:Int), .int .u64 (g:Int), .int .u64 (h:Int)])) (vw8 (dw [a,b,c,d,e,f,g,h])):=
 aL.dec (t:=tw8) (ds:= [.n (dw [a,b,c,d,e,f,g,h])]) rfl rfl
def aaC (s:Nat):W8:=⟨digit 64 s 0,digit 64 s 1,digit 64 s 2,digit 64 s 3,digit 64 s 4,digit 64 s 5,digit 64 s 6,digit 64 s 7⟩
def M4 (x:List (List D)) (i:Nat):Nat:=((x.getD i []).headD (.n 0)).xy.toNat
def UM (x:List (List D)) (t:Nat):Nat:=beN (fun j=> M4 x (t*8+j)) 8
noncomputable def rQ:Nat→List (List D)→Nat:=aA fun s x=> dw (amq eO (UM x) (aaC s)).wR
noncomputable def yn (s:Nat) (x:List (List D)) (kk:Nat) (w:C) (i:Int):St:=⟨[.aC,Yg x,aaB kk, .one (.ptr 0 0), .aC, .aC, .one (.ptr 1 0), .one (.ptr 2 0)]++List.replicate 20 .aC++ [aN i]++List.replicate 182 .aC,
 [some ⟨146, .ps [.pk .u64 64 8 s]⟩,some ⟨146, .ps (List.replicate 8 (.int .u64 0))⟩,some ⟨247,w⟩]⟩
noncomputable def Z5 (s:Nat) (x:List (List D)) (kk:Nat) (w:C) (i t:Int) (y:List (List D)) (n j:Int):St:=⟨[.aC,Yg x,aaB kk, .one (.ptr 0 0), .aC, .aC, .one (.ptr 1 0), .one (.ptr 2 0),aN t]++List.replicate 19 .aC++ [aN i]++List.replicate 10 .aC++ [Yg y,aN n,aN j]++List.replicate 169 .aC,
 [some ⟨146, .ps [.pk .u64 64 8 s]⟩,some ⟨146, .ps (List.replicate 8 (.int .u64 0))⟩,some ⟨247,w⟩]⟩
noncomputable def Z4 (s:Nat) (x:List (List D)) (kk:Nat) (w:C) (i t:Int) (c:Bool):St:=⟨[.aC,Yg x,aaB kk, .one (.ptr 0 0), .aC, .aC, .one (.ptr 1 0), .one (.ptr 2 0),aN t]++List.replicate 19 .aC++ [aN i, .aC, .aC, .aC, .one (.bool c)]++List.replicate 178 .aC,
 [some ⟨146, .ps [.pk .u64 64 8 s]⟩,some ⟨146, .ps (List.replicate 8 (.int .u64 0))⟩,some ⟨247,w⟩]⟩
def akn (a b c d:Int):Int:=ak .u64 (ak .u64 (ak .u64 (ag0 a (-19) (-61) 6+b)+ag0 c (-1) (-8) 7)+d)
noncomputable def TA (s kk:Nat) (w:C) (a b c d e f g h t:Int):St:=⟨[.aC, .aC,aaB kk, .one (.ptr 0 0), .aC, .aC, .one (.ptr 1 0), .one (.ptr 2 0)]++List.replicate 7 .aC++ [j6 a,j6 b,j6 c,j6 d,j6 e,j6 f,j6 g,j6 h]++List.replicate 88 .aC++ [aN t]++List.replicate 99 .aC,
 [some ⟨146, .ps [.pk .u64 64 8 s]⟩,some ⟨146, .ps (List.replicate 8 (.int .u64 0))⟩,some ⟨247,w⟩]⟩

theorem aex {s:Nat} {x:List (List D)} {kk:Nat} {w w':C} {i:Int} (h:kF w w') (h1:w= .dead→w'= .dead) (h2: ∀ ts,w= .row ts []→ ∃ ts',w'= .row ts' []):tK (yn s x kk w i) (yn s x kk w' i):=by
 refine ⟨rfl,fun _=> .inl rfl,fun j=> ?_⟩
 match j with
 | 0 | 1=> exact .inl rfl
 | 2=> exact .inr ⟨_,_,_,rfl,rfl,h,h1,h2⟩
 | j+3=> exact .inl rfl
theorem UO {x:List (List D)} (hx: ∀ (i:Nat) (e:List D),x[i]? =some e→jh [.int .u8] e) (i:Nat):0≤((x.getD i []).headD (.n 0)).xy∧((x.getD i []).headD (.n 0)).xy<256:=by
 rw [List.getD_eq_getElem?_getD]
 cases h:x[i]? with
 | none=> exact ⟨by decide,by decide⟩
 | some e=>
   have:=(hx i e h).1
   simp only [Bu,jm,Bool.and_eq_true,decide_eq_true_eq] at this
   exact this
theorem Kj {x:List (List D)} (hx: ∀ (i:Nat) (e:List D),x[i]? =some e→jh [.int .u8] e) (i:Nat):M4 x i<256:=by
 have:=UO hx i
 unfold M4
 omega
theorem YD {x:List (List D)} (hx: ∀ (i:Nat) (e:List D),x[i]? =some e→jh [.int .u8] e) (i:Nat):((x.getD i []).headD (.n 0)).xy=(M4 x i:Nat):=by
 have:=UO hx i
 unfold M4
 omega
theorem Ri {f:Nat→Nat} (hf: ∀ i,f i<256): ∀ n,beN f n<256^n
 | 0=> by simp [beN]
 | n+1=> by
   have h1:=Ri hf n
   have h2:=hf n
   rw [beN,Nat.pow_succ]
   generalize 256^n=P at*
   omega
theorem word_lt {x:List (List D)} (hx: ∀ (i:Nat) (e:List D),x[i]? =some e→jh [.int .u8] e) (t:Nat):mX eO (UM x) t<2^64:=by
 rcases Nat.lt_or_ge t 16 with h | h
 · rw [Yk _ _ h]
   exact Ri (fun i=> Kj hx _) 8
 · obtain ⟨u,rfl⟩: ∃ u,t=u+16:=⟨t - 16,by omega⟩
   rw [Yj]
   exact Nat.mod_lt _ (by decide)
theorem YE {v b:Nat} (hv:v<256^7) (hb:b<256):(ak .u64 ((v:Int)*256)).toNat ||| (ak .u64 (b:Int)).toNat=v*256+b:=by
 have e1:(ak .u64 ((v:Int)*256)).toNat=v*2^8:=by simp only [ak]; omega
 have e2:(ak .u64 (b:Int)).toNat=b:=by simp only [ak]; omega
 rw [e1,e2,Vx.FO (m:=8) (by omega)]
theorem abQ: ∀ t,t<80→digit 64 (dw eO.k) t=eO.k.getD t 0:=by decide+kernel
theorem ako {a b c d:Nat} (ha:a<2^64) (hc:c<2^64):akn a b c d=(((PY 64 19 61 6 a+b+PY 64 1 8 7 c+d) % 2^64:Nat):Int):=by
 unfold akn
 rw [XA (i:=19) (j:=61) ha (by decide) (by decide) (by decide) (by decide),XA (i:=1) (j:=8) hc (by decide) (by decide) (by decide) (by decide)]
 simp only [← Int.natCast_add,wrap64]
 congr 1
 omega
theorem aaA {r:Nat→Int} {p:Nat} {v:Int} (h:r p=v):BJ r p v=r:=by
 funext j
 unfold BJ
 by_cases hj:j=p
 · rw [if_pos hj,hj,h]
 · rw [if_neg hj]
theorem afb (r:Nat→Int) (p:Nat) (v w:Int):BJ (BJ r p v) p w=BJ r p w:=by
 funext j
 unfold BJ
 by_cases hj:j=p
 · rw [if_pos hj,if_pos hj]
 · rw [if_neg hj,if_neg hj,if_neg hj]
theorem QV (r:Nat→Int) (p:Nat) (v:Int):(fun j=> if j=p then v else r j)=BJ r p v:=rfl

noncomputable def Pw:List D→Option (List Bool × V)
 | [.n s, .l x, .l [[.n kk]]]=> some ([decide (x.length=128),decide (kk=dw eO.k)],vw8 (rQ s x))
 | _=> none
noncomputable def WI:aj:=spec [tw8,tby,amW] Pw
noncomputable abbrev dI:List (FuncId × aj):= [(226,aeq)]
theorem dF:aD Tryz.prog (aK dI):=(.cons acB .nil)
theorem Zv:bg Tryz.prog 223 WI:=by
 refine az (cx:=iG dI) (c:=af Tryz.f223) Tryz.func223 (by kernel_rfl) (by kernel_rfl) rfl ?_
 intro ds chk v vs hF ht he hr base
 unfold Pw at hF
 split at hF
 · rename_i s x kk
   cases hF
   have hvs:vs= [vw8 s,Yg x,aaB kk]:=by simp only [bq,bn,bF,bD,Option.some.injEq] at he; exact he.symm
   subst hvs
   have h0:bG (iG dI) 100 ((items (af Tryz.f223)).take 3) ⟨t0 Tryz.f223 [vw8 s,Yg x,aaB kk],[]⟩ (iF 0 [1,2,3,6,7,28] [0,1,2] 3)= .done .normal (yn s x kk (psI .u64 80 fun _=> 0) 0):=by kernel_rfl
   have hrd: ∀ (wf:Nat→Int) (a b c d e f g h t:Int),bG (iG dI) 100 (items (aY (af Tryz.f223) 6)) (TA s kk (wU .u64 80 wf) a b c d e f g h t) (iF 0 [2,3,6,7,15,16,17,18,19,20,21,22,111] [0,1,2] 3)=
    bif decide (t<80) then aS [decide (0≤t),decide (t<80),decide (0+t.toNat*1<80),decide (0≤t),decide (t<80),decide (0+t.toNat<80),dG .i64 (t+1)]
     (.done .normal (TA s kk (wU .u64 80 wf) (ak .u64 (t1I e f g h (digit 64 kk (0+t.toNat*1):Nat) (wf (0+t.toNat))+t2I a b c)) a b c (ak .u64 (d+t1I e f g h (digit 64 kk (0+t.toNat*1):Nat) (wf (0+t.toNat)))) e f g (t+1)))
    else .done (.exit 4) (TA s kk (wU .u64 80 wf) a b c d e f g h t):=by intro wf a b c d e f g h t; kernel_rfl
   have hld: ∀ (wf:Nat→Int),bG (iG dI) 100 (((items (af Tryz.f223)).drop 4).take 2) (yn s x kk (wU .u64 80 wf) 80) (iF 0 [2,3,6,7,15,16,17,18,19,20,21,22,111] [0,1,2] 3)=
    .done .normal (TA s kk (wU .u64 80 wf) (digit 64 s 0:Nat) (digit 64 s 1:Nat) (digit 64 s 2:Nat) (digit 64 s 3:Nat) (digit 64 s 4:Nat) (digit 64 s 5:Nat) (digit 64 s 6:Nat) (digit 64 s 7:Nat) 0):=by intro wf; kernel_rfl
   have hsc: ∀ (wf:Nat→Int) (i t:Int),bG (iG dI) 100 ((items (gP (aY (af Tryz.f223) 3) 2)).drop 3) (Z4 s x kk (wU .u64 80 wf) i t false) (iF 0 [1,2,3,6,7,28] [0,1,2] 3)=
    aS [dG .i64 (t - 2),decide (0≤t - 2),decide (t - 2<80),decide (0+(t - 2).toNat<80),dG .i64 (t - 15),decide (0≤t - 15),decide (t - 15<80),decide (0+(t - 15).toNat<80),dG .i64 (t - 7),decide (0≤t - 7),decide (t - 7<80),decide (0+(t - 7).toNat<80),
     dG .i64 (t - 16),decide (0≤t - 16),decide (t - 16<80),decide (0+(t - 16).toNat<80),decide (0≤t),decide (t<80),decide (0+t.toNat<80)]
     (.done .normal (yn s x kk (.big 1 80 fun p=> if p=0+t.toNat then [.int .u64 (akn (wf (0+(t - 2).toNat)) (wf (0+(t - 7).toNat)) (wf (0+(t - 15).toNat)) (wf (0+(t - 16).toNat)))] else [.int .u64 (wf p)]) i)):=by intro wf i t; kernel_rfl
   have hin: ∀ (wf:Nat→Int) (i t n j:Int) (y:List (List D)),bG (iG dI) 100 (items (aY (uZ (gP (aY (af Tryz.f223) 3) 2) 2) 1)) (Z5 s x kk (wU .u64 80 wf) i t y n j) (iF 0 [1,2,3,6,7,8,28,39,40,41] [0,1,2] 3)=
    bif decide (j<n) then aS [decide (0≤j),decide (j<(y.length:Nat)),decide (0≤t),decide (t<80),decide (0+t.toNat<80),decide (0≤t),decide (t<80),decide (0+t.toNat<80),dG .i64 (j+1)]
     (.done .normal (Z5 s x kk (.big 1 80 fun p=> if p=0+t.toNat then [.int .u64 (((ak .u64 (wf (0+t.toNat)*256)).toNat ||| (ak .u64 ((y.getD j.toNat []).headD (.n 0)).xy).toNat:Nat):Int)] else [.int .u64 (wf p)]) i t y n (j+1)))
    else .done (.exit 2) (Z5 s x kk (wU .u64 80 wf) i t y n j):=by intro wf i t n j y; kernel_rfl
   have hhd: ∀ (wf:Nat→Int) (i:Int),bG (iG dI) 100 ((items (aY (af Tryz.f223) 3)).take 2) (yn s x kk (wU .u64 80 wf) i) (iF 0 [1,2,3,6,7,28] [0,1,2] 3)=bif decide (i<80) then .done .normal (yn s x kk (wU .u64 80 wf) i) else .done (.exit 0) (yn s x kk (wU .u64 80 wf) i):=by intro wf i; kernel_rfl
   have htl: ∀ (wf:Nat→Int) (i:Int),bG (iG dI) 100 ((items (aY (af Tryz.f223) 3)).drop 3) (yn s x kk (wU .u64 80 wf) i) (iF 0 [1,2,3,6,7,28] [0,1,2] 3)=aS [dG .i64 (i+1)] (.done .normal (yn s x kk (wU .u64 80 wf) (i+1))):=by intro wf i; kernel_rfl
   have hb4: ∀ (wf:Nat→Int) (i:Int),bG (iG dI) 100 ((items (gP (aY (af Tryz.f223) 3) 2)).take 2) (yn s x kk (wU .u64 80 wf) i) (iF 0 [1,2,3,6,7,8,28,32] [0,1,2] 3)= .done .normal (Z4 s x kk (wU .u64 80 wf) i i (decide (i<16))):=by intro wf i; kernel_rfl
   have h6: ∀ (wf:Nat→Int) (i t:Int),bG (iG dI) 100 ((items (uZ (gP (aY (af Tryz.f223) 3) 2) 2)).take 1) (Z4 s x kk (wU .u64 80 wf) i t true) (iF 0 [1,2,3,6,7,8,28,39,40,41] [0,1,2] 3)=
    aS [dG .i64 (8*t),dG .i64 (8*t),dG .i64 (8*t+8),decide (0≤8*t+8),decide (8*t+8≤(x.length:Nat)),decide (0≤8*t),decide (8*t≤8*t+8),dG .i64 (((x.drop (8*t).toNat).take ((8*t+8).toNat - (8*t).toNat)).length:Nat)]
     (.done .normal (Z5 s x kk (wU .u64 80 wf) i t ((x.drop (8*t).toNat).take ((8*t+8).toNat - (8*t).toNat)) (((x.drop (8*t).toNat).take ((8*t+8).toNat - (8*t).toNat)).length:Nat) 0)):=by intro wf i t; kernel_rfl
   have hex: ∀ (wf:Nat→Int) (i t n j:Int) (y:List (List D)),bG (iG dI) 100 ((items (uZ (gP (aY (af Tryz.f223) 3) 2) 2)).drop 2) (Z5 s x kk (wU .u64 80 wf) i t y n j) (iF 0 [1,2,3,6,7,28] [0,1,2] 3)= .done (.exit 1) (yn s x kk (wU .u64 80 wf) i):=by intro wf i t n j y; kernel_rfl
   have hel: ∀ (wf:Nat→Int) (t:Int),bG (iG dI) 100 (items (AJ (gP (aY (af Tryz.f223) 3) 2) 2)) (Z4 s x kk (wU .u64 80 wf) t t false) (iF 0 [1,2,3,6,7,8,28,32] [0,1,2] 3)= .done .normal (Z4 s x kk (wU .u64 80 wf) t t false):=by intro wf t; kernel_rfl
   have hend: ∀ (wf:Nat→Int) (a b c d e f g h t:Int),bG (iG dI) 100 ((items (af Tryz.f223)).drop 7) (TA s kk (wU .u64 80 wf) a b c d e f g h t) (jv (iG dI) Tryz.f223 base)=
    aV (.ag (.ps [.int .u64 (ak .u64 ((digit 64 s 0:Nat)+a)), .int .u64 (ak .u64 ((digit 64 s 1:Nat)+b)), .int .u64 (ak .u64 ((digit 64 s 2:Nat)+c)), .int .u64 (ak .u64 ((digit 64 s 3:Nat)+d)), .int .u64 (ak .u64 ((digit 64 s 4:Nat)+e)), .int .u64 (ak .u64 ((digit 64 s 5:Nat)+f)), .int .u64 (ak .u64 ((digit 64 s 6:Nat)+g)), .int .u64 (ak .u64 ((digit 64 s 7:Nat)+h))])):=by intro wf a b c d e f g h t; kernel_rfl
   have hx:x.length=128:=of_decide_eq_true (ht _ (by simp))
   have hkk:kk=dw eO.k:=of_decide_eq_true (ht _ (by simp))
   obtain ⟨_,hxr,_⟩:=hr
   have hxr: ∀ (i:Nat) (e:List D),x[i]? =some e→jh [.int .u8] e:=hxr.2
   refine bM.items _ _ _ (ae.aj6 (dB dF) (k:=3) h0 (aex alI (fun h=> by cases h) (fun _ h=> by cases h)) ?_)
   refine ae.loop (id:=0) (by kernel_rfl) (fun m s'=> ∃ (j:Nat) (wf:Nat→Int),s'=yn s x kk (wU .u64 80 wf) (j:Int)∧j+m=80∧(∀ p,p<j→wf p=(mX eO (UM x) p:Nat))∧(∀ p,j≤p→wf p=0)) 80
    ⟨0,fun _=> 0,rfl,rfl,fun p hp=> absurd hp (Nat.not_lt_zero p),fun _ _=> rfl⟩ ?_
   rintro m s' ⟨j,wf,rfl,hj,hw,hz⟩
   cases m with
   | zero=>
     have hj:j=80:=hj
     subst hj
     have h1:=hhd wf (80:Nat)
     rw [show decide (((80:Nat):Int)<80)=false from rfl,cond_false] at h1
     refine ae.fw (dB dF) (k:=2) h1 ?_
     refine ae.fw (dB dF) (k:=2) (hld wf) ?_
     refine ae.loop (id:=4) (by kernel_rfl) (fun m s'=> ∃ t:Nat,t+m=80∧s'=(fun v:W8=> TA s kk (wU .u64 80 wf) v.a v.b v.c v.d v.e v.f v.g v.h (t:Int)) (F6 eO (UM x) (aaC s) t)) 80 ⟨0,rfl,rfl⟩ ?_
     rintro m s' ⟨t,htm,rfl⟩
     have hva:(F6 eO (UM x) (aaC s) t).a<2^64:=by
      cases t with
      | zero=> exact Em 64 s 0
      | succ t=> exact Nat.mod_lt _ (by decide)
     have hve:(F6 eO (UM x) (aaC s) t).e<2^64:=by
      cases t with
      | zero=> exact Em 64 s 4
      | succ t=> exact Nat.mod_lt _ (by decide)
     dsimp only
     generalize hv:F6 eO (UM x) (aaC s) t=v at*
     have h2:=hrd wf v.a v.b v.c v.d v.e v.f v.g v.h (t:Int)
     rw [Int.toNat_natCast,Nat.zero_add,Nat.mul_one,Nat.zero_add] at h2
     cases m with
     | zero=>
       have htm:t=80:=htm
       subst htm
       rw [show decide (((80:Nat):Int)<80)=false from rfl,cond_false] at h2
       refine ae.di (dB dF) h2 ?_
       have hg:rQ s x=dw [(digit 64 s 0+v.a) % 2^64,(digit 64 s 1+v.b) % 2^64,(digit 64 s 2+v.c) % 2^64,(digit 64 s 3+v.d) % 2^64,(digit 64 s 4+v.e) % 2^64,(digit 64 s 5+v.f) % 2^64,(digit 64 s 6+v.g) % 2^64,(digit 64 s 7+v.h) % 2^64]:=by
        unfold rQ
        rw [aO,← hv]
        rfl
       rw [hg]
       have h3:=hend wf v.a v.b v.c v.d v.e v.f v.g v.h ((80:Nat):Int)
       simp only [← Int.natCast_add,wrap64] at h3
       exact bZ (dB dF) (bs0:= []) h3 (ajl _ _ _ _ _ _ _ _) trivial
     | succ m=>
       rw [decide_eq_true (show ((t:Nat):Int)<80 by omega),cond_true,ai] at h2
       rotate_left 1
       · clear h2
         repeat' (first | exact iL | refine aF ?_ ?_)
         all_goals first | (rw [decide_eq_true_iff]; omega) | exact kQ (by omega) (by omega) | rfl
       rw [hkk,abQ t (by omega),hw t (by omega)] at h2
       obtain ⟨r1,r2⟩:=agV (k:=eO.k.getD t 0) (w:=mX eO (UM x) t) hva hve
       rw [r1,r2,← hkk] at h2
       refine ae.di (dB dF) h2 ⟨m,Nat.lt_succ_self m,t+1,by omega,?_⟩
       show _=(fun v:W8=> TA s kk (wU .u64 80 wf) v.a v.b v.c v.d v.e v.f v.g v.h ((t+1:Nat):Int)) (agW eO (eO.k.getD t 0) (mX eO (UM x) t) (F6 eO (UM x) (aaC s) t))
       rw [hv]
       rfl
   | succ m=>
     have hjl:j<80:=by omega
     have h1:=hhd wf (j:Int)
     rw [decide_eq_true (show ((j:Nat):Int)<80 by omega),cond_true] at h1
     refine ae.fw (dB dF) (k:=2) h1 (ae.gP (id:=1) (by kernel_rfl) ?_)
     refine ae.fw (dB dF) (k:=2) (hb4 wf (j:Int)) ?_
     have hlast:ae (iG dI) 0 ((items (aY (af Tryz.f223) 3)).drop 3) (yn s x kk (wU .u64 80 (BJ wf j (mX eO (UM x) j:Nat))) (j:Int))
      (andThen (fun s'=> ∃ m',m'<m+1∧ ∃ (j:Nat) (wf:Nat→Int),s'=yn s x kk (wU .u64 80 wf) (j:Int)∧j+m'=80∧(∀ p,p<j→wf p=(mX eO (UM x) p:Nat))∧(∀ p,j≤p→wf p=0)) (IX 0 (andThen (fun s'=> ae (iG dI) 0 ((items (af Tryz.f223)).drop (3+1)) s' (Post (iG dI) Tryz.f223 base (vw8 (rQ s x)) [])) (Post (iG dI) Tryz.f223 base (vw8 (rQ s x)) [])))):=by
      have h2:=htl (BJ wf j (mX eO (UM x) j:Nat)) (j:Int)
      rw [ai (aU (kQ (by omega) (by omega)))] at h2
      refine ae.di (dB dF) h2 ⟨m,Nat.lt_succ_self m,j+1,_,rfl,by omega,fun p hp=> ?_,fun p hp=> ?_⟩
      · by_cases hpj:p=j
        · subst hpj; rw [Ye]
        · rw [Yf hpj]; exact hw p (by omega)
      · rw [Yf (by omega)]; exact hz p (by omega)
     rcases Nat.lt_or_ge j 16 with h16 | h16
     · rw [decide_eq_true (show ((j:Nat):Int)<16 by omega)]
       refine ae.uZ (.tmp 32) (by kernel_rfl) (by kernel_rfl) ?_
       have h3:=h6 wf (j:Int) (j:Int)
       have e1:(8*(j:Int)).toNat=8*j:=by omega
       have e2:(8*(j:Int)+8).toNat - 8*j=8:=by omega
       have e3:((x.drop (8*j)).take 8).length=8:=by rw [List.length_take,List.length_drop,hx]; omega
       rw [e1,e2,e3,ai] at h3
       rotate_left 1
       · clear h3
         repeat' (first | exact iL | refine aF ?_ ?_)
         all_goals first | (rw [decide_eq_true_iff]; omega) | exact kQ (by omega) (by omega) | rfl
       refine ae.fw (dB dF) (k:=1) h3 ?_
       have hy: ∀ i,i<8→((x.drop (8*j)).take 8).getD i []=x.getD (8*j+i) []:=by
        intro i hi
        rw [List.getD_eq_getElem?_getD,List.getElem?_take_of_lt hi,List.getElem?_drop,← List.getD_eq_getElem?_getD]
       generalize (x.drop (8*j)).take 8=y at*
       refine ae.loop (id:=2) (by kernel_rfl) (fun m' s'=> ∃ k:Nat,k+m'=8∧s'=Z5 s x kk (wU .u64 80 (BJ wf j (beN (fun i=> M4 x (j*8+i)) k:Nat))) (j:Int) (j:Int) y 8 (k:Int)) 8 ⟨0,rfl,?_⟩ ?_
       · rw [aaA (show wf j=((beN (fun i=> M4 x (j*8+i)) 0:Nat):Int) from hz j (Nat.le_refl j))]; rfl
       rintro m' s' ⟨k,hk,rfl⟩
       have h4:=hin (BJ wf j (beN (fun i=> M4 x (j*8+i)) k:Nat)) (j:Int) (j:Int) 8 (k:Int) y
       rw [Int.toNat_natCast,Int.toNat_natCast,Nat.zero_add,Ye,aa0,QV,afb,e3] at h4
       cases m' with
       | zero=>
         have hk:k=8:=hk
         subst hk
         rw [show decide (((8:Nat):Int)<8)=false from rfl,cond_false] at h4
         refine ae.di (dB dF) h4 ?_
         refine ae.di (dB dF) (hex _ (j:Int) (j:Int) 8 ((8:Nat):Int) y) ?_
         show ae _ 0 _ _ _
         rw [Yk eO (UM x) h16] at hlast
         exact hlast
       | succ m'=>
         rw [decide_eq_true (show ((k:Nat):Int)<8 by omega),cond_true,ai] at h4
         rotate_left 1
         · clear h4
           repeat' (first | exact iL | refine aF ?_ ?_)
           all_goals first | (rw [decide_eq_true_iff]; omega) | exact kQ (by omega) (by omega) | rfl
         rw [hy k (by omega),YD hxr,YE (Nat.lt_of_lt_of_le (Ri (fun i=> Kj hxr _) k) (Nat.pow_le_pow_right (by decide) (by omega))) (Kj hxr _),Nat.mul_comm 8 j] at h4
         exact ae.di (dB dF) h4 ⟨m',Nat.lt_succ_self m',k+1,by omega,rfl⟩
     · rw [decide_eq_false (show ¬ ((j:Nat):Int)<16 by omega)]
       refine ae.AJ (.tmp 32) (by kernel_rfl) (by kernel_rfl) ?_
       refine ae.di (dB dF) (n:=100) (kt:= [1,2,3,6,7,8,28,32]) (kh:= [0,1,2]) (m:=3) (e:= .normal) (st':=Z4 s x kk (wU .u64 80 wf) (j:Int) (j:Int) false) (hel wf (j:Int)) ?_
       have h5:=hsc wf (j:Int) (j:Int)
       obtain ⟨u,rfl⟩: ∃ u,j=u+16:=⟨j - 16,by omega⟩
       have e1:(((u+16:Nat):Int) - 2).toNat=u+14:=by omega
       have e2:(((u+16:Nat):Int) - 7).toNat=u+9:=by omega
       have e3:(((u+16:Nat):Int) - 15).toNat=u+1:=by omega
       have e4:(((u+16:Nat):Int) - 16).toNat=u:=by omega
       rw [e1,e2,e3,e4,Int.toNat_natCast] at h5
       simp only [Nat.zero_add] at h5
       rw [ai] at h5
       rotate_left 1
       · clear h5
         repeat' (first | exact iL | refine aF ?_ ?_)
         all_goals first | (rw [decide_eq_true_iff]; omega) | exact kQ (by omega) (by omega) | rfl
       rw [hw (u+14) (by omega),hw (u+9) (by omega),hw (u+1) (by omega),hw u (by omega),ako (word_lt hxr _) (word_lt hxr _),aa0,QV] at h5
       refine ae.di (dB dF) h5 ?_
       show ae _ 0 _ _ _
       rw [Yj] at hlast
       exact hlast
 · cases hF
end Go.Proofs.YtcgmcohkkigphaaGreat
