/-
  The contract of sha.Sum512.
-/
import Derived.Test.YtcgmcohkkigphaaGreatLb61
import Derived.Test.YtcgmcohkkigphaaGreatL2
set_option maxRecDepth 100000
namespace Go.Proofs.YtcgmcohkkigphaaGreat
open Go Vx Go.RowKit

noncomputable def lY (s:Nat) (p:List (List D)):Nat→Nat
 | 0=> s
 | i+1=> rQ (lY s p i) ((p.drop (128*i)).take 128)
def ajR (s:Nat) (i:Nat):Int:=ak .u8 (((digit 64 s (i / 8):Nat):Int) / ((2^(56 - 8*(i % 8)):Nat):Int))
def agu (s:Nat):Nat:=cO 8 ((List.range 64).map fun i=> (ajR s i).toNat)
noncomputable def nG:List (List D)→Nat:=aA fun x=> agu (lY (dw eO.h) (bL 128 16 x (x.length:Nat)) ((bL 128 16 x (x.length:Nat)).length / 128))
theorem Y8 {x:List (List D)} {n:Int} {j:Nat} (h:128*(j+1)≤x.length):((bL 128 16 x n).drop (128*j)).take 128=(x.drop (128*j)).take 128:=by
 unfold bL
 simp only [List.append_assoc]
 rw [List.drop_append_of_le_length (by omega),List.take_append_of_le_length (by rw [List.length_drop]; omega)]
theorem R6 {x:List (List D)} {n:Int} {j:Nat} (h:128*j≤x.length):(bL 128 16 x n).drop (128*j)=bL 128 16 (x.drop (128*j)) n:=by
 have hz:fQ 128 16 x.length=fQ 128 16 (x.drop (128*j)).length:=by
  rw [List.length_drop]
  unfold fQ
  omega
 unfold bL
 simp only [List.append_assoc]
 rw [List.drop_append_of_le_length h,hz]
theorem Y9 (x:List (List D)) (n:Int):(bL 128 16 x n).length % 128=0:=by
 rw [ES]
 unfold fQ
 omega
def kLs:List L:=eO.k.map fun (n:Nat)=> .int .u64 (n:Int)
def hLs:List L:=eO.h.map fun (n:Nat)=> .int .u64 (n:Int)
def Mf (n:Int) (y:List (List D)) (c1 c2:C):St:=⟨[Yg y, .aC, .one (.ptr 0 0), .one (.ptr 1 0), .one (.ptr 2 0),aN n]++List.replicate 45 .aC,[some ⟨215, .ps (List.replicate 64 (.int .u8 0))⟩,some ⟨247,c1⟩,some ⟨146,c2⟩]⟩
abbrev cK (kk:Nat):C:= .ps [.pk .u64 64 80 kk]
abbrev cW (s:Nat):C:= .ps [.pk .u64 64 8 s]
def aeC (p:List (List D)) (off len s kk:Nat):St:=⟨[.aC, .aC, .one (.ptr 0 0), .one (.ptr 1 0), .one (.ptr 2 0), .aC, .one (.row 3 1 off len len)]++List.replicate 44 .aC,[some ⟨215, .ps (List.replicate 64 (.int .u8 0))⟩,some ⟨247,cK kk⟩,some ⟨146,cW s⟩,some ⟨5, .row [.int .u8] p⟩]⟩
theorem af7:aL (.ag (.ps kLs)) (.ag (cK (dw eO.k))):=aL.dec (t:= .ag [.pk .u64 64 80]) (ds:= [.n (dw eO.k)]) (by kernel_rfl) (by kernel_rfl)
theorem af3:aL (.ag (.ps hLs)) (.ag (cW (dw eO.h))):=aL.dec (t:= .ag [.pk .u64 64 8]) (ds:= [.n (dw eO.h)]) (by kernel_rfl) (by kernel_rfl)
theorem aeB (n:Int) (y:List (List D)):tK (Mf n y (.ps kLs) (.ps hLs)) (Mf n y (cK (dw eO.k)) (cW (dw eO.h))):=by
 refine ⟨rfl,fun _=> .inl rfl,fun j=> ?_⟩
 match j with
 | 0=> exact .inl rfl
 | 1=> exact .inr ⟨_,_,_,rfl,rfl,kF.of' af7,(fun h=> by cases h),(fun _ h=> by cases h)⟩
 | 2=> exact .inr ⟨_,_,_,rfl,rfl,kF.of' af3,(fun h=> by cases h),(fun _ h=> by cases h)⟩
 | j+3=> exact .inl rfl
theorem agv (s:Nat):aL (.ag (.ps ((List.range 64).map fun i=> .int .u8 (ajR s i)))) (afe (agu s)):=aL.dec (t:=akB) (ds:= [.n (agu s)]) (by kernel_rfl) (by kernel_rfl)

noncomputable def Jy:List D→Option (List Bool × V)
 | [.l x]=> some ([decide (x.length<1099511627776)],afe (nG x))
 | _=> none
noncomputable def Pz:aj:=spec [tby] Jy
noncomputable abbrev sI:List (FuncId × aj):= [(223,WI),(224,adJ)]
theorem Mt:aD Tryz.prog (aK sI):=(.cons Zv (.cons acn .nil))
noncomputable abbrev tY:Cx:=bJ true false sI [] []
theorem qB:Ok tY:=dM (sy:=true) (rw:=false) Mt bf.nil dO.nil
theorem SI:bg Tryz.prog 217 Pz:=by
 refine az (cx:=bJ true false sI [] []) (c:=af Tryz.f217) Tryz.func217 (by kernel_rfl) (by kernel_rfl) rfl ?_
 intro ds chk v vs hF ht he hr base
 unfold Jy at hF
 split at hF
 · rename_i x
   cases hF
   have hvs:vs= [Yg x]:=by simp only [bq,bn,bF,bD,Option.some.injEq] at he; exact he.symm
   subst hvs
   have hx:x.length<1099511627776:=of_decide_eq_true (ht _ (by simp))
   obtain ⟨hxr,_⟩:=hr
   have hg:nG x=agu (lY (dw eO.h) (bL 128 16 x (x.length:Nat)) ((bL 128 16 x (x.length:Nat)).length / 128)):=by unfold nG; rw [aO]
   rw [hg]
   clear hg
   have h0:bG tY 100 ((items (af Tryz.f217)).take 4) ⟨t0 Tryz.f217 [Yg x],[]⟩ (iF 0 [0,2,3,4,5] [0,1,2] 3)=aS [dG .i64 (x.length:Nat)] (.done .normal (Mf (x.length:Nat) x (.ps kLs) (.ps hLs))):=by kernel_rfl
   rw [ai (aU (kQ (by omega) (by omega)))] at h0
   refine bM.items _ _ _ (ae.aj6 qB (k:=4) h0 (aeB _ _) ?_)
   generalize hn:((x.length:Nat):Int)=n
   have hpl:(bL 128 16 x n).length=x.length+1+fQ 128 16 x.length+(16 - 8)+8:=ES ..
   have hzb:fQ 128 16 x.length<128:=Nat.mod_lt _ (by decide)
   have hpm:=Y9 x n
   refine ae.loop (id:=0) (by kernel_rfl) (fun m s=> ∃ j,s=Mf n (x.drop (128*j)) (cK (dw eO.k)) (cW (lY (dw eO.h) (bL 128 16 x n) j))∧128*j≤x.length∧m=x.length - 128*j) x.length ⟨0,rfl,by omega,by omega⟩ ?_
   rintro m s ⟨j,rfl,hj,hm⟩
   have hyl:(x.drop (128*j)).length=x.length - 128*j:=List.length_drop
   have hevG: ∀ (y:List (List D)) (s:Nat),bG tY 100 (items (aY (af Tryz.f217) 4)) (Mf n y (cK (dw eO.k)) (cW s)) (iF 0 [0,2,3,4,5] [0,1,2] 3)=
    aS [dG .i64 (y.length:Nat)] (bif decide ((128:Int)≤(y.length:Nat)) then aS [decide ((128:Int)≤(y.length:Nat)),decide (((y.drop 0).take (128 - 0)).length=128),decide (dw eO.k=dw eO.k),decide (((y.length:Nat):Int)≤(y.length:Nat)),decide ((128:Int)≤(y.length:Nat))]
     (.done .normal (Mf n ((y.drop 128).take (((y.length:Nat):Int).toNat - 128)) (cK (dw eO.k)) (cW (rQ s ((y.drop 0).take (128 - 0))))))
    else .done (.exit 0) (Mf n y (cK (dw eO.k)) (cW s))):=by intro y s; kernel_rfl
   have hev:=hevG (x.drop (128*j)) (lY (dw eO.h) (bL 128 16 x n) j)
   rw [ai (aU (kQ (by omega) (by omega)))] at hev
   clear hevG
   by_cases hc:128≤(x.drop (128*j)).length
   · rw [decide_eq_true (show (128:Int)≤((x.drop (128*j)).length:Nat) by omega),cond_true,Int.toNat_natCast,List.drop_zero,ai] at hev
     rotate_left 1
     · refine aF (by rfl) (aF ?_ (aF (decide_eq_true rfl) (aF ?_ (aU ?_))))
       · rw [decide_eq_true_iff,List.length_take]; omega
       · rw [decide_eq_true_iff]; omega
       · rfl
     refine ae.di qB hev ⟨m - 128,by omega,j+1,?_,by omega,by omega⟩
     rw [List.drop_drop,List.take_of_length_le (by rw [List.length_drop]; omega),show 128*j+128=128*(j+1) by omega]
     show _=Mf n _ _ (cW (rQ (lY (dw eO.h) (bL 128 16 x n) j) (((bL 128 16 x n).drop (128*j)).take 128)))
     rw [Y8 (by omega)]
   · rw [decide_eq_false (show ¬ (128:Int)≤((x.drop (128*j)).length:Nat) by omega),cond_false] at hev
     refine ae.di qB hev ?_
     clear hev
     have h1G: ∀ (y:List (List D)) (s:Nat),bG tY 100 (((items (af Tryz.f217)).drop (4+1)).take 1) (Mf n y (cK (dw eO.k)) (cW s)) (iF 0 [2,3,4,6] [0,1,2,3] 4)=
      aS [decide (y.length<1099511627776)] (.done .normal (aeC (bL 128 16 y n) 0 (bL 128 16 y n).length s (dw eO.k))):=by intro y s; kernel_rfl
     have h1:=h1G (x.drop (128*j)) (lY (dw eO.h) (bL 128 16 x n) j)
     rw [ai (aU (by rw [decide_eq_true_iff]; omega)),← R6 hj] at h1
     refine ae.fw qB (k:=1) h1 ?_
     have hql:((bL 128 16 x n).drop (128*j)).length=(bL 128 16 x n).length - 128*j:=List.length_drop
     refine ae.loop (id:=2) (by kernel_rfl) (fun m s=> ∃ i,s=aeC ((bL 128 16 x n).drop (128*j)) (128*i) ((bL 128 16 x n).length - 128*j - 128*i) (lY (dw eO.h) (bL 128 16 x n) (j+i)) (dw eO.k)∧128*(j+i)≤(bL 128 16 x n).length∧m=(bL 128 16 x n).length - 128*(j+i)) ((bL 128 16 x n).length - 128*j) ⟨0,by rw [hql]; rfl,by omega,by omega⟩ ?_
     rintro m s ⟨i,rfl,hi,hm⟩
     have hevG: ∀ (p:List (List D)) (off len s:Nat),bG tY 100 (items (aY (af Tryz.f217) 6)) (aeC p off len s (dw eO.k)) (iF 0 [2,3,4,6] [0,1,2,3] 4)=
      aS [dG .i64 (len:Nat)] (bif decide ((0:Int)<(len:Nat)) then aS [decide ((128:Int)≤(len:Nat)),decide (off+0+(128 - 0)≤p.length),decide (((p.drop (off+0)).take (128 - 0)).length=128),decide (dw eO.k=dw eO.k),decide (((len:Nat):Int)≤(len:Nat)),decide ((128:Int)≤(len:Nat))]
       (.done .normal (aeC p (off+128) (((len:Nat):Int).toNat - 128) (rQ s ((p.drop (off+0)).take (128 - 0))) (dw eO.k)))
      else .done (.exit 2) (aeC p off len s (dw eO.k))):=by intro p off len s; kernel_rfl
     have hev:=hevG ((bL 128 16 x n).drop (128*j)) (128*i) ((bL 128 16 x n).length - 128*j - 128*i) (lY (dw eO.h) (bL 128 16 x n) (j+i))
     clear hevG
     rw [ai (aU (kQ (by omega) (by omega)))] at hev
     by_cases hc:0<(bL 128 16 x n).length - 128*j - 128*i
     · rw [decide_eq_true (show (0:Int)<(((bL 128 16 x n).length - 128*j - 128*i:Nat):Int) by omega),cond_true,Int.toNat_natCast,ai] at hev
       rotate_left 1
       · refine aF ?_ (aF ?_ (aF ?_ (aF (decide_eq_true rfl) (aF ?_ (aU ?_)))))
         · rw [decide_eq_true_iff]; omega
         · rw [decide_eq_true_iff]; omega
         · rw [decide_eq_true_iff,List.length_take,List.length_drop]; omega
         · rw [decide_eq_true_iff]; omega
         · rw [decide_eq_true_iff]; omega
       refine ae.di qB hev ⟨m - 128,by omega,i+1,?_,by omega,by omega⟩
       rw [show (bL 128 16 x n).length - 128*j - 128*i - 128=(bL 128 16 x n).length - 128*j - 128*(i+1) by omega]
       simp only [Nat.add_zero,Nat.sub_zero,List.drop_drop]
       rw [← Nat.mul_add]
       rfl
     · rw [decide_eq_false (show ¬ (0:Int)<(((bL 128 16 x n).length - 128*j - 128*i:Nat):Int) by omega),cond_false] at hev
       refine ae.di qB hev ?_
       have hq:(bL 128 16 x n).length / 128=j+i:=by omega
       rw [hq]
       generalize lY (dw eO.h) (bL 128 16 x n) (j+i)=S
       generalize (bL 128 16 x n).drop (128*j)=P
       generalize (bL 128 16 x n).length - 128*j - 128*i=K
       generalize 128*i=O
       show ae _ 0 _ _ _
       refine ae.flags (cx:=bJ false false [] [] []) (cx':=bJ true false sI [] []) rfl rfl ?_
       refine ae.fw (dM aD.nil bf.nil dO.nil) (n:=100) (k:=1) (kt:= [2,4,7]) (kh:= [0,2,4]) (m:=5) (e:= .normal) (st':=⟨[.aC, .aC, .one (.ptr 0 0), .aC, .one (.ptr 2 0), .aC, .aC, .one (.ptr 4 0)]++List.replicate 43 .aC,[some ⟨215, .ps (List.replicate 64 (.int .u8 0))⟩,none,some ⟨146,cW S⟩,none,some ⟨215, .ps (List.replicate 64 (.int .u8 0))⟩]⟩) (by kernel_rfl) ?_
       exact bZ (dM aD.nil bf.nil dO.nil) (n:=300) (bs0:= []) (v0:= .ag (.ps ((List.range 64).map fun i=> .int .u8 (ajR S i)))) (by kernel_rfl) (agv S) trivial
 · cases hF
end Go.Proofs.YtcgmcohkkigphaaGreat
