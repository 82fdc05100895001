/-
  Contracts of the program's group: Times.
-/
import Derived.Test.YtcgmcohkkigphaaGreatL7
import Derived.Test.YtcgmcohkkigphaaGreatU2
import Derived.Test.YtcgmcohkkigphaaGreatX4
import Derived.Test.YtcgmcohkkigphaaGreatL5
import Derived.Test.YtcgmcohkkigphaaGreatM3
import Derived.Test.YtcgmcohkkigphaaGreatL6
set_option maxRecDepth 100000
namespace Go.Proofs.YtcgmcohkkigphaaGreat
open Go Vx Go.RowKit

def ptL (q:P4):List L:= [.pk .u64 64 4 q.x, .pk .u64 64 4 q.y, .pk .u64 64 4 q.z, .pk .u64 64 4 q.t]
noncomputable def stE (k:Nat) (tb:C) (i:V) (o:P4):St:=⟨[.aC, .aC, .one (.ptr 0 0), .aC, .one (.ptr 2 0), .aC, .one (.ptr 6 0), .one (.ptr 8 0), .aC, .one (.ptr 25 0),i]++List.replicate 46 .aC,
 [some ⟨28, .ps [.pk .u8 8 32 k]⟩,none,some ⟨138, .ps [.int .u64 0, .int .u64 0, .int .u64 0, .int .u64 0, .int .u64 0, .int .u64 0, .int .u64 0, .int .u64 0, .int .u64 0, .int .u64 0, .int .u64 0, .int .u64 0, .int .u64 0, .int .u64 0, .int .u64 0, .int .u64 0]⟩,none,none,none,some ⟨136, .ps [.pk .u64 64 4 (bH dP dP)]⟩,none,some ⟨188,tb⟩]++List.replicate 16 none++ [some ⟨138, .ps (ptL o)⟩]⟩
theorem ag1 {k:Nat} {i:V} {o:P4} {s s':C} (h:kF s s') (h1:s= .dead→s'= .dead) (h2: ∀ ts,s= .row ts []→ ∃ ts',s'= .row ts' []):tK (stE k s i o) (stE k s' i o):=by
 refine ⟨rfl,fun _=> .inl rfl,fun j=> ?_⟩
 match j with
 | 0 | 1 | 2 | 3 | 4 | 5 | 6 | 7=> exact .inl rfl
 | 8=> exact .inr ⟨_,_,_,rfl,rfl,h,h1,h2⟩
 | j+9=> exact .inl rfl
theorem ajH {k j:Nat}:((((digit 8 k (0+((j:Int).tdiv 2).toNat):Nat):Int) / ((2^min (4*(j:Int).tmod 2).toNat IntKind.u8.bits:Nat):Int)).toNat &&& 15:Nat)=k / 2^(4*j) % 16:=by
 have h1:((j:Int).tdiv 2).toNat=j / 2:=by
  rw [Int.tdiv_eq_ediv_of_nonneg (by omega)]; omega
 have h2:min (4*(j:Int).tmod 2).toNat IntKind.u8.bits=4*(j % 2):=by
  rw [Int.tmod_eq_emod_of_nonneg (by omega)]
  show min (4*((j:Int) % 2)).toNat 8=4*(j % 2)
  omega
 have h3: ∀ n:Nat,n &&& 15=n % 16:=fun n=> Nat.and_two_pow_sub_one_eq_mod n 4
 rw [h1,h2,h3,← Int.natCast_ediv,Int.toNat_natCast,Nat.zero_add]
 unfold digit
 have hlt:j % 2<2:=Nat.mod_lt _ (by decide)
 have e2:(2:Nat)^8=2^(4*(j % 2))*2^(8 - 4*(j % 2)):=by rw [← Nat.pow_add]; congr 1; omega
 rw [e2,Nat.mod_mul_right_div_self,Nat.div_div_eq_div_mul,← Nat.pow_add]
 have e3:(2:Nat)^(8 - 4*(j % 2))=16*2^(4 - 4*(j % 2)):=by
  rw [show (16:Nat)=2^4 from rfl,← Nat.pow_add]; congr 1; omega
 rw [e3,Nat.mod_mul_right_mod]
 congr 3
 omega
theorem ae2 (k:Nat) (p:P4) {j:Nat} (hj:j<64):Ae (abh (tmR k p (64 - (j+1)))) (tbl p (k / 2^(4*j) % 16)) (bH dP dP)=tmR k p (64 - j):=by
 have:64 - j=(64 - (j+1))+1:=by omega
 rw [this,tmR,show 63 - (64 - (j+1))=j by omega]

noncomputable def Ps:List D→Option (List Bool × V)
 | [.n k, .n x, .n y, .n z, .n t]=> some ([],vpP (tmP k ⟨x,y,z,t⟩))
 | _=> none
noncomputable def WH:aj:=spec [iq,tpt] Ps
noncomputable abbrev qN:List (FuncId × aj):= [(156,adF),(154,sED),(140,z8),(104,akl)]
theorem pG:aD Tryz.prog (aK qN):=(.cons VY (.cons OA (.cons o6 (.cons acm .nil))))
theorem Zu:bg Tryz.prog 108 WH:=by
 refine az (cx:=dx qN) (c:=af Tryz.f108) Tryz.func108 (by kernel_rfl) (by kernel_rfl) rfl ?_
 intro ds chk v vs hF ht he hr base
 unfold Ps at hF
 split at hF
 · rename_i k x y z t
   cases hF
   have hvs:vs= [cB k,vpt x y z t]:=by simp only [bq,bn,bF,bD,Option.some.injEq] at he; exact he.symm
   subst hvs
   rw [ae1]
   generalize hp:(⟨x,y,z,t⟩:P4)=p
   have hx:x=p.x:=by rw [← hp]
   have hy:y=p.y:=by rw [← hp]
   have hz:z=p.z:=by rw [← hp]
   have ht':t=p.t:=by rw [← hp]
   subst hx hy hz ht'
   clear hp
   refine bM.items _ _ _ (ae.aj6 (bS pG) (n:=100) (k:=8) (kt:= [2,4,6,7,9,10]) (kh:= [0,2,6,8,25]) (m:=26) (e:= .normal) (st1:=stE k (.ps ((List.range 16).flatMap fun j=> ptL (tbl p j))) (aN 63) Vt) (st':=stE k (.big 16 16 fun j=> ptL (tbl p j)) (aN 63) Vt) (by kernel_rfl)
    (ag1 (alh (fun _=> rfl) (fun _=> rfl)) (fun h=> by cases h) (fun _ h=> by cases h)) ?_)
   refine ae.flags (cx:=iG qN) (cx':=dx qN) (l:=(items (af Tryz.f108)).drop 8) rfl rfl ?_
   refine ae.loop (id:=2) (by kernel_rfl) (fun m s=> s=stE k (.big 16 16 fun j=> ptL (tbl p j)) (aN ((m:Int) - 1)) (tmR k p (64 - m))∧m≤64) 64 ⟨rfl,Nat.le_refl _⟩ ?_
   rintro m s ⟨rfl,hm⟩
   have hev: ∀ (i:Int) (o:P4),bG (iG qN) 100 (items (aY (af Tryz.f108) 8)) (stE k (.big 16 16 fun j=> ptL (tbl p j)) (aN i) o) (iF 0 [2,4,6,7,9,10] [0,2,6,8,25] 26)=
    bif decide ((0:Int)≤i) then aS [dG .i64 1,dG .i64 2,dG .i64 3,dG .i64 4,dG .i64 (i.tdiv 2),decide (0≤i.tdiv 2),decide (i.tdiv 2<32),decide (0+(i.tdiv 2).toNat<32),dG .i64 (4*i.tmod 2),decide (0≤4*i.tmod 2),
        decide (((((((digit 8 k (0+(i.tdiv 2).toNat):Nat):Int) / ((2^min (4*i.tmod 2).toNat IntKind.u8.bits:Nat):Int)).toNat &&& (15:Int).toNat:Nat):Nat):Int)<16),decide (((((((digit 8 k (0+(i.tdiv 2).toNat):Nat):Int) / ((2^min (4*i.tmod 2).toNat IntKind.u8.bits:Nat):Int)).toNat &&& (15:Int).toNat:Nat):Nat):Int).toNat<16),dG .i64 (i - 1)]
     (.done .normal (stE k (.big 16 16 fun j=> ptL (tbl p j)) (aN (i - 1)) (Ae (abh o) (tbl p (((((((digit 8 k (0+(i.tdiv 2).toNat):Nat):Int) / ((2^min (4*i.tmod 2).toNat IntKind.u8.bits:Nat):Int)).toNat &&& (15:Int).toNat:Nat):Nat):Int).toNat)) (bH dP dP))))
    else .done (.exit 2) (stE k (.big 16 16 fun j=> ptL (tbl p j)) (aN i) o):=by intro i o; kernel_rfl
   cases m with
   | zero=>
     have hev:=hev (((0:Nat):Int) - 1) (tmR k p (64 - 0))
     rw [show decide ((0:Int)≤((0:Nat):Int) - 1)=false from rfl,cond_false] at hev
     refine ae.di (dB pG) hev ?_
     exact bZ (dB pG) (n:=100) (bs0:= []) (by kernel_rfl) (aL.refl _) trivial
   | succ j=>
     have hev:=hev (j:Int) (tmR k p (64 - (j+1)))
     have hi:((j+1:Nat):Int) - 1=(j:Int):=by omega
     rw [hi]
     have hn:=ajH (k:=k) (j:=j)
     have h15:(15:Int).toNat=15:=rfl
     have hnl:k / 2^(4*j) % 16<16:=Nat.mod_lt _ (by decide)
     rw [h15,hn,Int.toNat_natCast,ae2 k p (by omega),decide_eq_true (show (0:Int)≤(j:Int) by omega),cond_true,ai] at hev
     rotate_left 1
     · clear hev hn
       have hd:(j:Int).tdiv 2=((j / 2:Nat):Int):=by rw [Int.tdiv_eq_ediv_of_nonneg (by omega)]; omega
       have hm':(j:Int).tmod 2=((j % 2:Nat):Int):=by rw [Int.tmod_eq_emod_of_nonneg (by omega)]; omega
       rw [hd,hm']
       generalize k / 2^(4*j) % 16=q at*
       repeat' (first | exact iL | refine aF ?_ ?_)
       all_goals first | (rw [decide_eq_true_iff]; omega) | exact kQ (by omega) (by omega) | rfl
     exact ae.di (dB pG) hev ⟨j,Nat.lt_succ_self j,rfl,by omega⟩
 · cases hF
end Go.Proofs.YtcgmcohkkigphaaGreat

/-
  Contracts of the document's group: Identity, Base, Times.
-/
namespace Go.Proofs.YtcgmcohkkigphaaGreat
open Go Vx Go.RowKit

structure Q3 where
 x:Nat
 y:Nat
 z:Nat
theorem kF.ag {c c':C} (h:kF c c'):aL (.ag c) (.ag c'):=by
 rintro σ x ⟨xs,e,hc⟩
 exact ⟨xs,e,h σ xs hc⟩
end Go.Proofs.YtcgmcohkkigphaaGreat

/-
  Contracts of sums of terms.
-/
namespace Go.Proofs.YtcgmcohkkigphaaGreat
open Go Vx Go.RowKit

abbrev al6:Ty:= .one (.sl [.pk .u8 8 32, .pk .u8 8 32])
abbrev ahn (x:List (List D)):V:= .one (.rd [.pk .u8 8 32, .pk .u8 8 32] x)
def trK (d:List D):Nat:=(d.headD (.n 0)).toN
def trP (d:List D):Nat:=(d.tail.headD (.n 0)).toN
noncomputable def uV:P4→List (List D)→Int × P4
 | o,[]=> (0,o)
 | o,d::l=> bif !jW (trK d) 7237005577332262213973186563042994240857116359379907606001950938285454250989 then (50,o) else bif !aJ (trP d) then (51,o) else uV (yG o (tmP (trK d) (jD (trP d)))) l
noncomputable def GA (x:List (List D)):Int:=bif decide (64<x.length) then 3 else (uV Vt x).1
noncomputable def XG (x:List (List D)):Nat:=bif decide (GA x=0) then iV (uV Vt x).2 else 0
noncomputable def P7:List (List D)→Int:=aA GA
noncomputable def fH:List (List D)→Nat:=aA XG
theorem XF (x:List (List D)):P7 x=GA x:=by unfold P7; rw [aO]
theorem XH (x:List (List D)):fH x=XG x:=by unfold fH; rw [aO]
theorem wz {x:List (List D)} {e:Int} {o:P4} (hl: ¬ 64<x.length) (h:uV Vt x=(e,o)):P7 x=e∧(e=0→fH x=iV o)∧(e≠0→fH x=0):=by
 have h1:GA x=e:=by unfold GA; rw [decide_eq_false hl,cond_false,h]
 rw [XF,XH]
 unfold XG
 rw [h1,h]
 refine ⟨rfl,fun he=> ?_,fun he=> ?_⟩
 · rw [decide_eq_true he]; rfl
 · rw [decide_eq_false he]; rfl
theorem aeG {x:List (List D)} (hl:64<x.length):P7 x=3∧fH x=0:=by
 have h1:GA x=3:=by unfold GA; rw [decide_eq_true hl,cond_true]
 rw [XF,XH]
 unfold XG
 rw [h1]
 exact ⟨rfl,rfl⟩
abbrev vse (n:Nat) (e:Int):V:= .dX [.ag (.ps [.pk .u8 8 32 n]), .one (.int .i64 e)]
theorem afh (e:Int):aL (.dX [.ag (.ps nO), .one (.int .i64 e)]) (vse 0 e):=aL.tC (gN.of ahi) (gN.refl _)
def amT (_:List (List D)):St:=⟨[.aC, .aC, .one (.ptr 0 0),aN 3,bW]++List.replicate 9 .aC++ [bW,bW,bW]++List.replicate 26 .aC,[some ⟨37, .ps nO⟩]⟩
theorem drop_cons {x:List (List D)} {j:Nat} (h:j<x.length):x.drop j=x.getD j []::x.drop (j+1):=by
 rw [List.drop_eq_getElem_cons h,List.getD_eq_getElem?_getD,List.getElem?_eq_getElem h,Option.getD_some]
theorem ahf {x:List (List D)} (hx: ∀ (i:Nat) (e:List D),x[i]? =some e→jh [.pk .u8 8 32, .pk .u8 8 32] e) {j:Nat} (hj:j<x.length):trK (x.getD j [])<2^256:=by
 rw [List.getD_eq_getElem?_getD,List.getElem?_eq_getElem hj,Option.getD_some]
 have:=hx j _ (List.getElem?_eq_getElem hj)
 simp only [jh,Bu] at this
 exact this.1
noncomputable def TC (x:List (List D)) (i:Int) (o:P4) (e:Int:=0):St:=⟨[.aC, .aC, .one (.ptr 0 0),aN e, .one (.ptr 2 0)]++List.replicate 9 .aC++ [ahn x,aN (x.length:Nat),aN i]++List.replicate 26 .aC,
 [some ⟨37, .ps nO⟩,none,some ⟨138, .ps (ptL o)⟩]⟩

noncomputable def adB:List D→Option (List Bool × V)
 | [.l x]=> some ([decide (x.length<9223372036854775808)],vse (fH x) (P7 x))
 | _=> none
noncomputable def Pp:aj:=spec [al6] adB
noncomputable abbrev Dy:List (FuncId × aj):= [(104,akl),(105,JI),(106,aef),(108,WH),(107,aiw),(102,aeh)]
theorem lU:aD Tryz.prog (aK Dy):=(.cons acm (.cons zK (.cons V8 (.cons Zu (.cons agq (.cons V9 .nil))))))
theorem Dk:bg Tryz.prog 66 Pp:=by
 refine az (cx:=iG Dy) (c:=af Tryz.f66) Tryz.func66 (by kernel_rfl) (by kernel_rfl) rfl ?_
 intro ds chk v vs hF ht he hr base
 unfold adB at hF
 split at hF
 · rename_i x
   cases hF
   have hvs:vs= [ahn x]:=by simp only [bq,bn,bF,bD,Option.some.injEq] at he; exact he.symm
   subst hvs
   have hxl:x.length<9223372036854775808:=of_decide_eq_true (ht _ (by simp))
   obtain ⟨hrng,_⟩:=hr
   have hrng: ∀ (i:Nat) (e:List D),x[i]? =some e→jh [.pk .u8 8 32, .pk .u8 8 32] e:=hrng.2
   have h0:bG (iG Dy) 100 ((items (af Tryz.f66)).take 5) ⟨t0 Tryz.f66 [ahn x],[]⟩ (iF 0 [2,3,4,14,15,16] [0,2] 3)=
    aS [dG .i64 (x.length:Nat)] (bif decide ((64:Int)<(x.length:Nat)) then .done .ret (amT x) else aS [dG .i64 (x.length:Nat)] (.done .normal (TC x 0 Vt))):=by kernel_rfl
   have hln:dG .i64 ((x.length:Nat):Int)=true:=kQ (by omega) (by omega)
   have hlp:allT [dG .i64 (x.length:Nat)]:=by
    repeat' (first | exact iL | refine aF hln ?_)
   rw [ai (aU hln),ai hlp] at h0
   by_cases h64:64<x.length
   · rw [decide_eq_true (show (64:Int)<(x.length:Nat) by omega),cond_true] at h0
     obtain ⟨e1,e2⟩:=aeG h64
     rw [e1,e2]
     exact bM.items _ _ _ (ae.fw (dB lU) (k:=5) h0 ⟨_,[],(by kernel_rfl),afh 3,trivial⟩)
   rw [decide_eq_false (show ¬ (64:Int)<(x.length:Nat) by omega),cond_false] at h0
   refine bM.items _ _ _ (ae.fw (dB lU) (k:=5) h0 ?_)
   refine ae.loop (id:=0) (by kernel_rfl) (fun m s=> ∃ (j:Nat) (o:P4),s=TC x (j:Int) o∧j+m=x.length∧uV Vt x=uV o (x.drop j)) x.length ⟨0,Vt,rfl,Nat.zero_add _,rfl⟩ ?_
   rintro m s ⟨j,o,rfl,hj,hg⟩
   have hev: ∀ i:Int,bG (iG Dy) 100 (items (aY (af Tryz.f66) 5)) (TC x i o) (iF 0 [2,3,4,14,15,16] [0,2] 3)=
    aS [] (bif decide (i<(x.length:Nat)) then aS [decide (0≤i),decide (i<(x.length:Nat))] (bif !jW (trK (x.getD i.toNat [])) 7237005577332262213973186563042994240857116359379907606001950938285454250989 then .done .ret (TC x i o 50)
     else aS [] (bif !aJ (trP (x.getD i.toNat [])) then .done .ret (TC x i o 51) else aS [dG .i64 (i+1)] (.done .normal (TC x (i+1) ((fun i=> yG o (tmP (trK (x.getD i.toNat [])) (jD (trP (x.getD i.toNat []))))) i)))))
    else .done (.exit 0) (TC x i o)):=by intro i; kernel_rfl
   have hev:=hev (j:Int)
   dsimp only at hev
   have hll:allT []:=by
    repeat' (first | exact iL | refine aF hln ?_)
   rw [ai hll] at hev
   cases m with
   | zero=>
     have hj:j=x.length:=hj
     subst hj
     rw [decide_eq_false (show ¬ ((x.length:Nat):Int)<(x.length:Nat) by omega),cond_false] at hev
     rw [List.drop_length,uV] at hg
     obtain ⟨e1,e2,_⟩:=wz h64 hg
     rw [e1,e2 rfl]
     refine ae.di (dB lU) hev ?_
     exact bZ (dB lU) (n:=100) (bs0:= []) (by kernel_rfl) (aL.refl _) trivial
   | succ m=>
     have hjl:j<x.length:=by omega
     have hd1:decide ((0:Int)≤(j:Int))=true:=by rw [decide_eq_true_iff]; omega
     have hd2:decide (((j:Nat):Int)<(x.length:Nat))=true:=by rw [decide_eq_true_iff]; omega
     have hd3:dG .i64 ((j:Int)+1)=true:=kQ (by omega) (by omega)
     rw [hd1,hd2,hd3,Int.toNat_natCast] at hev
     simp only [aS,cond_true] at hev
     rw [drop_cons hjl,uV] at hg
     have hkr:=ahf hrng hjl
     generalize x.getD j []=d at*
     cases hb1:jW (trK d) 7237005577332262213973186563042994240857116359379907606001950938285454250989 with
     | false=>
       rw [hb1,Bool.not_false,cond_true] at hev hg
       obtain ⟨e1,_,e3⟩:=wz h64 hg
       rw [e1,e3 (by decide)]
       exact ae.di (dB lU) hev ⟨_,[],(by kernel_rfl),afh 50,trivial⟩
     | true=>
       rw [hb1,Bool.not_true,cond_false] at hev hg
       cases hb2:aJ (trP d) with
       | false=>
         rw [hb2,Bool.not_false,cond_true] at hev hg
         obtain ⟨e1,_,e3⟩:=wz h64 hg
         rw [e1,e3 (by decide)]
         exact ae.di (dB lU) hev ⟨_,[],(by kernel_rfl),afh 51,trivial⟩
       | true=>
         rw [hb2,Bool.not_true,cond_false] at hev hg
         exact ae.di (dB lU) hev ⟨m,Nat.lt_succ_self m,j+1,yG o (tmP (trK d) (jD (trP d))),rfl,by omega,hg⟩
 · cases hF
end Go.Proofs.YtcgmcohkkigphaaGreat

/-
  Contracts of the document's algebra: small ones.
-/
namespace Go.Proofs.YtcgmcohkkigphaaGreat
open Go Vx Go.RowKit

theorem YH {n:Nat} (h:n<pP):aH n=n:=by rw [ed,Nat.mod_eq_of_lt h]
theorem agf (a b:Nat):aH (ah a b)=ah a b:=YH (dY a b)
theorem MZ:atB (ah 4 (fI 5)) false=true:=by rw [ahw,nZ,Sd]; decide+kernel
theorem aaZ: ∃ P,fq (qh ()) P∧Ev P∧ak4 (aaU (ah 4 (fI 5)) false) (aaV (ah 4 (fI 5)) false) (aaW (ah 4 (fI 5)) false) P:=by
 obtain ⟨P,hP,_,_⟩:=ai3 MZ
 have hb:qh ()=atP (ah 4 (fI 5)) false:=by rw [DY]; rfl
 have hq:=afF MZ hP
 rw [agf] at hq
 obtain ⟨Q,q1,q2,_⟩:=Va Zi
 have hco:Co Q P:=(ajo q1 (by rw [hb]; exact hP)).1 Zj
 exact ⟨P,by rw [hb]; exact hP,abz hco q2,hq⟩

noncomputable def Gt:List D→Option (List Bool × V)
 | [.n p]=> some ([],bI (aJ p))
 | _=> none
noncomputable def JK:aj:=spec [iq] Gt
noncomputable abbrev Ct:List (FuncId × aj):= [(113,aiD)]
theorem Io:aD Tryz.prog (aK Ct):=(.cons ags .nil)
theorem OL:bg Tryz.prog 74 JK:=by
 refine az (cx:=dx Ct) (c:=af Tryz.f74) Tryz.func74 (by kernel_rfl) (by kernel_rfl) rfl ?_
 intro ds chk v vs hF ht he hr base
 unfold Gt at hF
 split at hF
 · rename_i p
   cases hF
   have hvs:vs= [cB p]:=by simp only [bq,bn,bF,bD,Option.some.injEq] at he; exact he.symm
   subst hvs
   exact aB (bS Io) (n:=400) (bs0:= []) (by kernel_rfl) (aL.refl _) trivial
 · cases hF
end Go.Proofs.YtcgmcohkkigphaaGreat

/-
  The laws AlgebraMay, AlgebraMaps answer true.
-/
namespace Go.Proofs.YtcgmcohkkigphaaGreat
open Go Vx Go.RowKit

theorem afH:iV (qh ())≠0:=by rw [Bt]; decide
end Go.Proofs.YtcgmcohkkigphaaGreat

/-
  Contracts of scalars: sums, differences, products, inverses, or refused.
-/
namespace Go.Proofs.YtcgmcohkkigphaaGreat
open Go Vx Go.RowKit

noncomputable abbrev bU (a:Nat):Bool:=jW a 7237005577332262213973186563042994240857116359379907606001950938285454250989
noncomputable def boV (ok:Bool) (n:Nat):V:=vse (bif ok then n else 0) (bif ok then 0 else 50)
def boE:V:= .dX [.ag (.ps nO), .one (.int .i64 50)]
def akI (a b:Bool) (n:Nat):Out:=bif !a then aV boE else bif !b then aV boE else aV (vse n 0)
theorem BH (a b:Bool) (n:Nat): ∃ v0,akI a b n=aV v0∧aL v0 (boV (a && b) n):=by
 cases a
 · exact ⟨_,rfl,afh 50⟩
 · cases b
   · exact ⟨_,rfl,afh 50⟩
   · exact ⟨_,rfl,aL.refl _⟩

noncomputable def WB:List D→Option (List Bool × V)
 | [.n a, .n b]=> some ([],boV (bU a && bU b) (aW (aW a+aW b)))
 | _=> none
noncomputable def adA:aj:=spec [iq,iq] WB
noncomputable abbrev P9:List (FuncId × aj):= [(105,JI),(184,Tt)]
theorem TH:aD Tryz.prog (aK P9):=(.cons zK (.cons OI .nil))
noncomputable abbrev Vv:List (FuncId × Func):= [(119,Tryz.f119)]
theorem Zb:bf Tryz.prog (gY Vv):=(bf.cons Tryz.func119 (by kernel_rfl) bf.nil)
theorem acj:bg Tryz.prog 127 adA:=by
 refine az (cx:=agd P9 Vv) (c:=af Tryz.f127) Tryz.func127 (by kernel_rfl) (by kernel_rfl) rfl ?_
 intro ds chk v vs hF ht he hr base
 unfold WB at hF
 split at hF
 · rename_i a b
   cases hF
   have hvs:vs= [cB a,cB b]:=by simp only [bq,bn,bF,bD,Option.some.injEq] at he; exact he.symm
   subst hvs
   obtain ⟨v0,h1,h2⟩:=BH (bU a) (bU b) (aW (aW a+aW b))
   exact aB (ab1 TH Zb) (n:=400) (bs0:= []) (h:=Eq.trans (by kernel_rfl) h1) h2 trivial
 · cases hF

noncomputable def Pn:List D→Option (List Bool × V)
 | [.n a, .n b]=> some ([],boV (bU a && bU b) (aW (aW a+aW (lI 7237005577332262213973186563042994240857116359379907606001950938285454250989 (aW b)))))
 | _=> none
noncomputable def WA:aj:=spec [iq,iq] Pn
noncomputable abbrev JN:List (FuncId × aj):= [(105,JI),(189,Xo)]
theorem Qu:aD Tryz.prog (aK JN):=(.cons zK (.cons Zz .nil))
noncomputable abbrev NS:List (FuncId × Func):= [(119,Tryz.f119)]
theorem R9:bf Tryz.prog (gY NS):=(bf.cons Tryz.func119 (by kernel_rfl) bf.nil)
theorem Zt:bg Tryz.prog 135 WA:=by
 refine az (cx:=agd JN NS) (c:=af Tryz.f135) Tryz.func135 (by kernel_rfl) (by kernel_rfl) rfl ?_
 intro ds chk v vs hF ht he hr base
 unfold Pn at hF
 split at hF
 · rename_i a b
   cases hF
   have hvs:vs= [cB a,cB b]:=by simp only [bq,bn,bF,bD,Option.some.injEq] at he; exact he.symm
   subst hvs
   obtain ⟨v0,h1,h2⟩:=BH (bU a) (bU b) (aW (aW a+aW (lI 7237005577332262213973186563042994240857116359379907606001950938285454250989 (aW b))))
   exact aB (ab1 Qu R9) (n:=400) (bs0:= []) (h:=Eq.trans (by kernel_rfl) h1) h2 trivial
 · cases hF

noncomputable def Pq:List D→Option (List Bool × V)
 | [.n a, .n b]=> some ([],boV (bU a && bU b) (aW (aW a*aW b)))
 | _=> none
noncomputable def pq:aj:=spec [iq,iq] Pq
noncomputable abbrev JO:List (FuncId × aj):= [(105,JI),(120,Xv)]
theorem Qv:aD Tryz.prog (aK JO):=(.cons zK (.cons ZA .nil))
noncomputable abbrev NT:List (FuncId × Func):= [(119,Tryz.f119)]
theorem Sa:bf Tryz.prog (gY NT):=(bf.cons Tryz.func119 (by kernel_rfl) bf.nil)
theorem lK:bg Tryz.prog 80 pq:=by
 refine az (cx:=agd JO NT) (c:=af Tryz.f80) Tryz.func80 (by kernel_rfl) (by kernel_rfl) rfl ?_
 intro ds chk v vs hF ht he hr base
 unfold Pq at hF
 split at hF
 · rename_i a b
   cases hF
   have hvs:vs= [cB a,cB b]:=by simp only [bq,bn,bF,bD,Option.some.injEq] at he; exact he.symm
   subst hvs
   obtain ⟨v0,h1,h2⟩:=BH (bU a) (bU b) (aW (aW a*aW b))
   exact aB (ab1 Qv Sa) (n:=400) (bs0:= []) (h:=Eq.trans (by kernel_rfl) h1) h2 trivial
 · cases hF
end Go.Proofs.YtcgmcohkkigphaaGreat
