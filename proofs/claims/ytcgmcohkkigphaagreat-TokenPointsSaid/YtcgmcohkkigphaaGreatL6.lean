/-
  Contracts of the program's scalars: small ones.
-/
import Derived.Test.YtcgmcohkkigphaaGreatL2
import Derived.Test.YtcgmcohkkigphaaGreatX4
set_option maxRecDepth 100000
namespace Go.Proofs.YtcgmcohkkigphaaGreat
open Go Vx Go.RowKit

noncomputable def adX:List D→Option (List Bool × V)
 | [.n a, .n b]=> some ([], .dX [.ag (.ps [.pk .u64 64 4 (lI a b)]), .one (.int .u64 (bif jW a b then 1 else 0))])
 | _=> none
noncomputable def Xc:aj:=spec [yx,yx] adX
noncomputable abbrev XR:List (FuncId × aj):= [(199,Tv)]
theorem aak:aD Tryz.prog (aK XR):=(.cons OM .nil)
theorem LF:bg Tryz.prog 151 Xc:=by
 refine az (cx:=dx XR) (c:=af Tryz.f151) Tryz.func151 (by kernel_rfl) (by kernel_rfl) rfl ?_
 intro ds chk v vs hF ht he hr base
 unfold adX at hF
 split at hF
 · rename_i a b
   cases hF
   have hvs:vs= [kC a,kC b]:=by simp only [bq,bn,bF,bD,Option.some.injEq] at he; exact he.symm
   subst hvs
   obtain ⟨h1,h2,_⟩:=hr
   obtain ⟨ea,a0,a1,a2,a3⟩:=gM (jF h1)
   obtain ⟨eb,b0,b1,b2,b3⟩:=gM (jF h2)
   obtain ⟨c1,hc1⟩: ∃ c:Int,c=if (digit 64 a 0:Int)<(digit 64 b 0:Int)+0 then 1 else 0:=⟨_,rfl⟩
   obtain ⟨c2,hc2⟩: ∃ c:Int,c=if (digit 64 a 1:Int)<(digit 64 b 1:Int)+c1 then 1 else 0:=⟨_,rfl⟩
   obtain ⟨c3,hc3⟩: ∃ c:Int,c=if (digit 64 a 2:Int)<(digit 64 b 2:Int)+c2 then 1 else 0:=⟨_,rfl⟩
   obtain ⟨c4,hc4⟩: ∃ c:Int,c=if (digit 64 a 3:Int)<(digit 64 b 3:Int)+c3 then 1 else 0:=⟨_,rfl⟩
   have hc:allT [decide (c1≤1),decide (c2≤1),decide (c3≤1)]:=by
    intro b hb
    simp only [List.mem_cons,List.not_mem_nil,or_false] at hb
    rcases hb with rfl | rfl | rfl<;> rw [decide_eq_true_iff]
    · rw [hc1]; split<;> omega
    · rw [hc2]; split<;> omega
    · rw [hc3]; split<;> omega
   obtain ⟨m1,m2⟩:=UN ea eb ⟨a0,a1,a2,a3⟩ ⟨b0,b1,b2,b3⟩ hc1 hc2 hc3 hc4
   have hent:=aL.tC (gN.of (nV m1)) (gN.refl (.one (.int .u64 c4)))
   rw [m2,← lJ,← kv] at hent
   refine ek (bS aak) (n:=200) (bs0:= []) (v0:= .dX [.ag (.ps [.int .u64 (((digit 64 a 0:Int) - digit 64 b 0 - 0) % 18446744073709551616), .int .u64 (((digit 64 a 1:Int) - digit 64 b 1 - c1) % 18446744073709551616),
    .int .u64 (((digit 64 a 2:Int) - digit 64 b 2 - c2) % 18446744073709551616), .int .u64 (((digit 64 a 3:Int) - digit 64 b 3 - c3) % 18446744073709551616)]), .one (.int .u64 c4)])
    (.trans (?_:_=aS [decide (c1≤1),decide (c2≤1),decide (c3≤1)] _) (ai hc)) (by rw [m2,← kv]; exact hent) trivial
   subst hc4 hc3 hc2 hc1
   kernel_rfl
 · cases hF

noncomputable def Xk:List D→Option (List Bool × V)
 | []=> some ([],kC 7237005577332262213973186563042994240857116359379907606001950938285454250989)
 | _=> none
noncomputable def Mc:aj:=spec [] Xk
noncomputable abbrev Qn:List (FuncId × aj):= []
theorem Ua:aD Tryz.prog (aK Qn):=aD.nil
theorem FL:bg Tryz.prog 152 Mc:=by
 refine az (cx:=dx Qn) (c:=af Tryz.f152) Tryz.func152 (by kernel_rfl) (by kernel_rfl) rfl ?_
 intro ds chk v vs hF ht he hr base
 unfold Xk at hF
 split at hF
 · cases hF
   have hvs:vs= []:=by simp only [bq,Option.some.injEq] at he; exact he.symm
   subst hvs
   refine ek (bS Ua) (n:=200) (bs0:= []) (v0:= .ag (.ps [.int .u64 6346243789798364141, .int .u64 1503914060200516822, .int .u64 0, .int .u64 1152921504606846976])) (by kernel_rfl) (nV ?_) trivial
   decide+kernel
 · cases hF

theorem ajN {b:Nat} (hb:b<115792089237316195423570985008687907853269984665640564039457584007913129639936):aL (.ag (.ps [.int .u64 (CF b 0 8), .int .u64 (CF b 1 8), .int .u64 (CF b 2 8), .int .u64 (CF b 3 8)])) (kC b):=by
 refine nV ?_
 rw [jy,jy,jy,jy]
 obtain ⟨eb,h0,h1,h2,h3⟩:=gM hb
 simp only [Int.toNat_natCast,Nat.reducePow]
 omega

noncomputable def aiE:List D→Option (List Bool × V)
 | [.n a]=> some ([],kC a)
 | _=> none
noncomputable def akm:aj:=spec [iq] aiE
noncomputable abbrev aeQ:List (FuncId × aj):= []
theorem aeY:aD Tryz.prog (aK aeQ):=aD.nil
theorem acw:bg Tryz.prog 150 akm:=by
 refine az (cx:=dx aeQ) (c:=af Tryz.f150) Tryz.func150 (by kernel_rfl) (by kernel_rfl) rfl ?_
 intro ds chk v vs hF ht he hr base
 unfold aiE at hF
 split at hF
 · rename_i a
   cases hF
   have hvs:vs= [cB a]:=by simp only [bq,bn,bF,bD,Option.some.injEq] at he; exact he.symm
   subst hvs
   obtain ⟨h1,_⟩:=hr
   exact aB (bS aeY) (n:=400) (bs0:= []) (v0:= .ag (.ps [.int .u64 (CF a 0 8), .int .u64 (CF a 1 8), .int .u64 (CF a 2 8), .int .u64 (CF a 3 8)])) (by kernel_rfl) (ajN (Dp h1)) trivial
 · cases hF

noncomputable def JJ:List D→Option (List Bool × V)
 | [.n a]=> some ([],cB a)
 | _=> none
noncomputable def qL:aj:=spec [yx] JJ
noncomputable abbrev GK:List (FuncId × aj):= []
theorem MC:aD Tryz.prog (aK GK):=aD.nil
theorem ow:bg Tryz.prog 117 qL:=by
 refine az (cx:=dx GK) (c:=af Tryz.f117) Tryz.func117 (by kernel_rfl) (by kernel_rfl) rfl ?_
 intro ds chk v vs hF ht he hr base
 unfold JJ at hF
 split at hF
 · rename_i a
   cases hF
   have hvs:vs= [kC a]:=by simp only [bq,bn,bF,bD,Option.some.injEq] at he; exact he.symm
   subst hvs
   obtain ⟨h1,_⟩:=hr
   exact aB (bS MC) (n:=400) (bs0:= []) (v0:= .ag (.ps ((List.range' 0 32).map fun i=> .int .u8 (ak .u8 (((digit 64 a (i / 8):Nat):Int) / ((2^(8*(i % 8)):Nat):Int)))))) (by kernel_rfl) (Vb (f:=fun i=> ak .u8 (((digit 64 a (i / 8):Nat):Int) / ((2^(8*(i % 8)):Nat):Int))) (jF h1) fun i _=> UQ _ i) trivial
 · cases hF

theorem ab0 (b:Bool):decide ((bif b then (1:Int) else 0)=1)=b:=by cases b<;> rfl

noncomputable def aek:List D→Option (List Bool × V)
 | [.n a]=> some ([],bI (jW a 7237005577332262213973186563042994240857116359379907606001950938285454250989))
 | _=> none
noncomputable def JI:aj:=spec [iq] aek
noncomputable abbrev X5:List (FuncId × aj):= [(151,Xc),(152,Mc),(150,akm)]
theorem aau:aD Tryz.prog (aK X5):=(.cons LF (.cons FL (.cons acw .nil)))
theorem zK:bg Tryz.prog 105 JI:=by
 refine az (cx:=dx X5) (c:=af Tryz.f105) Tryz.func105 (by kernel_rfl) (by kernel_rfl) rfl ?_
 intro ds chk v vs hF ht he hr base
 unfold aek at hF
 split at hF
 · rename_i a
   cases hF
   have hvs:vs= [cB a]:=by simp only [bq,bn,bF,bD,Option.some.injEq] at he; exact he.symm
   subst hvs
   rw [← ab0 (jW a 7237005577332262213973186563042994240857116359379907606001950938285454250989)]
   exact aB (bS aau) (n:=400) (bs0:= []) (by kernel_rfl) (aL.refl _) trivial
 · cases hF

noncomputable def Xq:List D→Option (List Bool × V)
 | [.i n]=> some ([],cB n.toNat)
 | _=> none
noncomputable def ael:aj:=spec [Au] Xq
noncomputable abbrev Qr:List (FuncId × aj):= [(117,qL)]
theorem Ue:aD Tryz.prog (aK Qr):=(.cons ow .nil)
theorem acx:bg Tryz.prog 75 ael:=by
 refine az (cx:=dx Qr) (c:=af Tryz.f75) Tryz.func75 (by kernel_rfl) (by kernel_rfl) rfl ?_
 intro ds chk v vs hF ht he hr base
 unfold Xq at hF
 split at hF
 · rename_i n
   cases hF
   have hvs:vs= [j6 n]:=by simp only [bq,bn,bF,bD,Option.some.injEq] at he; exact he.symm
   subst hvs
   exact aB (bS Ue) (n:=400) (bs0:= []) (by kernel_rfl) (aL.refl _) trivial
 · cases hF
end Go.Proofs.YtcgmcohkkigphaaGreat

/-
  Contracts of the program's scalars: rest.
-/
namespace Go.Proofs.YtcgmcohkkigphaaGreat
open Go Vx Go.RowKit

abbrev am0:Ty:= .one (.sl [.int .u64])
abbrev akL (x:List (List D)):V:= .one (.rd [.int .u64] x)
def uC (d:List D):Nat:=((d.headD (.n 0)).xy).toNat
def limbs (x:List (List D)):Nat:=cO 64 (x.map uC)
noncomputable def aW:Nat→Nat:=aA fun n=> n % 7237005577332262213973186563042994240857116359379907606001950938285454250989
theorem F3 (n:Nat):aW n=n % 7237005577332262213973186563042994240857116359379907606001950938285454250989:=by unfold aW; rw [aO]
def aa1 (x:List (List D)) (i:Int):Int:=(((((x.getD (i.tdiv 64).toNat []).headD (.n 0)).xy / ((2^min (i.tmod 64).toNat IntKind.u64.bits:Nat):Int)).toNat &&& 1:Nat):Int)
def sh0 (w:Nat) (b:Int):Int:=(((ak .u64 (((digit 64 w 0:Nat):Int)*((2^min 1 64:Nat):Int))).toNat ||| b.toNat:Nat):Int)
def shI (w i:Nat):Int:=(((ak .u64 (((digit 64 w (i+1):Nat):Int)*((2^min 1 64:Nat):Int))).toNat ||| (((digit 64 w i:Nat):Int) / ((2^min 63 64:Nat):Int)).toNat:Nat):Int)
def We (w:Nat) (b:Int):Nat:=(sh0 w b).toNat+2^64*((shI w 0).toNat+2^64*((shI w 1).toNat+2^64*((shI w 2).toNat+2^64*0)))
theorem or_bit {a b:Nat} (hb:b<2):2*a ||| b=2*a+b:=by
 have:=Nat.two_pow_add_eq_or_of_lt (i:=1) (b:=b) (by simpa using hb) a
 rw [Nat.pow_one] at this
 exact this.symm
theorem U0 (d:Nat):(ak .u64 ((d:Int)*((2^min 1 64:Nat):Int))).toNat=2*(d % 9223372036854775808):=by
 simp only [ak]
 have:((2^min 1 64:Nat):Int)=2:=by decide
 rw [this]
 omega
theorem akq (w:Nat) {b:Nat} (hb:b<2):sh0 w b=((2*(digit 64 w 0 % 9223372036854775808)+b:Nat):Int):=by
 unfold sh0
 rw [U0,Int.toNat_natCast,or_bit hb]
theorem Tx (w i:Nat):shI w i=((2*(digit 64 w (i+1) % 9223372036854775808)+digit 64 w i / 9223372036854775808:Nat):Int):=by
 unfold shI
 have h1:(((digit 64 w i:Nat):Int) / ((2^min 63 64:Nat):Int)).toNat=digit 64 w i / 9223372036854775808:=by
  have:((2^min 63 64:Nat):Int)=((9223372036854775808:Nat):Int):=by decide
  rw [this,← Int.natCast_ediv,Int.toNat_natCast]
 have h2:digit 64 w i<18446744073709551616:=Nat.mod_lt _ (by decide)
 rw [U0,h1,or_bit (by omega)]
theorem OT {w b:Nat} (hw:w<7237005577332262213973186563042994240857116359379907606001950938285454250989) (hb:b<2):We w b=2*w+b:=by
 obtain ⟨ew,h0,h1,h2,h3⟩:=gM (show w<115792089237316195423570985008687907853269984665640564039457584007913129639936 from Nat.lt_trans hw (by decide))
 unfold We
 rw [akq w hb,Tx,Tx,Tx]
 simp only [Int.toNat_natCast,Nat.reducePow,Nat.zero_add,Nat.reduceAdd]
 have:digit 64 w 3<9223372036854775808:=by
  rcases Nat.lt_or_ge (digit 64 w 3) 9223372036854775808 with h | h
  · exact h
  · omega
 omega
theorem kF.of {c c':C} (h:aL (.ag c) (.ag c')):kF c c':=by
 intro σ xs hx
 obtain ⟨ys,e,hy⟩:=h σ (.agg xs.toArray) ⟨xs,rfl,hx⟩
 have:xs=ys:=by simpa using e
 rw [this]; exact hy
theorem akr {w b:Nat} (hw:w<7237005577332262213973186563042994240857116359379907606001950938285454250989) (hb:b<2):kF (.ps [.int .u64 (sh0 w b), .int .u64 (shI w 0), .int .u64 (shI w 1), .int .u64 (shI w 2)]) (.ps [.pk .u64 64 4 (2*w+b)]):=by
 refine kF.of (nV ?_)
 exact OT hw hb
theorem Jh: ∀ (l:List Nat) (q r:Nat),r<64→(∀ d∈l,d<18446744073709551616)→cO 64 l / 2^(64*q+r) % 2=l.getD q 0 / 2^r % 2
 | [],q,r,_,_=> by simp [cO]
 | d::l,0,r,hr,_=> by
   simp only [cO,List.getD_cons_zero,Nat.mul_zero,Nat.zero_add]
   have e:(2:Nat)^64=2^r*(2*2^(63 - r)):=by
    rw [← Nat.pow_succ',← Nat.pow_add]; congr 1; omega
   rw [e,Nat.mul_assoc,Nat.add_mul_div_left _ _ (Nat.pow_pos (by decide)),Nat.mul_assoc,Nat.add_mul_mod_self_left]
 | d::l,q+1,r,hr,h=> by
   have hd:=h d (by simp)
   have e:(2:Nat)^(64*(q+1)+r)=2^64*2^(64*q+r):=by rw [← Nat.pow_add]; congr 1; omega
   have e2:cO 64 (d::l) / 2^64=cO 64 l:=by
    simp only [cO]
    rw [Nat.add_mul_div_left _ _ (Nat.pow_pos (by decide)),Nat.div_eq_of_lt (by simpa using hd),Nat.zero_add]
   rw [e,← Nat.div_div_eq_div_mul,e2,List.getD_cons_succ]
   exact Jh l q r hr (fun d hd=> h d (by simp [hd]))
theorem abS {x:List (List D)} (hx: ∀ (i:Nat) (e:List D),x[i]? =some e→jh [.int .u64] e):limbs x<2^(64*x.length):=by
 unfold limbs
 induction x with
 | nil=> simp [cO]
 | cons d x ih=>
   have ih:=ih (fun i e h=> hx (i+1) e (by simpa using h))
   have h0:=hx 0 d rfl
   simp only [jh,Bu] at h0
   have h2:=(bK rfl).1 h0.1
   have hd:uC d<18446744073709551616:=by
    unfold uC
    have:((2^IntKind.u64.bits:Nat):Int)=18446744073709551616:=by decide
    omega
   simp only [List.map_cons,cO,List.length_cons]
   rw [Nat.mul_succ,Nat.pow_add,Nat.mul_comm (2^(64*x.length))]
   have e:(2:Nat)^64=18446744073709551616:=by decide
   rw [e]
   generalize (2:Nat)^(64*x.length)=m at*
   have:18446744073709551616*(cO 64 (x.map uC)+1)≤18446744073709551616*m:=Nat.mul_le_mul_left _ ih
   omega
theorem afJ {x:List (List D)} (hx: ∀ (i:Nat) (e:List D),x[i]? =some e→jh [.int .u64] e) {j:Nat} (hj:j<64*x.length):aa1 x (j:Int)=((limbs x / 2^j % 2:Nat):Int):=by
 have hq:((j:Int).tdiv 64).toNat=j / 64:=by rw [Int.tdiv_eq_ediv_of_nonneg (by omega)]; omega
 have hr:((j:Int).tmod 64).toNat=j % 64:=by rw [Int.tmod_eq_emod_of_nonneg (by omega)]; omega
 have hlt:j % 64<64:=Nat.mod_lt _ (by decide)
 have hmin:min (j % 64) IntKind.u64.bits=j % 64:=Nat.min_eq_left (Nat.le_of_lt hlt)
 have hql:j / 64<x.length:=by omega
 have hall: ∀ d∈x.map uC,d<18446744073709551616:=by
  intro d hd
  obtain ⟨e,he,rfl⟩:=List.mem_map.1 hd
  obtain ⟨i,hi⟩:=List.mem_iff_getElem?.1 he
  have:=hx i e hi
  simp only [jh,Bu] at this
  have h2:=(bK rfl).1 this.1
  unfold uC
  have:((2^IntKind.u64.bits:Nat):Int)=18446744073709551616:=by decide
  omega
 have hb:=Jh (x.map uC) (j / 64) (j % 64) hlt hall
 rw [Nat.div_add_mod] at hb
 unfold aa1 limbs
 rw [hq,hr,hmin,hb]
 have hge:0≤((x.getD (j / 64) []).headD (.n 0)).xy:=by
  rw [List.getD_eq_getElem?_getD,List.getElem?_eq_getElem hql,Option.getD_some]
  have:=hx (j / 64) _ (List.getElem?_eq_getElem hql)
  simp only [jh,Bu] at this
  exact ((bK rfl).1 this.1).1
 have hl:(x.map uC).getD (j / 64) 0=((x.getD (j / 64) []).headD (.n 0)).xy.toNat:=by
  rw [List.getD_eq_getElem?_getD,List.getElem?_map,List.getElem?_eq_getElem hql,List.getD_eq_getElem?_getD,List.getElem?_eq_getElem hql]
  rfl
 rw [hl]
 generalize ((x.getD (j / 64) []).headD (.n 0)).xy=z at*
 obtain ⟨n,rfl⟩:=Int.eq_ofNat_of_zero_le hge
 rw [← Int.natCast_ediv,Int.toNat_natCast,Int.toNat_natCast,Nat.and_one_is_mod]

def zq4:List L:= [.int .u64 0, .int .u64 0, .int .u64 0, .int .u64 0]
def stQ (x:List (List D)) (i:Int) (c:List L):St:=⟨[akL x, .aC, .one (.ptr 0 0), .one (.ptr 1 0),aN i]++List.replicate 47 .aC,[some ⟨155, .ps zq4⟩,some ⟨155, .ps c⟩]⟩
theorem XB {x:List (List D)} {i:Int} {c c':List L} (h:kF (.ps c) (.ps c')):Uy (stQ x i c) (stQ x i c'):=by
 refine ⟨rfl,fun _=> .inl rfl,fun j=> ?_⟩
 match j with
 | 0=> exact .inl rfl
 | 1=> exact .inr ⟨_,_,_,rfl,rfl,h⟩
 | j+2=> exact .inl rfl
theorem rest_step {n j w b:Nat} (hw:w=n / 2^(j+1) % 7237005577332262213973186563042994240857116359379907606001950938285454250989) (hb:b=n / 2^j % 2):(2*w+b) % 7237005577332262213973186563042994240857116359379907606001950938285454250989=n / 2^j % 7237005577332262213973186563042994240857116359379907606001950938285454250989:=by
 have e:n / 2^j=2*(n / 2^(j+1))+b:=by
  rw [Nat.pow_succ,← Nat.div_div_eq_div_mul,hb]
  omega
 rw [e,hw]
 generalize n / 2^(j+1)=m
 clear e hw hb
 omega
theorem Zl (c:Bool):decide ((bif c then (1:Int) else 0)=0)= !c:=by cases c<;> rfl

noncomputable def aep:List D→Option (List Bool × V)
 | [.l x]=> some ([decide (x.length<1099511627776)],kC (aW (limbs x)))
 | _=> none
noncomputable def PT:aj:=spec [am0] aep
noncomputable abbrev DC:List (FuncId × aj):= [(151,Xc),(152,Mc)]
theorem qP:aD Tryz.prog (aK DC):=(.cons LF (.cons FL .nil))
theorem Dm:bg Tryz.prog 179 PT:=by
 refine az (cx:=iG DC) (c:=af Tryz.f179) Tryz.func179 (by kernel_rfl) (by kernel_rfl) rfl ?_
 intro ds chk v vs hF ht he hr base
 unfold aep at hF
 split at hF
 · rename_i x
   cases hF
   have hvs:vs= [akL x]:=by simp only [bq,bn,bF,bD,Option.some.injEq] at he; exact he.symm
   subst hvs
   have hx:x.length<1099511627776:=of_decide_eq_true (ht _ (by simp))
   obtain ⟨hrng,_⟩:=hr
   have hrng: ∀ (i:Nat) (e:List D),x[i]? =some e→jh [.int .u64] e:=hrng.2
   have h0:bG (iG DC) 100 ((items (af Tryz.f179)).take 3) ⟨t0 Tryz.f179 [akL x],[]⟩ (iF 0 [0,2,3,4] [0,1] 2)=
    aS [dG .i64 (x.length:Nat),dG .i64 (64*(x.length:Nat)),dG .i64 (64*(x.length:Nat) - 1)] (.done .normal (stQ x (64*(x.length:Nat) - 1) zq4)):=by kernel_rfl
   rw [ai (aF (kQ (by omega) (by omega)) (aF (kQ (by omega) (by omega)) (aU (kQ (by omega) (by omega)))))] at h0
   refine bM.items _ _ _ (ae.amH (dB qP) (k:=3) (st':=stQ x (((64*x.length:Nat):Int) - 1) [.pk .u64 64 4 0]) h0 ?_ ?_)
   · have e:((64*x.length:Nat):Int) - 1=64*(x.length:Nat) - 1:=by omega
     rw [e]
     exact XB (kF.of (nV rfl))
   refine ae.loop (id:=0) (by kernel_rfl) (fun m s=> ∃ w,s=stQ x ((m:Int) - 1) [.pk .u64 64 4 w]∧m≤64*x.length∧w=limbs x / 2^m % 7237005577332262213973186563042994240857116359379907606001950938285454250989) (64*x.length) ⟨0,rfl,Nat.le_refl _,?_⟩ ?_
   · rw [Nat.div_eq_of_lt (abS hrng)]
   rintro m s ⟨w,rfl,hm,hw⟩
   cases m with
   | zero=>
     refine ae.di (dB qP) (n:=100) (kt:= [0,2,3,4]) (kh:= [0,1]) (m:=2) (e:= .exit 0) (st':=stQ x (-1) [.pk .u64 64 4 w]) (by kernel_rfl) ?_
     have:aW (limbs x)=w:=by rw [F3,hw,Nat.pow_zero,Nat.div_one]
     rw [this]
     exact bZ (dB qP) (n:=100) (bs0:= []) (by kernel_rfl) (aL.refl _) trivial
   | succ j=>
     have hj:j<64*x.length:=hm
     have hi:((j+1:Nat):Int) - 1=(j:Int):=by omega
     rw [hi]
     have hwl:w<7237005577332262213973186563042994240857116359379907606001950938285454250989:=by rw [hw]; exact Nat.mod_lt _ (by decide)
     have hev: ∀ i:Int,bG (iG DC) 100 (items (aY (af Tryz.f179) 3)) (stQ x i [.pk .u64 64 4 w]) (iF 0 [0,2,3,4] [0,1] 2)=
      bif decide ((0:Int)≤i) then
      aS [dG .i64 (i.tdiv 64),decide ((0:Int)≤i.tdiv 64),decide (i.tdiv 64<(x.length:Nat)),decide ((0:Int)≤i.tmod 64),dG .i64 1,dG .i64 2,dG .i64 3,dG .i64 4]
       (bif decide ((bif jW (We w (aa1 x i)) 7237005577332262213973186563042994240857116359379907606001950938285454250989 then (1:Int) else 0)=0) then
        aS [dG .i64 (i - 1)] (.done .normal (stQ x (i - 1) [.pk .u64 64 4 (lI (We w (aa1 x i)) 7237005577332262213973186563042994240857116359379907606001950938285454250989)]))
       else aS [dG .i64 (i - 1)] (.done .normal (stQ x (i - 1) [.int .u64 (sh0 w (aa1 x i)), .int .u64 (shI w 0), .int .u64 (shI w 1), .int .u64 (shI w 2)])))
      else .done (.exit 0) (stQ x i [.pk .u64 64 4 w]):=by intro i; kernel_rfl
     have hev:=hev (j:Int)
     have hq:(j:Int).tdiv 64=((j / 64:Nat):Int):=by rw [Int.tdiv_eq_ediv_of_nonneg (by omega)]; simp
     have hm':(j:Int).tmod 64=((j % 64:Nat):Int):=by rw [Int.tmod_eq_emod_of_nonneg (by omega)]; simp
     have hc1:allT [dG .i64 ((j:Int).tdiv 64),decide ((0:Int)≤(j:Int).tdiv 64),decide ((j:Int).tdiv 64<(x.length:Nat)),decide ((0:Int)≤(j:Int).tmod 64),dG .i64 1,dG .i64 2,dG .i64 3,dG .i64 4]:=by
      rw [hq,hm']
      refine aF (kQ (by omega) (by omega)) (aF ?_ (aF ?_ (aF ?_ (aF (kQ (by omega) (by omega)) (aF (kQ (by omega) (by omega)) (aF (kQ (by omega) (by omega)) (aU (kQ (by omega) (by omega)))))))))
      · rw [decide_eq_true_iff]; omega
      · rw [decide_eq_true_iff]; omega
      · rw [decide_eq_true_iff]; omega
     have hc2:allT [dG .i64 ((j:Int) - 1)]:=aU (kQ (by omega) (by omega))
     have h00:decide ((0:Int)≤(j:Int))=true:=by rw [decide_eq_true_iff]; omega
     have hb2:limbs x / 2^j % 2<2:=Nat.mod_lt _ (by decide)
     rw [h00,cond_true,ai hc1,ai hc2,ai hc2,Zl,afJ hrng hj,OT hwl hb2] at hev
     have hst:=rest_step hw (b:=limbs x / 2^j % 2) rfl
     generalize limbs x / 2^j % 2=b at*
     rw [kv,lJ] at hev
     by_cases hlt:2*w+b<7237005577332262213973186563042994240857116359379907606001950938285454250989
     · rw [decide_eq_true hlt,Bool.not_true,cond_false] at hev
       exact ae.ak5 (dB qP) hev (XB (akr hwl hb2)) ⟨j,Nat.lt_succ_self j,_,rfl,Nat.le_of_lt hj,by rw [← hst,Nat.mod_eq_of_lt hlt]⟩
     · rw [decide_eq_false hlt,Bool.not_false,cond_true] at hev
       refine ae.di (dB qP) hev ⟨j,Nat.lt_succ_self j,_,rfl,Nat.le_of_lt hj,?_⟩
       rw [← hst]
       clear hev hst hw
       omega
 · cases hF
end Go.Proofs.YtcgmcohkkigphaaGreat

/-
  Contracts of the program's scalars: out of bytes.
-/
namespace Go.Proofs.YtcgmcohkkigphaaGreat
open Go Vx Go.RowKit

def Uu (n:Nat):List (List D):= [[.i ((digit 64 n 0:Nat):Int)],[.i ((digit 64 n 1:Nat):Int)],[.i ((digit 64 n 2:Nat):Int)],[.i ((digit 64 n 3:Nat):Int)]]
theorem Oa {n:Nat} (h:n<115792089237316195423570985008687907853269984665640564039457584007913129639936):limbs (Uu n)=n:=by
 obtain ⟨en,_⟩:=gM h
 unfold limbs Uu uC
 simp only [List.map_cons,List.map_nil,List.headD_cons,D.xy,Int.toNat_natCast,cO,Nat.reducePow]
 omega
def orL (n:Nat):List (List D):= [[.i (CF n 0 8)],[.i (CF n 1 8)],[.i (CF n 2 8)],[.i (CF n 3 8)],[.i (CF n 4 8)],[.i (CF n 5 8)],[.i (CF n 6 8)],[.i (CF n 7 8)]]
theorem abT {n:Nat} (h:n<2^(8*64)):limbs (orL n)=n:=by
 unfold limbs orL uC
 simp only [List.map_cons,List.map_nil,List.headD_cons,D.xy,jy,Int.toNat_natCast]
 have:=kR 64 n 8 0
 rw [Nat.mul_zero,Nat.pow_zero,Nat.div_one,show 64*8=8*64 from rfl,Nat.mod_eq_of_lt h] at this
 exact this
theorem zX (n:Nat):aW n<7237005577332262213973186563042994240857116359379907606001950938285454250989:=by rw [F3]; exact Nat.mod_lt _ (by decide)

noncomputable def PQ:List D→Option (List Bool × V)
 | [.n a]=> some ([],kC (aW a))
 | _=> none
noncomputable def Du:aj:=spec [iq] PQ
noncomputable abbrev JV:List (FuncId × aj):= [(150,akm),(179,PT)]
theorem QE:aD Tryz.prog (aK JV):=(.cons acw (.cons Dm .nil))
theorem Bi:bg Tryz.prog 176 Du:=by
 refine az (cx:=dx JV) (c:=af Tryz.f176) Tryz.func176 (by kernel_rfl) (by kernel_rfl) rfl ?_
 intro ds chk v vs hF ht he hr base
 unfold PQ at hF
 split at hF
 · rename_i a
   cases hF
   have hvs:vs= [cB a]:=by simp only [bq,bn,bF,bD,Option.some.injEq] at he; exact he.symm
   subst hvs
   obtain ⟨h1,_⟩:=hr
   have e:=Oa (Dp h1)
   have hw:aW a=aW (limbs (Uu a)):=by rw [e]
   rw [hw]
   exact aB (bS QE) (n:=400) (bs0:= []) (by kernel_rfl) (aL.refl _) trivial
 · cases hF

noncomputable def Xw:List D→Option (List Bool × V)
 | [.n b]=> some ([],cB (aW b))
 | _=> none
noncomputable def aeo:aj:=spec [akB] Xw
noncomputable abbrev Qs:List (FuncId × aj):= [(117,qL),(179,PT)]
theorem Ug:aD Tryz.prog (aK Qs):=(.cons ow (.cons Dm .nil))
theorem acA:bg Tryz.prog 216 aeo:=by
 refine az (cx:=dx Qs) (c:=af Tryz.f216) Tryz.func216 (by kernel_rfl) (by kernel_rfl) rfl ?_
 intro ds chk v vs hF ht he hr base
 unfold Xw at hF
 split at hF
 · rename_i b
   cases hF
   have hvs:vs= [afe b]:=by simp only [bq,bn,bF,bD,Option.some.injEq] at he; exact he.symm
   subst hvs
   obtain ⟨h1,_⟩:=hr
   have e:=abT (agY h1)
   have hw:aW b=aW (limbs (orL b)):=by rw [e]
   rw [hw]
   exact aB (bS Ug) (n:=600) (bs0:= []) (by kernel_rfl) (aL.refl _) trivial
 · cases hF

noncomputable def Xp:List D→Option (List Bool × V)
 | [.n a, .n b]=> some ([],cB (aW (aW a+aW b)))
 | _=> none
noncomputable def Tt:aj:=spec [iq,iq] Xp
noncomputable abbrev Qq:List (FuncId × aj):= [(176,Du),(178,Gc),(179,PT),(117,qL)]
theorem Ud:aD Tryz.prog (aK Qq):=(.cons Bi (.cons zD (.cons Dm (.cons ow .nil))))
theorem OI:bg Tryz.prog 184 Tt:=by
 refine az (cx:=dx Qq) (c:=af Tryz.f184) Tryz.func184 (by kernel_rfl) (by kernel_rfl) rfl ?_
 intro ds chk v vs hF ht he hr base
 unfold Xp at hF
 split at hF
 · rename_i a b
   cases hF
   have hvs:vs= [cB a,cB b]:=by simp only [bq,bn,bF,bD,Option.some.injEq] at he; exact he.symm
   subst hvs
   have hx:=zX a
   have hy:=zX b
   obtain ⟨ea,a0,a1,a2,a3⟩:=gM (show aW a<115792089237316195423570985008687907853269984665640564039457584007913129639936 from Nat.lt_trans hx (by decide))
   obtain ⟨eb,b0,b1,b2,b3⟩:=gM (show aW b<115792089237316195423570985008687907853269984665640564039457584007913129639936 from Nat.lt_trans hy (by decide))
   obtain ⟨s0,hs0⟩: ∃ s:Int,s=(digit 64 (aW a) 0:Int)+(digit 64 (aW b) 0:Int)+0:=⟨_,rfl⟩
   obtain ⟨s1,hs1⟩: ∃ s:Int,s=(digit 64 (aW a) 1:Int)+(digit 64 (aW b) 1:Int)+s0 / 18446744073709551616:=⟨_,rfl⟩
   obtain ⟨s2,hs2⟩: ∃ s:Int,s=(digit 64 (aW a) 2:Int)+(digit 64 (aW b) 2:Int)+s1 / 18446744073709551616:=⟨_,rfl⟩
   obtain ⟨s3,hs3⟩: ∃ s:Int,s=(digit 64 (aW a) 3:Int)+(digit 64 (aW b) 3:Int)+s2 / 18446744073709551616:=⟨_,rfl⟩
   have hc:allT [decide (s0 / 18446744073709551616≤1),decide (s1 / 18446744073709551616≤1),decide (s2 / 18446744073709551616≤1)]:=by
    intro b hb
    simp only [List.mem_cons,List.not_mem_nil,or_false] at hb
    rcases hb with rfl | rfl | rfl<;> (rw [decide_eq_true_iff]; omega)
   obtain ⟨m1,m2⟩:=aa7 ea eb hs0 hs1 hs2 hs3
   have hsum:limbs [[.i (s0 % 18446744073709551616)],[.i (s1 % 18446744073709551616)],[.i (s2 % 18446744073709551616)],[.i (s3 % 18446744073709551616)]]=aW a+aW b:=by
    refine Eq.trans m1 (Nat.mod_eq_of_lt ?_)
    clear m1 m2 ea eb hs0 hs1 hs2 hs3 hc
    omega
   rw [← hsum]
   refine aB (bS Ud) (n:=400) (bs0:= []) (v0:=cB (aW (limbs [[.i (s0 % 18446744073709551616)],[.i (s1 % 18446744073709551616)],[.i (s2 % 18446744073709551616)],[.i (s3 % 18446744073709551616)]]))) (.trans (?_:_=aS [decide (s0 / 18446744073709551616≤1),decide (s1 / 18446744073709551616≤1),decide (s2 / 18446744073709551616≤1)] _) (ai hc)) (aL.refl _) trivial
   subst hs3 hs2 hs1 hs0
   kernel_rfl
 · cases hF
end Go.Proofs.YtcgmcohkkigphaaGreat

/-
  Contracts of the program's scalars and of algebra: small ones.
-/
namespace Go.Proofs.YtcgmcohkkigphaaGreat
open Go Vx Go.RowKit

noncomputable def PR:List D→Option (List Bool × V)
 | [.n a, .n b]=> some ([],cB (aW (aW a+aW (lI 7237005577332262213973186563042994240857116359379907606001950938285454250989 (aW b)))))
 | _=> none
noncomputable def Xo:aj:=spec [iq,iq] PR
noncomputable abbrev JW:List (FuncId × aj):= [(176,Du),(152,Mc),(151,Xc),(117,qL),(184,Tt)]
theorem QF:aD Tryz.prog (aK JW):=(.cons Bi (.cons FL (.cons LF (.cons ow (.cons OI .nil)))))
theorem Zz:bg Tryz.prog 189 Xo:=by
 refine az (cx:=dx JW) (c:=af Tryz.f189) Tryz.func189 (by kernel_rfl) (by kernel_rfl) rfl ?_
 intro ds chk v vs hF ht he hr base
 unfold PR at hF
 split at hF
 · rename_i a b
   cases hF
   have hvs:vs= [cB a,cB b]:=by simp only [bq,bn,bF,bD,Option.some.injEq] at he; exact he.symm
   subst hvs
   exact aB (bS QF) (n:=400) (bs0:= []) (by kernel_rfl) (aL.refl _) trivial
 · cases hF

noncomputable def Gb:List D→Option (List Bool × V)
 | [.n p]=> some ([],bI (aJ p))
 | _=> none
noncomputable def qH:aj:=spec [iq] Gb
noncomputable abbrev Cs:List (FuncId × aj):= [(106,aef)]
theorem Ij:aD Tryz.prog (aK Cs):=(.cons V8 .nil)
theorem o5:bg Tryz.prog 73 qH:=by
 refine az (cx:=dx Cs) (c:=af Tryz.f73) Tryz.func73 (by kernel_rfl) (by kernel_rfl) rfl ?_
 intro ds chk v vs hF ht he hr base
 unfold Gb at hF
 split at hF
 · rename_i p
   cases hF
   have hvs:vs= [cB p]:=by simp only [bq,bn,bF,bD,Option.some.injEq] at he; exact he.symm
   subst hvs
   exact aB (bS Ij) (n:=400) (bs0:= []) (by kernel_rfl) (aL.refl _) trivial
 · cases hF

noncomputable def Cj:List D→Option (List Bool × V)
 | [.n s]=> some ([],bI (jW s 7237005577332262213973186563042994240857116359379907606001950938285454250989))
 | _=> none
noncomputable def gH:aj:=spec [iq] Cj
noncomputable abbrev Af:List (FuncId × aj):= [(105,JI)]
theorem GL:aD Tryz.prog (aK Af):=(.cons zK .nil)
theorem fB:bg Tryz.prog 76 gH:=by
 refine az (cx:=dx Af) (c:=af Tryz.f76) Tryz.func76 (by kernel_rfl) (by kernel_rfl) rfl ?_
 intro ds chk v vs hF ht he hr base
 unfold Cj at hF
 split at hF
 · rename_i s
   cases hF
   have hvs:vs= [cB s]:=by simp only [bq,bn,bF,bD,Option.some.injEq] at he; exact he.symm
   subst hvs
   exact aB (bS GL) (n:=400) (bs0:= []) (by kernel_rfl) (aL.refl _) trivial
 · cases hF

noncomputable def aiv:List D→Option (List Bool × V)
 | [.i n]=> some ([],cB n.toNat)
 | _=> none
noncomputable def akk:aj:=spec [Au] aiv
noncomputable abbrev aeI:List (FuncId × aj):= [(75,ael)]
theorem aeR:aD Tryz.prog (aK aeI):=(.cons acx .nil)
theorem aci:bg Tryz.prog 43 akk:=by
 refine az (cx:=dx aeI) (c:=af Tryz.f43) Tryz.func43 (by kernel_rfl) (by kernel_rfl) rfl ?_
 intro ds chk v vs hF ht he hr base
 unfold aiv at hF
 split at hF
 · rename_i n
   cases hF
   have hvs:vs= [j6 n]:=by simp only [bq,bn,bF,bD,Option.some.injEq] at he; exact he.symm
   subst hvs
   exact aB (bS aeR) (n:=400) (bs0:= []) (by kernel_rfl) (aL.refl _) trivial
 · cases hF

noncomputable def Wz:List D→Option (List Bool × V)
 | []=> some ([],cB (iV (qh ())))
 | _=> none
noncomputable def uS:aj:=spec [] Wz
noncomputable abbrev P8:List (FuncId × aj):= [(102,aeh),(103,adE)]
theorem TG:aD Tryz.prog (aK P8):=(.cons V9 (.cons ack .nil))
theorem oo:bg Tryz.prog 64 uS:=by
 refine az (cx:=dx P8) (c:=af Tryz.f64) Tryz.func64 (by kernel_rfl) (by kernel_rfl) rfl ?_
 intro ds chk v vs hF ht he hr base
 unfold Wz at hF
 split at hF
 · cases hF
   have hvs:vs= []:=by simp only [bq,Option.some.injEq] at he; exact he.symm
   subst hvs
   exact aB (bS TG) (n:=400) (bs0:= []) (by kernel_rfl) (aL.refl _) trivial
 · cases hF

noncomputable def Jr:List D→Option (List Bool × V)
 | [.n b]=> some ([],cB (aW b))
 | _=> none
noncomputable def Po:aj:=spec [akB] Jr
noncomputable abbrev GD:List (FuncId × aj):= [(216,aeo)]
theorem Mm:aD Tryz.prog (aK GD):=(.cons acA .nil)
theorem SG:bg Tryz.prog 210 Po:=by
 refine az (cx:=dx GD) (c:=af Tryz.f210) Tryz.func210 (by kernel_rfl) (by kernel_rfl) rfl ?_
 intro ds chk v vs hF ht he hr base
 unfold Jr at hF
 split at hF
 · rename_i b
   cases hF
   have hvs:vs= [afe b]:=by simp only [bq,bn,bF,bD,Option.some.injEq] at he; exact he.symm
   subst hvs
   exact aB (bS Mm) (n:=400) (bs0:= []) (by kernel_rfl) (aL.refl _) trivial
 · cases hF

def nO:List L:= [.int .u8 0, .int .u8 0, .int .u8 0, .int .u8 0, .int .u8 0, .int .u8 0, .int .u8 0, .int .u8 0, .int .u8 0, .int .u8 0, .int .u8 0, .int .u8 0, .int .u8 0, .int .u8 0, .int .u8 0, .int .u8 0, .int .u8 0, .int .u8 0, .int .u8 0, .int .u8 0, .int .u8 0, .int .u8 0, .int .u8 0, .int .u8 0, .int .u8 0, .int .u8 0, .int .u8 0, .int .u8 0, .int .u8 0, .int .u8 0, .int .u8 0, .int .u8 0]
theorem ahi:aL (.ag (.ps nO)) (cB 0):=aL.dec (t:=iq) (ds:= [.n 0]) rfl rfl
end Go.Proofs.YtcgmcohkkigphaaGreat

/-
  Contracts of the document's scalars: small ones.
-/
namespace Go.Proofs.YtcgmcohkkigphaaGreat
open Go Vx Go.RowKit
end Go.Proofs.YtcgmcohkkigphaaGreat
