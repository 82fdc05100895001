/-
  Contracts of the document's numbers: the digits of p.
-/
import Derived.Test.YtcgmcohkkigphaaGreatL2
import Derived.Test.YtcgmcohkkigphaaGreatU1
set_option maxRecDepth 100000
namespace Go.Proofs.YtcgmcohkkigphaaGreat
open Go Vx Go.RowKit

def J3 (b0 b7:Bool):Out:=bif b0 then aV (j6 4294967277) else bif b7 then aV (j6 2147483647) else aV (j6 4294967295)
theorem MH (b0 b7:Bool):J3 b0 b7=aV (j6 (bif b0 then 4294967277 else bif b7 then 2147483647 else 4294967295)):=by cases b0<;> cases b7<;> rfl

noncomputable def PN:List D→Option (List Bool × V)
 | [.i i]=> some ([],j6 (Bl i))
 | _=> none
noncomputable def Dt:aj:=spec [GU] PN
noncomputable abbrev JS:List (FuncId × aj):= []
theorem QC:aD Tryz.prog (aK JS):=aD.nil
theorem Bh:bg Tryz.prog 206 Dt:=by
 refine az (cx:=dx JS) (c:=af Tryz.f206) Tryz.func206 (by kernel_rfl) (by kernel_rfl) rfl ?_
 intro ds chk v vs hF ht he hr base
 unfold PN at hF
 split at hF
 · rename_i i
   cases hF
   have hvs:vs= [aN i]:=by simp only [bq,bn,bF,bD,Option.some.injEq] at he; exact he.symm
   subst hvs
   exact aB (bS QC) (n:=200) (bs0:= []) (h:=Eq.trans (b:=J3 (decide (i=0)) (decide (i=7))) (by kernel_rfl) (MH _ _)) (aL.refl _) trivial
 · cases hF

def QK (d:Nat→Int):Nat→Out
 | 0=> aV (bI false)
 | i+1=> bif !decide (d i=Bl (i:Int)) then aV (bI (decide (d i<Bl (i:Int)))) else QK d i
theorem QL (d:Nat→Int): ∀ m,(∀ i,i<m→0≤d i∧d i<4294967296)→QK d m=aV (bI (decide (aR d m<aR eY m)))
 | 0,_=> by simp [QK,aR]
 | m+1,h=> by
   have hl:=agN (q:=eY) h (fun i _=> xW i)
   unfold QK
   cases he:decide (d m=Bl (m:Int)) with
   | true=>
     have he':d m=eY m:=of_decide_eq_true he
     simp only [Bool.not_true,cond_false]
     rw [QL d m (fun i hi=> h i (by omega))]
     congr 2
     refine decide_eq_decide.2 ?_
     rw [hl]
     constructor
     · intro hx; exact .inr ⟨he',hx⟩
     · rintro (hx | ⟨_,hx⟩)
       · omega
       · exact hx
   | false=>
     have he':d m≠eY m:=of_decide_eq_false he
     simp only [Bool.not_false,cond_true]
     congr 2
     refine decide_eq_decide.2 ?_
     rw [hl]
     constructor
     · intro hx; exact .inl hx
     · rintro (hx | ⟨hx,_⟩)
       · exact hx
       · exact absurd hx he'

noncomputable def PK:List D→Option (List Bool × V)
 | [.i a, .i b, .i c, .i d, .i e, .i f, .i g, .i h]=> some (([a,b,c,d,e,f,g,h].map iM),bI (Zn (BF a b c d e f g h)))
 | _=> none
noncomputable def L9:aj:=spec [aiM] PK
noncomputable abbrev JR:List (FuncId × aj):= [(206,Dt)]
theorem QB:aD Tryz.prog (aK JR):=(.cons Bh .nil)
theorem Jf:bg Tryz.prog 207 L9:=by
 refine az (cx:=dx JR) (c:=af Tryz.f207) Tryz.func207 (by kernel_rfl) (by kernel_rfl) rfl ?_
 intro ds chk v vs hF ht he hr base
 unfold PK at hF
 split at hF
 · rename_i a b c d e f g h
   cases hF
   have hvs:vs= [aiS a b c d e f g h]:=by simp only [bq,bn,bF,bD,Option.some.injEq] at he; exact he.symm
   subst hvs
   have hc: ∀ x∈ [a,b,c,d,e,f,g,h],iM x=true:=fun x hx=> ht _ (List.mem_map.2 ⟨x,hx,rfl⟩)
   obtain ⟨⟨h0,h1,h2,h3,h4,h5,h6,h7,_⟩,_⟩:=hr
   have hrng: ∀ i,i<8→0≤fn8 a b c d e f g h i∧fn8 a b c d e f g h i<4294967296:=by
    have key: ∀ x,x∈ [a,b,c,d,e,f,g,h]→jm .u64 x=true→0≤x∧x<4294967296:=by
     intro x hx hk
     have:=hc x hx
     rw [Ld] at this
     exact ⟨((bK rfl).1 hk).1,of_decide_eq_true this⟩
    intro i hi
    match i,hi with
    | 0,_=> exact key a (by simp) h0
    | 1,_=> exact key b (by simp) h1
    | 2,_=> exact key c (by simp) h2
    | 3,_=> exact key d (by simp) h3
    | 4,_=> exact key e (by simp) h4
    | 5,_=> exact key f (by simp) h5
    | 6,_=> exact key g (by simp) h6
    | 7,_=> exact key h (by simp) h7
   rw [Lc,Mh,← xX]
   exact aB (bS QB) (n:=200) (bs0:= []) (h:=Eq.trans (b:=QK (fn8 a b c d e f g h) 8) (by kernel_rfl) (QL _ 8 hrng)) (aL.refl _) trivial
 · cases hF
end Go.Proofs.YtcgmcohkkigphaaGreat

/-
  Contracts of the document's numbers: Reduce.
-/
namespace Go.Proofs.YtcgmcohkkigphaaGreat
open Go Vx Go.RowKit

def dl (d:Nat→Int):List L:= [.int .u64 (d 0), .int .u64 (d 1), .int .u64 (d 2), .int .u64 (d 3), .int .u64 (d 4), .int .u64 (d 5), .int .u64 (d 6), .int .u64 (d 7)]
def stR (d:Nat→Int) (k:Int):St:=⟨[.aC, .one (.ptr 0 0), .one (.ptr 1 0),aN k]++List.replicate 83 .aC,[some ⟨147, .ps (dl d)⟩,some ⟨147, .ps (dl fun _=> 0)⟩]⟩
def alU (d:Nat→Int):St:=⟨[.aC, .one (.ptr 0 0), .one (.ptr 1 0)]++List.replicate 84 .aC,[some ⟨147, .ps (dl d)⟩,some ⟨147, .ps (dl fun _=> 0)⟩]⟩

theorem RH {e:Nat→Int} {n:Nat} (h: ∀ i,0≤e i∧e i<4294967296) (hn:aR e 8=(n:Int)):aL (.ag (.ps (dl e))) (tF n):=by
 have hb:n<2^(32*8):=by
  have:=(jM (d:=e) 8 (fun i _=> h i)).2
  rw [hn] at this
  exact_mod_cast this
 refine ajk (f:=e) hb rfl (by decide) fun i hi=> ?_
 rw [← FU h 8 i hi,hn]
 unfold digit
 have h2:((2:Int)^(32*i))=((2^(32*i):Nat):Int):=by simp
 rw [h2]
 simp only [Nat.reducePow]
 omega

theorem agS {N:Int} {d:Nat→Int} (h:RInv N 2 d):0≤aR (q9 (jq d)) 8∧aR (q9 (jq d)) 8<57896044618658097711785492504343953926634992332820282019728792003956564819949+38∧aR (q9 (jq d)) 8 % 57896044618658097711785492504343953926634992332820282019728792003956564819949=N % 57896044618658097711785492504343953926634992332820282019728792003956564819949∧
 (57896044618658097711785492504343953926634992332820282019728792003956564819949≤aR (q9 (jq d)) 8→aR (oAt (q9 (jq d))) 8=aR (q9 (jq d)) 8 - 57896044618658097711785492504343953926634992332820282019728792003956564819949):=by
 obtain ⟨h1,h2,h3,h4⟩:=RX h
 obtain ⟨c1,c2,c3⟩:=pass h1 8 (Nat.le_refl _)
 obtain ⟨e1,e2⟩:=jM (d:=q9 (jq d)) 8 (fun i _=> vB i)
 obtain ⟨b1,b2,b3⟩:=borrow (d:=q9 (jq d)) (m:=8) (fun i _=> vB i) 8 (Nat.le_refl _)
 obtain ⟨o1,o2⟩:=jM (d:=oAt (q9 (jq d))) 8 (fun i _=> VT i)
 have hp:(2:Int)^(32*8)=115792089237316195423570985008687907853269984665640564039457584007913129639936:=by decide
 rw [hp] at c3 e2 b3 o2
 rw [xX] at b3
 have hc:yQ (jq d) 8=0:=by clear h1 h2 b3 o1 o2 b1 b2; omega
 rw [hc] at c3
 have hS:aR (q9 (jq d)) 8=aR (jq d) 8:=by clear h1 h2 b3 o1 o2 b1 b2; omega
 rw [hS] at*
 refine ⟨h3,by clear h1 h2 b3 o1 o2; omega,h2,fun hge=> ?_⟩
 have hb:M3 (q9 (jq d)) 8=0:=by clear h1 h2; omega
 rw [hb] at b3
 clear h1 h2
 omega

noncomputable def JH:List D→Option (List Bool × V)
 | [.i a, .i b, .i c, .i d, .i e, .i f, .i g, .i h]=> some (([a,b,c,d,e,f,g,h].map bV),tF (Br (BF a b c d e f g h)))
 | _=> none
noncomputable def qK:aj:=spec [aiM] JH
noncomputable abbrev sO:List (FuncId × aj):= [(206,Dt),(207,L9)]
theorem gz:aD Tryz.prog (aK sO):=(.cons Bh (.cons Jf .nil))
theorem ou:bg Tryz.prog 200 qK:=by
 refine az (cx:=dx sO) (c:=af Tryz.f200) Tryz.func200 (by kernel_rfl) (by kernel_rfl) rfl ?_
 intro ds chk v vs hF ht he hr base
 unfold JH at hF
 split at hF
 · rename_i a b c d e f g h
   cases hF
   have hvs:vs= [aiS a b c d e f g h]:=by simp only [bq,bn,bF,bD,Option.some.injEq] at he; exact he.symm
   subst hvs
   have hc: ∀ x∈ [a,b,c,d,e,f,g,h],bV x=true:=fun x hx=> ht _ (List.mem_map.2 ⟨x,hx,rfl⟩)
   obtain ⟨⟨h0,h1,h2,h3,h4,h5,h6,h7,_⟩,_⟩:=hr
   have hrng: ∀ i,i<8→0≤fn8 a b c d e f g h i∧fn8 a b c d e f g h i<1099511627776:=by
    have key: ∀ x,x∈ [a,b,c,d,e,f,g,h]→jm .u64 x=true→0≤x∧x<1099511627776:=by
     intro x hx hk
     have:=hc x hx
     rw [vO] at this
     exact ⟨((bK rfl).1 hk).1,of_decide_eq_true this⟩
    intro i hi
    match i,hi with
    | 0,_=> exact key a (by simp) h0
    | 1,_=> exact key b (by simp) h1
    | 2,_=> exact key c (by simp) h2
    | 3,_=> exact key d (by simp) h3
    | 4,_=> exact key e (by simp) h4
    | 5,_=> exact key f (by simp) h5
    | 6,_=> exact key g (by simp) h6
    | 7,_=> exact key h (by simp) h7
   rw [vW,Mh]
   generalize hN:aR (fn8 a b c d e f g h) 8=N
   have hI0:RInv N 0 (fn8 a b c d e f g h):=⟨hrng,by rw [hN],fun h=> absurd h (by decide),fun h=> absurd h (by decide)⟩
   refine bM.items _ _ _ (ae.fw (bS gz) (n:=100) (k:=2) (kt:= [1,2,3]) (kh:= [0,1]) (m:=2) (e:= .normal) (st':=stR (fn8 a b c d e f g h) 0) (by kernel_rfl) ?_)
   refine ae.loop (id:=0) (by kernel_rfl) (fun m s=> ∃ dd,s=stR dd (3 - (m:Int))∧m≤3∧RInv N (3 - m) dd) 3 ⟨fn8 a b c d e f g h,rfl,Nat.le_refl _,by have:=hI0; exact this⟩ ?_
   rintro m s ⟨dd,rfl,hm,hI⟩
   match m,hm,hI with
   | 3,_,hI=> exact ae.di (bS gz) (n:=100) (kt:= [1,2,3]) (kh:= [0,1]) (m:=2) (e:= .normal) (st':=stR (og dd) 1) (by kernel_rfl) ⟨2,by decide,og dd,rfl,by decide,hI.step⟩
   | 2,_,hI=> exact ae.di (bS gz) (n:=100) (kt:= [1,2,3]) (kh:= [0,1]) (m:=2) (e:= .normal) (st':=stR (og dd) 2) (by kernel_rfl) ⟨1,by decide,og dd,rfl,by decide,hI.step⟩
   | 1,_,hI=> exact ae.di (bS gz) (n:=100) (kt:= [1,2,3]) (kh:= [0,1]) (m:=2) (e:= .normal) (st':=stR (og dd) 3) (by kernel_rfl) ⟨0,by decide,og dd,rfl,by decide,hI.step⟩
   | 0,_,hI=>
     refine ae.di (bS gz) (n:=100) (kt:= [1,2,3]) (kh:= [0,1]) (m:=2) (e:= .exit 0) (st':=stR dd 3) (by kernel_rfl) ?_
     have hI2:RInv N 2 dd:=⟨hI.x8,hI.val,fun _=> hI.one (by decide),fun _=> hI.two (by decide)⟩
     obtain ⟨r1,r2,r3,r4⟩:=agS hI2
     refine ae.fw (bS gz) (n:=100) (k:=5) (kt:= [1,2]) (kh:= [0,1]) (m:=2) (e:= .normal) (st':=alU (q9 (jq dd))) (by kernel_rfl) ?_
     have hrg: ∀ i,0≤q9 (jq dd) i∧q9 (jq dd) i<4294967296:=fun i=> vB i
     generalize q9 (jq dd)=E at*
     have hev:bG (dx sO) 100 ((items (af Tryz.f200)).drop 8) (alU E) (jv (dx sO) Tryz.f200 base)=
      aS [iM (E 0),iM (E 1),iM (E 2),iM (E 3),iM (E 4),iM (E 5),iM (E 6),iM (E 7)]
       (bif Zn (BF (E 0) (E 1) (E 2) (E 3) (E 4) (E 5) (E 6) (E 7)) then aV (.ag (.ps (dl E))) else aV (.ag (.ps (dl (oAt E))))):=by kernel_rfl
     have hck:allT [iM (E 0),iM (E 1),iM (E 2),iM (E 3),iM (E 4),iM (E 5),iM (E 6),iM (E 7)]:=by
      have q: ∀ i,iM (E i)=true:=fun i=> by rw [Ld,decide_eq_true_iff]; exact (hrg i).2
      exact aF (q 0) (aF (q 1) (aF (q 2) (aF (q 3) (aF (q 4) (aF (q 5) (aF (q 6) (aU (q 7))))))))
     rw [ai hck,wy,Lc] at hev
     by_cases hlt:aR E 8<57896044618658097711785492504343953926634992332820282019728792003956564819949
     · rw [decide_eq_true hlt] at hev
       refine bZ (bS gz) (n:=100) (bs0:= []) (v0:= .ag (.ps (dl E))) hev (RH hrg ?_) trivial
       rw [← r3,Int.emod_eq_of_lt r1 hlt]
       omega
     · rw [decide_eq_false hlt] at hev
       refine bZ (bS gz) (n:=100) (bs0:= []) (v0:= .ag (.ps (dl (oAt E)))) hev (RH (fun i=> VT i) ?_) trivial
       rw [r4 (by omega),← r3]
       clear hev r3 r4
       omega
 · cases hF
end Go.Proofs.YtcgmcohkkigphaaGreat

/-
  Contracts of the document's numbers: Words.
-/
namespace Go.Proofs.YtcgmcohkkigphaaGreat
open Go Vx Go.RowKit

def wD (n:Nat) (i:Nat):Int:=((digit 64 n (i / 2):Nat):Int) / ((2^(32*(i % 2)):Nat):Int) % 4294967296
theorem akM (n i:Nat):0≤wD n i∧wD n i<4294967296:=⟨Int.emod_nonneg _ (by decide),Int.emod_lt_of_pos _ (by decide)⟩
theorem afi (n i:Nat):wD n i=(digit 32 n i:Nat):=by
 unfold wD digit
 rw [← Int.natCast_ediv]
 have e1:n / 2^(64*(i / 2)) % 2^64 / 2^(32*(i % 2)) % 4294967296=n / 2^(32*i) % 2^32:=by
  have hlt:i % 2<2:=Nat.mod_lt _ (by decide)
  have e2:(2:Nat)^64=2^(32*(i % 2))*2^(64 - 32*(i % 2)):=by rw [← Nat.pow_add]; congr 1; omega
  rw [e2,Nat.mod_mul_right_div_self,Nat.div_div_eq_div_mul,← Nat.pow_add]
  have e3:(2:Nat)^(64 - 32*(i % 2))=4294967296*2^(32 - 32*(i % 2)):=by
   rw [show (4294967296:Nat)=2^32 from rfl,← Nat.pow_add]; congr 1; omega
  rw [e3,Nat.mod_mul_right_mod]
  congr 3
  omega
 rw [← e1]
 rfl
theorem mE (n:Nat): ∀ m,aR (fun i=> ((digit 32 n i:Nat):Int)) m=((n % 2^(32*m):Nat):Int)
 | 0=> by simp [aR,Nat.mod_one]
 | m+1=> by
   rw [aR,mE n m,show 32*(m+1)=32*m+32 from rfl,Nat.pow_add,Nat.mod_mul]
   unfold digit
   rw [Int.natCast_add,Int.natCast_mul,Int.mul_comm]
   simp
theorem afk {n:Nat} (hn:n<115792089237316195423570985008687907853269984665640564039457584007913129639936):Br (BF (wD n 0) (wD n 1) (wD n 2) (wD n 3) (wD n 4) (wD n 5) (wD n 6) (wD n 7))=aH n:=by
 rw [wy,vW,ed,jZ 8 (fun i _=> afi n i),mE,show (2:Nat)^(32*8)=115792089237316195423570985008687907853269984665640564039457584007913129639936 from by decide+kernel,Nat.mod_eq_of_lt hn]
 unfold pP
 clear hn
 omega
theorem af9 {x:Int} (h:0≤x∧x<4294967296):bV x=true:=by rw [vO,decide_eq_true_iff]; omega

noncomputable def PO:List D→Option (List Bool × V)
 | [.n n]=> some ([],tF (aH n))
 | _=> none
noncomputable def Xi:aj:=spec [yx] PO
noncomputable abbrev JU:List (FuncId × aj):= [(200,qK)]
theorem QD:aD Tryz.prog (aK JU):=(.cons ou .nil)
theorem Zy:bg Tryz.prog 201 Xi:=by
 refine az (cx:=dx JU) (c:=af Tryz.f201) Tryz.func201 (by kernel_rfl) (by kernel_rfl) rfl ?_
 intro ds chk v vs hF ht he hr base
 unfold PO at hF
 split at hF
 · rename_i n
   cases hF
   have hvs:vs= [kC n]:=by simp only [bq,bn,bF,bD,Option.some.injEq] at he; exact he.symm
   subst hvs
   obtain ⟨h1,_⟩:=hr
   rw [← afk (jF h1)]
   have hck:allT [bV (wD n 0),bV (wD n 1),bV (wD n 2),bV (wD n 3),bV (wD n 4),bV (wD n 5),bV (wD n 6),bV (wD n 7)]:=by
    have q: ∀ i,bV (wD n i)=true:=fun i=> af9 (akM n i)
    exact aF (q 0) (aF (q 1) (aF (q 2) (aF (q 3) (aF (q 4) (aF (q 5) (aF (q 6) (aU (q 7))))))))
   exact aB (bS QD) (n:=200) (bs0:= []) (h:=Eq.trans (b:=aS [bV (wD n 0),bV (wD n 1),bV (wD n 2),bV (wD n 3),bV (wD n 4),bV (wD n 5),bV (wD n 6),bV (wD n 7)] (aV (tF (Br (BF (wD n 0) (wD n 1) (wD n 2) (wD n 3) (wD n 4) (wD n 5) (wD n 6) (wD n 7)))))) (by kernel_rfl) (ai hck)) (aL.refl _) trivial
 · cases hF
end Go.Proofs.YtcgmcohkkigphaaGreat

/-
  Contracts of the document's numbers: Mul.
-/
namespace Go.Proofs.YtcgmcohkkigphaaGreat
open Go Vx Go.RowKit

def al (r:Nat→Int):List L:= [.int .u64 (r 0), .int .u64 (r 1), .int .u64 (r 2), .int .u64 (r 3), .int .u64 (r 4), .int .u64 (r 5), .int .u64 (r 6), .int .u64 (r 7), .int .u64 (r 8), .int .u64 (r 9), .int .u64 (r 10), .int .u64 (r 11), .int .u64 (r 12), .int .u64 (r 13), .int .u64 (r 14), .int .u64 (r 15)]
def stM (a b:Nat) (r:Nat→Int) (i:Int):St:=⟨[.aC, .aC, .one (.ptr 0 0), .one (.ptr 1 0), .one (.ptr 2 0), .one (.ptr 3 0),aN i]++List.replicate 56 .aC,
 [some ⟨147, .ps [.pk .u64 32 8 a]⟩,some ⟨147, .ps [.pk .u64 32 8 b]⟩,some ⟨147, .ps (dl fun _=> 0)⟩,some ⟨223, .ps (al r)⟩]⟩
def dg (n i:Nat):Int:=((digit 32 n i:Nat):Int)
theorem fF (n i:Nat):0≤dg n i∧dg n i<4294967296:=by
 unfold dg digit
 have:=Nat.mod_lt (n / 2^(32*i)) (show 2^32 > 0 by decide)
 simp only [Nat.reducePow] at*
 omega
def cM (r:Nat→Int) (i:Nat):Int:=ak .u64 (r i+ak .u64 (38*r (i+8)))

theorem agh {a b:Nat} (ha:a<115792089237316195423570985008687907853269984665640564039457584007913129639936) (hb:b<115792089237316195423570985008687907853269984665640564039457584007913129639936) {r:Nat→Int} (h:MInv (dg a) (dg b) 8 r):
 (∀ i,0≤cM r i∧cM r i<1099511627776)∧Br (aR (cM r) 8)=ah a b:=by
 have hc: ∀ i,cM r i=r i+38*r (8+i):=fun i=> by
  have h1:=h.x8 i
  have h2:=h.x8 (i+8)
  unfold cM
  rw [Nat.add_comm 8 i]
  simp only [ak]
  omega
 refine ⟨fun i=> ?_,?_⟩
 · have h1:=h.x8 i
   have h2:=h.x8 (8+i)
   rw [hc]; omega
 · have hs: ∀ m,aR (cM r) m=aR r m+38*aR (fun k=> r (8+k)) m:=by
    intro m
    induction m with
    | zero=> simp [aR]
    | succ m ih=>
      have e:aR (fun k=> r (8+k)) (m+1)=aR (fun k=> r (8+k)) m+r (8+m)*2^(32*m):=rfl
      rw [aR,ih,hc,e,aR,Int.add_mul,Int.mul_add,Int.mul_assoc 38]
      omega
   have hv:=h.val
   rw [su r 8 8] at hv
   have pa:aR (dg a) 8=(a:Int):=by
    have:aR (dg a) 8=((a % 2^(32*8):Nat):Int):=mE a 8
    rw [this,show (2:Nat)^(32*8)=115792089237316195423570985008687907853269984665640564039457584007913129639936 from by decide+kernel,Nat.mod_eq_of_lt ha]
   have pb:aR (dg b) 8=(b:Int):=by
    have:aR (dg b) 8=((b % 2^(32*8):Nat):Int):=mE b 8
    rw [this,show (2:Nat)^(32*8)=115792089237316195423570985008687907853269984665640564039457584007913129639936 from by decide+kernel,Nat.mod_eq_of_lt hb]
   rw [pa,pb,show (2:Int)^(32*8)=115792089237316195423570985008687907853269984665640564039457584007913129639936 from by decide+kernel] at hv
   rw [vW,lZ,hs]
   have e:aR r 8+38*aR (fun k=> r (8+k)) 8=((a*b:Nat):Int) - 2*aR (fun k=> r (8+k)) 8*57896044618658097711785492504343953926634992332820282019728792003956564819949:=by
    rw [Int.natCast_mul,← hv]
    generalize aR (fun k=> r (8+k)) 8=q
    clear hv pa pb
    omega
   rw [e,Int.sub_mul_emod_self_right]
   unfold pP
   generalize a*b=c
   clear hv e
   omega

noncomputable def ad5:List D→Option (List Bool × V)
 | [.n a, .n b]=> some ([],tF (ah a b))
 | _=> none
noncomputable def JG:aj:=spec [Uk,Uk] ad5
noncomputable abbrev XW:List (FuncId × aj):= [(200,qK)]
theorem ig:aD Tryz.prog (aK XW):=(.cons ou .nil)
theorem zJ:bg Tryz.prog 159 JG:=by
 refine az (cx:=dx XW) (c:=af Tryz.f159) Tryz.func159 (by kernel_rfl) (by kernel_rfl) rfl ?_
 intro ds chk v vs hF ht he hr base
 unfold ad5 at hF
 split at hF
 · rename_i a b
   cases hF
   have hvs:vs= [tF a,tF b]:=by simp only [bq,bn,bF,bD,Option.some.injEq] at he; exact he.symm
   subst hvs
   obtain ⟨h1,h2,_⟩:=hr
   have ha:a<115792089237316195423570985008687907853269984665640564039457584007913129639936:=by
    have:a<2^(32*8):=h1.1
    exact this
   have hb:b<115792089237316195423570985008687907853269984665640564039457584007913129639936:=by
    have:b<2^(32*8):=h2.1
    exact this
   have hI0:MInv (dg a) (dg b) 0 (fun _=> 0):=⟨fun _=> ⟨by decide,by decide⟩,fun _ _=> rfl,by simp [aR]⟩
   refine bM.items _ _ _ (ae.fw (bS ig) (n:=100) (k:=3) (kt:= [2,3,4,5,6]) (kh:= [0,1,2,3]) (m:=4) (e:= .normal) (st':=stM a b (fun _=> 0) 0) (by kernel_rfl) ?_)
   refine ae.loop (id:=0) (by kernel_rfl) (fun m s=> ∃ r,s=stM a b r (8 - (m:Int))∧m≤8∧MInv (dg a) (dg b) (8 - m) r) 8 ⟨fun _=> 0,rfl,Nat.le_refl _,by have:=hI0; exact this⟩ ?_
   rintro m s ⟨r,rfl,hm,hI⟩
   match m,hm,hI with
   | 8,_,hI=> exact ae.di (bS ig) (n:=100) (kt:= [2,3,4,5,6]) (kh:= [0,1,2,3]) (m:=4) (e:= .normal) (st':=stM a b (ky r (dg a 0) (dg b) 0) 1) (by kernel_rfl) ⟨7,by decide,_,rfl,by decide,hI.step (fF a) (fF b)⟩
   | 7,_,hI=> exact ae.di (bS ig) (n:=100) (kt:= [2,3,4,5,6]) (kh:= [0,1,2,3]) (m:=4) (e:= .normal) (st':=stM a b (ky r (dg a 1) (dg b) 1) 2) (by kernel_rfl) ⟨6,by decide,_,rfl,by decide,hI.step (fF a) (fF b)⟩
   | 6,_,hI=> exact ae.di (bS ig) (n:=100) (kt:= [2,3,4,5,6]) (kh:= [0,1,2,3]) (m:=4) (e:= .normal) (st':=stM a b (ky r (dg a 2) (dg b) 2) 3) (by kernel_rfl) ⟨5,by decide,_,rfl,by decide,hI.step (fF a) (fF b)⟩
   | 5,_,hI=> exact ae.di (bS ig) (n:=100) (kt:= [2,3,4,5,6]) (kh:= [0,1,2,3]) (m:=4) (e:= .normal) (st':=stM a b (ky r (dg a 3) (dg b) 3) 4) (by kernel_rfl) ⟨4,by decide,_,rfl,by decide,hI.step (fF a) (fF b)⟩
   | 4,_,hI=> exact ae.di (bS ig) (n:=100) (kt:= [2,3,4,5,6]) (kh:= [0,1,2,3]) (m:=4) (e:= .normal) (st':=stM a b (ky r (dg a 4) (dg b) 4) 5) (by kernel_rfl) ⟨3,by decide,_,rfl,by decide,hI.step (fF a) (fF b)⟩
   | 3,_,hI=> exact ae.di (bS ig) (n:=100) (kt:= [2,3,4,5,6]) (kh:= [0,1,2,3]) (m:=4) (e:= .normal) (st':=stM a b (ky r (dg a 5) (dg b) 5) 6) (by kernel_rfl) ⟨2,by decide,_,rfl,by decide,hI.step (fF a) (fF b)⟩
   | 2,_,hI=> exact ae.di (bS ig) (n:=100) (kt:= [2,3,4,5,6]) (kh:= [0,1,2,3]) (m:=4) (e:= .normal) (st':=stM a b (ky r (dg a 6) (dg b) 6) 7) (by kernel_rfl) ⟨1,by decide,_,rfl,by decide,hI.step (fF a) (fF b)⟩
   | 1,_,hI=> exact ae.di (bS ig) (n:=100) (kt:= [2,3,4,5,6]) (kh:= [0,1,2,3]) (m:=4) (e:= .normal) (st':=stM a b (ky r (dg a 7) (dg b) 7) 8) (by kernel_rfl) ⟨0,by decide,_,rfl,by decide,hI.step (fF a) (fF b)⟩
   | 0,_,hI=>
     refine ae.di (bS ig) (n:=100) (kt:= [2,3,4,5,6]) (kh:= [0,1,2,3]) (m:=4) (e:= .exit 0) (st':=stM a b r 8) (by kernel_rfl) ?_
     obtain ⟨r1,r2⟩:=agh ha hb hI
     have hck:allT [bV (cM r 0),bV (cM r 1),bV (cM r 2),bV (cM r 3),bV (cM r 4),bV (cM r 5),bV (cM r 6),bV (cM r 7)]:=by
      have q: ∀ i,bV (cM r i)=true:=fun i=> by rw [vO,decide_eq_true_iff]; exact (r1 i).2
      exact aF (q 0) (aF (q 1) (aF (q 2) (aF (q 3) (aF (q 4) (aF (q 5) (aF (q 6) (aU (q 7))))))))
     rw [← r2,← wy]
     exact bZ (bS ig) (n:=200) (bs0:= []) (h:=Eq.trans (b:=aS [bV (cM r 0),bV (cM r 1),bV (cM r 2),bV (cM r 3),bV (cM r 4),bV (cM r 5),bV (cM r 6),bV (cM r 7)] (aV (tF (Br (BF (cM r 0) (cM r 1) (cM r 2) (cM r 3) (cM r 4) (cM r 5) (cM r 6) (cM r 7)))))) (by kernel_rfl) (ai hck)) (aL.refl _) trivial
 · cases hF
end Go.Proofs.YtcgmcohkkigphaaGreat
