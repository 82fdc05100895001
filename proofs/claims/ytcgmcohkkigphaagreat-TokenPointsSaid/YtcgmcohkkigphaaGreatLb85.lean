/-
  The contract of a proof of relations.
-/
import Derived.Test.YtcgmcohkkigphaaGreatLb84
import Derived.Test.YtcgmcohkkigphaaGreatL14
import Derived.Test.YtcgmcohkkigphaaGreatL8
set_option maxRecDepth 100000
namespace Go.Proofs.YtcgmcohkkigphaaGreat
open Go Vx Go.RowKit

def hQ (k:List (List D)):Hp:= [some ⟨35, .ps [.rd [.pk .u8 8 32] k]⟩,some ⟨41, .ps (nO++ [.fG])⟩]
def aez (t:ByteArray) (x s k:List (List D)) (e:Int):St:=⟨[jH t,iw x,kE s]++jk 4++ [.one (.ptr 0 0), .one (.ptr 1 0),aN e]++jk 39++ [bW,bW,bW]++jk 49,hQ k⟩
def PZ (t:ByteArray) (x s k:List (List D)) (e i:Int):St:=⟨[jH t,iw x,kE s]++jk 4++ [.one (.ptr 0 0), .one (.ptr 1 0),aN e]++jk 39++ [iw x,aN (x.length:Nat),aN i]++jk 49,hQ k⟩
def prB (C:Nat) (v:L):Option bQ:=some ⟨41, .ps [.pk .u8 8 32 C,v]⟩
def Gx (s k:List (List D)) (C:Nat) (v:L) (h:Hp) (i:Int):St:=⟨jk 7++ [.one (.ptr 0 0), .one (.ptr 1 0),aN 0]++jk 2++ [.one (.ptr 2 0)]++jk 57++ [kE s,aN (s.length:Nat),aN i]++jk 28,[some ⟨35, .ps [.rd [.pk .u8 8 32] k]⟩,some ⟨41, .ps (nO++ [.fG])⟩,prB C v]++h⟩
def rowP (y:List (List D)):Hp:= [some ⟨28, .row [.pk .u8 8 32] y⟩]
abbrev ama (b C n:Nat):V:= .dX [.ag (.ps [.pk .u8 8 32 C, .row b 32 0 n n]), .one (.int .i64 0)]
theorem ZP (c:Nat) (s k:List (List D)) (n:Nat):jY c s k (n+1)=jY c s k n++ [[.n (LV c (kX s n) (kX k n))]]:=by
 unfold jY
 rw [List.range_succ,List.map_append]
 rfl
theorem LM {t:ByteArray} {x s k:List (List D)} (h:Bn t x s k=0):xZ t.size x (s.length:Nat)=true∧k.length=s.length∧dK s=true∧dK k=true∧qG x=true∧H6 s x=true:=by
 unfold Bn at h
 cases h1:xZ t.size x (s.length:Nat) with
 | false=> rw [h1] at h; cases h
 | true=>
 cases h2:decide (((k.length:Nat):Int)=(s.length:Nat)) with
 | false=> rw [h1,h2] at h; cases h
 | true=>
 cases h3:dK s with
 | false=> rw [h1,h2,h3] at h; cases h
 | true=>
 cases h4:dK k with
 | false=> rw [h1,h2,h3,h4] at h; cases h
 | true=>
 cases h5:qG x with
 | false=> rw [h1,h2,h3,h4,h5] at h; cases h
 | true=>
 cases h6:H6 s x with
 | false=> rw [h1,h2,h3,h4,h5,h6] at h; cases h
 | true=>
 have:=of_decide_eq_true h2
 exact ⟨rfl,by omega,rfl,rfl,rfl,rfl⟩
theorem Wm {t:ByteArray} {x s k:List (List D)} (h1:xZ t.size x (s.length:Nat)=true) (h2:k.length=s.length) (h3:dK s=true) (h4:dK k=true) (h5:qG x=true):Bn t x s k=bif !H6 s x then 110 else 0:=by
 unfold Bn
 rw [h1,h3,h4,h5,decide_eq_true (show ((k.length:Nat):Int)=(s.length:Nat) by omega)]
 rfl

noncomputable abbrev abM:List (FuncId × Func):= [(125,Tryz.f125)]
theorem ajw:bf Tryz.prog (gY abM):=bf.cons Tryz.func125 (by kernel_rfl) bf.nil

noncomputable def Jv:Nat→List D→Option (List Bool × V × List bQ)
 | base,[.s t, .l x, .l s, .l k]=> some ([decide (t.size<9223372036854775808),decide (Bn t x s k=0)],ama base (kS t x s k) s.length,[⟨28, .row [.pk .u8 8 32] (jY (kS t x s k) s k s.length)⟩])
 | _,_=> none
noncomputable def Gi:aj:=Cn [ahg,ahc,QT,QT] Jv
noncomputable abbrev iK:List (FuncId × aj):= [(80,pq),(127,adA),(121,LZ),(122,Bz),(123,Gh),(124,Gg)]
theorem Al:aD Tryz.prog (aK iK):=(.cons lK (.cons acj (.cons Je (.cons Ce (.cons FD (.cons FC .nil))))))
noncomputable abbrev l9:Cx:=bJ true false iK [] []
theorem om:Ok l9:=dM (sy:=true) (rw:=false) Al bf.nil dO.nil
theorem FE:bg Tryz.prog 86 Gi:=by
 refine AR (cx:=bJ true false iK [] []) (c:=af Tryz.f86) Tryz.func86 (by kernel_rfl) (by kernel_rfl) ?_
 intro base ds chk v bs vs hF ht he hr
 unfold Jv at hF
 split at hF
 · rename_i t x s k
   cases hF
   have hvs:vs= [jH t,iw x,kE s,kE k]:=by simp only [bq,bn,bF,bD,Option.some.injEq] at he; exact he.symm
   subst hvs
   have hts:t.size<9223372036854775808:=of_decide_eq_true (ht (decide (t.size<9223372036854775808)) (by simp))
   obtain ⟨_,hxr,hsr,hkr,_⟩:=hr
   have hxm:=max_lt hxr.1
   have hlx:=ll (max_lt hxr.1)
   have hls:=ll (max_lt hsr.1)
   have hlk:=ll (max_lt hkr.1)
   have hA:bG l9 100 ((items (af Tryz.f86)).take 3) ⟨t0 Tryz.f86 [jH t,iw x,kE s,kE k],[]⟩ (iF 0 [0,1,2,7,8,9,49,50,51] [0,1] 2)=
    aS [dG .i64 (s.length:Nat),decide (t.size<9223372036854775808)] (bif !xZ t.size x (s.length:Nat) then .done .ret (aez t x s k 2) else aS [dG .i64 (k.length:Nat),dG .i64 (s.length:Nat)]
     (bif !decide (((k.length:Nat):Int)=(s.length:Nat)) then .done .ret (aez t x s k 2) else bif !dK s then .done .ret (aez t x s k 50) else bif !dK k then .done .ret (aez t x s k 50) else bif !qG x then .done .ret (aez t x s k 51) else aS [dG .i64 (x.length:Nat)] (.done .normal (PZ t x s k 0 0)))):=by kernel_rfl
   rw [ai (aF hls (aU (by rw [decide_eq_true_iff]; exact hts))),ai (aF hlk (aU hls)),ai (aU hlx)] at hA
   have hL: ∀ i:Int,bG l9 100 (items (aY (af Tryz.f86) 3)) (PZ t x s k 0 i) (iF 0 [0,1,2,7,8,9,49,50,51] [0,1] 2)=
    bif decide (i<(x.length:Nat)) then aS [decide (0≤i),decide (i<(x.length:Nat)),gX (s.length:Nat) (cz (x.getD i.toNat [])),decide ((cz (x.getD i.toNat [])).length<1099511627776)]
     (bif !dS [decide (oD s (cz (x.getD i.toNat []))=iR (x.getD i.toNat []))] then .done .ret (PZ t x s k 110 i) else aS [dG .i64 (i+1)] (.done .normal (PZ t x s k 0 (i+1))))
    else .done (.exit 1) (PZ t x s k 0 i):=by intro i; kernel_rfl

   have hz:Bn t x s k=0:=of_decide_eq_true (ht (decide (Bn t x s k=0)) (by simp))
   obtain ⟨h1,h2,h3,h4,h5,h6⟩:=LM hz
   have h2':decide (((k.length:Nat):Int)=(s.length:Nat))=true:=decide_eq_true (by omega)
   rw [h1,h2',h3,h4,h5] at hA
   obtain ⟨g1,g2,g3,g4,g5,g6⟩:=F5 h1
   have hcall:mK Tryz.prog 0 125 [jH t,iw x,aN (s.length:Nat),ma] (hP k) (cB (kS t x s k)) (hP k++ [some ⟨28, .ps [.pk .u8 8 32 (kS t x s k)]⟩]):=
    aa3 t x k (s.length:Nat) (by rw [h2]; exact h1) (by omega) hxr.2
   have hsl:s.length≤32:=by omega
   generalize kS t x s k=C at*
   have hD:bG (bJ true false iK abM [(125,[jH t,iw x,aN (s.length:Nat),ma],hP k,cB C,hP k++ [some ⟨28, .ps [.pk .u8 8 32 C]⟩])]) 100 (((items (af Tryz.f86)).drop 4).take 2) (PZ t x s k 0 (x.length:Nat)) (xO 0 [7,8,9,12,70,71,72] [0,1,3] 4 [(3,2)] 3)=
    aS [dG .i64 (s.length:Nat),eqS [jH t,iw x,aN (s.length:Nat),ma] (hP k) [jH t,iw x,aN (s.length:Nat),ma] (hP k),dG .i64 (s.length:Nat)] (.done .normal (Gx s k C .fG [] 0)):=by kernel_rfl
   rw [ai (aF hls (aF (Ew _ _) (aU hls)))] at hD
   have hM0: ∀ i:Int,bG l9 100 (items (aY (af Tryz.f86) 6)) (Gx s k C .fG [] i) (wM 0 [7,8,9,12,70,71,72] [0,1,2,9] 10 [(9,3)] 4 [7,8,9,12,70,71,72] [0,1,2] 3)=
    bif decide (i<(s.length:Nat)) then aS [decide (0≤i),decide (i<(s.length:Nat)),decide (0≤i),decide (i<(k.length:Nat)),dG .i64 (i+1)] (.done .normal (Gx s k C (.row 3 32 0 1 1) (rowP [[.n (LV C (kX s i.toNat) (kX k i.toNat))]]) (i+1)))
    else .done (.exit 3) (Gx s k C .fG [] i):=by intro i; kernel_rfl
   have hM1: ∀ (i:Int) (y:List (List D)) (n:Nat),bG l9 100 (items (aY (af Tryz.f86) 6)) (Gx s k C (.row 3 32 0 n n) (rowP y) i) (wM 0 [7,8,9,12,70,71,72] [0,1,2,10] 11 [(10,3)] 4 [7,8,9,12,70,71,72] [0,1,2,3] 4)=
    bif decide (i<(s.length:Nat)) then aS [decide (0≤i),decide (i<(s.length:Nat)),decide (0≤i),decide (i<(k.length:Nat)),decide (n≤y.length),decide (n≤n),decide ((n+1)*32≤140737488355328),decide (n+1<4611686018427387904),dG .i64 (i+1)] (.done .normal (Gx s k C (.row 3 32 0 (n+1) (n+1)) (rowP (y.take n++ [[.n (LV C (kX s i.toNat) (kX k i.toNat))]])) (i+1)))
    else .done (.exit 3) (Gx s k C (.row 3 32 0 n n) (rowP y) i):=by intro i y n; kernel_rfl
   have hE1: ∀ (i:Int) (y:List (List D)) (n:Nat),bG l9 100 ((items (af Tryz.f86)).drop 7) (Gx s k C (.row 3 32 0 n n) (rowP y) i) (jv l9 Tryz.f86 base)= .done .ret ⟨[ama base C n],[some ⟨28, .row [.pk .u8 8 32] y⟩]⟩:=by intro i y n; kernel_rfl
   refine bM.items _ _ _ (ae.fw om (k:=3) hA ?_)

   refine ae.loop (id:=1) (by kernel_rfl) (fun m s'=> ∃ j:Nat,s'=PZ t x s k 0 (j:Int)∧j+m=x.length∧H6 s x=H6 s (x.drop j)) x.length ⟨0,rfl,Nat.zero_add _,rfl⟩ ?_
   rintro m s' ⟨j,rfl,hj,hg⟩
   have h1:=hL (j:Int)
   rw [Int.toNat_natCast] at h1
   cases m with
   | zero=>
     have hj:j=x.length:=hj
     rw [hj,dL,cond_false] at h1
     rw [hj,List.drop_length] at hg
     rw [hj]
     refine ae.di om h1 ?_
     show ae l9 0 ((items (af Tryz.f86)).drop 4) (PZ t x s k 0 (x.length:Nat)) _
     refine ae.flags (cx:=bJ true false iK abM [(125,[jH t,iw x,aN (s.length:Nat),ma],hP k,cB C,hP k++ [some ⟨28, .ps [.pk .u8 8 32 C]⟩])]) (cx':=bJ true false iK [] []) rfl rfl ?_
     refine ae.O1 (dM (sy:=true) (rw:=false) Al ajw (dO.cons hcall dO.nil)) rfl (k:=2) hD ?_
     show ae (bJ true false iK abM [(125,[jH t,iw x,aN (s.length:Nat),ma],hP k,cB C,hP k++ [some ⟨28, .ps [.pk .u8 8 32 C]⟩])]) 0 ((items (af Tryz.f86)).drop 6) (Gx s k C .fG [] 0) _
     refine ae.flags (cx:=bJ true false iK [] []) (cx':=bJ true false iK abM [(125,[jH t,iw x,aN (s.length:Nat),ma],hP k,cB C,hP k++ [some ⟨28, .ps [.pk .u8 8 32 C]⟩])]) rfl rfl ?_
     refine ae.loop (id:=3) (by kernel_rfl) (fun m s'=> ∃ j:Nat,j+m=s.length∧((j=0∧s'=Gx s k C .fG [] 0)∨(1≤j∧s'=Gx s k C (.row 3 32 0 j j) (rowP (jY C s k j)) (j:Int)))) s.length ⟨0,Nat.zero_add _, .inl ⟨rfl,rfl⟩⟩ ?_
     rintro m s' ⟨j,hj,hs⟩
     cases m with
     | zero=>
       have hj:j=s.length:=hj
       rcases hs with ⟨h0,_⟩ | ⟨_,rfl⟩
       · omega
       · have h7:=hM1 (j:Int) (jY C s k j) j
         rw [hj,dL,cond_false] at h7
         rw [hj]
         refine ae.dS om rfl h7 ?_
         exact bZ om (n:=100) (bs0:= [⟨28, .row [.pk .u8 8 32] (jY C s k s.length)⟩]) (hE1 _ _ _) (aL.refl _) ⟨rfl,kF.refl _,fun ts h=> ⟨ts,h⟩⟩
     | succ m=>
       have hjl:j<s.length:=by omega
       have hjk:j<k.length:=by omega
       have d3:dG .i64 ((j:Int)+1)=true:=kQ (by omega) (by omega)
       rcases hs with ⟨h0,rfl⟩ | ⟨hj1,rfl⟩
       · have h7:=hM0 (j:Int)
         rw [Int.toNat_natCast,dec_lt hjl,dec_lt hjk,jU,d3] at h7
         subst h0
         exact ae.dS om rfl h7 ⟨m,Nat.lt_succ_self m,1,by omega, .inr ⟨Nat.le_refl _,rfl⟩⟩
       · have h7:=hM1 (j:Int) (jY C s k j) j
         have hl:=zQ C s k j
         rw [Int.toNat_natCast,dec_lt hjl,dec_lt hjk,jU,d3,cond_true,ai,List.take_of_length_le (by omega),← ZP] at h7
         · exact ae.dS om rfl h7 ⟨m,Nat.lt_succ_self m,j+1,by omega, .inr ⟨by omega,rfl⟩⟩
         · refine aF rfl (aF rfl (aF rfl (aF rfl (aF ?_ (aF ?_ (aF ?_ (aF ?_ (aU rfl))))))))<;> (rw [decide_eq_true_iff]; omega)
   | succ m=>
     have hjl:j<x.length:=by omega
     obtain ⟨p1,p2⟩:=nI g6 hjl
     rw [dec_lt hjl,cond_true,ai (aF (jU j) (aF rfl (aF p2 (aU (by rw [decide_eq_true_iff]; omega))))),ai (aU (kQ (by omega) (by omega)))] at h1
     rw [drop_cons hjl,H6] at hg
     cases hb:decide (oD s (cz (x.getD j []))=iR (x.getD j [])) with
     | false=>
       rw [hb] at h1 hg
       exfalso
       rw [h6] at hg
       cases hg
     | true=>
       rw [hb] at h1 hg
       exact ae.di om h1 ⟨m,Nat.lt_succ_self m,j+1,rfl,by omega,hg⟩
 · cases hF
end Go.Proofs.YtcgmcohkkigphaaGreat
