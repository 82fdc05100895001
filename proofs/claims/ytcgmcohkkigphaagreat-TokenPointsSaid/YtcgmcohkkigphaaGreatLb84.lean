/-
  Challenges of relations: calls in the midst of a proof.
-/
import Derived.Test.YtcgmcohkkigphaaGreatL15
set_option maxRecDepth 100000
namespace Go.Proofs.YtcgmcohkkigphaaGreat
open Go Vx Go.RowKit

noncomputable def Kq (p:SC) (l:ByteArray) (n:Int) (y:List (List D)) (c:List Bool):List Bool:=ckA p [[.i 1]]++(ckF (Iw p [[.i 1]]) (l.size:Nat) (ofStr l)++(dG .i64 n::(ckA (Y3 (Iw p [[.i 1]]) (l.size:Nat) (ofStr l)) (b4I n)++(c++ckA (Iw (Y3 (Iw p [[.i 1]]) (l.size:Nat) (ofStr l)) (b4I n)) y))))
theorem IA {p:SC} {x:List (List D)} (h:MN p x) (l:ByteArray) (y:List (List D)) {n:Int} (hn:n=(y.length:Nat)) (hl:x.length+l.size+y.length<35184372088832) {c:List Bool} (hc:allT c):allT (Kq p l n y c):=by
 have h0:=kH h l y hn hl
 unfold wW ckF at h0
 unfold Kq
 intro b hb
 rcases List.mem_append.1 hb with hb | hb
 · exact h0 b (List.mem_append.2 (.inl hb))
 rcases List.mem_append.1 hb with hb | hb
 · exact h0 b (List.mem_append.2 (.inr (List.mem_append.2 (.inl hb))))
 rcases List.mem_cons.1 hb with hb | hb
 · exact h0 b (List.mem_append.2 (.inr (List.mem_append.2 (.inr (List.mem_cons.2 (.inl hb))))))
 rcases List.mem_append.1 hb with hb | hb
 · exact h0 b (List.mem_append.2 (.inr (List.mem_append.2 (.inr (List.mem_cons.2 (.inr (List.mem_append.2 (.inl hb))))))))
 rcases List.mem_append.1 hb with hb | hb
 · exact hc b hb
 · exact h0 b (List.mem_append.2 (.inr (List.mem_append.2 (.inr (List.mem_cons.2 (.inr (List.mem_append.2 (.inr hb))))))))
def M0 (n:Int):List (List D):= [[.i (ak .u8 (n / ((2^min (24:Int).toNat 64:Nat):Int)))],[.i (ak .u8 (n / ((2^min (16:Int).toNat 64:Nat):Int)))],[.i (ak .u8 (n / ((2^min (8:Int).toNat 64:Nat):Int)))],[.i (ak .u8 n)]]
theorem Rh {n:Nat}:M0 (n:Int)=Q4 n:=by
 have e1:ak .u8 ((n:Int) / ((2^min (24:Int).toNat 64:Nat):Int))=((n / 16777216 % 256:Nat):Int):=by
  rw [show ((2^min (24:Int).toNat 64:Nat):Int)=16777216 from rfl]; simp only [ak]; omega
 have e2:ak .u8 ((n:Int) / ((2^min (16:Int).toNat 64:Nat):Int))=((n / 65536 % 256:Nat):Int):=by
  rw [show ((2^min (16:Int).toNat 64:Nat):Int)=65536 from rfl]; simp only [ak]; omega
 have e3:ak .u8 ((n:Int) / ((2^min (8:Int).toNat 64:Nat):Int))=((n / 256 % 256:Nat):Int):=by
  rw [show ((2^min (8:Int).toNat 64:Nat):Int)=256 from rfl]; simp only [ak]; omega
 have e4:ak .u8 (n:Int)=((n % 256:Nat):Int):=by simp only [ak]; omega
 unfold M0 Q4
 rw [e1,e2,e3,e4]
theorem Wh (p:List D) (h:0≤mD p):M0 (mD p)++qa 32 (Dn p)=Q4 (mD p).toNat++qa 32 (Dn p):=by
 rw [← Rh,Int.toNat_of_nonneg h]
theorem y36 (n b:Nat):(Q4 n++qa 32 b).length=36:=by rw [List.length_append,gu]; rfl
def akp (X:List (List D)) (n:Nat):Hp:= [some ⟨28, .ps nO⟩,some ⟨232, .ps [.row 6 1 0 n n]⟩,some ⟨5, .row [.int .u8] X⟩]
def qM (CV:V) (H:Hp) (x:List (List D)) (i:Int) (X:List (List D)) (n:Nat):St:=⟨jk 3++ [CV]++jk 4++ [.one (.ptr 4 0), .one (.ptr 5 0)]++jk 12++ [iw x,aN (x.length:Nat),aN i]++jk 32,H++akp X n⟩
def qbl (e:List D):Option bQ:=some ⟨116, .ps [.pk .u8 8 32 (iR e), .rd [.int .i64, .pk .u8 8 32] (cz e)]⟩
def BC (CV:V) (H:Hp) (x:List (List D)) (i:Int) (e:List D) (j:Int) (X:List (List D)) (n:Nat):St:=⟨jk 3++ [CV]++jk 4++ [.one (.ptr 4 0), .one (.ptr 5 0), .aC, .one (.ptr 7 0)]++jk 10++ [iw x,aN (x.length:Nat),aN i]++jk 8++ [akK (cz e),aN ((cz e).length:Nat),aN j]++jk 21,H++akp X n++ [qbl e]⟩
def hP (k:List (List D)):Hp:= [some ⟨35, .ps [.rd [.pk .u8 8 32] k]⟩,some ⟨41, .ps (nO++ [.fG])⟩,none,none]
def ma:V:= .one (.CV 126 [(0,0)])
theorem nI {n:Int}: ∀ {x:List (List D)},nW n x=true→ ∀ {j:Nat},j<x.length→(cz (x.getD j [])).length≤16∧gX n (cz (x.getD j []))=true
 | [],_,j,h=> absurd h (Nat.not_lt_zero j)
 | e::x,h,j,hj=> by
   obtain ⟨h1,h2,h3⟩:=NQ h
   cases j with
   | zero=> exact ⟨h1,h2⟩
   | succ j=> exact nI (x:=x) h3 (Nat.lt_of_succ_lt_succ hj)

noncomputable abbrev aeJ:List (FuncId × aj):= [(183,Gf),(124,Gg)]
theorem aeS:aD Tryz.prog (aK aeJ):=(.cons FB (.cons FC .nil))
noncomputable abbrev ahQ:List (FuncId × Func):= [(180,Tryz.f180),(181,Tryz.f181),(208,Tryz.f208),(209,Tryz.f209),(182,Tryz.f182),(126,Tryz.f126)]
theorem af6:bf Tryz.prog (gY ahQ):=(bf.cons Tryz.func180 (by kernel_rfl) (bf.cons Tryz.func181 (by kernel_rfl) (bf.cons Tryz.func208 (by kernel_rfl) (bf.cons Tryz.func209 (by kernel_rfl) (bf.cons Tryz.func182 (by kernel_rfl) (bf.cons Tryz.func126 (by kernel_rfl) bf.nil))))))
noncomputable abbrev G8:Cx:=bJ true false aeJ ahQ []
theorem Ls:Ok G8:=dM (sy:=true) (rw:=false) aeS af6 dO.nil
theorem aa3 (t:ByteArray) (x:List (List D)) (k:List (List D)) (n:Int) (hr:xZ t.size x ((k.length:Nat))=true) (hn:0≤n∧n≤1000) (hrng: ∀ (i:Nat) (e:List D),x[i]? =some e→jh [.pk .u8 8 32, .sl [.int .i64, .pk .u8 8 32]] e)  :
 mK Tryz.prog 0 125 [jH t,iw x,aN n,ma] (hP k) (cB (CL t x n.toNat fun j=> (fun e=> (oD k (cz e))) (x.getD j [])))
  ((hP k)++ [some ⟨28, .ps [.pk .u8 8 32 (CL t x n.toNat fun j=> (fun e=> (oD k (cz e))) (x.getD j []))]⟩]):=by
 refine mK.Lu (cx:=G8) (fn:=Tryz.f125) (c:=(af Tryz.f125)) Tryz.func125 (by kernel_rfl) (by kernel_rfl) ?_
 show bM G8 4 (af Tryz.f125) ⟨t0 Tryz.f125 [jH t,iw x,aN n,ma],(hP k)⟩ _
 have h0:bG G8 100 ((items (af Tryz.f125)).take 3) ⟨t0 Tryz.f125 [jH t,iw x,aN n,ma],(hP k)⟩ (xO 4 [3,8,9,22,23,24] [0,1,4,11,35] 36 [(11,5),(35,6)] 7)=
  aS (aa9 gy++(decide (t.size≤maxLen)::(Kq (H8 gy) lS (t.size:Nat) (((ofStr t).drop 0).take t.size) [decide (0+t.size≤(ofStr t).length)]++
   (wW (nP (H8 gy) lS (t.size:Nat) (((ofStr t).drop 0).take t.size)) kW 4 (M0 n)++ [dG .i64 (x.length:Nat)]))))
   (.done .normal (qM (ma) (hP k) x 0 (nP (nP (H8 gy) lS (t.size:Nat) (((ofStr t).drop 0).take t.size)) kW 4 (M0 n)).1 (nP (nP (H8 gy) lS (t.size:Nat) (((ofStr t).drop 0).take t.size)) kW 4 (M0 n)).2)):=by kernel_rfl
 have hhd: ∀ (i:Int) (X:List (List D)) (n:Nat),bG G8 100 ((items (aY (af Tryz.f125) 3)).take 2) (qM (ma) (hP k) x i X n) (iF 4 [3,8,9,22,23,24] [0,1,4,5,6] 7)=bif decide (i<(x.length:Nat)) then .done .normal (qM (ma) (hP k) x i X n) else .done (.exit 0) (qM (ma) (hP k) x i X n):=by intro i X n; kernel_rfl
 have hbk: ∀ (i:Int) (X:List (List D)) (n:Nat),bG G8 100 ((items (gP (aY (af Tryz.f125) 3) 2)).take 3) (qM (ma) (hP k) x i X n) (xO 4 [3,8,9,11,22,23,24,33,34,35] [0,1,4,5,7,18] 19 [(18,6)] 8)=
  aS ([decide (0≤i),decide (i<(x.length:Nat))]++(wW (X,n) qJ 32 (qa 32 (iR (x.getD i.toNat [])))++ [dG .i64 ((cz (x.getD i.toNat [])).length:Nat)]))
   (.done .normal (BC (ma) (hP k) x i (x.getD i.toNat []) 0 (nP (X,n) qJ 32 (qa 32 (iR (x.getD i.toNat [])))).1 (nP (X,n) qJ 32 (qa 32 (iR (x.getD i.toNat [])))).2)):=by intro i X n; kernel_rfl
 have hin: ∀ (i:Int) (e:List D) (q:Int) (X:List (List D)) (n:Nat),bG G8 100 (items (aY (gP (aY (af Tryz.f125) 3) 2) 3)) (BC (ma) (hP k) x i e q X n) (wM 4 [3,8,9,11,22,23,24,33,34,35] [0,1,4,5,7,22] 23 [(22,6)] 8 [3,8,9,11,22,23,24,33,34,35] [0,1,4,5,6,7] 8)=
  bif decide (q<((cz e).length:Nat)) then aS ([decide (0≤q),decide (q<((cz e).length:Nat))]++(wW (X,n) Ab 36 (M0 (mD ((cz e).getD q.toNat []))++qa 32 (Dn ((cz e).getD q.toNat [])))++ [dG .i64 (q+1)]))
   (.done .normal (BC (ma) (hP k) x i e (q+1) (nP (X,n) Ab 36 (M0 (mD ((cz e).getD q.toNat []))++qa 32 (Dn ((cz e).getD q.toNat [])))).1 (nP (X,n) Ab 36 (M0 (mD ((cz e).getD q.toNat []))++qa 32 (Dn ((cz e).getD q.toNat [])))).2))
  else .done (.exit 2) (BC (ma) (hP k) x i e q X n):=by intro i e q X n; kernel_rfl
 have htl: ∀ (i:Int) (X:List (List D)) (n:Nat),bG G8 100 ((items (aY (af Tryz.f125) 3)).drop 3) (qM (ma) (hP k) x i X n) (iF 4 [3,8,9,22,23,24] [0,1,4,5,6] 7)=aS [dG .i64 (i+1)] (.done .normal (qM (ma) (hP k) x (i+1) X n)):=by intro i X n; kernel_rfl
 have hend: ∀ (i:Int) (X:List (List D)) (n:Nat),bG G8 100 ((items (af Tryz.f125)).drop 4) (qM (ma) (hP k) x i X n) (iF 4 [8] [0,1,4] 5)=aS [decide (0+n≤X.length),decide (((X.drop 0).take n).length+lN.size<549755813888)]
  (.done .ret ⟨jk 8++ [.one (.ptr 4 0)]++jk 48,(hP k)++ [some ⟨28, .ps [.pk .u8 8 32 (aW (nG (aaT ((X.drop 0).take n) 2 (ofStr lN))))]⟩]⟩):=by intro i X n; kernel_rfl
 obtain ⟨g1,g2,g3,g4,g5,g6⟩:=F5 hr
 have hlx:=ll (show x.length<9223372036854775808 by omega)
 have hos:=ib t
 have hY:((ofStr t).drop 0).take t.size=ofStr t:=by rw [List.drop_zero,← hos,List.take_length]
 have hnn:M0 n=Q4 n.toNat:=by rw [← Rh,Int.toNat_of_nonneg hn.1]
 rw [hY,hnn] at h0
 have o1:=VO gy
 have o2:=lV o1 lS (ofStr t) (n:=(t.size:Nat)) (by rw [hos])
 have o3:MN _ (CO t n.toNat):=lV o2 kW (Q4 n.toNat) (n:=4) rfl
 have l1:(Lm gy).length=10:=Om _
 have l2:(qd (Lm gy) lS (ofStr t)).length=24+t.size:=by rw [jI,l1,hos]; show 10+1+(4+5)+(4+t.size)=_; omega
 have l3:(CO t n.toNat).length=44+t.size:=by
  unfold CO
  rw [jI,l2]
  show 24+t.size+1+(4+7)+(4+4)=_
  omega
 have hml:(1000:Nat)≤maxLen:=by decide
 rw [ai,o3.1,o3.2] at h0
 rotate_left 1
 · refine dJ (Ng _ (by decide)) (aF (by rw [decide_eq_true_iff]; omega) (dJ (IA o1 _ _ (by rw [hos]) (by rw [l1,hos]; show 10+5+t.size<_; omega) (aU (by rw [decide_eq_true_iff]; omega))) (dJ (kH o2 _ _ rfl (by rw [l2]; show 24+t.size+7+4<_; omega)) (aU hlx))))
 refine bM.items _ _ _ (ae.O1 Ls rfl (k:=3) h0 ?_)
 refine ae.loop (id:=0) (by kernel_rfl) (fun mz sz=> ∃ (j:Nat) (X:List (List D)),sz=qM (ma) (hP k) x (j:Int) X X.length∧j+mz=x.length∧X.length≤2000+1000*j∧zW (fun j=> (fun e=> (oD k (cz e))) (x.getD j [])) (CO t n.toNat) 0 x=zW (fun j=> (fun e=> (oD k (cz e))) (x.getD j [])) X j (x.drop j)) x.length
  ⟨0,CO t n.toNat,rfl,Nat.zero_add _,by omega,rfl⟩ ?_
 rintro mz sz ⟨j,X,rfl,hj,hX,hg⟩
 have h1:=hhd (j:Int) X X.length
 cases mz with
 | zero=>
   have hj:j=x.length:=hj
   rw [hj,dL,cond_false] at h1
   rw [hj,List.drop_length,zW] at hg
   rw [hj]
   refine ae.fw Ls (k:=2) h1 ?_
   have h2:=hend ((x.length:Nat):Int) X X.length
   rw [List.drop_zero,List.take_length,ai] at h2
   · rw [zV,hg]
     exact ae.di Ls h2 ⟨.inr rfl,by kernel_rfl,rfl⟩
   · refine aF (by rw [decide_eq_true_iff]; omega) (aU ?_)
     rw [decide_eq_true_iff]
     show X.length+9<_
     omega
 | succ mz=>
   have hjl:j<x.length:=by omega
   rw [dec_lt hjl,cond_true] at h1
   have hlp:=ll (CZ hrng j)
   obtain ⟨p1,p2⟩:=nI g6 hjl
   refine ae.fw Ls (k:=2) h1 (ae.gP (id:=1) (by kernel_rfl) ?_)
   have h2:=hbk (j:Int) X X.length
   rw [Int.toNat_natCast] at h2
   rw [drop_cons hjl,zW] at hg
   generalize he:x.getD j []=e at*
   have oX:MN (X,X.length) X:=⟨rfl,rfl⟩
   have oL:=lV oX qJ (qa 32 (iR e)) (n:=32) (by rw [gu]; rfl)
   rw [ai,oL.1,oL.2] at h2
   rotate_left 1
   · exact dJ (aF (jU j) (aU (dec_lt hjl))) (dJ (kH oX _ _ (by rw [gu]; rfl) (by rw [gu]; show X.length+4+32<_; omega)) (aU hlp))
   have lL:(qd X qJ (qa 32 (iR e))).length=X.length+45:=by rw [jI,gu]; show X.length+1+(4+4)+(4+32)=_; omega
   refine ae.O1 Ls rfl (k:=3) h2 ?_
   refine ae.loop (id:=2) (by kernel_rfl) (fun my sz=> ∃ (q:Nat) (Z:List (List D)),sz=BC (ma) (hP k) x (j:Int) e (q:Int) Z Z.length∧q+my=(cz e).length∧Z.length≤X.length+45+49*q∧pQ (qd X qJ (qa 32 (iR e))) (cz e)=pQ Z ((cz e).drop q)) (cz e).length
    ⟨0,_,rfl,Nat.zero_add _,by omega,rfl⟩ ?_
   rintro my sz ⟨q,Z,rfl,hq,hZ,hg2⟩
   have oZ:MN (Z,Z.length) Z:=⟨rfl,rfl⟩
   have h3:=hin (j:Int) e (q:Int) Z Z.length
   cases my with
   | zero=>
     have hq:q=(cz e).length:=hq
     rw [hq,dL,cond_false] at h3
     rw [hq,List.drop_length,pQ] at hg2
     rw [hq]
     refine ae.dS Ls rfl h3 ?_
     have hfin: ∀ (i:Int) (q:Int) (X:List (List D)) (n:Nat),bG G8 100 ((items (gP (aY (af Tryz.f125) 3) 2)).drop 4) (BC (ma) (hP k) x i e q X n) (xO 4 [3,8,9,22,23,24] [0,1,4,5,23] 24 [(23,6)] 7)=
      aS ([gX (k.length:Nat) (cz e),decide ((cz e).length<1099511627776)]++wW (X,n) iI 32 (qa 32 (oD k (cz e)))) (.done .normal (qM (ma) (hP k) x i (nP (X,n) iI 32 (qa 32 (oD k (cz e)))).1 (nP (X,n) iI 32 (qa 32 (oD k (cz e)))).2)):=by intro i q X n; kernel_rfl
     have h4:=hfin (j:Int) ((cz e).length:Nat) Z Z.length
     have oF:=lV oZ iI (qa 32 (oD k (cz e))) (n:=32) (by rw [gu]; rfl)
     rw [ai,oF.1,oF.2] at h4
     rotate_left 1
     · exact dJ (aF p2 (aU (by rw [decide_eq_true_iff]; omega))) (kH oZ _ _ (by rw [gu]; rfl) (by rw [gu]; show Z.length+6+32<_; omega))
     have lF:(qd Z iI (qa 32 (oD k (cz e)))).length=Z.length+47:=by rw [jI,gu]; show Z.length+1+(4+6)+(4+32)=_; omega
     refine ae.ak7 Ls rfl h4 ?_
     have h5:=htl (j:Int) (qd Z iI (qa 32 (oD k (cz e)))) (qd Z iI (qa 32 (oD k (cz e)))).length
     rw [ai (aU (kQ (by omega) (by omega)))] at h5
     refine ae.di Ls h5 ⟨mz,Nat.lt_succ_self mz,j+1,_,rfl,by omega,by rw [lF]; omega,?_⟩
     rw [hg]
     unfold eqX
     rw [hg2]
   | succ my=>
     have hql:q<(cz e).length:=by omega
     obtain ⟨q1,q2⟩:=qw p2 hql
     rw [dec_lt hql,cond_true,Int.toNat_natCast,Wh _ q1] at h3
     have oP:=lV oZ Ab (Q4 (mD ((cz e).getD q [])).toNat++qa 32 (Dn ((cz e).getD q []))) (n:=36) (by rw [y36]; rfl)
     rw [ai,oP.1,oP.2] at h3
     rotate_left 1
     · exact dJ (aF (jU q) (aU rfl)) (dJ (kH oZ _ _ (by rw [y36]; rfl) (by rw [y36]; show Z.length+4+36<_; omega)) (aU (kQ (by omega) (by omega))))
     refine ae.dS Ls rfl h3 ⟨my,Nat.lt_succ_self my,q+1,_,rfl,by omega,?_,?_⟩
     · rw [jI,y36]
       show Z.length+1+(4+4)+(4+36)≤_
       omega
     · rw [hg2,drop_cons hql,pQ]
       rfl
end Go.Proofs.YtcgmcohkkigphaaGreat
