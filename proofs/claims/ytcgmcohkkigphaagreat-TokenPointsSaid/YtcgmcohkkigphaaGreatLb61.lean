/-
  The contract of sha.rest: what stands in a text's last blocks.
-/
import Derived.Test.YtcgmcohkkigphaaGreatLb60
import Derived.Test.YtcgmcohkkigphaaGreatX4
set_option maxRecDepth 100000
namespace Go.Proofs.YtcgmcohkkigphaaGreat
open Go Vx Go.RowKit

def Zk (n:Int) (i:Int):Int:=ak .u8 (ak .u64 (8*ak .u64 n) / ((2^min (8*i).toNat 64:Nat):Int))
def fQ (bl sz l:Nat):Nat:=(bl - 1 - (l+sz) % bl) % bl
def xm (n:Int) (k:Nat):List (List D):=(List.range k).map fun (i:Nat)=> [.i (Zk n (7 - (i:Int)))]
def bL (bl sz:Nat) (x:List (List D)) (n:Int):List (List D):=x++ [[.i 128]]++List.replicate (fQ bl sz x.length) [.i 0]++List.replicate (sz - 8) [.i 0]++xm n 8
theorem E8 (n:Int) (k:Nat):xm n (k+1)=xm n k++ [[.i (Zk n (7 - (k:Int)))]]:=by
 unfold xm
 rw [List.range_succ,List.map_append]
 rfl
theorem AZ (n:Int) (k:Nat):(xm n k).length=k:=by simp [xm]
theorem ES (bl sz:Nat) (x:List (List D)) (n:Int):(bL bl sz x n).length=x.length+1+fQ bl sz x.length+(sz - 8)+8:=by
 unfold bL
 simp only [List.length_append,List.length_replicate,AZ,List.length_cons,List.length_nil,Nat.zero_add]
abbrev aiQ (k:Nat):V:= .one (.row 0 1 0 k k)

def eZ (n:Int) (y:List (List D)) (k:Nat) (a c b:V):St:=⟨[.aC,aN n,aN 128,aN 16]++List.replicate 5 .aC++ [aiQ k,a]++List.replicate 20 .aC++ [c,b]++List.replicate 20 .aC,[some ⟨5, .row [.int .u8] y⟩]⟩
theorem ET {x:List (List D)} {n:Int} (hx:x.length<1099511627776) (base:Nat):bM (bJ true false [] [] []) 0 (af Tryz.f224) ⟨t0 Tryz.f224 [Yg x,aN n,aN 128,aN 16],[]⟩
 (Post (bJ true false [] [] []) Tryz.f224 base (.one (.row base 1 0 (bL 128 16 x n).length (bL 128 16 x n).length)) [⟨5, .row [.int .u8] (bL 128 16 x n)⟩]):=by
 have hok:Ok (bJ true false [] [] []):=dM aD.nil bf.nil dO.nil
 have h0:bG (bJ true false [] [] []) 100 ((items (af Tryz.f224)).take 3) ⟨t0 Tryz.f224 [Yg x,aN n,aN 128,aN 16],[]⟩ (xO 0 [1,2,3,9] [3] 4 [(3,0)] 1)=
  aS [dG .i64 256,decide ((0+x.length)*1≤140737488355328),decide (0+x.length<4611686018427387904),decide (0+x.length≤x.length),decide (0+x.length≤0+x.length),decide ((0+x.length+1)*1≤140737488355328),decide (0+x.length+1<4611686018427387904)]
  (.done .normal (eZ n (x.take (0+x.length)++ [[.i 128]]) (0+x.length+1) .aC .aC .aC)):=by kernel_rfl
 rw [Nat.zero_add,List.take_length,ai] at h0
 rotate_left 1
 · repeat' (first | exact iL | refine aF ?_ ?_)
   all_goals first | (rw [decide_eq_true_iff]; omega) | exact kQ (by omega) (by omega)
 refine bM.items _ _ _ (ae.O1 hok rfl (k:=3) h0 ?_)
 have hzb:fQ 128 16 x.length<128:=Nat.mod_lt _ (by decide)
 have hzu:=hzb
 refine ae.loop (id:=0) (by kernel_rfl) (fun m s=> ∃ j y,s=eZ n y (x.length+1+j) .aC .aC .aC∧y=x++ [[.i 128]]++List.replicate j [.i 0]∧j+m=fQ 128 16 x.length) (fQ 128 16 x.length) ⟨0,_,rfl,by simp,Nat.zero_add _⟩ ?_
 rintro m s ⟨j,y,rfl,hy,hm⟩
 have hyl:y.length=x.length+1+j:=by rw [hy]; simp; omega
 have hevG: ∀ k:Nat,bG (bJ true false [] [] []) 100 (items (aY (af Tryz.f224) 3)) (eZ n y k .aC .aC .aC) (wM 0 [1,2,3,9] [2] 3 [(2,0)] 1 [1,2,3,9] [0] 1)=
  aS [dG .i64 (k:Nat),dG .i64 112] (bif !decide (((k:Nat):Int).tmod 128=112) then
   aS [decide (k≤y.length),decide (k≤k),decide ((k+1)*1≤140737488355328),decide (k+1<4611686018427387904)] (.done .normal (eZ n (y.take k++ [[.i 0]]) (k+1) .aC .aC .aC))
  else .done (.exit 0) (eZ n y k .aC .aC .aC)):=by intro k; kernel_rfl
 have hev:=hevG (x.length+1+j)
 rw [ai (aF (kQ (by omega) (by omega)) (aU (kQ (by omega) (by omega))))] at hev
 have hmod:((x.length+1+j:Nat):Int).tmod 128=((x.length+1+j) % 128:Nat):=by rw [Int.tmod_eq_emod_of_nonneg (by omega)]; omega
 rw [hmod] at hev
 unfold fQ at hm hzu
 cases m with
 | succ m=>
   have hc:decide ((((x.length+1+j) % 128:Nat):Int)=112)=false:=by rw [decide_eq_false_iff_not]; omega
   rw [hc,Bool.not_false,cond_true,ai] at hev
   rotate_left 1
   · repeat' (first | exact iL | refine aF ?_ ?_)
     all_goals (rw [decide_eq_true_iff]; omega)
   refine ae.dS hok rfl hev ⟨m,Nat.lt_succ_self m,j+1,_,rfl,?_,by unfold fQ; omega⟩
   rw [← hyl,List.take_length,hy,List.append_assoc,← List.replicate_succ']
 | zero=>
   have hc:decide ((((x.length+1+j) % 128:Nat):Int)=112)=true:=by rw [decide_eq_true_iff]; omega
   rw [hc,Bool.not_true,cond_false] at hev
   refine ae.dS hok rfl hev ?_
   have hj:j=fQ 128 16 x.length:=by unfold fQ; omega
   clear hev hevG hmod hc hm
   -- the zeros of the upper half of the length
   have h2G: ∀ k:Nat,bG (bJ true false [] [] []) 100 (((items (af Tryz.f224)).drop (3+1)).take 1) (eZ n y k .aC .aC .aC) (iF 0 [1,2,3,9,31,32] [0] 1)=aS [dG .i64 8] (.done .normal (eZ n y k .aC (aN 8) (aN 0))):=by intro k; kernel_rfl
   have h2:=h2G (x.length+1+j)
   rw [ai (aU (kQ (by omega) (by omega)))] at h2
   refine ae.fw hok (k:=1) h2 ?_
   clear h2 h2G
   refine ae.loop (id:=2) (by kernel_rfl) (fun m s=> ∃ (i:Nat) (z:List (List D)),s=eZ n z (x.length+1+j+i) .aC (aN 8) (aN (i:Int))∧z=y++List.replicate i [.i 0]∧i+m=8) 8 ⟨0,y,rfl,by simp,rfl⟩ ?_
   rintro m s ⟨i,z,rfl,hz,hm⟩
   have hzl:z.length=x.length+1+j+i:=by rw [hz]; simp [hyl]
   have hevG: ∀ (k:Nat) (i:Int),bG (bJ true false [] [] []) 100 (items (aY (af Tryz.f224) 5)) (eZ n z k .aC (aN 8) (aN i)) (wM 0 [1,2,3,9,31,32] [2] 3 [(2,0)] 1 [1,2,3,9] [0] 1)=
    bif decide (i<8) then
     aS [decide (k≤z.length),decide (k≤k),decide ((k+1)*1≤140737488355328),decide (k+1<4611686018427387904),dG .i64 (i+1)] (.done .normal (eZ n (z.take k++ [[.i 0]]) (k+1) .aC (aN 8) (aN (i+1))))
    else .done (.exit 2) (eZ n z k .aC .aC .aC):=by intro k i; kernel_rfl
   have hev:=hevG (x.length+1+j+i) (i:Int)
   cases m with
   | succ m=>
     rw [decide_eq_true (show ((i:Nat):Int)<8 by omega),cond_true,ai] at hev
     rotate_left 1
     · repeat' (first | exact iL | refine aF ?_ ?_)
       all_goals first | (rw [decide_eq_true_iff]; omega) | exact kQ (by omega) (by omega)
     refine ae.dS hok rfl hev ⟨m,Nat.lt_succ_self m,i+1,_,rfl,?_,by omega⟩
     rw [← hzl,List.take_length,hz,List.append_assoc,← List.replicate_succ']
   | zero=>
     have hi:i=8:=hm
     rw [decide_eq_false (show ¬ ((i:Nat):Int)<8 by omega),cond_false] at hev
     refine ae.dS hok rfl hev ?_
     clear hev hevG hm
     -- the length
     have h3G: ∀ k:Nat,bG (bJ true false [] [] []) 100 (((items (af Tryz.f224)).drop (5+1)).take 1) (eZ n z k .aC .aC .aC) (iF 0 [1,2,3,9,10] [0] 1)= .done .normal (eZ n z k (aN 7) .aC .aC):=by intro k; kernel_rfl
     refine ae.fw hok (k:=1) (h3G _) ?_
     refine ae.loop (id:=4) (by kernel_rfl) (fun m s=> ∃ (i':Nat) (u:List (List D)),s=eZ n u (x.length+1+j+i+i') (aN (7 - (i':Int))) .aC .aC∧u=z++xm n i'∧i'+m=8) 8 ⟨0,z,rfl,by simp [xm],rfl⟩ ?_
     rintro m s ⟨i',u,rfl,hu,hm⟩
     have hul:u.length=x.length+1+j+i+i':=by rw [hu,List.length_append,AZ,hzl]
     have hevG: ∀ (k:Nat) (i:Int),bG (bJ true false [] [] []) 100 (items (aY (af Tryz.f224) 7)) (eZ n u k (aN i) .aC .aC) (wM 0 [1,2,3,9,10] [2] 3 [(2,0)] 1 [1,2,3,9] [0] 1)=
      bif decide (0≤i) then
       aS [dG .i64 (8*i),decide (0≤8*i),decide (k≤u.length),decide (k≤k),decide ((k+1)*1≤140737488355328),decide (k+1<4611686018427387904),dG .i64 (i - 1)] (.done .normal (eZ n (u.take k++ [[.i (Zk n i)]]) (k+1) (aN (i - 1)) .aC .aC))
      else .done (.exit 4) (eZ n u k .aC .aC .aC):=by intro k i; kernel_rfl
     have hev:=hevG (x.length+1+j+i+i') (7 - (i':Int))
     cases m with
     | succ m=>
       rw [decide_eq_true (show (0:Int)≤7 - (i':Int) by omega),cond_true,ai] at hev
       rotate_left 1
       · repeat' (first | exact iL | refine aF ?_ ?_)
         all_goals first | (rw [decide_eq_true_iff]; omega) | exact kQ (by omega) (by omega)
       refine ae.dS hok rfl hev ⟨m,Nat.lt_succ_self m,i'+1,u.take (x.length+1+j+i+i')++ [[.i (Zk n (7 - (i':Int)))]],?_,?_,by omega⟩
       · rw [show (7:Int) - ((i'+1:Nat):Int)=7 - (i':Int) - 1 by omega]; rfl
       · rw [← hul,List.take_length,hu,List.append_assoc,← E8]
     | zero=>
       have hi':i'=8:=hm
       rw [decide_eq_false (show ¬ (0:Int)≤7 - (i':Int) by omega),cond_false] at hev
       refine ae.dS hok rfl hev ?_
       have hu':bL 128 16 x n=u:=by rw [hu,hz,hy,hi',hi,hj]; rfl
       rw [hu',hul]
       generalize x.length+1+j+i+i'=K
       exact bZ hok (n:=100) (bs0:= [⟨5, .row [.int .u8] u⟩]) (by kernel_rfl) (aL.refl _) ⟨rfl,kF.refl _,fun ts h=> ⟨ts,h⟩⟩

def fe (n:Int) (y:List (List D)) (k:Nat) (a c b:V):St:=⟨[.aC,aN n,aN 64,aN 8]++List.replicate 5 .aC++ [aiQ k,a]++List.replicate 20 .aC++ [c,b]++List.replicate 20 .aC,[some ⟨5, .row [.int .u8] y⟩]⟩
theorem EU {x:List (List D)} {n:Int} (hx:x.length<1099511627776) (base:Nat):bM (bJ true false [] [] []) 0 (af Tryz.f224) ⟨t0 Tryz.f224 [Yg x,aN n,aN 64,aN 8],[]⟩
 (Post (bJ true false [] [] []) Tryz.f224 base (.one (.row base 1 0 (bL 64 8 x n).length (bL 64 8 x n).length)) [⟨5, .row [.int .u8] (bL 64 8 x n)⟩]):=by
 have hok:Ok (bJ true false [] [] []):=dM aD.nil bf.nil dO.nil
 have h0:bG (bJ true false [] [] []) 100 ((items (af Tryz.f224)).take 3) ⟨t0 Tryz.f224 [Yg x,aN n,aN 64,aN 8],[]⟩ (xO 0 [1,2,3,9] [3] 4 [(3,0)] 1)=
  aS [dG .i64 128,decide ((0+x.length)*1≤140737488355328),decide (0+x.length<4611686018427387904),decide (0+x.length≤x.length),decide (0+x.length≤0+x.length),decide ((0+x.length+1)*1≤140737488355328),decide (0+x.length+1<4611686018427387904)]
  (.done .normal (fe n (x.take (0+x.length)++ [[.i 128]]) (0+x.length+1) .aC .aC .aC)):=by kernel_rfl
 rw [Nat.zero_add,List.take_length,ai] at h0
 rotate_left 1
 · repeat' (first | exact iL | refine aF ?_ ?_)
   all_goals first | (rw [decide_eq_true_iff]; omega) | exact kQ (by omega) (by omega)
 refine bM.items _ _ _ (ae.O1 hok rfl (k:=3) h0 ?_)
 have hzb:fQ 64 8 x.length<64:=Nat.mod_lt _ (by decide)
 have hzu:=hzb
 refine ae.loop (id:=0) (by kernel_rfl) (fun m s=> ∃ j y,s=fe n y (x.length+1+j) .aC .aC .aC∧y=x++ [[.i 128]]++List.replicate j [.i 0]∧j+m=fQ 64 8 x.length) (fQ 64 8 x.length) ⟨0,_,rfl,by simp,Nat.zero_add _⟩ ?_
 rintro m s ⟨j,y,rfl,hy,hm⟩
 have hyl:y.length=x.length+1+j:=by rw [hy]; simp; omega
 have hevG: ∀ k:Nat,bG (bJ true false [] [] []) 100 (items (aY (af Tryz.f224) 3)) (fe n y k .aC .aC .aC) (wM 0 [1,2,3,9] [2] 3 [(2,0)] 1 [1,2,3,9] [0] 1)=
  aS [dG .i64 (k:Nat),dG .i64 56] (bif !decide (((k:Nat):Int).tmod 64=56) then
   aS [decide (k≤y.length),decide (k≤k),decide ((k+1)*1≤140737488355328),decide (k+1<4611686018427387904)] (.done .normal (fe n (y.take k++ [[.i 0]]) (k+1) .aC .aC .aC))
  else .done (.exit 0) (fe n y k .aC .aC .aC)):=by intro k; kernel_rfl
 have hev:=hevG (x.length+1+j)
 rw [ai (aF (kQ (by omega) (by omega)) (aU (kQ (by omega) (by omega))))] at hev
 have hmod:((x.length+1+j:Nat):Int).tmod 64=((x.length+1+j) % 64:Nat):=by rw [Int.tmod_eq_emod_of_nonneg (by omega)]; omega
 rw [hmod] at hev
 unfold fQ at hm hzu
 cases m with
 | succ m=>
   have hc:decide ((((x.length+1+j) % 64:Nat):Int)=56)=false:=by rw [decide_eq_false_iff_not]; omega
   rw [hc,Bool.not_false,cond_true,ai] at hev
   rotate_left 1
   · repeat' (first | exact iL | refine aF ?_ ?_)
     all_goals (rw [decide_eq_true_iff]; omega)
   refine ae.dS hok rfl hev ⟨m,Nat.lt_succ_self m,j+1,_,rfl,?_,by unfold fQ; omega⟩
   rw [← hyl,List.take_length,hy,List.append_assoc,← List.replicate_succ']
 | zero=>
   have hc:decide ((((x.length+1+j) % 64:Nat):Int)=56)=true:=by rw [decide_eq_true_iff]; omega
   rw [hc,Bool.not_true,cond_false] at hev
   refine ae.dS hok rfl hev ?_
   have hj:j=fQ 64 8 x.length:=by unfold fQ; omega
   clear hev hevG hmod hc hm
   -- the zeros of the upper half of the length
   have h2G: ∀ k:Nat,bG (bJ true false [] [] []) 100 (((items (af Tryz.f224)).drop (3+1)).take 1) (fe n y k .aC .aC .aC) (iF 0 [1,2,3,9,31,32] [0] 1)=aS [dG .i64 0] (.done .normal (fe n y k .aC (aN 0) (aN 0))):=by intro k; kernel_rfl
   have h2:=h2G (x.length+1+j)
   rw [ai (aU (kQ (by omega) (by omega)))] at h2
   refine ae.fw hok (k:=1) h2 ?_
   clear h2 h2G
   refine ae.loop (id:=2) (by kernel_rfl) (fun m s=> ∃ (i:Nat) (z:List (List D)),s=fe n z (x.length+1+j+i) .aC (aN 0) (aN (i:Int))∧z=y++List.replicate i [.i 0]∧i+m=0) 0 ⟨0,y,rfl,by simp,rfl⟩ ?_
   rintro m s ⟨i,z,rfl,hz,hm⟩
   have hzl:z.length=x.length+1+j+i:=by rw [hz]; simp [hyl]
   have hevG: ∀ (k:Nat) (i:Int),bG (bJ true false [] [] []) 100 (items (aY (af Tryz.f224) 5)) (fe n z k .aC (aN 0) (aN i)) (wM 0 [1,2,3,9,31,32] [2] 3 [(2,0)] 1 [1,2,3,9] [0] 1)=
    bif decide (i<0) then
     aS [decide (k≤z.length),decide (k≤k),decide ((k+1)*1≤140737488355328),decide (k+1<4611686018427387904),dG .i64 (i+1)] (.done .normal (fe n (z.take k++ [[.i 0]]) (k+1) .aC (aN 0) (aN (i+1))))
    else .done (.exit 2) (fe n z k .aC .aC .aC):=by intro k i; kernel_rfl
   have hev:=hevG (x.length+1+j+i) (i:Int)
   cases m with
   | succ m=>
     rw [decide_eq_true (show ((i:Nat):Int)<0 by omega),cond_true,ai] at hev
     rotate_left 1
     · repeat' (first | exact iL | refine aF ?_ ?_)
       all_goals first | (rw [decide_eq_true_iff]; omega) | exact kQ (by omega) (by omega)
     refine ae.dS hok rfl hev ⟨m,Nat.lt_succ_self m,i+1,_,rfl,?_,by omega⟩
     rw [← hzl,List.take_length,hz,List.append_assoc,← List.replicate_succ']
   | zero=>
     have hi:i=0:=hm
     rw [decide_eq_false (show ¬ ((i:Nat):Int)<0 by omega),cond_false] at hev
     refine ae.dS hok rfl hev ?_
     clear hev hevG hm
     -- the length
     have h3G: ∀ k:Nat,bG (bJ true false [] [] []) 100 (((items (af Tryz.f224)).drop (5+1)).take 1) (fe n z k .aC .aC .aC) (iF 0 [1,2,3,9,10] [0] 1)= .done .normal (fe n z k (aN 7) .aC .aC):=by intro k; kernel_rfl
     refine ae.fw hok (k:=1) (h3G _) ?_
     refine ae.loop (id:=4) (by kernel_rfl) (fun m s=> ∃ (i':Nat) (u:List (List D)),s=fe n u (x.length+1+j+i+i') (aN (7 - (i':Int))) .aC .aC∧u=z++xm n i'∧i'+m=8) 8 ⟨0,z,rfl,by simp [xm],rfl⟩ ?_
     rintro m s ⟨i',u,rfl,hu,hm⟩
     have hul:u.length=x.length+1+j+i+i':=by rw [hu,List.length_append,AZ,hzl]
     have hevG: ∀ (k:Nat) (i:Int),bG (bJ true false [] [] []) 100 (items (aY (af Tryz.f224) 7)) (fe n u k (aN i) .aC .aC) (wM 0 [1,2,3,9,10] [2] 3 [(2,0)] 1 [1,2,3,9] [0] 1)=
      bif decide (0≤i) then
       aS [dG .i64 (8*i),decide (0≤8*i),decide (k≤u.length),decide (k≤k),decide ((k+1)*1≤140737488355328),decide (k+1<4611686018427387904),dG .i64 (i - 1)] (.done .normal (fe n (u.take k++ [[.i (Zk n i)]]) (k+1) (aN (i - 1)) .aC .aC))
      else .done (.exit 4) (fe n u k .aC .aC .aC):=by intro k i; kernel_rfl
     have hev:=hevG (x.length+1+j+i+i') (7 - (i':Int))
     cases m with
     | succ m=>
       rw [decide_eq_true (show (0:Int)≤7 - (i':Int) by omega),cond_true,ai] at hev
       rotate_left 1
       · repeat' (first | exact iL | refine aF ?_ ?_)
         all_goals first | (rw [decide_eq_true_iff]; omega) | exact kQ (by omega) (by omega)
       refine ae.dS hok rfl hev ⟨m,Nat.lt_succ_self m,i'+1,u.take (x.length+1+j+i+i')++ [[.i (Zk n (7 - (i':Int)))]],?_,?_,by omega⟩
       · rw [show (7:Int) - ((i'+1:Nat):Int)=7 - (i':Int) - 1 by omega]; rfl
       · rw [← hul,List.take_length,hu,List.append_assoc,← E8]
     | zero=>
       have hi':i'=8:=hm
       rw [decide_eq_false (show ¬ (0:Int)≤7 - (i':Int) by omega),cond_false] at hev
       refine ae.dS hok rfl hev ?_
       have hu':bL 64 8 x n=u:=by rw [hu,hz,hy,hi',hi,hj]; rfl
       rw [hu',hul]
       generalize x.length+1+j+i+i'=K
       exact bZ hok (n:=100) (bs0:= [⟨5, .row [.int .u8] u⟩]) (by kernel_rfl) (aL.refl _) ⟨rfl,kF.refl _,fun ts h=> ⟨ts,h⟩⟩

noncomputable def WL:Nat→List D→Option (List Bool × V × List bQ)
 | base,[.l x, .i n, .i b, .i z]=> some ([decide (x.length<1099511627776),decide ((b=128∧z=16)∨(b=64∧z=8))], .one (.row base 1 0 (bL b.toNat z.toNat x n).length (bL b.toNat z.toNat x n).length),[⟨5, .row [.int .u8] (bL b.toNat z.toNat x n)⟩])
 | _,_=> none
noncomputable def adJ:aj:=Cn [tby,GU,GU,GU] WL
noncomputable abbrev aeM:List (FuncId × aj):= []
noncomputable abbrev af5:List (FuncId × Func):= []
theorem acn:bg Tryz.prog 224 adJ:=by
 refine AR (cx:=bJ true false aeM af5 []) (c:=af Tryz.f224) Tryz.func224 (by kernel_rfl) (by kernel_rfl) ?_
 intro base ds chk v bs vs hF ht he hr
 unfold WL at hF
 split at hF
 · rename_i x n b z
   cases hF
   have hvs:vs= [Yg x,aN n,aN b,aN z]:=by simp only [bq,bn,bF,bD,Option.some.injEq] at he; exact he.symm
   subst hvs
   have hx:x.length<1099511627776:=of_decide_eq_true (ht _ (by simp))
   have hb:(b=128∧z=16)∨(b=64∧z=8):=of_decide_eq_true (ht (decide ((b=128∧z=16)∨(b=64∧z=8))) (by simp))
   rcases hb with ⟨rfl,rfl⟩ | ⟨rfl,rfl⟩
   · exact ET hx base
   · exact EU hx base
 · cases hF
end Go.Proofs.YtcgmcohkkigphaaGreat
