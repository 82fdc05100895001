/-
  Eight words to which one word's multiple of four others is added: a round of long multiplication by words of 64 bits. No program stands in it.
-/
import Derived.Test.YtcgmcohkkigphaaGreatU1
namespace Vx
open Go

def qs1 (x:Int) (y:Nat→Int) (c:Int) (k:Nat):Int:=x*y k % 18446744073709551616+c+0
def qs2 (r:Nat→Int) (x:Int) (y:Nat→Int) (i:Nat) (c:Int) (k:Nat):Int:=r (i+k)+qs1 x y c k % 18446744073709551616+0
def qc (r:Nat→Int) (x:Int) (y:Nat→Int) (i:Nat):Nat→Int
 | 0=> 0
 | k+1=> ak .u64 (ak .u64 (x*y k / 18446744073709551616+qs1 x y (qc r x y i k) k / 18446744073709551616)+qs2 r x y i (qc r x y i k) k / 18446744073709551616)
def qe (r:Nat→Int) (x:Int) (y:Nat→Int) (i k:Nat):Int:=qs2 r x y i (qc r x y i k) k % 18446744073709551616
def mW (r:Nat→Int) (x:Int) (y:Nat→Int) (i j:Nat):Int:=
 bif Nat.blt j i then r j else bif Nat.blt j (i+4) then qe r x y i (j - i) else bif Nat.beq j (i+4) then qc r x y i 4 else r j

def jl (r:Nat→Int):Nat→Int
 | 0=> 0
 | k+1=> jl r k+r k*2^(64*k)

theorem aih {r y:Nat→Int} {x:Int} {i:Nat} (hx:0≤x∧x<18446744073709551616) (hr: ∀ k,0≤r k∧r k<18446744073709551616) (hy: ∀ k,0≤y k∧y k<18446744073709551616): ∀ k,
 0≤qc r x y i k∧qc r x y i k<18446744073709551616∧jl (qe r x y i) k+qc r x y i k*2^(64*k)=jl (fun k=> r (i+k)) k+x*jl y k
 | 0=> by simp [qc,jl]
 | k+1=> by
   obtain ⟨h1,h2,h3⟩:=aih (i:=i) hx hr hy k
   obtain ⟨h4,h5⟩:=hr (i+k)
   obtain ⟨h6,h7⟩:=hy k
   have hm0:0≤x*y k:=Int.mul_nonneg hx.1 h6
   have hm1:x*y k≤18446744073709551615*18446744073709551615:=Int.mul_le_mul (by omega) (by omega) h6 (by omega)
   have hs:qe r x y i k+qc r x y i (k+1)*18446744073709551616=qc r x y i k+r (i+k)+x*y k∧0≤qc r x y i (k+1)∧qc r x y i (k+1)<18446744073709551616:=by
    unfold qe
    rw [qc,qs2,qs1]
    simp only [ak]
    generalize qc r x y i k=c at*
    generalize r (i+k)=a at*
    generalize x*y k=m at*
    clear h3
    omega
   obtain ⟨hs,hs0,hs1⟩:=hs
   refine ⟨hs0,hs1,?_⟩
   have hp:(2:Int)^(64*(k+1))=18446744073709551616*2^(64*k):=by
    rw [Nat.mul_succ,Int.pow_add,Int.mul_comm]; rfl
   rw [jl,jl.eq_def (fun k=> r (i+k)),jl.eq_def y,hp]
   simp only []
   generalize (2:Int)^(64*k)=P at*
   have:qe r x y i k*P+qc r x y i (k+1)*(18446744073709551616*P)=qc r x y i k*P+r (i+k)*P+x*(y k*P):=by
    rw [← Int.mul_assoc,← Int.add_mul,hs,Int.add_mul,Int.add_mul,Int.mul_assoc x]
   rw [Int.mul_add]
   omega

theorem yD (r:Nat→Int) (i:Nat): ∀ k,jl r (i+k)=jl r i+2^(64*i)*jl (fun k=> r (i+k)) k
 | 0=> by simp [jl]
 | k+1=> by
   have e1:jl (fun k=> r (i+k)) (k+1)=jl (fun k=> r (i+k)) k+r (i+k)*2^(64*k):=rfl
   have e2:jl r (i+(k+1))=jl r (i+k)+r (i+k)*2^(64*(i+k)):=rfl
   have e3:(2:Int)^(64*(i+k))=2^(64*i)*2^(64*k):=by rw [Nat.mul_add,Int.pow_add]
   rw [e2,e1,yD r i k,e3,Int.mul_add,Int.add_assoc]
   congr 2
   rw [← Int.mul_assoc,Int.mul_comm (r (i+k)),Int.mul_assoc]

theorem yC {r s:Nat→Int}: ∀ k,(∀ j,j<k→r j=s j)→jl r k=jl s k
 | 0,_=> rfl
 | k+1,h=> by rw [jl,jl,yC k (fun j hj=> h j (by omega)),h k (by omega)]

theorem I9 {r:Nat→Int} {x:Int} {y:Nat→Int} {i j:Nat} (h:j<i):mW r x y i j=r j:=by
 unfold mW; rw [UL h]; rfl
theorem Ja {r:Nat→Int} {x:Int} {y:Nat→Int} {i k:Nat} (h:k<4):mW r x y i (i+k)=qe r x y i k:=by
 unfold mW; rw [wV (by omega),UL (by omega),Nat.add_sub_cancel_left]; rfl
theorem Jb {r:Nat→Int} {x:Int} {y:Nat→Int} {i:Nat}:mW r x y i (i+4)=qc r x y i 4:=by
 unfold mW; rw [wV (by omega),wV (by omega),Nat.beq_refl]; rfl
theorem Fh {r:Nat→Int} {x:Int} {y:Nat→Int} {i j:Nat} (h:i+4<j):mW r x y i j=r j:=by
 unfold mW; rw [wV (by omega),wV (by omega)]
 have:Nat.beq j (i+4)=false:=by
  cases hb:Nat.beq j (i+4)
  · rfl
  · have:=Nat.eq_of_beq_eq_true hb; omega
 rw [this]; rfl

structure Yl (x y:Nat→Int) (i:Nat) (r:Nat→Int):Prop where
 x8: ∀ j,0≤r j∧r j<18446744073709551616
 zero: ∀ j,i+4≤j→r j=0
 val:jl r (i+4)=jl x i*jl y 4

theorem Yl.step {x y:Nat→Int} {i:Nat} {r:Nat→Int} (hx: ∀ k,0≤x k∧x k<18446744073709551616) (hy: ∀ k,0≤y k∧y k<18446744073709551616) (h:Yl x y i r):Yl x y (i+1) (mW r (x i) y i):=by
 have hp:=fun k=> aih (i:=i) (hx i) h.x8 hy k
 have hqe: ∀ k,0≤qe r (x i) y i k∧qe r (x i) y i k<18446744073709551616:=fun k=> by
  unfold qe; omega
 refine ⟨fun j=> ?_,fun j hj=> ?_,?_⟩
 · rcases Nat.lt_or_ge j i with h1 | h1
   · rw [I9 h1]; exact h.x8 j
   · obtain ⟨k,rfl⟩:=Nat.le.dest h1
     rcases Nat.lt_or_ge k 4 with h2 | h2
     · rw [Ja h2]; exact hqe k
     · rcases Nat.eq_or_lt_of_le h2 with h3 | h3
       · subst h3
         rw [Jb]
         exact ⟨(hp 4).1,(hp 4).2.1⟩
       · rw [Fh (by omega)]; exact h.x8 _
 · rw [Fh (by omega)]; exact h.zero j (by omega)
 · rw [show i+1+4=i+(4+1) by omega,yD,show (jl (fun k=> mW r (x i) y i (i+k)) (4+1))=jl (fun k=> mW r (x i) y i (i+k)) 4+mW r (x i) y i (i+4)*2^(64*4) from rfl,Jb,
    yC (s:=r) i (fun j hj=> I9 hj),yC (s:=qe r (x i) y i) 4 (fun j hj=> Ja hj),(hp 4).2.2]
   have hv:=h.val
   rw [yD] at hv
   rw [show jl x (i+1)=jl x i+x i*2^(64*i) from rfl,Int.add_mul,← hv,Int.mul_add,Int.add_assoc]
   congr 2
   rw [← Int.mul_assoc,Int.mul_comm (x i)]
end Vx

/-
  Digits of 32 bits: a number times 256 and a byte; a number less another one. No program stands in it.
-/
namespace Vx
open Go
end Vx

/-
  Sums of bytes. No program stands in it.
-/
namespace Vx
open Go

def BJ (r:Nat→Int) (p:Nat) (v:Int) (j:Nat):Int:=if j=p then v else r j
theorem Ye (r:Nat→Int) (p:Nat) (v:Int):BJ r p v p=v:=if_pos rfl
theorem Yf {r:Nat→Int} {p j:Nat} {v:Int} (h:j≠p):BJ r p v j=r j:=if_neg h
end Vx

/-
  Elements of the group, so many times: what the program's and the document's functions answer. No program stands in it.
-/
namespace Vx

noncomputable def tbl (p:P4):Nat→P4
 | 0=> Vt
 | i+1=> Ae (tbl p i) p (bH dP dP)
noncomputable def abh (o:P4):P4:=
 let tw:=bH dP dP
 let a:=Ae o o tw
 let b:=Ae a a tw
 let c:=Ae b b tw
 Ae c c tw
noncomputable def tmR (k:Nat) (p:P4):Nat→P4
 | 0=> Vt
 | m+1=> Ae (abh (tmR k p m)) (tbl p (k / 2^(4*(63 - m)) % 16)) (bH dP dP)
noncomputable def tmX:Nat→P4→Nat:=aA fun k p=> (tmR k p 64).x
noncomputable def tmY:Nat→P4→Nat:=aA fun k p=> (tmR k p 64).y
noncomputable def tmZ:Nat→P4→Nat:=aA fun k p=> (tmR k p 64).z
noncomputable def tmT:Nat→P4→Nat:=aA fun k p=> (tmR k p 64).t
noncomputable def tmP (k:Nat) (p:P4):P4:=⟨tmX k p,tmY k p,tmZ k p,tmT k p⟩
theorem ae1 (k:Nat) (p:P4):tmP k p=tmR k p 64:=by
 unfold tmP tmX tmY tmZ tmT
 simp only [aO]
end Vx
