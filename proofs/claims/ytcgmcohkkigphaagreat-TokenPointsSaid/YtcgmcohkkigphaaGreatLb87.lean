/-
  What is proved is taken; the law's known relation.
-/
import Derived.Test.YtcgmcohkkigphaaGreatLb85
import Derived.Test.YtcgmcohkkigphaaGreatLb86
namespace Go.Proofs.YtcgmcohkkigphaaGreat
open Go Vx Go.RowKit

theorem Wn: ∀ {x:List (List D)},qG x=true→ ∀ {j:Nat},j<x.length→aJ (iR (x.getD j []))=true∧zR (cz (x.getD j []))=true
 | [],_,j,h=> absurd h (Nat.not_lt_zero j)
 | e::x,h,j,hj=> by
   obtain ⟨h1,h2,h3⟩:=ZQ h
   cases j with
   | zero=> exact ⟨h1,h2⟩
   | succ j=> exact Wn (x:=x) h3 (Nat.lt_of_succ_lt_succ hj)
theorem VH {s:List (List D)}: ∀ {x:List (List D)},H6 s x=true→ ∀ {j:Nat},j<x.length→iR (x.getD j [])=oD s (cz (x.getD j []))
 | [],_,j,h=> absurd h (Nat.not_lt_zero j)
 | e::x,h,j,hj=> by
   unfold H6 at h
   by_cases h1:oD s (cz e)=iR e
   · rw [decide_eq_true h1] at h
     cases j with
     | zero=> exact h1.symm
     | succ j=> exact VH (x:=x) h (Nat.lt_of_succ_lt_succ hj)
   · rw [decide_eq_false h1] at h
     cases h
theorem agU (t:ByteArray) (x:List (List D)) (n:Nat) (com:Nat→Nat):bU (CL t x n com)=true:=by rw [zV]; exact Fz _
theorem ahk {t:ByteArray} {x s:List (List D)} {n:Nat} {c:Nat} (h1:xZ t.size x (n:Nat)=true) (h2:s.length=n) (h3:bU c=true) (h4:dK s=true) (h5:qG x=true):qU t x (n:Nat) c s=bif !decide (QX t x n c s=c) then 110 else 0:=by
 unfold qU
 rw [h1,h3,h4,h5,decide_eq_true (show ((s.length:Nat):Int)=(n:Nat) by omega),Int.toNat_natCast]
 rfl
theorem aff {t:ByteArray} {x s k:List (List D)} (c:Nat) (hc:bU c=true) (h:Bn t x s k=0) (t':ByteArray):QX t' x s.length c (jY c s k s.length)=CL t' x s.length fun j=> oD k (cz (x.getD j [])):=by
 obtain ⟨h1,h2,h3,h4,h5,h6⟩:=LM h
 obtain ⟨_,_,_,_,_,g6⟩:=F5 h1
 exact Te fun i hi=> ahl hc h3 h4 h2 (nI g6 hi).2 (nI g6 hi).1 (Wn h5 hi).2 (VH h6 hi)
theorem Jm {t:ByteArray} {x s k:List (List D)} (h:Bn t x s k=0):qU t x (s.length:Nat) (kS t x s k) (jY (kS t x s k) s k s.length)=0:=by
 obtain ⟨h1,h2,h3,h4,h5,h6⟩:=LM h
 have hc:bU (kS t x s k)=true:=agU _ _ _ _
 rw [ahk h1 (zQ _ _ _ _) hc (agM _ _ _ _) h5,decide_eq_true (show QX t x s.length (kS t x s k) (jY (kS t x s k) s k s.length)=kS t x s k from aff _ hc h t)]
 rfl
end Go.Proofs.YtcgmcohkkigphaaGreat
