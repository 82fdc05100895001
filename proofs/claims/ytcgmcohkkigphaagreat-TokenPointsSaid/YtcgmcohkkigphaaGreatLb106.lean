/-
  The parameters of a small mint.
-/
import Derived.Test.YtcgmcohkkigphaaGreatLb105
namespace Go.Proofs.YtcgmcohkkigphaaGreat
open Go Vx Go.RowKit

theorem Fb {a b c d e f g h i j k:Nat} (hm:jV a b c d e f g h i j k=true):(bU a=true∧bU b=true∧bU c=true∧bU d=true∧bU e=true∧bU f=true∧bU g=true∧bU h=true∧bU i=true∧bU j=true∧bU k=true)∧a≠0∧k≠0:=by
 rw [Le] at hm
 obtain ⟨h1,h2⟩:=VS hm
 have hn: ∀ n,(!bU n)=false→bU n=true:=fun n hn=> by cases ho:bU n; rw [ho] at hn; cases hn; rfl
 have hz: ∀ n,(!zB n)=true→n≠0:=fun n hn e=> by rw [oz.2 e] at hn; cases hn
 cases ha:(!zB a) with
 | false=> rw [ha] at h2; cases h2
 | true=>
   rw [ha] at h2
   exact ⟨⟨hn _ (h1 _ (by simp)),hn _ (h1 _ (by simp)),hn _ (h1 _ (by simp)),hn _ (h1 _ (by simp)),hn _ (h1 _ (by simp)),hn _ (h1 _ (by simp)),hn _ (h1 _ (by simp)),hn _ (h1 _ (by simp)),hn _ (h1 _ (by simp)),hn _ (h1 _ (by simp)),hn _ (h1 _ (by simp))⟩,hz _ ha,hz _ h2⟩
theorem agc {a b c d e f g h i j k:Nat} (ho: ∀ n∈ [a,b,c,d,e,f,g,h,i,j,k],bU n=true) (ha:a≠0) (hk:k≠0):jV a b c d e f g h i j k=true:=by
 rw [Le]
 have hz: ∀ n,n≠0→(!zB n)=true:=fun n hn=> by cases hb:zB n; rfl; exact absurd (oz.1 hb) hn
 refine Fq (fun c hc=> ?_) (by rw [hz _ ha,hz _ hk]; rfl)
 simp only [List.mem_cons,List.not_mem_nil,or_false] at hc
 rcases hc with rfl | rfl | rfl | rfl | rfl | rfl | rfl | rfl | rfl | rfl | rfl<;> (rw [ho _ (by simp)]; rfl)
theorem age {a b c d e f g h i:Nat} (ho: ∀ n∈ [a,b,c,d,e,f,g,h,i],aJ n=true) (ha:a≠0) (hk:i≠0):Bb a b c d e f g h i=true:=by
 rw [VI]
 have hz: ∀ n,n≠0→(!zB n)=true:=fun n hn=> by cases hb:zB n; rfl; exact absurd (oz.1 hb) hn
 refine Fq (fun c hc=> ?_) (by rw [hz _ ha,hz _ hk]; rfl)
 simp only [List.mem_cons,List.not_mem_nil,or_false] at hc
 rcases hc with rfl | rfl | rfl | rfl | rfl | rfl | rfl | rfl | rfl<;> (rw [ho _ (by simp)]; rfl)
theorem fP {a n:Nat} {P:E} (ha:bU a=true) (h:Pt n P):Pt (aI a n) (E.mul a P):=(ag5 ha h).2
theorem Lg {a b n:Nat} {P:E} (ha:bU a=true) (hb:bU b=true) (h:Pt n P):Pt (nk a b n) (E.mul a bE+E.mul b P):=(ag6 ha mR hb h).2
theorem Di {n:Nat} (h:n<1000):bU n=true:=oW.2 (Nat.lt_trans h (by unfold lP; decide))
theorem Lf {a:Nat} (ha:bU a=true) (h0:a≠0):aI a bN≠0:=fun e=> by
 have h1:=(fP ha mR).Q0.1 e
 have h2:=ai4.1 h1
 rw [Nat.mod_eq_of_lt (LA ha)] at h2
 exact h0 h2
end Go.Proofs.YtcgmcohkkigphaaGreat
