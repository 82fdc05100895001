/-
  The laws AlgebraScalars, AlgebraBack answer true.
-/
import Derived.Test.YtdkmcpbjicnfmaaGreatL8
import Derived.Test.YtdkmcpbjicnfmaaGreatM3
namespace Go.Proofs.YtdkmcpbjicnfmaaGreat
open Go Vx Go.RowKit
end Go.Proofs.YtdkmcpbjicnfmaaGreat

/-
  The law AlgebraBack answers true; what sums of terms stand for.
-/
namespace Go.Proofs.YtdkmcpbjicnfmaaGreat
open Go Vx Go.RowKit

inductive Terms : List (List D) → E → Prop
 | nil : Terms [] 0
 | cons {a n : Nat} {P S : E} {l : List (List D)} : okS a = true → Pt n P → Terms l S → Terms ([.n a, .n n] :: l) (E.mul a P + S)
theorem okS_iff {a : Nat} : okS a = true ↔ a < lP := by
 show minusB a 7237005577332262213973186563042994240857116359379907606001950938285454250989 = true ↔ _
 rw [minusB_eq, decide_eq_true_iff]; rfl
theorem lP_small : lP < 2 ^ 256 := by unfold lP; decide +kernel
theorem sumGo_pt : ∀ {l : List (List D)} {S : E}, Terms l S → ∀ {o : P4} {Q : E}, RepP o Q → Ev Q → ∃ o' R, sumGo o l = (0, o') ∧ RepP o' R ∧ Ev R ∧ Co R (Q + S) := by
 intro l S h
 induction h with
 | nil =>
   intro o Q hr he
   exact ⟨o, Q, by rw [sumGo], hr, he, by rw [E.add_zero]; exact co_refl Q⟩
 | @cons a n P S l ha hp _ ih =>
   intro o Q hr he
   obtain ⟨h1, P', h2, h3, h4⟩ := hp.dec
   have e1 : trK [.n a, .n n] = a := rfl
   have e2 : trP [.n a, .n n] = n := rfl
   have ha' : minusB a 7237005577332262213973186563042994240857116359379907606001950938285454250989 = true := ha
   rw [sumGo, e1, e2, ha', h1, Bool.not_true, cond_false, cond_false]
   obtain ⟨o', R, g1, g2, g3, g4⟩ := ih (add_rep hr (tm_rep h2 (Nat.lt_trans (okS_iff.1 ha) lP_small))) (ev_add he (ev_mulE h4 a))
   refine ⟨o', R, g1, g2, g3, co_trans g4 ?_⟩
   rw [E.add_assoc]
   exact co_add (co_refl Q) (co_add (co_mul (co_symm h3) a) (co_refl S))
theorem sum_pt {l : List (List D)} {S : E} (h : Terms l S) (hl : l.length ≤ 64) : sumE l = 0 ∧ Pt (sumN l) S := by
 obtain ⟨o, R, h1, h2, h3, h4⟩ := sumGo_pt h id_rep ev_zero
 rw [E.zero_add] at h4
 obtain ⟨f1, f2, _⟩ := sum_facts (Nat.not_lt.2 hl) h1
 refine ⟨f1, ?_⟩
 rw [f2 rfl]
 exact (Pt.of h2 h3).co h4
theorem sum_pt1 {a n : Nat} {P : E} (ha : okS a = true) (h : Pt n P) : sumE [[.n a, .n n]] = 0 ∧ Pt (sumN [[.n a, .n n]]) (E.mul a P) := by
 have := sum_pt (.cons ha h .nil) (show 1 ≤ 64 by decide)
 rw [E.add_zero] at this
 exact this
theorem fermat_of {n a x : Nat} (hn : 1 < n) (h1 : a ^ (n - 1) % n = 1) (hf : ∀ x, 0 < x → x < n → ∃ k, k < n - 1 ∧ a ^ k % n = x) (h0 : 0 < x) (hx : x < n) : x ^ (n - 1) % n = 1 := by
 obtain ⟨k, _, hk⟩ := hf x h0 hx
 rw [← hk, ← Nat.pow_mod, ← Nat.pow_mul, Nat.mul_comm]
 exact pow_mod_one h1 hn k
theorem inv_of {n x : Nat} (hn : 1 < n) (h : x ^ (n - 1) % n = 1) : x * (x ^ (n - 2) % n) % n = 1 := by
 rw [Nat.mul_mod, Nat.mod_mod, ← Nat.mul_mod, Nat.mul_comm, ← Nat.pow_succ, show (n - 2).succ = n - 1 by omega]
 exact h
theorem pratt_inv {n a : Nat} {fs : List Nat} (h : pratt n a fs = true) (hp : ∀ q ∈ fs, PrimeN q) {x : Nat} (h0 : 0 < x) (hx : x < n) {m : Nat} (hm : n - 2 = m) : x * (x ^ m % n) % n = 1 := by
 obtain ⟨h1, h2, _, h4, _⟩ := pratt_facts h hp
 rw [← hm]
 exact inv_of h1 (fermat_of h1 h2 h4 h0 hx)
theorem powL_eq' (a n : Nat) : powL a n = a ^ n % lP := powL_eq a n
theorem powL_inv' {x m : Nat} (h0 : 0 < x) (hx : x < lP) (hm : lP - 2 = m) : x * powL x m % lP = 1 := by
 rw [powL_eq']
 exact pratt_inv (n := lP) cert_7237005577332262213973186563042994240857116359379907606001950938285454250989 all_7237005577332262213973186563042994240857116359379907606001950938285454250989 h0 hx hm
noncomputable abbrev inL (a : Nat) : Nat := bif okS a && !allB [decide (a = 0)] then powL a 7237005577332262213973186563042994240857116359379907606001950938285454250987 else 0
end Go.Proofs.YtdkmcpbjicnfmaaGreat
