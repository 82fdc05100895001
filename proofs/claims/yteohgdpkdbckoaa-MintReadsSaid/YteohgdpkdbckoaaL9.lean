/-
  The laws AlgebraScalars, AlgebraBack answer true.
-/
import Derived.Test.YteohgdpkdbckoaaL8
import Derived.Test.YteohgdpkdbckoaaM3
namespace Go.Proofs.Yteohgdpkdbckoaa
open Go Vx Go.RowKit

def treeL : List Bool → Out
  | [] => outV (vbool' true)
  | c :: l => bif c then treeL l else outV (vbool' false)
theorem treeL_t : ∀ {l : List Bool}, allT l → treeL l = outV (vbool' true)
  | [], _ => rfl
  | c :: l, h => by
    obtain ⟨h1, h2⟩ := allT_cons h
    rw [treeL, h1, cond_true, treeL_t h2]
theorem allB_d {n : Nat} : allB [decide (n = n)] = true := decide_eq_true rfl
theorem dec_self {n : Int} : decide (n = n) = true := decide_eq_true rfl

noncomputable def sAlgebraScalarsF : List D → Option (List Bool × V)
  | [.n _, .n _, .i _] => some ([], vbool' true)
  | _ => none
noncomputable def sAlgebraScalars : FSpec := spec [tb32, tb32, tu64] sAlgebraScalarsF
end Go.Proofs.Yteohgdpkdbckoaa

/-
  The law AlgebraBack answers true; what sums of terms stand for.
-/
namespace Go.Proofs.Yteohgdpkdbckoaa
open Go Vx Go.RowKit

/-- The terms stand for a sum of points. -/
inductive Terms : List (List D) → E → Prop
  | nil : Terms [] 0
  | cons {a n : Nat} {P S : E} {l : List (List D)} : okS a = true → Pt n P → Terms l S → Terms ([.n a, .n n] :: l) (E.mul a P + S)
theorem okS_iff {a : Nat} : okS a = true ↔ a < lP := by
  show minusB a 7237005577332262213973186563042994240857116359379907606001950938285454250989 = true ↔ _
  rw [minusB_eq, decide_eq_true_iff]; rfl
theorem lP_small : lP < 2 ^ 256 := by unfold lP; decide +kernel
theorem sumGo_pt : ∀ {l : List (List D)} {S : E}, Terms l S → ∀ {o : P4} {Q : E}, RepP o Q → Ev Q → ∃ o' R, sumGo o l = (0, o') ∧ RepP o' R ∧ Ev R ∧ Co R (Q + S) := by
  intro l S h
  induction h with
  | nil =>
    intro o Q hr he
    exact ⟨o, Q, by rw [sumGo], hr, he, by rw [E.add_zero]; exact co_refl Q⟩
  | @cons a n P S l ha hp _ ih =>
    intro o Q hr he
    obtain ⟨h1, P', h2, h3, h4⟩ := hp.dec
    have e1 : trK [.n a, .n n] = a := rfl
    have e2 : trP [.n a, .n n] = n := rfl
    have ha' : minusB a 7237005577332262213973186563042994240857116359379907606001950938285454250989 = true := ha
    rw [sumGo, e1, e2, ha', h1, Bool.not_true, cond_false, cond_false]
    obtain ⟨o', R, g1, g2, g3, g4⟩ := ih (add_rep hr (tm_rep h2 (Nat.lt_trans (okS_iff.1 ha) lP_small))) (ev_add he (ev_mulE h4 a))
    refine ⟨o', R, g1, g2, g3, co_trans g4 ?_⟩
    rw [E.add_assoc]
    exact co_add (co_refl Q) (co_add (co_mul (co_symm h3) a) (co_refl S))
theorem sum_pt {l : List (List D)} {S : E} (h : Terms l S) (hl : l.length ≤ 64) : sumE l = 0 ∧ Pt (sumN l) S := by
  obtain ⟨o, R, h1, h2, h3, h4⟩ := sumGo_pt h id_rep ev_zero
  rw [E.zero_add] at h4
  obtain ⟨f1, f2, _⟩ := sum_facts (Nat.not_lt.2 hl) h1
  refine ⟨f1, ?_⟩
  rw [f2 rfl]
  exact (Pt.of h2 h3).co h4
theorem sum_pt1 {a n : Nat} {P : E} (ha : okS a = true) (h : Pt n P) : sumE [[.n a, .n n]] = 0 ∧ Pt (sumN [[.n a, .n n]]) (E.mul a P) := by
  have := sum_pt (.cons ha h .nil) (show 1 ≤ 64 by decide)
  rw [E.add_zero] at this
  exact this
theorem sum_pt2 {a n b m : Nat} {P Q : E} (ha : okS a = true) (h : Pt n P) (hb : okS b = true) (h' : Pt m Q) :
    sumE [[.n a, .n n], [.n b, .n m]] = 0 ∧ Pt (sumN [[.n a, .n n], [.n b, .n m]]) (E.mul a P + E.mul b Q) := by
  have := sum_pt (.cons ha h (.cons hb h' .nil)) (show 2 ≤ 64 by decide)
  rw [E.add_zero] at this
  exact this
theorem fermat_of {n a x : Nat} (hn : 1 < n) (h1 : a ^ (n - 1) % n = 1) (hf : ∀ x, 0 < x → x < n → ∃ k, k < n - 1 ∧ a ^ k % n = x) (h0 : 0 < x) (hx : x < n) : x ^ (n - 1) % n = 1 := by
  obtain ⟨k, _, hk⟩ := hf x h0 hx
  rw [← hk, ← Nat.pow_mod, ← Nat.pow_mul, Nat.mul_comm]
  exact pow_mod_one h1 hn k
theorem inv_of {n x : Nat} (hn : 1 < n) (h : x ^ (n - 1) % n = 1) : x * (x ^ (n - 2) % n) % n = 1 := by
  rw [Nat.mul_mod, Nat.mod_mod, ← Nat.mul_mod, Nat.mul_comm, ← Nat.pow_succ, show (n - 2).succ = n - 1 by omega]
  exact h
theorem pratt_inv {n a : Nat} {fs : List Nat} (h : pratt n a fs = true) (hp : ∀ q ∈ fs, PrimeN q) {x : Nat} (h0 : 0 < x) (hx : x < n) {m : Nat} (hm : n - 2 = m) : x * (x ^ m % n) % n = 1 := by
  obtain ⟨h1, h2, _, h4, _⟩ := pratt_facts h hp
  rw [← hm]
  exact inv_of h1 (fermat_of h1 h2 h4 h0 hx)
theorem powL_eq' (a n : Nat) : powL a n = a ^ n % lP := powL_eq a n
theorem two_l : lP - 2 = 7237005577332262213973186563042994240857116359379907606001950938285454250987 := by unfold lP; decide
theorem powL_inv' {x m : Nat} (h0 : 0 < x) (hx : x < lP) (hm : lP - 2 = m) : x * powL x m % lP = 1 := by
  rw [powL_eq']
  exact pratt_inv (n := lP) cert_7237005577332262213973186563042994240857116359379907606001950938285454250989 all_7237005577332262213973186563042994240857116359379907606001950938285454250989 h0 hx hm
theorem powL_inv {x : Nat} (h0 : 0 < x) (hx : x < lP) : x * powL x 7237005577332262213973186563042994240857116359379907606001950938285454250987 % lP = 1 := powL_inv' h0 hx two_l
theorem powL_lt (a n : Nat) : powL a n < lP := by
  rw [powL_eq']
  exact Nat.mod_lt _ (by unfold lP; decide)
theorem allB_t {b : Bool} (h : b = true) : allB [b] = true := by rw [h]; rfl
theorem and_d {n : Nat} : (true && decide (n = n)) = true := by rw [decide_eq_true rfl]; rfl
def treeBk (c0 c1 c2 c3 : Bool) (l : List Bool) : Out := bif c0 then (bif c1 then (bif c2 then outV (vbool' true) else outV (vbool' false)) else (bif c3 then (bif c2 then outV (vbool' true) else outV (vbool' false)) else outV (vbool' false))) else treeL l
noncomputable abbrev inL (a : Nat) : Nat := bif okS a && !allB [decide (a = 0)] then powL a 7237005577332262213973186563042994240857116359379907606001950938285454250987 else 0
noncomputable abbrev mlL (a b : Nat) : Nat := bif okS a && okS b then restP (restP a * restP b) else 0
noncomputable abbrev bkC (a b : Nat) : List Bool := [decide (sumE [[.n a, .n (rencP (rmapP b))]] = 0), decide (sumE [[.n (inL a), .n (sumN [[.n a, .n (rencP (rmapP b))]])]] = 0),
  decide ((bif okS a && okS (inL a) then 0 else 50 : Int) = 0), allB [decide (sumN [[.n (inL a), .n (sumN [[.n a, .n (rencP (rmapP b))]])]] = rencP (rmapP b))], allB [decide (mlL a (inL a) = Int.toNat 1)]]
theorem back_t (a b : Nat) : treeBk (!decide ((bif okS a && !allB [decide (a = 0)] then 0 else 50 : Int) = 0)) (!okS a) (allB [true && decide (inL a = 0)]) (allB [true && decide (a = 0)]) (bkC a b) = outV (vbool' true) := by
  cases ha : okS a with
  | false =>
    have e : inL a = 0 := by
      unfold inL
      rw [ha]; rfl
    rw [e, allB_t and_d]
    rfl
  | true =>
    by_cases h0 : a = 0
    · have e : inL a = 0 := by
        subst h0
        unfold inL
        rw [ha]; rfl
      rw [e, allB_t and_d]
      subst h0
      rfl
    · have hd : allB [decide (a = 0)] = false := decide_eq_false h0
      have hi : inL a = powL a 7237005577332262213973186563042994240857116359379907606001950938285454250987 := by
        unfold inL
        rw [ha, hd]; rfl
      have hlt := okS_iff.1 ha
      have hinv := powL_inv (Nat.pos_of_ne_zero h0) hlt
      have hio : okS (powL a 7237005577332262213973186563042994240857116359379907606001950938285454250987) = true := okS_iff.2 (powL_lt _ _)
      obtain ⟨P, hP⟩ := Pt.map b
      obtain ⟨s1, s2⟩ := sum_pt1 ha hP
      obtain ⟨s3, s4⟩ := sum_pt1 hio s2
      rw [← E.mul_mul] at s4
      have s5 : sumN [[.n (powL a 7237005577332262213973186563042994240857116359379907606001950938285454250987), .n (sumN [[.n a, .n (rencP (rmapP b))]])]] = rencP (rmapP b) :=
        s4.eq hP (co_trans (co_mod hP.1 (b := 1) (by rw [hinv]; decide +kernel)) (by rw [E.mul_one]; exact co_refl P))
      have s6 : mlL a (powL a 7237005577332262213973186563042994240857116359379907606001950938285454250987) = 1 := by
        unfold mlL
        rw [ha, hio]
        show mulL _ _ = 1
        rw [mulL_eq]
        exact hinv
      have hl : allT (bkC a b) := by
        unfold bkC
        rw [hi, s6, s5, s3, s1, ha, hio]
        exact allTc dec_self (allTc dec_self (allTc dec_self (allTc allB_d (allTc allB_d allT0))))
      have : treeBk (!decide ((bif true && !allB [decide (a = 0)] then 0 else 50 : Int) = 0)) (!true) (allB [true && decide (inL a = 0)]) (allB [true && decide (a = 0)]) (bkC a b) = treeL (bkC a b) := by
        rw [hd]; rfl
      rw [this, treeL_t hl]

noncomputable def sAlgebraBackF : List D → Option (List Bool × V)
  | [.n _, .n _] => some ([], vbool' true)
  | _ => none
noncomputable def sAlgebraBack : FSpec := spec [tb32, tb64] sAlgebraBackF
end Go.Proofs.Yteohgdpkdbckoaa
