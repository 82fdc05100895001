/-
  The law RelateExtracts answers true.
-/
import Derived.Test.YtdkmcpbjicnfmaaLb87
namespace Go.Proofs.Ytdkmcpbjicnfmaa
open Go Vx Go.RowKit

theorem co_left {T Y Z : E} : Co (T + Y) (T + Z) ↔ Co Y Z := by
  constructor
  · intro h
    have h2 := co_add (co_refl (-T)) h
    rw [← E.add_assoc, ← E.add_assoc, E.add_comm (-T) T, E.add_neg, E.zero_add, E.zero_add] at h2
    exact h2
  · exact fun h => co_add (co_refl T) h
noncomputable def subN (a b : Nat) : Nat := restP (restP a + restP (minusS 7237005577332262213973186563042994240857116359379907606001950938285454250989 (restP b)))
theorem subN_eq {a b : Nat} (ha : okS a = true) (hb : okS b = true) : subN a b = (a + (lP - b)) % lP := by
  have hbl := okS_lt hb
  have hl := lP_small
  unfold subN
  rw [restP_self ha, restP_self hb, restP_mod, restP_mod, minusS_eq]
  show (a + (lP + 2 ^ 256 - b) % 2 ^ 256 % lP) % lP = _
  generalize lP = l at *
  generalize (2 : Nat) ^ 256 = t at *
  by_cases h : b = 0
  · subst h
    rw [Nat.sub_zero, Nat.sub_zero, Nat.add_mod_right, Nat.mod_eq_of_lt hl, Nat.mod_self, Nat.add_zero, Nat.add_mod_right]
  · rw [show l + t - b = t + (l - b) by omega, Nat.add_mod_left, Nat.mod_eq_of_lt (show l - b < t by omega), Nat.add_mod_mod]
theorem ok_zero : okS 0 = true := okS_iff.2 lP_pos
theorem subN_ok (a b : Nat) : okS (subN a b) = true := okS_rest _
noncomputable abbrev mnL (a b : Nat) : Nat := bif okS a && okS b then subN a b else 0
noncomputable abbrev erL (a b : Nat) : Int := bif okS a && okS b then 0 else 50
noncomputable abbrev wwL (u i : Nat) : Nat := bif okS u && okS i then restP (restP u * restP i) else 0
def chF : List Bool → Bool → Out
  | [], f => bif f then outV (vbool' true) else outV (vbool' false)
  | b :: l, f => bif !b then outV (vbool' false) else chF l f
theorem chF_t : ∀ {l : List Bool} {f : Bool}, allT l → f = true → chF l f = outV (vbool' true)
  | [], _, _, h => by subst h; rfl
  | b :: l, f, hl, h => by
    obtain ⟨h1, h2⟩ := allT_cons hl
    subst h1
    show chF l f = outV (vbool' true)
    exact chF_t h2 h
theorem mnL_eq {a b : Nat} (ha : okS a = true) (hb : okS b = true) : mnL a b = subN a b := by unfold mnL; rw [ha, hb]; rfl
theorem erL_eq {a b : Nat} (ha : okS a = true) (hb : okS b = true) : decide (erL a b = 0) = true := by unfold erL; rw [ha, hb]; rfl
theorem wwL_eq {u i : Nat} (ha : okS u = true) (hb : okS i = true) : wwL u i = restP (restP u * restP i) := by unfold wwL; rw [ha, hb]; rfl
/-- Of two answers to one commitment the secret is told. -/
theorem extr {c d s t : Nat} (hc : okS c = true) (hd : okS d = true) (hs : okS s = true) (ht : okS t = true) (hne : c ≠ d) {p x : Nat} {P X : E} (hp : Pt p P) (hx : Pt x X) :
    sumE [[.n s, .n p], [.n (subN 0 c), .n x]] = 0 ∧ sumE [[.n t, .n p], [.n (subN 0 d), .n x]] = 0 ∧ subN c d ≠ 0 ∧
    sumE [[.n (restP (restP (subN s t) * restP (powL (subN c d) 7237005577332262213973186563042994240857116359379907606001950938285454250987))), .n p]] = 0 ∧
    decide (sumN [[.n s, .n p], [.n (subN 0 c), .n x]] = sumN [[.n t, .n p], [.n (subN 0 d), .n x]]) = decide (sumN [[.n (restP (restP (subN s t) * restP (powL (subN c d) 7237005577332262213973186563042994240857116359379907606001950938285454250987))), .n p]] = x) := by
  obtain ⟨a1, a2⟩ := sum_pt2 hs hp (subN_ok 0 c) hx
  obtain ⟨b1, b2⟩ := sum_pt2 ht hp (subN_ok 0 d) hx
  have hcl := okS_lt hc
  have hdl := okS_lt hd
  have hsl := okS_lt hs
  have htl := okS_lt ht
  have hdn : subN c d ≠ 0 := by
    rw [subN_eq hc hd]
    intro h
    rcases Nat.lt_or_ge c d with h1 | h1
    · rw [Nat.mod_eq_of_lt (by omega)] at h; omega
    · rw [show c + (lP - d) = (c - d) + lP by omega, Nat.add_mod_right, Nat.mod_eq_of_lt (by omega)] at h; omega
  have hinv := powL_inv (Nat.pos_of_ne_zero hdn) (okS_lt (subN_ok c d))
  have hio : okS (powL (subN c d) 7237005577332262213973186563042994240857116359379907606001950938285454250987) = true := okS_iff.2 (powL_lt _ _)
  have hw : restP (restP (subN s t) * restP (powL (subN c d) 7237005577332262213973186563042994240857116359379907606001950938285454250987)) = subN s t * powL (subN c d) 7237005577332262213973186563042994240857116359379907606001950938285454250987 % lP := by rw [restP_self (subN_ok _ _), restP_self hio, restP_mod]
  have hwo : okS (restP (restP (subN s t) * restP (powL (subN c d) 7237005577332262213973186563042994240857116359379907606001950938285454250987))) = true := okS_rest _
  obtain ⟨w1, w2⟩ := sum_pt1 hwo hp
  refine ⟨a1, b1, hdn, w1, ?_⟩
  rw [decide_eq_decide, a2.eq_iff b2, w2.eq_iff hx, hw]
  generalize hu : subN s t = u at *
  generalize hv : subN c d = v at *
  generalize powL v 7237005577332262213973186563042994240857116359379907606001950938285454250987 = i at *
  have e1 : Co (E.mul s P) (E.mul t P + E.mul u P) := by
    rw [← E.add_mul]
    refine co_mod hp.1 ?_
    rw [← hu, subN_eq hs ht, Nat.add_mod_mod, show t + (s + (lP - t)) = s + lP by omega, Nat.add_mod_right]
  have e2 : Co (E.mul (subN 0 d) X) (E.mul (subN 0 c) X + E.mul v X) := by
    rw [← E.add_mul]
    refine co_mod hx.1 ?_
    rw [← hv, subN_eq hc hd, subN_eq ok_zero hd, subN_eq ok_zero hc, Nat.mod_mod, Nat.mod_add_mod, Nat.add_mod_mod, Nat.zero_add, Nat.zero_add, show lP - c + (c + (lP - d)) = (lP - d) + lP by omega, Nat.add_mod_right]
  have e3 : Co (E.mul s P + E.mul (subN 0 c) X) (E.mul t P + E.mul (subN 0 c) X + E.mul u P) := by
    have := co_add e1 (co_refl (E.mul (subN 0 c) X))
    rw [E.add_assoc, E.add_comm (E.mul u P), ← E.add_assoc] at this
    exact this
  have e4 : Co (E.mul t P + E.mul (subN 0 d) X) (E.mul t P + E.mul (subN 0 c) X + E.mul v X) := by
    have := co_add (co_refl (E.mul t P)) e2
    rw [← E.add_assoc] at this
    exact this
  have hvi : Co (E.mul i (E.mul v X)) X := by
    rw [← E.mul_mul]
    have := co_mod hx.1 (a := v * i) (b := 1) (by rw [hinv]; exact (Nat.mod_eq_of_lt (by unfold lP; decide)).symm)
    rw [E.mul_one] at this
    exact this
  have hwi : Co (E.mul (u * i % lP) P) (E.mul i (E.mul u P)) := by
    rw [← E.mul_mul]
    exact co_mod hp.1 (Nat.mod_mod _ _)
  constructor
  · intro h
    have h1 := co_left.1 (co_trans (co_symm e3) (co_trans h e4))
    exact co_trans hwi (co_trans (co_mul h1 i) hvi)
  · intro h
    have h1 : Co (E.mul v (E.mul i (E.mul u P))) (E.mul v X) := co_mul (co_trans (co_symm hwi) h) v
    have h2 : Co (E.mul v (E.mul i (E.mul u P))) (E.mul u P) := by
      rw [← E.mul_mul, ← E.mul_mul]
      refine co_mod hp.1 ?_
      rw [Nat.mul_comm i v, Nat.mul_mod, hinv, Nat.mul_one, Nat.mod_mod]
    exact co_trans e3 (co_trans (co_left.2 (co_trans (co_symm h2) h1)) (co_symm e4))
end Go.Proofs.Ytdkmcpbjicnfmaa
