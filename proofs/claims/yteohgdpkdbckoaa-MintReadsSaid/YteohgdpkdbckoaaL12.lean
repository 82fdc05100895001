/-
  What signatures come to, in points of the group.
-/
import Derived.Test.YteohgdpkdbckoaaL11
import Derived.Test.YteohgdpkdbckoaaL9
import Derived.Test.YteohgdpkdbckoaaL8
namespace Go.Proofs.Yteohgdpkdbckoaa
open Go Vx Go.RowKit

theorem bE_ex : ∃ G, Pt bN G := by
  obtain ⟨P, h1, h2, _⟩ := base_rep
  exact ⟨P, Pt.of h1 h2⟩
noncomputable def bE : E := Classical.choose bE_ex
theorem bE_pt : Pt bN bE := Classical.choose_spec bE_ex
theorem bN_ne : bN ≠ 0 := base_ne
theorem lP_pos : 0 < lP := by unfold lP; decide
theorem okS_lt {a : Nat} (h : okS a = true) : a < lP := okS_iff.1 h
theorem okS_mod (n : Nat) : okS (n % lP) = true := okS_iff.2 (Nat.mod_lt _ lP_pos)
theorem restP_mod (a : Nat) : restP a = a % lP := restP_eq a
theorem restP_self {a : Nat} (h : okS a = true) : restP a = a := by rw [restP_mod, Nat.mod_eq_of_lt (okS_lt h)]
theorem okS_rest (n : Nat) : okS (restP n) = true := by rw [restP_mod]; exact okS_mod n
theorem okS_one : okS 1 = true := okS_iff.2 (by unfold lP; decide)
theorem ord_of {P : E} (he : Ev P) (hne : ¬ Co P 0) {n : Nat} : Co (E.mul n P) 0 ↔ n % lP = 0 := by
  constructor
  · intro h
    rcases Nat.eq_zero_or_pos (n % lP) with h0 | h0
    · exact h0
    · exfalso
      have hx : n % lP < lP := Nat.mod_lt _ lP_pos
      have h1 : Co (E.mul (n % lP) P) 0 := co_trans (co_mod he (Nat.mod_mod _ _)) h
      have hi := powL_inv' h0 hx rfl
      have h2 := co_mul h1 (powL (n % lP) (lP - 2))
      rw [← E.mul_mul, E.mul_of_zero] at h2
      have h3 : Co (E.mul 1 P) (E.mul (n % lP * powL (n % lP) (lP - 2)) P) := co_mod he (by rw [hi]; exact Nat.mod_eq_of_lt (by unfold lP; decide))
      rw [E.mul_one] at h3
      exact hne (co_trans h3 h2)
  · intro h
    exact co_mod he (b := 0) (by rw [h]; rfl)
theorem bE_ne : ¬ Co bE 0 := fun h => bN_ne (bE_pt.zero_iff.2 h)
theorem bE_ord {n : Nat} : Co (E.mul n bE) 0 ↔ n % lP = 0 := ord_of bE_pt.1 bE_ne
theorem co_cancel {X Y : E} (h : Co (X + Y) X) : Co Y 0 := by
  have h2 := co_add h (co_refl (-X))
  rw [E.add_comm X Y, E.add_assoc, E.add_neg, E.add_zero] at h2
  exact h2
theorem pub_pt {a : Nat} (ha : okS a = true) (h0 : a ≠ 0) : pubE a = 0 ∧ Pt (pubN a) (E.mul a bE) := by
  have := sum_pt1 ha bE_pt
  unfold pubE pubN
  rw [ha, decide_eq_false h0]
  exact this
theorem pub_bad {a : Nat} (h : ¬ (okS a = true ∧ a ≠ 0)) : pubE a = 50 ∧ pubN a = 0 := by
  unfold pubE pubN
  cases ha : okS a with
  | false => exact ⟨rfl, rfl⟩
  | true =>
    have h0 : a = 0 := Classical.byContradiction fun h1 => h ⟨ha, h1⟩
    rw [decide_eq_true h0]
    exact ⟨rfl, rfl⟩
theorem nonce_ok (a : Nat) (m : List (List D)) : okS (nonceN a m) = true ∧ nonceN a m ≠ 0 := by
  unfold nonceN
  by_cases h : nonceK a m = 0
  · rw [decide_eq_true h]
    exact ⟨okS_one, Nat.one_ne_zero⟩
  · rw [decide_eq_false h]
    exact ⟨okS_rest _, h⟩
theorem sgR_pt (a : Nat) (m : List (List D)) : Pt (sgR a m) (E.mul (nonceN a m) bE) := (sum_pt1 (nonce_ok a m).1 bE_pt).2
theorem chal_ok (p r : Nat) (m : List (List D)) : okS (chalN p r m) = true := by rw [chalN_eq]; exact okS_rest _
theorem sgX_eq {a : Nat} (ha : okS a = true) (m : List (List D)) : sgX a m = sgC a m * a % lP := by
  have hc : okS (sgC a m) = true := chal_ok _ _ _
  unfold sgX
  rw [hc, ha, restP_self hc, restP_self ha, restP_mod]
  rfl
theorem sgS_eq {a : Nat} (ha : okS a = true) (m : List (List D)) : sgS a m = (nonceN a m + sgX a m) % lP ∧ sgF a m = 0 := by
  have hk := (nonce_ok a m).1
  have hx : okS (sgX a m) = true := by rw [sgX_eq ha]; exact okS_mod _
  unfold sgS sgF
  rw [hk, hx, restP_self hk, restP_self hx, restP_mod]
  exact ⟨rfl, rfl⟩
/-- What was signed leads to the commitment. -/
theorem sg_co {a : Nat} (ha : okS a = true) (m : List (List D)) : Co (E.mul (sgS a m) bE) (E.mul (nonceN a m) bE + E.mul (sgC a m) (E.mul a bE)) := by
  rw [(sgS_eq ha m).1, sgX_eq ha]
  have h1 : Co (E.mul ((nonceN a m + sgC a m * a % lP) % lP) bE) (E.mul (nonceN a m + a * sgC a m) bE) := co_mod bE_pt.1 (by rw [Nat.mod_mod, Nat.add_mod_mod, Nat.mul_comm])
  rw [E.add_mul, E.mul_mul] at h1
  exact h1
theorem ver_pt {p r s : Nat} {m : List (List D)} {P R : E} (hp : Pt p P) (hr : Pt r R) (hs : okS s = true) (hl : m.length ≤ 1048576) :
    verE p m r s = bif decide (sumN [[.n s, .n bN]] = sumN [[.n 1, .n r], [.n (chalN p r m), .n p]]) then 0 else 120 := by
  unfold verE
  rw [decide_eq_false (show ¬ ((1048576 : Int) < (m.length : Nat)) by omega), hp.dec.1, hr.dec.1, hs]
  cases decide (sumN [[.n s, .n bN]] = sumN [[.n 1, .n r], [.n (chalN p r m), .n p]]) <;> rfl
theorem ver_iff {p r s : Nat} {m : List (List D)} {P R : E} (hp : Pt p P) (hr : Pt r R) (hs : okS s = true) :
    sumN [[.n s, .n bN]] = sumN [[.n 1, .n r], [.n (chalN p r m), .n p]] ↔ Co (E.mul s bE) (R + E.mul (chalN p r m) P) := by
  have h1 := (sum_pt1 hs bE_pt).2
  have h2 := (sum_pt2 okS_one hr (chal_ok p r m) hp).2
  rw [h1.eq_iff h2, E.mul_one]
theorem ver_ok {p r s : Nat} {m : List (List D)} {P R : E} (hp : Pt p P) (hr : Pt r R) (hs : okS s = true) (hl : m.length ≤ 1048576) (h : Co (E.mul s bE) (R + E.mul (chalN p r m) P)) : verE p m r s = 0 := by
  rw [ver_pt hp hr hs hl, decide_eq_true ((ver_iff hp hr hs).2 h)]; rfl
theorem ver_no {p r s : Nat} {m : List (List D)} {P R : E} (hp : Pt p P) (hr : Pt r R) (hs : okS s = true) (hl : m.length ≤ 1048576) (h : ¬ Co (E.mul s bE) (R + E.mul (chalN p r m) P)) : verE p m r s = 120 := by
  rw [ver_pt hp hr hs hl, decide_eq_false (fun e => h ((ver_iff hp hr hs).1 e))]; rfl
theorem sgS_ok {a : Nat} (ha : okS a = true) (m : List (List D)) : okS (sgS a m) = true := by rw [(sgS_eq ha m).1]; exact okS_mod _
theorem sgBad_ok {a : Nat} (ha : okS a = true) (h0 : a ≠ 0) {m : List (List D)} (hl : m.length ≤ 1048576) : sgBad a m = 0 := by
  unfold sgBad
  rw [(pub_pt ha h0).1, decide_eq_false (show ¬ ((1048576 : Int) < (m.length : Nat)) by omega)]
  rfl
/-- What was signed is taken. -/
theorem sg_taken {a : Nat} (ha : okS a = true) (h0 : a ≠ 0) {m : List (List D)} (hl : m.length ≤ 1048576) : verE (pubN a) m (sgR a m) (sgS a m) = 0 :=
  ver_ok (pub_pt ha h0).2 (sgR_pt a m) (sgS_ok ha m) hl (sg_co ha m)
/-- With another S it is not. -/
theorem sg_other {a b : Nat} (ha : okS a = true) (h0 : a ≠ 0) (hb : okS b = true) {m : List (List D)} (hl : m.length ≤ 1048576) :
    verE (pubN a) m (sgR a m) (restP (restP (sgS a m) + restP b)) = bif decide (b = 0) then 0 else 120 := by
  have hs := sgS_ok ha m
  rw [restP_self hs, restP_self hb, restP_mod]
  have hco := sg_co ha m
  have h1 : Co (E.mul ((sgS a m + b) % lP) bE) (E.mul (sgS a m) bE + E.mul b bE) := by
    rw [← E.add_mul]
    exact co_mod bE_pt.1 (Nat.mod_mod _ _)
  by_cases hb0 : b = 0
  · rw [decide_eq_true hb0, cond_true]
    refine ver_ok (pub_pt ha h0).2 (sgR_pt a m) (okS_mod _) hl ?_
    subst hb0
    have h2 : E.mul (sgS a m) bE + E.mul 0 bE = E.mul (sgS a m) bE := by rw [E.mul_zero, E.add_zero]
    rw [h2] at h1
    exact co_trans h1 hco
  · rw [decide_eq_false hb0, cond_false]
    refine ver_no (pub_pt ha h0).2 (sgR_pt a m) (okS_mod _) hl fun h => hb0 ?_
    have h2 := bE_ord.1 (co_cancel (co_trans (co_symm h1) (co_trans h (co_symm hco))))
    rw [Nat.mod_eq_of_lt (okS_lt hb)] at h2
    exact h2
/-- A signature of another message is taken only if the challenges are one. -/
theorem sg_unlike {a : Nat} (ha : okS a = true) (h0 : a ≠ 0) {m m' : List (List D)} (hl : m'.length ≤ 1048576) (hne : chalN (pubN a) (sgR a m) m' ≠ sgC a m) : verE (pubN a) m' (sgR a m) (sgS a m) = 120 := by
  refine ver_no (pub_pt ha h0).2 (sgR_pt a m) (sgS_ok ha m) hl fun h => hne ?_
  have hco := co_trans (co_symm (sg_co ha m)) h
  have hP := (pub_pt ha h0).2
  have hPne : ¬ Co (E.mul a bE) 0 := fun hc => by
    have := bE_ord.1 hc
    rw [Nat.mod_eq_of_lt (okS_lt ha)] at this
    exact h0 this
  have h2 := co_add (co_refl (-(E.mul (nonceN a m) bE))) hco
  rw [← E.add_assoc, ← E.add_assoc, E.add_comm (-(E.mul (nonceN a m) bE)), E.add_neg, E.zero_add, E.zero_add] at h2
  generalize hc : chalN (pubN a) (sgR a m) m' = c at *
  generalize hd : sgC a m = d at *
  have hcl : c < lP := by rw [← hc]; exact okS_lt (chal_ok _ _ _)
  have hdl : d < lP := by rw [← hd]; exact okS_lt (chal_ok _ _ _)
  have h3 := co_add h2 (co_refl (E.mul (lP - d) (E.mul a bE)))
  rw [← E.add_mul, ← E.add_mul] at h3
  have h4 : Co (E.mul (d + (lP - d)) (E.mul a bE)) 0 := (ord_of hP.1 hPne).2 (by rw [show d + (lP - d) = lP by omega, Nat.mod_self])
  have h5 := (ord_of hP.1 hPne).1 (co_trans (co_symm h3) h4)
  rcases Nat.lt_or_ge c d with h | h
  · rw [Nat.mod_eq_of_lt (by omega)] at h5; omega
  · have : c + (lP - d) = (c - d) + lP := by omega
    rw [this, Nat.add_mod_right, Nat.mod_eq_of_lt (by omega)] at h5
    omega
theorem pub_add {a b : Nat} (ha : okS a = true) (hb : okS b = true) (h1 : a ≠ 0) (h2 : b ≠ 0) (h3 : (a + b) % lP ≠ 0) :
    sumE [[.n 1, .n (pubN a)], [.n 1, .n (pubN b)]] = 0 ∧ sumN [[.n 1, .n (pubN a)], [.n 1, .n (pubN b)]] = pubN ((a + b) % lP) := by
  obtain ⟨e1, e2⟩ := sum_pt2 okS_one (pub_pt ha h1).2 okS_one (pub_pt hb h2).2
  refine ⟨e1, e2.eq (pub_pt (okS_mod _) h3).2 ?_⟩
  rw [E.mul_one, E.mul_one, ← E.add_mul]
  exact co_mod bE_pt.1 (Nat.mod_mod _ _).symm
end Go.Proofs.Yteohgdpkdbckoaa

/-
  The law's known signature, worked out.
-/
namespace Go.Proofs.Yteohgdpkdbckoaa
open Go Vx Go.RowKit

def greatC (s : Nat) (x : List (List D)) : Nat := hpackW (blkN k512 (blw x) (w8of s)).toL
def greatsC (s : Nat) (p : List (List D)) : Nat → Nat
  | 0 => s
  | i + 1 => greatC (greatsC s p i) ((p.drop (128 * i)).take 128)
def shaC (x : List (List D)) : Nat := outN (greatsC (hpackW k512.h) (hrestL 128 16 x (x.length : Nat)) ((hrestL 128 16 x (x.length : Nat)).length / 128))
theorem greatN_C (s : Nat) (x : List (List D)) : greatN s x = greatC s x := by unfold greatN; rw [seal_eq]; rfl
theorem greatsN_C (s : Nat) (p : List (List D)) : ∀ i, greatsN s p i = greatsC s p i
  | 0 => rfl
  | i + 1 => by rw [greatsN, greatsC, greatsN_C s p i, greatN_C]
theorem sha_C (x : List (List D)) : sha512N x = shaC x := by unfold sha512N; rw [seal_eq, greatsN_C]; rfl
abbrev abcL : List (List D) := [[.i 97], [.i 98], [.i 99]]
abbrev abdL : List (List D) := [[.i 97], [.i 98], [.i 100]]
theorem pt_mul {n c : Nat} (h : Pt n (E.mul c bE)) : n = encC (mulC4 c baseC) := by
  obtain ⟨P, h1, h2, _⟩ := base_rep
  have hb : Pt bN P := Pt.of h1 h2
  have hc : Co P bE := (hb.eq_iff bE_pt).1 rfl
  have h3 : Pt (rencP (mulC4 c (baseP ()))) (E.mul c P) := Pt.of (mulC4_rep c h1) (ev_mulE h2 _)
  have h4 := h.eq h3 (co_symm (co_mul hc c))
  rw [h4, rencP_C, baseP_C]
abbrev pb5 : Nat := 35711617013263642786200824652404949926957298723655034617396250384949589410536
abbrev k5 : Nat := 6435900126731163509797400637586497588703353019878708609095365614219859618364
abbrev r5 : Nat := 57508903943393600895749509425442319287243818866879131272463261763848326966948
theorem ok5 : okS 5 = true := okS_iff.2 (by unfold lP; decide)
theorem pub5C : encC (mulC4 5 baseC) = pb5 := by decide +kernel
theorem non5C : shaC (nonceL 5 abcL) % lP = k5 := by decide +kernel
theorem com5C : encC (mulC4 k5 baseC) = r5 := by decide +kernel
theorem cha5C : shaC (askL (chalL pb5 r5 abdL) 2 (ofStr sChallenge)) % lP ≠ shaC (askL (chalL pb5 r5 abcL) 2 (ofStr sChallenge)) % lP := by decide +kernel
theorem pub5 : pubN 5 = pb5 := by rw [pt_mul (pub_pt ok5 (by decide)).2, pub5C]
theorem non5 : nonceN 5 abcL = k5 := by
  have h : nonceK 5 abcL = k5 := by unfold nonceK; rw [restP_mod, sha_C, non5C]
  unfold nonceN
  rw [h]
  exact congrArg (fun b => bif b then 1 else k5) (decide_eq_false (by decide))
theorem com5 : sgR 5 abcL = r5 := by
  have h := sgR_pt 5 abcL
  rw [non5] at h
  rw [pt_mul h, com5C]
theorem cha5 : chalN (pubN 5) (sgR 5 abcL) abdL ≠ sgC 5 abcL := by
  unfold sgC
  rw [pub5, com5, chalN_eq, chalN_eq, restP_mod, restP_mod, sha_C, sha_C]
  exact cha5C
def known12O (e f v w : Int) : Out := bif decide (e = 0) then bif decide (f = 0) then bif decide (v = 0) then outV (vbool' (decide (w = 120))) else outV (vbool' false) else outV (vbool' false) else outV (vbool' false)
theorem known12_t (e f v w : Int) (h1 : e = 0) (h2 : f = 0) (h3 : v = 0) (h4 : w = 120) : known12O e f v w = outV (vbool' true) := by subst h1; subst h2; subst h3; subst h4; rfl

noncomputable def sKnown12F : List D → Option (List Bool × V)
  | [] => some ([], vbool' true)
  | _ => none
noncomputable def sKnown12 : FSpec := spec [] sKnown12F
noncomputable abbrev ilKnown12 : List (FuncId × Func) := []
set_option maxRecDepth 100000 in
theorem ilokKnown12 : IlOK Try.prog (ilTab ilKnown12) := IlOK.nil
end Go.Proofs.Yteohgdpkdbckoaa
