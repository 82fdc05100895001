/-
  What is proved is taken: relations, in points of the group.
-/
import Derived.Test.YtdkmcpbjicnfmaaLb80
namespace Go.Proofs.Ytdkmcpbjicnfmaa
open Go Vx Go.RowKit

theorem comT_len (s q : List (List D)) : (comT s q).length = q.length := by unfold comT; rw [List.length_map]
theorem neg_eq {c : Nat} (hc : okS c = true) : negS c = (lP - c) % lP := by
  have h0 : okS 0 = true := okS_iff.2 lP_pos
  have hcl := okS_lt hc
  have hl := lP_small
  unfold negS
  rw [hc, h0, restP_self h0, restP_self hc, restP_mod, restP_mod, minusS_eq]
  show (0 + (lP + 2 ^ 256 - c) % 2 ^ 256 % lP) % lP = _
  generalize lP = l at *
  generalize (2 : Nat) ^ 256 = t at *
  by_cases h : c = 0
  · subst h
    rw [Nat.sub_zero, Nat.add_mod_right, Nat.mod_eq_of_lt hl, Nat.mod_self, Nat.sub_zero, Nat.mod_self]
    exact Nat.zero_mod _
  · rw [show l + t - c = t + (l - c) by omega, Nat.add_mod_left, Nat.mod_eq_of_lt (show l - c < t by omega), Nat.zero_add, Nat.mod_mod]
theorem negS_ok {c : Nat} (hc : okS c = true) : okS (negS c) = true := by rw [neg_eq hc]; exact okS_mod _
theorem rsp_eq {c a k : Nat} (hc : okS c = true) (ha : okS a = true) (hk : okS k = true) : rspN c a k = (k + c * a) % lP := by
  have hx : okS (restP (c * a)) = true := okS_rest _
  unfold rspN
  rw [hc, ha, hk, restP_self hc, restP_self ha, restP_self hk, Bool.and_self, cond_true, hx, restP_self hx, restP_mod, restP_mod, Nat.add_mod_mod]
  rfl
theorem rsp_ok {c a k : Nat} : okS (rspN c a k) = true := by
  unfold rspN
  generalize (okS k && okS (bif okS c && okS a then restP (restP c * restP a) else 0)) = b
  cases b with
  | false => exact okS_iff.2 lP_pos
  | true => exact okS_rest _
theorem prvS_len (c : Nat) (s k : List (List D)) (n : Nat) : (prvS c s k n).length = n := by unfold prvS; rw [List.length_map, List.length_range]
theorem prvS_at {c : Nat} {s k : List (List D)} {n i : Nat} (hi : i < n) : scAt (prvS c s k n) i = rspN c (scAt s i) (scAt k i) := by
  unfold prvS
  conv => lhs; unfold scAt
  rw [List.getD_eq_getElem?_getD, List.getElem?_map, List.getElem?_range hi]
  rfl
theorem allSc_of : ∀ {l : List (List D)}, (∀ i, i < l.length → okS (scAt l i) = true) → allSc l = true
  | [], _ => rfl
  | d :: l, h => by
    unfold allSc
    rw [show okS (eqA d) = true from h 0 (Nat.succ_pos _)]
    exact allSc_of fun i hi => h (i + 1) (Nat.succ_lt_succ hi)
theorem prvS_ok (c : Nat) (s k : List (List D)) (n : Nat) : allSc (prvS c s k n) = true := allSc_of fun i hi => by
  rw [prvS_len] at hi
  rw [prvS_at hi]
  exact rsp_ok
/-- Three sums of one relation's parts. -/
theorem com_three {c : Nat} {s k : List (List D)} (hc : okS c = true) (hs : allSc s = true) (hk : allSc k = true) (hl : k.length = s.length) : ∀ {q : List (List D)}, goodPa (s.length : Nat) q = true → ptPa q = true →
    ∃ R K X, Terms (comT (prvS c s k s.length) q) R ∧ Terms (comT k q) K ∧ Terms (comT s q) X ∧ Co R (K + E.mul c X)
  | [], _, _ => ⟨0, 0, 0, .nil, .nil, .nil, by rw [E.mul_of_zero, E.zero_add]; exact co_refl _⟩
  | p :: q, h, hp => by
    obtain ⟨h1, h2, h3⟩ := goodPa_cons h
    obtain ⟨p1, p2⟩ := ptPa_cons hp
    obtain ⟨R, K, X, t1, t2, t3, t4⟩ := com_three hc hs hk hl h3 p2
    obtain ⟨P, _, hP⟩ := Pt.of_dec p1
    have hi : (paS p).toNat < s.length := by omega
    have o1 := allSc_at hs hi
    have o2 := allSc_at hk (show (paS p).toNat < k.length by omega)
    have o3 : okS (scAt (prvS c s k s.length) (paS p).toNat) = true := by rw [prvS_at hi]; exact rsp_ok
    refine ⟨_, _, _, .cons o3 hP t1, .cons o2 hP t2, .cons o1 hP t3, ?_⟩
    rw [prvS_at hi, rsp_eq hc o1 o2]
    have e1 : Co (E.mul ((scAt k (paS p).toNat + c * scAt s (paS p).toNat) % lP) P) (E.mul (scAt k (paS p).toNat) P + E.mul c (E.mul (scAt s (paS p).toNat) P)) := by
      rw [← E.mul_mul, ← E.add_mul]
      exact co_mod hP.1 (by rw [Nat.mod_mod, Nat.mul_comm])
    rw [E.mul_add]
    have e2 := co_add e1 t4
    generalize E.mul (scAt k (paS p).toNat) P = A at *
    generalize E.mul c (E.mul (scAt s (paS p).toNat) P) = B at *
    generalize E.mul c X = C at *
    have e3 : A + K + (B + C) = A + B + (K + C) := by
      rw [E.add_assoc, E.add_assoc, ← E.add_assoc K, E.add_comm K B, E.add_assoc B]
    rw [e3]
    exact e2
theorem neg_co {c : Nat} (hc : okS c = true) {P : E} (he : Ev P) : Co (E.mul (negS c) P + E.mul c P) 0 := by
  rw [neg_eq hc, ← E.add_mul]
  refine co_mod he (b := 0) ?_
  rw [Nat.mod_add_mod, Nat.sub_add_cancel (Nat.le_of_lt (okS_lt hc)), Nat.mod_self]
  rfl
/-- The commitment comes out of the answers. -/
theorem vfy_com {c a : Nat} {s k q : List (List D)} (hc : okS c = true) (hs : allSc s = true) (hk : allSc k = true) (hl : k.length = s.length) (hq : goodPa (s.length : Nat) q = true) (hn : q.length ≤ 16) (hp : ptPa q = true) (ha : a = comN s q) :
    sumN ([.n (negS c), .n a] :: comT (prvS c s k s.length) q) = comN k q := by
  obtain ⟨R, K, X, t1, t2, t3, t4⟩ := com_three hc hs hk hl hq hp
  have hX := (sum_pt t3 (by rw [comT_len]; omega)).2
  have hK := (sum_pt t2 (by rw [comT_len]; omega)).2
  have hA : Pt a X := by rw [ha]; exact hX
  have h1 := (sum_pt (.cons (negS_ok hc) hA t1) (by show (comT _ q).length + 1 ≤ 64; rw [comT_len]; omega)).2
  refine h1.eq hK ?_
  have h2 := co_add (co_refl (E.mul (negS c) X)) t4
  have h3 := co_add (co_refl K) (neg_co hc hX.1)
  rw [E.add_zero] at h3
  rw [← E.add_assoc, E.add_comm (E.mul (negS c) X) K, E.add_assoc] at h2
  exact co_trans h2 h3
end Go.Proofs.Ytdkmcpbjicnfmaa
