/-
  What relations are: their parts, what they come to.
-/
import Derived.Test.YtdkmcpbjicnfmaaGreatL12
namespace Go.Proofs.YtdkmcpbjicnfmaaGreat
open Go Vx Go.RowKit

abbrev teqs : Ty := .one (.sl [.pk .u8 8 32, .sl [.int .i64, .pk .u8 8 32]])
abbrev veqs (x : List (List D)) : V := .one (.rd [.pk .u8 8 32, .sl [.int .i64, .pk .u8 8 32]] x)
abbrev tscs : Ty := .one (.sl [.pk .u8 8 32])
abbrev vscs (x : List (List D)) : V := .one (.rd [.pk .u8 8 32] x)
abbrev teqn : Ty := .ag [.pk .u8 8 32, .sl [.int .i64, .pk .u8 8 32]]
abbrev veqn (a : Nat) (x : List (List D)) : V := .ag (.ps [.pk .u8 8 32 a, .rd [.int .i64, .pk .u8 8 32] x])
abbrev vnil : V := .one .nilsl
def eqA (e : List D) : Nat := (e.headD (.n 0)).toN
def eqP (e : List D) : List (List D) := (e.tail.headD (.n 0)).toL
def paS (p : List D) : Int := (p.headD (.n 0)).toI
def paB (p : List D) : Nat := (p.tail.headD (.n 0)).toN
def scAt (l : List (List D)) (i : Nat) : Nat := eqA (l.getD i [])
noncomputable def allSc : List (List D) → Bool
 | [] => true
 | d :: l => bif !okS (eqA d) then false else allSc l
def goodPa (n : Int) : List (List D) → Bool
 | [] => true
 | p :: l => bif decide (paS p < 0) then false else bif decide (n ≤ paS p) then false else goodPa n l
def goodEq (n : Int) : List (List D) → Bool
 | [] => true
 | e :: l => bif decide ((16 : Int) < ((eqP e).length : Nat)) then false else bif !goodPa n (eqP e) then false else goodEq n l
def rgtB (l : Nat) (x : List (List D)) (n : Int) : Bool := bif decide ((1000 : Int) < (l : Nat)) then false else bif decide (((x.length : Nat) : Int) < 1) then false else bif decide ((16 : Int) < (x.length : Nat)) then false else bif decide (n < 1) then false else
 bif decide ((32 : Int) < n) then false else goodEq n x
noncomputable def ptPa : List (List D) → Bool
 | [] => true
 | p :: l => bif !rdecBP (paB p) then false else ptPa l
noncomputable def ptEq : List (List D) → Bool
 | [] => true
 | e :: l => bif !rdecBP (eqA e) then false else bif !ptPa (eqP e) then false else ptEq l
def comT (l q : List (List D)) : List (List D) := q.map fun p => [.n (scAt l (paS p).toNat), .n (paB p)]
noncomputable def comN (l q : List (List D)) : Nat := sumN (comT l q)
noncomputable def metB (s : List (List D)) : List (List D) → Bool
 | [] => true
 | e :: l => bif !decide (comN s (eqP e) = eqA e) then false else metB s l
theorem allSc_at : ∀ {l : List (List D)}, allSc l = true → ∀ {i : Nat}, i < l.length → okS (scAt l i) = true
 | [], _, i, hi => absurd hi (Nat.not_lt_zero i)
 | d :: l, h, i, hi => by
   unfold allSc at h
   cases hd : okS (eqA d) with
   | false => rw [hd] at h; cases h
   | true =>
     rw [hd] at h
     cases i with
     | zero => exact hd
     | succ i => exact allSc_at (l := l) h (Nat.lt_of_succ_lt_succ hi)
theorem goodPa_cons {n : Int} {p : List D} {l : List (List D)} (h : goodPa n (p :: l) = true) : 0 ≤ paS p ∧ paS p < n ∧ goodPa n l = true := by
 unfold goodPa at h
 by_cases h1 : paS p < 0
 · rw [decide_eq_true h1] at h; cases h
 · by_cases h2 : n ≤ paS p
   · rw [decide_eq_false h1, decide_eq_true h2] at h; cases h
   · rw [decide_eq_false h1, decide_eq_false h2] at h
     exact ⟨by omega, by omega, h⟩
theorem ptPa_cons {p : List D} {l : List (List D)} (h : ptPa (p :: l) = true) : rdecBP (paB p) = true ∧ ptPa l = true := by
 unfold ptPa at h
 cases h1 : rdecBP (paB p) with
 | false => rw [h1] at h; cases h
 | true => rw [h1] at h; exact ⟨rfl, h⟩
theorem goodEq_cons {n : Int} {e : List D} {l : List (List D)} (h : goodEq n (e :: l) = true) : (eqP e).length ≤ 16 ∧ goodPa n (eqP e) = true ∧ goodEq n l = true := by
 unfold goodEq at h
 by_cases h1 : (16 : Int) < ((eqP e).length : Nat)
 · rw [decide_eq_true h1] at h; cases h
 · rw [decide_eq_false h1] at h
   cases h2 : goodPa n (eqP e) with
   | false => rw [h2] at h; cases h
   | true => rw [h2] at h; exact ⟨by omega, rfl, h⟩
theorem ptEq_cons {e : List D} {l : List (List D)} (h : ptEq (e :: l) = true) : rdecBP (eqA e) = true ∧ ptPa (eqP e) = true ∧ ptEq l = true := by
 unfold ptEq at h
 cases h1 : rdecBP (eqA e) with
 | false => rw [h1] at h; cases h
 | true =>
   rw [h1] at h
   cases h2 : ptPa (eqP e) with
   | false => rw [h2] at h; cases h
   | true => rw [h2] at h; exact ⟨rfl, rfl, h⟩
theorem rgtB_t {l : Nat} {x : List (List D)} {n : Int} (h : rgtB l x n = true) : l ≤ 1000 ∧ 1 ≤ x.length ∧ x.length ≤ 16 ∧ 1 ≤ n ∧ n ≤ 32 ∧ goodEq n x = true := by
 unfold rgtB at h
 by_cases h1 : (1000 : Int) < (l : Nat)
 · rw [decide_eq_true h1] at h; cases h
 rw [decide_eq_false h1] at h
 by_cases h2 : ((x.length : Nat) : Int) < 1
 · rw [decide_eq_true h2] at h; cases h
 rw [decide_eq_false h2] at h
 by_cases h3 : (16 : Int) < (x.length : Nat)
 · rw [decide_eq_true h3] at h; cases h
 rw [decide_eq_false h3] at h
 by_cases h4 : n < 1
 · rw [decide_eq_true h4] at h; cases h
 rw [decide_eq_false h4] at h
 by_cases h5 : (32 : Int) < n
 · rw [decide_eq_true h5] at h; cases h
 rw [decide_eq_false h5] at h
 exact ⟨by omega, by omega, by omega, by omega, by omega, h⟩
abbrev sRelate : ByteArray := ⟨#[114, 101, 108, 97, 116, 101]⟩
abbrev sLabel : ByteArray := ⟨#[108, 97, 98, 101, 108]⟩
abbrev sSecrets : ByteArray := ⟨#[115, 101, 99, 114, 101, 116, 115]⟩
abbrev sLeft : ByteArray := ⟨#[108, 101, 102, 116]⟩
abbrev sPart : ByteArray := ⟨#[112, 97, 114, 116]⟩
def partX (x : List (List D)) (p : List D) : List (List D) := addL x sPart (b4L (paS p).toNat ++ pkL 32 (paB p))
def partsX (x : List (List D)) : List (List D) → List (List D)
 | [] => x
 | p :: l => partsX (partX x p) l
def eqX (x : List (List D)) (e : List D) (c : Nat) : List (List D) := addL (partsX (addL x sLeft (pkL 32 (eqA e))) (eqP e)) sCommit (pkL 32 c)
def relX (com : Nat → Nat) (x : List (List D)) (j : Nat) : List (List D) → List (List D)
 | [] => x
 | e :: l => relX com (eqX x e (com j)) (j + 1) l
def relS (t : ByteArray) (n : Nat) : List (List D) := addL (addL (newL sRelate) sLabel (ofStr t)) sSecrets (b4L n)
noncomputable def relN : ByteArray → List (List D) → Nat → (Nat → Nat) → Nat := hidden' fun t x n com => restP (sha512N (askL (relX com (relS t n) 0 x) 2 (ofStr sChallenge)))
theorem relN_eq (t : ByteArray) (x : List (List D)) (n : Nat) (com : Nat → Nat) : relN t x n com = restP (sha512N (askL (relX com (relS t n) 0 x) 2 (ofStr sChallenge))) := by unfold relN; rw [seal_eq]
theorem relX_congr {com com' : Nat → Nat} : ∀ {l x : List (List D)} {j : Nat}, (∀ i, i < l.length → com (j + i) = com' (j + i)) → relX com x j l = relX com' x j l
 | [], _, _, _ => rfl
 | e :: l, x, j, h => by
   unfold relX
   rw [show com j = com' j from h 0 (Nat.succ_pos _)]
   exact relX_congr fun i hi => by
    have := h (i + 1) (Nat.succ_lt_succ hi)
    rw [show j + 1 + i = j + (i + 1) by omega]
    exact this
theorem relN_congr {com com' : Nat → Nat} {t : ByteArray} {x : List (List D)} {n : Nat} (h : ∀ i, i < x.length → com i = com' i) : relN t x n com = relN t x n com' := by
 rw [relN_eq, relN_eq, relX_congr (com := com) (com' := com') fun i hi => by rw [Nat.zero_add]; exact h i hi]
noncomputable def rspN (c a k : Nat) : Nat := bif okS k && okS (bif okS c && okS a then restP (restP c * restP a) else 0) then restP (restP k + restP (bif okS c && okS a then restP (restP c * restP a) else 0)) else 0
noncomputable def prvC (t : ByteArray) (x s k : List (List D)) : Nat := relN t x s.length fun j => comN k (eqP (x.getD j []))
noncomputable def prvS (c : Nat) (s k : List (List D)) (n : Nat) : List (List D) := (List.range n).map fun i => [.n (rspN c (scAt s i) (scAt k i))]
noncomputable def prvE (t : ByteArray) (x s k : List (List D)) : Int := bif !rgtB t.size x (s.length : Nat) then 2 else bif !decide (((k.length : Nat) : Int) = (s.length : Nat)) then 2 else bif !allSc s then 50 else bif !allSc k then 50 else bif !ptEq x then 51 else bif !metB s x then 110 else 0
noncomputable def negS (c : Nat) : Nat := bif okS 0 && okS c then restP (restP 0 + restP (minusS 7237005577332262213973186563042994240857116359379907606001950938285454250989 (restP c))) else 0
noncomputable def vfyC (t : ByteArray) (x : List (List D)) (n : Nat) (c : Nat) (s : List (List D)) : Nat := relN t x n fun j => sumN ([.n (negS c), .n (eqA (x.getD j []))] :: comT s (eqP (x.getD j [])))
noncomputable def vfyE (t : ByteArray) (x : List (List D)) (n : Int) (c : Nat) (s : List (List D)) : Int := bif !rgtB t.size x n then 2 else bif !decide (((s.length : Nat) : Int) = n) then 2 else bif !okS c then 50 else bif !allSc s then 50 else bif !ptEq x then 51 else
 bif !decide (vfyC t x n.toNat c s = c) then 110 else 0
end Go.Proofs.YtdkmcpbjicnfmaaGreat

/-
  What is proved is taken: relations, in points of the group.
-/
namespace Go.Proofs.YtdkmcpbjicnfmaaGreat
open Go Vx Go.RowKit

theorem comT_len (s q : List (List D)) : (comT s q).length = q.length := by unfold comT; rw [List.length_map]
theorem neg_eq {c : Nat} (hc : okS c = true) : negS c = (lP - c) % lP := by
 have h0 : okS 0 = true := okS_iff.2 lP_pos
 have hcl := okS_lt hc
 have hl := lP_small
 unfold negS
 rw [hc, h0, restP_self h0, restP_self hc, restP_mod, restP_mod, minusS_eq]
 show (0 + (lP + 2 ^ 256 - c) % 2 ^ 256 % lP) % lP = _
 generalize lP = l at *
 generalize (2 : Nat) ^ 256 = t at *
 by_cases h : c = 0
 · subst h
   rw [Nat.sub_zero, Nat.add_mod_right, Nat.mod_eq_of_lt hl, Nat.mod_self, Nat.sub_zero, Nat.mod_self]
   exact Nat.zero_mod _
 · rw [show l + t - c = t + (l - c) by omega, Nat.add_mod_left, Nat.mod_eq_of_lt (show l - c < t by omega), Nat.zero_add, Nat.mod_mod]
theorem negS_ok {c : Nat} (hc : okS c = true) : okS (negS c) = true := by rw [neg_eq hc]; exact okS_mod _
theorem rsp_eq {c a k : Nat} (hc : okS c = true) (ha : okS a = true) (hk : okS k = true) : rspN c a k = (k + c * a) % lP := by
 have hx : okS (restP (c * a)) = true := okS_rest _
 unfold rspN
 rw [hc, ha, hk, restP_self hc, restP_self ha, restP_self hk, Bool.and_self, cond_true, hx, restP_self hx, restP_mod, restP_mod, Nat.add_mod_mod]
 rfl
theorem rsp_ok {c a k : Nat} : okS (rspN c a k) = true := by
 unfold rspN
 generalize (okS k && okS (bif okS c && okS a then restP (restP c * restP a) else 0)) = b
 cases b with
 | false => exact okS_iff.2 lP_pos
 | true => exact okS_rest _
theorem prvS_len (c : Nat) (s k : List (List D)) (n : Nat) : (prvS c s k n).length = n := by unfold prvS; rw [List.length_map, List.length_range]
theorem prvS_at {c : Nat} {s k : List (List D)} {n i : Nat} (hi : i < n) : scAt (prvS c s k n) i = rspN c (scAt s i) (scAt k i) := by
 unfold prvS
 conv => lhs; unfold scAt
 rw [List.getD_eq_getElem?_getD, List.getElem?_map, List.getElem?_range hi]
 rfl
theorem allSc_of : ∀ {l : List (List D)}, (∀ i, i < l.length → okS (scAt l i) = true) → allSc l = true
 | [], _ => rfl
 | d :: l, h => by
   unfold allSc
   rw [show okS (eqA d) = true from h 0 (Nat.succ_pos _)]
   exact allSc_of fun i hi => h (i + 1) (Nat.succ_lt_succ hi)
theorem prvS_ok (c : Nat) (s k : List (List D)) (n : Nat) : allSc (prvS c s k n) = true := allSc_of fun i hi => by
 rw [prvS_len] at hi
 rw [prvS_at hi]
 exact rsp_ok
theorem com_three {c : Nat} {s k : List (List D)} (hc : okS c = true) (hs : allSc s = true) (hk : allSc k = true) (hl : k.length = s.length) : ∀ {q : List (List D)}, goodPa (s.length : Nat) q = true → ptPa q = true →
 ∃ R K X, Terms (comT (prvS c s k s.length) q) R ∧ Terms (comT k q) K ∧ Terms (comT s q) X ∧ Co R (K + E.mul c X)
 | [], _, _ => ⟨0, 0, 0, .nil, .nil, .nil, by rw [E.mul_of_zero, E.zero_add]; exact co_refl _⟩
 | p :: q, h, hp => by
   obtain ⟨h1, h2, h3⟩ := goodPa_cons h
   obtain ⟨p1, p2⟩ := ptPa_cons hp
   obtain ⟨R, K, X, t1, t2, t3, t4⟩ := com_three hc hs hk hl h3 p2
   obtain ⟨P, _, hP⟩ := Pt.of_dec p1
   have hi : (paS p).toNat < s.length := by omega
   have o1 := allSc_at hs hi
   have o2 := allSc_at hk (show (paS p).toNat < k.length by omega)
   have o3 : okS (scAt (prvS c s k s.length) (paS p).toNat) = true := by rw [prvS_at hi]; exact rsp_ok
   refine ⟨_, _, _, .cons o3 hP t1, .cons o2 hP t2, .cons o1 hP t3, ?_⟩
   rw [prvS_at hi, rsp_eq hc o1 o2]
   have e1 : Co (E.mul ((scAt k (paS p).toNat + c * scAt s (paS p).toNat) % lP) P) (E.mul (scAt k (paS p).toNat) P + E.mul c (E.mul (scAt s (paS p).toNat) P)) := by
    rw [← E.mul_mul, ← E.add_mul]
    exact co_mod hP.1 (by rw [Nat.mod_mod, Nat.mul_comm])
   rw [E.mul_add]
   have e2 := co_add e1 t4
   generalize E.mul (scAt k (paS p).toNat) P = A at *
   generalize E.mul c (E.mul (scAt s (paS p).toNat) P) = B at *
   generalize E.mul c X = C at *
   have e3 : A + K + (B + C) = A + B + (K + C) := by
    rw [E.add_assoc, E.add_assoc, ← E.add_assoc K, E.add_comm K B, E.add_assoc B]
   rw [e3]
   exact e2
theorem neg_co {c : Nat} (hc : okS c = true) {P : E} (he : Ev P) : Co (E.mul (negS c) P + E.mul c P) 0 := by
 rw [neg_eq hc, ← E.add_mul]
 refine co_mod he (b := 0) ?_
 rw [Nat.mod_add_mod, Nat.sub_add_cancel (Nat.le_of_lt (okS_lt hc)), Nat.mod_self]
 rfl
theorem vfy_com {c a : Nat} {s k q : List (List D)} (hc : okS c = true) (hs : allSc s = true) (hk : allSc k = true) (hl : k.length = s.length) (hq : goodPa (s.length : Nat) q = true) (hn : q.length ≤ 16) (hp : ptPa q = true) (ha : a = comN s q) :
 sumN ([.n (negS c), .n a] :: comT (prvS c s k s.length) q) = comN k q := by
 obtain ⟨R, K, X, t1, t2, t3, t4⟩ := com_three hc hs hk hl hq hp
 have hX := (sum_pt t3 (by rw [comT_len]; omega)).2
 have hK := (sum_pt t2 (by rw [comT_len]; omega)).2
 have hA : Pt a X := by rw [ha]; exact hX
 have h1 := (sum_pt (.cons (negS_ok hc) hA t1) (by show (comT _ q).length + 1 ≤ 64; rw [comT_len]; omega)).2
 refine h1.eq hK ?_
 have h2 := co_add (co_refl (E.mul (negS c) X)) t4
 have h3 := co_add (co_refl K) (neg_co hc hX.1)
 rw [E.add_zero] at h3
 rw [← E.add_assoc, E.add_comm (E.mul (negS c) X) K, E.add_assoc] at h2
 exact co_trans h2 h3
end Go.Proofs.YtdkmcpbjicnfmaaGreat
