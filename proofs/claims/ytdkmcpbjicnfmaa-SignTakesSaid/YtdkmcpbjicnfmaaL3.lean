/-
  Contracts of the document's numbers: the digits of p.
-/
import Derived.Test.YtdkmcpbjicnfmaaL2
import Derived.Test.YtdkmcpbjicnfmaaU1
namespace Go.Proofs.Ytdkmcpbjicnfmaa
open Go Vx Go.RowKit

def treePrime (b0 b7 : Bool) : Out := bif b0 then outV (vu64 4294967277) else bif b7 then outV (vu64 2147483647) else outV (vu64 4294967295)
theorem treePrime_eq (b0 b7 : Bool) : treePrime b0 b7 = outV (vu64 (bif b0 then 4294967277 else bif b7 then 2147483647 else 4294967295)) := by cases b0 <;> cases b7 <;> rfl

noncomputable def sNPrimeF : List D → Option (List Bool × V)
  | [.i i] => some ([], vu64 (primeI i))
  | _ => none
noncomputable def sNPrime : FSpec := spec [ti64] sNPrimeF
noncomputable abbrev tabNPrime : List (FuncId × FSpec) := []
set_option maxRecDepth 100000 in
theorem tabokNPrime : TabOK Try.prog (tabOf tabNPrime) := TabOK.nil

def treeB (d : Nat → Int) : Nat → Out
  | 0 => outV (vbool' false)
  | i + 1 => bif !decide (d i = primeI (i : Int)) then outV (vbool' (decide (d i < primeI (i : Int)))) else treeB d i
theorem treeB_eq (d : Nat → Int) : ∀ m, (∀ i, i < m → 0 ≤ d i ∧ d i < 4294967296) → treeB d m = outV (vbool' (decide (psum d m < psum primeD m)))
  | 0, _ => by simp [treeB, psum]
  | m + 1, h => by
    have hl := psum_lt (q := primeD) h (fun i _ => primeD_rng i)
    unfold treeB
    cases he : decide (d m = primeI (m : Int)) with
    | true =>
      have he' : d m = primeD m := of_decide_eq_true he
      simp only [Bool.not_true, cond_false]
      rw [treeB_eq d m (fun i hi => h i (by omega))]
      congr 2
      refine decide_eq_decide.2 ?_
      rw [hl]
      constructor
      · intro hx; exact .inr ⟨he', hx⟩
      · rintro (hx | ⟨_, hx⟩)
        · omega
        · exact hx
    | false =>
      have he' : d m ≠ primeD m := of_decide_eq_false he
      simp only [Bool.not_false, cond_true]
      congr 2
      refine decide_eq_decide.2 ?_
      rw [hl]
      constructor
      · intro hx; exact .inl hx
      · rintro (hx | ⟨hx, _⟩)
        · exact hx
        · exact absurd hx he'

noncomputable def sNBelowF : List D → Option (List Bool × V)
  | [.i a, .i b, .i c, .i d, .i e, .i f, .i g, .i h] => some (([a, b, c, d, e, f, g, h].map lt32), vbool' (lowI (sum8 a b c d e f g h)))
  | _ => none
noncomputable def sNBelow : FSpec := spec [tdig8] sNBelowF
end Go.Proofs.Ytdkmcpbjicnfmaa

/-
  Contracts of the document's numbers: Reduce.
-/
namespace Go.Proofs.Ytdkmcpbjicnfmaa
open Go Vx Go.RowKit

def dl (d : Nat → Int) : List L := [.int .u64 (d 0), .int .u64 (d 1), .int .u64 (d 2), .int .u64 (d 3), .int .u64 (d 4), .int .u64 (d 5), .int .u64 (d 6), .int .u64 (d 7)]

theorem ent_dl {e : Nat → Int} {n : Nat} (h : ∀ i, 0 ≤ e i ∧ e i < 4294967296) (hn : psum e 8 = (n : Int)) : VEnt (.ag (.ps (dl e))) (vnm n) := by
  have hb : n < 2 ^ (32 * 8) := by
    have := (psum_rng (d := e) 8 (fun i _ => h i)).2
    rw [hn] at this
    exact_mod_cast this
  refine ent_pk (f := e) hb rfl (by decide) fun i hi => ?_
  rw [← psum_digit h 8 i hi, hn]
  unfold digit
  have h2 : ((2 : Int) ^ (32 * i)) = ((2 ^ (32 * i) : Nat) : Int) := by simp
  rw [h2]
  simp only [Nat.reducePow]
  omega

/-- What a last pass and a last subtraction make. -/
theorem red_end {N : Int} {d : Nat → Int} (h : RInv N 2 d) : 0 ≤ psum (eAt (fixD d)) 8 ∧ psum (eAt (fixD d)) 8 < 57896044618658097711785492504343953926634992332820282019728792003956564819949 + 38 ∧ psum (eAt (fixD d)) 8 % 57896044618658097711785492504343953926634992332820282019728792003956564819949 = N % 57896044618658097711785492504343953926634992332820282019728792003956564819949 ∧
    (57896044618658097711785492504343953926634992332820282019728792003956564819949 ≤ psum (eAt (fixD d)) 8 → psum (oAt (eAt (fixD d))) 8 = psum (eAt (fixD d)) 8 - 57896044618658097711785492504343953926634992332820282019728792003956564819949) := by
  obtain ⟨h1, h2, h3, h4⟩ := fixD_facts h
  obtain ⟨c1, c2, c3⟩ := pass h1 8 (Nat.le_refl _)
  obtain ⟨e1, e2⟩ := psum_rng (d := eAt (fixD d)) 8 (fun i _ => eAt_rng i)
  obtain ⟨b1, b2, b3⟩ := borrow (d := eAt (fixD d)) (m := 8) (fun i _ => eAt_rng i) 8 (Nat.le_refl _)
  obtain ⟨o1, o2⟩ := psum_rng (d := oAt (eAt (fixD d))) 8 (fun i _ => oAt_rng i)
  have hp : (2 : Int) ^ (32 * 8) = 115792089237316195423570985008687907853269984665640564039457584007913129639936 := by decide
  rw [hp] at c3 e2 b3 o2
  rw [primeD_sum] at b3
  have hc : cAt (fixD d) 8 = 0 := by clear h1 h2 b3 o1 o2 b1 b2; omega
  rw [hc] at c3
  have hS : psum (eAt (fixD d)) 8 = psum (fixD d) 8 := by clear h1 h2 b3 o1 o2 b1 b2; omega
  rw [hS] at *
  refine ⟨h3, by clear h1 h2 b3 o1 o2; omega, h2, fun hge => ?_⟩
  have hb : bAt (eAt (fixD d)) 8 = 0 := by clear h1 h2; omega
  rw [hb] at b3
  clear h1 h2
  omega

noncomputable def sNReduceF : List D → Option (List Bool × V)
  | [.i a, .i b, .i c, .i d, .i e, .i f, .i g, .i h] => some (([a, b, c, d, e, f, g, h].map lt40), vnm (redI (sum8 a b c d e f g h)))
  | _ => none
noncomputable def sNReduce : FSpec := spec [tdig8] sNReduceF
end Go.Proofs.Ytdkmcpbjicnfmaa

/-
  Contracts of the document's numbers: Words.
-/
namespace Go.Proofs.Ytdkmcpbjicnfmaa
open Go Vx Go.RowKit

def wD (n : Nat) (i : Nat) : Int := ((digit 64 n (i / 2) : Nat) : Int) / ((2 ^ (32 * (i % 2)) : Nat) : Int) % 4294967296
theorem wD_rng (n i : Nat) : 0 ≤ wD n i ∧ wD n i < 4294967296 := ⟨Int.emod_nonneg _ (by decide), Int.emod_lt_of_pos _ (by decide)⟩
theorem wD_digit (n i : Nat) : wD n i = (digit 32 n i : Nat) := by
  unfold wD digit
  rw [← Int.natCast_ediv]
  have e1 : n / 2 ^ (64 * (i / 2)) % 2 ^ 64 / 2 ^ (32 * (i % 2)) % 4294967296 = n / 2 ^ (32 * i) % 2 ^ 32 := by
    have hlt : i % 2 < 2 := Nat.mod_lt _ (by decide)
    have e2 : (2 : Nat) ^ 64 = 2 ^ (32 * (i % 2)) * 2 ^ (64 - 32 * (i % 2)) := by rw [← Nat.pow_add]; congr 1; omega
    rw [e2, Nat.mod_mul_right_div_self, Nat.div_div_eq_div_mul, ← Nat.pow_add]
    have e3 : (2 : Nat) ^ (64 - 32 * (i % 2)) = 4294967296 * 2 ^ (32 - 32 * (i % 2)) := by
      rw [show (4294967296 : Nat) = 2 ^ 32 from rfl, ← Nat.pow_add]; congr 1; omega
    rw [e3, Nat.mod_mul_right_mod]
    congr 3
    omega
  rw [← e1]
  rfl
theorem psum_digits (n : Nat) : ∀ m, psum (fun i => ((digit 32 n i : Nat) : Int)) m = ((n % 2 ^ (32 * m) : Nat) : Int)
  | 0 => by simp [psum, Nat.mod_one]
  | m + 1 => by
    rw [psum, psum_digits n m, show 32 * (m + 1) = 32 * m + 32 from rfl, Nat.pow_add, Nat.mod_mul]
    unfold digit
    rw [Int.natCast_add, Int.natCast_mul, Int.mul_comm]
    simp
theorem words_eq {n : Nat} (hn : n < 115792089237316195423570985008687907853269984665640564039457584007913129639936) : redI (sum8 (wD n 0) (wD n 1) (wD n 2) (wD n 3) (wD n 4) (wD n 5) (wD n 6) (wD n 7)) = canP n := by
  rw [sum8_fn, redI_eq, canP_eq, psum_congr 8 (fun i _ => wD_digit n i), psum_digits, show (2 : Nat) ^ (32 * 8) = 115792089237316195423570985008687907853269984665640564039457584007913129639936 from by decide +kernel, Nat.mod_eq_of_lt hn]
  unfold pP
  clear hn
  omega
theorem lt40_of {x : Int} (h : 0 ≤ x ∧ x < 4294967296) : lt40 x = true := by rw [lt40_eq, decide_eq_true_iff]; omega

noncomputable def sNWordsF : List D → Option (List Bool × V)
  | [.n n] => some ([], vnm (canP n))
  | _ => none
noncomputable def sNWords : FSpec := spec [tfe] sNWordsF
end Go.Proofs.Ytdkmcpbjicnfmaa

/-
  Contracts of the document's numbers: Mul.
-/
namespace Go.Proofs.Ytdkmcpbjicnfmaa
open Go Vx Go.RowKit

def al (r : Nat → Int) : List L := [.int .u64 (r 0), .int .u64 (r 1), .int .u64 (r 2), .int .u64 (r 3), .int .u64 (r 4), .int .u64 (r 5), .int .u64 (r 6), .int .u64 (r 7), .int .u64 (r 8), .int .u64 (r 9), .int .u64 (r 10), .int .u64 (r 11), .int .u64 (r 12), .int .u64 (r 13), .int .u64 (r 14), .int .u64 (r 15)]
def dg (n i : Nat) : Int := ((digit 32 n i : Nat) : Int)
theorem dg_rng (n i : Nat) : 0 ≤ dg n i ∧ dg n i < 4294967296 := by
  unfold dg digit
  have := Nat.mod_lt (n / 2 ^ (32 * i)) (show 2 ^ 32 > 0 by decide)
  simp only [Nat.reducePow] at *
  omega
def cM (r : Nat → Int) (i : Nat) : Int := wrapK .u64 (r i + wrapK .u64 (38 * r (i + 8)))

theorem mul_end {a b : Nat} (ha : a < 115792089237316195423570985008687907853269984665640564039457584007913129639936) (hb : b < 115792089237316195423570985008687907853269984665640564039457584007913129639936) {r : Nat → Int} (h : MInv (dg a) (dg b) 8 r) :
    (∀ i, 0 ≤ cM r i ∧ cM r i < 1099511627776) ∧ redI (psum (cM r) 8) = mulP a b := by
  have hc : ∀ i, cM r i = r i + 38 * r (8 + i) := fun i => by
    have h1 := h.rng i
    have h2 := h.rng (i + 8)
    unfold cM
    rw [Nat.add_comm 8 i]
    simp only [wrapK]
    omega
  refine ⟨fun i => ?_, ?_⟩
  · have h1 := h.rng i
    have h2 := h.rng (8 + i)
    rw [hc]; omega
  · have hs : ∀ m, psum (cM r) m = psum r m + 38 * psum (fun k => r (8 + k)) m := by
      intro m
      induction m with
      | zero => simp [psum]
      | succ m ih =>
        have e : psum (fun k => r (8 + k)) (m + 1) = psum (fun k => r (8 + k)) m + r (8 + m) * 2 ^ (32 * m) := rfl
        rw [psum, ih, hc, e, psum, Int.add_mul, Int.mul_add, Int.mul_assoc 38]
        omega
    have hv := h.val
    rw [psum_shift r 8 8] at hv
    have pa : psum (dg a) 8 = (a : Int) := by
      have : psum (dg a) 8 = ((a % 2 ^ (32 * 8) : Nat) : Int) := psum_digits a 8
      rw [this, show (2 : Nat) ^ (32 * 8) = 115792089237316195423570985008687907853269984665640564039457584007913129639936 from by decide +kernel, Nat.mod_eq_of_lt ha]
    have pb : psum (dg b) 8 = (b : Int) := by
      have : psum (dg b) 8 = ((b % 2 ^ (32 * 8) : Nat) : Int) := psum_digits b 8
      rw [this, show (2 : Nat) ^ (32 * 8) = 115792089237316195423570985008687907853269984665640564039457584007913129639936 from by decide +kernel, Nat.mod_eq_of_lt hb]
    rw [pa, pb, show (2 : Int) ^ (32 * 8) = 115792089237316195423570985008687907853269984665640564039457584007913129639936 from by decide +kernel] at hv
    rw [redI_eq, mulP_eq, hs]
    have e : psum r 8 + 38 * psum (fun k => r (8 + k)) 8 = ((a * b : Nat) : Int) - 2 * psum (fun k => r (8 + k)) 8 * 57896044618658097711785492504343953926634992332820282019728792003956564819949 := by
      rw [Int.natCast_mul, ← hv]
      generalize psum (fun k => r (8 + k)) 8 = q
      clear hv pa pb
      omega
    rw [e, Int.sub_mul_emod_self_right]
    unfold pP
    generalize a * b = c
    clear hv e
    omega

noncomputable def sNMulF : List D → Option (List Bool × V)
  | [.n a, .n b] => some ([], vnm (mulP a b))
  | _ => none
noncomputable def sNMul : FSpec := spec [tnm, tnm] sNMulF
end Go.Proofs.Ytdkmcpbjicnfmaa
