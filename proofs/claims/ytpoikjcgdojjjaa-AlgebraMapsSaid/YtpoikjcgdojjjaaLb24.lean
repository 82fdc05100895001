/-
  Contracts of the document's numbers: sums, opposites, signs, bytes.
-/
import Derived.Test.YtpoikjcgdojjjaaLb23
namespace Go.Proofs.Ytpoikjcgdojjjaa
open Go Vx Go.RowKit

theorem rng_nm {n : Nat} (h : rngV (vnm n)) : n < 115792089237316195423570985008687907853269984665640564039457584007913129639936 := by
  have : n < 2 ^ (32 * 8) := h.1
  exact this
theorem dg_sum {n : Nat} (h : n < 115792089237316195423570985008687907853269984665640564039457584007913129639936) : psum (dg n) 8 = (n : Int) := by
  have : psum (dg n) 8 = ((n % 2 ^ (32 * 8) : Nat) : Int) := psum_digits n 8
  rw [this, show (2 : Nat) ^ (32 * 8) = 115792089237316195423570985008687907853269984665640564039457584007913129639936 from by decide +kernel, Nat.mod_eq_of_lt h]
def adD (a b : Nat) (i : Nat) : Int := wrapK .u64 (dg a i + dg b i)
theorem adD_eq (a b i : Nat) : adD a b i = dg a i + dg b i := by
  have h1 := dg_rng a i
  have h2 := dg_rng b i
  simp only [adD, wrapK]; omega
theorem add_end {a b : Nat} (ha : a < 115792089237316195423570985008687907853269984665640564039457584007913129639936) (hb : b < 115792089237316195423570985008687907853269984665640564039457584007913129639936) : redI (psum (adD a b) 8) = addP a b := by
  have hs : ∀ m, psum (adD a b) m = psum (dg a) m + psum (dg b) m := by
    intro m
    induction m with
    | zero => simp [psum]
    | succ m ih =>
      have e1 : psum (adD a b) (m + 1) = psum (adD a b) m + adD a b m * 2 ^ (32 * m) := rfl
      have e2 : psum (dg a) (m + 1) = psum (dg a) m + dg a m * 2 ^ (32 * m) := rfl
      have e3 : psum (dg b) (m + 1) = psum (dg b) m + dg b m * 2 ^ (32 * m) := rfl
      rw [e1, e2, e3, ih, adD_eq, Int.add_mul]; omega
  rw [hs, dg_sum ha, dg_sum hb, redI_eq, addP_eq]
  unfold pP
  clear hs
  omega

def ngP (i : Nat) : Int := 4294967296 + primeD i
def ngB (a : Nat) : Nat → Int
  | 0 => 0
  | i + 1 => wrapK .u64 (1 - wrapK .u64 (wrapK .u64 (ngP i - dg a i) - ngB a i) / 4294967296)
def ngO (a : Nat) (i : Nat) : Int := wrapK .u64 (wrapK .u64 (ngP i - dg a i) - ngB a i) % 4294967296
theorem ng_borrow (a : Nat) : ∀ i, 0 ≤ ngB a i ∧ ngB a i ≤ 1 ∧ psum (ngO a) i + psum (dg a) i = psum primeD i + ngB a i * 2 ^ (32 * i)
  | 0 => by simp [ngB, psum]
  | i + 1 => by
    obtain ⟨h1, h2, h3⟩ := ng_borrow a i
    obtain ⟨h4, h5⟩ := dg_rng a i
    obtain ⟨h6, h7⟩ := primeD_rng i
    have hw : wrapK .u64 (wrapK .u64 (ngP i - dg a i) - ngB a i) = 4294967296 + primeD i - dg a i - ngB a i := by
      simp only [wrapK, ngP]; omega
    have ho : ngO a i = (4294967296 + primeD i - dg a i - ngB a i) % 4294967296 := by rw [ngO, hw]
    have hb : ngB a (i + 1) = 1 - (4294967296 + primeD i - dg a i - ngB a i) / 4294967296 := by
      rw [ngB, hw]
      simp only [wrapK]; omega
    refine ⟨by rw [hb]; omega, by rw [hb]; omega, ?_⟩
    have hs : ngO a i + dg a i + ngB a i = primeD i + ngB a (i + 1) * 4294967296 := by rw [ho, hb]; omega
    have hp : (2 : Int) ^ (32 * (i + 1)) = 4294967296 * 2 ^ (32 * i) := by
      rw [Nat.mul_succ, Int.pow_add, Int.mul_comm]; rfl
    rw [psum, psum.eq_def (dg a), psum.eq_def primeD, hp]
    simp only []
    generalize (2 : Int) ^ (32 * i) = P at *
    have : ngO a i * P + dg a i * P + ngB a i * P = primeD i * P + ngB a (i + 1) * (4294967296 * P) := by
      rw [← Int.mul_assoc, ← Int.add_mul, ← Int.add_mul, ← Int.add_mul, hs]
    omega
theorem ngO_rng (a i : Nat) : 0 ≤ ngO a i ∧ ngO a i < 4294967296 := ⟨Int.emod_nonneg _ (by decide), Int.emod_lt_of_pos _ (by decide)⟩
noncomputable def negN : Nat → Nat := hidden' fun a => if a ≤ pP then (pP - a) % pP else (pP + 115792089237316195423570985008687907853269984665640564039457584007913129639936 - a) % pP
theorem negN_eq (a : Nat) : negN a = if a ≤ pP then (pP - a) % pP else (pP + 115792089237316195423570985008687907853269984665640564039457584007913129639936 - a) % pP := by unfold negN; rw [seal_eq]
theorem neg_end {a : Nat} (ha : a < 115792089237316195423570985008687907853269984665640564039457584007913129639936) : redI (psum (ngO a) 8) = negN a := by
  obtain ⟨h1, h2, h3⟩ := ng_borrow a 8
  obtain ⟨h4, h5⟩ := psum_rng (d := ngO a) 8 (fun i _ => ngO_rng a i)
  rw [dg_sum ha, primeD_sum, show (2 : Int) ^ (32 * 8) = 115792089237316195423570985008687907853269984665640564039457584007913129639936 from by decide +kernel] at h3
  rw [show (2 : Int) ^ (32 * 8) = 115792089237316195423570985008687907853269984665640564039457584007913129639936 from by decide +kernel] at h5
  rw [redI_eq, negN_eq]
  unfold pP
  generalize psum (ngO a) 8 = s at *
  generalize ngB a 8 = t at *
  have ht : t = 0 ∨ t = 1 := by omega
  split
  · rcases ht with rfl | rfl <;> omega
  · rcases ht with rfl | rfl <;> omega
noncomputable def oddN : Nat → Bool := hidden' fun a => decide (a % 2 = 1)
theorem oddN_eq (a : Nat) : oddN a = decide (a % 2 = 1) := by unfold oddN; rw [seal_eq]
noncomputable def absN (a : Nat) : Nat := bif oddN a then negN a else a

noncomputable def sNAddF : List D → Option (List Bool × V)
  | [.n a, .n b] => some ([], vnm (addP a b))
  | _ => none
noncomputable def sNAdd : FSpec := spec [tnm, tnm] sNAddF
noncomputable abbrev tabNAdd : List (FuncId × FSpec) := [(81, sNReduce)]
set_option maxRecDepth 100000 in
theorem tabokNAdd : TabOK Try.prog (tabOf tabNAdd) := (.cons ok_NReduce .nil)
set_option maxRecDepth 100000 in
theorem ok_NAdd : FnOK Try.prog 73 sNAdd := by
  refine fn_flat (cx := mkcx tabNAdd) (c := bodyOf Try.f73) Try.func73 (by kernel_rfl) (by kernel_rfl) rfl ?_
  intro ds chk v vs hF ht he hr base
  unfold sNAddF at hF
  split at hF
  · rename_i a b
    cases hF
    have hvs : vs = [vnm a, vnm b] := by simp only [encA, encV, encP, encL, Option.some.injEq] at he; exact he.symm
    subst hvs
    obtain ⟨h1, h2, _⟩ := hr
    have hck : allT [lt40 (adD a b 0), lt40 (adD a b 1), lt40 (adD a b 2), lt40 (adD a b 3), lt40 (adD a b 4), lt40 (adD a b 5), lt40 (adD a b 6), lt40 (adD a b 7)] := by
      have q : ∀ i, lt40 (adD a b i) = true := fun i => by rw [lt40_eq, decide_eq_true_iff]; have h1 := dg_rng a i; have h2 := dg_rng b i; rw [adD_eq]; omega
      exact allTc (q 0) (allTc (q 1) (allTc (q 2) (allTc (q 3) (allTc (q 4) (allTc (q 5) (allTc (q 6) (allT1 (q 7))))))))
    rw [← add_end (rng_nm h1) (rng_nm h2), ← sum8_fn]
    exact runs_evS (mkok tabokNAdd) (n := 200) (bs0 := []) (h := Eq.trans (b := chks [lt40 (adD a b 0), lt40 (adD a b 1), lt40 (adD a b 2), lt40 (adD a b 3), lt40 (adD a b 4), lt40 (adD a b 5), lt40 (adD a b 6), lt40 (adD a b 7)] (outV (vnm (redI (sum8 (adD a b 0) (adD a b 1) (adD a b 2) (adD a b 3) (adD a b 4) (adD a b 5) (adD a b 6) (adD a b 7)))))) (by kernel_rfl) (chks_true hck)) (VEnt.refl _) trivial
  · cases hF

noncomputable def sNNegF : List D → Option (List Bool × V)
  | [.n a] => some ([], vnm (negN a))
  | _ => none
noncomputable def sNNeg : FSpec := spec [tnm] sNNegF
noncomputable abbrev tabNNeg : List (FuncId × FSpec) := [(81, sNReduce), (125, sNPrime)]
set_option maxRecDepth 100000 in
theorem tabokNNeg : TabOK Try.prog (tabOf tabNNeg) := (.cons ok_NReduce (.cons ok_NPrime .nil))
set_option maxRecDepth 100000 in
theorem ok_NNeg : FnOK Try.prog 74 sNNeg := by
  refine fn_flat (cx := mkcx tabNNeg) (c := bodyOf Try.f74) Try.func74 (by kernel_rfl) (by kernel_rfl) rfl ?_
  intro ds chk v vs hF ht he hr base
  unfold sNNegF at hF
  split at hF
  · rename_i a
    cases hF
    have hvs : vs = [vnm a] := by simp only [encA, encV, encP, encL, Option.some.injEq] at he; exact he.symm
    subst hvs
    obtain ⟨h1, _⟩ := hr
    have hck : allT [lt40 (ngO a 0), lt40 (ngO a 1), lt40 (ngO a 2), lt40 (ngO a 3), lt40 (ngO a 4), lt40 (ngO a 5), lt40 (ngO a 6), lt40 (ngO a 7)] := by
      have q : ∀ i, lt40 (ngO a i) = true := fun i => by rw [lt40_eq, decide_eq_true_iff]; have h1 := ngO_rng a i; omega
      exact allTc (q 0) (allTc (q 1) (allTc (q 2) (allTc (q 3) (allTc (q 4) (allTc (q 5) (allTc (q 6) (allT1 (q 7))))))))
    rw [← neg_end (rng_nm h1), ← sum8_fn]
    exact runs_evS (mkok tabokNNeg) (n := 200) (bs0 := []) (h := Eq.trans (b := chks [lt40 (ngO a 0), lt40 (ngO a 1), lt40 (ngO a 2), lt40 (ngO a 3), lt40 (ngO a 4), lt40 (ngO a 5), lt40 (ngO a 6), lt40 (ngO a 7)] (outV (vnm (redI (sum8 (ngO a 0) (ngO a 1) (ngO a 2) (ngO a 3) (ngO a 4) (ngO a 5) (ngO a 6) (ngO a 7)))))) (by kernel_rfl) (chks_true hck)) (VEnt.refl _) trivial
  · cases hF

noncomputable def sNSubF : List D → Option (List Bool × V)
  | [.n a, .n b] => some ([], vnm (addP a (negN b)))
  | _ => none
noncomputable def sNSub : FSpec := spec [tnm, tnm] sNSubF
noncomputable abbrev tabNSub : List (FuncId × FSpec) := [(73, sNAdd), (74, sNNeg)]
set_option maxRecDepth 100000 in
theorem tabokNSub : TabOK Try.prog (tabOf tabNSub) := (.cons ok_NAdd (.cons ok_NNeg .nil))
set_option maxRecDepth 100000 in
theorem ok_NSub : FnOK Try.prog 72 sNSub := by
  refine fn_flat (cx := mkcx tabNSub) (c := bodyOf Try.f72) Try.func72 (by kernel_rfl) (by kernel_rfl) rfl ?_
  intro ds chk v vs hF ht he hr base
  unfold sNSubF at hF
  split at hF
  · rename_i a b
    cases hF
    have hvs : vs = [vnm a, vnm b] := by simp only [encA, encV, encP, encL, Option.some.injEq] at he; exact he.symm
    subst hvs
    exact runs_ev (mkok tabokNSub) (n := 400) (bs0 := []) (by kernel_rfl) (VEnt.refl _) trivial
  · cases hF

theorem odd_dg (a : Nat) : decide ((((digit 32 a 0 : Nat) : Int)) % 2 = 1) = oddN a := by
  rw [oddN_eq]
  refine decide_eq_decide.2 ?_
  unfold digit
  rw [Nat.mul_zero, Nat.pow_zero, Nat.div_one]
  have : (2 : Nat) ^ 32 = 4294967296 := by decide
  rw [this]
  omega

noncomputable def sNOddF : List D → Option (List Bool × V)
  | [.n a] => some ([], vbool' (oddN a))
  | _ => none
noncomputable def sNOdd : FSpec := spec [tnm] sNOddF
noncomputable abbrev tabNOdd : List (FuncId × FSpec) := []
set_option maxRecDepth 100000 in
theorem tabokNOdd : TabOK Try.prog (tabOf tabNOdd) := TabOK.nil
set_option maxRecDepth 100000 in
theorem ok_NOdd : FnOK Try.prog 70 sNOdd := by
  refine fn_flat (cx := mkcx tabNOdd) (c := bodyOf Try.f70) Try.func70 (by kernel_rfl) (by kernel_rfl) rfl ?_
  intro ds chk v vs hF ht he hr base
  unfold sNOddF at hF
  split at hF
  · rename_i a
    cases hF
    have hvs : vs = [vnm a] := by simp only [encA, encV, encP, encL, Option.some.injEq] at he; exact he.symm
    subst hvs
    rw [← odd_dg]
    exact runs_evS (mkok tabokNOdd) (n := 200) (bs0 := []) (by kernel_rfl) (VEnt.refl _) trivial
  · cases hF

def treeAbsN (b : Bool) (x y : Nat) : Out := bif b then outV (vnm x) else outV (vnm y)
theorem treeAbsN_eq (b : Bool) (x y : Nat) : treeAbsN b x y = outV (vnm (bif b then x else y)) := by cases b <;> rfl

noncomputable def sNAbsF : List D → Option (List Bool × V)
  | [.n a] => some ([], vnm (absN a))
  | _ => none
noncomputable def sNAbs : FSpec := spec [tnm] sNAbsF
noncomputable abbrev tabNAbs : List (FuncId × FSpec) := [(70, sNOdd), (74, sNNeg)]
set_option maxRecDepth 100000 in
theorem tabokNAbs : TabOK Try.prog (tabOf tabNAbs) := (.cons ok_NOdd (.cons ok_NNeg .nil))
set_option maxRecDepth 100000 in
theorem ok_NAbs : FnOK Try.prog 77 sNAbs := by
  refine fn_flat (cx := mkcx tabNAbs) (c := bodyOf Try.f77) Try.func77 (by kernel_rfl) (by kernel_rfl) rfl ?_
  intro ds chk v vs hF ht he hr base
  unfold sNAbsF at hF
  split at hF
  · rename_i a
    cases hF
    have hvs : vs = [vnm a] := by simp only [encA, encV, encP, encL, Option.some.injEq] at he; exact he.symm
    subst hvs
    exact runs_evS (mkok tabokNAbs) (n := 200) (bs0 := []) (h := Eq.trans (b := treeAbsN (oddN a) (negN a) a) (by kernel_rfl) (treeAbsN_eq _ _ _)) (VEnt.refl _) trivial
  · cases hF

noncomputable def sNZeroF : List D → Option (List Bool × V)
  | [.n a] => some ([], vbool' (allB [decide (a = 0)]))
  | _ => none
noncomputable def sNZero : FSpec := spec [tnm] sNZeroF
noncomputable abbrev tabNZero : List (FuncId × FSpec) := []
set_option maxRecDepth 100000 in
theorem tabokNZero : TabOK Try.prog (tabOf tabNZero) := TabOK.nil
set_option maxRecDepth 100000 in
theorem ok_NZero : FnOK Try.prog 78 sNZero := by
  refine fn_flat (cx := mkcx tabNZero) (c := bodyOf Try.f78) Try.func78 (by kernel_rfl) (by kernel_rfl) rfl ?_
  intro ds chk v vs hF ht he hr base
  unfold sNZeroF at hF
  split at hF
  · rename_i a
    cases hF
    have hvs : vs = [vnm a] := by simp only [encA, encV, encP, encL, Option.some.injEq] at he; exact he.symm
    subst hvs
    exact runs_evS (mkok tabokNZero) (n := 200) (bs0 := []) (by kernel_rfl) (VEnt.refl _) trivial
  · cases hF
end Go.Proofs.Ytpoikjcgdojjjaa
