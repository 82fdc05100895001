/-
  Contracts of the document's numbers: the digits of p.
-/
import Derived.Test.YteohgdpkdbckoaaL2
import Derived.Test.YteohgdpkdbckoaaU1
namespace Go.Proofs.Yteohgdpkdbckoaa
open Go Vx Go.RowKit

def treePrime (b0 b7 : Bool) : Out := bif b0 then outV (vu64 4294967277) else bif b7 then outV (vu64 2147483647) else outV (vu64 4294967295)
theorem treePrime_eq (b0 b7 : Bool) : treePrime b0 b7 = outV (vu64 (bif b0 then 4294967277 else bif b7 then 2147483647 else 4294967295)) := by cases b0 <;> cases b7 <;> rfl

noncomputable def sNPrimeF : List D → Option (List Bool × V)
  | [.i i] => some ([], vu64 (primeI i))
  | _ => none
noncomputable def sNPrime : FSpec := spec [ti64] sNPrimeF
noncomputable abbrev tabNPrime : List (FuncId × FSpec) := []
set_option maxRecDepth 100000 in
theorem tabokNPrime : TabOK Try.prog (tabOf tabNPrime) := TabOK.nil
set_option maxRecDepth 100000 in
theorem ok_NPrime : FnOK Try.prog 77 sNPrime := by
  refine fn_flat (cx := mkcx tabNPrime) (c := bodyOf Try.f77) Try.func77 (by kernel_rfl) (by kernel_rfl) rfl ?_
  intro ds chk v vs hF ht he hr base
  unfold sNPrimeF at hF
  split at hF
  · rename_i i
    cases hF
    have hvs : vs = [vi64 i] := by simp only [encA, encV, encP, encL, Option.some.injEq] at he; exact he.symm
    subst hvs
    exact runs_evS (mkok tabokNPrime) (n := 200) (bs0 := []) (h := Eq.trans (b := treePrime (decide (i = 0)) (decide (i = 7))) (by kernel_rfl) (treePrime_eq _ _)) (VEnt.refl _) trivial
  · cases hF

def treeB (d : Nat → Int) : Nat → Out
  | 0 => outV (vbool' false)
  | i + 1 => bif !decide (d i = primeI (i : Int)) then outV (vbool' (decide (d i < primeI (i : Int)))) else treeB d i
theorem treeB_eq (d : Nat → Int) : ∀ m, (∀ i, i < m → 0 ≤ d i ∧ d i < 4294967296) → treeB d m = outV (vbool' (decide (psum d m < psum primeD m)))
  | 0, _ => by simp [treeB, psum]
  | m + 1, h => by
    have hl := psum_lt (q := primeD) h (fun i _ => primeD_rng i)
    unfold treeB
    cases he : decide (d m = primeI (m : Int)) with
    | true =>
      have he' : d m = primeD m := of_decide_eq_true he
      simp only [Bool.not_true, cond_false]
      rw [treeB_eq d m (fun i hi => h i (by omega))]
      congr 2
      refine decide_eq_decide.2 ?_
      rw [hl]
      constructor
      · intro hx; exact .inr ⟨he', hx⟩
      · rintro (hx | ⟨_, hx⟩)
        · omega
        · exact hx
    | false =>
      have he' : d m ≠ primeD m := of_decide_eq_false he
      simp only [Bool.not_false, cond_true]
      congr 2
      refine decide_eq_decide.2 ?_
      rw [hl]
      constructor
      · intro hx; exact .inl hx
      · rintro (hx | ⟨hx, _⟩)
        · exact hx
        · exact absurd hx he'

noncomputable def sNBelowF : List D → Option (List Bool × V)
  | [.i a, .i b, .i c, .i d, .i e, .i f, .i g, .i h] => some (([a, b, c, d, e, f, g, h].map lt32), vbool' (lowI (sum8 a b c d e f g h)))
  | _ => none
noncomputable def sNBelow : FSpec := spec [tdig8] sNBelowF
noncomputable abbrev tabNBelow : List (FuncId × FSpec) := [(77, sNPrime)]
set_option maxRecDepth 100000 in
theorem tabokNBelow : TabOK Try.prog (tabOf tabNBelow) := (.cons ok_NPrime .nil)
set_option maxRecDepth 100000 in
theorem ok_NBelow : FnOK Try.prog 75 sNBelow := by
  refine fn_flat (cx := mkcx tabNBelow) (c := bodyOf Try.f75) Try.func75 (by kernel_rfl) (by kernel_rfl) rfl ?_
  intro ds chk v vs hF ht he hr base
  unfold sNBelowF at hF
  split at hF
  · rename_i a b c d e f g h
    cases hF
    have hvs : vs = [vdig8 a b c d e f g h] := by simp only [encA, encV, encP, encL, Option.some.injEq] at he; exact he.symm
    subst hvs
    have hc : ∀ x ∈ [a, b, c, d, e, f, g, h], lt32 x = true := fun x hx => ht _ (List.mem_map.2 ⟨x, hx, rfl⟩)
    obtain ⟨⟨h0, h1, h2, h3, h4, h5, h6, h7, _⟩, _⟩ := hr
    have hrng : ∀ i, i < 8 → 0 ≤ fn8 a b c d e f g h i ∧ fn8 a b c d e f g h i < 4294967296 := by
      have key : ∀ x, x ∈ [a, b, c, d, e, f, g, h] → inK .u64 x = true → 0 ≤ x ∧ x < 4294967296 := by
        intro x hx hk
        have := hc x hx
        rw [lt32_eq] at this
        exact ⟨((inK_unsigned rfl).1 hk).1, of_decide_eq_true this⟩
      intro i hi
      match i, hi with
      | 0, _ => exact key a (by simp) h0
      | 1, _ => exact key b (by simp) h1
      | 2, _ => exact key c (by simp) h2
      | 3, _ => exact key d (by simp) h3
      | 4, _ => exact key e (by simp) h4
      | 5, _ => exact key f (by simp) h5
      | 6, _ => exact key g (by simp) h6
      | 7, _ => exact key h (by simp) h7
    rw [lowI_eq, sum8_eq, ← primeD_sum]
    exact runs_evS (mkok tabokNBelow) (n := 200) (bs0 := []) (h := Eq.trans (b := treeB (fn8 a b c d e f g h) 8) (by kernel_rfl) (treeB_eq _ 8 hrng)) (VEnt.refl _) trivial
  · cases hF
end Go.Proofs.Yteohgdpkdbckoaa

/-
  Contracts of the document's numbers: Reduce.
-/
namespace Go.Proofs.Yteohgdpkdbckoaa
open Go Vx Go.RowKit

def dl (d : Nat → Int) : List L := [.int .u64 (d 0), .int .u64 (d 1), .int .u64 (d 2), .int .u64 (d 3), .int .u64 (d 4), .int .u64 (d 5), .int .u64 (d 6), .int .u64 (d 7)]
def stR (d : Nat → Int) (k : Int) : St := ⟨[.junk, .one (.ptr 0 0), .one (.ptr 1 0), vi64 k] ++ List.replicate 83 .junk, [some ⟨62, .ps (dl d)⟩, some ⟨62, .ps (dl fun _ => 0)⟩]⟩
def stR2 (d : Nat → Int) : St := ⟨[.junk, .one (.ptr 0 0), .one (.ptr 1 0)] ++ List.replicate 84 .junk, [some ⟨62, .ps (dl d)⟩, some ⟨62, .ps (dl fun _ => 0)⟩]⟩

theorem ent_dl {e : Nat → Int} {n : Nat} (h : ∀ i, 0 ≤ e i ∧ e i < 4294967296) (hn : psum e 8 = (n : Int)) : VEnt (.ag (.ps (dl e))) (vnm n) := by
  have hb : n < 2 ^ (32 * 8) := by
    have := (psum_rng (d := e) 8 (fun i _ => h i)).2
    rw [hn] at this
    exact_mod_cast this
  refine ent_pk (f := e) hb rfl (by decide) fun i hi => ?_
  rw [← psum_digit h 8 i hi, hn]
  unfold digit
  have h2 : ((2 : Int) ^ (32 * i)) = ((2 ^ (32 * i) : Nat) : Int) := by simp
  rw [h2]
  simp only [Nat.reducePow]
  omega

/-- What a last pass and a last subtraction make. -/
theorem red_end {N : Int} {d : Nat → Int} (h : RInv N 2 d) : 0 ≤ psum (eAt (fixD d)) 8 ∧ psum (eAt (fixD d)) 8 < 57896044618658097711785492504343953926634992332820282019728792003956564819949 + 38 ∧ psum (eAt (fixD d)) 8 % 57896044618658097711785492504343953926634992332820282019728792003956564819949 = N % 57896044618658097711785492504343953926634992332820282019728792003956564819949 ∧
    (57896044618658097711785492504343953926634992332820282019728792003956564819949 ≤ psum (eAt (fixD d)) 8 → psum (oAt (eAt (fixD d))) 8 = psum (eAt (fixD d)) 8 - 57896044618658097711785492504343953926634992332820282019728792003956564819949) := by
  obtain ⟨h1, h2, h3, h4⟩ := fixD_facts h
  obtain ⟨c1, c2, c3⟩ := pass h1 8 (Nat.le_refl _)
  obtain ⟨e1, e2⟩ := psum_rng (d := eAt (fixD d)) 8 (fun i _ => eAt_rng i)
  obtain ⟨b1, b2, b3⟩ := borrow (d := eAt (fixD d)) (m := 8) (fun i _ => eAt_rng i) 8 (Nat.le_refl _)
  obtain ⟨o1, o2⟩ := psum_rng (d := oAt (eAt (fixD d))) 8 (fun i _ => oAt_rng i)
  have hp : (2 : Int) ^ (32 * 8) = 115792089237316195423570985008687907853269984665640564039457584007913129639936 := by decide
  rw [hp] at c3 e2 b3 o2
  rw [primeD_sum] at b3
  have hc : cAt (fixD d) 8 = 0 := by clear h1 h2 b3 o1 o2 b1 b2; omega
  rw [hc] at c3
  have hS : psum (eAt (fixD d)) 8 = psum (fixD d) 8 := by clear h1 h2 b3 o1 o2 b1 b2; omega
  rw [hS] at *
  refine ⟨h3, by clear h1 h2 b3 o1 o2; omega, h2, fun hge => ?_⟩
  have hb : bAt (eAt (fixD d)) 8 = 0 := by clear h1 h2; omega
  rw [hb] at b3
  clear h1 h2
  omega

noncomputable def sNReduceF : List D → Option (List Bool × V)
  | [.i a, .i b, .i c, .i d, .i e, .i f, .i g, .i h] => some (([a, b, c, d, e, f, g, h].map lt40), vnm (redI (sum8 a b c d e f g h)))
  | _ => none
noncomputable def sNReduce : FSpec := spec [tdig8] sNReduceF
noncomputable abbrev tabNReduce : List (FuncId × FSpec) := [(77, sNPrime), (75, sNBelow)]
set_option maxRecDepth 100000 in
theorem tabokNReduce : TabOK Try.prog (tabOf tabNReduce) := (.cons ok_NPrime (.cons ok_NBelow .nil))
set_option maxRecDepth 100000 in
theorem ok_NReduce : FnOK Try.prog 74 sNReduce := by
  refine fn_flat (cx := mkcx tabNReduce) (c := bodyOf Try.f74) Try.func74 (by kernel_rfl) (by kernel_rfl) rfl ?_
  intro ds chk v vs hF ht he hr base
  unfold sNReduceF at hF
  split at hF
  · rename_i a b c d e f g h
    cases hF
    have hvs : vs = [vdig8 a b c d e f g h] := by simp only [encA, encV, encP, encL, Option.some.injEq] at he; exact he.symm
    subst hvs
    have hc : ∀ x ∈ [a, b, c, d, e, f, g, h], lt40 x = true := fun x hx => ht _ (List.mem_map.2 ⟨x, hx, rfl⟩)
    obtain ⟨⟨h0, h1, h2, h3, h4, h5, h6, h7, _⟩, _⟩ := hr
    have hrng : ∀ i, i < 8 → 0 ≤ fn8 a b c d e f g h i ∧ fn8 a b c d e f g h i < 1099511627776 := by
      have key : ∀ x, x ∈ [a, b, c, d, e, f, g, h] → inK .u64 x = true → 0 ≤ x ∧ x < 1099511627776 := by
        intro x hx hk
        have := hc x hx
        rw [lt40_eq] at this
        exact ⟨((inK_unsigned rfl).1 hk).1, of_decide_eq_true this⟩
      intro i hi
      match i, hi with
      | 0, _ => exact key a (by simp) h0
      | 1, _ => exact key b (by simp) h1
      | 2, _ => exact key c (by simp) h2
      | 3, _ => exact key d (by simp) h3
      | 4, _ => exact key e (by simp) h4
      | 5, _ => exact key f (by simp) h5
      | 6, _ => exact key g (by simp) h6
      | 7, _ => exact key h (by simp) h7
    rw [redI_eq, sum8_eq]
    generalize hN : psum (fn8 a b c d e f g h) 8 = N
    have hI0 : RInv N 0 (fn8 a b c d e f g h) := ⟨hrng, by rw [hN], fun h => absurd h (by decide), fun h => absurd h (by decide)⟩
    refine Runs.items _ _ _ (RunsL.preS (mkok tabokNReduce) (n := 100) (k := 2) (kt := [1, 2, 3]) (kh := [0, 1]) (m := 2) (e := .normal) (st' := stR (fn8 a b c d e f g h) 0) (by kernel_rfl) ?_)
    refine RunsL.loop (id := 0) (by kernel_rfl) (fun m s => ∃ dd, s = stR dd (3 - (m : Int)) ∧ m ≤ 3 ∧ RInv N (3 - m) dd) 3 ⟨fn8 a b c d e f g h, rfl, Nat.le_refl _, by have := hI0; exact this⟩ ?_
    rintro m s ⟨dd, rfl, hm, hI⟩
    match m, hm, hI with
    | 3, _, hI => exact RunsL.allS (mkok tabokNReduce) (n := 100) (kt := [1, 2, 3]) (kh := [0, 1]) (m := 2) (e := .normal) (st' := stR (nextD dd) 1) (by kernel_rfl) ⟨2, by decide, nextD dd, rfl, by decide, hI.step⟩
    | 2, _, hI => exact RunsL.allS (mkok tabokNReduce) (n := 100) (kt := [1, 2, 3]) (kh := [0, 1]) (m := 2) (e := .normal) (st' := stR (nextD dd) 2) (by kernel_rfl) ⟨1, by decide, nextD dd, rfl, by decide, hI.step⟩
    | 1, _, hI => exact RunsL.allS (mkok tabokNReduce) (n := 100) (kt := [1, 2, 3]) (kh := [0, 1]) (m := 2) (e := .normal) (st' := stR (nextD dd) 3) (by kernel_rfl) ⟨0, by decide, nextD dd, rfl, by decide, hI.step⟩
    | 0, _, hI =>
      refine RunsL.allS (mkok tabokNReduce) (n := 100) (kt := [1, 2, 3]) (kh := [0, 1]) (m := 2) (e := .exit 0) (st' := stR dd 3) (by kernel_rfl) ?_
      have hI2 : RInv N 2 dd := ⟨hI.rng, hI.val, fun _ => hI.one (by decide), fun _ => hI.two (by decide)⟩
      obtain ⟨r1, r2, r3, r4⟩ := red_end hI2
      refine RunsL.preS (mkok tabokNReduce) (n := 100) (k := 5) (kt := [1, 2]) (kh := [0, 1]) (m := 2) (e := .normal) (st' := stR2 (eAt (fixD dd))) (by kernel_rfl) ?_
      have hrg : ∀ i, 0 ≤ eAt (fixD dd) i ∧ eAt (fixD dd) i < 4294967296 := fun i => eAt_rng i
      generalize eAt (fixD dd) = E at *
      have hev : evLS (mkcx tabNReduce) 100 ((items (bodyOf Try.f74)).drop 8) (stR2 E) (kres (mkcx tabNReduce) Try.f74 base) =
          chks [lt32 (E 0), lt32 (E 1), lt32 (E 2), lt32 (E 3), lt32 (E 4), lt32 (E 5), lt32 (E 6), lt32 (E 7)]
            (bif lowI (sum8 (E 0) (E 1) (E 2) (E 3) (E 4) (E 5) (E 6) (E 7)) then outV (.ag (.ps (dl E))) else outV (.ag (.ps (dl (oAt E))))) := by kernel_rfl
      have hck : allT [lt32 (E 0), lt32 (E 1), lt32 (E 2), lt32 (E 3), lt32 (E 4), lt32 (E 5), lt32 (E 6), lt32 (E 7)] := by
        have q : ∀ i, lt32 (E i) = true := fun i => by rw [lt32_eq, decide_eq_true_iff]; exact (hrg i).2
        exact allTc (q 0) (allTc (q 1) (allTc (q 2) (allTc (q 3) (allTc (q 4) (allTc (q 5) (allTc (q 6) (allT1 (q 7))))))))
      rw [chks_true hck, sum8_fn, lowI_eq] at hev
      by_cases hlt : psum E 8 < 57896044618658097711785492504343953926634992332820282019728792003956564819949
      · rw [decide_eq_true hlt] at hev
        refine runsL_evS (mkok tabokNReduce) (n := 100) (bs0 := []) (v0 := .ag (.ps (dl E))) hev (ent_dl hrg ?_) trivial
        rw [← r3, Int.emod_eq_of_lt r1 hlt]
        omega
      · rw [decide_eq_false hlt] at hev
        refine runsL_evS (mkok tabokNReduce) (n := 100) (bs0 := []) (v0 := .ag (.ps (dl (oAt E)))) hev (ent_dl (fun i => oAt_rng i) ?_) trivial
        rw [r4 (by omega), ← r3]
        clear hev r3 r4
        omega
  · cases hF
end Go.Proofs.Yteohgdpkdbckoaa

/-
  Contracts of the document's numbers: Words.
-/
namespace Go.Proofs.Yteohgdpkdbckoaa
open Go Vx Go.RowKit

def wD (n : Nat) (i : Nat) : Int := ((digit 64 n (i / 2) : Nat) : Int) / ((2 ^ (32 * (i % 2)) : Nat) : Int) % 4294967296
theorem wD_rng (n i : Nat) : 0 ≤ wD n i ∧ wD n i < 4294967296 := ⟨Int.emod_nonneg _ (by decide), Int.emod_lt_of_pos _ (by decide)⟩
theorem wD_digit (n i : Nat) : wD n i = (digit 32 n i : Nat) := by
  unfold wD digit
  rw [← Int.natCast_ediv]
  have e1 : n / 2 ^ (64 * (i / 2)) % 2 ^ 64 / 2 ^ (32 * (i % 2)) % 4294967296 = n / 2 ^ (32 * i) % 2 ^ 32 := by
    have hlt : i % 2 < 2 := Nat.mod_lt _ (by decide)
    have e2 : (2 : Nat) ^ 64 = 2 ^ (32 * (i % 2)) * 2 ^ (64 - 32 * (i % 2)) := by rw [← Nat.pow_add]; congr 1; omega
    rw [e2, Nat.mod_mul_right_div_self, Nat.div_div_eq_div_mul, ← Nat.pow_add]
    have e3 : (2 : Nat) ^ (64 - 32 * (i % 2)) = 4294967296 * 2 ^ (32 - 32 * (i % 2)) := by
      rw [show (4294967296 : Nat) = 2 ^ 32 from rfl, ← Nat.pow_add]; congr 1; omega
    rw [e3, Nat.mod_mul_right_mod]
    congr 3
    omega
  rw [← e1]
  rfl
theorem psum_digits (n : Nat) : ∀ m, psum (fun i => ((digit 32 n i : Nat) : Int)) m = ((n % 2 ^ (32 * m) : Nat) : Int)
  | 0 => by simp [psum, Nat.mod_one]
  | m + 1 => by
    rw [psum, psum_digits n m, show 32 * (m + 1) = 32 * m + 32 from rfl, Nat.pow_add, Nat.mod_mul]
    unfold digit
    rw [Int.natCast_add, Int.natCast_mul, Int.mul_comm]
    simp
theorem words_eq {n : Nat} (hn : n < 115792089237316195423570985008687907853269984665640564039457584007913129639936) : redI (sum8 (wD n 0) (wD n 1) (wD n 2) (wD n 3) (wD n 4) (wD n 5) (wD n 6) (wD n 7)) = canP n := by
  rw [sum8_fn, redI_eq, canP_eq, psum_congr 8 (fun i _ => wD_digit n i), psum_digits, show (2 : Nat) ^ (32 * 8) = 115792089237316195423570985008687907853269984665640564039457584007913129639936 from by decide +kernel, Nat.mod_eq_of_lt hn]
  unfold pP
  clear hn
  omega
theorem lt40_of {x : Int} (h : 0 ≤ x ∧ x < 4294967296) : lt40 x = true := by rw [lt40_eq, decide_eq_true_iff]; omega

noncomputable def sNWordsF : List D → Option (List Bool × V)
  | [.n n] => some ([], vnm (canP n))
  | _ => none
noncomputable def sNWords : FSpec := spec [tfe] sNWordsF
noncomputable abbrev tabNWords : List (FuncId × FSpec) := [(74, sNReduce)]
set_option maxRecDepth 100000 in
theorem tabokNWords : TabOK Try.prog (tabOf tabNWords) := (.cons ok_NReduce .nil)
set_option maxRecDepth 100000 in
theorem ok_NWords : FnOK Try.prog 76 sNWords := by
  refine fn_flat (cx := mkcx tabNWords) (c := bodyOf Try.f76) Try.func76 (by kernel_rfl) (by kernel_rfl) rfl ?_
  intro ds chk v vs hF ht he hr base
  unfold sNWordsF at hF
  split at hF
  · rename_i n
    cases hF
    have hvs : vs = [vfe n] := by simp only [encA, encV, encP, encL, Option.some.injEq] at he; exact he.symm
    subst hvs
    obtain ⟨h1, _⟩ := hr
    rw [← words_eq (rng_fe h1)]
    have hck : allT [lt40 (wD n 0), lt40 (wD n 1), lt40 (wD n 2), lt40 (wD n 3), lt40 (wD n 4), lt40 (wD n 5), lt40 (wD n 6), lt40 (wD n 7)] := by
      have q : ∀ i, lt40 (wD n i) = true := fun i => lt40_of (wD_rng n i)
      exact allTc (q 0) (allTc (q 1) (allTc (q 2) (allTc (q 3) (allTc (q 4) (allTc (q 5) (allTc (q 6) (allT1 (q 7))))))))
    exact runs_evS (mkok tabokNWords) (n := 200) (bs0 := []) (h := Eq.trans (b := chks [lt40 (wD n 0), lt40 (wD n 1), lt40 (wD n 2), lt40 (wD n 3), lt40 (wD n 4), lt40 (wD n 5), lt40 (wD n 6), lt40 (wD n 7)] (outV (vnm (redI (sum8 (wD n 0) (wD n 1) (wD n 2) (wD n 3) (wD n 4) (wD n 5) (wD n 6) (wD n 7)))))) (by kernel_rfl) (chks_true hck)) (VEnt.refl _) trivial
  · cases hF
end Go.Proofs.Yteohgdpkdbckoaa

/-
  Contracts of the document's numbers: Mul.
-/
namespace Go.Proofs.Yteohgdpkdbckoaa
open Go Vx Go.RowKit

def al (r : Nat → Int) : List L := [.int .u64 (r 0), .int .u64 (r 1), .int .u64 (r 2), .int .u64 (r 3), .int .u64 (r 4), .int .u64 (r 5), .int .u64 (r 6), .int .u64 (r 7), .int .u64 (r 8), .int .u64 (r 9), .int .u64 (r 10), .int .u64 (r 11), .int .u64 (r 12), .int .u64 (r 13), .int .u64 (r 14), .int .u64 (r 15)]
def stM (a b : Nat) (r : Nat → Int) (i : Int) : St := ⟨[.junk, .junk, .one (.ptr 0 0), .one (.ptr 1 0), .one (.ptr 2 0), .one (.ptr 3 0), vi64 i] ++ List.replicate 56 .junk,
  [some ⟨62, .ps [.pk .u64 32 8 a]⟩, some ⟨62, .ps [.pk .u64 32 8 b]⟩, some ⟨62, .ps (dl fun _ => 0)⟩, some ⟨120, .ps (al r)⟩]⟩
def dg (n i : Nat) : Int := ((digit 32 n i : Nat) : Int)
theorem dg_rng (n i : Nat) : 0 ≤ dg n i ∧ dg n i < 4294967296 := by
  unfold dg digit
  have := Nat.mod_lt (n / 2 ^ (32 * i)) (show 2 ^ 32 > 0 by decide)
  simp only [Nat.reducePow] at *
  omega
def cM (r : Nat → Int) (i : Nat) : Int := wrapK .u64 (r i + wrapK .u64 (38 * r (i + 8)))

theorem mul_end {a b : Nat} (ha : a < 115792089237316195423570985008687907853269984665640564039457584007913129639936) (hb : b < 115792089237316195423570985008687907853269984665640564039457584007913129639936) {r : Nat → Int} (h : MInv (dg a) (dg b) 8 r) :
    (∀ i, 0 ≤ cM r i ∧ cM r i < 1099511627776) ∧ redI (psum (cM r) 8) = mulP a b := by
  have hc : ∀ i, cM r i = r i + 38 * r (8 + i) := fun i => by
    have h1 := h.rng i
    have h2 := h.rng (i + 8)
    unfold cM
    rw [Nat.add_comm 8 i]
    simp only [wrapK]
    omega
  refine ⟨fun i => ?_, ?_⟩
  · have h1 := h.rng i
    have h2 := h.rng (8 + i)
    rw [hc]; omega
  · have hs : ∀ m, psum (cM r) m = psum r m + 38 * psum (fun k => r (8 + k)) m := by
      intro m
      induction m with
      | zero => simp [psum]
      | succ m ih =>
        have e : psum (fun k => r (8 + k)) (m + 1) = psum (fun k => r (8 + k)) m + r (8 + m) * 2 ^ (32 * m) := rfl
        rw [psum, ih, hc, e, psum, Int.add_mul, Int.mul_add, Int.mul_assoc 38]
        omega
    have hv := h.val
    rw [psum_shift r 8 8] at hv
    have pa : psum (dg a) 8 = (a : Int) := by
      have : psum (dg a) 8 = ((a % 2 ^ (32 * 8) : Nat) : Int) := psum_digits a 8
      rw [this, show (2 : Nat) ^ (32 * 8) = 115792089237316195423570985008687907853269984665640564039457584007913129639936 from by decide +kernel, Nat.mod_eq_of_lt ha]
    have pb : psum (dg b) 8 = (b : Int) := by
      have : psum (dg b) 8 = ((b % 2 ^ (32 * 8) : Nat) : Int) := psum_digits b 8
      rw [this, show (2 : Nat) ^ (32 * 8) = 115792089237316195423570985008687907853269984665640564039457584007913129639936 from by decide +kernel, Nat.mod_eq_of_lt hb]
    rw [pa, pb, show (2 : Int) ^ (32 * 8) = 115792089237316195423570985008687907853269984665640564039457584007913129639936 from by decide +kernel] at hv
    rw [redI_eq, mulP_eq, hs]
    have e : psum r 8 + 38 * psum (fun k => r (8 + k)) 8 = ((a * b : Nat) : Int) - 2 * psum (fun k => r (8 + k)) 8 * 57896044618658097711785492504343953926634992332820282019728792003956564819949 := by
      rw [Int.natCast_mul, ← hv]
      generalize psum (fun k => r (8 + k)) 8 = q
      clear hv pa pb
      omega
    rw [e, Int.sub_mul_emod_self_right]
    unfold pP
    generalize a * b = c
    clear hv e
    omega

noncomputable def sNMulF : List D → Option (List Bool × V)
  | [.n a, .n b] => some ([], vnm (mulP a b))
  | _ => none
noncomputable def sNMul : FSpec := spec [tnm, tnm] sNMulF
noncomputable abbrev tabNMul : List (FuncId × FSpec) := [(74, sNReduce)]
set_option maxRecDepth 100000 in
theorem tabokNMul : TabOK Try.prog (tabOf tabNMul) := (.cons ok_NReduce .nil)
set_option maxRecDepth 100000 in
theorem ok_NMul : FnOK Try.prog 45 sNMul := by
  refine fn_flat (cx := mkcx tabNMul) (c := bodyOf Try.f45) Try.func45 (by kernel_rfl) (by kernel_rfl) rfl ?_
  intro ds chk v vs hF ht he hr base
  unfold sNMulF at hF
  split at hF
  · rename_i a b
    cases hF
    have hvs : vs = [vnm a, vnm b] := by simp only [encA, encV, encP, encL, Option.some.injEq] at he; exact he.symm
    subst hvs
    obtain ⟨h1, h2, _⟩ := hr
    have ha : a < 115792089237316195423570985008687907853269984665640564039457584007913129639936 := by
      have : a < 2 ^ (32 * 8) := h1.1
      exact this
    have hb : b < 115792089237316195423570985008687907853269984665640564039457584007913129639936 := by
      have : b < 2 ^ (32 * 8) := h2.1
      exact this
    have hI0 : MInv (dg a) (dg b) 0 (fun _ => 0) := ⟨fun _ => ⟨by decide, by decide⟩, fun _ _ => rfl, by simp [psum]⟩
    refine Runs.items _ _ _ (RunsL.preS (mkok tabokNMul) (n := 100) (k := 3) (kt := [2, 3, 4, 5, 6]) (kh := [0, 1, 2, 3]) (m := 4) (e := .normal) (st' := stM a b (fun _ => 0) 0) (by kernel_rfl) ?_)
    refine RunsL.loop (id := 0) (by kernel_rfl) (fun m s => ∃ r, s = stM a b r (8 - (m : Int)) ∧ m ≤ 8 ∧ MInv (dg a) (dg b) (8 - m) r) 8 ⟨fun _ => 0, rfl, Nat.le_refl _, by have := hI0; exact this⟩ ?_
    rintro m s ⟨r, rfl, hm, hI⟩
    match m, hm, hI with
    | 8, _, hI => exact RunsL.allS (mkok tabokNMul) (n := 100) (kt := [2, 3, 4, 5, 6]) (kh := [0, 1, 2, 3]) (m := 4) (e := .normal) (st' := stM a b (nextM r (dg a 0) (dg b) 0) 1) (by kernel_rfl) ⟨7, by decide, _, rfl, by decide, hI.step (dg_rng a) (dg_rng b)⟩
    | 7, _, hI => exact RunsL.allS (mkok tabokNMul) (n := 100) (kt := [2, 3, 4, 5, 6]) (kh := [0, 1, 2, 3]) (m := 4) (e := .normal) (st' := stM a b (nextM r (dg a 1) (dg b) 1) 2) (by kernel_rfl) ⟨6, by decide, _, rfl, by decide, hI.step (dg_rng a) (dg_rng b)⟩
    | 6, _, hI => exact RunsL.allS (mkok tabokNMul) (n := 100) (kt := [2, 3, 4, 5, 6]) (kh := [0, 1, 2, 3]) (m := 4) (e := .normal) (st' := stM a b (nextM r (dg a 2) (dg b) 2) 3) (by kernel_rfl) ⟨5, by decide, _, rfl, by decide, hI.step (dg_rng a) (dg_rng b)⟩
    | 5, _, hI => exact RunsL.allS (mkok tabokNMul) (n := 100) (kt := [2, 3, 4, 5, 6]) (kh := [0, 1, 2, 3]) (m := 4) (e := .normal) (st' := stM a b (nextM r (dg a 3) (dg b) 3) 4) (by kernel_rfl) ⟨4, by decide, _, rfl, by decide, hI.step (dg_rng a) (dg_rng b)⟩
    | 4, _, hI => exact RunsL.allS (mkok tabokNMul) (n := 100) (kt := [2, 3, 4, 5, 6]) (kh := [0, 1, 2, 3]) (m := 4) (e := .normal) (st' := stM a b (nextM r (dg a 4) (dg b) 4) 5) (by kernel_rfl) ⟨3, by decide, _, rfl, by decide, hI.step (dg_rng a) (dg_rng b)⟩
    | 3, _, hI => exact RunsL.allS (mkok tabokNMul) (n := 100) (kt := [2, 3, 4, 5, 6]) (kh := [0, 1, 2, 3]) (m := 4) (e := .normal) (st' := stM a b (nextM r (dg a 5) (dg b) 5) 6) (by kernel_rfl) ⟨2, by decide, _, rfl, by decide, hI.step (dg_rng a) (dg_rng b)⟩
    | 2, _, hI => exact RunsL.allS (mkok tabokNMul) (n := 100) (kt := [2, 3, 4, 5, 6]) (kh := [0, 1, 2, 3]) (m := 4) (e := .normal) (st' := stM a b (nextM r (dg a 6) (dg b) 6) 7) (by kernel_rfl) ⟨1, by decide, _, rfl, by decide, hI.step (dg_rng a) (dg_rng b)⟩
    | 1, _, hI => exact RunsL.allS (mkok tabokNMul) (n := 100) (kt := [2, 3, 4, 5, 6]) (kh := [0, 1, 2, 3]) (m := 4) (e := .normal) (st' := stM a b (nextM r (dg a 7) (dg b) 7) 8) (by kernel_rfl) ⟨0, by decide, _, rfl, by decide, hI.step (dg_rng a) (dg_rng b)⟩
    | 0, _, hI =>
      refine RunsL.allS (mkok tabokNMul) (n := 100) (kt := [2, 3, 4, 5, 6]) (kh := [0, 1, 2, 3]) (m := 4) (e := .exit 0) (st' := stM a b r 8) (by kernel_rfl) ?_
      obtain ⟨r1, r2⟩ := mul_end ha hb hI
      have hck : allT [lt40 (cM r 0), lt40 (cM r 1), lt40 (cM r 2), lt40 (cM r 3), lt40 (cM r 4), lt40 (cM r 5), lt40 (cM r 6), lt40 (cM r 7)] := by
        have q : ∀ i, lt40 (cM r i) = true := fun i => by rw [lt40_eq, decide_eq_true_iff]; exact (r1 i).2
        exact allTc (q 0) (allTc (q 1) (allTc (q 2) (allTc (q 3) (allTc (q 4) (allTc (q 5) (allTc (q 6) (allT1 (q 7))))))))
      rw [← r2, ← sum8_fn]
      exact runsL_evS (mkok tabokNMul) (n := 200) (bs0 := []) (h := Eq.trans (b := chks [lt40 (cM r 0), lt40 (cM r 1), lt40 (cM r 2), lt40 (cM r 3), lt40 (cM r 4), lt40 (cM r 5), lt40 (cM r 6), lt40 (cM r 7)] (outV (vnm (redI (sum8 (cM r 0) (cM r 1) (cM r 2) (cM r 3) (cM r 4) (cM r 5) (cM r 6) (cM r 7)))))) (by kernel_rfl) (chks_true hck)) (VEnt.refl _) trivial
  · cases hF
end Go.Proofs.Yteohgdpkdbckoaa
