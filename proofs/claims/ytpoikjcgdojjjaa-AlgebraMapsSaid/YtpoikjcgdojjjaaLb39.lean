/-
  Contracts of the program's scalars: out of bytes.
-/
import Derived.Test.YtpoikjcgdojjjaaLb38
namespace Go.Proofs.Ytpoikjcgdojjjaa
open Go Vx Go.RowKit

def wordsL (n : Nat) : List (List D) := [[.i ((digit 64 n 0 : Nat) : Int)], [.i ((digit 64 n 1 : Nat) : Int)], [.i ((digit 64 n 2 : Nat) : Int)], [.i ((digit 64 n 3 : Nat) : Int)]]
theorem limbs_words {n : Nat} (h : n < 115792089237316195423570985008687907853269984665640564039457584007913129639936) : limbs (wordsL n) = n := by
  obtain ⟨en, _⟩ := digits4 h
  unfold limbs wordsL limbD
  simp only [List.map_cons, List.map_nil, List.headD_cons, D.toI, Int.toNat_natCast, packL, Nat.reducePow]
  omega
def orL (n : Nat) : List (List D) := [[.i (orw n 0 8)], [.i (orw n 1 8)], [.i (orw n 2 8)], [.i (orw n 3 8)], [.i (orw n 4 8)], [.i (orw n 5 8)], [.i (orw n 6 8)], [.i (orw n 7 8)]]
theorem limbs_or {n : Nat} (h : n < 2 ^ (8 * 64)) : limbs (orL n) = n := by
  unfold limbs orL limbD
  simp only [List.map_cons, List.map_nil, List.headD_cons, D.toI, orw_digit, Int.toNat_natCast]
  have := packL_digits 64 n 8 0
  rw [Nat.mul_zero, Nat.pow_zero, Nat.div_one, show 64 * 8 = 8 * 64 from rfl, Nat.mod_eq_of_lt h] at this
  exact this
theorem restP_lt (n : Nat) : restP n < 7237005577332262213973186563042994240857116359379907606001950938285454250989 := by rw [restP_eq]; exact Nat.mod_lt _ (by decide)

noncomputable def sRCanonF : List D → Option (List Bool × V)
  | [.n a] => some ([], vfe (restP a))
  | _ => none
noncomputable def sRCanon : FSpec := spec [tb32] sRCanonF
noncomputable abbrev tabRCanon : List (FuncId × FSpec) := [(135, sROf), (139, sRest)]
set_option maxRecDepth 100000 in
theorem tabokRCanon : TabOK Try.prog (tabOf tabRCanon) := (.cons ok_ROf (.cons ok_Rest .nil))
set_option maxRecDepth 100000 in
theorem ok_RCanon : FnOK Try.prog 142 sRCanon := by
  refine fn_flat (cx := mkcx tabRCanon) (c := bodyOf Try.f142) Try.func142 (by kernel_rfl) (by kernel_rfl) rfl ?_
  intro ds chk v vs hF ht he hr base
  unfold sRCanonF at hF
  split at hF
  · rename_i a
    cases hF
    have hvs : vs = [vb32 a] := by simp only [encA, encV, encP, encL, Option.some.injEq] at he; exact he.symm
    subst hvs
    obtain ⟨h1, _⟩ := hr
    have e := limbs_words (rng_b32 h1)
    have hw : restP a = restP (limbs (wordsL a)) := by rw [e]
    rw [hw]
    exact runs_evS (mkok tabokRCanon) (n := 400) (bs0 := []) (by kernel_rfl) (VEnt.refl _) trivial
  · cases hF

noncomputable def sRWideF : List D → Option (List Bool × V)
  | [.n b] => some ([], vb32 (restP b))
  | _ => none
noncomputable def sRWide : FSpec := spec [tb64] sRWideF
noncomputable abbrev tabRWide : List (FuncId × FSpec) := [(140, sRScalar), (139, sRest)]
set_option maxRecDepth 100000 in
theorem tabokRWide : TabOK Try.prog (tabOf tabRWide) := (.cons ok_RScalar (.cons ok_Rest .nil))
set_option maxRecDepth 100000 in
theorem ok_RWide : FnOK Try.prog 107 sRWide := by
  refine fn_flat (cx := mkcx tabRWide) (c := bodyOf Try.f107) Try.func107 (by kernel_rfl) (by kernel_rfl) rfl ?_
  intro ds chk v vs hF ht he hr base
  unfold sRWideF at hF
  split at hF
  · rename_i b
    cases hF
    have hvs : vs = [vb64 b] := by simp only [encA, encV, encP, encL, Option.some.injEq] at he; exact he.symm
    subst hvs
    obtain ⟨h1, _⟩ := hr
    have e := limbs_or (rng_b64 h1)
    have hw : restP b = restP (limbs (orL b)) := by rw [e]
    rw [hw]
    exact runs_evS (mkok tabokRWide) (n := 600) (bs0 := []) (by kernel_rfl) (VEnt.refl _) trivial
  · cases hF

noncomputable def sRPlusF : List D → Option (List Bool × V)
  | [.n a, .n b] => some ([], vb32 (restP (restP a + restP b)))
  | _ => none
noncomputable def sRPlus : FSpec := spec [tb32, tb32] sRPlusF
noncomputable abbrev tabRPlus : List (FuncId × FSpec) := [(142, sRCanon), (121, sAdd64), (139, sRest), (140, sRScalar)]
set_option maxRecDepth 100000 in
theorem tabokRPlus : TabOK Try.prog (tabOf tabRPlus) := (.cons ok_RCanon (.cons ok_Add64 (.cons ok_Rest (.cons ok_RScalar .nil))))
set_option maxRecDepth 100000 in
theorem ok_RPlus : FnOK Try.prog 110 sRPlus := by
  refine fn_flat (cx := mkcx tabRPlus) (c := bodyOf Try.f110) Try.func110 (by kernel_rfl) (by kernel_rfl) rfl ?_
  intro ds chk v vs hF ht he hr base
  unfold sRPlusF at hF
  split at hF
  · rename_i a b
    cases hF
    have hvs : vs = [vb32 a, vb32 b] := by simp only [encA, encV, encP, encL, Option.some.injEq] at he; exact he.symm
    subst hvs
    have hx := restP_lt a
    have hy := restP_lt b
    obtain ⟨ea, a0, a1, a2, a3⟩ := digits4 (show restP a < 115792089237316195423570985008687907853269984665640564039457584007913129639936 from Nat.lt_trans hx (by decide))
    obtain ⟨eb, b0, b1, b2, b3⟩ := digits4 (show restP b < 115792089237316195423570985008687907853269984665640564039457584007913129639936 from Nat.lt_trans hy (by decide))
    obtain ⟨s0, hs0⟩ : ∃ s : Int, s = (digit 64 (restP a) 0 : Int) + (digit 64 (restP b) 0 : Int) + 0 := ⟨_, rfl⟩
    obtain ⟨s1, hs1⟩ : ∃ s : Int, s = (digit 64 (restP a) 1 : Int) + (digit 64 (restP b) 1 : Int) + s0 / 18446744073709551616 := ⟨_, rfl⟩
    obtain ⟨s2, hs2⟩ : ∃ s : Int, s = (digit 64 (restP a) 2 : Int) + (digit 64 (restP b) 2 : Int) + s1 / 18446744073709551616 := ⟨_, rfl⟩
    obtain ⟨s3, hs3⟩ : ∃ s : Int, s = (digit 64 (restP a) 3 : Int) + (digit 64 (restP b) 3 : Int) + s2 / 18446744073709551616 := ⟨_, rfl⟩
    have hc : allT [decide (s0 / 18446744073709551616 ≤ 1), decide (s1 / 18446744073709551616 ≤ 1), decide (s2 / 18446744073709551616 ≤ 1)] := by
      intro b hb
      simp only [List.mem_cons, List.not_mem_nil, or_false] at hb
      rcases hb with rfl | rfl | rfl <;> (rw [decide_eq_true_iff]; omega)
    obtain ⟨m1, m2⟩ := carry4 ea eb hs0 hs1 hs2 hs3
    have hsum : limbs [[.i (s0 % 18446744073709551616)], [.i (s1 % 18446744073709551616)], [.i (s2 % 18446744073709551616)], [.i (s3 % 18446744073709551616)]] = restP a + restP b := by
      refine Eq.trans m1 (Nat.mod_eq_of_lt ?_)
      clear m1 m2 ea eb hs0 hs1 hs2 hs3 hc
      omega
    rw [← hsum]
    refine runs_evS (mkok tabokRPlus) (n := 400) (bs0 := []) (v0 := vb32 (restP (limbs [[.i (s0 % 18446744073709551616)], [.i (s1 % 18446744073709551616)], [.i (s2 % 18446744073709551616)], [.i (s3 % 18446744073709551616)]]))) (.trans (?_ : _ = chks [decide (s0 / 18446744073709551616 ≤ 1), decide (s1 / 18446744073709551616 ≤ 1), decide (s2 / 18446744073709551616 ≤ 1)] _) (chks_true hc)) (VEnt.refl _) trivial
    subst hs3 hs2 hs1 hs0
    kernel_rfl
  · cases hF
end Go.Proofs.Ytpoikjcgdojjjaa
