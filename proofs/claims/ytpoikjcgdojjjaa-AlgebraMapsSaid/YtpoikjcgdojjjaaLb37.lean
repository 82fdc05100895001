/-
  Contracts of the program's scalars: small ones.
-/
import Derived.Test.YtpoikjcgdojjjaaL2
namespace Go.Proofs.Ytpoikjcgdojjjaa
open Go Vx Go.RowKit

noncomputable def sLessF : List D → Option (List Bool × V)
  | [.n a, .n b] => some ([], .tup [.ag (.ps [.pk .u64 64 4 (minusS a b)]), .one (.int .u64 (bif minusB a b then 1 else 0))])
  | _ => none
noncomputable def sLess : FSpec := spec [tfe, tfe] sLessF
noncomputable abbrev tabLess : List (FuncId × FSpec) := [(132, sSub64)]
set_option maxRecDepth 100000 in
theorem tabokLess : TabOK Try.prog (tabOf tabLess) := (.cons ok_Sub64 .nil)
set_option maxRecDepth 100000 in
theorem ok_Less : FnOK Try.prog 136 sLess := by
  refine fn_flat (cx := mkcx tabLess) (c := bodyOf Try.f136) Try.func136 (by kernel_rfl) (by kernel_rfl) rfl ?_
  intro ds chk v vs hF ht he hr base
  unfold sLessF at hF
  split at hF
  · rename_i a b
    cases hF
    have hvs : vs = [vfe a, vfe b] := by simp only [encA, encV, encP, encL, Option.some.injEq] at he; exact he.symm
    subst hvs
    obtain ⟨h1, h2, _⟩ := hr
    obtain ⟨ea, a0, a1, a2, a3⟩ := digits4 (rng_fe h1)
    obtain ⟨eb, b0, b1, b2, b3⟩ := digits4 (rng_fe h2)
    obtain ⟨c1, hc1⟩ : ∃ c : Int, c = if (digit 64 a 0 : Int) < (digit 64 b 0 : Int) + 0 then 1 else 0 := ⟨_, rfl⟩
    obtain ⟨c2, hc2⟩ : ∃ c : Int, c = if (digit 64 a 1 : Int) < (digit 64 b 1 : Int) + c1 then 1 else 0 := ⟨_, rfl⟩
    obtain ⟨c3, hc3⟩ : ∃ c : Int, c = if (digit 64 a 2 : Int) < (digit 64 b 2 : Int) + c2 then 1 else 0 := ⟨_, rfl⟩
    obtain ⟨c4, hc4⟩ : ∃ c : Int, c = if (digit 64 a 3 : Int) < (digit 64 b 3 : Int) + c3 then 1 else 0 := ⟨_, rfl⟩
    have hc : allT [decide (c1 ≤ 1), decide (c2 ≤ 1), decide (c3 ≤ 1)] := by
      intro b hb
      simp only [List.mem_cons, List.not_mem_nil, or_false] at hb
      rcases hb with rfl | rfl | rfl <;> rw [decide_eq_true_iff]
      · rw [hc1]; split <;> omega
      · rw [hc2]; split <;> omega
      · rw [hc3]; split <;> omega
    obtain ⟨m1, m2⟩ := borrow4 ea eb ⟨a0, a1, a2, a3⟩ ⟨b0, b1, b2, b3⟩ hc1 hc2 hc3 hc4
    have hent := VEnt.tup2 (UEnt.of (ent_fe m1)) (UEnt.refl (.one (.int .u64 c4)))
    rw [m2, ← minusS_eq, ← minusB_eq] at hent
    refine runs_ev (mkok tabokLess) (n := 200) (bs0 := []) (v0 := .tup [.ag (.ps [.int .u64 (((digit 64 a 0 : Int) - digit 64 b 0 - 0) % 18446744073709551616), .int .u64 (((digit 64 a 1 : Int) - digit 64 b 1 - c1) % 18446744073709551616),
        .int .u64 (((digit 64 a 2 : Int) - digit 64 b 2 - c2) % 18446744073709551616), .int .u64 (((digit 64 a 3 : Int) - digit 64 b 3 - c3) % 18446744073709551616)]), .one (.int .u64 c4)])
      (.trans (?_ : _ = chks [decide (c1 ≤ 1), decide (c2 ≤ 1), decide (c3 ≤ 1)] _) (chks_true hc)) (by rw [m2, ← minusB_eq]; exact hent) trivial
    subst hc4 hc3 hc2 hc1
    kernel_rfl
  · cases hF

noncomputable def sOrderF : List D → Option (List Bool × V)
  | [] => some ([], vfe 7237005577332262213973186563042994240857116359379907606001950938285454250989)
  | _ => none
noncomputable def sOrder : FSpec := spec [] sOrderF
noncomputable abbrev tabOrder : List (FuncId × FSpec) := []
set_option maxRecDepth 100000 in
theorem tabokOrder : TabOK Try.prog (tabOf tabOrder) := TabOK.nil
set_option maxRecDepth 100000 in
theorem ok_Order : FnOK Try.prog 137 sOrder := by
  refine fn_flat (cx := mkcx tabOrder) (c := bodyOf Try.f137) Try.func137 (by kernel_rfl) (by kernel_rfl) rfl ?_
  intro ds chk v vs hF ht he hr base
  unfold sOrderF at hF
  split at hF
  · cases hF
    have hvs : vs = [] := by simp only [encA, Option.some.injEq] at he; exact he.symm
    subst hvs
    refine runs_ev (mkok tabokOrder) (n := 200) (bs0 := []) (v0 := .ag (.ps [.int .u64 6346243789798364141, .int .u64 1503914060200516822, .int .u64 0, .int .u64 1152921504606846976])) (by kernel_rfl) (ent_fe ?_) trivial
    decide +kernel
  · cases hF

theorem of_ent {b : Nat} (hb : b < 115792089237316195423570985008687907853269984665640564039457584007913129639936) : VEnt (.ag (.ps [.int .u64 (orw b 0 8), .int .u64 (orw b 1 8), .int .u64 (orw b 2 8), .int .u64 (orw b 3 8)])) (vfe b) := by
  refine ent_fe ?_
  rw [orw_digit, orw_digit, orw_digit, orw_digit]
  obtain ⟨eb, h0, h1, h2, h3⟩ := digits4 hb
  simp only [Int.toNat_natCast, Nat.reducePow]
  omega

noncomputable def sROfF : List D → Option (List Bool × V)
  | [.n a] => some ([], vfe a)
  | _ => none
noncomputable def sROf : FSpec := spec [tb32] sROfF
noncomputable abbrev tabROf : List (FuncId × FSpec) := []
set_option maxRecDepth 100000 in
theorem tabokROf : TabOK Try.prog (tabOf tabROf) := TabOK.nil
set_option maxRecDepth 100000 in
theorem ok_ROf : FnOK Try.prog 135 sROf := by
  refine fn_flat (cx := mkcx tabROf) (c := bodyOf Try.f135) Try.func135 (by kernel_rfl) (by kernel_rfl) rfl ?_
  intro ds chk v vs hF ht he hr base
  unfold sROfF at hF
  split at hF
  · rename_i a
    cases hF
    have hvs : vs = [vb32 a] := by simp only [encA, encV, encP, encL, Option.some.injEq] at he; exact he.symm
    subst hvs
    obtain ⟨h1, _⟩ := hr
    exact runs_evS (mkok tabokROf) (n := 400) (bs0 := []) (v0 := .ag (.ps [.int .u64 (orw a 0 8), .int .u64 (orw a 1 8), .int .u64 (orw a 2 8), .int .u64 (orw a 3 8)])) (by kernel_rfl) (of_ent (rng_b32 h1)) trivial
  · cases hF

noncomputable def sRScalarF : List D → Option (List Bool × V)
  | [.n a] => some ([], vb32 a)
  | _ => none
noncomputable def sRScalar : FSpec := spec [tfe] sRScalarF
noncomputable abbrev tabRScalar : List (FuncId × FSpec) := []
set_option maxRecDepth 100000 in
theorem tabokRScalar : TabOK Try.prog (tabOf tabRScalar) := TabOK.nil
set_option maxRecDepth 100000 in
theorem ok_RScalar : FnOK Try.prog 140 sRScalar := by
  refine fn_flat (cx := mkcx tabRScalar) (c := bodyOf Try.f140) Try.func140 (by kernel_rfl) (by kernel_rfl) rfl ?_
  intro ds chk v vs hF ht he hr base
  unfold sRScalarF at hF
  split at hF
  · rename_i a
    cases hF
    have hvs : vs = [vfe a] := by simp only [encA, encV, encP, encL, Option.some.injEq] at he; exact he.symm
    subst hvs
    obtain ⟨h1, _⟩ := hr
    exact runs_evS (mkok tabokRScalar) (n := 400) (bs0 := []) (v0 := .ag (.ps ((List.range' 0 32).map fun i => .int .u8 (wrapK .u8 (((digit 64 a (i / 8) : Nat) : Int) / ((2 ^ (8 * (i % 8)) : Nat) : Int)))))) (by kernel_rfl) (ent_b32 (f := fun i => wrapK .u8 (((digit 64 a (i / 8) : Nat) : Int) / ((2 ^ (8 * (i % 8)) : Nat) : Int))) (rng_fe h1) fun i _ => byte_eq _ i) trivial
  · cases hF

theorem may_bool (b : Bool) : decide ((bif b then (1 : Int) else 0) = 1) = b := by cases b <;> rfl

noncomputable def sRMayF : List D → Option (List Bool × V)
  | [.n a] => some ([], vbool' (minusB a 7237005577332262213973186563042994240857116359379907606001950938285454250989))
  | _ => none
noncomputable def sRMay : FSpec := spec [tb32] sRMayF
noncomputable abbrev tabRMay : List (FuncId × FSpec) := [(136, sLess), (137, sOrder), (135, sROf)]
set_option maxRecDepth 100000 in
theorem tabokRMay : TabOK Try.prog (tabOf tabRMay) := (.cons ok_Less (.cons ok_Order (.cons ok_ROf .nil)))
set_option maxRecDepth 100000 in
theorem ok_RMay : FnOK Try.prog 102 sRMay := by
  refine fn_flat (cx := mkcx tabRMay) (c := bodyOf Try.f102) Try.func102 (by kernel_rfl) (by kernel_rfl) rfl ?_
  intro ds chk v vs hF ht he hr base
  unfold sRMayF at hF
  split at hF
  · rename_i a
    cases hF
    have hvs : vs = [vb32 a] := by simp only [encA, encV, encP, encL, Option.some.injEq] at he; exact he.symm
    subst hvs
    rw [← may_bool (minusB a 7237005577332262213973186563042994240857116359379907606001950938285454250989)]
    exact runs_evS (mkok tabokRMay) (n := 400) (bs0 := []) (by kernel_rfl) (VEnt.refl _) trivial
  · cases hF

noncomputable def sRScOfF : List D → Option (List Bool × V)
  | [.i n] => some ([], vb32 n.toNat)
  | _ => none
noncomputable def sRScOf : FSpec := spec [tu64] sRScOfF
noncomputable abbrev tabRScOf : List (FuncId × FSpec) := [(140, sRScalar)]
set_option maxRecDepth 100000 in
theorem tabokRScOf : TabOK Try.prog (tabOf tabRScOf) := (.cons ok_RScalar .nil)
set_option maxRecDepth 100000 in
theorem ok_RScOf : FnOK Try.prog 119 sRScOf := by
  refine fn_flat (cx := mkcx tabRScOf) (c := bodyOf Try.f119) Try.func119 (by kernel_rfl) (by kernel_rfl) rfl ?_
  intro ds chk v vs hF ht he hr base
  unfold sRScOfF at hF
  split at hF
  · rename_i n
    cases hF
    have hvs : vs = [vu64 n] := by simp only [encA, encV, encP, encL, Option.some.injEq] at he; exact he.symm
    subst hvs
    exact runs_evS (mkok tabokRScOf) (n := 400) (bs0 := []) (by kernel_rfl) (VEnt.refl _) trivial
  · cases hF
end Go.Proofs.Ytpoikjcgdojjjaa
