/-
  Contracts of the program's scalars: Inverse.
-/
import Derived.Test.YtpoikjcgdojjjaaLb42
namespace Go.Proofs.Ytpoikjcgdojjjaa
open Go Vx Go.RowKit

noncomputable def powL : Nat → Nat → Nat := hidden' fun a n => a ^ n % 7237005577332262213973186563042994240857116359379907606001950938285454250989
theorem powL_eq (a n : Nat) : powL a n = a ^ n % 7237005577332262213973186563042994240857116359379907606001950938285454250989 := by unfold powL; rw [seal_eq]
noncomputable def mulL (a b : Nat) : Nat := restP (restP a * restP b)
theorem mulL_eq (a b : Nat) : mulL a b = a * b % 7237005577332262213973186563042994240857116359379907606001950938285454250989 := by unfold mulL; rw [restP_eq, restP_eq, restP_eq, ← Nat.mul_mod]
theorem powL_step (a e j : Nat) {c : Nat} (hc : c = powL a (e / 2 ^ (j + 1))) : (bif decide (e / 2 ^ j % 2 = 1) then mulL (mulL c c) a else mulL c c) = powL a (e / 2 ^ j) := by
  have hd : e / 2 ^ j = 2 * (e / 2 ^ (j + 1)) + e / 2 ^ j % 2 := by
    rw [Nat.pow_succ, ← Nat.div_div_eq_div_mul]; omega
  rw [hc]
  generalize e / 2 ^ (j + 1) = q at *
  have hb : e / 2 ^ j % 2 = 0 ∨ e / 2 ^ j % 2 = 1 := by omega
  rcases hb with hb | hb
  · rw [hb] at hd
    rw [hb, hd]
    simp only [Nat.zero_ne_one, decide_false, cond_false, mulL_eq, powL_eq, Nat.add_zero]
    rw [← Nat.mul_mod, ← Nat.pow_add, Nat.two_mul]
  · rw [hb] at hd
    rw [hb, hd]
    simp only [decide_true, cond_true, mulL_eq, powL_eq]
    rw [Nat.mod_mul_mod, Nat.mul_mod, ← Nat.mul_mod (a ^ q), ← Nat.pow_add, ← Nat.two_mul, Nat.pow_succ]
    simp only [Nat.mod_mul_mod, Nat.mul_mod_mod]
def stI (a e : Nat) (i : Int) (c : Nat) : St := ⟨[.junk, .one (.ptr 0 0), .one (.ptr 1 0), .one (.ptr 4 0), .junk, .one (.ptr 6 0), vi64 i] ++ List.replicate 27 .junk,
  [some ⟨70, .ps [.pk .u8 8 32 a]⟩, some ⟨70, .ps [.int .u8 0, .int .u8 0, .int .u8 0, .int .u8 0, .int .u8 0, .int .u8 0, .int .u8 0, .int .u8 0, .int .u8 0, .int .u8 0, .int .u8 0, .int .u8 0, .int .u8 0, .int .u8 0, .int .u8 0, .int .u8 0, .int .u8 0, .int .u8 0, .int .u8 0, .int .u8 0, .int .u8 0, .int .u8 0, .int .u8 0, .int .u8 0, .int .u8 0, .int .u8 0, .int .u8 0, .int .u8 0, .int .u8 0, .int .u8 0, .int .u8 0, .int .u8 0]⟩, none, none, some ⟨137, .ps [.pk .u64 64 4 e]⟩, none, some ⟨70, .ps [.pk .u8 8 32 c]⟩]⟩

noncomputable def sRInverseF : List D → Option (List Bool × V)
  | [.n a] => some ([], vb32 (powL a 7237005577332262213973186563042994240857116359379907606001950938285454250987))
  | _ => none
noncomputable def sRInverse : FSpec := spec [tb32] sRInverseF
noncomputable abbrev tabRInverse : List (FuncId × FSpec) := [(137, sOrder), (136, sLess), (119, sRScOf), (112, sRTimes)]
set_option maxRecDepth 100000 in
theorem tabokRInverse : TabOK Try.prog (tabOf tabRInverse) := (.cons ok_Order (.cons ok_Less (.cons ok_RScOf (.cons ok_RTimes .nil))))
set_option maxRecDepth 100000 in
theorem ok_RInverse : FnOK Try.prog 113 sRInverse := by
  refine fn_flat (cx := mkcs tabRInverse) (c := bodyOf Try.f113) Try.func113 (by kernel_rfl) (by kernel_rfl) rfl ?_
  intro ds chk v vs hF ht he hr base
  unfold sRInverseF at hF
  split at hF
  · rename_i a
    cases hF
    have hvs : vs = [vb32 a] := by simp only [encA, encV, encP, encL, Option.some.injEq] at he; exact he.symm
    subst hvs
    refine Runs.items _ _ _ (RunsL.preS (mkoks tabokRInverse) (n := 100) (k := 4) (kt := [1, 2, 3, 5, 6]) (kh := [0, 1, 4, 6]) (m := 7) (e := .normal) (st' := stI a (minusS 7237005577332262213973186563042994240857116359379907606001950938285454250989 2) 252 1) (by kernel_rfl) ?_)
    have he : minusS 7237005577332262213973186563042994240857116359379907606001950938285454250989 2 = 7237005577332262213973186563042994240857116359379907606001950938285454250987 := by rw [minusS_eq]
    rw [he]
    refine RunsL.loop (id := 0) (by kernel_rfl) (fun m s => ∃ c, s = stI a 7237005577332262213973186563042994240857116359379907606001950938285454250987 ((m : Int) - 1) c ∧ m ≤ 253 ∧ c = powL a (7237005577332262213973186563042994240857116359379907606001950938285454250987 / 2 ^ m)) 253 ⟨1, rfl, Nat.le_refl _, ?_⟩ ?_
    · rw [powL_eq, show 7237005577332262213973186563042994240857116359379907606001950938285454250987 / 2 ^ 253 = 0 from by decide +kernel, Nat.pow_zero]
    rintro m s ⟨c, rfl, hm, hc⟩
    cases m with
    | zero =>
      refine RunsL.allS (mkoks tabokRInverse) (n := 100) (kt := [1, 2, 3, 5, 6]) (kh := [0, 1, 4, 6]) (m := 7) (e := .exit 0) (st' := stI a 7237005577332262213973186563042994240857116359379907606001950938285454250987 (-1) c) (by kernel_rfl) ?_
      have : powL a 7237005577332262213973186563042994240857116359379907606001950938285454250987 = c := by rw [hc, Nat.pow_zero, Nat.div_one]
      rw [this]
      exact runsL_evS (mkoks tabokRInverse) (n := 100) (bs0 := []) (by kernel_rfl) (VEnt.refl _) trivial
    | succ j =>
      have hj : j < 253 := hm
      have hi : ((j + 1 : Nat) : Int) - 1 = (j : Int) := by omega
      rw [hi]
      have hev : ∀ e : Nat, evL (mkcs tabRInverse) 100 (items (loopAt (bodyOf Try.f113) 4)) (stI a e (j : Int) c) (kfg 0 [1, 2, 3, 5, 6] [0, 1, 4, 6] 7) =
          chks [okK .i64 ((j : Int).tdiv 64), decide ((j : Int).tdiv 64 < 4), decide (0 + ((j : Int).tdiv 64).toNat < 4)]
            (bif decide ((((((digit 64 e (0 + ((j : Int).tdiv 64).toNat) : Nat) : Int) / ((2 ^ min ((j : Int).tmod 64).toNat IntKind.u64.bits : Nat) : Int)).toNat &&& 1 : Nat) : Int) = 1) then
              chks [okK .i64 ((j : Int) - 1)] (.done .normal (stI a e ((j : Int) - 1) (mulL (mulL c c) a)))
            else chks [okK .i64 ((j : Int) - 1)] (.done .normal (stI a e ((j : Int) - 1) (mulL c c)))) := by intro e; kernel_rfl
      have hev := hev 7237005577332262213973186563042994240857116359379907606001950938285454250987
      have hq : (j : Int).tdiv 64 = ((j / 64 : Nat) : Int) := by rw [Int.tdiv_eq_ediv_of_nonneg (by omega)]; simp
      have h4 : j / 64 < 4 := by omega
      have hc1 : allT [okK .i64 ((j : Int).tdiv 64), decide ((j : Int).tdiv 64 < 4), decide (0 + ((j : Int).tdiv 64).toNat < 4)] := by
        rw [hq]
        refine allTc (okI (by omega) (by omega)) (allTc (by rw [decide_eq_true_iff]; omega) (allT1 (by rw [decide_eq_true_iff]; omega)))
      have hc2 : allT [okK .i64 ((j : Int) - 1)] := allT1 (okI (by omega) (by omega))
      rw [chks_true hc1, chks_true hc2, chks_true hc2, bit_eq (show j < 256 by omega)] at hev
      have hstep := powL_step a 7237005577332262213973186563042994240857116359379907606001950938285454250987 j hc
      cases hb : decide (7237005577332262213973186563042994240857116359379907606001950938285454250987 / 2 ^ j % 2 = 1) with
      | true =>
        rw [hb] at hev hstep
        exact RunsL.all (mkoks tabokRInverse) hev ⟨j, Nat.lt_succ_self j, _, rfl, Nat.le_of_lt hj, hstep⟩
      | false =>
        rw [hb] at hev hstep
        exact RunsL.all (mkoks tabokRInverse) hev ⟨j, Nat.lt_succ_self j, _, rfl, Nat.le_of_lt hj, hstep⟩
  · cases hF
end Go.Proofs.Ytpoikjcgdojjjaa
