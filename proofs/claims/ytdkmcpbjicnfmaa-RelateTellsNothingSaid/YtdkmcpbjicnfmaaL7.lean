/-
  Contracts of the program's scalars: Times.
-/
import Derived.Test.YtdkmcpbjicnfmaaL6
import Derived.Test.YtdkmcpbjicnfmaaU2
import Derived.Test.YtdkmcpbjicnfmaaX4
import Derived.Test.YtdkmcpbjicnfmaaL3
namespace Go.Proofs.Ytdkmcpbjicnfmaa
open Go Vx Go.RowKit

def q8 (r : Nat → Int) : List L := [.int .u64 (r 0), .int .u64 (r 1), .int .u64 (r 2), .int .u64 (r 3), .int .u64 (r 4), .int .u64 (r 5), .int .u64 (r 6), .int .u64 (r 7)]
def l8 (r : Nat → Int) : List (List D) := [[.i (r 0)], [.i (r 1)], [.i (r 2)], [.i (r 3)], [.i (r 4)], [.i (r 5)], [.i (r 6)], [.i (r 7)]]
def dq (n i : Nat) : Int := ((digit 64 n i : Nat) : Int)
def stT (x y : Nat) (r : Nat → Int) (i : Int) : St := ⟨[.junk, .junk, .junk, .junk, .one (.ptr 2 0), .one (.ptr 5 0), .one (.ptr 6 0), .one (.sl 7 0 8 8)] ++ List.replicate 11 .junk ++ [vi64 i] ++ List.replicate 53 .junk,
  [none, none, some ⟨29, .ps [.int .u8 0, .int .u8 0, .int .u8 0, .int .u8 0, .int .u8 0, .int .u8 0, .int .u8 0, .int .u8 0, .int .u8 0, .int .u8 0, .int .u8 0, .int .u8 0, .int .u8 0, .int .u8 0, .int .u8 0, .int .u8 0, .int .u8 0, .int .u8 0, .int .u8 0, .int .u8 0, .int .u8 0, .int .u8 0, .int .u8 0, .int .u8 0, .int .u8 0, .int .u8 0, .int .u8 0, .int .u8 0, .int .u8 0, .int .u8 0, .int .u8 0, .int .u8 0]⟩, none, none, some ⟨126, .ps [.pk .u64 64 4 x]⟩, some ⟨126, .ps [.pk .u64 64 4 y]⟩, some ⟨52, .ps (q8 r)⟩]⟩
theorem dq_rng (n i : Nat) : 0 ≤ dq n i ∧ dq n i < 18446744073709551616 := by
  unfold dq digit
  have := Nat.mod_lt (n / 2 ^ (64 * i)) (show 2 ^ 64 > 0 by decide)
  simp only [Nat.reducePow] at *
  omega
theorem wsum_digits (n : Nat) : ∀ k, wsum (dq n) k = ((n % 2 ^ (64 * k) : Nat) : Int)
  | 0 => by simp [wsum, Nat.mod_one]
  | k + 1 => by
    rw [wsum, wsum_digits n k]
    have e : n % 2 ^ (64 * (k + 1)) = n % 2 ^ (64 * k) + 2 ^ (64 * k) * digit 64 n k := by
      rw [show 64 * (k + 1) = 64 * k + 64 from rfl, Nat.pow_add, Nat.mod_mul]
      rfl
    rw [e]
    unfold dq
    simp only [Int.natCast_add, Int.natCast_mul, Int.natCast_pow, Int.cast_ofNat_Int]
    rw [Int.mul_comm (2 ^ (64 * k))]
theorem limbs_wsum {r : Nat → Int} (h : ∀ j, 0 ≤ r j ∧ r j < 18446744073709551616) : ((limbs (l8 r) : Nat) : Int) = wsum r 8 := by
  unfold limbs l8 limbD
  simp only [List.map_cons, List.map_nil, List.headD_cons, D.toI, packL, wsum]
  have h0 := h 0; have h1 := h 1; have h2 := h 2; have h3 := h 3; have h4 := h 4; have h5 := h 5; have h6 := h 6; have h7 := h 7
  generalize r 0 = a0 at *; generalize r 1 = a1 at *; generalize r 2 = a2 at *; generalize r 3 = a3 at *
  generalize r 4 = a4 at *; generalize r 5 = a5 at *; generalize r 6 = a6 at *; generalize r 7 = a7 at *
  clear h
  have p1 : (2 : Int) ^ (64 * 1) = 2 ^ 64 := rfl
  have ps : ∀ k, (2 : Int) ^ (64 * (k + 1)) = 2 ^ (64 * k) * 2 ^ 64 := fun k => by rw [Nat.mul_succ, Int.pow_add]
  have p0 : (2 : Int) ^ (64 * 0) = 1 := rfl
  rw [ps 6, ps 5, ps 4, ps 3, ps 2, ps 1, ps 0, p0]
  simp only [Int.natCast_add, Int.natCast_mul, Int.natCast_pow, Int.cast_ofNat_Int, Int.toNat_of_nonneg h0.1, Int.toNat_of_nonneg h1.1, Int.toNat_of_nonneg h2.1, Int.toNat_of_nonneg h3.1, Int.toNat_of_nonneg h4.1, Int.toNat_of_nonneg h5.1, Int.toNat_of_nonneg h6.1, Int.toNat_of_nonneg h7.1]
  generalize (2 : Int) ^ 64 = M
  grind
theorem times_end {x y : Nat} (hx : x < 115792089237316195423570985008687907853269984665640564039457584007913129639936) (hy : y < 115792089237316195423570985008687907853269984665640564039457584007913129639936) {r : Nat → Int} (h : QInv (dq x) (dq y) 4 r) : limbs (l8 r) = x * y := by
  have e := limbs_wsum h.rng
  have hv := h.val
  have px : wsum (dq x) 4 = (x : Int) := by rw [wsum_digits, show (2 : Nat) ^ (64 * 4) = 115792089237316195423570985008687907853269984665640564039457584007913129639936 from by decide +kernel, Nat.mod_eq_of_lt hx]
  have py : wsum (dq y) 4 = (y : Int) := by rw [wsum_digits, show (2 : Nat) ^ (64 * 4) = 115792089237316195423570985008687907853269984665640564039457584007913129639936 from by decide +kernel, Nat.mod_eq_of_lt hy]
  rw [px, py, ← e] at hv
  exact_mod_cast hv

noncomputable def sRTimesF : List D → Option (List Bool × V)
  | [.n a, .n b] => some ([], vb32 (restP (restP a * restP b)))
  | _ => none
noncomputable def sRTimes : FSpec := spec [tb32, tb32] sRTimesF
noncomputable abbrev tabRTimes : List (FuncId × FSpec) := [(79, sRCanon), (103, sMul64), (80, sAdd64), (81, sRest), (82, sRScalar)]
set_option maxRecDepth 100000 in
theorem tabokRTimes : TabOK Try.prog (tabOf tabRTimes) := (.cons ok_RCanon (.cons ok_Mul64 (.cons ok_Add64 (.cons ok_Rest (.cons ok_RScalar .nil)))))
set_option maxRecDepth 100000 in
theorem ok_RTimes : FnOK Try.prog 67 sRTimes := by
  refine fn_flat (cx := mkcx tabRTimes) (c := bodyOf Try.f67) Try.func67 (by kernel_rfl) (by kernel_rfl) rfl ?_
  intro ds chk v vs hF ht he hr base
  unfold sRTimesF at hF
  split at hF
  · rename_i a b
    cases hF
    have hvs : vs = [vb32 a, vb32 b] := by simp only [encA, encV, encP, encL, Option.some.injEq] at he; exact he.symm
    subst hvs
    have hx : restP a < 115792089237316195423570985008687907853269984665640564039457584007913129639936 := Nat.lt_trans (restP_lt a) (by decide)
    have hy : restP b < 115792089237316195423570985008687907853269984665640564039457584007913129639936 := Nat.lt_trans (restP_lt b) (by decide)
    have hI0 : QInv (dq (restP a)) (dq (restP b)) 0 (fun _ => 0) := ⟨fun _ => ⟨by decide, by decide⟩, fun _ _ => rfl, by simp [wsum]⟩
    refine Runs.items _ _ _ (RunsL.preS (mkok tabokRTimes) (n := 100) (k := 4) (kt := [4, 5, 6, 7, 19]) (kh := [2, 5, 6, 7]) (m := 8) (e := .normal) (st' := stT (restP a) (restP b) (fun _ => 0) 0) (by kernel_rfl) ?_)
    generalize restP a = x at *
    generalize restP b = y at *
    refine RunsL.loop (id := 0) (by kernel_rfl) (fun m s => ∃ r, s = stT x y r (4 - (m : Int)) ∧ m ≤ 4 ∧ QInv (dq x) (dq y) (4 - m) r) 4 ⟨fun _ => 0, rfl, Nat.le_refl _, by have := hI0; exact this⟩ ?_
    rintro m s ⟨r, rfl, hm, hI⟩
    match m, hm, hI with
    | 4, _, hI => exact RunsL.allS (mkok tabokRTimes) (n := 100) (kt := [4, 5, 6, 7, 19]) (kh := [2, 5, 6, 7]) (m := 8) (e := .normal) (st' := stT x y (nextQ r (dq x 0) (dq y) 0) 1) (by kernel_rfl) ⟨3, by decide, _, rfl, by decide, hI.step (dq_rng x) (dq_rng y)⟩
    | 3, _, hI => exact RunsL.allS (mkok tabokRTimes) (n := 100) (kt := [4, 5, 6, 7, 19]) (kh := [2, 5, 6, 7]) (m := 8) (e := .normal) (st' := stT x y (nextQ r (dq x 1) (dq y) 1) 2) (by kernel_rfl) ⟨2, by decide, _, rfl, by decide, hI.step (dq_rng x) (dq_rng y)⟩
    | 2, _, hI => exact RunsL.allS (mkok tabokRTimes) (n := 100) (kt := [4, 5, 6, 7, 19]) (kh := [2, 5, 6, 7]) (m := 8) (e := .normal) (st' := stT x y (nextQ r (dq x 2) (dq y) 2) 3) (by kernel_rfl) ⟨1, by decide, _, rfl, by decide, hI.step (dq_rng x) (dq_rng y)⟩
    | 1, _, hI => exact RunsL.allS (mkok tabokRTimes) (n := 100) (kt := [4, 5, 6, 7, 19]) (kh := [2, 5, 6, 7]) (m := 8) (e := .normal) (st' := stT x y (nextQ r (dq x 3) (dq y) 3) 4) (by kernel_rfl) ⟨0, by decide, _, rfl, by decide, hI.step (dq_rng x) (dq_rng y)⟩
    | 0, _, hI =>
      refine RunsL.allS (mkok tabokRTimes) (n := 100) (kt := [4, 5, 6, 7, 19]) (kh := [2, 5, 6, 7]) (m := 8) (e := .exit 0) (st' := stT x y r 4) (by kernel_rfl) ?_
      rw [← times_end hx hy hI]
      exact runsL_evS (mkok tabokRTimes) (n := 200) (bs0 := []) (by kernel_rfl) (VEnt.refl _) trivial
  · cases hF
end Go.Proofs.Ytdkmcpbjicnfmaa

/-
  Contracts of the program's scalars: Inverse.
-/
namespace Go.Proofs.Ytdkmcpbjicnfmaa
open Go Vx Go.RowKit

noncomputable def powL : Nat → Nat → Nat := hidden' fun a n => a ^ n % 7237005577332262213973186563042994240857116359379907606001950938285454250989
theorem powL_eq (a n : Nat) : powL a n = a ^ n % 7237005577332262213973186563042994240857116359379907606001950938285454250989 := by unfold powL; rw [seal_eq]
noncomputable def mulL (a b : Nat) : Nat := restP (restP a * restP b)
theorem mulL_eq (a b : Nat) : mulL a b = a * b % 7237005577332262213973186563042994240857116359379907606001950938285454250989 := by unfold mulL; rw [restP_eq, restP_eq, restP_eq, ← Nat.mul_mod]
theorem powL_step (a e j : Nat) {c : Nat} (hc : c = powL a (e / 2 ^ (j + 1))) : (bif decide (e / 2 ^ j % 2 = 1) then mulL (mulL c c) a else mulL c c) = powL a (e / 2 ^ j) := by
  have hd : e / 2 ^ j = 2 * (e / 2 ^ (j + 1)) + e / 2 ^ j % 2 := by
    rw [Nat.pow_succ, ← Nat.div_div_eq_div_mul]; omega
  rw [hc]
  generalize e / 2 ^ (j + 1) = q at *
  have hb : e / 2 ^ j % 2 = 0 ∨ e / 2 ^ j % 2 = 1 := by omega
  rcases hb with hb | hb
  · rw [hb] at hd
    rw [hb, hd]
    simp only [Nat.zero_ne_one, decide_false, cond_false, mulL_eq, powL_eq, Nat.add_zero]
    rw [← Nat.mul_mod, ← Nat.pow_add, Nat.two_mul]
  · rw [hb] at hd
    rw [hb, hd]
    simp only [decide_true, cond_true, mulL_eq, powL_eq]
    rw [Nat.mod_mul_mod, Nat.mul_mod, ← Nat.mul_mod (a ^ q), ← Nat.pow_add, ← Nat.two_mul, Nat.pow_succ]
    simp only [Nat.mod_mul_mod, Nat.mul_mod_mod]
def stI (a e : Nat) (i : Int) (c : Nat) : St := ⟨[.junk, .one (.ptr 0 0), .one (.ptr 1 0), .one (.ptr 4 0), .junk, .one (.ptr 6 0), vi64 i] ++ List.replicate 27 .junk,
  [some ⟨29, .ps [.pk .u8 8 32 a]⟩, some ⟨29, .ps [.int .u8 0, .int .u8 0, .int .u8 0, .int .u8 0, .int .u8 0, .int .u8 0, .int .u8 0, .int .u8 0, .int .u8 0, .int .u8 0, .int .u8 0, .int .u8 0, .int .u8 0, .int .u8 0, .int .u8 0, .int .u8 0, .int .u8 0, .int .u8 0, .int .u8 0, .int .u8 0, .int .u8 0, .int .u8 0, .int .u8 0, .int .u8 0, .int .u8 0, .int .u8 0, .int .u8 0, .int .u8 0, .int .u8 0, .int .u8 0, .int .u8 0, .int .u8 0]⟩, none, none, some ⟨126, .ps [.pk .u64 64 4 e]⟩, none, some ⟨29, .ps [.pk .u8 8 32 c]⟩]⟩

noncomputable def sRInverseF : List D → Option (List Bool × V)
  | [.n a] => some ([], vb32 (powL a 7237005577332262213973186563042994240857116359379907606001950938285454250987))
  | _ => none
noncomputable def sRInverse : FSpec := spec [tb32] sRInverseF
noncomputable abbrev tabRInverse : List (FuncId × FSpec) := [(85, sOrder), (84, sLess), (57, sRScOf), (67, sRTimes)]
set_option maxRecDepth 100000 in
theorem tabokRInverse : TabOK Try.prog (tabOf tabRInverse) := (.cons ok_Order (.cons ok_Less (.cons ok_RScOf (.cons ok_RTimes .nil))))
set_option maxRecDepth 100000 in
theorem ok_RInverse : FnOK Try.prog 68 sRInverse := by
  refine fn_flat (cx := mkcs tabRInverse) (c := bodyOf Try.f68) Try.func68 (by kernel_rfl) (by kernel_rfl) rfl ?_
  intro ds chk v vs hF ht he hr base
  unfold sRInverseF at hF
  split at hF
  · rename_i a
    cases hF
    have hvs : vs = [vb32 a] := by simp only [encA, encV, encP, encL, Option.some.injEq] at he; exact he.symm
    subst hvs
    refine Runs.items _ _ _ (RunsL.preS (mkoks tabokRInverse) (n := 100) (k := 4) (kt := [1, 2, 3, 5, 6]) (kh := [0, 1, 4, 6]) (m := 7) (e := .normal) (st' := stI a (minusS 7237005577332262213973186563042994240857116359379907606001950938285454250989 2) 252 1) (by kernel_rfl) ?_)
    have he : minusS 7237005577332262213973186563042994240857116359379907606001950938285454250989 2 = 7237005577332262213973186563042994240857116359379907606001950938285454250987 := by rw [minusS_eq]
    rw [he]
    refine RunsL.loop (id := 0) (by kernel_rfl) (fun m s => ∃ c, s = stI a 7237005577332262213973186563042994240857116359379907606001950938285454250987 ((m : Int) - 1) c ∧ m ≤ 253 ∧ c = powL a (7237005577332262213973186563042994240857116359379907606001950938285454250987 / 2 ^ m)) 253 ⟨1, rfl, Nat.le_refl _, ?_⟩ ?_
    · rw [powL_eq, show 7237005577332262213973186563042994240857116359379907606001950938285454250987 / 2 ^ 253 = 0 from by decide +kernel, Nat.pow_zero]
    rintro m s ⟨c, rfl, hm, hc⟩
    cases m with
    | zero =>
      refine RunsL.allS (mkoks tabokRInverse) (n := 100) (kt := [1, 2, 3, 5, 6]) (kh := [0, 1, 4, 6]) (m := 7) (e := .exit 0) (st' := stI a 7237005577332262213973186563042994240857116359379907606001950938285454250987 (-1) c) (by kernel_rfl) ?_
      have : powL a 7237005577332262213973186563042994240857116359379907606001950938285454250987 = c := by rw [hc, Nat.pow_zero, Nat.div_one]
      rw [this]
      exact runsL_evS (mkoks tabokRInverse) (n := 100) (bs0 := []) (by kernel_rfl) (VEnt.refl _) trivial
    | succ j =>
      have hj : j < 253 := hm
      have hi : ((j + 1 : Nat) : Int) - 1 = (j : Int) := by omega
      rw [hi]
      have hev : ∀ e : Nat, evL (mkcs tabRInverse) 100 (items (loopAt (bodyOf Try.f68) 4)) (stI a e (j : Int) c) (kfg 0 [1, 2, 3, 5, 6] [0, 1, 4, 6] 7) =
          chks [okK .i64 ((j : Int).tdiv 64), decide ((j : Int).tdiv 64 < 4), decide (0 + ((j : Int).tdiv 64).toNat < 4)]
            (bif decide ((((((digit 64 e (0 + ((j : Int).tdiv 64).toNat) : Nat) : Int) / ((2 ^ min ((j : Int).tmod 64).toNat IntKind.u64.bits : Nat) : Int)).toNat &&& 1 : Nat) : Int) = 1) then
              chks [okK .i64 ((j : Int) - 1)] (.done .normal (stI a e ((j : Int) - 1) (mulL (mulL c c) a)))
            else chks [okK .i64 ((j : Int) - 1)] (.done .normal (stI a e ((j : Int) - 1) (mulL c c)))) := by intro e; kernel_rfl
      have hev := hev 7237005577332262213973186563042994240857116359379907606001950938285454250987
      have hq : (j : Int).tdiv 64 = ((j / 64 : Nat) : Int) := by rw [Int.tdiv_eq_ediv_of_nonneg (by omega)]; simp
      have h4 : j / 64 < 4 := by omega
      have hc1 : allT [okK .i64 ((j : Int).tdiv 64), decide ((j : Int).tdiv 64 < 4), decide (0 + ((j : Int).tdiv 64).toNat < 4)] := by
        rw [hq]
        refine allTc (okI (by omega) (by omega)) (allTc (by rw [decide_eq_true_iff]; omega) (allT1 (by rw [decide_eq_true_iff]; omega)))
      have hc2 : allT [okK .i64 ((j : Int) - 1)] := allT1 (okI (by omega) (by omega))
      rw [chks_true hc1, chks_true hc2, chks_true hc2, bit_eq (show j < 256 by omega)] at hev
      have hstep := powL_step a 7237005577332262213973186563042994240857116359379907606001950938285454250987 j hc
      cases hb : decide (7237005577332262213973186563042994240857116359379907606001950938285454250987 / 2 ^ j % 2 = 1) with
      | true =>
        rw [hb] at hev hstep
        exact RunsL.all (mkoks tabokRInverse) hev ⟨j, Nat.lt_succ_self j, _, rfl, Nat.le_of_lt hj, hstep⟩
      | false =>
        rw [hb] at hev hstep
        exact RunsL.all (mkoks tabokRInverse) hev ⟨j, Nat.lt_succ_self j, _, rfl, Nat.le_of_lt hj, hstep⟩
  · cases hF
end Go.Proofs.Ytdkmcpbjicnfmaa

/-
  Contracts of the document's scalars: often.
-/
namespace Go.Proofs.Ytdkmcpbjicnfmaa
open Go Vx Go.RowKit

/-- l, so often. -/
def oftL (n : Int) : Nat := 7237005577332262213973186563042994240857116359379907606001950938285454250989 * 2 ^ n.toNat
end Go.Proofs.Ytdkmcpbjicnfmaa

/-
  Contracts of the document's scalars: Rest.
-/
namespace Go.Proofs.Ytdkmcpbjicnfmaa
open Go Vx Go.RowKit

def lL : List L := [.pk .u64 32 9 (oftL 0), .pk .u64 32 9 (oftL 1), .pk .u64 32 9 (oftL 2), .pk .u64 32 9 (oftL 3), .pk .u64 32 9 (oftL 4), .pk .u64 32 9 (oftL 5), .pk .u64 32 9 (oftL 6), .pk .u64 32 9 (oftL 7), .pk .u64 32 9 (oftL 8)]
end Go.Proofs.Ytdkmcpbjicnfmaa

/-
  Contracts of the document's scalars: Of, Wide, Plus.
-/
namespace Go.Proofs.Ytdkmcpbjicnfmaa
open Go Vx Go.RowKit
end Go.Proofs.Ytdkmcpbjicnfmaa

/-
  Contracts of the document's scalars: Minus, Times, Inverse.
-/
namespace Go.Proofs.Ytdkmcpbjicnfmaa
open Go Vx Go.RowKit
end Go.Proofs.Ytdkmcpbjicnfmaa
