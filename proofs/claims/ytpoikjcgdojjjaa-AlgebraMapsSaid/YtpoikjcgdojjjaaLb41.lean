/-
  Contracts of the document's scalars: small ones.
-/
import Derived.Test.YtpoikjcgdojjjaaLb40
namespace Go.Proofs.Ytpoikjcgdojjjaa
open Go Vx Go.RowKit

noncomputable def sSOrderF : List D → Option (List Bool × V)
  | [] => some ([], vb32 7237005577332262213973186563042994240857116359379907606001950938285454250989)
  | _ => none
noncomputable def sSOrder : FSpec := spec [] sSOrderF
noncomputable abbrev tabSOrder : List (FuncId × FSpec) := []
set_option maxRecDepth 100000 in
theorem tabokSOrder : TabOK Try.prog (tabOf tabSOrder) := TabOK.nil
set_option maxRecDepth 100000 in
theorem ok_SOrder : FnOK Try.prog 138 sSOrder := by
  refine fn_flat (cx := mkcx tabSOrder) (c := bodyOf Try.f138) Try.func138 (by kernel_rfl) (by kernel_rfl) rfl ?_
  intro ds chk v vs hF ht he hr base
  unfold sSOrderF at hF
  split at hF
  · cases hF
    have hvs : vs = [] := by simp only [encA, Option.some.injEq] at he; exact he.symm
    subst hvs
    exact runs_evS (mkok tabokSOrder) (n := 400) (bs0 := []) (v0 := .ag (.ps [.int .u8 237, .int .u8 211, .int .u8 245, .int .u8 92, .int .u8 26, .int .u8 99, .int .u8 18, .int .u8 88, .int .u8 214, .int .u8 156, .int .u8 247, .int .u8 162, .int .u8 222, .int .u8 249, .int .u8 222, .int .u8 20, .int .u8 0, .int .u8 0, .int .u8 0, .int .u8 0, .int .u8 0, .int .u8 0, .int .u8 0, .int .u8 0, .int .u8 0, .int .u8 0, .int .u8 0, .int .u8 0, .int .u8 0, .int .u8 0, .int .u8 0, .int .u8 16])) (by kernel_rfl) (VEnt.dec (t := tb32) (ds := [.n 7237005577332262213973186563042994240857116359379907606001950938285454250989]) (by kernel_rfl) rfl) trivial
  · cases hF

noncomputable def treeC (a l : Nat) : Nat → Out
  | 0 => outV (vbool' false)
  | i + 1 => bif !decide (((digit 8 a i : Nat) : Int) = ((digit 8 l i : Nat) : Int)) then outV (vbool' (decide (((digit 8 a i : Nat) : Int) < ((digit 8 l i : Nat) : Int)))) else treeC a l i
theorem mod8 (a m : Nat) : a % 2 ^ (8 * (m + 1)) = a % 2 ^ (8 * m) + 2 ^ (8 * m) * digit 8 a m := by
  rw [show 8 * (m + 1) = 8 * m + 8 from rfl, Nat.pow_add, Nat.mod_mul]
  rfl
theorem treeC_eq (a l : Nat) : ∀ m, treeC a l m = outV (vbool' (decide (a % 2 ^ (8 * m) < l % 2 ^ (8 * m))))
  | 0 => by simp [treeC, Nat.mod_one]
  | m + 1 => by
    have h1 : a % 2 ^ (8 * m) < 2 ^ (8 * m) := Nat.mod_lt _ (Nat.pow_pos (by decide))
    have h2 : l % 2 ^ (8 * m) < 2 ^ (8 * m) := Nat.mod_lt _ (Nat.pow_pos (by decide))
    unfold treeC
    rw [treeC_eq a l m, mod8 a m, mod8 l m]
    generalize a % 2 ^ (8 * m) = x at *
    generalize l % 2 ^ (8 * m) = y at *
    generalize digit 8 a m = d at *
    generalize digit 8 l m = e at *
    generalize 2 ^ (8 * m) = M at *
    cases hd : decide (((d : Nat) : Int) = ((e : Nat) : Int)) with
    | true =>
      have : d = e := by have := of_decide_eq_true hd; omega
      subst this
      simp only [Bool.not_true, cond_false]
      congr 2
      refine decide_eq_decide.2 ⟨fun h => by omega, fun h => by omega⟩
    | false =>
      have hne : d ≠ e := by have := of_decide_eq_false hd; omega
      simp only [Bool.not_false, cond_true]
      congr 2
      refine decide_eq_decide.2 ⟨fun h => ?_, fun h => ?_⟩
      · have h3 : d + 1 ≤ e := by omega
        have h4 : M * (d + 1) ≤ M * e := Nat.mul_le_mul_left _ h3
        rw [Nat.mul_succ] at h4
        omega
      · rcases Nat.lt_or_ge d e with h3 | h3
        · omega
        · exfalso
          have h3 : e + 1 ≤ d := by omega
          have h4 : M * (e + 1) ≤ M * d := Nat.mul_le_mul_left _ h3
          rw [Nat.mul_succ] at h4
          omega
theorem may_eq {a : Nat} (h : a < 115792089237316195423570985008687907853269984665640564039457584007913129639936) : decide (a % 2 ^ (8 * 32) < 7237005577332262213973186563042994240857116359379907606001950938285454250989 % 2 ^ (8 * 32)) = minusB a 7237005577332262213973186563042994240857116359379907606001950938285454250989 := by
  rw [minusB_eq, show (2 : Nat) ^ (8 * 32) = 115792089237316195423570985008687907853269984665640564039457584007913129639936 from by decide +kernel, Nat.mod_eq_of_lt h, Nat.mod_eq_of_lt (show 7237005577332262213973186563042994240857116359379907606001950938285454250989 < 115792089237316195423570985008687907853269984665640564039457584007913129639936 from by decide)]

noncomputable def sSMayF : List D → Option (List Bool × V)
  | [.n a] => some ([], vbool' (minusB a 7237005577332262213973186563042994240857116359379907606001950938285454250989))
  | _ => none
noncomputable def sSMay : FSpec := spec [tb32] sSMayF
noncomputable abbrev tabSMay : List (FuncId × FSpec) := [(138, sSOrder)]
set_option maxRecDepth 100000 in
theorem tabokSMay : TabOK Try.prog (tabOf tabSMay) := (.cons ok_SOrder .nil)
set_option maxRecDepth 100000 in
theorem ok_SMay : FnOK Try.prog 105 sSMay := by
  refine fn_flat (cx := mkcx tabSMay) (c := bodyOf Try.f105) Try.func105 (by kernel_rfl) (by kernel_rfl) rfl ?_
  intro ds chk v vs hF ht he hr base
  unfold sSMayF at hF
  split at hF
  · rename_i a
    cases hF
    have hvs : vs = [vb32 a] := by simp only [encA, encV, encP, encL, Option.some.injEq] at he; exact he.symm
    subst hvs
    obtain ⟨h1, _⟩ := hr
    rw [← may_eq (rng_b32 h1)]
    exact runs_evS (mkok tabokSMay) (n := 400) (bs0 := []) (h := Eq.trans (b := treeC a 7237005577332262213973186563042994240857116359379907606001950938285454250989 32) (by kernel_rfl) (treeC_eq a _ 32)) (VEnt.refl _) trivial
  · cases hF

noncomputable def sSIsScalarF : List D → Option (List Bool × V)
  | [.n s] => some ([], vbool' (minusB s 7237005577332262213973186563042994240857116359379907606001950938285454250989))
  | _ => none
noncomputable def sSIsScalar : FSpec := spec [tb32] sSIsScalarF
noncomputable abbrev tabSIsScalar : List (FuncId × FSpec) := [(105, sSMay)]
set_option maxRecDepth 100000 in
theorem tabokSIsScalar : TabOK Try.prog (tabOf tabSIsScalar) := (.cons ok_SMay .nil)
set_option maxRecDepth 100000 in
theorem ok_SIsScalar : FnOK Try.prog 43 sSIsScalar := by
  refine fn_flat (cx := mkcx tabSIsScalar) (c := bodyOf Try.f43) Try.func43 (by kernel_rfl) (by kernel_rfl) rfl ?_
  intro ds chk v vs hF ht he hr base
  unfold sSIsScalarF at hF
  split at hF
  · rename_i s
    cases hF
    have hvs : vs = [vb32 s] := by simp only [encA, encV, encP, encL, Option.some.injEq] at he; exact he.symm
    subst hvs
    exact runs_ev (mkok tabokSIsScalar) (n := 400) (bs0 := []) (by kernel_rfl) (VEnt.refl _) trivial
  · cases hF
end Go.Proofs.Ytpoikjcgdojjjaa
