/-
  Contracts of words turned about.
-/
import Derived.Test.YtdkmcpbjicnfmaaGreatL1
import Derived.Test.YtdkmcpbjicnfmaaGreatSh1
namespace Go.Proofs.YtdkmcpbjicnfmaaGreat
open Go Vx Go.RowKit

abbrev tu32 : Ty := .one (.int .u32)
abbrev vu32 (n : Int) : V := .one (.int .u32 n)
def turnI (kd : IntKind) (b m : Nat) (x k : Int) : Int := (((wrapK kd (x * ((2 ^ min (((((wrapK .u64 k).toNat &&& m : Nat) : Int))).toNat b : Nat) : Int))).toNat ||| (x / ((2 ^ min (wrapK .u64 ((b : Int) - (((wrapK .u64 k).toNat &&& m : Nat) : Int))).toNat b : Nat) : Int)).toNat : Nat) : Int)
theorem turn64 {x n : Nat} {k : Int} (hx : x < 2 ^ 64) (hn : n ≤ 64) (hs : (wrapK .u64 k).toNat &&& 63 = 64 - n) : turnI .u64 64 63 (x : Int) k = (rotN 64 n x : Nat) := by
  unfold turnI
  rw [hs, ← rot_or hn hx, Int.toNat_natCast, Nat.min_eq_left (show 64 - n ≤ 64 by omega)]
  have e1 : (wrapK .u64 ((64 : Nat) - ((64 - n : Nat) : Int))).toNat = n := by simp only [wrapK]; omega
  have e2 : (wrapK .u64 ((x : Int) * ((2 ^ (64 - n) : Nat) : Int))).toNat = x * 2 ^ (64 - n) % 2 ^ 64 := by
    rw [← Int.natCast_mul]
    generalize x * 2 ^ (64 - n) = y
    simp only [wrapK]; omega
  rw [e1, e2, Nat.min_eq_left hn, ← Int.natCast_ediv, Int.toNat_natCast]
theorem turn32 {x n : Nat} {k : Int} (hx : x < 2 ^ 32) (hn : n ≤ 32) (hs : (wrapK .u64 k).toNat &&& 31 = 32 - n) : turnI .u32 32 31 (x : Int) k = (rotN 32 n x : Nat) := by
  unfold turnI
  rw [hs, ← rot_or hn hx, Int.toNat_natCast, Nat.min_eq_left (show 32 - n ≤ 32 by omega)]
  have e1 : (wrapK .u64 ((32 : Nat) - ((32 - n : Nat) : Int))).toNat = n := by simp only [wrapK]; omega
  have e2 : (wrapK .u32 ((x : Int) * ((2 ^ (32 - n) : Nat) : Int))).toNat = x * 2 ^ (32 - n) % 2 ^ 32 := by
    rw [← Int.natCast_mul]
    generalize x * 2 ^ (32 - n) = y
    simp only [wrapK]; omega
  rw [e1, e2, Nat.min_eq_left hn, ← Int.natCast_ediv, Int.toNat_natCast]

noncomputable def sRot64F : List D → Option (List Bool × V)
  | [.i x, .i k] => some ([decide (0 ≤ wrapK .u64 (64 - (((wrapK .u64 k).toNat &&& 63 : Nat) : Int)))], vu64 (turnI .u64 64 63 x k))
  | _ => none
noncomputable def sRot64 : FSpec := spec [tu64, ti64] sRot64F
noncomputable abbrev tabRot64 : List (FuncId × FSpec) := []
set_option maxRecDepth 100000 in
theorem tabokRot64 : TabOK Tryz.prog (tabOf tabRot64) := TabOK.nil
set_option maxRecDepth 100000 in
theorem ok_Rot64 : FnOK Tryz.prog 180 sRot64 := by
  refine fn_flat (cx := mkcx tabRot64) (c := bodyOf Tryz.f180) Tryz.func180 (by kernel_rfl) (by kernel_rfl) rfl ?_
  intro ds chk v vs hF ht he hr base
  unfold sRot64F at hF
  split at hF
  · rename_i x k
    cases hF
    have hvs : vs = [vu64 x, vi64 k] := by simp only [encA, encV, encP, encL, Option.some.injEq] at he; exact he.symm
    subst hvs
    exact runs_evS (mkok tabokRot64) (n := 100) (bs0 := []) (h := Eq.trans (b := chks [decide (0 ≤ wrapK .u64 (64 - (((wrapK .u64 k).toNat &&& 63 : Nat) : Int)))] (outV (vu64 (turnI .u64 64 63 x k)))) (by kernel_rfl) (chks_true ht)) (VEnt.refl _) trivial
  · cases hF

noncomputable def sRot32F : List D → Option (List Bool × V)
  | [.i x, .i k] => some ([decide (0 ≤ wrapK .u64 (32 - (((wrapK .u64 k).toNat &&& 31 : Nat) : Int)))], vu32 (turnI .u32 32 31 x k))
  | _ => none
noncomputable def sRot32 : FSpec := spec [tu32, ti64] sRot32F
noncomputable abbrev tabRot32 : List (FuncId × FSpec) := []
set_option maxRecDepth 100000 in
theorem tabokRot32 : TabOK Tryz.prog (tabOf tabRot32) := TabOK.nil
set_option maxRecDepth 100000 in
theorem ok_Rot32 : FnOK Tryz.prog 207 sRot32 := by
  refine fn_flat (cx := mkcx tabRot32) (c := bodyOf Tryz.f207) Tryz.func207 (by kernel_rfl) (by kernel_rfl) rfl ?_
  intro ds chk v vs hF ht he hr base
  unfold sRot32F at hF
  split at hF
  · rename_i x k
    cases hF
    have hvs : vs = [vu32 x, vi64 k] := by simp only [encA, encV, encP, encL, Option.some.injEq] at he; exact he.symm
    subst hvs
    exact runs_evS (mkok tabokRot32) (n := 100) (bs0 := []) (h := Eq.trans (b := chks [decide (0 ≤ wrapK .u64 (32 - (((wrapK .u64 k).toNat &&& 31 : Nat) : Int)))] (outV (vu32 (turnI .u32 32 31 x k)))) (by kernel_rfl) (chks_true ht)) (VEnt.refl _) trivial
  · cases hF
end Go.Proofs.YtdkmcpbjicnfmaaGreat
