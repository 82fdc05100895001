/-
  Contracts of words turned about.
-/
import Derived.Test.YtdkmcpbjicnfmaaL1
import Derived.Test.YtdkmcpbjicnfmaaSh1
namespace Go.Proofs.Ytdkmcpbjicnfmaa
open Go Vx Go.RowKit

def turnI (kd : IntKind) (b m : Nat) (x k : Int) : Int := (((wrapK kd (x * ((2 ^ min (((((wrapK .u64 k).toNat &&& m : Nat) : Int))).toNat b : Nat) : Int))).toNat ||| (x / ((2 ^ min (wrapK .u64 ((b : Int) - (((wrapK .u64 k).toNat &&& m : Nat) : Int))).toNat b : Nat) : Int)).toNat : Nat) : Int)
theorem turn64 {x n : Nat} {k : Int} (hx : x < 2 ^ 64) (hn : n ≤ 64) (hs : (wrapK .u64 k).toNat &&& 63 = 64 - n) : turnI .u64 64 63 (x : Int) k = (rotN 64 n x : Nat) := by
  unfold turnI
  rw [hs, ← rot_or hn hx, Int.toNat_natCast, Nat.min_eq_left (show 64 - n ≤ 64 by omega)]
  have e1 : (wrapK .u64 ((64 : Nat) - ((64 - n : Nat) : Int))).toNat = n := by simp only [wrapK]; omega
  have e2 : (wrapK .u64 ((x : Int) * ((2 ^ (64 - n) : Nat) : Int))).toNat = x * 2 ^ (64 - n) % 2 ^ 64 := by
    rw [← Int.natCast_mul]
    generalize x * 2 ^ (64 - n) = y
    simp only [wrapK]; omega
  rw [e1, e2, Nat.min_eq_left hn, ← Int.natCast_ediv, Int.toNat_natCast]

noncomputable def sRot64F : List D → Option (List Bool × V)
  | [.i x, .i k] => some ([decide (0 ≤ wrapK .u64 (64 - (((wrapK .u64 k).toNat &&& 63 : Nat) : Int)))], vu64 (turnI .u64 64 63 x k))
  | _ => none
noncomputable def sRot64 : FSpec := spec [tu64, ti64] sRot64F
noncomputable abbrev tabRot64 : List (FuncId × FSpec) := []
set_option maxRecDepth 100000 in
theorem tabokRot64 : TabOK Try.prog (tabOf tabRot64) := TabOK.nil
set_option maxRecDepth 100000 in
theorem ok_Rot64 : FnOK Try.prog 128 sRot64 := by
  refine fn_flat (cx := mkcx tabRot64) (c := bodyOf Try.f128) Try.func128 (by kernel_rfl) (by kernel_rfl) rfl ?_
  intro ds chk v vs hF ht he hr base
  unfold sRot64F at hF
  split at hF
  · rename_i x k
    cases hF
    have hvs : vs = [vu64 x, vi64 k] := by simp only [encA, encV, encP, encL, Option.some.injEq] at he; exact he.symm
    subst hvs
    exact runs_evS (mkok tabokRot64) (n := 100) (bs0 := []) (h := Eq.trans (b := chks [decide (0 ≤ wrapK .u64 (64 - (((wrapK .u64 k).toNat &&& 63 : Nat) : Int)))] (outV (vu64 (turnI .u64 64 63 x k)))) (by kernel_rfl) (chks_true ht)) (VEnt.refl _) trivial
  · cases hF
end Go.Proofs.Ytdkmcpbjicnfmaa
