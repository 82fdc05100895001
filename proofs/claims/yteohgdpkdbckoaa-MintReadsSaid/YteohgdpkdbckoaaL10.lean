/-
  Contracts of words turned about.
-/
import Derived.Test.YteohgdpkdbckoaaL1
import Derived.Test.YteohgdpkdbckoaaS1
namespace Go.Proofs.Yteohgdpkdbckoaa
open Go Vx Go.RowKit

abbrev tu32 : Ty := .one (.int .u32)
abbrev vu32 (n : Int) : V := .one (.int .u32 n)
def turnI (kd : IntKind) (b m : Nat) (x k : Int) : Int := (((wrapK kd (x * ((2 ^ min (((((wrapK .u64 k).toNat &&& m : Nat) : Int))).toNat b : Nat) : Int))).toNat ||| (x / ((2 ^ min (wrapK .u64 ((b : Int) - (((wrapK .u64 k).toNat &&& m : Nat) : Int))).toNat b : Nat) : Int)).toNat : Nat) : Int)
theorem turn64 {x n : Nat} {k : Int} (hx : x < 2 ^ 64) (hn : n ≤ 64) (hs : (wrapK .u64 k).toNat &&& 63 = 64 - n) : turnI .u64 64 63 (x : Int) k = (rotN 64 n x : Nat) := by
  unfold turnI
  rw [hs, ← rot_or hn hx, Int.toNat_natCast, Nat.min_eq_left (show 64 - n ≤ 64 by omega)]
  have e1 : (wrapK .u64 ((64 : Nat) - ((64 - n : Nat) : Int))).toNat = n := by simp only [wrapK]; omega
  have e2 : (wrapK .u64 ((x : Int) * ((2 ^ (64 - n) : Nat) : Int))).toNat = x * 2 ^ (64 - n) % 2 ^ 64 := by
    rw [← Int.natCast_mul]
    generalize x * 2 ^ (64 - n) = y
    simp only [wrapK]; omega
  rw [e1, e2, Nat.min_eq_left hn, ← Int.natCast_ediv, Int.toNat_natCast]
theorem turn32 {x n : Nat} {k : Int} (hx : x < 2 ^ 32) (hn : n ≤ 32) (hs : (wrapK .u64 k).toNat &&& 31 = 32 - n) : turnI .u32 32 31 (x : Int) k = (rotN 32 n x : Nat) := by
  unfold turnI
  rw [hs, ← rot_or hn hx, Int.toNat_natCast, Nat.min_eq_left (show 32 - n ≤ 32 by omega)]
  have e1 : (wrapK .u64 ((32 : Nat) - ((32 - n : Nat) : Int))).toNat = n := by simp only [wrapK]; omega
  have e2 : (wrapK .u32 ((x : Int) * ((2 ^ (32 - n) : Nat) : Int))).toNat = x * 2 ^ (32 - n) % 2 ^ 32 := by
    rw [← Int.natCast_mul]
    generalize x * 2 ^ (32 - n) = y
    simp only [wrapK]; omega
  rw [e1, e2, Nat.min_eq_left hn, ← Int.natCast_ediv, Int.toNat_natCast]

noncomputable def sRot64F : List D → Option (List Bool × V)
  | [.i x, .i k] => some ([decide (0 ≤ wrapK .u64 (64 - (((wrapK .u64 k).toNat &&& 63 : Nat) : Int)))], vu64 (turnI .u64 64 63 x k))
  | _ => none
noncomputable def sRot64 : FSpec := spec [tu64, ti64] sRot64F
noncomputable abbrev tabRot64 : List (FuncId × FSpec) := []
set_option maxRecDepth 100000 in
theorem tabokRot64 : TabOK Try.prog (tabOf tabRot64) := TabOK.nil
set_option maxRecDepth 100000 in
theorem ok_Rot64 : FnOK Try.prog 95 sRot64 := by
  refine fn_flat (cx := mkcx tabRot64) (c := bodyOf Try.f95) Try.func95 (by kernel_rfl) (by kernel_rfl) rfl ?_
  intro ds chk v vs hF ht he hr base
  unfold sRot64F at hF
  split at hF
  · rename_i x k
    cases hF
    have hvs : vs = [vu64 x, vi64 k] := by simp only [encA, encV, encP, encL, Option.some.injEq] at he; exact he.symm
    subst hvs
    exact runs_evS (mkok tabokRot64) (n := 100) (bs0 := []) (h := Eq.trans (b := chks [decide (0 ≤ wrapK .u64 (64 - (((wrapK .u64 k).toNat &&& 63 : Nat) : Int)))] (outV (vu64 (turnI .u64 64 63 x k)))) (by kernel_rfl) (chks_true ht)) (VEnt.refl _) trivial
  · cases hF

noncomputable def sRot32F : List D → Option (List Bool × V)
  | [.i x, .i k] => some ([decide (0 ≤ wrapK .u64 (32 - (((wrapK .u64 k).toNat &&& 31 : Nat) : Int)))], vu32 (turnI .u32 32 31 x k))
  | _ => none
noncomputable def sRot32 : FSpec := spec [tu32, ti64] sRot32F
noncomputable abbrev tabRot32 : List (FuncId × FSpec) := []
set_option maxRecDepth 100000 in
theorem tabokRot32 : TabOK Try.prog (tabOf tabRot32) := TabOK.nil
end Go.Proofs.Yteohgdpkdbckoaa

/-
  One round of the great sum: the program's numbers are the sum's.
-/
namespace Go.Proofs.Yteohgdpkdbckoaa
open Go Vx Go.RowKit

def bigI (e : Int) (a b c : Int) : Int := (((((turnI .u64 64 63 e a).toNat ^^^ (turnI .u64 64 63 e b).toNat : Nat) : Int).toNat ^^^ (turnI .u64 64 63 e c).toNat : Nat) : Int)
def smlI (e : Int) (a b : Int) (c : Nat) : Int := (((((turnI .u64 64 63 e a).toNat ^^^ (turnI .u64 64 63 e b).toNat : Nat) : Int).toNat ^^^ (e / ((2 ^ c : Nat) : Int)).toNat : Nat) : Int)
def chI (e f g : Int) : Int := ((((e.toNat &&& f.toNat : Nat) : Int).toNat ^^^ (((18446744073709551615 - e).toNat &&& g.toNat : Nat) : Int).toNat : Nat) : Int)
def majI (a b c : Int) : Int := ((((((a.toNat &&& b.toNat : Nat) : Int).toNat ^^^ ((a.toNat &&& c.toNat : Nat) : Int).toNat : Nat) : Int).toNat ^^^ ((b.toNat &&& c.toNat : Nat) : Int).toNat : Nat) : Int)
def t1I (e f g h k w : Int) : Int := wrapK .u64 (wrapK .u64 (wrapK .u64 (wrapK .u64 (h + bigI e (-14) (-18) (-41)) + chI e f g) + k) + w)
def t2I (a b c : Int) : Int := wrapK .u64 (bigI a (-28) (-34) (-39) + majI a b c)
theorem bigI_eq {x i j l : Nat} {a b c : Int} (hx : x < 2 ^ 64) (hi : i ≤ 64) (hj : j ≤ 64) (hl : l ≤ 64) (ha : (wrapK .u64 a).toNat &&& 63 = 64 - i) (hb : (wrapK .u64 b).toNat &&& 63 = 64 - j) (hc : (wrapK .u64 c).toNat &&& 63 = 64 - l) :
    bigI (x : Int) a b c = (bigN 64 i j l x : Nat) := by
  unfold bigI bigN
  rw [turn64 hx hi ha, turn64 hx hj hb, turn64 hx hl hc]
  simp only [Int.toNat_natCast]
theorem smlI_eq {x i j l : Nat} {a b : Int} (hx : x < 2 ^ 64) (hi : i ≤ 64) (hj : j ≤ 64) (ha : (wrapK .u64 a).toNat &&& 63 = 64 - i) (hb : (wrapK .u64 b).toNat &&& 63 = 64 - j) :
    smlI (x : Int) a b l = (smlN 64 i j l x : Nat) := by
  unfold smlI smlN
  rw [turn64 hx hi ha, turn64 hx hj hb, ← Int.natCast_ediv]
  simp only [Int.toNat_natCast]
theorem chI_eq {e f g : Nat} (he : e < 2 ^ 64) : chI (e : Int) (f : Int) (g : Int) = (chN 64 e f g : Nat) := by
  unfold chI chN
  rw [show ((18446744073709551615 : Int) - (e : Int)).toNat = 2 ^ 64 - 1 - e by omega]
  simp only [Int.toNat_natCast]
theorem majI_eq (a b c : Nat) : majI (a : Int) (b : Int) (c : Int) = (majN a b c : Nat) := by
  unfold majI majN
  simp only [Int.toNat_natCast]
theorem wrap64 (n : Nat) : wrapK .u64 (n : Int) = ((n % 2 ^ 64 : Nat) : Int) := by simp only [wrapK]; omega
theorem t1I_eq {e f g h k w : Nat} (he : e < 2 ^ 64) : t1I e f g h k w = (((h + bigN 64 14 18 41 e + chN 64 e f g + k + w) % 2 ^ 64 : Nat) : Int) := by
  unfold t1I
  rw [bigI_eq (i := 14) (j := 18) (l := 41) he (by decide) (by decide) (by decide) (by decide) (by decide) (by decide), chI_eq he]
  simp only [← Int.natCast_add, wrap64]
  congr 1
  omega
theorem t2I_eq {a b c : Nat} (ha : a < 2 ^ 64) : t2I a b c = (((bigN 64 28 34 39 a + majN a b c) % 2 ^ 64 : Nat) : Int) := by
  unfold t2I
  rw [bigI_eq (i := 28) (j := 34) (l := 39) ha (by decide) (by decide) (by decide) (by decide) (by decide) (by decide), majI_eq]
  simp only [← Int.natCast_add, wrap64]
/-- One round. -/
theorem rndI_eq {v : W8} {k w : Nat} (ha : v.a < 2 ^ 64) (he : v.e < 2 ^ 64) :
    wrapK .u64 (t1I v.e v.f v.g v.h k w + t2I v.a v.b v.c) = ((rndN k512 k w v).a : Int) ∧ wrapK .u64 (v.d + t1I v.e v.f v.g v.h k w) = ((rndN k512 k w v).e : Int) := by
  rw [t1I_eq he, t2I_eq ha]
  refine ⟨?_, ?_⟩
  · show _ = (((v.h + bigN 64 14 18 41 v.e + chN 64 v.e v.f v.g + k + w + (bigN 64 28 34 39 v.a + majN v.a v.b v.c)) % 2 ^ 64 : Nat) : Int)
    simp only [← Int.natCast_add, wrap64]
    congr 1
    omega
  · show _ = (((v.d + (v.h + bigN 64 14 18 41 v.e + chN 64 v.e v.f v.g + k + w)) % 2 ^ 64 : Nat) : Int)
    simp only [← Int.natCast_add, wrap64]
    congr 1
    omega
end Go.Proofs.Yteohgdpkdbckoaa
