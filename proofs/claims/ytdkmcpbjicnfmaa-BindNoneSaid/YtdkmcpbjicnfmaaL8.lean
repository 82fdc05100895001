/-
  Contracts of the program's group: Times.
-/
import Derived.Test.YtdkmcpbjicnfmaaL7
import Derived.Test.YtdkmcpbjicnfmaaU2
import Derived.Test.YtdkmcpbjicnfmaaX4
import Derived.Test.YtdkmcpbjicnfmaaL5
import Derived.Test.YtdkmcpbjicnfmaaM3
import Derived.Test.YtdkmcpbjicnfmaaL6
set_option maxRecDepth 100000
namespace Go.Proofs.Ytdkmcpbjicnfmaa
open Go Vx Go.RowKit
end Go.Proofs.Ytdkmcpbjicnfmaa

/-
  Contracts of the document's group: Identity, Base, Times.
-/
namespace Go.Proofs.Ytdkmcpbjicnfmaa
open Go Vx Go.RowKit

structure Q3 where
 x : Nat
 y : Nat
 z : Nat
theorem CEnt.ag {c c' : C} (h : CEnt c c') : VEnt (.ag c) (.ag c') := by
 rintro σ x ⟨xs, e, hc⟩
 exact ⟨xs, e, h σ xs hc⟩
end Go.Proofs.Ytdkmcpbjicnfmaa

/-
  Contracts of sums of terms.
-/
namespace Go.Proofs.Ytdkmcpbjicnfmaa
open Go Vx Go.RowKit

abbrev vtrm (x : List (List D)) : V := .one (.rd [.pk .u8 8 32, .pk .u8 8 32] x)
def trK (d : List D) : Nat := (d.headD (.n 0)).toN
def trP (d : List D) : Nat := (d.tail.headD (.n 0)).toN
noncomputable def sumGo : P4 → List (List D) → Int × P4
 | o, [] => (0, o)
 | o, d :: l => bif !minusB (trK d) 7237005577332262213973186563042994240857116359379907606001950938285454250989 then (50, o) else bif !rdecBP (trP d) then (51, o) else sumGo (addP4 o (tmP (trK d) (rdecP (trP d)))) l
noncomputable def sumE0 (x : List (List D)) : Int := bif decide (64 < x.length) then 3 else (sumGo idP x).1
noncomputable def sumN0 (x : List (List D)) : Nat := bif decide (sumE0 x = 0) then rencP (sumGo idP x).2 else 0
noncomputable def sumE : List (List D) → Int := hidden' sumE0
noncomputable def sumN : List (List D) → Nat := hidden' sumN0
end Go.Proofs.Ytdkmcpbjicnfmaa

/-
  Contracts of the document's algebra: small ones.
-/
namespace Go.Proofs.Ytdkmcpbjicnfmaa
open Go Vx Go.RowKit

noncomputable def sSOfF : List D → Option (List Bool × V)
 | [.i n] => some ([], vb32 n.toNat)
 | _ => none
noncomputable def sSOf : FSpec := spec [tu64] sSOfF
noncomputable abbrev tabSOf : List (FuncId × FSpec) := [(107, sSScOf)]
theorem tabokSOf : TabOK Try.prog (tabOf tabSOf) := (.cons ok_SScOf .nil)
theorem ok_SOf : FnOK Try.prog 72 sSOf := by
 refine fn_flat (cx := mkcx tabSOf) (c := bodyOf Try.f72) Try.func72 (by kernel_rfl) (by kernel_rfl) rfl ?_
 intro ds chk v vs hF ht he hr base
 unfold sSOfF at hF
 split at hF
 · rename_i n
   cases hF
   have hvs : vs = [vu64 n] := by simp only [encA, encV, encP, encL, Option.some.injEq] at he; exact he.symm
   subst hvs
   exact runs_evS (mkok tabokSOf) (n := 400) (bs0 := []) (by kernel_rfl) (VEnt.refl _) trivial
 · cases hF

noncomputable def sSReduceF : List D → Option (List Bool × V)
 | [.n b] => some ([], vb32 (restP b))
 | _ => none
noncomputable def sSReduce : FSpec := spec [tb64] sSReduceF
noncomputable abbrev tabSReduce : List (FuncId × FSpec) := [(104, sSWide)]
theorem tabokSReduce : TabOK Try.prog (tabOf tabSReduce) := (.cons ok_SWide .nil)
theorem ok_SReduce : FnOK Try.prog 70 sSReduce := by
 refine fn_flat (cx := mkcx tabSReduce) (c := bodyOf Try.f70) Try.func70 (by kernel_rfl) (by kernel_rfl) rfl ?_
 intro ds chk v vs hF ht he hr base
 unfold sSReduceF at hF
 split at hF
 · rename_i b
   cases hF
   have hvs : vs = [vb64 b] := by simp only [encA, encV, encP, encL, Option.some.injEq] at he; exact he.symm
   subst hvs
   exact runs_evS (mkok tabokSReduce) (n := 400) (bs0 := []) (by kernel_rfl) (VEnt.refl _) trivial
 · cases hF
end Go.Proofs.Ytdkmcpbjicnfmaa

/-
  The laws AlgebraMay, AlgebraMaps answer true.
-/
namespace Go.Proofs.Ytdkmcpbjicnfmaa
open Go Vx Go.RowKit
end Go.Proofs.Ytdkmcpbjicnfmaa

/-
  Contracts of scalars: sums, differences, products, inverses, or refused.
-/
namespace Go.Proofs.Ytdkmcpbjicnfmaa
open Go Vx Go.RowKit

noncomputable abbrev okS (a : Nat) : Bool := minusB a 7237005577332262213973186563042994240857116359379907606001950938285454250989
end Go.Proofs.Ytdkmcpbjicnfmaa
