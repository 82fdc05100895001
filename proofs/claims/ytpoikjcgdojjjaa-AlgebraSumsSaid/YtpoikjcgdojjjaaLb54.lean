/-
  The laws AlgebraScalars, AlgebraBack answer true.
-/
import Derived.Test.YtpoikjcgdojjjaaL8
import Derived.Test.YtpoikjcgdojjjaaM3
namespace Go.Proofs.Ytpoikjcgdojjjaa
open Go Vx Go.RowKit

def treeL : List Bool → Out
  | [] => outV (vbool' true)
  | c :: l => bif c then treeL l else outV (vbool' false)
theorem treeL_t : ∀ {l : List Bool}, allT l → treeL l = outV (vbool' true)
  | [], _ => rfl
  | c :: l, h => by
    obtain ⟨h1, h2⟩ := allT_cons h
    rw [treeL, h1, cond_true, treeL_t h2]
theorem allB_d {n : Nat} : allB [decide (n = n)] = true := decide_eq_true rfl
theorem dec_self {n : Int} : decide (n = n) = true := decide_eq_true rfl

noncomputable def sAlgebraScalarsF : List D → Option (List Bool × V)
  | [.n _, .n _, .i _] => some ([], vbool' true)
  | _ => none
noncomputable def sAlgebraScalars : FSpec := spec [tb32, tb32, tu64] sAlgebraScalarsF
noncomputable abbrev tabAlgebraScalars : List (FuncId × FSpec) := [(48, sAPlus), (49, sAMinus), (50, sATimes), (51, sAInverse), (52, sSaPlus), (53, sSaMinus), (54, sSaTimes), (55, sSaInverse), (56, sAOf), (57, sSOf), (37, sKnown5)]
set_option maxRecDepth 100000 in
theorem tabokAlgebraScalars : TabOK Try.prog (tabOf tabAlgebraScalars) := (.cons ok_APlus (.cons ok_AMinus (.cons ok_ATimes (.cons ok_AInverse (.cons ok_SaPlus (.cons ok_SaMinus (.cons ok_SaTimes (.cons ok_SaInverse (.cons ok_AOf (.cons ok_SOf (.cons ok_Known5 .nil)))))))))))
set_option maxRecDepth 100000 in
theorem ok_AlgebraScalars : FnOK Try.prog 14 sAlgebraScalars := by
  refine fn_flat (cx := mkcx tabAlgebraScalars) (c := bodyOf Try.f14) Try.func14 (by kernel_rfl) (by kernel_rfl) rfl ?_
  intro ds chk v vs hF ht he hr base
  unfold sAlgebraScalarsF at hF
  split at hF
  · rename_i a b n
    cases hF
    have hvs : vs = [vb32 a, vb32 b, vu64 n] := by simp only [encA, encV, encP, encL, Option.some.injEq] at he; exact he.symm
    subst hvs
    have hall : allT [allB [decide ((bif okS a && okS b then restP (restP a + restP b) else 0) = (bif okS a && okS b then restP (restP a + restP b) else 0))], allB [decide ((bif okS a && okS b then restP (restP a + restP (minusS 7237005577332262213973186563042994240857116359379907606001950938285454250989 (restP b))) else 0) = (bif okS a && okS b then restP (restP a + restP (minusS 7237005577332262213973186563042994240857116359379907606001950938285454250989 (restP b))) else 0))], allB [decide ((bif okS a && okS b then restP (restP a * restP b) else 0) = (bif okS a && okS b then restP (restP a * restP b) else 0))], allB [decide ((bif okS a && !allB [decide (a = 0)] then powL a 7237005577332262213973186563042994240857116359379907606001950938285454250987 else 0) = (bif okS a && !allB [decide (a = 0)] then powL a 7237005577332262213973186563042994240857116359379907606001950938285454250987 else 0))], decide (((bif okS a && okS b then 0 else 50 : Int)) = ((bif okS a && okS b then 0 else 50 : Int))), decide (((bif okS a && okS b then 0 else 50 : Int)) = ((bif okS a && okS b then 0 else 50 : Int))), decide (((bif okS a && okS b then 0 else 50 : Int)) = ((bif okS a && okS b then 0 else 50 : Int))), decide (((bif okS a && !allB [decide (a = 0)] then 0 else 50 : Int)) = ((bif okS a && !allB [decide (a = 0)] then 0 else 50 : Int))), allB [decide (n.toNat = n.toNat)]] := by
      repeat' (first | exact allT0 | refine allTc allB_d ?_ | refine allTc dec_self ?_)
    exact runs_evS (mkok tabokAlgebraScalars) (n := 400) (bs0 := []) (h := Eq.trans (b := treeL [allB [decide ((bif okS a && okS b then restP (restP a + restP b) else 0) = (bif okS a && okS b then restP (restP a + restP b) else 0))], allB [decide ((bif okS a && okS b then restP (restP a + restP (minusS 7237005577332262213973186563042994240857116359379907606001950938285454250989 (restP b))) else 0) = (bif okS a && okS b then restP (restP a + restP (minusS 7237005577332262213973186563042994240857116359379907606001950938285454250989 (restP b))) else 0))], allB [decide ((bif okS a && okS b then restP (restP a * restP b) else 0) = (bif okS a && okS b then restP (restP a * restP b) else 0))], allB [decide ((bif okS a && !allB [decide (a = 0)] then powL a 7237005577332262213973186563042994240857116359379907606001950938285454250987 else 0) = (bif okS a && !allB [decide (a = 0)] then powL a 7237005577332262213973186563042994240857116359379907606001950938285454250987 else 0))], decide (((bif okS a && okS b then 0 else 50 : Int)) = ((bif okS a && okS b then 0 else 50 : Int))), decide (((bif okS a && okS b then 0 else 50 : Int)) = ((bif okS a && okS b then 0 else 50 : Int))), decide (((bif okS a && okS b then 0 else 50 : Int)) = ((bif okS a && okS b then 0 else 50 : Int))), decide (((bif okS a && !allB [decide (a = 0)] then 0 else 50 : Int)) = ((bif okS a && !allB [decide (a = 0)] then 0 else 50 : Int))), allB [decide (n.toNat = n.toNat)]]) (by kernel_rfl) (treeL_t hall)) (VEnt.refl _) trivial
  · cases hF
end Go.Proofs.Ytpoikjcgdojjjaa
