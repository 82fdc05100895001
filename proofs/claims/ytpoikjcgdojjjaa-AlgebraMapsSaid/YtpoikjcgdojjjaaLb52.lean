/-
  The laws AlgebraMay, AlgebraMaps answer true.
-/
import Derived.Test.YtpoikjcgdojjjaaLb51
import Derived.Test.YtpoikjcgdojjjaaLb40
namespace Go.Proofs.Ytpoikjcgdojjjaa
open Go Vx Go.RowKit

def tree3 (a b c : Bool) : Out := bif a then (bif b then (bif c then outV (vbool' true) else outV (vbool' false)) else outV (vbool' false)) else outV (vbool' false)
theorem tree3_t : tree3 true true true = outV (vbool' true) := rfl
theorem base_facts : sumE [[.n (1 : Int).toNat, .n (rencP (baseP ()))]] = 0 ∧ sumN [[.n (1 : Int).toNat, .n (rencP (baseP ()))]] = rencP (baseP ()) := sum_one known_dec
theorem base_ne : rencP (baseP ()) ≠ 0 := by rw [renc_base]; decide

noncomputable def sKnown5F : List D → Option (List Bool × V)
  | [] => some ([], vbool' true)
  | _ => none
noncomputable def sKnown5 : FSpec := spec [] sKnown5F
noncomputable abbrev tabKnown5 : List (FuncId × FSpec) := [(38, sASum), (56, sAOf), (100, sABase), (101, sSBase), (59, sAIdentity)]
set_option maxRecDepth 100000 in
theorem tabokKnown5 : TabOK Try.prog (tabOf tabKnown5) := (.cons ok_ASum (.cons ok_AOf (.cons ok_ABase (.cons ok_SBase (.cons ok_AIdentity .nil)))))
set_option maxRecDepth 100000 in
theorem ok_Known5 : FnOK Try.prog 37 sKnown5 := by
  refine fn_flat (cx := mkcx tabKnown5) (c := bodyOf Try.f37) Try.func37 (by kernel_rfl) (by kernel_rfl) rfl ?_
  intro ds chk v vs hF ht he hr base
  unfold sKnown5F at hF
  split at hF
  · cases hF
    have hvs : vs = [] := by simp only [encA, Option.some.injEq] at he; exact he.symm
    subst hvs
    obtain ⟨h1, h2⟩ := base_facts
    have e1 : decide (sumE [[.n (1 : Int).toNat, .n (rencP (baseP ()))]] = 0) = true := decide_eq_true h1
    have e2 : allB [decide (sumN [[.n (1 : Int).toNat, .n (rencP (baseP ()))]] = rencP (baseP ()))] = true := decide_eq_true h2
    have e3 : (!allB [decide (sumN [[.n (1 : Int).toNat, .n (rencP (baseP ()))]] = 0)]) = true := by
      rw [h2]
      simp only [allB, decide_eq_false base_ne, Bool.not_false]
    have ht : tree3 (decide (sumE [[.n (1 : Int).toNat, .n (rencP (baseP ()))]] = 0)) (allB [decide (sumN [[.n (1 : Int).toNat, .n (rencP (baseP ()))]] = rencP (baseP ()))]) (!allB [decide (sumN [[.n (1 : Int).toNat, .n (rencP (baseP ()))]] = 0)]) = outV (vbool' true) := by
      rw [e1, e2, e3]; rfl
    exact runs_evS (mkok tabokKnown5) (n := 200) (bs0 := []) (h := Eq.trans (by kernel_rfl) ht) (VEnt.refl _) trivial
  · cases hF

theorem beq_self' (b : Bool) : (b == b) = true := by cases b <;> rfl
theorem tree3_self (a b : Bool) : tree3 (a == a) (b == b) true = outV (vbool' true) := by rw [beq_self', beq_self']; rfl
theorem allB_self (n : Nat) : allB [decide (n = n)] = true := decide_eq_true rfl

def tree2 (a b : Bool) : Out := bif a then (bif b then outV (vbool' true) else outV (vbool' false)) else outV (vbool' false)
theorem tree2_self (a b : Bool) : tree2 (a == a) (b == b) = outV (vbool' true) := by rw [beq_self', beq_self']; rfl

noncomputable def sAlgebraMayF : List D → Option (List Bool × V)
  | [.n _, .n _] => some ([], vbool' true)
  | _ => none
noncomputable def sAlgebraMay : FSpec := spec [tb32, tb32] sAlgebraMayF
noncomputable abbrev tabAlgebraMay : List (FuncId × FSpec) := [(40, sAIsPoint), (41, sSIsPoint), (42, sAIsScalar), (43, sSIsScalar), (37, sKnown5)]
set_option maxRecDepth 100000 in
theorem tabokAlgebraMay : TabOK Try.prog (tabOf tabAlgebraMay) := (.cons ok_AIsPoint (.cons ok_SIsPoint (.cons ok_AIsScalar (.cons ok_SIsScalar (.cons ok_Known5 .nil)))))
set_option maxRecDepth 100000 in
theorem ok_AlgebraMay : FnOK Try.prog 12 sAlgebraMay := by
  refine fn_flat (cx := mkcx tabAlgebraMay) (c := bodyOf Try.f12) Try.func12 (by kernel_rfl) (by kernel_rfl) rfl ?_
  intro ds chk v vs hF ht he hr base
  unfold sAlgebraMayF at hF
  split at hF
  · rename_i p s
    cases hF
    have hvs : vs = [vb32 p, vb32 s] := by simp only [encA, encV, encP, encL, Option.some.injEq] at he; exact he.symm
    subst hvs
    exact runs_evS (mkok tabokAlgebraMay) (n := 200) (bs0 := []) (h := Eq.trans (b := tree2 (rdecBP p == rdecBP p) (minusB s 7237005577332262213973186563042994240857116359379907606001950938285454250989 == minusB s 7237005577332262213973186563042994240857116359379907606001950938285454250989)) (by kernel_rfl) (tree2_self _ _)) (VEnt.refl _) trivial
  · cases hF

noncomputable def sAlgebraMapsF : List D → Option (List Bool × V)
  | [.n _] => some ([], vbool' true)
  | _ => none
noncomputable def sAlgebraMaps : FSpec := spec [tb64] sAlgebraMapsF
noncomputable abbrev tabAlgebraMaps : List (FuncId × FSpec) := [(44, sAReduce), (45, sSReduce), (46, sAMap), (47, sSMap), (37, sKnown5)]
set_option maxRecDepth 100000 in
theorem tabokAlgebraMaps : TabOK Try.prog (tabOf tabAlgebraMaps) := (.cons ok_AReduce (.cons ok_SReduce (.cons ok_AMap (.cons ok_SMap (.cons ok_Known5 .nil)))))
set_option maxRecDepth 100000 in
theorem ok_AlgebraMaps : FnOK Try.prog 13 sAlgebraMaps := by
  refine fn_flat (cx := mkcx tabAlgebraMaps) (c := bodyOf Try.f13) Try.func13 (by kernel_rfl) (by kernel_rfl) rfl ?_
  intro ds chk v vs hF ht he hr base
  unfold sAlgebraMapsF at hF
  split at hF
  · rename_i b
    cases hF
    have hvs : vs = [vb64 b] := by simp only [encA, encV, encP, encL, Option.some.injEq] at he; exact he.symm
    subst hvs
    exact runs_evS (mkok tabokAlgebraMaps) (n := 200) (bs0 := []) (h := Eq.trans (b := tree2 (allB [decide (restP b = restP b)]) (allB [decide (rencP (rmapP b) = rencP (rmapP b))])) (by kernel_rfl) (by rw [allB_self, allB_self]; rfl)) (VEnt.refl _) trivial
  · cases hF
end Go.Proofs.Ytpoikjcgdojjjaa
