/-
  Contracts of the document's curve.
-/
import Derived.Test.YtpoikjcgdojjjaaLb26
import Derived.Test.YtpoikjcgdojjjaaLb19
namespace Go.Proofs.Ytpoikjcgdojjjaa
open Go Vx Go.RowKit

theorem can_of {a : Nat} (h : a < pP) : canP a = a := by rw [canP_eq, Nat.mod_eq_of_lt h]
theorem refD_eq : mulP (negN (canP 121665)) (invP (canP 121666)) = dP := by
  rw [dP_eq, can_of (by decide), can_of (by decide), negN_of (by decide)]
noncomputable def sameQ : Nat → Nat → Nat → Nat → Nat → Nat → Bool := hidden' fun x y z x1 y1 z1 => decide (mulP x z1 = mulP x1 z) && decide (mulP y z1 = mulP y1 z)
theorem sameQ_eq (x y z x1 y1 z1 : Nat) : sameQ x y z x1 y1 z1 = (decide (mulP x z1 = mulP x1 z) && decide (mulP y z1 = mulP y1 z)) := by unfold sameQ; rw [seal_eq]
def treeSameQ (a b : Bool) : Out := bif a then outV (vbool' b) else outV (vbool' false)
theorem treeSameQ_eq (x y z x1 y1 z1 : Nat) : treeSameQ (allB [decide (mulP x z1 = mulP x1 z)]) (allB [decide (mulP y z1 = mulP y1 z)]) = outV (vbool' (sameQ x y z x1 y1 z1)) := by
  rw [sameQ_eq]
  simp only [allB]
  cases decide (mulP x z1 = mulP x1 z) <;> rfl

noncomputable def sQDF : List D → Option (List Bool × V)
  | [] => some ([], vnm dP)
  | _ => none
noncomputable def sQD : FSpec := spec [] sQDF
noncomputable abbrev tabQD : List (FuncId × FSpec) := [(21, sNMul), (74, sNNeg), (71, sNOf), (126, sNInv)]
set_option maxRecDepth 100000 in
theorem tabokQD : TabOK Try.prog (tabOf tabQD) := (.cons ok_NMul (.cons ok_NNeg (.cons ok_NOf (.cons ok_NInv .nil))))
set_option maxRecDepth 100000 in
theorem ok_QD : FnOK Try.prog 75 sQD := by
  refine fn_flat (cx := mkcx tabQD) (c := bodyOf Try.f75) Try.func75 (by kernel_rfl) (by kernel_rfl) rfl ?_
  intro ds chk v vs hF ht he hr base
  unfold sQDF at hF
  split at hF
  · cases hF
    have hvs : vs = [] := by simp only [encA, Option.some.injEq] at he; exact he.symm
    subst hvs
    rw [← refD_eq]
    exact runs_evS (mkok tabokQD) (n := 200) (bs0 := []) (by kernel_rfl) (VEnt.refl _) trivial
  · cases hF

noncomputable def sQSameF : List D → Option (List Bool × V)
  | [.n x, .n y, .n z, .n x1, .n y1, .n z1] => some ([], vbool' (sameQ x y z x1 y1 z1))
  | _ => none
noncomputable def sQSame : FSpec := spec [tqt, tqt] sQSameF
noncomputable abbrev tabQSame : List (FuncId × FSpec) := [(21, sNMul)]
set_option maxRecDepth 100000 in
theorem tabokQSame : TabOK Try.prog (tabOf tabQSame) := (.cons ok_NMul .nil)
set_option maxRecDepth 100000 in
theorem ok_QSame : FnOK Try.prog 80 sQSame := by
  refine fn_flat (cx := mkcx tabQSame) (c := bodyOf Try.f80) Try.func80 (by kernel_rfl) (by kernel_rfl) rfl ?_
  intro ds chk v vs hF ht he hr base
  unfold sQSameF at hF
  split at hF
  · rename_i x y z x1 y1 z1
    cases hF
    have hvs : vs = [vqt x y z, vqt x1 y1 z1] := by simp only [encA, encV, encP, encL, Option.some.injEq] at he; exact he.symm
    subst hvs
    exact runs_evS (mkok tabokQSame) (n := 200) (bs0 := []) (h := Eq.trans (b := treeSameQ (allB [decide (mulP x z1 = mulP x1 z)]) (allB [decide (mulP y z1 = mulP y1 z)])) (by kernel_rfl) (treeSameQ_eq _ _ _ _ _ _)) (VEnt.refl _) trivial
  · cases hF
end Go.Proofs.Ytpoikjcgdojjjaa
