/-
  The law RistoEquals answers true.
-/
import Derived.Test.YtpoikjcgdojjjaaL3
namespace Go.Proofs.Ytpoikjcgdojjjaa
open Go Vx Go.RowKit

noncomputable def sNum4F : List D → Option (List Bool × V)
  | [.n a] => some ([], vnm (canP a))
  | _ => none
noncomputable def sNum4 : FSpec := spec [tfe] sNum4F
noncomputable abbrev tabNum4 : List (FuncId × FSpec) := [(82, sNWords)]
set_option maxRecDepth 100000 in
theorem tabokNum4 : TabOK Try.prog (tabOf tabNum4) := (.cons ok_NWords .nil)
set_option maxRecDepth 100000 in
theorem ok_Num4 : FnOK Try.prog 22 sNum4 := by
  refine fn_flat (cx := mkcx tabNum4) (c := bodyOf Try.f22) Try.func22 (by kernel_rfl) (by kernel_rfl) rfl ?_
  intro ds chk v vs hF ht he hr base
  unfold sNum4F at hF
  split at hF
  · rename_i a
    cases hF
    have hvs : vs = [vfe a] := by simp only [encA, encV, encP, encL, Option.some.injEq] at he; exact he.symm
    subst hvs
    exact runs_evS (mkok tabokNum4) (n := 400) (bs0 := []) (by kernel_rfl) (VEnt.refl _) trivial
  · cases hF

def treeEquals (a b e : Bool) : Out :=
  bif a then (bif e == true then outV (vbool' true) else outV (vbool' false)) else (bif e == b then outV (vbool' true) else outV (vbool' false))
theorem treeEquals_eq {a b e : Bool} (h : e = (a || b)) : treeEquals a b e = outV (vbool' true) := by
  subst h
  cases a <;> cases b <;> rfl
theorem mulP_can (a b : Nat) : mulP (canP a) (canP b) = mulP a b := by
  rw [mulP_eq, mulP_eq, canP_eq, canP_eq, ← Nat.mul_mod]
theorem same_mul (a b c d : Nat) : sameP (mulP a b) (mulP c d) = allB [decide (mulP (canP a) (canP b) = mulP (canP c) (canP d))] := by
  simp only [allB, mulP_can]
  rw [sameP_eq, mulP_eq, mulP_eq, Nat.mod_mod, Nat.mod_mod]

noncomputable def sRistoEqualsF : List D → Option (List Bool × V)
  | [.n _, .n _, .n _, .n _, .n _, .n _, .n _, .n _] => some ([], vbool' true)
  | _ => none
noncomputable def sRistoEquals : FSpec := spec [tpt, tpt] sRistoEqualsF
noncomputable abbrev tabRistoEquals : List (FuncId × FSpec) := [(22, sNum4), (21, sNMul), (23, sREqu), (19, sKnown4)]
set_option maxRecDepth 100000 in
theorem tabokRistoEquals : TabOK Try.prog (tabOf tabRistoEquals) := (.cons ok_Num4 (.cons ok_NMul (.cons ok_REqu (.cons ok_Known4 .nil))))
set_option maxRecDepth 100000 in
theorem ok_RistoEquals : FnOK Try.prog 4 sRistoEquals := by
  refine fn_flat (cx := mkcx tabRistoEquals) (c := bodyOf Try.f4) Try.func4 (by kernel_rfl) (by kernel_rfl) rfl ?_
  intro ds chk v vs hF ht he hr base
  unfold sRistoEqualsF at hF
  split at hF
  · rename_i x y z t x1 y1 z1 t1
    cases hF
    have hvs : vs = [vpt x y z t, vpt x1 y1 z1 t1] := by simp only [encA, encV, encP, encL, Option.some.injEq] at he; exact he.symm
    subst hvs
    have he : equP ⟨x, y, z, t⟩ ⟨x1, y1, z1, t1⟩ = (allB [decide (mulP (canP x) (canP y1) = mulP (canP y) (canP x1))] || allB [decide (mulP (canP y) (canP y1) = mulP (canP x) (canP x1))]) := by
      rw [equP_eq]
      unfold equ0
      rw [same_mul, same_mul]
    exact runs_evS (mkok tabokRistoEquals) (n := 200) (bs0 := []) (h := Eq.trans (b := treeEquals (allB [decide (mulP (canP x) (canP y1) = mulP (canP y) (canP x1))]) (allB [decide (mulP (canP y) (canP y1) = mulP (canP x) (canP x1))]) (equP ⟨x, y, z, t⟩ ⟨x1, y1, z1, t1⟩)) (by kernel_rfl) (treeEquals_eq he)) (VEnt.refl _) trivial
  · cases hF
end Go.Proofs.Ytpoikjcgdojjjaa
