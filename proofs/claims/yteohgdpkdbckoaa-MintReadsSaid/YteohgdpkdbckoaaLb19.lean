/-
  The law RistoEquals answers true.
-/
import Derived.Test.YteohgdpkdbckoaaL3
namespace Go.Proofs.Yteohgdpkdbckoaa
open Go Vx Go.RowKit

noncomputable def sNum4F : List D → Option (List Bool × V)
  | [.n a] => some ([], vnm (canP a))
  | _ => none
noncomputable def sNum4 : FSpec := spec [tfe] sNum4F
noncomputable abbrev tabNum4 : List (FuncId × FSpec) := [(76, sNWords)]
set_option maxRecDepth 100000 in
theorem tabokNum4 : TabOK Try.prog (tabOf tabNum4) := (.cons ok_NWords .nil)

def treeEquals (a b e : Bool) : Out :=
  bif a then (bif e == true then outV (vbool' true) else outV (vbool' false)) else (bif e == b then outV (vbool' true) else outV (vbool' false))
theorem treeEquals_eq {a b e : Bool} (h : e = (a || b)) : treeEquals a b e = outV (vbool' true) := by
  subst h
  cases a <;> cases b <;> rfl
theorem mulP_can (a b : Nat) : mulP (canP a) (canP b) = mulP a b := by
  rw [mulP_eq, mulP_eq, canP_eq, canP_eq, ← Nat.mul_mod]
theorem same_mul (a b c d : Nat) : sameP (mulP a b) (mulP c d) = allB [decide (mulP (canP a) (canP b) = mulP (canP c) (canP d))] := by
  simp only [allB, mulP_can]
  rw [sameP_eq, mulP_eq, mulP_eq, Nat.mod_mod, Nat.mod_mod]

noncomputable def sRistoEqualsF : List D → Option (List Bool × V)
  | [.n _, .n _, .n _, .n _, .n _, .n _, .n _, .n _] => some ([], vbool' true)
  | _ => none
noncomputable def sRistoEquals : FSpec := spec [tpt, tpt] sRistoEqualsF
end Go.Proofs.Yteohgdpkdbckoaa
