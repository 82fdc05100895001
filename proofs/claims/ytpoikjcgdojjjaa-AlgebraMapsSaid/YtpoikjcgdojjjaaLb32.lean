/-
  The law RistoEncodes answers true.
-/
import Derived.Test.YtpoikjcgdojjjaaLb31
import Derived.Test.YtpoikjcgdojjjaaLb29
namespace Go.Proofs.Ytpoikjcgdojjjaa
open Go Vx Go.RowKit

abbrev tsd : Ty := .ag [.pk .u64 64 4, .bool]
abbrev vsd (y : Nat) (o : Bool) : V := .u (.ag (.ps [.pk .u64 64 4 y, .bool o]))
noncomputable def twP0 (y : Nat) (o : Bool) : P4 := bif atB y o then addP4 (atP y o) (atP y o) else atP y o
noncomputable def twX : Nat → Bool → Nat := hidden' fun y o => (twP0 y o).x
noncomputable def twY : Nat → Bool → Nat := hidden' fun y o => (twP0 y o).y
noncomputable def twZ : Nat → Bool → Nat := hidden' fun y o => (twP0 y o).z
noncomputable def twT : Nat → Bool → Nat := hidden' fun y o => (twP0 y o).t
noncomputable def twP (y : Nat) (o : Bool) : P4 := ⟨twX y o, twY y o, twZ y o, twT y o⟩
theorem twP_eq (y : Nat) (o : Bool) : twP y o = twP0 y o := by
  unfold twP twX twY twZ twT
  simp only [seal_eq]
noncomputable def twQX : Nat → Bool → Nat := hidden' fun y o => bif atB y o then (aqX (atQX (canP y) o) (atQY (canP y) o) (atQZ (canP y) o) (atQX (canP y) o) (atQY (canP y) o) (atQZ (canP y) o) dP) else (atQX (canP y) o)
noncomputable def twQY : Nat → Bool → Nat := hidden' fun y o => bif atB y o then (aqY (atQX (canP y) o) (atQY (canP y) o) (atQZ (canP y) o) (atQX (canP y) o) (atQY (canP y) o) (atQZ (canP y) o) dP) else (atQY (canP y) o)
noncomputable def twQZ : Nat → Bool → Nat := hidden' fun y o => bif atB y o then (aqZ (atQX (canP y) o) (atQY (canP y) o) (atQZ (canP y) o) (atQX (canP y) o) (atQY (canP y) o) (atQZ (canP y) o) dP) else (atQZ (canP y) o)
theorem twQX_eq (y : Nat) (o : Bool) : twQX y o = bif atB y o then (aqX (atQX (canP y) o) (atQY (canP y) o) (atQZ (canP y) o) (atQX (canP y) o) (atQY (canP y) o) (atQZ (canP y) o) dP) else (atQX (canP y) o) := by unfold twQX; rw [seal_eq]
theorem twQY_eq (y : Nat) (o : Bool) : twQY y o = bif atB y o then (aqY (atQX (canP y) o) (atQY (canP y) o) (atQZ (canP y) o) (atQX (canP y) o) (atQY (canP y) o) (atQZ (canP y) o) dP) else (atQY (canP y) o) := by unfold twQY; rw [seal_eq]
theorem twQZ_eq (y : Nat) (o : Bool) : twQZ y o = bif atB y o then (aqZ (atQX (canP y) o) (atQY (canP y) o) (atQZ (canP y) o) (atQX (canP y) o) (atQY (canP y) o) (atQZ (canP y) o) dP) else (atQZ (canP y) o) := by unfold twQZ; rw [seal_eq]
noncomputable def treeTw (a b : Bool) (y : Nat) (o : Bool) : Out := bif !a then outV (.tup [upP (atP y o), uqt (atQX (canP y) o) (atQY (canP y) o) (atQZ (canP y) o), ubool false]) else bif !b then outV (.tup [upP (atP y o), uqt (atQX (canP y) o) (atQY (canP y) o) (atQZ (canP y) o), ubool false]) else
  outV (.tup [upP (addP4 (atP y o) (atP y o)), uqt (aqX (atQX (canP y) o) (atQY (canP y) o) (atQZ (canP y) o) (atQX (canP y) o) (atQY (canP y) o) (atQZ (canP y) o) dP) (aqY (atQX (canP y) o) (atQY (canP y) o) (atQZ (canP y) o) (atQX (canP y) o) (atQY (canP y) o) (atQZ (canP y) o) dP) (aqZ (atQX (canP y) o) (atQY (canP y) o) (atQZ (canP y) o) (atQX (canP y) o) (atQY (canP y) o) (atQZ (canP y) o) dP), ubool true])
theorem treeTw_eq (y : Nat) (o : Bool) : treeTw (atB y o) (atQB (canP y) o) y o = outV (.tup [upP (twP y o), uqt (twQX y o) (twQY y o) (twQZ y o), ubool (atB y o)]) := by
  rw [atQB_of, twP_eq, twQX_eq, twQY_eq, twQZ_eq]
  unfold twP0 treeTw
  cases atB y o <;> rfl

noncomputable def sTwiceF : List D → Option (List Bool × V)
  | [.n y, .b o] => some ([], .tup [upP (twP y o), uqt (twQX y o) (twQY y o) (twQZ y o), ubool (atB y o)])
  | _ => none
noncomputable def sTwice : FSpec := spec [tsd] sTwiceF
noncomputable abbrev tabTwice : List (FuncId × FSpec) := [(27, sEAt), (22, sNum4), (83, sQAt), (28, sEAdd), (84, sQAdd)]
set_option maxRecDepth 100000 in
theorem tabokTwice : TabOK Try.prog (tabOf tabTwice) := (.cons ok_EAt (.cons ok_Num4 (.cons ok_QAt (.cons ok_EAdd (.cons ok_QAdd .nil)))))
set_option maxRecDepth 100000 in
theorem ok_Twice : FnOK Try.prog 24 sTwice := by
  refine fn_flat (cx := mkcx tabTwice) (c := bodyOf Try.f24) Try.func24 (by kernel_rfl) (by kernel_rfl) rfl ?_
  intro ds chk v vs hF ht he hr base
  unfold sTwiceF at hF
  split at hF
  · rename_i y o
    cases hF
    have hvs : vs = [vsd y o] := by simp only [encA, encV, encP, encL, Option.some.injEq] at he; exact he.symm
    subst hvs
    exact runs_evS (mkok tabokTwice) (n := 200) (bs0 := []) (h := Eq.trans (b := treeTw (atB y o) (atQB (canP y) o) y o) (by kernel_rfl) (treeTw_eq y o)) (VEnt.refl _) trivial
  · cases hF

theorem tw_rep {y : Nat} {o : Bool} (h : atB y o = true) : ∃ P, RepP (twP y o) P ∧ RepQ (twQX y o) (twQY y o) (twQZ y o) P ∧ Ev P := by
  obtain ⟨A, hA, _, _⟩ := at_rep h
  refine ⟨A + A, ?_, ?_, ev_double A⟩
  · rw [twP_eq]
    unfold twP0
    rw [h]
    exact add_rep hA hA
  · rw [twQX_eq, twQY_eq, twQZ_eq, h]
    exact addQ_rep (atQ_rep h hA) (atQ_rep h hA)
theorem enc_aff {q : P4} {x y z : Nat} {P : E} (h1 : RepP q P) (h2 : RepQ x y z P) (e : Ev P) : rencP q = rencP ⟨mulP x (invP z), mulP y (invP z), 1, mulP (mulP x (invP z)) (mulP y (invP z))⟩ :=
  (enc_eq h1 (aff_rep h2) e e).2 (co_refl P)
def treeRE (a b : Bool) : Out := bif !a then outV (vbool' true) else bif b then outV (vbool' true) else outV (vbool' false)
theorem re_facts (y : Nat) (o : Bool) : treeRE (atB y o) (allB [decide (rencP (twP y o) = rencP ⟨mulP (twQX y o) (invP (twQZ y o)), mulP (twQY y o) (invP (twQZ y o)), 1, mulP (mulP (twQX y o) (invP (twQZ y o))) (mulP (twQY y o) (invP (twQZ y o)))⟩)]) = outV (vbool' true) := by
  cases h : atB y o with
  | false => rfl
  | true =>
    obtain ⟨P, h1, h2, h3⟩ := tw_rep h
    rw [← enc_aff h1 h2 h3]
    simp only [allB, decide_true]
    rfl

noncomputable def sRistoEncodesF : List D → Option (List Bool × V)
  | [.n _, .b _] => some ([], vbool' true)
  | _ => none
noncomputable def sRistoEncodes : FSpec := spec [tsd] sRistoEncodesF
noncomputable abbrev tabRistoEncodes : List (FuncId × FSpec) := [(24, sTwice), (25, sREnc), (26, sQEnc), (19, sKnown4)]
set_option maxRecDepth 100000 in
theorem tabokRistoEncodes : TabOK Try.prog (tabOf tabRistoEncodes) := (.cons ok_Twice (.cons ok_REnc (.cons ok_QEnc (.cons ok_Known4 .nil))))
set_option maxRecDepth 100000 in
theorem ok_RistoEncodes : FnOK Try.prog 5 sRistoEncodes := by
  refine fn_flat (cx := mkcx tabRistoEncodes) (c := bodyOf Try.f5) Try.func5 (by kernel_rfl) (by kernel_rfl) rfl ?_
  intro ds chk v vs hF ht he hr base
  unfold sRistoEncodesF at hF
  split at hF
  · rename_i y o
    cases hF
    have hvs : vs = [vsd y o] := by simp only [encA, encV, encP, encL, Option.some.injEq] at he; exact he.symm
    subst hvs
    exact runs_evS (mkok tabokRistoEncodes) (n := 200) (bs0 := []) (h := Eq.trans (by kernel_rfl) (re_facts y o)) (VEnt.refl _) trivial
  · cases hF
end Go.Proofs.Ytpoikjcgdojjjaa
