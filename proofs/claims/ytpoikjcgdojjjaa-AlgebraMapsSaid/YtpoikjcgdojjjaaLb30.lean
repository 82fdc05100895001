/-
  Contracts of the document's curve and elements: sums, bytes.
-/
import Derived.Test.YtpoikjcgdojjjaaLb28
namespace Go.Proofs.Ytpoikjcgdojjjaa
open Go Vx Go.RowKit

noncomputable def aqX : Nat → Nat → Nat → Nat → Nat → Nat → Nat → Nat := hidden' fun x y z x1 y1 z1 d => mulP (mulP (mulP z z1) (addP (mulP (mulP z z1) (mulP z z1)) (negN (mulP d (mulP (mulP x x1) (mulP y y1)))))) (addP (mulP x y1) (mulP x1 y))
noncomputable def aqY : Nat → Nat → Nat → Nat → Nat → Nat → Nat → Nat := hidden' fun x y z x1 y1 z1 d => mulP (mulP (mulP z z1) (addP (mulP (mulP z z1) (mulP z z1)) (mulP d (mulP (mulP x x1) (mulP y y1))))) (addP (mulP y y1) (mulP x x1))
noncomputable def aqZ : Nat → Nat → Nat → Nat → Nat → Nat → Nat → Nat := hidden' fun x y z x1 y1 z1 d => mulP (addP (mulP (mulP z z1) (mulP z z1)) (negN (mulP d (mulP (mulP x x1) (mulP y y1))))) (addP (mulP (mulP z z1) (mulP z z1)) (mulP d (mulP (mulP x x1) (mulP y y1))))
theorem aqX_eq (x y z x1 y1 z1 d : Nat) : aqX x y z x1 y1 z1 d = mulP (mulP (mulP z z1) (addP (mulP (mulP z z1) (mulP z z1)) (negN (mulP d (mulP (mulP x x1) (mulP y y1)))))) (addP (mulP x y1) (mulP x1 y)) := by unfold aqX; rw [seal_eq]
theorem aqY_eq (x y z x1 y1 z1 d : Nat) : aqY x y z x1 y1 z1 d = mulP (mulP (mulP z z1) (addP (mulP (mulP z z1) (mulP z z1)) (mulP d (mulP (mulP x x1) (mulP y y1))))) (addP (mulP y y1) (mulP x x1)) := by unfold aqY; rw [seal_eq]
theorem aqZ_eq (x y z x1 y1 z1 d : Nat) : aqZ x y z x1 y1 z1 d = mulP (addP (mulP (mulP z z1) (mulP z z1)) (negN (mulP d (mulP (mulP x x1) (mulP y y1))))) (addP (mulP (mulP z z1) (mulP z z1)) (mulP d (mulP (mulP x x1) (mulP y y1)))) := by unfold aqZ; rw [seal_eq]

noncomputable def sQAddByF : List D → Option (List Bool × V)
  | [.n x, .n y, .n z, .n x1, .n y1, .n z1, .n d] => some ([], vqt (aqX x y z x1 y1 z1 d) (aqY x y z x1 y1 z1 d) (aqZ x y z x1 y1 z1 d))
  | _ => none
noncomputable def sQAddBy : FSpec := spec [tqt, tqt, tnm] sQAddByF
noncomputable abbrev tabQAddBy : List (FuncId × FSpec) := [(21, sNMul), (73, sNAdd), (72, sNSub)]
set_option maxRecDepth 100000 in
theorem tabokQAddBy : TabOK Try.prog (tabOf tabQAddBy) := (.cons ok_NMul (.cons ok_NAdd (.cons ok_NSub .nil)))
set_option maxRecDepth 100000 in
theorem ok_QAddBy : FnOK Try.prog 128 sQAddBy := by
  refine fn_flat (cx := mkcx tabQAddBy) (c := bodyOf Try.f128) Try.func128 (by kernel_rfl) (by kernel_rfl) rfl ?_
  intro ds chk v vs hF ht he hr base
  unfold sQAddByF at hF
  split at hF
  · rename_i x y z x1 y1 z1 d
    cases hF
    have hvs : vs = [vqt x y z, vqt x1 y1 z1, vnm d] := by simp only [encA, encV, encP, encL, Option.some.injEq] at he; exact he.symm
    subst hvs
    rw [aqX_eq, aqY_eq, aqZ_eq]
    exact runs_evS (mkok tabokQAddBy) (n := 200) (bs0 := []) (by kernel_rfl) (VEnt.refl _) trivial
  · cases hF

noncomputable def sQAddF : List D → Option (List Bool × V)
  | [.n x, .n y, .n z, .n x1, .n y1, .n z1] => some ([], vqt (aqX x y z x1 y1 z1 dP) (aqY x y z x1 y1 z1 dP) (aqZ x y z x1 y1 z1 dP))
  | _ => none
noncomputable def sQAdd : FSpec := spec [tqt, tqt] sQAddF
noncomputable abbrev tabQAdd : List (FuncId × FSpec) := [(128, sQAddBy), (75, sQD)]
set_option maxRecDepth 100000 in
theorem tabokQAdd : TabOK Try.prog (tabOf tabQAdd) := (.cons ok_QAddBy (.cons ok_QD .nil))
set_option maxRecDepth 100000 in
theorem ok_QAdd : FnOK Try.prog 84 sQAdd := by
  refine fn_flat (cx := mkcx tabQAdd) (c := bodyOf Try.f84) Try.func84 (by kernel_rfl) (by kernel_rfl) rfl ?_
  intro ds chk v vs hF ht he hr base
  unfold sQAddF at hF
  split at hF
  · rename_i x y z x1 y1 z1
    cases hF
    have hvs : vs = [vqt x y z, vqt x1 y1 z1] := by simp only [encA, encV, encP, encL, Option.some.injEq] at he; exact he.symm
    subst hvs
    exact runs_ev (mkok tabokQAdd) (n := 400) (bs0 := []) (by kernel_rfl) (VEnt.refl _) trivial
  · cases hF

theorem qN_eq : nrR (canP 1) (negN (addP (canP 1) dP)) = fitNP := by
  rw [can1, negN_of (addP_lt _ _), nrR_of one_lt (negP_lt _), fitNP_eq, lessP_eq]
theorem qM_eq : negN (nrR (negN (addP (canP 1) dP)) (canP 1)) = fitMP := by
  rw [can1, negN_of (addP_lt 1 dP), nrR_of (negP_lt _) one_lt, negN_of (rootR_lt _ _), fitMP_eq, lessP_eq]

noncomputable def sQMinusF : List D → Option (List Bool × V)
  | [] => some ([], vnm (negN (addP (canP 1) dP)))
  | _ => none
noncomputable def sQMinus : FSpec := spec [] sQMinusF
noncomputable abbrev tabQMinus : List (FuncId × FSpec) := [(74, sNNeg), (73, sNAdd), (71, sNOf), (75, sQD)]
set_option maxRecDepth 100000 in
theorem tabokQMinus : TabOK Try.prog (tabOf tabQMinus) := (.cons ok_NNeg (.cons ok_NAdd (.cons ok_NOf (.cons ok_QD .nil))))
set_option maxRecDepth 100000 in
theorem ok_QMinus : FnOK Try.prog 131 sQMinus := by
  refine fn_flat (cx := mkcx tabQMinus) (c := bodyOf Try.f131) Try.func131 (by kernel_rfl) (by kernel_rfl) rfl ?_
  intro ds chk v vs hF ht he hr base
  unfold sQMinusF at hF
  split at hF
  · cases hF
    have hvs : vs = [] := by simp only [encA, Option.some.injEq] at he; exact he.symm
    subst hvs
    exact runs_ev (mkok tabokQMinus) (n := 400) (bs0 := []) (by kernel_rfl) (VEnt.refl _) trivial
  · cases hF

noncomputable def sQNF : List D → Option (List Bool × V)
  | [] => some ([], vnm fitNP)
  | _ => none
noncomputable def sQN : FSpec := spec [] sQNF
noncomputable abbrev tabQN : List (FuncId × FSpec) := [(76, sNRoot), (71, sNOf), (131, sQMinus)]
set_option maxRecDepth 100000 in
theorem tabokQN : TabOK Try.prog (tabOf tabQN) := (.cons ok_NRoot (.cons ok_NOf (.cons ok_QMinus .nil)))
set_option maxRecDepth 100000 in
theorem ok_QN : FnOK Try.prog 89 sQN := by
  refine fn_flat (cx := mkcx tabQN) (c := bodyOf Try.f89) Try.func89 (by kernel_rfl) (by kernel_rfl) rfl ?_
  intro ds chk v vs hF ht he hr base
  unfold sQNF at hF
  split at hF
  · cases hF
    have hvs : vs = [] := by simp only [encA, Option.some.injEq] at he; exact he.symm
    subst hvs
    rw [← qN_eq]
    exact runs_evS (mkok tabokQN) (n := 200) (bs0 := []) (by kernel_rfl) (VEnt.refl _) trivial
  · cases hF

noncomputable def sQMF : List D → Option (List Bool × V)
  | [] => some ([], vnm fitMP)
  | _ => none
noncomputable def sQM : FSpec := spec [] sQMF
noncomputable abbrev tabQM : List (FuncId × FSpec) := [(76, sNRoot), (71, sNOf), (131, sQMinus), (74, sNNeg)]
set_option maxRecDepth 100000 in
theorem tabokQM : TabOK Try.prog (tabOf tabQM) := (.cons ok_NRoot (.cons ok_NOf (.cons ok_QMinus (.cons ok_NNeg .nil))))
set_option maxRecDepth 100000 in
theorem ok_QM : FnOK Try.prog 133 sQM := by
  refine fn_flat (cx := mkcx tabQM) (c := bodyOf Try.f133) Try.func133 (by kernel_rfl) (by kernel_rfl) rfl ?_
  intro ds chk v vs hF ht he hr base
  unfold sQMF at hF
  split at hF
  · cases hF
    have hvs : vs = [] := by simp only [encA, Option.some.injEq] at he; exact he.symm
    subst hvs
    rw [← qM_eq]
    exact runs_evS (mkok tabokQM) (n := 200) (bs0 := []) (by kernel_rfl) (VEnt.refl _) trivial
  · cases hF

noncomputable def sQAffF : List D → Option (List Bool × V)
  | [.n x, .n y, .n z] => some ([], .tup [unm (mulP x (invP z)), unm (mulP y (invP z))])
  | _ => none
noncomputable def sQAff : FSpec := spec [tqt] sQAffF
noncomputable abbrev tabQAff : List (FuncId × FSpec) := [(21, sNMul), (126, sNInv)]
set_option maxRecDepth 100000 in
theorem tabokQAff : TabOK Try.prog (tabOf tabQAff) := (.cons ok_NMul (.cons ok_NInv .nil))
set_option maxRecDepth 100000 in
theorem ok_QAff : FnOK Try.prog 87 sQAff := by
  refine fn_flat (cx := mkcx tabQAff) (c := bodyOf Try.f87) Try.func87 (by kernel_rfl) (by kernel_rfl) rfl ?_
  intro ds chk v vs hF ht he hr base
  unfold sQAffF at hF
  split at hF
  · rename_i x y z
    cases hF
    have hvs : vs = [vqt x y z] := by simp only [encA, encV, encP, encL, Option.some.injEq] at he; exact he.symm
    subst hvs
    exact runs_ev (mkok tabokQAff) (n := 400) (bs0 := []) (by kernel_rfl) (VEnt.refl _) trivial
  · cases hF
end Go.Proofs.Ytpoikjcgdojjjaa
