/-
  The law RistoMaps answers true.
-/
import Derived.Test.YtpoikjcgdojjjaaLb33
namespace Go.Proofs.Ytpoikjcgdojjjaa
open Go Vx Go.RowKit

theorem repQ_of {q : P4} {P : E} (h : RepP q P) : RepQ q.x q.y q.z P := ⟨h.z, h.x, h.y⟩
theorem same_rep {q : P4} {x y z : Nat} {P : E} (h1 : RepP q P) (h2 : RepQ x y z P) : sameQ (canP q.x) (canP q.y) (canP q.z) x y z = true :=
  same_of (by rw [h1.x, h2.hx]; grind) (by rw [h1.y, h2.hy]; grind)
def treeRM (a b : Bool) : Out := bif a then (bif b then outV (vbool' true) else outV (vbool' false)) else outV (vbool' false)
theorem rm_facts (b : Nat) : treeRM (onQ (canP (rmapP b).x) (canP (rmapP b).y) (canP (rmapP b).z) (canP (rmapP b).t) && sameQ (canP (rmapP b).x) (canP (rmapP b).y) (canP (rmapP b).z) (mqX b) (mqY b) (mqZ b))
    (allB [decide (rencP (rmapP b) = rencP ⟨mulP (mqX b) (invP (mqZ b)), mulP (mqY b) (invP (mqZ b)), 1, mulP (mulP (mqX b) (invP (mqZ b))) (mulP (mqY b) (invP (mqZ b)))⟩)]) = outV (vbool' true) := by
  obtain ⟨P, Q, e1, e2, h1, h2, h3⟩ := map_rep b
  have hq : RepQ (mqX b) (mqY b) (mqZ b) (P + Q) := by
    rw [mqX_eq, mqY_eq, mqZ_eq]
    exact addQ_rep (repQ_of h1) (repQ_of h2)
  rw [← enc_aff h3 hq (ev_add e1 e2), on_rep h3, same_rep h3 hq]
  simp only [allB, decide_true]
  rfl

noncomputable def sRistoMapsF : List D → Option (List Bool × V)
  | [.n _] => some ([], vbool' true)
  | _ => none
noncomputable def sRistoMaps : FSpec := spec [tb64] sRistoMapsF
noncomputable abbrev tabRistoMaps : List (FuncId × FSpec) := [(35, sRMap), (36, sQMap), (20, sIs4), (25, sREnc), (26, sQEnc), (19, sKnown4)]
set_option maxRecDepth 100000 in
theorem tabokRistoMaps : TabOK Try.prog (tabOf tabRistoMaps) := (.cons ok_RMap (.cons ok_QMap (.cons ok_Is4 (.cons ok_REnc (.cons ok_QEnc (.cons ok_Known4 .nil))))))
set_option maxRecDepth 100000 in
theorem ok_RistoMaps : FnOK Try.prog 9 sRistoMaps := by
  refine fn_flat (cx := mkcx tabRistoMaps) (c := bodyOf Try.f9) Try.func9 (by kernel_rfl) (by kernel_rfl) rfl ?_
  intro ds chk v vs hF ht he hr base
  unfold sRistoMapsF at hF
  split at hF
  · rename_i b
    cases hF
    have hvs : vs = [vb64 b] := by simp only [encA, encV, encP, encL, Option.some.injEq] at he; exact he.symm
    subst hvs
    exact runs_evS (mkok tabokRistoMaps) (n := 200) (bs0 := []) (h := Eq.trans (by kernel_rfl) (rm_facts b)) (VEnt.refl _) trivial
  · cases hF
end Go.Proofs.Ytpoikjcgdojjjaa
