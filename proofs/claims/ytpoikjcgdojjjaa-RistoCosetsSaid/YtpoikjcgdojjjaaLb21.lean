/-
  The law RistoCosets answers true.
-/
import Derived.Test.YtpoikjcgdojjjaaLb20
namespace Go.Proofs.Ytpoikjcgdojjjaa
open Go Vx Go.RowKit

noncomputable def treeCosets (C0 C1 C2 C3 C4 C5 C6 C7 C8 C9 C10 : Bool) : Out :=
  (bif C0 then outV (vbool' true) else (bif C1 then outV (vbool' true) else (bif C2 then outV (vbool' false) else (bif C3 then outV (vbool' false) else (bif C4 then outV (vbool' false) else (bif C5 then outV (vbool' false) else (bif C6 then outV (vbool' false) else (bif C7 then outV (vbool' false) else (bif C8 then outV (vbool' false) else (bif C9 then outV (vbool' false) else (bif C10 then outV (vbool' true) else outV (vbool' false))))))))))))

theorem four_a : RepP ⟨Int.toNat 0, negP (Int.toNat 1), Int.toNat 1, Int.toNat 0⟩ (0 : E).t2 := by
  refine ⟨K.one_ne, ?_, ?_, ?_⟩
  · show k 0 = -0 * k 1; decide +kernel
  · show k (negP 1) = -1 * k 1; rw [k_neg]; decide +kernel
  · show k 0 = -0 * -1 * k 1; decide +kernel
theorem four_b : RepP ⟨iP, Int.toNat 0, Int.toNat 1, Int.toNat 0⟩ (0 : E).ti := by
  refine ⟨K.one_ne, ?_, ?_, ?_⟩
  · show k iP = kI * 1 * k 1; rw [k_iP]; decide +kernel
  · show k 0 = kI * 0 * k 1; decide +kernel
  · show k 0 = kI * 1 * (kI * 0) * k 1; decide +kernel
theorem four_c : RepP ⟨negP iP, Int.toNat 0, Int.toNat 1, Int.toNat 0⟩ (0 : E).ti.t2 := by
  refine ⟨K.one_ne, ?_, ?_, ?_⟩
  · show k (negP iP) = -(kI * 1) * k 1; rw [k_neg, k_iP]; decide +kernel
  · show k 0 = -(kI * 0) * k 1; decide +kernel
  · show k 0 = -(kI * 1) * -(kI * 0) * k 1; decide +kernel
theorem tor_tit2 : (0 : E).ti.t2.Tor := by show -(kI * (1 : K)) * -(kI * 0) = 0; decide +kernel
theorem coset_fact {q r : P4} {P T : E} (h1 : RepP q P) (e : Ev P) (h2 : RepP r T) (hT : T.Tor) : rencP (addP4 q r) = rencP q ∧ equP (addP4 q r) q = true := by
  have hc : Co P (P + T) := co_iff.2 ⟨T, hT, rfl⟩
  have hr := add_rep h1 h2
  exact ⟨(enc_eq hr h1 (ev_add e (ev_tor hT)) e).2 (co_symm hc), (equ_co hr h1).2 (co_symm hc)⟩

theorem cosets_facts (y : Nat) (o : Bool) (y1 : Nat) (o1 : Bool) : treeCosets (!atB y o) (!atB y1 o1) (!allB [decide (rencP (addP4 (addP4 (atP y o) (atP y o)) idP) = rencP (addP4 (atP y o) (atP y o)))]) (!equP (addP4 (addP4 (atP y o) (atP y o)) idP) (addP4 (atP y o) (atP y o))) (!allB [decide (rencP (addP4 (addP4 (atP y o) (atP y o)) { x := Int.toNat 0, y := negP (Int.toNat 1), z := Int.toNat 1, t := Int.toNat 0 }) = rencP (addP4 (atP y o) (atP y o)))]) (!equP (addP4 (addP4 (atP y o) (atP y o)) { x := Int.toNat 0, y := negP (Int.toNat 1), z := Int.toNat 1, t := Int.toNat 0 }) (addP4 (atP y o) (atP y o))) (!allB [decide (rencP (addP4 (addP4 (atP y o) (atP y o)) { x := iP, y := Int.toNat 0, z := Int.toNat 1, t := Int.toNat 0 }) = rencP (addP4 (atP y o) (atP y o)))]) (!equP (addP4 (addP4 (atP y o) (atP y o)) { x := iP, y := Int.toNat 0, z := Int.toNat 1, t := Int.toNat 0 }) (addP4 (atP y o) (atP y o))) (!allB [decide (rencP (addP4 (addP4 (atP y o) (atP y o)) { x := negP iP, y := Int.toNat 0, z := Int.toNat 1, t := Int.toNat 0 }) = rencP (addP4 (atP y o) (atP y o)))]) (!equP (addP4 (addP4 (atP y o) (atP y o)) { x := negP iP, y := Int.toNat 0, z := Int.toNat 1, t := Int.toNat 0 }) (addP4 (atP y o) (atP y o))) (allB [decide (rencP (addP4 (atP y1 o1) (atP y1 o1)) = rencP (addP4 (atP y o) (atP y o)))] == equP (addP4 (atP y o) (atP y o)) (addP4 (atP y1 o1) (atP y1 o1))) = outV (vbool' true) := by
  cases h0 : atB y o with
  | false => simp [treeCosets]
  | true =>
    cases h1 : atB y1 o1 with
    | false => simp [treeCosets]
    | true =>
      obtain ⟨A, hA, _, _⟩ := at_rep h0
      obtain ⟨B, hB, _, _⟩ := at_rep h1
      have hA2 := add_rep hA hA
      have hB2 := add_rep hB hB
      have eA := ev_double A
      have eB := ev_double B
      obtain ⟨a1, a2⟩ := coset_fact hA2 eA id_rep tor_zero
      obtain ⟨b1, b2⟩ := coset_fact hA2 eA four_a tor_t2
      obtain ⟨c1, c2⟩ := coset_fact hA2 eA four_b tor_ti
      obtain ⟨d1, d2⟩ := coset_fact hA2 eA four_c tor_tit2
      have h10 : (allB [decide (rencP (addP4 (atP y1 o1) (atP y1 o1)) = rencP (addP4 (atP y o) (atP y o)))] == equP (addP4 (atP y o) (atP y o)) (addP4 (atP y1 o1) (atP y1 o1))) = true := by
        have e1 := enc_eq hB2 hA2 eB eA
        have e2 := equ_co hA2 hB2
        rw [beq_iff_eq, Bool.eq_iff_iff]
        show decide _ = true ↔ _
        rw [decide_eq_true_eq, e1, e2]
        exact ⟨co_symm, co_symm⟩
      rw [a1, a2, b1, b2, c1, c2, d1, d2, h10]
      simp [treeCosets, allB]

noncomputable def sRistoCosetsF : List D → Option (List Bool × V)
  | [.n _, .b _, .n _, .b _] => some ([], vbool' true)
  | _ => none
noncomputable def sRistoCosets : FSpec := spec [tseed, tseed] sRistoCosetsF
noncomputable abbrev tabRistoCosets : List (FuncId × FSpec) := [(31, sEId), (25, sREnc), (28, sEAdd), (27, sEAt), (33, sEBase), (19, sKnown4), (29, sLOf), (30, sLI), (32, sLNeg), (23, sREqu)]
set_option maxRecDepth 100000 in
theorem tabokRistoCosets : TabOK Try.prog (tabOf tabRistoCosets) := (.cons ok_EId (.cons ok_REnc (.cons ok_EAdd (.cons ok_EAt (.cons ok_EBase (.cons ok_Known4 (.cons ok_LOf (.cons ok_LI (.cons ok_LNeg (.cons ok_REqu .nil))))))))))
set_option maxRecDepth 100000 in
theorem ok_RistoCosets : FnOK Try.prog 6 sRistoCosets := by
  refine fn_flat (cx := mkcx tabRistoCosets) (c := bodyOf Try.f6) Try.func6 (by kernel_rfl) (by kernel_rfl) rfl ?_
  intro ds chk v vs hF ht he hr base
  unfold sRistoCosetsF at hF
  split at hF
  · rename_i y o y1 o1
    cases hF
    have hvs : vs = [vseed y o, vseed y1 o1] := by simp only [encA, encV, encP, encL, Option.some.injEq] at he; exact he.symm
    subst hvs
    exact runs_evS (mkok tabokRistoCosets) (n := 400) (bs0 := []) (h := Eq.trans (by kernel_rfl) (cosets_facts y o y1 o1)) (VEnt.refl _) trivial
  · cases hF
end Go.Proofs.Ytpoikjcgdojjjaa
