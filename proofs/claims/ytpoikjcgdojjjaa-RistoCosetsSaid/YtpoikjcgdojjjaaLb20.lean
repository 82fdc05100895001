/-
  The law RistoThere answers true.
-/
import Derived.Test.YtpoikjcgdojjjaaLb19
import Derived.Test.YtpoikjcgdojjjaaM2
namespace Go.Proofs.Ytpoikjcgdojjjaa
open Go Vx Go.RowKit

abbrev tseed : Ty := .ag [.pk .u64 64 4, .bool]
abbrev vseed (y : Nat) (o : Bool) : V := .u (.ag (.ps [.pk .u64 64 4 y, .bool o]))

noncomputable def treeThere (C0 C1 C2 C3 C4 C5 C6 C7 : Bool) : Out :=
  (bif C0 then (bif C1 then outV (vbool' false) else (bif C2 then outV (vbool' false) else (bif C3 then outV (vbool' true) else (bif C4 then outV (vbool' false) else (bif C5 then outV (vbool' false) else (bif C6 then outV (vbool' true) else (bif C7 then outV (vbool' true) else outV (vbool' false)))))))) else (bif C3 then outV (vbool' true) else (bif C4 then outV (vbool' false) else (bif C5 then outV (vbool' false) else (bif C6 then outV (vbool' true) else (bif C7 then outV (vbool' true) else outV (vbool' false)))))))

theorem there_facts (n y : Nat) (o : Bool) : treeThere (rdecBP n) (!allB [decide (rencP (rdecP n) = n)]) (!onPt (rdecP n)) (!atB y o) (!rdecBP (rencP (addP4 (atP y o) (atP y o)))) (!equP (rdecP (rencP (addP4 (atP y o) (atP y o)))) (addP4 (atP y o) (atP y o))) (!rdecBP n) (allB [decide (rencP (addP4 (rdecP n) (addP4 (atP y o) (atP y o))) = rencP (addP4 (rdecP n) (rdecP (rencP (addP4 (atP y o) (atP y o))))))]) = outV (vbool' true) := by
  cases h0 : rdecBP n with
  | true =>
    obtain ⟨P, hP, eP, hn⟩ := enc_dec h0
    have h2 : onPt (rdecP n) = true := onPt_iff.2 ⟨P, hP⟩
    cases h3 : atB y o with
    | false => simp [treeThere, hn, h2, allB]
    | true =>
      obtain ⟨A, hA, _, _⟩ := at_rep h3
      have hA2 := add_rep hA hA
      have eA2 := ev_double A
      obtain ⟨h4, Q, hQ, cQ, eQ⟩ := dec_enc hA2 eA2
      have h5 := (equ_co hQ hA2).2 (co_symm cQ)
      have h7 := (enc_eq (add_rep hP hA2) (add_rep hP hQ) (ev_add eP eA2) (ev_add eP eQ)).2 (co_add (co_refl P) cQ)
      simp [treeThere, hn, h2, h4, h5, h7, allB]
  | false =>
    cases h3 : atB y o with
    | false => simp [treeThere]
    | true =>
      obtain ⟨A, hA, _, _⟩ := at_rep h3
      have hA2 := add_rep hA hA
      have eA2 := ev_double A
      obtain ⟨h4, Q, hQ, cQ, eQ⟩ := dec_enc hA2 eA2
      have h5 := (equ_co hQ hA2).2 (co_symm cQ)
      simp [treeThere, h4, h5]

noncomputable def sRistoThereF : List D → Option (List Bool × V)
  | [.n _, .n _, .b _] => some ([], vbool' true)
  | _ => none
noncomputable def sRistoThere : FSpec := spec [tb32, tseed] sRistoThereF
noncomputable abbrev tabRistoThere : List (FuncId × FSpec) := [(17, sRDec), (25, sREnc), (34, sEOn), (27, sEAt), (28, sEAdd), (23, sREqu), (19, sKnown4)]
set_option maxRecDepth 100000 in
theorem tabokRistoThere : TabOK Try.prog (tabOf tabRistoThere) := (.cons ok_RDec (.cons ok_REnc (.cons ok_EOn (.cons ok_EAt (.cons ok_EAdd (.cons ok_REqu (.cons ok_Known4 .nil)))))))
set_option maxRecDepth 100000 in
theorem ok_RistoThere : FnOK Try.prog 8 sRistoThere := by
  refine fn_flat (cx := mkcx tabRistoThere) (c := bodyOf Try.f8) Try.func8 (by kernel_rfl) (by kernel_rfl) rfl ?_
  intro ds chk v vs hF ht he hr base
  unfold sRistoThereF at hF
  split at hF
  · rename_i n y o
    cases hF
    have hvs : vs = [vb32 n, vseed y o] := by simp only [encA, encV, encP, encL, Option.some.injEq] at he; exact he.symm
    subst hvs
    exact runs_evS (mkok tabokRistoThere) (n := 200) (bs0 := []) (h := Eq.trans (by kernel_rfl) (there_facts n y o)) (VEnt.refl _) trivial
  · cases hF
end Go.Proofs.Ytpoikjcgdojjjaa
