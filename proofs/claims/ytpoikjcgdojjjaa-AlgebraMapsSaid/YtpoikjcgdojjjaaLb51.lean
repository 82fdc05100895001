/-
  Contracts of the document's algebra: small ones.
-/
import Derived.Test.YtpoikjcgdojjjaaLb50
import Derived.Test.YtpoikjcgdojjjaaLb33
import Derived.Test.YtpoikjcgdojjjaaLb47
namespace Go.Proofs.Ytpoikjcgdojjjaa
open Go Vx Go.RowKit

theorem repQ_of' {q : P4} {P : E} (h : RepP q P) : RepQ q.x q.y q.z P := ⟨h.z, h.x, h.y⟩
theorem can_small {n : Nat} (h : n < pP) : canP n = n := by rw [canP_eq, Nat.mod_eq_of_lt h]
theorem mul_can (a b : Nat) : canP (mulP a b) = mulP a b := can_small (mulP_lt a b)
theorem atB_base : atB (mulP 4 (invP 5)) false = true := by rw [atB_C, mulP_C, invP_C]; decide +kernel
theorem base_rep : ∃ P, RepP (baseP ()) P ∧ Ev P ∧ RepQ (atQX (mulP 4 (invP 5)) false) (atQY (mulP 4 (invP 5)) false) (atQZ (mulP 4 (invP 5)) false) P := by
  obtain ⟨P, hP, _, _⟩ := at_rep atB_base
  have hb : baseP () = atP (mulP 4 (invP 5)) false := by rw [baseP_eq]; rfl
  have hq := atQ_rep atB_base hP
  rw [mul_can] at hq
  obtain ⟨Q, q1, q2, _⟩ := enc_dec known_dec
  have hco : Co Q P := (equ_co q1 (by rw [hb]; exact hP)).1 known_equ
  exact ⟨P, by rw [hb]; exact hP, ev_co hco q2, hq⟩
theorem baseQ_enc : rencP ⟨mulP (atQX (mulP (canP 4) (invP (canP 5))) false) (invP (atQZ (mulP (canP 4) (invP (canP 5))) false)), mulP (atQY (mulP (canP 4) (invP (canP 5))) false) (invP (atQZ (mulP (canP 4) (invP (canP 5))) false)), 1, mulP (mulP (atQX (mulP (canP 4) (invP (canP 5))) false) (invP (atQZ (mulP (canP 4) (invP (canP 5))) false))) (mulP (atQY (mulP (canP 4) (invP (canP 5))) false) (invP (atQZ (mulP (canP 4) (invP (canP 5))) false)))⟩ = rencP (baseP ()) := by
  rw [can_small (show 4 < pP from by decide), can_small (show 5 < pP from by decide)]
  obtain ⟨P, h1, h2, h3⟩ := base_rep
  exact (enc_aff h1 h3 h2).symm
theorem mapQ_enc (b : Nat) : rencP ⟨mulP (mqX b) (invP (mqZ b)), mulP (mqY b) (invP (mqZ b)), 1, mulP (mulP (mqX b) (invP (mqZ b))) (mulP (mqY b) (invP (mqZ b)))⟩ = rencP (rmapP b) := by
  obtain ⟨P, Q, e1, e2, h1, h2, h3⟩ := map_rep b
  have hq : RepQ (mqX b) (mqY b) (mqZ b) (P + Q) := by
    rw [mqX_eq, mqY_eq, mqZ_eq]
    exact addQ_rep (repQ_of' h1) (repQ_of' h2)
  exact (enc_aff h3 hq (ev_add e1 e2)).symm
/-- Once a point. -/
theorem sum_one {n : Nat} (h : rdecBP n = true) : sumE [[.n 1, .n n]] = 0 ∧ sumN [[.n 1, .n n]] = n := by
  have hm : minusB 1 7237005577332262213973186563042994240857116359379907606001950938285454250989 = true := by rw [minusB_eq]; decide +kernel
  have hg : sumGo idP [[.n 1, .n n]] = (0, addP4 idP (tmP 1 (rdecP n))) := by
    have e1 : trK [.n 1, .n n] = 1 := rfl
    have e2 : trP [.n 1, .n n] = n := rfl
    rw [sumGo, sumGo, e1, e2, hm, h]
    rfl
  obtain ⟨f1, f2, _⟩ := sum_facts (x := [[.n 1, .n n]]) (show ¬ 64 < 1 from by decide) hg
  obtain ⟨P, p1, p2, p3⟩ := enc_dec h
  refine ⟨f1, (f2 rfl).trans ?_⟩
  have hr := add_rep id_rep (tm_rep p1 (show (1 : Nat) < 2 ^ 256 from by decide +kernel))
  rw [E.mul_one, E.zero_add] at hr
  rw [(enc_eq hr p1 p2 p2).2 (co_refl P), p3]

noncomputable def sSIsPointF : List D → Option (List Bool × V)
  | [.n p] => some ([], vbool' (rdecBP p))
  | _ => none
noncomputable def sSIsPoint : FSpec := spec [tb32] sSIsPointF
noncomputable abbrev tabSIsPoint : List (FuncId × FSpec) := [(18, sQDec)]
set_option maxRecDepth 100000 in
theorem tabokSIsPoint : TabOK Try.prog (tabOf tabSIsPoint) := (.cons ok_QDec .nil)
set_option maxRecDepth 100000 in
theorem ok_SIsPoint : FnOK Try.prog 41 sSIsPoint := by
  refine fn_flat (cx := mkcx tabSIsPoint) (c := bodyOf Try.f41) Try.func41 (by kernel_rfl) (by kernel_rfl) rfl ?_
  intro ds chk v vs hF ht he hr base
  unfold sSIsPointF at hF
  split at hF
  · rename_i p
    cases hF
    have hvs : vs = [vb32 p] := by simp only [encA, encV, encP, encL, Option.some.injEq] at he; exact he.symm
    subst hvs
    exact runs_ev (mkok tabokSIsPoint) (n := 400) (bs0 := []) (by kernel_rfl) (VEnt.refl _) trivial
  · cases hF

noncomputable def sSOfF : List D → Option (List Bool × V)
  | [.i n] => some ([], vb32 n.toNat)
  | _ => none
noncomputable def sSOf : FSpec := spec [tu64] sSOfF
noncomputable abbrev tabSOf : List (FuncId × FSpec) := [(117, sSScOf)]
set_option maxRecDepth 100000 in
theorem tabokSOf : TabOK Try.prog (tabOf tabSOf) := (.cons ok_SScOf .nil)
set_option maxRecDepth 100000 in
theorem ok_SOf : FnOK Try.prog 57 sSOf := by
  refine fn_flat (cx := mkcx tabSOf) (c := bodyOf Try.f57) Try.func57 (by kernel_rfl) (by kernel_rfl) rfl ?_
  intro ds chk v vs hF ht he hr base
  unfold sSOfF at hF
  split at hF
  · rename_i n
    cases hF
    have hvs : vs = [vu64 n] := by simp only [encA, encV, encP, encL, Option.some.injEq] at he; exact he.symm
    subst hvs
    exact runs_ev (mkok tabokSOf) (n := 400) (bs0 := []) (by kernel_rfl) (VEnt.refl _) trivial
  · cases hF

noncomputable def sSMapF : List D → Option (List Bool × V)
  | [.n b] => some ([], vb32 (rencP (rmapP b)))
  | _ => none
noncomputable def sSMap : FSpec := spec [tb64] sSMapF
noncomputable abbrev tabSMap : List (FuncId × FSpec) := [(26, sQEnc), (36, sQMap)]
set_option maxRecDepth 100000 in
theorem tabokSMap : TabOK Try.prog (tabOf tabSMap) := (.cons ok_QEnc (.cons ok_QMap .nil))
set_option maxRecDepth 100000 in
theorem ok_SMap : FnOK Try.prog 47 sSMap := by
  refine fn_flat (cx := mkcx tabSMap) (c := bodyOf Try.f47) Try.func47 (by kernel_rfl) (by kernel_rfl) rfl ?_
  intro ds chk v vs hF ht he hr base
  unfold sSMapF at hF
  split at hF
  · rename_i b
    cases hF
    have hvs : vs = [vb64 b] := by simp only [encA, encV, encP, encL, Option.some.injEq] at he; exact he.symm
    subst hvs
    rw [← mapQ_enc]
    exact runs_evS (mkok tabokSMap) (n := 400) (bs0 := []) (by kernel_rfl) (VEnt.refl _) trivial
  · cases hF

noncomputable def sSReduceF : List D → Option (List Bool × V)
  | [.n b] => some ([], vb32 (restP b))
  | _ => none
noncomputable def sSReduce : FSpec := spec [tb64] sSReduceF
noncomputable abbrev tabSReduce : List (FuncId × FSpec) := [(108, sSWide)]
set_option maxRecDepth 100000 in
theorem tabokSReduce : TabOK Try.prog (tabOf tabSReduce) := (.cons ok_SWide .nil)
set_option maxRecDepth 100000 in
theorem ok_SReduce : FnOK Try.prog 45 sSReduce := by
  refine fn_flat (cx := mkcx tabSReduce) (c := bodyOf Try.f45) Try.func45 (by kernel_rfl) (by kernel_rfl) rfl ?_
  intro ds chk v vs hF ht he hr base
  unfold sSReduceF at hF
  split at hF
  · rename_i b
    cases hF
    have hvs : vs = [vb64 b] := by simp only [encA, encV, encP, encL, Option.some.injEq] at he; exact he.symm
    subst hvs
    exact runs_ev (mkok tabokSReduce) (n := 400) (bs0 := []) (by kernel_rfl) (VEnt.refl _) trivial
  · cases hF

noncomputable def sSBaseF : List D → Option (List Bool × V)
  | [] => some ([], vb32 (rencP (baseP ())))
  | _ => none
noncomputable def sSBase : FSpec := spec [] sSBaseF
noncomputable abbrev tabSBase : List (FuncId × FSpec) := [(26, sQEnc), (134, sQBase)]
set_option maxRecDepth 100000 in
theorem tabokSBase : TabOK Try.prog (tabOf tabSBase) := (.cons ok_QEnc (.cons ok_QBase .nil))
set_option maxRecDepth 100000 in
theorem ok_SBase : FnOK Try.prog 101 sSBase := by
  refine fn_flat (cx := mkcx tabSBase) (c := bodyOf Try.f101) Try.func101 (by kernel_rfl) (by kernel_rfl) rfl ?_
  intro ds chk v vs hF ht he hr base
  unfold sSBaseF at hF
  split at hF
  · cases hF
    have hvs : vs = [] := by simp only [encA, Option.some.injEq] at he; exact he.symm
    subst hvs
    rw [← baseQ_enc]
    exact runs_evS (mkok tabokSBase) (n := 400) (bs0 := []) (by kernel_rfl) (VEnt.refl _) trivial
  · cases hF
end Go.Proofs.Ytpoikjcgdojjjaa
