/-
  The law AlgebraSums answers true.
-/
import Derived.Test.YtpoikjcgdojjjaaLb54
namespace Go.Proofs.Ytpoikjcgdojjjaa
open Go Vx Go.RowKit

noncomputable def stSa (x : List (List D)) (b : Bool) : St := ⟨[vtrm x, .junk, .one (.bool b)] ++ List.replicate 74 .junk, []⟩
noncomputable def stSb (x : List (List D)) (n : Nat) (y : List (List D)) (i : Int) (b : Bool) : St := ⟨[vtrm x, .junk, .one (.bool b), .junk, .junk, .one (.row 1 64 0 n n), .one (.ptr 3 0), vi64 (sumE y), .one (.ptr 5 0), vi64 (sumE x)] ++ List.replicate 42 .junk ++ [vi64 (n : Nat), vi64 i] ++ List.replicate 23 .junk, [none, some ⟨72, .row [.pk .u8 8 32, .pk .u8 8 32] x⟩, none, some ⟨66, .ps [.pk .u8 8 32 (sumN y)]⟩, none, some ⟨66, .ps [.pk .u8 8 32 (sumN x)]⟩]⟩

theorem take_all (x : List (List D)) : List.take (0 + x.length) (List.drop 0 ([] ++ x)) = x := by
  rw [Nat.zero_add, List.nil_append, List.drop_zero, List.take_length]
def treeSu (c0 c1 : Bool) (f : Bool → St) : Out := bif c0 then (bif c1 then .done .ret (f true) else .done .ret (f false)) else .done .ret (f false)

noncomputable def sAlgebraSumsF : List D → Option (List Bool × V)
  | [.l _] => some ([], vbool' true)
  | _ => none
noncomputable def sAlgebraSums : FSpec := spec [ttrm] sAlgebraSumsF
noncomputable abbrev tabAlgebraSums : List (FuncId × FSpec) := [(38, sASum), (39, sSSum), (37, sKnown5)]
set_option maxRecDepth 100000 in
theorem tabokAlgebraSums : TabOK Try.prog (tabOf tabAlgebraSums) := (.cons ok_ASum (.cons ok_SSum (.cons ok_Known5 .nil)))
set_option maxRecDepth 100000 in
theorem ok_AlgebraSums : FnOK Try.prog 11 sAlgebraSums := by
  refine fn_flat (cx := mkcs tabAlgebraSums) (c := bodyOf Try.f11) Try.func11 (by kernel_rfl) (by kernel_rfl) rfl ?_
  intro ds chk v vs hF ht he hr base
  unfold sAlgebraSumsF at hF
  split at hF
  · rename_i x
    cases hF
    have hvs : vs = [vtrm x] := by simp only [encA, encV, encP, encL, Option.some.injEq] at he; exact he.symm
    subst hvs
    obtain ⟨hrng, _⟩ := hr
    have hmx : x.length < 9223372036854775808 := Nat.lt_of_le_of_lt hrng.1 (by decide)
    have hln : okK .i64 ((x.length : Nat) : Int) = true := okI (by omega) (by omega)
    have h0 : evLS (mkcs tabAlgebraSums) 100 ((items (bodyOf Try.f11)).take 3) ⟨t0 Try.f11 [vtrm x], []⟩ (kfg 0 [0, 2] [] 0) =
        chks [okK .i64 (x.length : Nat)] (bif decide ((8 : Int) < (x.length : Nat)) then chks [okK .i64 (x.length : Nat)] (bif decide (((x.length : Nat) : Int) ≤ 64) then .done .ret (stSa x true) else .done .normal (stSa x false)) else .done .normal (stSa x false)) := by kernel_rfl
    rw [chks_true (allT1 hln), chks_true (allT1 hln)] at h0
    by_cases h8 : 8 < x.length ∧ x.length ≤ 64
    · rw [decide_eq_true (show (8 : Int) < (x.length : Nat) by omega), decide_eq_true (show ((x.length : Nat) : Int) ≤ 64 by omega), cond_true, cond_true] at h0
      exact Runs.items _ _ _ (RunsL.preS (mkoks tabokAlgebraSums) (k := 3) h0 ⟨_, [], (by kernel_rfl), VEnt.refl _, trivial⟩)
    have h0 : evLS (mkcs tabAlgebraSums) 100 ((items (bodyOf Try.f11)).take 3) ⟨t0 Try.f11 [vtrm x], []⟩ (kfg 0 [0, 2] [] 0) = .done .normal (stSa x false) := by
      rw [h0]
      by_cases h : 8 < x.length
      · rw [decide_eq_true (show (8 : Int) < (x.length : Nat) by omega), decide_eq_false (show ¬ ((x.length : Nat) : Int) ≤ 64 by omega)]; rfl
      · rw [decide_eq_false (show ¬ (8 : Int) < (x.length : Nat) by omega)]; rfl
    refine Runs.items _ _ _ (RunsL.preS (mkoks tabokAlgebraSums) (k := 3) h0 ?_)
    have h1 : evLS (mkcs tabAlgebraSums) 100 (((items (bodyOf Try.f11)).drop 3).take 2) (stSa x false) (kfg 0 [0, 2] [] 0) =
        chks [okK .i64 (x.length : Nat)] (bif decide ((64 : Int) < (x.length : Nat)) then chks [decide (x.length < 9223372036854775808)] (treeSu (allB [true && decide (sumN x = 0)]) (decide (sumE x = 3)) (stSa x)) else .done .normal (stSa x false)) := by kernel_rfl
    rw [chks_true (allT1 hln)] at h1
    have hxl : decide (x.length < 9223372036854775808) = true := by rw [decide_eq_true_iff]; omega
    rw [chks_true (allT1 hxl)] at h1
    by_cases h64 : 64 < x.length
    · obtain ⟨e1, e2⟩ := sum_long h64
      rw [e1, e2, decide_eq_true (show (64 : Int) < (x.length : Nat) by omega), cond_true] at h1
      exact RunsL.preS (mkoks tabokAlgebraSums) (k := 2) (e := .ret) (st' := stSa x true) h1 ⟨_, [], (by kernel_rfl), VEnt.refl _, trivial⟩
    rw [decide_eq_false (show ¬ (64 : Int) < (x.length : Nat) by omega), cond_false] at h1
    refine RunsL.preS (mkoks tabokAlgebraSums) (k := 2) h1 ?_
    have h2 : evLS (mkcs tabAlgebraSums) 100 ((((items (bodyOf Try.f11)).drop 3).drop 2).take 4) (stSa x false) (kfg 0 [0, 2, 5, 6, 7, 8, 9, 52, 53] [1, 3, 5] 6) =
        chks [decide ((0 + x.length) * 64 ≤ 140737488355328), decide (0 + x.length < 4611686018427387904), decide (0 + (0 + x.length) ≤ x.length), decide ((List.take (0 + x.length) (List.drop 0 ([] ++ x))).length < 9223372036854775808),
          decide (x.length < 9223372036854775808), okK .i64 ((0 + x.length : Nat) : Int)] (.done .normal (stSb x (0 + x.length) (List.take (0 + x.length) (List.drop 0 ([] ++ x))) 0 false)) := by kernel_rfl
    rw [take_all, Nat.zero_add, Nat.zero_add] at h2
    have hc2 : allT [decide (x.length * 64 ≤ 140737488355328), decide (x.length < 4611686018427387904), decide (x.length ≤ x.length), decide (x.length < 9223372036854775808), decide (x.length < 9223372036854775808), okK .i64 ((x.length : Nat) : Int)] := by
      refine allTc ?_ (allTc ?_ (allTc ?_ (allTc hxl (allTc hxl (allT1 hln)))))
      all_goals (rw [decide_eq_true_iff]; omega)
    rw [chks_true hc2] at h2
    refine RunsL.preS (mkoks tabokAlgebraSums) (k := 4) h2 ?_
    refine RunsL.loop (id := 0) (by kernel_rfl) (fun m s => ∃ j : Nat, s = stSb x x.length x (j : Int) false ∧ j + m = x.length) x.length ⟨0, rfl, Nat.zero_add _⟩ ?_
    rintro m s ⟨j, rfl, hj⟩
    have hev : ∀ i : Int, evLS (mkcs tabAlgebraSums) 100 (items (loopAt (bodyOf Try.f11) 9)) (stSb x x.length x i false) (kfg 0 [0, 2, 5, 6, 7, 8, 9, 52, 53] [1, 3, 5] 6) =
        bif decide (i < (x.length : Nat)) then chks [decide (0 ≤ i), decide (i < (x.length : Nat)), decide (0 + i.toNat < x.length), decide (0 ≤ i), decide (i < (x.length : Nat))]
          (bif !allB [decide (((x.getD (0 + i.toNat) []).headD (.n 0)).toN = ((x.getD i.toNat []).headD (.n 0)).toN), decide (((x.getD (0 + i.toNat) []).tail.headD (.n 0)).toN = ((x.getD i.toNat []).tail.headD (.n 0)).toN)] then .done .ret (stSb x x.length x i false)
            else chks [okK .i64 (i + 1)] (.done .normal (stSb x x.length x (i + 1) false)))
        else .done (.exit 0) (stSb x x.length x i false) := by intro i; kernel_rfl
    have hev := hev (j : Int)
    rw [Int.toNat_natCast, Nat.zero_add, decide_eq_true rfl, decide_eq_true rfl] at hev
    cases m with
    | zero =>
      have hj : j = x.length := hj
      subst hj
      rw [decide_eq_false (show ¬ ((x.length : Nat) : Int) < (x.length : Nat) by omega), cond_false] at hev
      refine RunsL.allS (mkoks tabokAlgebraSums) hev ?_
      exact runsL_evS (mkoks tabokAlgebraSums) (n := 100) (bs0 := []) (h := Eq.trans (b := treeL [allB [decide (sumN x = sumN x)], decide (sumE x = sumE x)]) (by kernel_rfl) (treeL_t (allTc allB_d (allTc dec_self allT0)))) (VEnt.refl _) trivial
    | succ m =>
      have hjl : j < x.length := by omega
      have hc : allT [decide ((0 : Int) ≤ (j : Int)), true, decide (j < x.length), decide ((0 : Int) ≤ (j : Int)), true] := by
        refine allTc ?_ (allTc rfl (allTc ?_ (allTc ?_ (allT1 rfl))))
        all_goals (rw [decide_eq_true_iff]; omega)
      have hd3 : okK .i64 ((j : Int) + 1) = true := okI (by omega) (by omega)
      rw [decide_eq_true (show ((j : Nat) : Int) < (x.length : Nat) by omega), cond_true, chks_true hc, chks_true (allT1 hd3)] at hev
      exact RunsL.allS (mkoks tabokAlgebraSums) hev ⟨m, Nat.lt_succ_self m, j + 1, rfl, by omega⟩
  · cases hF
end Go.Proofs.Ytpoikjcgdojjjaa
