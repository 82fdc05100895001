/-
  Contracts of sums of terms.
-/
import Derived.Test.YtpoikjcgdojjjaaLb49
import Derived.Test.YtpoikjcgdojjjaaLb48
import Derived.Test.YtpoikjcgdojjjaaLb41
import Derived.Test.YtpoikjcgdojjjaaLb32
import Derived.Test.YtpoikjcgdojjjaaLb40
namespace Go.Proofs.Ytpoikjcgdojjjaa
open Go Vx Go.RowKit

abbrev ttrm : Ty := .one (.sl [.pk .u8 8 32, .pk .u8 8 32])
abbrev vtrm (x : List (List D)) : V := .one (.rd [.pk .u8 8 32, .pk .u8 8 32] x)
def trK (d : List D) : Nat := (d.headD (.n 0)).toN
def trP (d : List D) : Nat := (d.tail.headD (.n 0)).toN
noncomputable def sumGo : P4 → List (List D) → Int × P4
  | o, [] => (0, o)
  | o, d :: l => bif !minusB (trK d) 7237005577332262213973186563042994240857116359379907606001950938285454250989 then (50, o) else bif !rdecBP (trP d) then (51, o) else sumGo (addP4 o (tmP (trK d) (rdecP (trP d)))) l
noncomputable def sumE0 (x : List (List D)) : Int := bif decide (64 < x.length) then 3 else (sumGo idP x).1
noncomputable def sumN0 (x : List (List D)) : Nat := bif decide (sumE0 x = 0) then rencP (sumGo idP x).2 else 0
noncomputable def sumE : List (List D) → Int := hidden' sumE0
noncomputable def sumN : List (List D) → Nat := hidden' sumN0
theorem sumE_eq (x : List (List D)) : sumE x = sumE0 x := by unfold sumE; rw [seal_eq]
theorem sumN_eq (x : List (List D)) : sumN x = sumN0 x := by unfold sumN; rw [seal_eq]
theorem sum_facts {x : List (List D)} {e : Int} {o : P4} (hl : ¬ 64 < x.length) (h : sumGo idP x = (e, o)) : sumE x = e ∧ (e = 0 → sumN x = rencP o) ∧ (e ≠ 0 → sumN x = 0) := by
  have h1 : sumE0 x = e := by unfold sumE0; rw [decide_eq_false hl, cond_false, h]
  rw [sumE_eq, sumN_eq]
  unfold sumN0
  rw [h1, h]
  refine ⟨rfl, fun he => ?_, fun he => ?_⟩
  · rw [decide_eq_true he]; rfl
  · rw [decide_eq_false he]; rfl
theorem sum_long {x : List (List D)} (hl : 64 < x.length) : sumE x = 3 ∧ sumN x = 0 := by
  have h1 : sumE0 x = 3 := by unfold sumE0; rw [decide_eq_true hl, cond_true]
  rw [sumE_eq, sumN_eq]
  unfold sumN0
  rw [h1]
  exact ⟨rfl, rfl⟩
abbrev vse (n : Nat) (e : Int) : V := .tup [.ag (.ps [.pk .u8 8 32 n]), .one (.int .i64 e)]
theorem vse0 (e : Int) : VEnt (.tup [.ag (.ps ub0), .one (.int .i64 e)]) (vse 0 e) := VEnt.tup2 (UEnt.of ub0_ent) (UEnt.refl _)
def stZu (_ : List (List D)) : St := ⟨[.junk, .junk, .one (.ptr 0 0), vi64 3, undefV] ++ List.replicate 9 .junk ++ [undefV, undefV, undefV] ++ List.replicate 26 .junk, [some ⟨66, .ps ub0⟩]⟩
def stZq (x : List (List D)) : St := ⟨[vtrm x, .junk, .one (.ptr 0 0), vi64 3, undefV, undefV] ++ List.replicate 44 .junk, [some ⟨66, .ps ub0⟩]⟩
theorem drop_cons {x : List (List D)} {j : Nat} (h : j < x.length) : x.drop j = x.getD j [] :: x.drop (j + 1) := by
  rw [List.drop_eq_getElem_cons h, List.getD_eq_getElem?_getD, List.getElem?_eq_getElem h, Option.getD_some]
theorem trm_rng {x : List (List D)} (hx : ∀ (i : Nat) (e : List D), x[i]? = some e → rngTs [.pk .u8 8 32, .pk .u8 8 32] e) {j : Nat} (hj : j < x.length) : trK (x.getD j []) < 2 ^ 256 := by
  rw [List.getD_eq_getElem?_getD, List.getElem?_eq_getElem hj, Option.getD_some]
  have := hx j _ (List.getElem?_eq_getElem hj)
  simp only [rngTs, rngT] at this
  exact this.1
noncomputable def stSu (x : List (List D)) (i : Int) (o : P4) (e : Int := 0) : St := ⟨[.junk, .junk, .one (.ptr 0 0), vi64 e, .one (.ptr 2 0)] ++ List.replicate 9 .junk ++ [vtrm x, vi64 (x.length : Nat), vi64 i] ++ List.replicate 26 .junk,
  [some ⟨66, .ps ub0⟩, none, some ⟨27, .ps (ptL o)⟩]⟩
noncomputable def stSq (x : List (List D)) (i : Int) (o : Q3) (e : Int := 0) : St := ⟨[vtrm x, .junk, .one (.ptr 0 0), vi64 e, .one (.ptr 2 0), vi64 i] ++ List.replicate 44 .junk,
  [some ⟨66, .ps ub0⟩, none, some ⟨33, .ps [.pk .u64 32 8 o.x, .pk .u64 32 8 o.y, .pk .u64 32 8 o.z]⟩]⟩

noncomputable def sASumF : List D → Option (List Bool × V)
  | [.l x] => some ([decide (x.length < 9223372036854775808)], vse (sumN x) (sumE x))
  | _ => none
noncomputable def sASum : FSpec := spec [ttrm] sASumF
noncomputable abbrev tabASum : List (FuncId × FSpec) := [(31, sEId), (102, sRMay), (17, sRDec), (103, sETimes), (28, sEAdd), (25, sREnc)]
set_option maxRecDepth 100000 in
theorem tabokASum : TabOK Try.prog (tabOf tabASum) := (.cons ok_EId (.cons ok_RMay (.cons ok_RDec (.cons ok_ETimes (.cons ok_EAdd (.cons ok_REnc .nil))))))
set_option maxRecDepth 100000 in
theorem ok_ASum : FnOK Try.prog 38 sASum := by
  refine fn_flat (cx := mkcs tabASum) (c := bodyOf Try.f38) Try.func38 (by kernel_rfl) (by kernel_rfl) rfl ?_
  intro ds chk v vs hF ht he hr base
  unfold sASumF at hF
  split at hF
  · rename_i x
    cases hF
    have hvs : vs = [vtrm x] := by simp only [encA, encV, encP, encL, Option.some.injEq] at he; exact he.symm
    subst hvs
    have hxl : x.length < 9223372036854775808 := of_decide_eq_true (ht _ (by simp))
    obtain ⟨hrng, _⟩ := hr
    have hrng : ∀ (i : Nat) (e : List D), x[i]? = some e → rngTs [.pk .u8 8 32, .pk .u8 8 32] e := hrng
    have h0 : evLS (mkcs tabASum) 100 ((items (bodyOf Try.f38)).take 5) ⟨t0 Try.f38 [vtrm x], []⟩ (kfg 0 [2, 3, 4, 14, 15, 16] [0, 2] 3) =
        chks [okK .i64 (x.length : Nat)] (bif decide ((64 : Int) < (x.length : Nat)) then .done .ret (stZu x) else chks [okK .i64 (x.length : Nat)] (.done .normal (stSu x 0 idP))) := by kernel_rfl
    have hln : okK .i64 ((x.length : Nat) : Int) = true := okI (by omega) (by omega)
    have hlp : allT [okK .i64 (x.length : Nat)] := by
      repeat' (first | exact allT0 | refine allTc hln ?_)
    rw [chks_true (allT1 hln), chks_true hlp] at h0
    by_cases h64 : 64 < x.length
    · rw [decide_eq_true (show (64 : Int) < (x.length : Nat) by omega), cond_true] at h0
      obtain ⟨e1, e2⟩ := sum_long h64
      rw [e1, e2]
      exact Runs.items _ _ _ (RunsL.preS (mkoks tabokASum) (k := 5) h0 ⟨_, [], (by kernel_rfl), vse0 3, trivial⟩)
    rw [decide_eq_false (show ¬ (64 : Int) < (x.length : Nat) by omega), cond_false] at h0
    refine Runs.items _ _ _ (RunsL.preS (mkoks tabokASum) (k := 5) h0 ?_)
    refine RunsL.loop (id := 0) (by kernel_rfl) (fun m s => ∃ (j : Nat) (o : P4), s = stSu x (j : Int) o ∧ j + m = x.length ∧ sumGo idP x = sumGo o (x.drop j)) x.length ⟨0, idP, rfl, Nat.zero_add _, rfl⟩ ?_
    rintro m s ⟨j, o, rfl, hj, hg⟩
    have hev : ∀ i : Int, evLS (mkcs tabASum) 100 (items (loopAt (bodyOf Try.f38) 5)) (stSu x i o) (kfg 0 [2, 3, 4, 14, 15, 16] [0, 2] 3) =
        chks [] (bif decide (i < (x.length : Nat)) then chks [decide (0 ≤ i), decide (i < (x.length : Nat))] (bif !minusB (trK (x.getD i.toNat [])) 7237005577332262213973186563042994240857116359379907606001950938285454250989 then .done .ret (stSu x i o 50)
          else chks [] (bif !rdecBP (trP (x.getD i.toNat [])) then .done .ret (stSu x i o 51) else chks [okK .i64 (i + 1)] (.done .normal (stSu x (i + 1) ((fun i => addP4 o (tmP (trK (x.getD i.toNat [])) (rdecP (trP (x.getD i.toNat []))))) i)))))
        else .done (.exit 0) (stSu x i o)) := by intro i; kernel_rfl
    have hev := hev (j : Int)
    dsimp only at hev
    have hll : allT [] := by
      repeat' (first | exact allT0 | refine allTc hln ?_)
    rw [chks_true hll] at hev
    cases m with
    | zero =>
      have hj : j = x.length := hj
      subst hj
      rw [decide_eq_false (show ¬ ((x.length : Nat) : Int) < (x.length : Nat) by omega), cond_false] at hev
      rw [List.drop_length, sumGo] at hg
      obtain ⟨e1, e2, _⟩ := sum_facts h64 hg
      rw [e1, e2 rfl]
      refine RunsL.allS (mkoks tabokASum) hev ?_
      exact runsL_evS (mkoks tabokASum) (n := 100) (bs0 := []) (by kernel_rfl) (VEnt.refl _) trivial
    | succ m =>
      have hjl : j < x.length := by omega
      have hd1 : decide ((0 : Int) ≤ (j : Int)) = true := by rw [decide_eq_true_iff]; omega
      have hd2 : decide (((j : Nat) : Int) < (x.length : Nat)) = true := by rw [decide_eq_true_iff]; omega
      have hd3 : okK .i64 ((j : Int) + 1) = true := okI (by omega) (by omega)
      rw [hd1, hd2, hd3, Int.toNat_natCast] at hev
      simp only [chks, cond_true] at hev
      rw [drop_cons hjl, sumGo] at hg
      have hkr := trm_rng hrng hjl
      generalize x.getD j [] = d at *
      cases hb1 : minusB (trK d) 7237005577332262213973186563042994240857116359379907606001950938285454250989 with
      | false =>
        rw [hb1, Bool.not_false, cond_true] at hev hg
        obtain ⟨e1, _, e3⟩ := sum_facts h64 hg
        rw [e1, e3 (by decide)]
        exact RunsL.allS (mkoks tabokASum) hev ⟨_, [], (by kernel_rfl), vse0 50, trivial⟩
      | true =>
        rw [hb1, Bool.not_true, cond_false] at hev hg
        cases hb2 : rdecBP (trP d) with
        | false =>
          rw [hb2, Bool.not_false, cond_true] at hev hg
          obtain ⟨e1, _, e3⟩ := sum_facts h64 hg
          rw [e1, e3 (by decide)]
          exact RunsL.allS (mkoks tabokASum) hev ⟨_, [], (by kernel_rfl), vse0 51, trivial⟩
        | true =>
          rw [hb2, Bool.not_true, cond_false] at hev hg
          exact RunsL.allS (mkoks tabokASum) hev ⟨m, Nat.lt_succ_self m, j + 1, addP4 o (tmP (trK d) (rdecP (trP d))), rfl, by omega, hg⟩
  · cases hF

noncomputable def sSSumF : List D → Option (List Bool × V)
  | [.l x] => some ([decide (x.length < 9223372036854775808)], vse (sumN x) (sumE x))
  | _ => none
noncomputable def sSSum : FSpec := spec [ttrm] sSSumF
noncomputable abbrev tabSSum : List (FuncId × FSpec) := [(104, sQId), (105, sSMay), (18, sQDec), (106, sQTimes), (84, sQAdd), (26, sQEnc)]
set_option maxRecDepth 100000 in
theorem tabokSSum : TabOK Try.prog (tabOf tabSSum) := (.cons ok_QId (.cons ok_SMay (.cons ok_QDec (.cons ok_QTimes (.cons ok_QAdd (.cons ok_QEnc .nil))))))
set_option maxRecDepth 100000 in
theorem ok_SSum : FnOK Try.prog 39 sSSum := by
  refine fn_flat (cx := mkcs tabSSum) (c := bodyOf Try.f39) Try.func39 (by kernel_rfl) (by kernel_rfl) rfl ?_
  intro ds chk v vs hF ht he hr base
  unfold sSSumF at hF
  split at hF
  · rename_i x
    cases hF
    have hvs : vs = [vtrm x] := by simp only [encA, encV, encP, encL, Option.some.injEq] at he; exact he.symm
    subst hvs
    have hxl : x.length < 9223372036854775808 := of_decide_eq_true (ht _ (by simp))
    obtain ⟨hrng, _⟩ := hr
    have hrng : ∀ (i : Nat) (e : List D), x[i]? = some e → rngTs [.pk .u8 8 32, .pk .u8 8 32] e := hrng
    have h0 : evLS (mkcs tabSSum) 100 ((items (bodyOf Try.f39)).take 5) ⟨t0 Try.f39 [vtrm x], []⟩ (kfg 0 [0, 2, 3, 4, 5] [0, 2] 3) =
        chks [okK .i64 (x.length : Nat)] (bif decide ((64 : Int) < (x.length : Nat)) then .done .ret (stZq x) else chks [] (.done .normal (stSq x 0 idQ))) := by kernel_rfl
    have hln : okK .i64 ((x.length : Nat) : Int) = true := okI (by omega) (by omega)
    have hlp : allT [] := by
      repeat' (first | exact allT0 | refine allTc hln ?_)
    rw [chks_true (allT1 hln), chks_true hlp] at h0
    by_cases h64 : 64 < x.length
    · rw [decide_eq_true (show (64 : Int) < (x.length : Nat) by omega), cond_true] at h0
      obtain ⟨e1, e2⟩ := sum_long h64
      rw [e1, e2]
      exact Runs.items _ _ _ (RunsL.preS (mkoks tabokSSum) (k := 5) h0 ⟨_, [], (by kernel_rfl), vse0 3, trivial⟩)
    rw [decide_eq_false (show ¬ (64 : Int) < (x.length : Nat) by omega), cond_false] at h0
    refine Runs.items _ _ _ (RunsL.preS (mkoks tabokSSum) (k := 5) h0 ?_)
    refine RunsL.loop (id := 0) (by kernel_rfl) (fun m s => ∃ (j : Nat) (o : P4) (q : Q3) (R : E), s = stSq x (j : Int) q ∧ j + m = x.length ∧ sumGo idP x = sumGo o (x.drop j) ∧ RepP o R ∧ Rep3 q R ∧ Ev R) x.length ⟨0, idP, idQ, 0, rfl, Nat.zero_add _, rfl, id_rep, idQ_rep, ev_zero⟩ ?_
    rintro m s ⟨j, o, q, R, rfl, hj, hg, r1, r2, r3⟩
    have hev : ∀ i : Int, evLS (mkcs tabSSum) 100 (items (loopAt (bodyOf Try.f39) 5)) (stSq x i q) (kfg 0 [0, 2, 3, 4, 5] [0, 2] 3) =
        chks [okK .i64 (x.length : Nat)] (bif decide (i < (x.length : Nat)) then chks [decide (0 ≤ i), decide (i < (x.length : Nat))] (bif !minusB (trK (x.getD i.toNat [])) 7237005577332262213973186563042994240857116359379907606001950938285454250989 then .done .ret (stSq x i q 50)
          else chks [decide (0 ≤ i), decide (i < (x.length : Nat))] (bif !rdecBP (trP (x.getD i.toNat [])) then .done .ret (stSq x i q 51) else chks [decide (0 ≤ i), decide (i < (x.length : Nat)), okK .i64 (i + 1)] (.done .normal (stSq x (i + 1) ((fun i => aq3 q (tqP (trK (x.getD i.toNat [])) ⟨(rdecP (trP (x.getD i.toNat []))).x, (rdecP (trP (x.getD i.toNat []))).y, (rdecP (trP (x.getD i.toNat []))).z⟩)) i)))))
        else .done (.exit 0) (stSq x i q)) := by intro i; kernel_rfl
    have hev := hev (j : Int)
    dsimp only at hev
    have hll : allT [okK .i64 (x.length : Nat)] := by
      repeat' (first | exact allT0 | refine allTc hln ?_)
    rw [chks_true hll] at hev
    cases m with
    | zero =>
      have hj : j = x.length := hj
      subst hj
      rw [decide_eq_false (show ¬ ((x.length : Nat) : Int) < (x.length : Nat) by omega), cond_false] at hev
      rw [List.drop_length, sumGo] at hg
      obtain ⟨e1, e2, _⟩ := sum_facts h64 hg
      rw [e1, e2 rfl]
      refine RunsL.allS (mkoks tabokSSum) hev ?_
      rw [enc_aff r1 r2 r3]
      exact runsL_evS (mkoks tabokSSum) (n := 100) (bs0 := []) (by kernel_rfl) (VEnt.refl _) trivial
    | succ m =>
      have hjl : j < x.length := by omega
      have hd1 : decide ((0 : Int) ≤ (j : Int)) = true := by rw [decide_eq_true_iff]; omega
      have hd2 : decide (((j : Nat) : Int) < (x.length : Nat)) = true := by rw [decide_eq_true_iff]; omega
      have hd3 : okK .i64 ((j : Int) + 1) = true := okI (by omega) (by omega)
      rw [hd1, hd2, hd3, Int.toNat_natCast] at hev
      simp only [chks, cond_true] at hev
      rw [drop_cons hjl, sumGo] at hg
      have hkr := trm_rng hrng hjl
      generalize x.getD j [] = d at *
      cases hb1 : minusB (trK d) 7237005577332262213973186563042994240857116359379907606001950938285454250989 with
      | false =>
        rw [hb1, Bool.not_false, cond_true] at hev hg
        obtain ⟨e1, _, e3⟩ := sum_facts h64 hg
        rw [e1, e3 (by decide)]
        exact RunsL.allS (mkoks tabokSSum) hev ⟨_, [], (by kernel_rfl), vse0 50, trivial⟩
      | true =>
        rw [hb1, Bool.not_true, cond_false] at hev hg
        cases hb2 : rdecBP (trP d) with
        | false =>
          rw [hb2, Bool.not_false, cond_true] at hev hg
          obtain ⟨e1, _, e3⟩ := sum_facts h64 hg
          rw [e1, e3 (by decide)]
          exact RunsL.allS (mkoks tabokSSum) hev ⟨_, [], (by kernel_rfl), vse0 51, trivial⟩
        | true =>
          rw [hb2, Bool.not_true, cond_false] at hev hg
          obtain ⟨P, p1, p2, _⟩ := enc_dec hb2
          have p3 : Rep3 ⟨(rdecP (trP d)).x, (rdecP (trP d)).y, (rdecP (trP d)).z⟩ P := ⟨p1.z, p1.x, p1.y⟩
          exact RunsL.allS (mkoks tabokSSum) hev ⟨m, Nat.lt_succ_self m, j + 1, addP4 o (tmP (trK d) (rdecP (trP d))), _, _, rfl, by omega, hg, add_rep r1 (tm_rep p1 hkr), aq3_rep r2 (tq_rep p3 hkr), ev_add r3 (ev_mulE p2 _)⟩
  · cases hF
end Go.Proofs.Ytpoikjcgdojjjaa
