/-
  Contracts of the program's group: Times.
-/
import Derived.Test.YtdkmcpbjicnfmaaL7
import Derived.Test.YtdkmcpbjicnfmaaU2
import Derived.Test.YtdkmcpbjicnfmaaX4
import Derived.Test.YtdkmcpbjicnfmaaL5
import Derived.Test.YtdkmcpbjicnfmaaM3
import Derived.Test.YtdkmcpbjicnfmaaL6
namespace Go.Proofs.Ytdkmcpbjicnfmaa
open Go Vx Go.RowKit

def ptL (q : P4) : List L := [.pk .u64 64 4 q.x, .pk .u64 64 4 q.y, .pk .u64 64 4 q.z, .pk .u64 64 4 q.t]
noncomputable def stE (k : Nat) (tb : C) (i : V) (o : P4) : St := ⟨[.junk, .junk, .one (.ptr 0 0), .junk, .one (.ptr 2 0), .junk, .one (.ptr 6 0), .one (.ptr 8 0), .junk, .one (.ptr 25 0), i] ++ List.replicate 46 .junk,
  [some ⟨29, .ps [.pk .u8 8 32 k]⟩, none, some ⟨98, .ps [.int .u64 0, .int .u64 0, .int .u64 0, .int .u64 0, .int .u64 0, .int .u64 0, .int .u64 0, .int .u64 0, .int .u64 0, .int .u64 0, .int .u64 0, .int .u64 0, .int .u64 0, .int .u64 0, .int .u64 0, .int .u64 0]⟩, none, none, none, some ⟨96, .ps [.pk .u64 64 4 (addP dP dP)]⟩, none, some ⟨145, tb⟩] ++ List.replicate 16 none ++ [some ⟨98, .ps (ptL o)⟩]⟩
theorem stE_ent {k : Nat} {i : V} {o : P4} {s s' : C} (h : CEnt s s') (h1 : s = .dead → s' = .dead) (h2 : ∀ ts, s = .row ts [] → ∃ ts', s' = .row ts' []) : StEntG (stE k s i o) (stE k s' i o) := by
  refine ⟨rfl, fun _ => .inl rfl, fun j => ?_⟩
  match j with
  | 0 | 1 | 2 | 3 | 4 | 5 | 6 | 7 => exact .inl rfl
  | 8 => exact .inr ⟨_, _, _, rfl, rfl, h, h1, h2⟩
  | j + 9 => exact .inl rfl
/-- Four bits of a scalar. -/
theorem nib_eq {k j : Nat} : ((((digit 8 k (0 + ((j : Int).tdiv 2).toNat) : Nat) : Int) / ((2 ^ min (4 * (j : Int).tmod 2).toNat IntKind.u8.bits : Nat) : Int)).toNat &&& 15 : Nat) = k / 2 ^ (4 * j) % 16 := by
  have h1 : ((j : Int).tdiv 2).toNat = j / 2 := by
    rw [Int.tdiv_eq_ediv_of_nonneg (by omega)]; omega
  have h2 : min (4 * (j : Int).tmod 2).toNat IntKind.u8.bits = 4 * (j % 2) := by
    rw [Int.tmod_eq_emod_of_nonneg (by omega)]
    show min (4 * ((j : Int) % 2)).toNat 8 = 4 * (j % 2)
    omega
  have h3 : ∀ n : Nat, n &&& 15 = n % 16 := fun n => Nat.and_two_pow_sub_one_eq_mod n 4
  rw [h1, h2, h3, ← Int.natCast_ediv, Int.toNat_natCast, Nat.zero_add]
  unfold digit
  have hlt : j % 2 < 2 := Nat.mod_lt _ (by decide)
  have e2 : (2 : Nat) ^ 8 = 2 ^ (4 * (j % 2)) * 2 ^ (8 - 4 * (j % 2)) := by rw [← Nat.pow_add]; congr 1; omega
  rw [e2, Nat.mod_mul_right_div_self, Nat.div_div_eq_div_mul, ← Nat.pow_add]
  have e3 : (2 : Nat) ^ (8 - 4 * (j % 2)) = 16 * 2 ^ (4 - 4 * (j % 2)) := by
    rw [show (16 : Nat) = 2 ^ 4 from rfl, ← Nat.pow_add]; congr 1; omega
  rw [e3, Nat.mod_mul_right_mod]
  congr 3
  omega
theorem tmR_step (k : Nat) (p : P4) {j : Nat} (hj : j < 64) : sumP (dbl4 (tmR k p (64 - (j + 1)))) (tbl p (k / 2 ^ (4 * j) % 16)) (addP dP dP) = tmR k p (64 - j) := by
  have : 64 - j = (64 - (j + 1)) + 1 := by omega
  rw [this, tmR, show 63 - (64 - (j + 1)) = j by omega]

noncomputable def sETimesF : List D → Option (List Bool × V)
  | [.n k, .n x, .n y, .n z, .n t] => some ([], vpP (tmP k ⟨x, y, z, t⟩))
  | _ => none
noncomputable def sETimes : FSpec := spec [tb32, tpt] sETimesF
noncomputable abbrev tabETimes : List (FuncId × FSpec) := [(97, sEsum), (93, sED), (91, sLAdd), (52, sEId)]
set_option maxRecDepth 100000 in
theorem tabokETimes : TabOK Try.prog (tabOf tabETimes) := (.cons ok_Esum (.cons ok_ED (.cons ok_LAdd (.cons ok_EId .nil))))
set_option maxRecDepth 100000 in
theorem ok_ETimes : FnOK Try.prog 55 sETimes := by
  refine fn_flat (cx := mkcx tabETimes) (c := bodyOf Try.f55) Try.func55 (by kernel_rfl) (by kernel_rfl) rfl ?_
  intro ds chk v vs hF ht he hr base
  unfold sETimesF at hF
  split at hF
  · rename_i k x y z t
    cases hF
    have hvs : vs = [vb32 k, vpt x y z t] := by simp only [encA, encV, encP, encL, Option.some.injEq] at he; exact he.symm
    subst hvs
    rw [tmP_eq]
    generalize hp : (⟨x, y, z, t⟩ : P4) = p
    have hx : x = p.x := by rw [← hp]
    have hy : y = p.y := by rw [← hp]
    have hz : z = p.z := by rw [← hp]
    have ht' : t = p.t := by rw [← hp]
    subst hx hy hz ht'
    clear hp
    refine Runs.items _ _ _ (RunsL.preG (mkok tabokETimes) (n := 100) (k := 8) (kt := [2, 4, 6, 7, 9, 10]) (kh := [0, 2, 6, 8, 25]) (m := 26) (e := .normal) (st1 := stE k (.ps ((List.range 16).flatMap fun j => ptL (tbl p j))) (vi64 63) idP) (st' := stE k (.big 16 16 fun j => ptL (tbl p j)) (vi64 63) idP) (by kernel_rfl)
      (stE_ent (fl_bg (fun _ => rfl) (fun _ => rfl)) (fun h => by cases h) (fun _ h => by cases h)) ?_)
    refine RunsL.flags (cx := mkcs tabETimes) (cx' := mkcx tabETimes) (l := (items (bodyOf Try.f55)).drop 8) rfl rfl ?_
    refine RunsL.loop (id := 2) (by kernel_rfl) (fun m s => s = stE k (.big 16 16 fun j => ptL (tbl p j)) (vi64 ((m : Int) - 1)) (tmR k p (64 - m)) ∧ m ≤ 64) 64 ⟨rfl, Nat.le_refl _⟩ ?_
    rintro m s ⟨rfl, hm⟩
    have hev : ∀ (i : Int) (o : P4), evLS (mkcs tabETimes) 100 (items (loopAt (bodyOf Try.f55) 8)) (stE k (.big 16 16 fun j => ptL (tbl p j)) (vi64 i) o) (kfg 0 [2, 4, 6, 7, 9, 10] [0, 2, 6, 8, 25] 26) =
        bif decide ((0 : Int) ≤ i) then chks [okK .i64 1, okK .i64 2, okK .i64 3, okK .i64 4, okK .i64 (i.tdiv 2), decide (0 ≤ i.tdiv 2), decide (i.tdiv 2 < 32), decide (0 + (i.tdiv 2).toNat < 32), okK .i64 (4 * i.tmod 2), decide (0 ≤ 4 * i.tmod 2),
            decide (((((((digit 8 k (0 + (i.tdiv 2).toNat) : Nat) : Int) / ((2 ^ min (4 * i.tmod 2).toNat IntKind.u8.bits : Nat) : Int)).toNat &&& (15 : Int).toNat : Nat) : Nat) : Int) < 16), decide (((((((digit 8 k (0 + (i.tdiv 2).toNat) : Nat) : Int) / ((2 ^ min (4 * i.tmod 2).toNat IntKind.u8.bits : Nat) : Int)).toNat &&& (15 : Int).toNat : Nat) : Nat) : Int).toNat < 16), okK .i64 (i - 1)]
          (.done .normal (stE k (.big 16 16 fun j => ptL (tbl p j)) (vi64 (i - 1)) (sumP (dbl4 o) (tbl p (((((((digit 8 k (0 + (i.tdiv 2).toNat) : Nat) : Int) / ((2 ^ min (4 * i.tmod 2).toNat IntKind.u8.bits : Nat) : Int)).toNat &&& (15 : Int).toNat : Nat) : Nat) : Int).toNat)) (addP dP dP))))
        else .done (.exit 2) (stE k (.big 16 16 fun j => ptL (tbl p j)) (vi64 i) o) := by intro i o; kernel_rfl
    cases m with
    | zero =>
      have hev := hev (((0 : Nat) : Int) - 1) (tmR k p (64 - 0))
      rw [show decide ((0 : Int) ≤ ((0 : Nat) : Int) - 1) = false from rfl, cond_false] at hev
      refine RunsL.allS (mkoks tabokETimes) hev ?_
      exact runsL_evS (mkoks tabokETimes) (n := 100) (bs0 := []) (by kernel_rfl) (VEnt.refl _) trivial
    | succ j =>
      have hev := hev (j : Int) (tmR k p (64 - (j + 1)))
      have hi : ((j + 1 : Nat) : Int) - 1 = (j : Int) := by omega
      rw [hi]
      have hn := nib_eq (k := k) (j := j)
      have h15 : (15 : Int).toNat = 15 := rfl
      have hnl : k / 2 ^ (4 * j) % 16 < 16 := Nat.mod_lt _ (by decide)
      rw [h15, hn, Int.toNat_natCast, tmR_step k p (by omega), decide_eq_true (show (0 : Int) ≤ (j : Int) by omega), cond_true, chks_true] at hev
      rotate_left 1
      · clear hev hn
        have hd : (j : Int).tdiv 2 = ((j / 2 : Nat) : Int) := by rw [Int.tdiv_eq_ediv_of_nonneg (by omega)]; omega
        have hm' : (j : Int).tmod 2 = ((j % 2 : Nat) : Int) := by rw [Int.tmod_eq_emod_of_nonneg (by omega)]; omega
        rw [hd, hm']
        generalize k / 2 ^ (4 * j) % 16 = q at *
        repeat' (first | exact allT0 | refine allTc ?_ ?_)
        all_goals first | (rw [decide_eq_true_iff]; omega) | exact okI (by omega) (by omega) | rfl
      exact RunsL.allS (mkoks tabokETimes) hev ⟨j, Nat.lt_succ_self j, rfl, by omega⟩
  · cases hF
end Go.Proofs.Ytdkmcpbjicnfmaa

/-
  Contracts of the document's group: Identity, Base, Times.
-/
namespace Go.Proofs.Ytdkmcpbjicnfmaa
open Go Vx Go.RowKit

structure Q3 where
  x : Nat
  y : Nat
  z : Nat
theorem CEnt.ag {c c' : C} (h : CEnt c c') : VEnt (.ag c) (.ag c') := by
  rintro σ x ⟨xs, e, hc⟩
  exact ⟨xs, e, h σ xs hc⟩
end Go.Proofs.Ytdkmcpbjicnfmaa

/-
  Contracts of sums of terms.
-/
namespace Go.Proofs.Ytdkmcpbjicnfmaa
open Go Vx Go.RowKit

abbrev ttrm : Ty := .one (.sl [.pk .u8 8 32, .pk .u8 8 32])
abbrev vtrm (x : List (List D)) : V := .one (.rd [.pk .u8 8 32, .pk .u8 8 32] x)
def trK (d : List D) : Nat := (d.headD (.n 0)).toN
def trP (d : List D) : Nat := (d.tail.headD (.n 0)).toN
noncomputable def sumGo : P4 → List (List D) → Int × P4
  | o, [] => (0, o)
  | o, d :: l => bif !minusB (trK d) 7237005577332262213973186563042994240857116359379907606001950938285454250989 then (50, o) else bif !rdecBP (trP d) then (51, o) else sumGo (addP4 o (tmP (trK d) (rdecP (trP d)))) l
noncomputable def sumE0 (x : List (List D)) : Int := bif decide (64 < x.length) then 3 else (sumGo idP x).1
noncomputable def sumN0 (x : List (List D)) : Nat := bif decide (sumE0 x = 0) then rencP (sumGo idP x).2 else 0
noncomputable def sumE : List (List D) → Int := hidden' sumE0
noncomputable def sumN : List (List D) → Nat := hidden' sumN0
theorem sumE_eq (x : List (List D)) : sumE x = sumE0 x := by unfold sumE; rw [seal_eq]
theorem sumN_eq (x : List (List D)) : sumN x = sumN0 x := by unfold sumN; rw [seal_eq]
theorem sum_facts {x : List (List D)} {e : Int} {o : P4} (hl : ¬ 64 < x.length) (h : sumGo idP x = (e, o)) : sumE x = e ∧ (e = 0 → sumN x = rencP o) ∧ (e ≠ 0 → sumN x = 0) := by
  have h1 : sumE0 x = e := by unfold sumE0; rw [decide_eq_false hl, cond_false, h]
  rw [sumE_eq, sumN_eq]
  unfold sumN0
  rw [h1, h]
  refine ⟨rfl, fun he => ?_, fun he => ?_⟩
  · rw [decide_eq_true he]; rfl
  · rw [decide_eq_false he]; rfl
theorem sum_long {x : List (List D)} (hl : 64 < x.length) : sumE x = 3 ∧ sumN x = 0 := by
  have h1 : sumE0 x = 3 := by unfold sumE0; rw [decide_eq_true hl, cond_true]
  rw [sumE_eq, sumN_eq]
  unfold sumN0
  rw [h1]
  exact ⟨rfl, rfl⟩
abbrev vse (n : Nat) (e : Int) : V := .tup [.ag (.ps [.pk .u8 8 32 n]), .one (.int .i64 e)]
theorem vse0 (e : Int) : VEnt (.tup [.ag (.ps ub0), .one (.int .i64 e)]) (vse 0 e) := VEnt.tup2 (UEnt.of ub0_ent) (UEnt.refl _)
def stZu (_ : List (List D)) : St := ⟨[.junk, .junk, .one (.ptr 0 0), vi64 3, undefV] ++ List.replicate 9 .junk ++ [undefV, undefV, undefV] ++ List.replicate 26 .junk, [some ⟨31, .ps ub0⟩]⟩
theorem drop_cons {x : List (List D)} {j : Nat} (h : j < x.length) : x.drop j = x.getD j [] :: x.drop (j + 1) := by
  rw [List.drop_eq_getElem_cons h, List.getD_eq_getElem?_getD, List.getElem?_eq_getElem h, Option.getD_some]
theorem trm_rng {x : List (List D)} (hx : ∀ (i : Nat) (e : List D), x[i]? = some e → rngTs [.pk .u8 8 32, .pk .u8 8 32] e) {j : Nat} (hj : j < x.length) : trK (x.getD j []) < 2 ^ 256 := by
  rw [List.getD_eq_getElem?_getD, List.getElem?_eq_getElem hj, Option.getD_some]
  have := hx j _ (List.getElem?_eq_getElem hj)
  simp only [rngTs, rngT] at this
  exact this.1
noncomputable def stSu (x : List (List D)) (i : Int) (o : P4) (e : Int := 0) : St := ⟨[.junk, .junk, .one (.ptr 0 0), vi64 e, .one (.ptr 2 0)] ++ List.replicate 9 .junk ++ [vtrm x, vi64 (x.length : Nat), vi64 i] ++ List.replicate 26 .junk,
  [some ⟨31, .ps ub0⟩, none, some ⟨98, .ps (ptL o)⟩]⟩

noncomputable def sASumF : List D → Option (List Bool × V)
  | [.l x] => some ([decide (x.length < 9223372036854775808)], vse (sumN x) (sumE x))
  | _ => none
noncomputable def sASum : FSpec := spec [ttrm] sASumF
noncomputable abbrev tabASum : List (FuncId × FSpec) := [(52, sEId), (51, sRMay), (53, sRDec), (55, sETimes), (54, sEAdd), (56, sREnc)]
set_option maxRecDepth 100000 in
theorem tabokASum : TabOK Try.prog (tabOf tabASum) := (.cons ok_EId (.cons ok_RMay (.cons ok_RDec (.cons ok_ETimes (.cons ok_EAdd (.cons ok_REnc .nil))))))
set_option maxRecDepth 100000 in
theorem ok_ASum : FnOK Try.prog 24 sASum := by
  refine fn_flat (cx := mkcs tabASum) (c := bodyOf Try.f24) Try.func24 (by kernel_rfl) (by kernel_rfl) rfl ?_
  intro ds chk v vs hF ht he hr base
  unfold sASumF at hF
  split at hF
  · rename_i x
    cases hF
    have hvs : vs = [vtrm x] := by simp only [encA, encV, encP, encL, Option.some.injEq] at he; exact he.symm
    subst hvs
    have hxl : x.length < 9223372036854775808 := of_decide_eq_true (ht _ (by simp))
    obtain ⟨hrng, _⟩ := hr
    have hrng : ∀ (i : Nat) (e : List D), x[i]? = some e → rngTs [.pk .u8 8 32, .pk .u8 8 32] e := hrng.2
    have h0 : evLS (mkcs tabASum) 100 ((items (bodyOf Try.f24)).take 5) ⟨t0 Try.f24 [vtrm x], []⟩ (kfg 0 [2, 3, 4, 14, 15, 16] [0, 2] 3) =
        chks [okK .i64 (x.length : Nat)] (bif decide ((64 : Int) < (x.length : Nat)) then .done .ret (stZu x) else chks [okK .i64 (x.length : Nat)] (.done .normal (stSu x 0 idP))) := by kernel_rfl
    have hln : okK .i64 ((x.length : Nat) : Int) = true := okI (by omega) (by omega)
    have hlp : allT [okK .i64 (x.length : Nat)] := by
      repeat' (first | exact allT0 | refine allTc hln ?_)
    rw [chks_true (allT1 hln), chks_true hlp] at h0
    by_cases h64 : 64 < x.length
    · rw [decide_eq_true (show (64 : Int) < (x.length : Nat) by omega), cond_true] at h0
      obtain ⟨e1, e2⟩ := sum_long h64
      rw [e1, e2]
      exact Runs.items _ _ _ (RunsL.preS (mkoks tabokASum) (k := 5) h0 ⟨_, [], (by kernel_rfl), vse0 3, trivial⟩)
    rw [decide_eq_false (show ¬ (64 : Int) < (x.length : Nat) by omega), cond_false] at h0
    refine Runs.items _ _ _ (RunsL.preS (mkoks tabokASum) (k := 5) h0 ?_)
    refine RunsL.loop (id := 0) (by kernel_rfl) (fun m s => ∃ (j : Nat) (o : P4), s = stSu x (j : Int) o ∧ j + m = x.length ∧ sumGo idP x = sumGo o (x.drop j)) x.length ⟨0, idP, rfl, Nat.zero_add _, rfl⟩ ?_
    rintro m s ⟨j, o, rfl, hj, hg⟩
    have hev : ∀ i : Int, evLS (mkcs tabASum) 100 (items (loopAt (bodyOf Try.f24) 5)) (stSu x i o) (kfg 0 [2, 3, 4, 14, 15, 16] [0, 2] 3) =
        chks [] (bif decide (i < (x.length : Nat)) then chks [decide (0 ≤ i), decide (i < (x.length : Nat))] (bif !minusB (trK (x.getD i.toNat [])) 7237005577332262213973186563042994240857116359379907606001950938285454250989 then .done .ret (stSu x i o 50)
          else chks [] (bif !rdecBP (trP (x.getD i.toNat [])) then .done .ret (stSu x i o 51) else chks [okK .i64 (i + 1)] (.done .normal (stSu x (i + 1) ((fun i => addP4 o (tmP (trK (x.getD i.toNat [])) (rdecP (trP (x.getD i.toNat []))))) i)))))
        else .done (.exit 0) (stSu x i o)) := by intro i; kernel_rfl
    have hev := hev (j : Int)
    dsimp only at hev
    have hll : allT [] := by
      repeat' (first | exact allT0 | refine allTc hln ?_)
    rw [chks_true hll] at hev
    cases m with
    | zero =>
      have hj : j = x.length := hj
      subst hj
      rw [decide_eq_false (show ¬ ((x.length : Nat) : Int) < (x.length : Nat) by omega), cond_false] at hev
      rw [List.drop_length, sumGo] at hg
      obtain ⟨e1, e2, _⟩ := sum_facts h64 hg
      rw [e1, e2 rfl]
      refine RunsL.allS (mkoks tabokASum) hev ?_
      exact runsL_evS (mkoks tabokASum) (n := 100) (bs0 := []) (by kernel_rfl) (VEnt.refl _) trivial
    | succ m =>
      have hjl : j < x.length := by omega
      have hd1 : decide ((0 : Int) ≤ (j : Int)) = true := by rw [decide_eq_true_iff]; omega
      have hd2 : decide (((j : Nat) : Int) < (x.length : Nat)) = true := by rw [decide_eq_true_iff]; omega
      have hd3 : okK .i64 ((j : Int) + 1) = true := okI (by omega) (by omega)
      rw [hd1, hd2, hd3, Int.toNat_natCast] at hev
      simp only [chks, cond_true] at hev
      rw [drop_cons hjl, sumGo] at hg
      have hkr := trm_rng hrng hjl
      generalize x.getD j [] = d at *
      cases hb1 : minusB (trK d) 7237005577332262213973186563042994240857116359379907606001950938285454250989 with
      | false =>
        rw [hb1, Bool.not_false, cond_true] at hev hg
        obtain ⟨e1, _, e3⟩ := sum_facts h64 hg
        rw [e1, e3 (by decide)]
        exact RunsL.allS (mkoks tabokASum) hev ⟨_, [], (by kernel_rfl), vse0 50, trivial⟩
      | true =>
        rw [hb1, Bool.not_true, cond_false] at hev hg
        cases hb2 : rdecBP (trP d) with
        | false =>
          rw [hb2, Bool.not_false, cond_true] at hev hg
          obtain ⟨e1, _, e3⟩ := sum_facts h64 hg
          rw [e1, e3 (by decide)]
          exact RunsL.allS (mkoks tabokASum) hev ⟨_, [], (by kernel_rfl), vse0 51, trivial⟩
        | true =>
          rw [hb2, Bool.not_true, cond_false] at hev hg
          exact RunsL.allS (mkoks tabokASum) hev ⟨m, Nat.lt_succ_self m, j + 1, addP4 o (tmP (trK d) (rdecP (trP d))), rfl, by omega, hg⟩
  · cases hF
end Go.Proofs.Ytdkmcpbjicnfmaa

/-
  Contracts of the document's algebra: small ones.
-/
namespace Go.Proofs.Ytdkmcpbjicnfmaa
open Go Vx Go.RowKit

theorem can_small {n : Nat} (h : n < pP) : canP n = n := by rw [canP_eq, Nat.mod_eq_of_lt h]
theorem mul_can (a b : Nat) : canP (mulP a b) = mulP a b := can_small (mulP_lt a b)
theorem atB_base : atB (mulP 4 (invP 5)) false = true := by rw [atB_C, mulP_C, invP_C]; decide +kernel
theorem base_rep : ∃ P, RepP (baseP ()) P ∧ Ev P ∧ RepQ (atQX (mulP 4 (invP 5)) false) (atQY (mulP 4 (invP 5)) false) (atQZ (mulP 4 (invP 5)) false) P := by
  obtain ⟨P, hP, _, _⟩ := at_rep atB_base
  have hb : baseP () = atP (mulP 4 (invP 5)) false := by rw [baseP_eq]; rfl
  have hq := atQ_rep atB_base hP
  rw [mul_can] at hq
  obtain ⟨Q, q1, q2, _⟩ := enc_dec known_dec
  have hco : Co Q P := (equ_co q1 (by rw [hb]; exact hP)).1 known_equ
  exact ⟨P, by rw [hb]; exact hP, ev_co hco q2, hq⟩
end Go.Proofs.Ytdkmcpbjicnfmaa

/-
  The laws AlgebraMay, AlgebraMaps answer true.
-/
namespace Go.Proofs.Ytdkmcpbjicnfmaa
open Go Vx Go.RowKit

theorem base_ne : rencP (baseP ()) ≠ 0 := by rw [renc_base]; decide
end Go.Proofs.Ytdkmcpbjicnfmaa

/-
  Contracts of scalars: sums, differences, products, inverses, or refused.
-/
namespace Go.Proofs.Ytdkmcpbjicnfmaa
open Go Vx Go.RowKit

noncomputable abbrev okS (a : Nat) : Bool := minusB a 7237005577332262213973186563042994240857116359379907606001950938285454250989
noncomputable def boV (ok : Bool) (n : Nat) : V := vse (bif ok then n else 0) (bif ok then 0 else 50)
def boE : V := .tup [.ag (.ps ub0), .one (.int .i64 50)]
def treeBo (a b : Bool) (n : Nat) : Out := bif !a then outV boE else bif !b then outV boE else outV (vse n 0)
theorem treeBo_eq (a b : Bool) (n : Nat) : ∃ v0, treeBo a b n = outV v0 ∧ VEnt v0 (boV (a && b) n) := by
  cases a
  · exact ⟨_, rfl, vse0 50⟩
  · cases b
    · exact ⟨_, rfl, vse0 50⟩
    · exact ⟨_, rfl, VEnt.refl _⟩
def treeIn (a b : Bool) (n : Nat) : Out := bif !a then outV boE else bif b then outV boE else outV (vse n 0)
theorem treeIn_eq (a b : Bool) (n : Nat) : ∃ v0, treeIn a b n = outV v0 ∧ VEnt v0 (boV (a && !b) n) := by
  cases a
  · exact ⟨_, rfl, vse0 50⟩
  · cases b
    · exact ⟨_, rfl, VEnt.refl _⟩
    · exact ⟨_, rfl, vse0 50⟩

noncomputable def sAPlusF : List D → Option (List Bool × V)
  | [.n a, .n b] => some ([], boV (okS a && okS b) (restP (restP a + restP b)))
  | _ => none
noncomputable def sAPlus : FSpec := spec [tb32, tb32] sAPlusF
noncomputable abbrev tabAPlus : List (FuncId × FSpec) := [(51, sRMay), (50, sRPlus)]
set_option maxRecDepth 100000 in
theorem tabokAPlus : TabOK Try.prog (tabOf tabAPlus) := (.cons ok_RMay (.cons ok_RPlus .nil))
noncomputable abbrev ilAPlus : List (FuncId × Func) := [(49, Try.f49)]
set_option maxRecDepth 100000 in
theorem ilokAPlus : IlOK Try.prog (ilTab ilAPlus) := (IlOK.cons Try.func49 (by kernel_rfl) IlOK.nil)
set_option maxRecDepth 100000 in
theorem ok_APlus : FnOK Try.prog 22 sAPlus := by
  refine fn_flat (cx := mkci tabAPlus ilAPlus) (c := bodyOf Try.f22) Try.func22 (by kernel_rfl) (by kernel_rfl) rfl ?_
  intro ds chk v vs hF ht he hr base
  unfold sAPlusF at hF
  split at hF
  · rename_i a b
    cases hF
    have hvs : vs = [vb32 a, vb32 b] := by simp only [encA, encV, encP, encL, Option.some.injEq] at he; exact he.symm
    subst hvs
    obtain ⟨v0, h1, h2⟩ := treeBo_eq (okS a) (okS b) (restP (restP a + restP b))
    exact runs_evS (mkoki tabokAPlus ilokAPlus) (n := 400) (bs0 := []) (h := Eq.trans (by kernel_rfl) h1) h2 trivial
  · cases hF

noncomputable def sAMinusF : List D → Option (List Bool × V)
  | [.n a, .n b] => some ([], boV (okS a && okS b) (restP (restP a + restP (minusS 7237005577332262213973186563042994240857116359379907606001950938285454250989 (restP b)))))
  | _ => none
noncomputable def sAMinus : FSpec := spec [tb32, tb32] sAMinusF
noncomputable abbrev tabAMinus : List (FuncId × FSpec) := [(51, sRMay), (66, sRMinus)]
set_option maxRecDepth 100000 in
theorem tabokAMinus : TabOK Try.prog (tabOf tabAMinus) := (.cons ok_RMay (.cons ok_RMinus .nil))
noncomputable abbrev ilAMinus : List (FuncId × Func) := [(49, Try.f49)]
set_option maxRecDepth 100000 in
theorem ilokAMinus : IlOK Try.prog (ilTab ilAMinus) := (IlOK.cons Try.func49 (by kernel_rfl) IlOK.nil)
set_option maxRecDepth 100000 in
theorem ok_AMinus : FnOK Try.prog 29 sAMinus := by
  refine fn_flat (cx := mkci tabAMinus ilAMinus) (c := bodyOf Try.f29) Try.func29 (by kernel_rfl) (by kernel_rfl) rfl ?_
  intro ds chk v vs hF ht he hr base
  unfold sAMinusF at hF
  split at hF
  · rename_i a b
    cases hF
    have hvs : vs = [vb32 a, vb32 b] := by simp only [encA, encV, encP, encL, Option.some.injEq] at he; exact he.symm
    subst hvs
    obtain ⟨v0, h1, h2⟩ := treeBo_eq (okS a) (okS b) (restP (restP a + restP (minusS 7237005577332262213973186563042994240857116359379907606001950938285454250989 (restP b))))
    exact runs_evS (mkoki tabokAMinus ilokAMinus) (n := 400) (bs0 := []) (h := Eq.trans (by kernel_rfl) h1) h2 trivial
  · cases hF

noncomputable def sATimesF : List D → Option (List Bool × V)
  | [.n a, .n b] => some ([], boV (okS a && okS b) (restP (restP a * restP b)))
  | _ => none
noncomputable def sATimes : FSpec := spec [tb32, tb32] sATimesF
noncomputable abbrev tabATimes : List (FuncId × FSpec) := [(51, sRMay), (67, sRTimes)]
set_option maxRecDepth 100000 in
theorem tabokATimes : TabOK Try.prog (tabOf tabATimes) := (.cons ok_RMay (.cons ok_RTimes .nil))
noncomputable abbrev ilATimes : List (FuncId × Func) := [(49, Try.f49)]
set_option maxRecDepth 100000 in
theorem ilokATimes : IlOK Try.prog (ilTab ilATimes) := (IlOK.cons Try.func49 (by kernel_rfl) IlOK.nil)
set_option maxRecDepth 100000 in
theorem ok_ATimes : FnOK Try.prog 30 sATimes := by
  refine fn_flat (cx := mkci tabATimes ilATimes) (c := bodyOf Try.f30) Try.func30 (by kernel_rfl) (by kernel_rfl) rfl ?_
  intro ds chk v vs hF ht he hr base
  unfold sATimesF at hF
  split at hF
  · rename_i a b
    cases hF
    have hvs : vs = [vb32 a, vb32 b] := by simp only [encA, encV, encP, encL, Option.some.injEq] at he; exact he.symm
    subst hvs
    obtain ⟨v0, h1, h2⟩ := treeBo_eq (okS a) (okS b) (restP (restP a * restP b))
    exact runs_evS (mkoki tabokATimes ilokATimes) (n := 400) (bs0 := []) (h := Eq.trans (by kernel_rfl) h1) h2 trivial
  · cases hF

noncomputable def sAInverseF : List D → Option (List Bool × V)
  | [.n a] => some ([], boV (okS a && !allB [decide (a = 0)]) (powL a 7237005577332262213973186563042994240857116359379907606001950938285454250987))
  | _ => none
noncomputable def sAInverse : FSpec := spec [tb32] sAInverseF
noncomputable abbrev tabAInverse : List (FuncId × FSpec) := [(51, sRMay), (68, sRInverse)]
set_option maxRecDepth 100000 in
theorem tabokAInverse : TabOK Try.prog (tabOf tabAInverse) := (.cons ok_RMay (.cons ok_RInverse .nil))
set_option maxRecDepth 100000 in
theorem ok_AInverse : FnOK Try.prog 32 sAInverse := by
  refine fn_flat (cx := mkcx tabAInverse) (c := bodyOf Try.f32) Try.func32 (by kernel_rfl) (by kernel_rfl) rfl ?_
  intro ds chk v vs hF ht he hr base
  unfold sAInverseF at hF
  split at hF
  · rename_i a
    cases hF
    have hvs : vs = [vb32 a] := by simp only [encA, encV, encP, encL, Option.some.injEq] at he; exact he.symm
    subst hvs
    obtain ⟨v0, h1, h2⟩ := treeIn_eq (okS a) (allB [decide (a = 0)]) (powL a 7237005577332262213973186563042994240857116359379907606001950938285454250987)
    exact runs_evS (mkok tabokAInverse) (n := 400) (bs0 := []) (h := Eq.trans (by kernel_rfl) h1) h2 trivial
  · cases hF
end Go.Proofs.Ytdkmcpbjicnfmaa
