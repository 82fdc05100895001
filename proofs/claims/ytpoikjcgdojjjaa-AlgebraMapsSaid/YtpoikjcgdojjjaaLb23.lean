/-
  Contracts of the document's numbers: powers.
-/
import Derived.Test.YtpoikjcgdojjjaaLb22
namespace Go.Proofs.Ytpoikjcgdojjjaa
open Go Vx Go.RowKit

noncomputable def sNOfF : List D → Option (List Bool × V)
  | [.i n] => some ([], vnm (canP n.toNat))
  | _ => none
noncomputable def sNOf : FSpec := spec [tu64] sNOfF
noncomputable abbrev tabNOf : List (FuncId × FSpec) := [(82, sNWords)]
set_option maxRecDepth 100000 in
theorem tabokNOf : TabOK Try.prog (tabOf tabNOf) := (.cons ok_NWords .nil)
set_option maxRecDepth 100000 in
theorem ok_NOf : FnOK Try.prog 71 sNOf := by
  refine fn_flat (cx := mkcx tabNOf) (c := bodyOf Try.f71) Try.func71 (by kernel_rfl) (by kernel_rfl) rfl ?_
  intro ds chk v vs hF ht he hr base
  unfold sNOfF at hF
  split at hF
  · rename_i n
    cases hF
    have hvs : vs = [vu64 n] := by simp only [encA, encV, encP, encL, Option.some.injEq] at he; exact he.symm
    subst hvs
    exact runs_ev (mkok tabokNOf) (n := 400) (bs0 := []) (by kernel_rfl) (VEnt.refl _) trivial
  · cases hF

def bitsV (x : List (List D)) : Nat := x.foldr (fun d r => (bif decide ((d.headD (.n 0)).toI = 1) then 1 else 0) + 2 * r) 0
def stW (a : Nat) (x : List (List D)) (i : Int) (c : Nat) : St := ⟨[.junk, vints x, .one (.ptr 0 0), .junk, .one (.ptr 1 0), .one (.ptr 3 0), vi64 i] ++ List.replicate 20 .junk,
  [some ⟨31, .ps [.pk .u64 32 8 a]⟩, some ⟨31, .ps (dl fun _ => 0)⟩, none, some ⟨31, .ps [.pk .u64 32 8 c]⟩]⟩
theorem pow_dbl (a e : Nat) : mulP (powP a e) (powP a e) = powP a (2 * e) := by
  rw [mulP_eq, powP_eq, powP_eq, ← Nat.mul_mod, ← Nat.pow_add]
  congr 2; omega
theorem pow_one (a e : Nat) : mulP (powP a e) a = powP a (1 + e) := by
  rw [mulP_eq, powP_eq, powP_eq, Nat.mod_mul_mod, ← Nat.pow_succ]
  congr 2; omega
theorem bits_step (a : Nat) {x : List (List D)} {j : Nat} (h : j < x.length) : powP a (bitsV (x.drop j)) =
    bif decide (((x.getD j []).headD (.n 0)).toI = 1) then mulP (mulP (powP a (bitsV (x.drop (j + 1)))) (powP a (bitsV (x.drop (j + 1))))) a else mulP (powP a (bitsV (x.drop (j + 1)))) (powP a (bitsV (x.drop (j + 1)))) := by
  rw [List.drop_eq_getElem_cons h, List.getD_eq_getElem?_getD, List.getElem?_eq_getElem h, Option.getD_some]
  have : bitsV (x[j] :: x.drop (j + 1)) = (bif decide ((x[j].headD (.n 0)).toI = 1) then 1 else 0) + 2 * bitsV (x.drop (j + 1)) := rfl
  rw [this]
  cases decide ((x[j].headD (.n 0)).toI = 1) with
  | true => simp only [cond_true]; rw [pow_dbl, pow_one]
  | false => simp only [cond_false]; rw [pow_dbl, Nat.zero_add]

noncomputable def sNPowerF : List D → Option (List Bool × V)
  | [.n a, .l x] => some ([decide (x.length < 1099511627776)], vnm (powP a (bitsV x)))
  | _ => none
noncomputable def sNPower : FSpec := spec [tnm, tints] sNPowerF
noncomputable abbrev tabNPower : List (FuncId × FSpec) := [(71, sNOf), (21, sNMul)]
set_option maxRecDepth 100000 in
theorem tabokNPower : TabOK Try.prog (tabOf tabNPower) := (.cons ok_NOf (.cons ok_NMul .nil))
set_option maxRecDepth 100000 in
theorem ok_NPower : FnOK Try.prog 129 sNPower := by
  refine fn_flat (cx := mkcs tabNPower) (c := bodyOf Try.f129) Try.func129 (by kernel_rfl) (by kernel_rfl) rfl ?_
  intro ds chk v vs hF ht he hr base
  unfold sNPowerF at hF
  split at hF
  · rename_i a x
    cases hF
    have hvs : vs = [vnm a, vints x] := by simp only [encA, encV, encP, encL, Option.some.injEq] at he; exact he.symm
    subst hvs
    have hx : x.length < 1099511627776 := of_decide_eq_true (ht _ (by simp))
    have h0 : evLS (mkcs tabNPower) 100 ((items (bodyOf Try.f129)).take 3) ⟨t0 Try.f129 [vnm a, vints x], []⟩ (kfg 0 [1, 2, 4, 5, 6] [0, 1, 3] 4) =
        chks [okK .i64 (x.length : Nat), okK .i64 ((x.length : Nat) - 1)] (.done .normal (stW a x ((x.length : Nat) - 1) (canP 1))) := by kernel_rfl
    rw [chks_true (allTc (okI (by omega) (by omega)) (allT1 (okI (by omega) (by omega))))] at h0
    refine Runs.items _ _ _ (RunsL.preS (mkoks tabokNPower) (k := 3) h0 ?_)
    refine RunsL.loop (id := 0) (by kernel_rfl) (fun m s => ∃ c, s = stW a x ((m : Int) - 1) c ∧ m ≤ x.length ∧ c = powP a (bitsV (x.drop m))) x.length ⟨_, rfl, Nat.le_refl _, ?_⟩ ?_
    · rw [List.drop_length, canP_eq, powP_eq]
      rfl
    rintro m s ⟨c, rfl, hm, hc⟩
    cases m with
    | zero =>
      refine RunsL.allS (mkoks tabokNPower) (n := 100) (kt := [1, 2, 4, 5, 6]) (kh := [0, 1, 3]) (m := 4) (e := .exit 0) (st' := stW a x (-1) c) (by kernel_rfl) ?_
      have : powP a (bitsV x) = c := by rw [hc]; rfl
      rw [this]
      exact runsL_evS (mkoks tabokNPower) (n := 100) (bs0 := []) (by kernel_rfl) (VEnt.refl _) trivial
    | succ j =>
      have hj : j < x.length := hm
      have hi : ((j + 1 : Nat) : Int) - 1 = (j : Int) := by omega
      rw [hi]
      have hev : evLS (mkcs tabNPower) 100 (items (loopAt (bodyOf Try.f129) 3)) (stW a x (j : Int) c) (kfg 0 [1, 2, 4, 5, 6] [0, 1, 3] 4) =
          chks [decide ((0 : Int) ≤ (j : Int)), decide ((j : Int) < (x.length : Int))]
            (bif decide (((x.getD (j : Int).toNat []).headD (.n 0)).toI = 1) then
              chks [okK .i64 ((j : Int) - 1)] (.done .normal (stW a x ((j : Int) - 1) (mulP (mulP c c) a)))
            else chks [okK .i64 ((j : Int) - 1)] (.done .normal (stW a x ((j : Int) - 1) (mulP c c)))) := by kernel_rfl
      have hc1 : allT [decide ((0 : Int) ≤ (j : Int)), decide ((j : Int) < (x.length : Int))] := allTc (by rw [decide_eq_true_iff]; omega) (allT1 (by rw [decide_eq_true_iff]; omega))
      have hc2 : allT [okK .i64 ((j : Int) - 1)] := allT1 (okI (by omega) (by omega))
      rw [chks_true hc1, chks_true hc2, chks_true hc2, Int.toNat_natCast] at hev
      have hstep := bits_step a hj
      cases hb : decide (((x.getD j []).headD (.n 0)).toI = 1) with
      | true =>
        rw [hb, cond_true] at hev hstep
        exact RunsL.allS (mkoks tabokNPower) hev ⟨j, Nat.lt_succ_self j, _, rfl, Nat.le_of_lt hj, by rw [hc, hstep]⟩
      | false =>
        rw [hb, cond_false] at hev hstep
        exact RunsL.allS (mkoks tabokNPower) hev ⟨j, Nat.lt_succ_self j, _, rfl, Nat.le_of_lt hj, by rw [hc, hstep]⟩
  · cases hF

def ones1 : List (List D) := onesL 255 [[.i 1], [.i 1], [.i 0], [.i 1], [.i 0]]
def ones2 : List (List D) := onesL 253 [[.i 1], [.i 1], [.i 0], [.i 1]]
def ones3 : List (List D) := onesL 252 [[.i 0]]
set_option maxRecDepth 100000 in
theorem ones1_eq (a : Nat) : powP a (bitsV ones1) = invP a := by
  have : bitsV ones1 = pP - 2 := by decide +kernel
  rw [this, invP_eq]
set_option maxRecDepth 100000 in
theorem ones2_eq : powP (canP 2) (bitsV ones2) = iP := by
  have : bitsV ones2 = shrP pP 2 := by rw [shrP_eq]; decide +kernel
  rw [this, iP_eq, canP_eq]
  congr 1
def e3 : Nat := 7237005577332262213973186563042994240829374041602535252466099000494570602494
set_option maxRecDepth 100000 in
theorem ones3_eq : bitsV ones3 = e3 := by decide +kernel

noncomputable def sNInvF : List D → Option (List Bool × V)
  | [.n a] => some ([], vnm (invP a))
  | _ => none
noncomputable def sNInv : FSpec := spec [tnm] sNInvF
noncomputable abbrev tabNInv : List (FuncId × FSpec) := [(130, sNOnes), (129, sNPower)]
set_option maxRecDepth 100000 in
theorem tabokNInv : TabOK Try.prog (tabOf tabNInv) := (.cons ok_NOnes (.cons ok_NPower .nil))
set_option maxRecDepth 100000 in
theorem ok_NInv : FnOK Try.prog 126 sNInv := by
  refine fn_flat (cx := mkcs tabNInv) (c := bodyOf Try.f126) Try.func126 (by kernel_rfl) (by kernel_rfl) rfl ?_
  intro ds chk v vs hF ht he hr base
  unfold sNInvF at hF
  split at hF
  · rename_i a
    cases hF
    have hvs : vs = [vnm a] := by simp only [encA, encV, encP, encL, Option.some.injEq] at he; exact he.symm
    subst hvs
    rw [← ones1_eq]
    exact runs_evS (mkoks tabokNInv) (n := 200) (bs0 := []) (by kernel_rfl) (VEnt.refl _) trivial
  · cases hF

noncomputable def sNIF : List D → Option (List Bool × V)
  | [] => some ([], vnm iP)
  | _ => none
noncomputable def sNI : FSpec := spec [] sNIF
noncomputable abbrev tabNI : List (FuncId × FSpec) := [(130, sNOnes), (129, sNPower), (71, sNOf)]
set_option maxRecDepth 100000 in
theorem tabokNI : TabOK Try.prog (tabOf tabNI) := (.cons ok_NOnes (.cons ok_NPower (.cons ok_NOf .nil)))
set_option maxRecDepth 100000 in
theorem ok_NI : FnOK Try.prog 88 sNI := by
  refine fn_flat (cx := mkcs tabNI) (c := bodyOf Try.f88) Try.func88 (by kernel_rfl) (by kernel_rfl) rfl ?_
  intro ds chk v vs hF ht he hr base
  unfold sNIF at hF
  split at hF
  · cases hF
    have hvs : vs = [] := by simp only [encA, Option.some.injEq] at he; exact he.symm
    subst hvs
    rw [← ones2_eq]
    exact runs_evS (mkoks tabokNI) (n := 200) (bs0 := []) (by kernel_rfl) (VEnt.refl _) trivial
  · cases hF
end Go.Proofs.Ytpoikjcgdojjjaa
