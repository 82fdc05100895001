/-
  Contracts of the document's numbers: ones.
-/
import Derived.Test.YteohgdpkdbckoaaL3
import Derived.Test.YteohgdpkdbckoaaM3
import Derived.Test.YteohgdpkdbckoaaLb19
import Derived.Test.YteohgdpkdbckoaaM2
namespace Go.Proofs.Yteohgdpkdbckoaa
open Go Vx Go.RowKit

abbrev tints : Ty := .one (.sl [.int .i64])
abbrev vints (x : List (List D)) : V := .one (.rd [.int .i64] x)
def onesL (n : Int) (x : List (List D)) : List (List D) := x ++ List.replicate (n.toNat - x.length) [.i 1]
def stO (n : Int) (y : List (List D)) (k : Nat) : St := ⟨[vi64 n, .junk, .junk, .junk, .junk, .one (.row 0 1 0 k k)] ++ List.replicate 11 .junk, [some ⟨3, .row [.int .i64] y⟩]⟩

noncomputable def sNOnesF : Nat → List D → Option (List Bool × V × List Blk)
  | base, [.i n, .l x] => some ([decide (x.length < 1099511627776), decide (n < 1099511627776)], .one (.row base 1 0 (onesL n x).length (onesL n x).length), [⟨3, .row [.int .i64] (onesL n x)⟩])
  | _, _ => none
noncomputable def sNOnes : FSpec := specB [ti64, tints] sNOnesF
noncomputable abbrev tabNOnes : List (FuncId × FSpec) := []
set_option maxRecDepth 100000 in
theorem tabokNOnes : TabOK Try.prog (tabOf tabNOnes) := TabOK.nil
set_option maxRecDepth 100000 in
theorem ok_NOnes : FnOK Try.prog 90 sNOnes := by
  refine fn_blk (cx := mkcs tabNOnes) (c := bodyOf Try.f90) Try.func90 (by kernel_rfl) (by kernel_rfl) ?_
  intro base ds chk v bs vs hF ht he hr
  unfold sNOnesF at hF
  split at hF
  · rename_i n x
    cases hF
    have hvs : vs = [vi64 n, vints x] := by simp only [encA, encV, encP, encL, Option.some.injEq] at he; exact he.symm
    subst hvs
    have hx : x.length < 1099511627776 := of_decide_eq_true (ht _ (by simp))
    have hn : n < 1099511627776 := of_decide_eq_true (ht (decide (n < 1099511627776)) (by simp))
    have h0 : evLS (mkcs tabNOnes) 100 ((items (bodyOf Try.f90)).take 2) ⟨t0 Try.f90 [vi64 n, vints x], []⟩ (kfgM [0, 5] [1] 2 [(1, 0)] 1) =
        chks [decide ((0 + x.length) * 8 ≤ 140737488355328), decide (0 + x.length < 4611686018427387904)] (.done .normal (stO n x (0 + x.length))) := by kernel_rfl
    rw [chks_true (allTc (by rw [decide_eq_true_iff]; omega) (allT1 (by rw [decide_eq_true_iff]; omega)))] at h0
    rw [Nat.zero_add] at h0
    refine Runs.items _ _ _ (RunsL.preM (mkoks tabokNOnes) rfl (k := 2) h0 ?_)
    refine RunsL.loop (id := 0) (by kernel_rfl) (fun m s => ∃ y, s = stO n y y.length ∧ m = n.toNat - y.length ∧ onesL n y = onesL n x ∧ y.length < 2199023255552) (n.toNat - x.length) ⟨x, rfl, rfl, rfl, by omega⟩ ?_
    rintro m s ⟨y, rfl, hm, hy, hyl⟩
    have hevN : ∀ k, evLS (mkcs tabNOnes) 100 (items (loopAt (bodyOf Try.f90) 2)) (stO n y k) (kfgM [0, 5] [2] 3 [(2, 0)] 1) =
        chks [okK .i64 (k : Nat)] (bif decide (((k : Nat) : Int) < n) then
          chks [decide (k ≤ y.length), decide (k ≤ k), decide ((k + 1) * 8 ≤ 140737488355328), decide (k + 1 < 4611686018427387904)] (.done .normal (stO n (y.take k ++ [[.i 1]]) (k + 1)))
          else .fail 11) := by intro k; kernel_rfl
    have hevE : ∀ k, evLS (mkcs tabNOnes) 100 (items (loopAt (bodyOf Try.f90) 2)) (stO n y k) (kfg 0 [0, 5] [0] 1) =
        chks [okK .i64 (k : Nat)] (bif decide (((k : Nat) : Int) < n) then
          chks [decide (k ≤ y.length), decide (k ≤ k), decide ((k + 1) * 8 ≤ 140737488355328), decide (k + 1 < 4611686018427387904)] (.fail 11)
          else .done (.exit 0) (stO n y k)) := by intro k; kernel_rfl
    have h1 := hevN y.length
    have h2 := hevE y.length
    clear hevN hevE
    have hk : allT [okK .i64 (y.length : Nat)] := allT1 (okI (by omega) (by omega))
    rw [chks_true hk] at h1 h2
    cases hb : decide (((y.length : Nat) : Int) < n) with
    | true =>
      rw [hb] at h1
      have hlt : ((y.length : Nat) : Int) < n := of_decide_eq_true hb
      rw [cond_true, chks_true (allTc (by simp) (allTc (by simp) (allTc (by rw [decide_eq_true_iff]; omega) (allT1 (by rw [decide_eq_true_iff]; omega))))), List.take_length] at h1
      refine RunsL.allM (mkoks tabokNOnes) rfl h1 ⟨m - 1, by omega, y ++ [[.i 1]], by rw [List.length_append]; rfl, by rw [List.length_append]; simp only [List.length_cons, List.length_nil]; omega, ?_, by rw [List.length_append]; simp only [List.length_cons, List.length_nil]; omega⟩
      rw [← hy]
      unfold onesL
      rw [List.length_append, List.append_assoc]
      congr 1
      have : n.toNat - y.length = (n.toNat - (y.length + 1)) + 1 := by omega
      rw [this, List.replicate_succ]
      rfl
    | false =>
      rw [hb, cond_false] at h2
      have hge : ¬ ((y.length : Nat) : Int) < n := of_decide_eq_false hb
      refine RunsL.allS (mkoks tabokNOnes) h2 ?_
      have hyy : onesL n x = y := by
        rw [← hy]
        unfold onesL
        have : n.toNat - y.length = 0 := by omega
        rw [this, List.replicate_zero, List.append_nil]
      rw [hyy]
      exact runsL_evS (mkoks tabokNOnes) (n := 100) (bs0 := [⟨3, .row [.int .i64] y⟩]) (by kernel_rfl) (VEnt.refl _) ⟨rfl, CEnt.refl _, fun ts h => ⟨ts, h⟩⟩
  · cases hF
end Go.Proofs.Yteohgdpkdbckoaa

/-
  Contracts of the document's numbers: powers.
-/
namespace Go.Proofs.Yteohgdpkdbckoaa
open Go Vx Go.RowKit

noncomputable def sNOfF : List D → Option (List Bool × V)
  | [.i n] => some ([], vnm (canP n.toNat))
  | _ => none
noncomputable def sNOf : FSpec := spec [tu64] sNOfF
noncomputable abbrev tabNOf : List (FuncId × FSpec) := [(76, sNWords)]
set_option maxRecDepth 100000 in
theorem tabokNOf : TabOK Try.prog (tabOf tabNOf) := (.cons ok_NWords .nil)
set_option maxRecDepth 100000 in
theorem ok_NOf : FnOK Try.prog 44 sNOf := by
  refine fn_flat (cx := mkcx tabNOf) (c := bodyOf Try.f44) Try.func44 (by kernel_rfl) (by kernel_rfl) rfl ?_
  intro ds chk v vs hF ht he hr base
  unfold sNOfF at hF
  split at hF
  · rename_i n
    cases hF
    have hvs : vs = [vu64 n] := by simp only [encA, encV, encP, encL, Option.some.injEq] at he; exact he.symm
    subst hvs
    exact runs_evS (mkok tabokNOf) (n := 400) (bs0 := []) (by kernel_rfl) (VEnt.refl _) trivial
  · cases hF

def bitsV (x : List (List D)) : Nat := x.foldr (fun d r => (bif decide ((d.headD (.n 0)).toI = 1) then 1 else 0) + 2 * r) 0
def stW (a : Nat) (x : List (List D)) (i : Int) (c : Nat) : St := ⟨[.junk, vints x, .one (.ptr 0 0), .junk, .one (.ptr 1 0), .one (.ptr 3 0), vi64 i] ++ List.replicate 20 .junk,
  [some ⟨62, .ps [.pk .u64 32 8 a]⟩, some ⟨62, .ps (dl fun _ => 0)⟩, none, some ⟨62, .ps [.pk .u64 32 8 c]⟩]⟩
theorem pow_dbl (a e : Nat) : mulP (powP a e) (powP a e) = powP a (2 * e) := by
  rw [mulP_eq, powP_eq, powP_eq, ← Nat.mul_mod, ← Nat.pow_add]
  congr 2; omega
theorem pow_one (a e : Nat) : mulP (powP a e) a = powP a (1 + e) := by
  rw [mulP_eq, powP_eq, powP_eq, Nat.mod_mul_mod, ← Nat.pow_succ]
  congr 2; omega
theorem bits_step (a : Nat) {x : List (List D)} {j : Nat} (h : j < x.length) : powP a (bitsV (x.drop j)) =
    bif decide (((x.getD j []).headD (.n 0)).toI = 1) then mulP (mulP (powP a (bitsV (x.drop (j + 1)))) (powP a (bitsV (x.drop (j + 1))))) a else mulP (powP a (bitsV (x.drop (j + 1)))) (powP a (bitsV (x.drop (j + 1)))) := by
  rw [List.drop_eq_getElem_cons h, List.getD_eq_getElem?_getD, List.getElem?_eq_getElem h, Option.getD_some]
  have : bitsV (x[j] :: x.drop (j + 1)) = (bif decide ((x[j].headD (.n 0)).toI = 1) then 1 else 0) + 2 * bitsV (x.drop (j + 1)) := rfl
  rw [this]
  cases decide ((x[j].headD (.n 0)).toI = 1) with
  | true => simp only [cond_true]; rw [pow_dbl, pow_one]
  | false => simp only [cond_false]; rw [pow_dbl, Nat.zero_add]

noncomputable def sNPowerF : List D → Option (List Bool × V)
  | [.n a, .l x] => some ([decide (x.length < 1099511627776)], vnm (powP a (bitsV x)))
  | _ => none
noncomputable def sNPower : FSpec := spec [tnm, tints] sNPowerF
noncomputable abbrev tabNPower : List (FuncId × FSpec) := [(44, sNOf), (45, sNMul)]
set_option maxRecDepth 100000 in
theorem tabokNPower : TabOK Try.prog (tabOf tabNPower) := (.cons ok_NOf (.cons ok_NMul .nil))
set_option maxRecDepth 100000 in
theorem ok_NPower : FnOK Try.prog 89 sNPower := by
  refine fn_flat (cx := mkcs tabNPower) (c := bodyOf Try.f89) Try.func89 (by kernel_rfl) (by kernel_rfl) rfl ?_
  intro ds chk v vs hF ht he hr base
  unfold sNPowerF at hF
  split at hF
  · rename_i a x
    cases hF
    have hvs : vs = [vnm a, vints x] := by simp only [encA, encV, encP, encL, Option.some.injEq] at he; exact he.symm
    subst hvs
    have hx : x.length < 1099511627776 := of_decide_eq_true (ht _ (by simp))
    have h0 : evLS (mkcs tabNPower) 100 ((items (bodyOf Try.f89)).take 3) ⟨t0 Try.f89 [vnm a, vints x], []⟩ (kfg 0 [1, 2, 4, 5, 6] [0, 1, 3] 4) =
        chks [okK .i64 (x.length : Nat), okK .i64 ((x.length : Nat) - 1)] (.done .normal (stW a x ((x.length : Nat) - 1) (canP 1))) := by kernel_rfl
    rw [chks_true (allTc (okI (by omega) (by omega)) (allT1 (okI (by omega) (by omega))))] at h0
    refine Runs.items _ _ _ (RunsL.preS (mkoks tabokNPower) (k := 3) h0 ?_)
    refine RunsL.loop (id := 0) (by kernel_rfl) (fun m s => ∃ c, s = stW a x ((m : Int) - 1) c ∧ m ≤ x.length ∧ c = powP a (bitsV (x.drop m))) x.length ⟨_, rfl, Nat.le_refl _, ?_⟩ ?_
    · rw [List.drop_length, canP_eq, powP_eq]
      rfl
    rintro m s ⟨c, rfl, hm, hc⟩
    cases m with
    | zero =>
      refine RunsL.allS (mkoks tabokNPower) (n := 100) (kt := [1, 2, 4, 5, 6]) (kh := [0, 1, 3]) (m := 4) (e := .exit 0) (st' := stW a x (-1) c) (by kernel_rfl) ?_
      have : powP a (bitsV x) = c := by rw [hc]; rfl
      rw [this]
      exact runsL_evS (mkoks tabokNPower) (n := 100) (bs0 := []) (by kernel_rfl) (VEnt.refl _) trivial
    | succ j =>
      have hj : j < x.length := hm
      have hi : ((j + 1 : Nat) : Int) - 1 = (j : Int) := by omega
      rw [hi]
      have hev : evLS (mkcs tabNPower) 100 (items (loopAt (bodyOf Try.f89) 3)) (stW a x (j : Int) c) (kfg 0 [1, 2, 4, 5, 6] [0, 1, 3] 4) =
          chks [decide ((0 : Int) ≤ (j : Int)), decide ((j : Int) < (x.length : Int))]
            (bif decide (((x.getD (j : Int).toNat []).headD (.n 0)).toI = 1) then
              chks [okK .i64 ((j : Int) - 1)] (.done .normal (stW a x ((j : Int) - 1) (mulP (mulP c c) a)))
            else chks [okK .i64 ((j : Int) - 1)] (.done .normal (stW a x ((j : Int) - 1) (mulP c c)))) := by kernel_rfl
      have hc1 : allT [decide ((0 : Int) ≤ (j : Int)), decide ((j : Int) < (x.length : Int))] := allTc (by rw [decide_eq_true_iff]; omega) (allT1 (by rw [decide_eq_true_iff]; omega))
      have hc2 : allT [okK .i64 ((j : Int) - 1)] := allT1 (okI (by omega) (by omega))
      rw [chks_true hc1, chks_true hc2, chks_true hc2, Int.toNat_natCast] at hev
      have hstep := bits_step a hj
      cases hb : decide (((x.getD j []).headD (.n 0)).toI = 1) with
      | true =>
        rw [hb, cond_true] at hev hstep
        exact RunsL.allS (mkoks tabokNPower) hev ⟨j, Nat.lt_succ_self j, _, rfl, Nat.le_of_lt hj, by rw [hc, hstep]⟩
      | false =>
        rw [hb, cond_false] at hev hstep
        exact RunsL.allS (mkoks tabokNPower) hev ⟨j, Nat.lt_succ_self j, _, rfl, Nat.le_of_lt hj, by rw [hc, hstep]⟩
  · cases hF

def ones1 : List (List D) := onesL 255 [[.i 1], [.i 1], [.i 0], [.i 1], [.i 0]]
def ones2 : List (List D) := onesL 253 [[.i 1], [.i 1], [.i 0], [.i 1]]
def ones3 : List (List D) := onesL 252 [[.i 0]]
set_option maxRecDepth 100000 in
theorem ones1_eq (a : Nat) : powP a (bitsV ones1) = invP a := by
  have : bitsV ones1 = pP - 2 := by decide +kernel
  rw [this, invP_eq]
set_option maxRecDepth 100000 in
theorem ones2_eq : powP (canP 2) (bitsV ones2) = iP := by
  have : bitsV ones2 = shrP pP 2 := by rw [shrP_eq]; decide +kernel
  rw [this, iP_eq, canP_eq]
  congr 1
def e3 : Nat := 7237005577332262213973186563042994240829374041602535252466099000494570602494
set_option maxRecDepth 100000 in
theorem ones3_eq : bitsV ones3 = e3 := by decide +kernel

noncomputable def sNInvF : List D → Option (List Bool × V)
  | [.n a] => some ([], vnm (invP a))
  | _ => none
noncomputable def sNInv : FSpec := spec [tnm] sNInvF
noncomputable abbrev tabNInv : List (FuncId × FSpec) := [(90, sNOnes), (89, sNPower)]
set_option maxRecDepth 100000 in
theorem tabokNInv : TabOK Try.prog (tabOf tabNInv) := (.cons ok_NOnes (.cons ok_NPower .nil))
set_option maxRecDepth 100000 in
theorem ok_NInv : FnOK Try.prog 78 sNInv := by
  refine fn_flat (cx := mkcs tabNInv) (c := bodyOf Try.f78) Try.func78 (by kernel_rfl) (by kernel_rfl) rfl ?_
  intro ds chk v vs hF ht he hr base
  unfold sNInvF at hF
  split at hF
  · rename_i a
    cases hF
    have hvs : vs = [vnm a] := by simp only [encA, encV, encP, encL, Option.some.injEq] at he; exact he.symm
    subst hvs
    rw [← ones1_eq]
    exact runs_evS (mkoks tabokNInv) (n := 200) (bs0 := []) (by kernel_rfl) (VEnt.refl _) trivial
  · cases hF

noncomputable def sNIF : List D → Option (List Bool × V)
  | [] => some ([], vnm iP)
  | _ => none
noncomputable def sNI : FSpec := spec [] sNIF
noncomputable abbrev tabNI : List (FuncId × FSpec) := [(90, sNOnes), (89, sNPower), (44, sNOf)]
set_option maxRecDepth 100000 in
theorem tabokNI : TabOK Try.prog (tabOf tabNI) := (.cons ok_NOnes (.cons ok_NPower (.cons ok_NOf .nil)))
set_option maxRecDepth 100000 in
theorem ok_NI : FnOK Try.prog 80 sNI := by
  refine fn_flat (cx := mkcs tabNI) (c := bodyOf Try.f80) Try.func80 (by kernel_rfl) (by kernel_rfl) rfl ?_
  intro ds chk v vs hF ht he hr base
  unfold sNIF at hF
  split at hF
  · cases hF
    have hvs : vs = [] := by simp only [encA, Option.some.injEq] at he; exact he.symm
    subst hvs
    rw [← ones2_eq]
    exact runs_evS (mkoks tabokNI) (n := 200) (bs0 := []) (by kernel_rfl) (VEnt.refl _) trivial
  · cases hF
end Go.Proofs.Yteohgdpkdbckoaa

/-
  Contracts of the document's numbers: sums, opposites, signs, bytes.
-/
namespace Go.Proofs.Yteohgdpkdbckoaa
open Go Vx Go.RowKit

theorem rng_nm {n : Nat} (h : rngV (vnm n)) : n < 115792089237316195423570985008687907853269984665640564039457584007913129639936 := by
  have : n < 2 ^ (32 * 8) := h.1
  exact this
theorem dg_sum {n : Nat} (h : n < 115792089237316195423570985008687907853269984665640564039457584007913129639936) : psum (dg n) 8 = (n : Int) := by
  have : psum (dg n) 8 = ((n % 2 ^ (32 * 8) : Nat) : Int) := psum_digits n 8
  rw [this, show (2 : Nat) ^ (32 * 8) = 115792089237316195423570985008687907853269984665640564039457584007913129639936 from by decide +kernel, Nat.mod_eq_of_lt h]
def adD (a b : Nat) (i : Nat) : Int := wrapK .u64 (dg a i + dg b i)
theorem adD_eq (a b i : Nat) : adD a b i = dg a i + dg b i := by
  have h1 := dg_rng a i
  have h2 := dg_rng b i
  simp only [adD, wrapK]; omega
theorem add_end {a b : Nat} (ha : a < 115792089237316195423570985008687907853269984665640564039457584007913129639936) (hb : b < 115792089237316195423570985008687907853269984665640564039457584007913129639936) : redI (psum (adD a b) 8) = addP a b := by
  have hs : ∀ m, psum (adD a b) m = psum (dg a) m + psum (dg b) m := by
    intro m
    induction m with
    | zero => simp [psum]
    | succ m ih =>
      have e1 : psum (adD a b) (m + 1) = psum (adD a b) m + adD a b m * 2 ^ (32 * m) := rfl
      have e2 : psum (dg a) (m + 1) = psum (dg a) m + dg a m * 2 ^ (32 * m) := rfl
      have e3 : psum (dg b) (m + 1) = psum (dg b) m + dg b m * 2 ^ (32 * m) := rfl
      rw [e1, e2, e3, ih, adD_eq, Int.add_mul]; omega
  rw [hs, dg_sum ha, dg_sum hb, redI_eq, addP_eq]
  unfold pP
  clear hs
  omega

def ngP (i : Nat) : Int := 4294967296 + primeD i
def ngB (a : Nat) : Nat → Int
  | 0 => 0
  | i + 1 => wrapK .u64 (1 - wrapK .u64 (wrapK .u64 (ngP i - dg a i) - ngB a i) / 4294967296)
def ngO (a : Nat) (i : Nat) : Int := wrapK .u64 (wrapK .u64 (ngP i - dg a i) - ngB a i) % 4294967296
theorem ng_borrow (a : Nat) : ∀ i, 0 ≤ ngB a i ∧ ngB a i ≤ 1 ∧ psum (ngO a) i + psum (dg a) i = psum primeD i + ngB a i * 2 ^ (32 * i)
  | 0 => by simp [ngB, psum]
  | i + 1 => by
    obtain ⟨h1, h2, h3⟩ := ng_borrow a i
    obtain ⟨h4, h5⟩ := dg_rng a i
    obtain ⟨h6, h7⟩ := primeD_rng i
    have hw : wrapK .u64 (wrapK .u64 (ngP i - dg a i) - ngB a i) = 4294967296 + primeD i - dg a i - ngB a i := by
      simp only [wrapK, ngP]; omega
    have ho : ngO a i = (4294967296 + primeD i - dg a i - ngB a i) % 4294967296 := by rw [ngO, hw]
    have hb : ngB a (i + 1) = 1 - (4294967296 + primeD i - dg a i - ngB a i) / 4294967296 := by
      rw [ngB, hw]
      simp only [wrapK]; omega
    refine ⟨by rw [hb]; omega, by rw [hb]; omega, ?_⟩
    have hs : ngO a i + dg a i + ngB a i = primeD i + ngB a (i + 1) * 4294967296 := by rw [ho, hb]; omega
    have hp : (2 : Int) ^ (32 * (i + 1)) = 4294967296 * 2 ^ (32 * i) := by
      rw [Nat.mul_succ, Int.pow_add, Int.mul_comm]; rfl
    rw [psum, psum.eq_def (dg a), psum.eq_def primeD, hp]
    simp only []
    generalize (2 : Int) ^ (32 * i) = P at *
    have : ngO a i * P + dg a i * P + ngB a i * P = primeD i * P + ngB a (i + 1) * (4294967296 * P) := by
      rw [← Int.mul_assoc, ← Int.add_mul, ← Int.add_mul, ← Int.add_mul, hs]
    omega
theorem ngO_rng (a i : Nat) : 0 ≤ ngO a i ∧ ngO a i < 4294967296 := ⟨Int.emod_nonneg _ (by decide), Int.emod_lt_of_pos _ (by decide)⟩
noncomputable def negN : Nat → Nat := hidden' fun a => if a ≤ pP then (pP - a) % pP else (pP + 115792089237316195423570985008687907853269984665640564039457584007913129639936 - a) % pP
theorem negN_eq (a : Nat) : negN a = if a ≤ pP then (pP - a) % pP else (pP + 115792089237316195423570985008687907853269984665640564039457584007913129639936 - a) % pP := by unfold negN; rw [seal_eq]
theorem neg_end {a : Nat} (ha : a < 115792089237316195423570985008687907853269984665640564039457584007913129639936) : redI (psum (ngO a) 8) = negN a := by
  obtain ⟨h1, h2, h3⟩ := ng_borrow a 8
  obtain ⟨h4, h5⟩ := psum_rng (d := ngO a) 8 (fun i _ => ngO_rng a i)
  rw [dg_sum ha, primeD_sum, show (2 : Int) ^ (32 * 8) = 115792089237316195423570985008687907853269984665640564039457584007913129639936 from by decide +kernel] at h3
  rw [show (2 : Int) ^ (32 * 8) = 115792089237316195423570985008687907853269984665640564039457584007913129639936 from by decide +kernel] at h5
  rw [redI_eq, negN_eq]
  unfold pP
  generalize psum (ngO a) 8 = s at *
  generalize ngB a 8 = t at *
  have ht : t = 0 ∨ t = 1 := by omega
  split
  · rcases ht with rfl | rfl <;> omega
  · rcases ht with rfl | rfl <;> omega
noncomputable def oddN : Nat → Bool := hidden' fun a => decide (a % 2 = 1)
theorem oddN_eq (a : Nat) : oddN a = decide (a % 2 = 1) := by unfold oddN; rw [seal_eq]
noncomputable def absN (a : Nat) : Nat := bif oddN a then negN a else a

noncomputable def sNAddF : List D → Option (List Bool × V)
  | [.n a, .n b] => some ([], vnm (addP a b))
  | _ => none
noncomputable def sNAdd : FSpec := spec [tnm, tnm] sNAddF
noncomputable abbrev tabNAdd : List (FuncId × FSpec) := [(74, sNReduce)]
set_option maxRecDepth 100000 in
theorem tabokNAdd : TabOK Try.prog (tabOf tabNAdd) := (.cons ok_NReduce .nil)
set_option maxRecDepth 100000 in
theorem ok_NAdd : FnOK Try.prog 47 sNAdd := by
  refine fn_flat (cx := mkcx tabNAdd) (c := bodyOf Try.f47) Try.func47 (by kernel_rfl) (by kernel_rfl) rfl ?_
  intro ds chk v vs hF ht he hr base
  unfold sNAddF at hF
  split at hF
  · rename_i a b
    cases hF
    have hvs : vs = [vnm a, vnm b] := by simp only [encA, encV, encP, encL, Option.some.injEq] at he; exact he.symm
    subst hvs
    obtain ⟨h1, h2, _⟩ := hr
    have hck : allT [lt40 (adD a b 0), lt40 (adD a b 1), lt40 (adD a b 2), lt40 (adD a b 3), lt40 (adD a b 4), lt40 (adD a b 5), lt40 (adD a b 6), lt40 (adD a b 7)] := by
      have q : ∀ i, lt40 (adD a b i) = true := fun i => by rw [lt40_eq, decide_eq_true_iff]; have h1 := dg_rng a i; have h2 := dg_rng b i; rw [adD_eq]; omega
      exact allTc (q 0) (allTc (q 1) (allTc (q 2) (allTc (q 3) (allTc (q 4) (allTc (q 5) (allTc (q 6) (allT1 (q 7))))))))
    rw [← add_end (rng_nm h1) (rng_nm h2), ← sum8_fn]
    exact runs_evS (mkok tabokNAdd) (n := 200) (bs0 := []) (h := Eq.trans (b := chks [lt40 (adD a b 0), lt40 (adD a b 1), lt40 (adD a b 2), lt40 (adD a b 3), lt40 (adD a b 4), lt40 (adD a b 5), lt40 (adD a b 6), lt40 (adD a b 7)] (outV (vnm (redI (sum8 (adD a b 0) (adD a b 1) (adD a b 2) (adD a b 3) (adD a b 4) (adD a b 5) (adD a b 6) (adD a b 7)))))) (by kernel_rfl) (chks_true hck)) (VEnt.refl _) trivial
  · cases hF

noncomputable def sNNegF : List D → Option (List Bool × V)
  | [.n a] => some ([], vnm (negN a))
  | _ => none
noncomputable def sNNeg : FSpec := spec [tnm] sNNegF
noncomputable abbrev tabNNeg : List (FuncId × FSpec) := [(74, sNReduce), (77, sNPrime)]
set_option maxRecDepth 100000 in
theorem tabokNNeg : TabOK Try.prog (tabOf tabNNeg) := (.cons ok_NReduce (.cons ok_NPrime .nil))
set_option maxRecDepth 100000 in
theorem ok_NNeg : FnOK Try.prog 48 sNNeg := by
  refine fn_flat (cx := mkcx tabNNeg) (c := bodyOf Try.f48) Try.func48 (by kernel_rfl) (by kernel_rfl) rfl ?_
  intro ds chk v vs hF ht he hr base
  unfold sNNegF at hF
  split at hF
  · rename_i a
    cases hF
    have hvs : vs = [vnm a] := by simp only [encA, encV, encP, encL, Option.some.injEq] at he; exact he.symm
    subst hvs
    obtain ⟨h1, _⟩ := hr
    have hck : allT [lt40 (ngO a 0), lt40 (ngO a 1), lt40 (ngO a 2), lt40 (ngO a 3), lt40 (ngO a 4), lt40 (ngO a 5), lt40 (ngO a 6), lt40 (ngO a 7)] := by
      have q : ∀ i, lt40 (ngO a i) = true := fun i => by rw [lt40_eq, decide_eq_true_iff]; have h1 := ngO_rng a i; omega
      exact allTc (q 0) (allTc (q 1) (allTc (q 2) (allTc (q 3) (allTc (q 4) (allTc (q 5) (allTc (q 6) (allT1 (q 7))))))))
    rw [← neg_end (rng_nm h1), ← sum8_fn]
    exact runs_evS (mkok tabokNNeg) (n := 200) (bs0 := []) (h := Eq.trans (b := chks [lt40 (ngO a 0), lt40 (ngO a 1), lt40 (ngO a 2), lt40 (ngO a 3), lt40 (ngO a 4), lt40 (ngO a 5), lt40 (ngO a 6), lt40 (ngO a 7)] (outV (vnm (redI (sum8 (ngO a 0) (ngO a 1) (ngO a 2) (ngO a 3) (ngO a 4) (ngO a 5) (ngO a 6) (ngO a 7)))))) (by kernel_rfl) (chks_true hck)) (VEnt.refl _) trivial
  · cases hF

noncomputable def sNSubF : List D → Option (List Bool × V)
  | [.n a, .n b] => some ([], vnm (addP a (negN b)))
  | _ => none
noncomputable def sNSub : FSpec := spec [tnm, tnm] sNSubF
noncomputable abbrev tabNSub : List (FuncId × FSpec) := [(47, sNAdd), (48, sNNeg)]
set_option maxRecDepth 100000 in
theorem tabokNSub : TabOK Try.prog (tabOf tabNSub) := (.cons ok_NAdd (.cons ok_NNeg .nil))
set_option maxRecDepth 100000 in
theorem ok_NSub : FnOK Try.prog 46 sNSub := by
  refine fn_flat (cx := mkcx tabNSub) (c := bodyOf Try.f46) Try.func46 (by kernel_rfl) (by kernel_rfl) rfl ?_
  intro ds chk v vs hF ht he hr base
  unfold sNSubF at hF
  split at hF
  · rename_i a b
    cases hF
    have hvs : vs = [vnm a, vnm b] := by simp only [encA, encV, encP, encL, Option.some.injEq] at he; exact he.symm
    subst hvs
    exact runs_evS (mkok tabokNSub) (n := 400) (bs0 := []) (by kernel_rfl) (VEnt.refl _) trivial
  · cases hF

theorem odd_dg (a : Nat) : decide ((((digit 32 a 0 : Nat) : Int)) % 2 = 1) = oddN a := by
  rw [oddN_eq]
  refine decide_eq_decide.2 ?_
  unfold digit
  rw [Nat.mul_zero, Nat.pow_zero, Nat.div_one]
  have : (2 : Nat) ^ 32 = 4294967296 := by decide
  rw [this]
  omega

noncomputable def sNOddF : List D → Option (List Bool × V)
  | [.n a] => some ([], vbool' (oddN a))
  | _ => none
noncomputable def sNOdd : FSpec := spec [tnm] sNOddF
noncomputable abbrev tabNOdd : List (FuncId × FSpec) := []
set_option maxRecDepth 100000 in
theorem tabokNOdd : TabOK Try.prog (tabOf tabNOdd) := TabOK.nil
set_option maxRecDepth 100000 in
theorem ok_NOdd : FnOK Try.prog 43 sNOdd := by
  refine fn_flat (cx := mkcx tabNOdd) (c := bodyOf Try.f43) Try.func43 (by kernel_rfl) (by kernel_rfl) rfl ?_
  intro ds chk v vs hF ht he hr base
  unfold sNOddF at hF
  split at hF
  · rename_i a
    cases hF
    have hvs : vs = [vnm a] := by simp only [encA, encV, encP, encL, Option.some.injEq] at he; exact he.symm
    subst hvs
    rw [← odd_dg]
    exact runs_evS (mkok tabokNOdd) (n := 200) (bs0 := []) (by kernel_rfl) (VEnt.refl _) trivial
  · cases hF

def treeAbsN (b : Bool) (x y : Nat) : Out := bif b then outV (vnm x) else outV (vnm y)
theorem treeAbsN_eq (b : Bool) (x y : Nat) : treeAbsN b x y = outV (vnm (bif b then x else y)) := by cases b <;> rfl

noncomputable def sNAbsF : List D → Option (List Bool × V)
  | [.n a] => some ([], vnm (absN a))
  | _ => none
noncomputable def sNAbs : FSpec := spec [tnm] sNAbsF
noncomputable abbrev tabNAbs : List (FuncId × FSpec) := [(43, sNOdd), (48, sNNeg)]
set_option maxRecDepth 100000 in
theorem tabokNAbs : TabOK Try.prog (tabOf tabNAbs) := (.cons ok_NOdd (.cons ok_NNeg .nil))
set_option maxRecDepth 100000 in
theorem ok_NAbs : FnOK Try.prog 51 sNAbs := by
  refine fn_flat (cx := mkcx tabNAbs) (c := bodyOf Try.f51) Try.func51 (by kernel_rfl) (by kernel_rfl) rfl ?_
  intro ds chk v vs hF ht he hr base
  unfold sNAbsF at hF
  split at hF
  · rename_i a
    cases hF
    have hvs : vs = [vnm a] := by simp only [encA, encV, encP, encL, Option.some.injEq] at he; exact he.symm
    subst hvs
    exact runs_evS (mkok tabokNAbs) (n := 200) (bs0 := []) (h := Eq.trans (b := treeAbsN (oddN a) (negN a) a) (by kernel_rfl) (treeAbsN_eq _ _ _)) (VEnt.refl _) trivial
  · cases hF

noncomputable def sNZeroF : List D → Option (List Bool × V)
  | [.n a] => some ([], vbool' (allB [decide (a = 0)]))
  | _ => none
noncomputable def sNZero : FSpec := spec [tnm] sNZeroF
noncomputable abbrev tabNZero : List (FuncId × FSpec) := []
set_option maxRecDepth 100000 in
theorem tabokNZero : TabOK Try.prog (tabOf tabNZero) := TabOK.nil
set_option maxRecDepth 100000 in
theorem ok_NZero : FnOK Try.prog 52 sNZero := by
  refine fn_flat (cx := mkcx tabNZero) (c := bodyOf Try.f52) Try.func52 (by kernel_rfl) (by kernel_rfl) rfl ?_
  intro ds chk v vs hF ht he hr base
  unfold sNZeroF at hF
  split at hF
  · rename_i a
    cases hF
    have hvs : vs = [vnm a] := by simp only [encA, encV, encP, encL, Option.some.injEq] at he; exact he.symm
    subst hvs
    exact runs_evS (mkok tabokNZero) (n := 200) (bs0 := []) (by kernel_rfl) (VEnt.refl _) trivial
  · cases hF
end Go.Proofs.Yteohgdpkdbckoaa

/-
  Contracts of the document's numbers: roots, bytes.
-/
namespace Go.Proofs.Yteohgdpkdbckoaa
open Go Vx Go.RowKit

noncomputable def rtX0 (w : Nat) : Nat := bif decide (mulP (powP w e3) (powP w e3) = w) then powP w e3 else mulP (powP w e3) iP
noncomputable def rtX : Nat → Nat := hidden' rtX0
theorem rtX_eq (w : Nat) : rtX w = rtX0 w := by unfold rtX; rw [seal_eq]
noncomputable def rtB : Nat → Bool := hidden' fun w => decide (mulP (rtX w) (rtX w) = w)
theorem rtB_eq (w : Nat) : rtB w = decide (mulP (rtX w) (rtX w) = w) := by unfold rtB; rw [seal_eq]
noncomputable def treeRt (w x : Nat) : Out :=
  bif !allB [decide (mulP x x = w)] then outV (.tup [unm (absN (mulP x iP)), ubool (allB [decide (mulP (mulP x iP) (mulP x iP) = w)])]) else outV (.tup [unm (absN x), ubool (allB [decide (mulP x x = w)])])
theorem treeRt_eq (w : Nat) : treeRt w (powP w e3) = outV (.tup [unm (absN (rtX w)), ubool (rtB w)]) := by
  rw [rtB_eq, rtX_eq]
  unfold rtX0 treeRt
  generalize powP w e3 = x
  simp only [allB]
  cases h : decide (mulP x x = w) with
  | true => simp [h]
  | false => simp

noncomputable def sNRtF : List D → Option (List Bool × V)
  | [.n w] => some ([], .tup [unm (absN (rtX w)), ubool (rtB w)])
  | _ => none
noncomputable def sNRt : FSpec := spec [tnm] sNRtF
noncomputable abbrev tabNRt : List (FuncId × FSpec) := [(89, sNPower), (90, sNOnes), (45, sNMul), (80, sNI), (51, sNAbs)]
set_option maxRecDepth 100000 in
theorem tabokNRt : TabOK Try.prog (tabOf tabNRt) := (.cons ok_NPower (.cons ok_NOnes (.cons ok_NMul (.cons ok_NI (.cons ok_NAbs .nil)))))
set_option maxRecDepth 100000 in
theorem ok_NRt : FnOK Try.prog 79 sNRt := by
  refine fn_flat (cx := mkcs tabNRt) (c := bodyOf Try.f79) Try.func79 (by kernel_rfl) (by kernel_rfl) rfl ?_
  intro ds chk v vs hF ht he hr base
  unfold sNRtF at hF
  split at hF
  · rename_i w
    cases hF
    have hvs : vs = [vnm w] := by simp only [encA, encV, encP, encL, Option.some.injEq] at he; exact he.symm
    subst hvs
    exact runs_evS (mkoks tabokNRt) (n := 200) (bs0 := []) (h := Eq.trans (b := treeRt w (powP w (bitsV ones3))) (by kernel_rfl) (by rw [ones3_eq]; exact treeRt_eq w)) (VEnt.refl _) trivial
  · cases hF

theorem by4 (n i : Nat) : (wrapK .u8 (((digit 32 n (i / 4) : Nat) : Int) / ((2 ^ (8 * (i % 4)) : Nat) : Int) % 256)).toNat = digit 8 n i := by
  simp only [wrapK]
  rw [← Int.natCast_ediv]
  have : ((digit 32 n (i / 4) / 2 ^ (8 * (i % 4)) : Nat) : Int) % 256 % 256 = ((digit 32 n (i / 4) / 2 ^ (8 * (i % 4)) % 256 : Nat) : Int) := by omega
  rw [this, Int.toNat_natCast]
  unfold digit
  have hlt : i % 4 < 4 := Nat.mod_lt _ (by decide)
  have e2 : (2 : Nat) ^ 32 = 2 ^ (8 * (i % 4)) * 2 ^ (32 - 8 * (i % 4)) := by rw [← Nat.pow_add]; congr 1; omega
  rw [e2, Nat.mod_mul_right_div_self, Nat.div_div_eq_div_mul, ← Nat.pow_add]
  have e3 : (2 : Nat) ^ (32 - 8 * (i % 4)) = 256 * 2 ^ (24 - 8 * (i % 4)) := by
    rw [show (256 : Nat) = 2 ^ 8 from rfl, ← Nat.pow_add]; congr 1; omega
  rw [e3, Nat.mod_mul_right_mod]
  congr 3
  omega

noncomputable def sNBytesF : List D → Option (List Bool × V)
  | [.n a] => some ([], vb32 a)
  | _ => none
noncomputable def sNBytes : FSpec := spec [tnm] sNBytesF
noncomputable abbrev tabNBytes : List (FuncId × FSpec) := []
set_option maxRecDepth 100000 in
theorem tabokNBytes : TabOK Try.prog (tabOf tabNBytes) := TabOK.nil

def b8 (n i : Nat) : Int := wrapK .u64 ((digit 8 n i : Nat) : Int)
def rdO (n i : Nat) : Int := wrapK .u64 (wrapK .u64 (256 * wrapK .u64 (wrapK .u64 (256 * wrapK .u64 (wrapK .u64 (256 * wrapK .u64 (0 + b8 n (4 * i + 3))) + b8 n (4 * i + 2))) + b8 n (4 * i + 1))) + b8 n (4 * i))
theorem b8_eq (n i : Nat) : b8 n i = ((digit 8 n i : Nat) : Int) ∧ 0 ≤ b8 n i ∧ b8 n i < 256 := by
  have h : digit 8 n i < 256 := Nat.mod_lt _ (by decide)
  unfold b8
  simp only [wrapK]
  omega
theorem dig4 (n i : Nat) : ((digit 32 n i : Nat) : Int) = 16777216 * (digit 8 n (4 * i + 3) : Nat) + 65536 * (digit 8 n (4 * i + 2) : Nat) + 256 * (digit 8 n (4 * i + 1) : Nat) + (digit 8 n (4 * i) : Nat) := by
  unfold digit
  have e0 : n / 2 ^ (8 * (4 * i)) = n / 2 ^ (32 * i) := by congr 2; omega
  have e1 : n / 2 ^ (8 * (4 * i + 1)) = n / 2 ^ (32 * i) / 256 := by rw [Nat.div_div_eq_div_mul, show (256 : Nat) = 2 ^ 8 from rfl, ← Nat.pow_add]; congr 2; omega
  have e2 : n / 2 ^ (8 * (4 * i + 2)) = n / 2 ^ (32 * i) / 65536 := by rw [Nat.div_div_eq_div_mul, show (65536 : Nat) = 2 ^ 16 from rfl, ← Nat.pow_add]; congr 2; omega
  have e3 : n / 2 ^ (8 * (4 * i + 3)) = n / 2 ^ (32 * i) / 16777216 := by rw [Nat.div_div_eq_div_mul, show (16777216 : Nat) = 2 ^ 24 from rfl, ← Nat.pow_add]; congr 2; omega
  rw [e0, e1, e2, e3]
  generalize n / 2 ^ (32 * i) = m
  rw [show (2 : Nat) ^ 32 = 4294967296 from by decide, show (2 : Nat) ^ 8 = 256 from by decide]
  omega
theorem rdO_eq (n i : Nat) : rdO n i = dg n i := by
  have h0 := b8_eq n (4 * i)
  have h1 := b8_eq n (4 * i + 1)
  have h2 := b8_eq n (4 * i + 2)
  have h3 := b8_eq n (4 * i + 3)
  have h4 := dig4 n i
  unfold rdO dg
  generalize b8 n (4 * i) = x0 at *
  generalize b8 n (4 * i + 1) = x1 at *
  generalize b8 n (4 * i + 2) = x2 at *
  generalize b8 n (4 * i + 3) = x3 at *
  simp only [wrapK]
  omega
theorem rd_end {n : Nat} (h : n < 115792089237316195423570985008687907853269984665640564039457584007913129639936) : psum (rdO n) 8 = (n : Int) := by
  rw [psum_congr 8 (fun i _ => rdO_eq n i)]
  exact dg_sum h
theorem rd_can (n : Nat) : redI (n : Int) = canP n := by
  rw [redI_eq, canP_eq]
  unfold pP
  omega
theorem rd_low (n : Nat) : lowI (n : Int) = lowP n := by
  rw [lowI_eq, lowP_eq]
  refine decide_eq_decide.2 ?_
  unfold pP
  omega

noncomputable def sNReadF : List D → Option (List Bool × V)
  | [.n n] => some ([], .tup [unm (canP n), ubool (lowP n)])
  | _ => none
noncomputable def sNRead : FSpec := spec [tb32] sNReadF
noncomputable abbrev tabNRead : List (FuncId × FSpec) := [(74, sNReduce), (75, sNBelow)]
set_option maxRecDepth 100000 in
theorem tabokNRead : TabOK Try.prog (tabOf tabNRead) := (.cons ok_NReduce (.cons ok_NBelow .nil))
set_option maxRecDepth 100000 in
theorem ok_NRead : FnOK Try.prog 42 sNRead := by
  refine fn_flat (cx := mkcx tabNRead) (c := bodyOf Try.f42) Try.func42 (by kernel_rfl) (by kernel_rfl) rfl ?_
  intro ds chk v vs hF ht he hr base
  unfold sNReadF at hF
  split at hF
  · rename_i n
    cases hF
    have hvs : vs = [vb32 n] := by simp only [encA, encV, encP, encL, Option.some.injEq] at he; exact he.symm
    subst hvs
    obtain ⟨h1, _⟩ := hr
    have hck : allT [lt40 (rdO n 0), lt40 (rdO n 1), lt40 (rdO n 2), lt40 (rdO n 3), lt40 (rdO n 4), lt40 (rdO n 5), lt40 (rdO n 6), lt40 (rdO n 7), lt32 (rdO n 0), lt32 (rdO n 1), lt32 (rdO n 2), lt32 (rdO n 3), lt32 (rdO n 4), lt32 (rdO n 5), lt32 (rdO n 6), lt32 (rdO n 7)] := by
      have q1 : ∀ i, lt40 (rdO n i) = true := fun i => by rw [lt40_eq, decide_eq_true_iff, rdO_eq]; have := dg_rng n i; omega
      have q2 : ∀ i, lt32 (rdO n i) = true := fun i => by rw [lt32_eq, decide_eq_true_iff, rdO_eq]; have := dg_rng n i; omega
      exact (allTc (q1 0) (allTc (q1 1) (allTc (q1 2) (allTc (q1 3) (allTc (q1 4) (allTc (q1 5) (allTc (q1 6) (allTc (q1 7) (allTc (q2 0) (allTc (q2 1) (allTc (q2 2) (allTc (q2 3) (allTc (q2 4) (allTc (q2 5) (allTc (q2 6) (allT1 (q2 7)))))))))))))))))
    rw [← rd_can, ← rd_low, ← rd_end (rng_b32 h1), ← sum8_fn]
    exact runs_evS (mkok tabokNRead) (n := 400) (bs0 := []) (h := Eq.trans (b := chks [lt40 (rdO n 0), lt40 (rdO n 1), lt40 (rdO n 2), lt40 (rdO n 3), lt40 (rdO n 4), lt40 (rdO n 5), lt40 (rdO n 6), lt40 (rdO n 7), lt32 (rdO n 0), lt32 (rdO n 1), lt32 (rdO n 2), lt32 (rdO n 3), lt32 (rdO n 4), lt32 (rdO n 5), lt32 (rdO n 6), lt32 (rdO n 7)] (outV (.tup [unm (redI (sum8 (rdO n 0) (rdO n 1) (rdO n 2) (rdO n 3) (rdO n 4) (rdO n 5) (rdO n 6) (rdO n 7))), ubool (lowI (sum8 (rdO n 0) (rdO n 1) (rdO n 2) (rdO n 3) (rdO n 4) (rdO n 5) (rdO n 6) (rdO n 7)))]))) (by kernel_rfl) (chks_true hck)) (VEnt.refl _) trivial
  · cases hF
end Go.Proofs.Yteohgdpkdbckoaa

/-
  Contracts of the document's numbers: the root of a quotient; its numbers are the program's.
-/
namespace Go.Proofs.Yteohgdpkdbckoaa
open Go Vx Go.RowKit

abbrev tqt : Ty := .ag [.pk .u64 32 8, .pk .u64 32 8, .pk .u64 32 8]
abbrev vqt (x y z : Nat) : V := .u (.ag (.ps [.pk .u64 32 8 x, .pk .u64 32 8 y, .pk .u64 32 8 z]))
abbrev uqt (x y z : Nat) : U := .ag (.ps [.pk .u64 32 8 x, .pk .u64 32 8 y, .pk .u64 32 8 z])
def unm0 : U := .ag (.ps [z0, z0, z0, z0, z0, z0, z0, z0])
theorem unm0_ent : UEnt unm0 (unm 0) := UEnt.of (ent_dl (e := fun _ => 0) (n := 0) (fun _ => ⟨by decide, by decide⟩) (by simp [psum]))
noncomputable def nr0 (u v : Nat) : Nat × Bool := bif decide (u = 0) then (0, true) else bif decide (v = 0) then (0, false) else bif rtB (mulP u (invP v)) then (absN (rtX (mulP u (invP v))), true) else (absN (rtX (mulP (mulP u (invP v)) iP)), false)
noncomputable def nrR : Nat → Nat → Nat := hidden' fun u v => (nr0 u v).1
noncomputable def nrB : Nat → Nat → Bool := hidden' fun u v => (nr0 u v).2
theorem nrR_eq (u v : Nat) : nrR u v = (nr0 u v).1 := by unfold nrR; rw [seal_eq]
theorem nrB_eq (u v : Nat) : nrB u v = (nr0 u v).2 := by unfold nrB; rw [seal_eq]
def treeNRoot (a b c : Bool) (x y : Nat) : Out := bif a then outV (.tup [unm0, ubool true]) else bif b then outV (.tup [unm0, ubool false]) else bif c then outV (.tup [unm x, ubool true]) else outV (.tup [unm y, ubool false])
def valNRoot (a b c : Bool) (x y : Nat) : V := bif a then (.tup [unm0, ubool true]) else bif b then (.tup [unm0, ubool false]) else bif c then (.tup [unm x, ubool true]) else (.tup [unm y, ubool false])
theorem treeNRoot_eq (a b c : Bool) (x y : Nat) : treeNRoot a b c x y = outV (valNRoot a b c x y) := by cases a <;> cases b <;> cases c <;> rfl
theorem nroot_ent (u v : Nat) : VEnt (valNRoot (allB [decide (u = 0)]) (allB [decide (v = 0)]) (rtB (mulP u (invP v))) (absN (rtX (mulP u (invP v)))) (absN (rtX (mulP (mulP u (invP v)) iP)))) (.tup [unm (nrR u v), ubool (nrB u v)]) := by
  rw [nrR_eq, nrB_eq]
  unfold nr0
  simp only [allB]
  generalize absN (rtX (mulP u (invP v))) = x
  generalize absN (rtX (mulP (mulP u (invP v)) iP)) = y
  generalize rtB (mulP u (invP v)) = c
  cases decide (u = 0) with
  | true => exact VEnt.tup2 unm0_ent (UEnt.refl _)
  | false =>
    cases decide (v = 0) with
    | true => exact VEnt.tup2 unm0_ent (UEnt.refl _)
    | false => cases c <;> exact VEnt.refl _

noncomputable def sNRootF : List D → Option (List Bool × V)
  | [.n u, .n v] => some ([], .tup [unm (nrR u v), ubool (nrB u v)])
  | _ => none
noncomputable def sNRoot : FSpec := spec [tnm, tnm] sNRootF
noncomputable abbrev tabNRoot : List (FuncId × FSpec) := [(52, sNZero), (45, sNMul), (78, sNInv), (79, sNRt), (80, sNI)]
set_option maxRecDepth 100000 in
theorem tabokNRoot : TabOK Try.prog (tabOf tabNRoot) := (.cons ok_NZero (.cons ok_NMul (.cons ok_NInv (.cons ok_NRt (.cons ok_NI .nil)))))
set_option maxRecDepth 100000 in
theorem ok_NRoot : FnOK Try.prog 50 sNRoot := by
  refine fn_flat (cx := mkcx tabNRoot) (c := bodyOf Try.f50) Try.func50 (by kernel_rfl) (by kernel_rfl) rfl ?_
  intro ds chk v vs hF ht he hr base
  unfold sNRootF at hF
  split at hF
  · rename_i u v
    cases hF
    have hvs : vs = [vnm u, vnm v] := by simp only [encA, encV, encP, encL, Option.some.injEq] at he; exact he.symm
    subst hvs
    exact runs_evS (mkok tabokNRoot) (n := 200) (bs0 := []) (h := Eq.trans (b := treeNRoot (allB [decide (u = 0)]) (allB [decide (v = 0)]) (rtB (mulP u (invP v))) (absN (rtX (mulP u (invP v)))) (absN (rtX (mulP (mulP u (invP v)) iP)))) (by kernel_rfl) (treeNRoot_eq _ _ _ _ _)) (nroot_ent u v) trivial
  · cases hF

theorem zero_lt : 0 < pP := by decide
theorem negN_of {a : Nat} (h : a < pP) : negN a = negP a := by
  rw [negN_eq, negP_eq, if_pos (Nat.le_of_lt h), Nat.mod_eq_of_lt h]
theorem negN_lt (a : Nat) : negN a < pP := by
  rw [negN_eq]; split <;> exact Nat.mod_lt _ (by decide)
theorem oddN_of {a : Nat} (h : a < pP) : oddN a = oddP a := by rw [oddN_eq, oddP_eq, Nat.mod_eq_of_lt h]
theorem absN_of {a : Nat} (h : a < pP) : absN a = absP a := by
  unfold absN
  rw [oddN_of h, negN_of h, absP_eq, oddP_eq, negP_eq, Nat.mod_eq_of_lt h]
  by_cases ho : a % 2 = 1
  · rw [if_pos ho, decide_eq_true ho, cond_true]
  · rw [if_neg ho, decide_eq_false ho, cond_false]
theorem subN_of {a b : Nat} (h : b < pP) : addP a (negN b) = subP a b := by rw [negN_of h, subP_add]
theorem e3_K : e3 = e3K := rfl
theorem k_rtX {w : Nat} (h : w < pP) : k (rtX w) = rx (k w) ∧ rtX w < pP := by
  rw [rtX_eq]
  unfold rtX0 rx rxE
  have h1 : k (powP w e3) = k w ^ e3K := by rw [k_pow, e3_K]
  have h2 : powP w e3 < pP := powP_lt _ _
  rw [← h1]
  generalize powP w e3 = x at *
  have hd : decide (mulP x x = w) = decide (k x * k x = k w) := by
    refine decide_eq_decide.2 ?_
    rw [← k_mul]
    exact ⟨fun e => by rw [e], fun e => k_inj (mulP_lt _ _) h e⟩
  rw [hd]
  cases decide (k x * k x = k w) with
  | true => exact ⟨rfl, h2⟩
  | false => exact ⟨by simp only [cond_false, k_mul, k_iP], mulP_lt _ _⟩
theorem k_rtB {w : Nat} (h : w < pP) : rtB w = decide (rx (k w) * rx (k w) = k w) := by
  rw [rtB_eq]
  refine decide_eq_decide.2 ?_
  rw [← (k_rtX h).1, ← k_mul]
  exact ⟨fun e => by rw [e], fun e => k_inj (mulP_lt _ _) h e⟩
theorem k_eq0 {a : Nat} (h : a < pP) : decide (a = 0) = decide (k a = 0) := by
  refine decide_eq_decide.2 ⟨fun e => by rw [e]; rfl, fun e => k_inj h (by decide) e⟩
theorem bif3 (a b c : Bool) (x y : Nat) : k (bif a then ((0 : Nat), true) else bif b then (0, false) else bif c then (x, true) else (y, false)).1 = (bif a then 0 else bif b then 0 else bif c then k x else k y) ∧
    (bif a then ((0 : Nat), true) else bif b then (0, false) else bif c then (x, true) else (y, false)).2 = (bif a then true else bif b then false else c) ∧
    (x < pP → y < pP → (bif a then ((0 : Nat), true) else bif b then (0, false) else bif c then (x, true) else (y, false)).1 < pP) := by
  cases a <;> cases b <;> cases c <;> simp only [cond_true, cond_false, k_zero] <;> exact ⟨trivial, trivial, fun h1 h2 => by first | exact zero_lt | exact h1 | exact h2⟩
theorem nr_key {u v : Nat} (hu : u < pP) (hv : v < pP) : k (nrR u v) = nR rx (k u) (k v) ∧ nrB u v = nB rx (k u) (k v) ∧ nrR u v < pP := by
  have hx : k (rtX (mulP u (invP v))) = rx (k u * kinv (k v)) := by rw [(k_rtX (mulP_lt u (invP v))).1, k_mul, k_inv]
  have hy : k (rtX (mulP (mulP u (invP v)) iP)) = rx (k u * kinv (k v) * kI) := by rw [(k_rtX (mulP_lt (mulP u (invP v)) iP)).1, k_mul, k_mul, k_inv, k_iP]
  have hb : rtB (mulP u (invP v)) = decide (rx (k u * kinv (k v)) * rx (k u * kinv (k v)) = k u * kinv (k v)) := by rw [k_rtB (mulP_lt _ _), k_mul, k_inv]
  have hx' : k (absN (rtX (mulP u (invP v)))) = (rx (k u * kinv (k v))).abs := by rw [absN_of (k_rtX (mulP_lt u (invP v))).2, k_abs, hx]
  have hy' : k (absN (rtX (mulP (mulP u (invP v)) iP))) = (rx (k u * kinv (k v) * kI)).abs := by rw [absN_of (k_rtX (mulP_lt (mulP u (invP v)) iP)).2, k_abs, hy]
  have lx : absN (rtX (mulP u (invP v))) < pP := by rw [absN_of (k_rtX (mulP_lt u (invP v))).2]; exact absP_lt _
  have ly : absN (rtX (mulP (mulP u (invP v)) iP)) < pP := by rw [absN_of (k_rtX (mulP_lt (mulP u (invP v)) iP)).2]; exact absP_lt _
  obtain ⟨b1, b2, b3⟩ := bif3 (decide (u = 0)) (decide (v = 0)) (rtB (mulP u (invP v))) (absN (rtX (mulP u (invP v)))) (absN (rtX (mulP (mulP u (invP v)) iP)))
  rw [nrR_eq, nrB_eq]
  unfold nr0
  refine ⟨b1.trans ?_, b2.trans ?_, b3 lx ly⟩
  · rw [hx', hy', hb, k_eq0 hu, k_eq0 hv]
    unfold nR
    rfl
  · rw [hb, k_eq0 hu, k_eq0 hv]
    unfold nB
    rfl
theorem nroot_eq {u v : Nat} (hu : u < pP) (hv : v < pP) : nrR u v = rootR u v ∧ nrB u v = rootB u v := by
  obtain ⟨h2, h3⟩ := root_is u v
  obtain ⟨h4, h5⟩ := (nroot_is rx_sq (k u) (k v)).unique h2
  obtain ⟨k1, k2, k3⟩ := nr_key hu hv
  exact ⟨k_inj k3 h3 (k1.trans h4), k2.trans h5⟩
theorem nrR_of {u v : Nat} (hu : u < pP) (hv : v < pP) : nrR u v = rootR u v := (nroot_eq hu hv).1
theorem nrB_of {u v : Nat} (hu : u < pP) (hv : v < pP) : nrB u v = rootB u v := (nroot_eq hu hv).2
theorem rootR_lt (u v : Nat) : rootR u v < pP := (root_is u v).2
theorem iP_lt : iP < pP := by rw [iP_eq]; exact powP_lt _ _
theorem can1 : canP 1 = 1 := by rw [canP_eq]; decide
theorem can2 : canP 2 = 2 := by rw [canP_eq]; decide
theorem one_lt : 1 < pP := by decide
theorem two_lt : 2 < pP := by decide
end Go.Proofs.Yteohgdpkdbckoaa

/-
  Contracts of the document's curve.
-/
namespace Go.Proofs.Yteohgdpkdbckoaa
open Go Vx Go.RowKit

theorem can_of {a : Nat} (h : a < pP) : canP a = a := by rw [canP_eq, Nat.mod_eq_of_lt h]
theorem refD_eq : mulP (negN (canP 121665)) (invP (canP 121666)) = dP := by
  rw [dP_eq, can_of (by decide), can_of (by decide), negN_of (by decide)]
noncomputable def sameQ : Nat → Nat → Nat → Nat → Nat → Nat → Bool := hidden' fun x y z x1 y1 z1 => decide (mulP x z1 = mulP x1 z) && decide (mulP y z1 = mulP y1 z)
theorem sameQ_eq (x y z x1 y1 z1 : Nat) : sameQ x y z x1 y1 z1 = (decide (mulP x z1 = mulP x1 z) && decide (mulP y z1 = mulP y1 z)) := by unfold sameQ; rw [seal_eq]
def treeSameQ (a b : Bool) : Out := bif a then outV (vbool' b) else outV (vbool' false)
theorem treeSameQ_eq (x y z x1 y1 z1 : Nat) : treeSameQ (allB [decide (mulP x z1 = mulP x1 z)]) (allB [decide (mulP y z1 = mulP y1 z)]) = outV (vbool' (sameQ x y z x1 y1 z1)) := by
  rw [sameQ_eq]
  simp only [allB]
  cases decide (mulP x z1 = mulP x1 z) <;> rfl

noncomputable def sQDF : List D → Option (List Bool × V)
  | [] => some ([], vnm dP)
  | _ => none
noncomputable def sQD : FSpec := spec [] sQDF
noncomputable abbrev tabQD : List (FuncId × FSpec) := [(45, sNMul), (48, sNNeg), (44, sNOf), (78, sNInv)]
set_option maxRecDepth 100000 in
theorem tabokQD : TabOK Try.prog (tabOf tabQD) := (.cons ok_NMul (.cons ok_NNeg (.cons ok_NOf (.cons ok_NInv .nil))))
set_option maxRecDepth 100000 in
theorem ok_QD : FnOK Try.prog 49 sQD := by
  refine fn_flat (cx := mkcx tabQD) (c := bodyOf Try.f49) Try.func49 (by kernel_rfl) (by kernel_rfl) rfl ?_
  intro ds chk v vs hF ht he hr base
  unfold sQDF at hF
  split at hF
  · cases hF
    have hvs : vs = [] := by simp only [encA, Option.some.injEq] at he; exact he.symm
    subst hvs
    rw [← refD_eq]
    exact runs_evS (mkok tabokQD) (n := 200) (bs0 := []) (by kernel_rfl) (VEnt.refl _) trivial
  · cases hF

noncomputable def sQSameF : List D → Option (List Bool × V)
  | [.n x, .n y, .n z, .n x1, .n y1, .n z1] => some ([], vbool' (sameQ x y z x1 y1 z1))
  | _ => none
noncomputable def sQSame : FSpec := spec [tqt, tqt] sQSameF
noncomputable abbrev tabQSame : List (FuncId × FSpec) := [(45, sNMul)]
set_option maxRecDepth 100000 in
theorem tabokQSame : TabOK Try.prog (tabOf tabQSame) := (.cons ok_NMul .nil)
end Go.Proofs.Yteohgdpkdbckoaa

/-
  Contracts of the document's elements: out of bytes.
-/
namespace Go.Proofs.Yteohgdpkdbckoaa
open Go Vx Go.RowKit

noncomputable def onQ0 (x y z t : Nat) : Bool := !decide (z = 0) && (decide (mulP x y = mulP z t) &&
  decide (addP (mulP (mulP y (invP z)) (mulP y (invP z))) (negN (mulP (mulP x (invP z)) (mulP x (invP z)))) = addP (canP 1) (mulP dP (mulP (mulP (mulP x (invP z)) (mulP x (invP z))) (mulP (mulP y (invP z)) (mulP y (invP z)))))))
noncomputable def onQ : Nat → Nat → Nat → Nat → Bool := hidden' onQ0
theorem onQ_eq (x y z t : Nat) : onQ x y z t = onQ0 x y z t := by unfold onQ; rw [seal_eq]
def treeOnQ (a b c : Bool) : Out := bif a then outV (vbool' false) else bif !b then outV (vbool' false) else outV (vbool' c)
theorem treeOnQ_eq (a b c : Bool) : treeOnQ a b c = outV (vbool' (!a && (b && c))) := by cases a <;> cases b <;> rfl

noncomputable def sQOnF : List D → Option (List Bool × V)
  | [.n x, .n y, .n z, .n t] => some ([], vbool' (onQ x y z t))
  | _ => none
noncomputable def sQOn : FSpec := spec [tnm, tnm, tnm, tnm] sQOnF
noncomputable abbrev tabQOn : List (FuncId × FSpec) := [(45, sNMul), (52, sNZero), (78, sNInv), (46, sNSub), (47, sNAdd), (44, sNOf), (49, sQD)]
set_option maxRecDepth 100000 in
theorem tabokQOn : TabOK Try.prog (tabOf tabQOn) := (.cons ok_NMul (.cons ok_NZero (.cons ok_NInv (.cons ok_NSub (.cons ok_NAdd (.cons ok_NOf (.cons ok_QD .nil)))))))

def treeIs (a b : Bool) : Out := bif a then outV (vbool' b) else outV (vbool' false)
theorem treeIs_eq (a b : Bool) : treeIs a b = outV (vbool' (a && b)) := by cases a <;> rfl

noncomputable def sIs4F : List D → Option (List Bool × V)
  | [.n x, .n y, .n z, .n t, .n x1, .n y1, .n z1] => some ([], vbool' (onQ (canP x) (canP y) (canP z) (canP t) && sameQ (canP x) (canP y) (canP z) x1 y1 z1))
  | _ => none
noncomputable def sIs4 : FSpec := spec [tpt, tqt] sIs4F

noncomputable def qU1 (s : Nat) : Nat := addP (canP 1) (negN (mulP s s))
noncomputable def qU2 (s : Nat) : Nat := addP (canP 1) (mulP s s)
noncomputable def qV (s : Nat) : Nat := addP (negN (mulP dP (mulP (qU1 s) (qU1 s)))) (negN (mulP (qU2 s) (qU2 s)))
noncomputable def qW (s : Nat) : Nat := mulP (qV s) (mulP (qU2 s) (qU2 s))
noncomputable def qR (s : Nat) : Nat := nrR (canP 1) (qW s)
noncomputable def qX (s : Nat) : Nat := absN (mulP (canP 2) (mulP s (mulP (qR s) (qU2 s))))
noncomputable def qY (s : Nat) : Nat := mulP (mulP (qU1 s) (qR s)) (mulP (mulP (qR s) (qU2 s)) (qV s))
noncomputable def pU1 (s : Nat) : Nat := subP 1 (mulP s s)
noncomputable def pU2 (s : Nat) : Nat := addP 1 (mulP s s)
noncomputable def pV (s : Nat) : Nat := subP (negP (mulP dP (mulP (pU1 s) (pU1 s)))) (mulP (pU2 s) (pU2 s))
noncomputable def pW (s : Nat) : Nat := mulP (pV s) (mulP (pU2 s) (pU2 s))
noncomputable def pR (s : Nat) : Nat := rootR 1 (pW s)
noncomputable def pX (s : Nat) : Nat := absP (mulP (addP s s) (mulP (pR s) (pU2 s)))
noncomputable def pY (s : Nat) : Nat := mulP (pU1 s) (mulP (mulP (pR s) (mulP (pR s) (pU2 s))) (pV s))
theorem pW_lt (s : Nat) : pW s < pP := mulP_lt _ _
theorem pY_lt (s : Nat) : pY s < pP := mulP_lt _ _
theorem rdecB0_p (n : Nat) : rdecB0 n = (lowP n && !oddP (canP n) && (rootB 1 (pW (canP n)) && !oddP (mulP (pX (canP n)) (pY (canP n))) && !sameP (pY (canP n)) 0)) := rfl
theorem rdec0_p (n : Nat) : rdec0 n = bif rdecBP n then ⟨pX (canP n), pY (canP n), 1, mulP (pX (canP n)) (pY (canP n))⟩ else zeroP := rfl
theorem qU1_eq (s : Nat) : qU1 s = pU1 s := by unfold qU1 pU1; rw [can1, subN_of (mulP_lt _ _)]
theorem qU2_eq (s : Nat) : qU2 s = pU2 s := by unfold qU2 pU2; rw [can1]
theorem qV_eq (s : Nat) : qV s = pV s := by unfold qV pV; rw [qU1_eq, qU2_eq, negN_of (mulP_lt dP _), subN_of (mulP_lt _ _)]
theorem qW_eq (s : Nat) : qW s = pW s := by unfold qW pW; rw [qV_eq, qU2_eq]
theorem qR_eq (s : Nat) : qR s = pR s := by unfold qR pR; rw [qW_eq, can1, nrR_of one_lt (pW_lt s)]
theorem k_two : k 2 = 1 + 1 := by decide +kernel
theorem qX_eq (s : Nat) : qX s = pX s := by
  unfold qX pX
  rw [absN_of (mulP_lt _ _), qR_eq, qU2_eq, can2]
  congr 1
  refine k_inj (mulP_lt _ _) (mulP_lt _ _) ?_
  simp only [k_mul, k_add, k_two]
  grind
theorem qY_eq (s : Nat) : qY s = pY s := by
  unfold qY pY
  rw [qR_eq, qU1_eq, qU2_eq, qV_eq]
  refine k_inj (mulP_lt _ _) (mulP_lt _ _) ?_
  simp only [k_mul]
  grind
def uqt0 : U := .ag (.ps [z0, z0, z0, z0, z0, z0, z0, z0, z0, z0, z0, z0, z0, z0, z0, z0, z0, z0, z0, z0, z0, z0, z0, z0])
theorem uqt0_ent : UEnt uqt0 (uqt 0 0 0) := by
  intro σ x h
  obtain ⟨xs, e, hc⟩ := h
  obtain ⟨h1, h2, _⟩ := splitC_sound (m := 8) (a := [z0, z0, z0, z0, z0, z0, z0, z0]) (r := [z0, z0, z0, z0, z0, z0, z0, z0, z0, z0, z0, z0, z0, z0, z0, z0]) rfl hc
  obtain ⟨h3, h4, _⟩ := splitC_sound (m := 8) (a := [z0, z0, z0, z0, z0, z0, z0, z0]) (r := [z0, z0, z0, z0, z0, z0, z0, z0]) rfl h2
  have key : ∀ {ys : List Value}, PRel σ [z0, z0, z0, z0, z0, z0, z0, z0] ys → LRel σ (.pk .u64 32 8 0) ys := by
    intro ys hy
    obtain ⟨zs, e3, g1⟩ := unm0_ent σ (.agg ys.toArray) ⟨ys, rfl, hy⟩
    have : ys = zs := by simpa using e3
    subst this
    obtain ⟨a1, a2, f1, l1, rfl⟩ := g1
    rw [List.append_nil] at f1
    rw [f1]; exact l1
  exact ⟨xs, e, xs.take 8, xs.drop 8, (List.take_append_drop 8 xs).symm, key h1, (xs.drop 8).take 8, (xs.drop 8).drop 8, (List.take_append_drop 8 _).symm, key h3, _, [], (List.append_nil _).symm, key h4, rfl⟩
def treeQDec (b1 b2 b3 b4 b5 : Bool) (x y o : Nat) : Out :=
  bif !b1 then outV (.tup [uqt0, ubool false]) else bif b2 then outV (.tup [uqt0, ubool false]) else bif !b3 then outV (.tup [uqt0, ubool false]) else bif b4 then outV (.tup [uqt0, ubool false]) else bif b5 then outV (.tup [uqt0, ubool false]) else outV (.tup [uqt x y o, ubool true])
def valQDec (b1 b2 b3 b4 b5 : Bool) (x y o : Nat) : V := bif (b1 && !b2 && (b3 && !b4 && !b5)) then (.tup [uqt x y o, ubool true]) else .tup [uqt0, ubool false]
theorem treeQDec_eq (b1 b2 b3 b4 b5 : Bool) (x y o : Nat) : treeQDec b1 b2 b3 b4 b5 x y o = outV (valQDec b1 b2 b3 b4 b5 x y o) := by
  cases b1 <;> cases b2 <;> cases b3 <;> cases b4 <;> cases b5 <;> rfl
theorem qdec_ent (n : Nat) : VEnt (valQDec (lowP n) (oddN (canP n)) (nrB (canP 1) (qW (canP n))) (oddN (mulP (qX (canP n)) (qY (canP n)))) (allB [decide (qY (canP n) = 0)]) (qX (canP n)) (qY (canP n)) (canP 1))
    (.tup [uqt (rdecP n).x (rdecP n).y (rdecP n).z, ubool (rdecBP n)]) := by
  have hy : decide (qY (canP n) = 0) = sameP (pY (canP n)) 0 := by
    rw [qY_eq, sameP_val, k_zero, k_eq0 (pY_lt _)]
  have hb : rdecBP n = (lowP n && !oddN (canP n) && (nrB (canP 1) (qW (canP n)) && !oddN (mulP (qX (canP n)) (qY (canP n))) && !allB [decide (qY (canP n) = 0)])) := by
    rw [rdecBP_eq, rdecB0_p, oddN_of (canP_lt _), oddN_of (mulP_lt _ _), qX_eq, can1, nrB_of one_lt (by rw [qW_eq]; exact mulP_lt _ _), qW_eq]
    simp only [allB]
    rw [hy, qY_eq]
  unfold valQDec
  rw [← hb, rdecP_eq, rdec0_p, qX_eq, qY_eq, can1]
  cases rdecBP n with
  | true => exact VEnt.refl _
  | false => exact VEnt.tup2 uqt0_ent (UEnt.refl _)

noncomputable def sQDecF : List D → Option (List Bool × V)
  | [.n n] => some ([], .tup [uqt (rdecP n).x (rdecP n).y (rdecP n).z, ubool (rdecBP n)])
  | _ => none
noncomputable def sQDec : FSpec := spec [tb32] sQDecF
noncomputable abbrev tabQDec : List (FuncId × FSpec) := [(42, sNRead), (43, sNOdd), (44, sNOf), (45, sNMul), (46, sNSub), (47, sNAdd), (48, sNNeg), (49, sQD), (50, sNRoot), (51, sNAbs), (52, sNZero)]
set_option maxRecDepth 100000 in
theorem tabokQDec : TabOK Try.prog (tabOf tabQDec) := (.cons ok_NRead (.cons ok_NOdd (.cons ok_NOf (.cons ok_NMul (.cons ok_NSub (.cons ok_NAdd (.cons ok_NNeg (.cons ok_QD (.cons ok_NRoot (.cons ok_NAbs (.cons ok_NZero .nil)))))))))))
set_option maxRecDepth 100000 in
theorem ok_QDec : FnOK Try.prog 23 sQDec := by
  refine fn_flat (cx := mkcx tabQDec) (c := bodyOf Try.f23) Try.func23 (by kernel_rfl) (by kernel_rfl) rfl ?_
  intro ds chk v vs hF ht he hr base
  unfold sQDecF at hF
  split at hF
  · rename_i n
    cases hF
    have hvs : vs = [vb32 n] := by simp only [encA, encV, encP, encL, Option.some.injEq] at he; exact he.symm
    subst hvs
    exact runs_evS (mkok tabokQDec) (n := 200) (bs0 := []) (h := Eq.trans (b := treeQDec (lowP n) (oddN (canP n)) (nrB (canP 1) (qW (canP n))) (oddN (mulP (qX (canP n)) (qY (canP n)))) (allB [decide (qY (canP n) = 0)]) (qX (canP n)) (qY (canP n)) (canP 1)) (by kernel_rfl) (treeQDec_eq _ _ _ _ _ _ _ _)) (qdec_ent n) trivial
  · cases hF
end Go.Proofs.Yteohgdpkdbckoaa
