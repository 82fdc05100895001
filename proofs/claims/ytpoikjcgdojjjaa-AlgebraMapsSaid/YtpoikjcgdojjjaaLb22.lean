/-
  Contracts of the document's numbers: ones.
-/
import Derived.Test.YtpoikjcgdojjjaaL3
namespace Go.Proofs.Ytpoikjcgdojjjaa
open Go Vx Go.RowKit

abbrev tints : Ty := .one (.sl [.int .i64])
abbrev vints (x : List (List D)) : V := .one (.rd [.int .i64] x)
def onesL (n : Int) (x : List (List D)) : List (List D) := x ++ List.replicate (n.toNat - x.length) [.i 1]
def stO (n : Int) (y : List (List D)) (k : Nat) : St := ⟨[vi64 n, .junk, .junk, .junk, .junk, .one (.row 0 1 0 k k)] ++ List.replicate 11 .junk, [some ⟨3, .row [.int .i64] y⟩]⟩

noncomputable def sNOnesF : Nat → List D → Option (List Bool × V × List Blk)
  | base, [.i n, .l x] => some ([decide (x.length < 1099511627776), decide (n < 1099511627776)], .one (.row base 1 0 (onesL n x).length (onesL n x).length), [⟨3, .row [.int .i64] (onesL n x)⟩])
  | _, _ => none
noncomputable def sNOnes : FSpec := specB [ti64, tints] sNOnesF
noncomputable abbrev tabNOnes : List (FuncId × FSpec) := []
set_option maxRecDepth 100000 in
theorem tabokNOnes : TabOK Try.prog (tabOf tabNOnes) := TabOK.nil
set_option maxRecDepth 100000 in
theorem ok_NOnes : FnOK Try.prog 130 sNOnes := by
  refine fn_blk (cx := mkcs tabNOnes) (c := bodyOf Try.f130) Try.func130 (by kernel_rfl) (by kernel_rfl) ?_
  intro base ds chk v bs vs hF ht he hr
  unfold sNOnesF at hF
  split at hF
  · rename_i n x
    cases hF
    have hvs : vs = [vi64 n, vints x] := by simp only [encA, encV, encP, encL, Option.some.injEq] at he; exact he.symm
    subst hvs
    have hx : x.length < 1099511627776 := of_decide_eq_true (ht _ (by simp))
    have hn : n < 1099511627776 := of_decide_eq_true (ht (decide (n < 1099511627776)) (by simp))
    have h0 : evLS (mkcs tabNOnes) 100 ((items (bodyOf Try.f130)).take 2) ⟨t0 Try.f130 [vi64 n, vints x], []⟩ (kfgM [0, 5] [1] 2 [(1, 0)] 1) =
        chks [decide ((0 + x.length) * 8 ≤ 140737488355328), decide (0 + x.length < 4611686018427387904)] (.done .normal (stO n x (0 + x.length))) := by kernel_rfl
    rw [chks_true (allTc (by rw [decide_eq_true_iff]; omega) (allT1 (by rw [decide_eq_true_iff]; omega)))] at h0
    rw [Nat.zero_add] at h0
    refine Runs.items _ _ _ (RunsL.preM (mkoks tabokNOnes) rfl (k := 2) h0 ?_)
    refine RunsL.loop (id := 0) (by kernel_rfl) (fun m s => ∃ y, s = stO n y y.length ∧ m = n.toNat - y.length ∧ onesL n y = onesL n x ∧ y.length < 2199023255552) (n.toNat - x.length) ⟨x, rfl, rfl, rfl, by omega⟩ ?_
    rintro m s ⟨y, rfl, hm, hy, hyl⟩
    have hevN : ∀ k, evLS (mkcs tabNOnes) 100 (items (loopAt (bodyOf Try.f130) 2)) (stO n y k) (kfgM [0, 5] [2] 3 [(2, 0)] 1) =
        chks [okK .i64 (k : Nat)] (bif decide (((k : Nat) : Int) < n) then
          chks [decide (k ≤ y.length), decide (k ≤ k), decide ((k + 1) * 8 ≤ 140737488355328), decide (k + 1 < 4611686018427387904)] (.done .normal (stO n (y.take k ++ [[.i 1]]) (k + 1)))
          else .fail 11) := by intro k; kernel_rfl
    have hevE : ∀ k, evLS (mkcs tabNOnes) 100 (items (loopAt (bodyOf Try.f130) 2)) (stO n y k) (kfg 0 [0, 5] [0] 1) =
        chks [okK .i64 (k : Nat)] (bif decide (((k : Nat) : Int) < n) then
          chks [decide (k ≤ y.length), decide (k ≤ k), decide ((k + 1) * 8 ≤ 140737488355328), decide (k + 1 < 4611686018427387904)] (.fail 11)
          else .done (.exit 0) (stO n y k)) := by intro k; kernel_rfl
    have h1 := hevN y.length
    have h2 := hevE y.length
    clear hevN hevE
    have hk : allT [okK .i64 (y.length : Nat)] := allT1 (okI (by omega) (by omega))
    rw [chks_true hk] at h1 h2
    cases hb : decide (((y.length : Nat) : Int) < n) with
    | true =>
      rw [hb] at h1
      have hlt : ((y.length : Nat) : Int) < n := of_decide_eq_true hb
      rw [cond_true, chks_true (allTc (by simp) (allTc (by simp) (allTc (by rw [decide_eq_true_iff]; omega) (allT1 (by rw [decide_eq_true_iff]; omega))))), List.take_length] at h1
      refine RunsL.allM (mkoks tabokNOnes) rfl h1 ⟨m - 1, by omega, y ++ [[.i 1]], by rw [List.length_append]; rfl, by rw [List.length_append]; simp only [List.length_cons, List.length_nil]; omega, ?_, by rw [List.length_append]; simp only [List.length_cons, List.length_nil]; omega⟩
      rw [← hy]
      unfold onesL
      rw [List.length_append, List.append_assoc]
      congr 1
      have : n.toNat - y.length = (n.toNat - (y.length + 1)) + 1 := by omega
      rw [this, List.replicate_succ]
      rfl
    | false =>
      rw [hb, cond_false] at h2
      have hge : ¬ ((y.length : Nat) : Int) < n := of_decide_eq_false hb
      refine RunsL.allS (mkoks tabokNOnes) h2 ?_
      have hyy : onesL n x = y := by
        rw [← hy]
        unfold onesL
        have : n.toNat - y.length = 0 := by omega
        rw [this, List.replicate_zero, List.append_nil]
      rw [hyy]
      exact runsL_evS (mkoks tabokNOnes) (n := 100) (bs0 := [⟨3, .row [.int .i64] y⟩]) (by kernel_rfl) (VEnt.refl _) ⟨rfl, CEnt.refl _, fun ts h => ⟨ts, h⟩⟩
  · cases hF
end Go.Proofs.Ytpoikjcgdojjjaa
