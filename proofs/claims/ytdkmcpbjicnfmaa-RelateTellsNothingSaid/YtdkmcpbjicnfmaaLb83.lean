/-
  Contracts of relations: commitments.
-/
import Derived.Test.YtdkmcpbjicnfmaaLb82
namespace Go.Proofs.Ytdkmcpbjicnfmaa
open Go Vx Go.RowKit

theorem goodPa_at {n : Int} : ∀ {p : List (List D)}, goodPa n p = true → ∀ {q : Nat}, q < p.length → 0 ≤ paS (p.getD q []) ∧ paS (p.getD q []) < n
  | [], _, q, h => absurd h (Nat.not_lt_zero q)
  | a :: p, h, q, hq => by
    obtain ⟨h1, h2, h3⟩ := goodPa_cons h
    cases q with
    | zero => exact ⟨h1, h2⟩
    | succ q => exact goodPa_at (p := p) h3 (Nat.lt_of_succ_lt_succ hq)
theorem comT_cons (l : List (List D)) {p : List (List D)} {j : Nat} (h : j < p.length) : comT l (p.drop j) = [.n (scAt l (paS (p.getD j [])).toNat), .n (paB (p.getD j []))] :: comT l (p.drop (j + 1)) := by
  rw [drop_cons h]; rfl
abbrev vprt (p : List (List D)) : V := .one (.rd [.int .i64, .pk .u8 8 32] p)
abbrev trow (y : List (List D)) : Option Blk := some ⟨54, .row [.pk .u8 8 32, .pk .u8 8 32] y⟩
def hC0 : Hp := [none, some ⟨31, .ps ub0⟩]
def hC1 (y : List (List D)) : Hp := [none, some ⟨31, .ps ub0⟩, trow y]
def stCm (l p : List (List D)) (v : V) (h : Hp) (i : Int) : St := ⟨[.junk, vscs l, v] ++ jk 3 ++ [.one (.ptr 1 0)] ++ jk 5 ++ [vprt p, vi64 (p.length : Nat), vi64 i] ++ jk 21, h⟩
abbrev rowC (k : Nat) : V := .one (.row 2 64 0 k k)

def stCa (l p : List (List D)) (i : Int) : St := stCm l p vnil hC0 i
def stCb (l p : List (List D)) (y : List (List D)) (k : Nat) (i : Int) : St := stCm l p (rowC k) (hC1 y) i

noncomputable def sGCommitF : List D → Option (List Bool × V)
  | [.n _, .l p, .l l] => some ([goodPa (l.length : Nat) p, decide (p.length < 1099511627776)], vb32 (comN l p))
  | _ => none
noncomputable def sGCommit : FSpec := spec [teqn, tscs, .nils] sGCommitF
noncomputable abbrev tabGCommit : List (FuncId × FSpec) := [(24, sASum)]
set_option maxRecDepth 100000 in
theorem tabokGCommit : TabOK Try.prog (tabOf tabGCommit) := (.cons ok_ASum .nil)
noncomputable abbrev ilGCommit : List (FuncId × Func) := []
set_option maxRecDepth 100000 in
theorem ilokGCommit : IlOK Try.prog (ilTab ilGCommit) := IlOK.nil
set_option maxRecDepth 100000 in
theorem ok_GCommit : FnOK Try.prog 63 sGCommit := by
  refine fn_flat (cx := mkcf true false tabGCommit ilGCommit []) (c := bodyOf Try.f63) Try.func63 (by kernel_rfl) (by kernel_rfl) rfl ?_
  intro ds chk v vs hF ht he hr base
  unfold sGCommitF at hF
  split at hF
  · rename_i a p l
    cases hF
    have hvs : vs = [veqn a p, vscs l, vnil] := by simp only [encA, encV, encP, encL, Option.some.injEq] at he; exact he.symm
    subst hvs
    have hgp : goodPa (l.length : Nat) p = true := ht _ (by simp)
    have hpb : p.length < 1099511627776 := of_decide_eq_true (ht (decide (p.length < 1099511627776)) (by simp))
    have hlp := nat_i (show p.length < 9223372036854775808 by omega)
    have h0 : evLS (mkcf true false tabGCommit ilGCommit []) 100 ((items (bodyOf Try.f63)).take 2) ⟨t0 Try.f63 [veqn a p, vscs l, vnil], []⟩ (kfg 0 [1, 2, 6, 12, 13, 14] [1] 2) = chks [okK .i64 (p.length : Nat)] (.done .normal (stCa l p  0)) := by kernel_rfl
    rw [chks_true (by first | exact allT0 | exact allT1 hlp)] at h0
    refine Runs.items _ _ _ (RunsL.preS (mkokf (sy := true) (rw := false) tabokGCommit ilokGCommit JsOK.nil) (k := 2) h0 ?_)
    refine RunsL.loop (id := 0) (by kernel_rfl) (fun m s => ∃ j : Nat, j + m = p.length ∧ ((j = 0 ∧ s = stCa l p  0) ∨ ∃ y, s = stCb l p  y y.length (j : Int) ∧ y.length = j ∧ comT l p = y ++ comT l (p.drop j))) p.length ⟨0, Nat.zero_add _, .inl ⟨rfl, rfl⟩⟩ ?_
    rintro m s ⟨j, hj, hs⟩
    have hl0 : ∀ i : Int, evLS (mkcf true false tabGCommit ilGCommit []) 100 (items (loopAt (bodyOf Try.f63) 2)) (stCa l p  i) (kfgB 0 [1, 2, 6, 12, 13, 14] [0, 1, 4] 5 [(4, 2)] 3 [1, 2, 6, 12, 13, 14] [1] 2) =
        chks [] (bif decide (i < (p.length : Nat)) then chks [decide (0 ≤ i), decide (i < (p.length : Nat))] (chks [decide (0 ≤ paS (p.getD i.toNat [])), decide (paS (p.getD i.toNat []) < (l.length : Nat))] (chks [] (chks [okK .i64 (i + 1)]
          (.done .normal (stCb l p  [[.n (scAt l (paS (p.getD i.toNat [])).toNat), .n (paB (p.getD i.toNat []))]] 1 (i + 1)))))) else .done (.exit 0) (stCa l p  i)) := by intro i; kernel_rfl
    have hl1 : ∀ (y : List (List D)) (k : Nat) (i : Int), evLS (mkcf true false tabGCommit ilGCommit []) 100 (items (loopAt (bodyOf Try.f63) 2)) (stCb l p  y k i) (kfgB 0 [1, 2, 6, 12, 13, 14] [0, 1, 5] 6 [(5, 2)] 3 [1, 2, 6, 12, 13, 14] [1, 2] 3) =
        chks [] (bif decide (i < (p.length : Nat)) then chks [decide (0 ≤ i), decide (i < (p.length : Nat))] (chks [decide (0 ≤ paS (p.getD i.toNat [])), decide (paS (p.getD i.toNat []) < (l.length : Nat))] (chks [] (chks [decide (k ≤ y.length), decide (k ≤ k), decide ((k + 1) * 64 ≤ 140737488355328), decide (k + 1 < 4611686018427387904), okK .i64 (i + 1)]
          (.done .normal (stCb l p  (y.take k ++ [[.n (scAt l (paS (p.getD i.toNat [])).toNat), .n (paB (p.getD i.toNat []))]]) (k + 1) (i + 1)))))) else .done (.exit 0) (stCb l p  y k i)) := by intro y k i; kernel_rfl
    have he0 : ∀ i : Int, evLS (mkcf true false tabGCommit ilGCommit []) 100 ((items (bodyOf Try.f63)).drop 3) (stCa l p  i) (kres (mkcf true false tabGCommit ilGCommit []) Try.f63 base) = outV (vb32 (sumN [])) := by intro i; kernel_rfl
    have he1 : ∀ (y : List (List D)) (k : Nat) (i : Int), evLS (mkcf true false tabGCommit ilGCommit []) 100 ((items (bodyOf Try.f63)).drop 3) (stCb l p  y k i) (kres (mkcf true false tabGCommit ilGCommit []) Try.f63 base) = chks [decide (0 + k ≤ y.length), decide ((List.take k (List.drop 0 y)).length < 9223372036854775808)] (outV (vb32 (sumN (List.take k (List.drop 0 y))))) := by intro y k i; kernel_rfl
    rcases Nat.eq_zero_or_pos m with hm | hm
    · subst hm
      have hj : j = p.length := hj
      rcases hs with ⟨h0, rfl⟩ | ⟨y, rfl, hy, hc⟩
      · have h1 := hl0 0
        have hp : p = [] := List.eq_nil_of_length_eq_zero (by omega)
        subst hp
        rw [chks_true (by first | exact allT0 | exact allT1 hlp)] at h1
        refine RunsL.allB (mkokf (sy := true) (rw := false) tabokGCommit ilokGCommit JsOK.nil) rfl h1 ?_
        exact runsL_evS (mkokf (sy := true) (rw := false) tabokGCommit ilokGCommit JsOK.nil) (n := 100) (bs0 := []) (he0 0) (VEnt.refl _) trivial
      · have h1 := hl1 y y.length (j : Int)
        rw [chks_true (by first | exact allT0 | exact allT1 hlp), hj, dec_self_lt, cond_false] at h1
        rw [hj, List.drop_length, show comT l [] = [] from rfl, List.append_nil] at hc
        have h2 := he1 y y.length ((p.length : Nat) : Int)
        rw [List.drop_zero, List.take_length, chks_true (allTc (by rw [decide_eq_true_iff]; omega) (allT1 (by rw [decide_eq_true_iff]; omega)))] at h2
        have hcs : comN l p = sumN y := congrArg sumN hc
        rw [hcs]
        rw [hj]
        refine RunsL.allB (mkokf (sy := true) (rw := false) tabokGCommit ilokGCommit JsOK.nil) rfl h1 ?_
        exact runsL_evS (mkokf (sy := true) (rw := false) tabokGCommit ilokGCommit JsOK.nil) (n := 100) (bs0 := []) h2 (VEnt.refl _) trivial
    · obtain ⟨m, rfl⟩ : ∃ n, m = n + 1 := ⟨m - 1, by omega⟩
      have hjl : j < p.length := by omega
      obtain ⟨g1, g2⟩ := goodPa_at hgp hjl
      have hd3 : okK .i64 ((j : Int) + 1) = true := okI (by omega) (by omega)
      have d0 := dec_nn j
      have d1 := dec_lt hjl
      have e1 : decide (0 ≤ paS (p.getD j [])) = true := decide_eq_true g1
      have e2 : decide (paS (p.getD j []) < (l.length : Nat)) = true := decide_eq_true g2
      rcases hs with ⟨h0, rfl⟩ | ⟨y, rfl, hy, hc⟩
      · subst h0
        have h1 := hl0 ((0 : Nat) : Int)
        rw [Int.toNat_natCast, d0, d1, e1, e2, hd3] at h1
        try rw [hlp] at h1
        refine RunsL.allB (mkokf (sy := true) (rw := false) tabokGCommit ilokGCommit JsOK.nil) rfl h1 ⟨m, Nat.lt_succ_self m, 1, by omega, .inr ⟨_, rfl, rfl, ?_⟩⟩
        have := comT_cons l hjl
        rw [List.drop_zero] at this
        exact this
      · have h1 := hl1 y y.length (j : Int)
        rw [Int.toNat_natCast, d0, d1, e1, e2, hd3] at h1
        try rw [hlp] at h1
        rw [cond_true, chks_true (l := [decide (y.length ≤ y.length), decide (y.length ≤ y.length), decide ((y.length + 1) * 64 ≤ 140737488355328), decide (y.length + 1 < 4611686018427387904), true]), List.take_length] at h1
        · refine RunsL.allB (mkokf (sy := true) (rw := false) tabokGCommit ilokGCommit JsOK.nil) rfl h1 ⟨m, Nat.lt_succ_self m, j + 1, by omega, .inr ⟨y ++ [[.n (scAt l (paS (p.getD j [])).toNat), .n (paB (p.getD j []))]], ?_, ?_, ?_⟩⟩
          · rw [List.length_append]; rfl
          · rw [List.length_append, hy]; rfl
          · rw [hc, comT_cons l hjl, List.append_assoc]; rfl
        · refine allTc ?_ (allTc ?_ (allTc ?_ (allTc ?_ (allT1 rfl)))) <;> (rw [decide_eq_true_iff]; omega)
  · cases hF
end Go.Proofs.Ytdkmcpbjicnfmaa
