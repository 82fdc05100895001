/-
  Contracts of the document's sums: the four mixes, the words' tables.
-/
import Derived.Test.YtdkmcpbjicnfmaaL10
import Derived.Test.YtdkmcpbjicnfmaaLb60
import Derived.Test.YtdkmcpbjicnfmaaU2
set_option maxRecDepth 100000
namespace Go.Proofs.Ytdkmcpbjicnfmaa
open Go Vx Go.RowKit

abbrev tkd : Ty := .ag [.int .i64, .int .i64, .int .i64, .int .i64, .int .i64, .int .i64, .int .i64, .int .i64, .int .i64, .int .i64, .int .i64, .int .i64, .int .i64, .int .i64]
abbrev vkd (q0 q1 q2 q3 q4 q5 q6 q7 q8 q9 q10 q11 q12 q13 : Int) : V := .ag (.ps [.int .i64 q0, .int .i64 q1, .int .i64 q2, .int .i64 q3, .int .i64 q4, .int .i64 q5, .int .i64 q6, .int .i64 q7, .int .i64 q8, .int .i64 q9, .int .i64 q10, .int .i64 q11, .int .i64 q12, .int .i64 q13])
theorem xor3 (b i j k Y : Nat) : ((bigN b i j k Y : Nat) : Int) = ((((((rotN b i Y : Nat) : Int).toNat ^^^ ((rotN b j Y : Nat) : Int).toNat : Nat) : Int).toNat ^^^ ((rotN b k Y : Nat) : Int).toNat : Nat) : Int) := by
 unfold bigN
 simp only [Int.toNat_natCast]
theorem xor2 (b i j k : Nat) {x : Int} (hx : 0 ≤ x) : ((smlN b i j k x.toNat : Nat) : Int) = ((((((rotN b i x.toNat : Nat) : Int).toNat ^^^ ((rotN b j x.toNat : Nat) : Int).toNat : Nat) : Int).toNat ^^^ (x / ((2 ^ k : Nat) : Int)).toNat : Nat) : Int) := by
 obtain ⟨X, rfl⟩ := Int.eq_ofNat_of_zero_le hx
 unfold smlN
 rw [← Int.natCast_ediv]
 simp only [Int.toNat_natCast]
theorem rightA {X N : Nat} (hN : N ≤ 64) (hX : X < 2 ^ 64) : wrapK .u64 (wrapK .u64 ((X : Int) / ((2 ^ min (N : Int).toNat 64 : Nat) : Int) + wrapK .u64 ((X : Int) * ((2 ^ min ((64 : Int) - (N : Int)).toNat 64 : Nat) : Int))) * 1) / 1 = (rotN 64 N X : Nat) := by
 rw [Int.toNat_natCast, Nat.min_eq_left hN, show ((64 : Int) - (N : Int)).toNat = 64 - N by omega, Nat.min_eq_left (by omega), ← Int.natCast_ediv, ← Int.natCast_mul, Int.mul_one, Int.ediv_one, wrap64, ← Int.natCast_add, wrap64, wrap64, Nat.add_mod_mod, rot_cut hN hX]
 rw [Nat.mod_eq_of_lt (rot_lt hN hX)]

def mixA512 (i : Nat) (X : Nat) : Nat := if i = 0 then bigN 64 28 34 39 X else if i = 1 then bigN 64 14 18 41 X else if i = 2 then smlN 64 1 8 7 X else smlN 64 19 61 6 X
theorem mixA512_0 (X : Nat) : mixA512 0 X = bigN 64 28 34 39 X := by unfold mixA512; rw [if_pos rfl]
theorem mixA512_1 (X : Nat) : mixA512 1 X = bigN 64 14 18 41 X := by unfold mixA512; rw [if_neg (by decide), if_pos rfl]
theorem mixA512_2 (X : Nat) : mixA512 2 X = smlN 64 1 8 7 X := by unfold mixA512; rw [if_neg (by decide), if_neg (by decide), if_pos rfl]
theorem mixA512_3 (X : Nat) : mixA512 3 X = smlN 64 19 61 6 X := by unfold mixA512; rw [if_neg (by decide), if_neg (by decide), if_neg (by decide)]

noncomputable def sRCut512F : List D → Option (List Bool × V)
 | [.i q0, .i q1, .i q2, .i q3, .i q4, .i q5, .i q6, .i q7, .i q8, .i q9, .i q10, .i q11, .i q12, .i q13, .i x] => some ([decide ([q0, q1, q2, q3, q4, q5, q6, q7, q8, q9, q10, q11, q12, q13] = [64, 80, 28, 34, 39, 14, 18, 41, 1, 8, 7, 19, 61, 6])], vu64 x)
 | _ => none
noncomputable def sRCut512 : FSpec := spec [tkd, tu64] sRCut512F
noncomputable abbrev tabRCut512 : List (FuncId × FSpec) := []
theorem tabokRCut512 : TabOK Try.prog (tabOf tabRCut512) := TabOK.nil
theorem ok_RCut512 : FnOK Try.prog 125 sRCut512 := by
 refine fn_flat (cx := mkcf true false tabRCut512 [] []) (c := bodyOf Try.f125) Try.func125 (by kernel_rfl) (by kernel_rfl) rfl ?_
 intro ds chk v vs hF ht he hr base
 unfold sRCut512F at hF
 split at hF
 · rename_i q0 q1 q2 q3 q4 q5 q6 q7 q8 q9 q10 q11 q12 q13 x
   cases hF
   have hvs : vs = [vkd q0 q1 q2 q3 q4 q5 q6 q7 q8 q9 q10 q11 q12 q13, vu64 x] := by simp only [encA, encV, encP, encL, Option.some.injEq] at he; exact he.symm
   subst hvs
   have hk : [q0, q1, q2, q3, q4, q5, q6, q7, q8, q9, q10, q11, q12, q13] = ([64, 80, 28, 34, 39, 14, 18, 41, 1, 8, 7, 19, 61, 6] : List Int) := of_decide_eq_true (ht _ (by simp))
   simp only [List.cons.injEq, and_true] at hk
   obtain ⟨rfl, rfl, rfl, rfl, rfl, rfl, rfl, rfl, rfl, rfl, rfl, rfl, rfl, rfl⟩ := hk

   obtain ⟨_, h1, _⟩ := hr
   obtain ⟨h1, h2⟩ := rng_u64 h1
   have hev : evS (mkcf true false tabRCut512 [] []) 100 (bodyOf Try.f125) ⟨t0 Try.f125 [vkd 64 80 28 34 39 14 18 41 1 8 7 19 61 6, vu64 x], []⟩ (kres (mkcf true false tabRCut512 [] []) Try.f125 base) = chks [okK .i64 0, okK .i64 0] (outV (vu64 (wrapK .u64 (x * 1) / 1))) := by kernel_rfl
   rw [chks_true (allTc (okI (by omega) (by omega)) (allT1 (okI (by omega) (by omega))))] at hev
   refine runs_evS (mkokf (sy := true) (rw := false) tabokRCut512 IlOK.nil JsOK.nil) (bs0 := []) hev ?_ trivial
   obtain ⟨X, rfl⟩ := Int.eq_ofNat_of_zero_le h1
   rw [show wrapK .u64 ((X : Int) * 1) / 1 = (X : Int) by simp only [wrapK]; omega]
   exact VEnt.refl _
 · cases hF

noncomputable def sRRight512F : List D → Option (List Bool × V)
 | [.i q0, .i q1, .i q2, .i q3, .i q4, .i q5, .i q6, .i q7, .i q8, .i q9, .i q10, .i q11, .i q12, .i q13, .i x, .i n] => some ([decide ([q0, q1, q2, q3, q4, q5, q6, q7, q8, q9, q10, q11, q12, q13] = [64, 80, 28, 34, 39, 14, 18, 41, 1, 8, 7, 19, 61, 6]), decide (0 ≤ n ∧ n ≤ 64)], vu64 ((rotN 64 n.toNat x.toNat : Nat) : Int))
 | _ => none
noncomputable def sRRight512 : FSpec := spec [tkd, tu64, ti64] sRRight512F
noncomputable abbrev tabRRight512 : List (FuncId × FSpec) := []
theorem tabokRRight512 : TabOK Try.prog (tabOf tabRRight512) := TabOK.nil
noncomputable abbrev ilRRight512 : List (FuncId × Func) := [(125, Try.f125)]
theorem ilokRRight512 : IlOK Try.prog (ilTab ilRRight512) := (IlOK.cons Try.func125 (by kernel_rfl) IlOK.nil)
theorem ok_RRight512 : FnOK Try.prog 132 sRRight512 := by
 refine fn_flat (cx := mkcf true false tabRRight512 ilRRight512 []) (c := bodyOf Try.f132) Try.func132 (by kernel_rfl) (by kernel_rfl) rfl ?_
 intro ds chk v vs hF ht he hr base
 unfold sRRight512F at hF
 split at hF
 · rename_i q0 q1 q2 q3 q4 q5 q6 q7 q8 q9 q10 q11 q12 q13 x n
   cases hF
   have hvs : vs = [vkd q0 q1 q2 q3 q4 q5 q6 q7 q8 q9 q10 q11 q12 q13, vu64 x, vi64 n] := by simp only [encA, encV, encP, encL, Option.some.injEq] at he; exact he.symm
   subst hvs
   have hk : [q0, q1, q2, q3, q4, q5, q6, q7, q8, q9, q10, q11, q12, q13] = ([64, 80, 28, 34, 39, 14, 18, 41, 1, 8, 7, 19, 61, 6] : List Int) := of_decide_eq_true (ht _ (by simp))
   simp only [List.cons.injEq, and_true] at hk
   obtain ⟨rfl, rfl, rfl, rfl, rfl, rfl, rfl, rfl, rfl, rfl, rfl, rfl, rfl, rfl⟩ := hk

   have hn : 0 ≤ n ∧ n ≤ 64 := of_decide_eq_true (ht (decide (0 ≤ n ∧ n ≤ 64)) (by simp))

   obtain ⟨_, h1, _⟩ := hr
   obtain ⟨h1, h2⟩ := rng_u64 h1
   have hev : evS (mkcf true false tabRRight512 ilRRight512 []) 100 (bodyOf Try.f132) ⟨t0 Try.f132 [vkd 64 80 28 34 39 14 18 41 1 8 7 19 61 6, vu64 x, vi64 n], []⟩ (kres (mkcf true false tabRRight512 ilRRight512 []) Try.f132 base) = chks [decide (0 ≤ n), okK .i64 (64 - n), decide (0 ≤ 64 - n), okK .i64 0, okK .i64 0] (outV (vu64 (wrapK .u64 (wrapK .u64 (x / ((2 ^ min n.toNat 64 : Nat) : Int) + wrapK .u64 (x * ((2 ^ min ((64 : Int) - n).toNat 64 : Nat) : Int))) * 1) / 1))) := by kernel_rfl
   rw [chks_true (allTc (by rw [decide_eq_true_iff]; omega) (allTc (okI (by omega) (by omega)) (allTc (by rw [decide_eq_true_iff]; omega) (allTc (okI (by omega) (by omega)) (allT1 (okI (by omega) (by omega)))))))] at hev
   refine runs_evS (mkokf (sy := true) (rw := false) tabokRRight512 ilokRRight512 JsOK.nil) (bs0 := []) hev ?_ trivial
   obtain ⟨X, rfl⟩ := Int.eq_ofNat_of_zero_le h1
   obtain ⟨N, rfl⟩ := Int.eq_ofNat_of_zero_le hn.1
   rw [rightA (by omega) (by omega), Int.toNat_natCast, Int.toNat_natCast]
   exact VEnt.refl _
 · cases hF

noncomputable def sRMix512F : List D → Option (List Bool × V)
 | [.i q0, .i q1, .i q2, .i q3, .i q4, .i q5, .i q6, .i q7, .i q8, .i q9, .i q10, .i q11, .i q12, .i q13, .i i, .i x] => some ([decide ([q0, q1, q2, q3, q4, q5, q6, q7, q8, q9, q10, q11, q12, q13] = [64, 80, 28, 34, 39, 14, 18, 41, 1, 8, 7, 19, 61, 6]), decide (0 ≤ i ∧ i < 4)], vu64 ((mixA512 i.toNat x.toNat : Nat) : Int))
 | _ => none
noncomputable def sRMix512 : FSpec := spec [tkd, ti64, tu64] sRMix512F
noncomputable abbrev tabRMix512 : List (FuncId × FSpec) := [(132, sRRight512)]
theorem tabokRMix512 : TabOK Try.prog (tabOf tabRMix512) := (.cons ok_RRight512 .nil)
noncomputable abbrev cRMix512 : Cx := mkcf true false tabRMix512 [] []
theorem oRMix512 : Ok cRMix512 := mkokf (sy := true) (rw := false) tabokRMix512 IlOK.nil JsOK.nil
theorem ok_RMix512 : FnOK Try.prog 126 sRMix512 := by
 refine fn_flat (cx := mkcf true false tabRMix512 [] []) (c := bodyOf Try.f126) Try.func126 (by kernel_rfl) (by kernel_rfl) rfl ?_
 intro ds chk v vs hF ht he hr base
 unfold sRMix512F at hF
 split at hF
 · rename_i q0 q1 q2 q3 q4 q5 q6 q7 q8 q9 q10 q11 q12 q13 i x
   cases hF
   have hvs : vs = [vkd q0 q1 q2 q3 q4 q5 q6 q7 q8 q9 q10 q11 q12 q13, vi64 i, vu64 x] := by simp only [encA, encV, encP, encL, Option.some.injEq] at he; exact he.symm
   subst hvs
   have hk : [q0, q1, q2, q3, q4, q5, q6, q7, q8, q9, q10, q11, q12, q13] = ([64, 80, 28, 34, 39, 14, 18, 41, 1, 8, 7, 19, 61, 6] : List Int) := of_decide_eq_true (ht _ (by simp))
   simp only [List.cons.injEq, and_true] at hk
   obtain ⟨rfl, rfl, rfl, rfl, rfl, rfl, rfl, rfl, rfl, rfl, rfl, rfl, rfl, rfl⟩ := hk

   have hi : 0 ≤ i ∧ i < 4 := of_decide_eq_true (ht (decide (0 ≤ i ∧ i < 4)) (by simp))

   obtain ⟨_, _, h1, _⟩ := hr
   obtain ⟨h1, h2⟩ := rng_u64 h1
   have hi4 : i = 0 ∨ i = 1 ∨ i = 2 ∨ i = 3 := by omega
   rcases hi4 with rfl | rfl | rfl | rfl
   · have hev : evS cRMix512 100 (bodyOf Try.f126) ⟨t0 Try.f126 [vkd 64 80 28 34 39 14 18 41 1 8 7 19 61 6, vi64 0, vu64 x], []⟩ (kres cRMix512 Try.f126 base) = chks [] (outV (vu64 ((((((rotN 64 28 x.toNat : Nat) : Int).toNat ^^^ ((rotN 64 34 x.toNat : Nat) : Int).toNat : Nat) : Int).toNat ^^^ (((rotN 64 39 x.toNat : Nat) : Int)).toNat : Nat) : Int))) := by kernel_rfl
     rw [chks_true allT0] at hev
     refine runs_evS oRMix512 (bs0 := []) hev ?_ trivial
     have h0 : (0 : Int).toNat = 0 := rfl
     rw [h0, mixA512_0, xor3]
     exact VEnt.refl _
   · have hev : evS cRMix512 100 (bodyOf Try.f126) ⟨t0 Try.f126 [vkd 64 80 28 34 39 14 18 41 1 8 7 19 61 6, vi64 1, vu64 x], []⟩ (kres cRMix512 Try.f126 base) = chks [] (outV (vu64 ((((((rotN 64 14 x.toNat : Nat) : Int).toNat ^^^ ((rotN 64 18 x.toNat : Nat) : Int).toNat : Nat) : Int).toNat ^^^ (((rotN 64 41 x.toNat : Nat) : Int)).toNat : Nat) : Int))) := by kernel_rfl
     rw [chks_true allT0] at hev
     refine runs_evS oRMix512 (bs0 := []) hev ?_ trivial
     have h0 : (1 : Int).toNat = 1 := rfl
     rw [h0, mixA512_1, xor3]
     exact VEnt.refl _
   · have hev : evS cRMix512 100 (bodyOf Try.f126) ⟨t0 Try.f126 [vkd 64 80 28 34 39 14 18 41 1 8 7 19 61 6, vi64 2, vu64 x], []⟩ (kres cRMix512 Try.f126 base) = chks [] (outV (vu64 ((((((rotN 64 1 x.toNat : Nat) : Int).toNat ^^^ ((rotN 64 8 x.toNat : Nat) : Int).toNat : Nat) : Int).toNat ^^^ (x / ((2 ^ 7 : Nat) : Int)).toNat : Nat) : Int))) := by kernel_rfl
     rw [chks_true allT0] at hev
     refine runs_evS oRMix512 (bs0 := []) hev ?_ trivial
     have h0 : (2 : Int).toNat = 2 := rfl
     rw [h0, mixA512_2, xor2 _ _ _ _ h1]
     exact VEnt.refl _
   · have hev : evS cRMix512 100 (bodyOf Try.f126) ⟨t0 Try.f126 [vkd 64 80 28 34 39 14 18 41 1 8 7 19 61 6, vi64 3, vu64 x], []⟩ (kres cRMix512 Try.f126 base) = chks [] (outV (vu64 ((((((rotN 64 19 x.toNat : Nat) : Int).toNat ^^^ ((rotN 64 61 x.toNat : Nat) : Int).toNat : Nat) : Int).toNat ^^^ (x / ((2 ^ 6 : Nat) : Int)).toNat : Nat) : Int))) := by kernel_rfl
     rw [chks_true allT0] at hev
     refine runs_evS oRMix512 (bs0 := []) hev ?_ trivial
     have h0 : (3 : Int).toNat = 3 := rfl
     rw [h0, mixA512_3, xor2 _ _ _ _ h1]
     exact VEnt.refl _
 · cases hF

noncomputable def sROf512F : List D → Option (List Bool × V)
 | [] => some ([], vkd 64 80 28 34 39 14 18 41 1 8 7 19 61 6)
 | _ => none
noncomputable def sROf512 : FSpec := spec [] sROf512F
noncomputable abbrev tabROf512 : List (FuncId × FSpec) := []
theorem tabokROf512 : TabOK Try.prog (tabOf tabROf512) := TabOK.nil
theorem ok_ROf512 : FnOK Try.prog 105 sROf512 := by
 refine fn_flat (cx := mkcf true false tabROf512 [] []) (c := bodyOf Try.f105) Try.func105 (by kernel_rfl) (by kernel_rfl) rfl ?_
 intro ds chk v vs hF ht he hr base
 unfold sROf512F at hF
 split at hF
 · cases hF
   have hvs : vs = [] := by simp only [encA, Option.some.injEq] at he; exact he.symm
   subst hvs
   exact runs_evS (mkokf (sy := true) (rw := false) tabokROf512 IlOK.nil JsOK.nil) (n := 400) (bs0 := []) (by kernel_rfl) (VEnt.refl _) trivial
 · cases hF

def stTRBeg (i : Int) (c : C) : St := ⟨[vi64 i, .junk, .junk, .one (.ptr 0 0)] ++ List.replicate 4 .junk, [some ⟨159, c⟩]⟩
theorem stTRBeg_ent {i : Int} {c c' : C} (h : CEnt c c') (h1 : c = .dead → c' = .dead) (h2 : ∀ ts, c = .row ts [] → ∃ ts', c' = .row ts' []) : StEntG (stTRBeg i c) (stTRBeg i c') := by
 refine ⟨rfl, fun _ => .inl rfl, fun j => ?_⟩
 match j with
 | 0 => exact .inr ⟨_, _, _, rfl, rfl, h, h1, h2⟩
 | j + 1 => exact .inl rfl

noncomputable def sRBegF : List D → Option (List Bool × V)
 | [.i i] => some ([decide (0 ≤ i ∧ i < 8)], vu64 ((k512.h.getD i.toNat 0 : Nat) : Int))
 | _ => none
noncomputable def sRBeg : FSpec := spec [ti64] sRBegF
noncomputable abbrev tabRBeg : List (FuncId × FSpec) := []
theorem tabokRBeg : TabOK Try.prog (tabOf tabRBeg) := TabOK.nil
theorem ok_RBeg : FnOK Try.prog 123 sRBeg := by
 refine fn_flat (cx := mkcf true false tabRBeg [] []) (c := bodyOf Try.f123) Try.func123 (by kernel_rfl) (by kernel_rfl) rfl ?_
 intro ds chk v vs hF ht he hr base
 unfold sRBegF at hF
 split at hF
 · rename_i i
   cases hF
   have hvs : vs = [vi64 i] := by simp only [encA, encV, encP, encL, Option.some.injEq] at he; exact he.symm
   subst hvs
   have hi : 0 ≤ i ∧ i < 8 := of_decide_eq_true (ht _ (by simp))
   have h0 : evLS (mkcf true false tabRBeg [] []) 100 ((items (bodyOf Try.f123)).take 2) ⟨t0 Try.f123 [vi64 i], []⟩ (kfg 0 [0, 3] [0] 1) = .done .normal (stTRBeg i (psI .u64 8 fun p => (k512.h.getD p 0 : Nat))) := by kernel_rfl
   refine Runs.items _ _ _ (RunsL.preG (mkokf (sy := true) (rw := false) tabokRBeg IlOK.nil JsOK.nil) (k := 2) h0 (stTRBeg_ent ps_bg (fun h => by cases h) (fun _ h => by cases h)) ?_)
   exact runsL_evS (mkokf (sy := true) (rw := false) tabokRBeg IlOK.nil JsOK.nil) (n := 100) (bs0 := []) (h := Eq.trans (b := chks [decide (0 ≤ i), decide (i < 8), decide (0 + i.toNat < 8)] (outV (vu64 ((k512.h.getD (0 + i.toNat) 0 : Nat) : Int)))) (by kernel_rfl) (by rw [chks_true (allTc (by rw [decide_eq_true_iff]; omega) (allTc (by rw [decide_eq_true_iff]; omega) (allT1 (by rw [decide_eq_true_iff]; omega)))), Nat.zero_add]; rfl)) (VEnt.refl _) trivial
 · cases hF

def stTRCon (i : Int) (c : C) : St := ⟨[vi64 i, .junk, .junk, .one (.ptr 0 0)] ++ List.replicate 4 .junk, [some ⟨158, c⟩]⟩
theorem stTRCon_ent {i : Int} {c c' : C} (h : CEnt c c') (h1 : c = .dead → c' = .dead) (h2 : ∀ ts, c = .row ts [] → ∃ ts', c' = .row ts' []) : StEntG (stTRCon i c) (stTRCon i c') := by
 refine ⟨rfl, fun _ => .inl rfl, fun j => ?_⟩
 match j with
 | 0 => exact .inr ⟨_, _, _, rfl, rfl, h, h1, h2⟩
 | j + 1 => exact .inl rfl

noncomputable def sRConF : List D → Option (List Bool × V)
 | [.i i] => some ([decide (0 ≤ i ∧ i < 80)], vu64 ((k512.k.getD i.toNat 0 : Nat) : Int))
 | _ => none
noncomputable def sRCon : FSpec := spec [ti64] sRConF
noncomputable abbrev tabRCon : List (FuncId × FSpec) := []
theorem tabokRCon : TabOK Try.prog (tabOf tabRCon) := TabOK.nil
theorem ok_RCon : FnOK Try.prog 127 sRCon := by
 refine fn_flat (cx := mkcf true false tabRCon [] []) (c := bodyOf Try.f127) Try.func127 (by kernel_rfl) (by kernel_rfl) rfl ?_
 intro ds chk v vs hF ht he hr base
 unfold sRConF at hF
 split at hF
 · rename_i i
   cases hF
   have hvs : vs = [vi64 i] := by simp only [encA, encV, encP, encL, Option.some.injEq] at he; exact he.symm
   subst hvs
   have hi : 0 ≤ i ∧ i < 80 := of_decide_eq_true (ht _ (by simp))
   have h0 : evLS (mkcf true false tabRCon [] []) 100 ((items (bodyOf Try.f127)).take 2) ⟨t0 Try.f127 [vi64 i], []⟩ (kfg 0 [0, 3] [0] 1) = .done .normal (stTRCon i (psI .u64 80 fun p => (k512.k.getD p 0 : Nat))) := by kernel_rfl
   refine Runs.items _ _ _ (RunsL.preG (mkokf (sy := true) (rw := false) tabokRCon IlOK.nil JsOK.nil) (k := 2) h0 (stTRCon_ent ps_bg (fun h => by cases h) (fun _ h => by cases h)) ?_)
   exact runsL_evS (mkokf (sy := true) (rw := false) tabokRCon IlOK.nil JsOK.nil) (n := 100) (bs0 := []) (h := Eq.trans (b := chks [decide (0 ≤ i), decide (i < 80), decide (0 + i.toNat < 80)] (outV (vu64 ((k512.k.getD (0 + i.toNat) 0 : Nat) : Int)))) (by kernel_rfl) (by rw [chks_true (allTc (by rw [decide_eq_true_iff]; omega) (allTc (by rw [decide_eq_true_iff]; omega) (allT1 (by rw [decide_eq_true_iff]; omega)))), Nat.zero_add]; rfl)) (VEnt.refl _) trivial
 · cases hF
end Go.Proofs.Ytdkmcpbjicnfmaa
