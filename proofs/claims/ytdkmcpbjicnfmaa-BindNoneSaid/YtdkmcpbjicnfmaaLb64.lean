/-
  The contract of the document's filling up of a text.
-/
import Derived.Test.YtdkmcpbjicnfmaaLb61
import Derived.Test.YtdkmcpbjicnfmaaLb63
set_option maxRecDepth 100000
namespace Go.Proofs.Ytdkmcpbjicnfmaa
open Go Vx Go.RowKit

def dv8 (n : Int) : Nat → Int
 | 0 => n
 | i + 1 => dv8 n i / 256
def lowI (n : Int) (i : Nat) : Int := wrapK .u8 (dv8 n i % 256)
def lowsL (n : Int) (k : Nat) : List (List D) := (List.range k).map fun (j : Nat) => [.i (lowI n (k - 1 - j))]
theorem dv8_eq (n : Nat) : ∀ i, dv8 (n : Int) i = ((n / 256 ^ i : Nat) : Int)
 | 0 => by simp [dv8]
 | i + 1 => by
   rw [dv8, dv8_eq n i, Nat.pow_succ, ← Nat.div_div_eq_div_mul]
   generalize n / 256 ^ i = q
   omega
theorem lowI_eq (n i : Nat) : lowI (n : Int) i = ((n / 256 ^ i % 256 : Nat) : Int) := by
 unfold lowI
 rw [dv8_eq]
 generalize n / 256 ^ i = q
 simp only [wrapK]
 omega
theorem lenI_eq {n : Nat} (hn : n < 1099511627776) {i : Nat} (hi : i < 8) : lenI (n : Int) (i : Int) = ((8 * n / 256 ^ i % 256 : Nat) : Int) := by
 unfold lenI
 have e1 : wrapK .u64 (8 * wrapK .u64 (n : Int)) = ((8 * n : Nat) : Int) := by simp only [wrapK]; omega
 have e2 : min (8 * (i : Int)).toNat 64 = 8 * i := by omega
 rw [e1, e2, ← Int.natCast_ediv, show (256 : Nat) ^ i = 2 ^ (8 * i) by rw [Nat.pow_mul]]
 generalize 8 * n / 2 ^ (8 * i) = q
 simp only [wrapK]
 omega
theorem lows_lens {n sz : Nat} (hn : n < 1099511627776) (hs : sz = 16 ∨ sz = 8) : lowsL ((n * 8 : Nat) : Int) sz = List.replicate (sz - 8) [.i 0] ++ lensL (n : Int) 8 := by
 apply List.ext_getElem?
 intro j
 unfold lowsL lensL
 rw [List.getElem?_map, List.getElem?_append, List.length_replicate, List.getElem?_map]
 rcases Nat.lt_or_ge j sz with hj | hj
 · rw [List.getElem?_range hj, Option.map_some]
   by_cases h8 : j < sz - 8
   · rw [if_pos h8, List.getElem?_replicate, if_pos h8, lowI_eq]
     have : n * 8 / 256 ^ (sz - 1 - j) = 0 := by
      refine Nat.div_eq_of_lt (Nat.lt_of_lt_of_le (m := 256 ^ 8) (by omega) (Nat.pow_le_pow_right (by decide) (by omega)))
     rw [this]
     rfl
   · rw [if_neg h8, List.getElem?_range (by omega), Option.map_some, lowI_eq]
     have e : (7 : Int) - ((j - (sz - 8) : Nat) : Int) = ((sz - 1 - j : Nat) : Int) := by omega
     rw [e, lenI_eq hn (by omega), Nat.mul_comm n 8]
 · rw [List.getElem?_eq_none (by simpa using hj), Option.map_none, if_neg (by omega), List.getElem?_eq_none (by simp; omega), Option.map_none]
theorem len_u64 {n : Nat} (hn : n < 1099511627776) : wrapK .u64 (wrapK .u64 (n : Int) * 8) = ((n * 8 : Nat) : Int) := by simp only [wrapK]; omega

def stF512 (x y : List (List D)) (k : Nat) (n l i : V) : St := ⟨[.junk, vby x, .one (.ptr 0 0), .junk, .junk, vi64 128, .one (.row 1 1 0 k k), n, l, i] ++ List.replicate 44 .junk, [some ⟨155, .ps [.int .i64 64, .int .i64 80, .int .i64 28, .int .i64 34, .int .i64 39, .int .i64 14, .int .i64 18, .int .i64 41, .int .i64 1, .int .i64 8, .int .i64 7, .int .i64 19, .int .i64 61, .int .i64 6]⟩, some ⟨5, .row [.int .u8] y⟩]⟩
def stFl512 (y z : List (List D)) (k j : Nat) : St := ⟨[.junk, .junk, .junk, .junk, .junk, .junk, .one (.row 1 1 0 k k), .junk, .one (.row 2 1 0 j j), .junk] ++ List.replicate 44 .junk, [none, some ⟨5, .row [.int .u8] y⟩, some ⟨5, .row [.int .u8] z⟩]⟩

noncomputable def sRFull512F : Nat → List D → Option (List Bool × V × List Blk)
 | base, [.i q0, .i q1, .i q2, .i q3, .i q4, .i q5, .i q6, .i q7, .i q8, .i q9, .i q10, .i q11, .i q12, .i q13, .l x] => some ([decide ([q0, q1, q2, q3, q4, q5, q6, q7, q8, q9, q10, q11, q12, q13] = [64, 80, 28, 34, 39, 14, 18, 41, 1, 8, 7, 19, 61, 6]), decide (x.length < 1099511627776)], .one (.row base 1 0 (hrestL 128 16 x (x.length : Nat)).length (hrestL 128 16 x (x.length : Nat)).length), [⟨5, .row [.int .u8] (hrestL 128 16 x (x.length : Nat))⟩])
 | _, _ => none
noncomputable def sRFull512 : FSpec := specB [tkd, tby] sRFull512F
noncomputable abbrev tabRFull512 : List (FuncId × FSpec) := []
theorem tabokRFull512 : TabOK Try.prog (tabOf tabRFull512) := TabOK.nil
noncomputable abbrev cRFull512 : Cx := mkcf true false tabRFull512 [] []
theorem oRFull512 : Ok cRFull512 := mkokf (sy := true) (rw := false) tabokRFull512 IlOK.nil JsOK.nil
theorem ok_RFull512 : FnOK Try.prog 124 sRFull512 := by
 refine fn_blk (cx := mkcf true false tabRFull512 [] []) (c := bodyOf Try.f124) Try.func124 (by kernel_rfl) (by kernel_rfl) ?_
 intro base ds chk v bs vs hF ht he hr
 unfold sRFull512F at hF
 split at hF
 · rename_i q0 q1 q2 q3 q4 q5 q6 q7 q8 q9 q10 q11 q12 q13 x
   cases hF
   have hvs : vs = [vkd q0 q1 q2 q3 q4 q5 q6 q7 q8 q9 q10 q11 q12 q13, vby x] := by simp only [encA, encV, encP, encL, Option.some.injEq] at he; exact he.symm
   subst hvs
   have hk : [q0, q1, q2, q3, q4, q5, q6, q7, q8, q9, q10, q11, q12, q13] = ([64, 80, 28, 34, 39, 14, 18, 41, 1, 8, 7, 19, 61, 6] : List Int) := of_decide_eq_true (ht _ (by simp))
   simp only [List.cons.injEq, and_true] at hk
   obtain ⟨rfl, rfl, rfl, rfl, rfl, rfl, rfl, rfl, rfl, rfl, rfl, rfl, rfl, rfl⟩ := hk

   have hx : x.length < 1099511627776 := of_decide_eq_true (ht (decide (x.length < 1099511627776)) (by simp))
   have h0 : evLS cRFull512 100 ((items (bodyOf Try.f124)).take 4) ⟨t0 Try.f124 [vkd 64 80 28 34 39 14 18 41 1 8 7 19 61 6, vby x], []⟩ (kfgN 0 [1, 2, 5, 6] [0, 4] 5 [(4, 1)] 2) =
    chks [okK .i64 128, decide ((0 + x.length) * 1 ≤ 140737488355328), decide (0 + x.length < 4611686018427387904), decide (0 + x.length ≤ x.length), decide (0 + x.length ≤ 0 + x.length), decide ((0 + x.length + 1) * 1 ≤ 140737488355328), decide (0 + x.length + 1 < 4611686018427387904)]
    (.done .normal (stF512 x (x.take (0 + x.length) ++ [[.i 128]]) (0 + x.length + 1) .junk .junk .junk)) := by kernel_rfl
   rw [Nat.zero_add, List.take_length, chks_true] at h0
   rotate_left 1
   · repeat' (first | exact allT0 | refine allTc ?_ ?_)
     all_goals first | (rw [decide_eq_true_iff]; omega) | exact okI (by omega) (by omega)
   refine Runs.items _ _ _ (RunsL.preN oRFull512 rfl (k := 4) h0 ?_)
   have hzb : zerosN 128 16 x.length < 128 := Nat.mod_lt _ (by decide)
   have hzu := hzb
   refine RunsL.loop (id := 0) (by kernel_rfl) (fun m s => ∃ j y, s = stF512 x y (x.length + 1 + j) .junk .junk .junk ∧ y = x ++ [[.i 128]] ++ List.replicate j [.i 0] ∧ j + m = zerosN 128 16 x.length) (zerosN 128 16 x.length) ⟨0, _, rfl, by simp, Nat.zero_add _⟩ ?_
   rintro m s ⟨j, y, rfl, hy, hm⟩
   have hyl : y.length = x.length + 1 + j := by rw [hy]; simp; omega
   have hevG : ∀ k : Nat, evLS cRFull512 100 (items (loopAt (bodyOf Try.f124) 4)) (stF512 x y k .junk .junk .junk) (kfgB 0 [1, 2, 5, 6] [0, 3] 4 [(3, 1)] 2 [1, 2, 5, 6] [0, 1] 2) =
    chks [okK .i64 (k : Nat), okK .i64 16, okK .i64 112] (bif !decide (((k : Nat) : Int).tmod 128 = 112) then
     chks [decide (k ≤ y.length), decide (k ≤ k), decide ((k + 1) * 1 ≤ 140737488355328), decide (k + 1 < 4611686018427387904)] (.done .normal (stF512 x (y.take k ++ [[.i 0]]) (k + 1) .junk .junk .junk))
    else .done (.exit 0) (stF512 x y k .junk .junk .junk)) := by intro k; kernel_rfl
   have hev := hevG (x.length + 1 + j)
   rw [chks_true (allTc (okI (by omega) (by omega)) (allTc (okI (by omega) (by omega)) (allT1 (okI (by omega) (by omega)))))] at hev
   have hmod : ((x.length + 1 + j : Nat) : Int).tmod 128 = ((x.length + 1 + j) % 128 : Nat) := by rw [Int.tmod_eq_emod_of_nonneg (by omega)]; omega
   rw [hmod] at hev
   unfold zerosN at hm hzu
   cases m with
   | succ m =>
     have hc : decide ((((x.length + 1 + j) % 128 : Nat) : Int) = 112) = false := by rw [decide_eq_false_iff_not]; omega
     rw [hc, Bool.not_false, cond_true, chks_true] at hev
     rotate_left 1
     · repeat' (first | exact allT0 | refine allTc ?_ ?_)
       all_goals (rw [decide_eq_true_iff]; omega)
     refine RunsL.allB oRFull512 rfl hev ⟨m, Nat.lt_succ_self m, j + 1, _, rfl, ?_, by unfold zerosN; omega⟩
     rw [← hyl, List.take_length, hy, List.append_assoc, ← List.replicate_succ']
   | zero =>
     have hc : decide ((((x.length + 1 + j) % 128 : Nat) : Int) = 112) = true := by rw [decide_eq_true_iff]; omega
     rw [hc, Bool.not_true, cond_false] at hev
     refine RunsL.allB oRFull512 rfl hev ?_
     have hj : j = zerosN 128 16 x.length := by unfold zerosN; omega
     clear hev hevG hmod hc hm
     have h2G : ∀ k : Nat, evLS cRFull512 100 (((items (bodyOf Try.f124)).drop (4 + 1)).take 3) (stF512 x y k .junk .junk .junk) (kfg 0 [1, 2, 5, 6, 7, 8, 9] [0, 1] 2) =
      chks [okK .i64 (x.length : Nat)] (.done .normal (stF512 x y k (vu64 (wrapK .u64 (wrapK .u64 (x.length : Nat) * 8))) (.one .nilsl) (vi64 0))) := by intro k; kernel_rfl
     have h2 := h2G (x.length + 1 + j)
     rw [chks_true (allT1 (okI (by omega) (by omega))), len_u64 hx] at h2
     refine RunsL.preS oRFull512 (k := 3) h2 ?_
     refine RunsL.flags (cx := mkcf false false [] [] []) (cx' := mkcf true false tabRFull512 [] []) rfl rfl ?_
     have h3G : ∀ (k : Nat) (n : Int), evLS (mkcf false false [] [] []) 200 ((((items (bodyOf Try.f124)).drop (4 + 1)).drop 3).take 1) (stF512 x y k (vu64 n) (.one .nilsl) (vi64 0)) (kfgN 0 [6, 8] [1, 33] 34 [(33, 2)] 3) = .done .normal (stFl512 y (lowsL n 16) k 16) := by intro k n; kernel_rfl
     refine RunsL.preN (mkokf TabOK.nil IlOK.nil JsOK.nil) rfl (k := 1) (h3G _ _) ?_
     rw [lows_lens hx (by decide)]
     generalize hzz : List.replicate (16 - 8) [D.i 0] ++ lensL ((x.length : Nat) : Int) 8 = z
     have hzl : z.length = 16 := by rw [← hzz, List.length_append, List.length_replicate, lensL_len]
     refine RunsL.flags (cx := mkcf true false tabRFull512 [] []) (cx' := mkcf false false [] [] []) rfl rfl ?_
     have hu' : hrestL 128 16 x (x.length : Nat) = y ++ z := by rw [hy, ← hzz, hj, ← List.append_assoc]; rfl
     have hul : (y ++ z).length = x.length + 1 + j + 16 := by rw [List.length_append, hyl, hzl]
     rw [hu', hul]
     have h4G : ∀ k : Nat, evLS cRFull512 100 ((((items (bodyOf Try.f124)).drop (4 + 1)).drop 3).drop 1) (stFl512 y z k 16) (kres cRFull512 Try.f124 base) =
      chks [decide (0 + 16 ≤ z.length), decide (k ≤ y.length), decide (k ≤ k), decide ((k + ((z.drop 0).take 16).length) * 1 ≤ 140737488355328), decide (k + ((z.drop 0).take 16).length < 4611686018427387904)]
      (.done .ret ⟨[.one (.row base 1 0 (k + ((z.drop 0).take 16).length) (k + ((z.drop 0).take 16).length))], [some ⟨5, .row [.int .u8] (y.take k ++ (z.drop 0).take 16)⟩]⟩) := by intro k; kernel_rfl
     have h4 := h4G (x.length + 1 + j)
     rw [List.drop_zero, List.take_of_length_le (Nat.le_of_eq hzl), hzl, ← hyl, List.take_length, chks_true] at h4
     rotate_left 1
     · repeat' (first | exact allT0 | refine allTc ?_ ?_)
       all_goals (rw [decide_eq_true_iff]; omega)
     rw [hyl] at h4
     exact runsL_evS oRFull512 (bs0 := [⟨5, .row [.int .u8] (y ++ z)⟩]) h4 (VEnt.refl _) ⟨rfl, CEnt.refl _, fun ts h => ⟨ts, h⟩⟩
 · cases hF
end Go.Proofs.Ytdkmcpbjicnfmaa
