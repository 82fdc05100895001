/-
  The contract of the document's sum of a text: of 512 bits.
-/
import Derived.Test.YtdkmcpbjicnfmaaLb62
import Derived.Test.YtdkmcpbjicnfmaaLb64
set_option maxRecDepth 100000
namespace Go.Proofs.Ytdkmcpbjicnfmaa
open Go Vx Go.RowKit

def wlL (w : Nat → Nat) (t : Nat) : List (List D) := (List.range t).map fun (p : Nat) => [.i ((wordN k512 w p : Nat) : Int)]
theorem wlL_len (w : Nat → Nat) (t : Nat) : (wlL w t).length = t := by simp [wlL]
theorem wlL_succ (w : Nat → Nat) (t : Nat) : wlL w (t + 1) = wlL w t ++ [[.i ((wordN k512 w t : Nat) : Int)]] := by
 unfold wlL
 rw [List.range_succ, List.map_append]
 rfl
theorem wlL_get (w : Nat → Nat) {t p : Nat} (h : p < t) : (((wlL w t).getD p []).headD (.n 0)).toI = ((wordN k512 w p : Nat) : Int) := by
 unfold wlL
 rw [List.getD_eq_getElem?_getD, List.getElem?_map, List.getElem?_range h]
 rfl
theorem blk_byte {P : List (List D)} {i j : Nat} (h : j < 128) : byN1 ((P.drop (128 * i)).take 128) j = byN1 P (128 * i + j) := by
 unfold byN1
 rw [List.getD_eq_getElem?_getD, List.getElem?_take_of_lt h, List.getElem?_drop, ← List.getD_eq_getElem?_getD]
theorem blk_rng {P : List (List D)} (hx : ∀ (i : Nat) (e : List D), P[i]? = some e → rngTs [.int .u8] e) (i : Nat) : ∀ (j : Nat) (e : List D), ((P.drop (128 * i)).take 128)[j]? = some e → rngTs [.int .u8] e := by
 intro j e he
 rw [List.getElem?_take] at he
 split at he
 · rw [List.getElem?_drop] at he
   exact hx _ e he
 · cases he
theorem u8_rng {v : Int} (h : 0 ≤ v ∧ v < 256) : rngTs [.int .u8] [.i v] := by
 simp only [rngTs, rngT, List.headD_cons, D.toI, inK, and_true, Bool.and_eq_true]
 exact ⟨decide_eq_true h.1, decide_eq_true h.2⟩
theorem hrest_rng {bl sz : Nat} {x : List (List D)} {n : Int} (hx : ∀ (i : Nat) (e : List D), x[i]? = some e → rngTs [.int .u8] e) : ∀ (i : Nat) (e : List D), (hrestL bl sz x n)[i]? = some e → rngTs [.int .u8] e := by
 intro i e he
 have hm := List.mem_of_getElem? he
 unfold hrestL at hm
 simp only [List.mem_append, List.mem_singleton] at hm
 rcases hm with (((hm | rfl) | hm) | hm) | hm
 · obtain ⟨j, hj⟩ := List.getElem?_of_mem hm
   exact hx j e hj
 · exact u8_rng (by decide)
 · rw [List.eq_of_mem_replicate hm]; exact u8_rng (by decide)
 · rw [List.eq_of_mem_replicate hm]; exact u8_rng (by decide)
 · unfold lensL at hm
   obtain ⟨j, _, rfl⟩ := List.mem_map.1 hm
   refine u8_rng ?_
   unfold lenI
   simp only [wrapK]
   omega
theorem byte_add {v b : Nat} (hv : v < 256 ^ 7) (hb : b < 256) : wrapK .u64 (wrapK .u64 ((v : Int) * 256) + wrapK .u64 (b : Int)) = ((v * 256 + b : Nat) : Int) := by simp only [wrapK]; omega
def stD (P : List (List D)) (len : Nat) (fr : Int) (sC : C) (w t x i c : V) (hw : List (Option Blk)) : St :=
 ⟨[.junk, .junk, .one (.ptr 0 0), .junk, .junk, vi64 8, .one (.ptr 1 0), .junk, .one (.row 2 1 0 len len), vi64 fr, w, t, x, i] ++ List.replicate 44 .junk ++ [c] ++ List.replicate 176 .junk, [some ⟨155, .ps [.int .i64 64, .int .i64 80, .int .i64 28, .int .i64 34, .int .i64 39, .int .i64 14, .int .i64 18, .int .i64 41, .int .i64 1, .int .i64 8, .int .i64 7, .int .i64 19, .int .i64 61, .int .i64 6]⟩, some ⟨159, sC⟩, some ⟨5, .row [.int .u8] P⟩] ++ hw⟩
abbrev wB (wl : List (List D)) : Option Blk := some ⟨52, .row [.int .u64] wl⟩
abbrev wR (k : Nat) : V := .one (.row 3 1 0 k k)
def stV (P : List (List D)) (len : Nat) (fr : Int) (sC : C) (k : Nat) (wl : List (List D)) (t : V) (vC : C) : St :=
 ⟨[.junk, .junk, .one (.ptr 0 0), .junk, .junk, vi64 8, .one (.ptr 1 0), .junk, .one (.row 2 1 0 len len), vi64 fr, wR k, .junk, .junk, .junk, .one (.ptr 4 0), t] ++ List.replicate 219 .junk, [some ⟨155, .ps [.int .i64 64, .int .i64 80, .int .i64 28, .int .i64 34, .int .i64 39, .int .i64 14, .int .i64 18, .int .i64 41, .int .i64 1, .int .i64 8, .int .i64 7, .int .i64 19, .int .i64 61, .int .i64 6]⟩, some ⟨159, sC⟩, some ⟨5, .row [.int .u8] P⟩, wB wl, some ⟨159, vC⟩]⟩
abbrev v8 (a b c d e f g h : Int) : C := .ps [.int .u64 a, .int .u64 b, .int .u64 c, .int .u64 d, .int .u64 e, .int .u64 f, .int .u64 g, .int .u64 h]
def v8W (v : W8) : C := v8 v.a v.b v.c v.d v.e v.f v.g v.h
theorem stD_ent {P : List (List D)} {len : Nat} {fr : Int} {c c' : C} {w t x i b : V} {hw : List (Option Blk)} (h : CEnt c c') (h1 : c = .dead → c' = .dead) (h2 : ∀ ts, c = .row ts [] → ∃ ts', c' = .row ts' []) : StEntG (stD P len fr c w t x i b hw) (stD P len fr c' w t x i b hw) := by
 refine ⟨rfl, fun _ => .inl rfl, fun j => ?_⟩
 match j with
 | 0 => exact .inl rfl
 | 1 => exact .inr ⟨_, _, _, rfl, rfl, h, h1, h2⟩
 | j + 2 => exact .inl rfl
theorem stV_ent {P : List (List D)} {len k : Nat} {fr : Int} {s c c' : C} {wl : List (List D)} {t : V} (h : CEnt c c') (h1 : c = .dead → c' = .dead) (h2 : ∀ ts, c = .row ts [] → ∃ ts', c' = .row ts' []) : StEntG (stV P len fr s k wl t c) (stV P len fr s k wl t c') := by
 refine ⟨rfl, fun _ => .inl rfl, fun j => ?_⟩
 match j with
 | 0 | 1 | 2 | 3 => exact .inl rfl
 | 4 => exact .inr ⟨_, _, _, rfl, rfl, h, h1, h2⟩
 | j + 5 => exact .inl rfl
theorem ints8 {σ : Sg} {d : Nat → Nat} (hd : ∀ i, d i < 2 ^ 64) : PRel σ [.int .u64 (d 0 : Nat), .int .u64 (d 1 : Nat), .int .u64 (d 2 : Nat), .int .u64 (d 3 : Nat), .int .u64 (d 4 : Nat), .int .u64 (d 5 : Nat), .int .u64 (d 6 : Nat), .int .u64 (d 7 : Nat)] ((List.range 8).map fun i => Value.int .u64 (d i : Nat)) := by
 have hk : ∀ i, inK .u64 (d i : Nat) = true := by
  intro i
  have := hd i
  simp only [inK, Bool.and_eq_true, decide_eq_true_eq]
  omega
 exact ⟨[_], _, rfl, ⟨rfl, hk 0⟩, [_], _, rfl, ⟨rfl, hk 1⟩, [_], _, rfl, ⟨rfl, hk 2⟩, [_], _, rfl, ⟨rfl, hk 3⟩, [_], _, rfl, ⟨rfl, hk 4⟩, [_], _, rfl, ⟨rfl, hk 5⟩, [_], _, rfl, ⟨rfl, hk 6⟩, [_], _, rfl, ⟨rfl, hk 7⟩, rfl⟩
theorem pk_v8 (s : Nat) : CEnt (cW s) (v8W (w8of s)) := by
 intro σ xs h
 obtain ⟨ys, zs, e, ⟨h1, _, _, _⟩, h5⟩ := h
 have h5 : zs = [] := h5
 subst h5
 rw [List.append_nil] at e
 subst e
 rw [h1]
 exact ints8 (d := digit 64 s) fun i => digit_lt 64 s i
def t1D (e f g h k w : Int) : Int := wrapK .u64 (wrapK .u64 (wrapK .u64 (wrapK .u64 (h + ((mixA512 1 e.toNat : Nat) : Int)) + chI e f g) + k / 1) + w)
def t2D (a b c : Int) : Int := wrapK .u64 (((mixA512 0 a.toNat : Nat) : Int) + majI a b c)
theorem t1D_eq {e : Nat} {f g h k w : Int} (he : e < 2 ^ 64) : t1D e f g h k w = t1I e f g h k w := by
 unfold t1D t1I
 rw [Int.toNat_natCast, mixA512_1, Int.ediv_one, bigI_eq (i := 14) (j := 18) (l := 41) he (by decide) (by decide) (by decide) (by decide) (by decide) (by decide)]
theorem t2D_eq {a : Nat} {b c : Int} (ha : a < 2 ^ 64) : t2D a b c = t2I a b c := by
 unfold t2D t2I
 rw [Int.toNat_natCast, mixA512_0, bigI_eq (i := 28) (j := 34) (l := 39) ha (by decide) (by decide) (by decide) (by decide) (by decide) (by decide)]
def schD (a b c d : Int) : Int := wrapK .u64 (wrapK .u64 (wrapK .u64 (((mixA512 3 a.toNat : Nat) : Int) + b) + ((mixA512 2 c.toNat : Nat) : Int)) + d)
theorem schD_eq (a b c d : Nat) : schD a b c d = (((smlN 64 19 61 6 a + b + smlN 64 1 8 7 c + d) % 2 ^ 64 : Nat) : Int) := by
 unfold schD
 rw [Int.toNat_natCast, Int.toNat_natCast, mixA512_3, mixA512_2]
 simp only [← Int.natCast_add, wrap64]
 congr 1
 omega
def outs512 (s : Nat) : List (List D) := (List.range 64).map fun (i : Nat) => [.i (outI s i)]
noncomputable def gN (x : List (List D)) (i : Nat) : Nat := greatsN (hpackW k512.h) x i

noncomputable def sRSum512F : Nat → List D → Option (List Bool × V × List Blk)
 | base, [.i q0, .i q1, .i q2, .i q3, .i q4, .i q5, .i q6, .i q7, .i q8, .i q9, .i q10, .i q11, .i q12, .i q13, .l x] => some ([decide ([q0, q1, q2, q3, q4, q5, q6, q7, q8, q9, q10, q11, q12, q13] = [64, 80, 28, 34, 39, 14, 18, 41, 1, 8, 7, 19, 61, 6]), decide (x.length < 1099511627776)], .one (.row base 1 0 64 64), [⟨5, .row [.int .u8] (outs512 (gN (hrestL 128 16 x (x.length : Nat)) ((hrestL 128 16 x (x.length : Nat)).length / 128)))⟩])
 | _, _ => none
noncomputable def sRSum512 : FSpec := specB [tkd, tby] sRSum512F
noncomputable abbrev tabRSum512 : List (FuncId × FSpec) := [(123, sRBeg), (124, sRFull512), (126, sRMix512), (125, sRCut512), (127, sRCon)]
theorem tabokRSum512 : TabOK Try.prog (tabOf tabRSum512) := (.cons ok_RBeg (.cons ok_RFull512 (.cons ok_RMix512 (.cons ok_RCut512 (.cons ok_RCon .nil)))))
set_option maxHeartbeats 2000000 in
theorem ok_RSum512 : FnOK Try.prog 106 sRSum512 := by
 refine fn_blk (cx := mkcf true false tabRSum512 [] []) (c := bodyOf Try.f106) Try.func106 (by kernel_rfl) (by kernel_rfl) ?_
 intro base ds chk v bs vs hF ht he hr
 unfold sRSum512F at hF
 split at hF
 · rename_i q0 q1 q2 q3 q4 q5 q6 q7 q8 q9 q10 q11 q12 q13 x
   cases hF
   have hvs : vs = [vkd q0 q1 q2 q3 q4 q5 q6 q7 q8 q9 q10 q11 q12 q13, vby x] := by simp only [encA, encV, encP, encL, Option.some.injEq] at he; exact he.symm
   subst hvs
   have hk : [q0, q1, q2, q3, q4, q5, q6, q7, q8, q9, q10, q11, q12, q13] = ([64, 80, 28, 34, 39, 14, 18, 41, 1, 8, 7, 19, 61, 6] : List Int) := of_decide_eq_true (ht _ (by simp))
   simp only [List.cons.injEq, and_true] at hk
   obtain ⟨rfl, rfl, rfl, rfl, rfl, rfl, rfl, rfl, rfl, rfl, rfl, rfl, rfl, rfl⟩ := hk

   have hx : x.length < 1099511627776 := of_decide_eq_true (ht (decide (x.length < 1099511627776)) (by simp))
   obtain ⟨_, hxr, _⟩ := hr
   have hxr : ∀ (i : Nat) (e : List D), x[i]? = some e → rngTs [.int .u8] e := hxr.2
   have hok := mkokf (sy := true) (rw := false) tabokRSum512 IlOK.nil JsOK.nil
   have hokx : Ok (mkcf false false tabRSum512 [] []) := mkokf tabokRSum512 IlOK.nil JsOK.nil
   have h0 : evLS (mkcf false false tabRSum512 [] []) 200 ((items (bodyOf Try.f106)).take 7) ⟨t0 Try.f106 [vkd 64 80 28 34 39 14 18 41 1 8 7 19 61 6, vby x], []⟩ (kfgN 0 [2, 5, 6, 8, 9] [0, 1, 10] 11 [(10, 2)] 3) =
    chks [decide (x.length < 1099511627776)] (.done .normal (stD (hrestL 128 16 x (x.length : Nat)) (hrestL 128 16 x (x.length : Nat)).length 0 (.ps hLs) .junk .junk .junk .junk .junk [])) := by kernel_rfl
   rw [chks_true (allT1 (by rw [decide_eq_true_iff]; omega))] at h0
   refine Runs.items _ _ _ (RunsL.flags (cx := mkcf false false tabRSum512 [] []) (cx' := mkcf true false tabRSum512 [] []) rfl rfl ?_)
   rw [← List.take_append_drop 7 (items (bodyOf Try.f106))]
   refine RunsL.append (RunsL.allN hokx rfl h0 ?_)
   refine RunsL.flags (cx := mkcf true false tabRSum512 [] []) (cx' := mkcf false false tabRSum512 [] []) rfl rfl ?_
   refine RunsL.entG (stD_ent (CEnt.of' hLs_ent) (fun h => by cases h) (fun _ h => by cases h)) ?_
   have hg : sha512N x = outN (gN (hrestL 128 16 x (x.length : Nat)) ((hrestL 128 16 x (x.length : Nat)).length / 128)) := by unfold sha512N; rw [seal_eq]; rfl
   have hPr := hrest_rng (bl := 128) (sz := 16) (n := ((x.length : Nat) : Int)) hxr
   have hPm := hrest_mod x ((x.length : Nat) : Int)
   have hPl : (hrestL 128 16 x (x.length : Nat)).length < 2199023255552 := by rw [hrestL_len]; have : zerosN 128 16 x.length < 128 := Nat.mod_lt _ (by decide); omega
   generalize hPP : hrestL 128 16 x (x.length : Nat) = P at *
   clear h0 hPP hg
   have hch1 : ∀ (fr : Int) (S : Nat), evLS (mkcf true false tabRSum512 [] []) 100 ((items (loopAt (bodyOf Try.f106) 7)).take 2) (stD P P.length fr (cW S) .junk .junk .junk .junk .junk []) (kfg 0 [2, 5, 6, 8, 9] [0, 1, 2] 3) =
    chks [okK .i64 (P.length : Nat)] (bif decide (fr < (P.length : Nat)) then .done .normal (stD P P.length fr (cW S) .junk .junk .junk .junk .junk []) else .done (.exit 2) (stD P P.length fr (cW S) .junk .junk .junk .junk .junk [])) := by intro fr S; kernel_rfl
   have hch2 : ∀ (fr : Int) (S : Nat), evLS (mkcf true false tabRSum512 [] []) 100 ((items (blkAt (loopAt (bodyOf Try.f106) 7) 2)).take 2) (stD P P.length fr (cW S) .junk .junk .junk .junk .junk []) (kfg 0 [2, 5, 6, 8, 9, 10, 11] [0, 1, 2] 3) =
    .done .normal (stD P P.length fr (cW S) (.one .nilsl) (vi64 0) .junk .junk .junk []) := by intro fr S; kernel_rfl
   have hnil : ∀ (fr : Int) (S : Nat), (⟨(stD P P.length fr (cW S) (.one .nilsl) (vi64 0) .junk .junk .junk []).t.set 10 (.one (.row (stD P P.length fr (cW S) (.one .nilsl) (vi64 0) .junk .junk .junk []).h.length 1 0 0 0)), (stD P P.length fr (cW S) (.one .nilsl) (vi64 0) .junk .junk .junk []).h ++ [wB []]⟩ : St) = stD P P.length fr (cW S) (wR 0) (vi64 0) .junk .junk .junk [wB []] := by intro fr S; kernel_rfl
   have hw1 : ∀ (fr : Int) (S k : Nat) (t : Int) (wl : List (List D)), evLS (mkcf true false tabRSum512 [] []) 100 ((items (loopAt (blkAt (loopAt (bodyOf Try.f106) 7) 2) 2)).take 2) (stD P P.length fr (cW S) (wR k) (vi64 t) .junk .junk .junk [wB wl]) (kfg 0 [2, 5, 6, 8, 9, 10, 11] [0, 1, 2, 3] 4) =
    bif decide (t < 80) then .done .normal (stD P P.length fr (cW S) (wR k) (vi64 t) .junk .junk .junk [wB wl]) else .done (.exit 4) (stD P P.length fr (cW S) (wR k) (vi64 t) .junk .junk .junk [wB wl]) := by intro fr S k t wl; kernel_rfl
   have hw2 : ∀ (fr : Int) (S k : Nat) (t : Int) (wl : List (List D)), evLS (mkcf true false tabRSum512 [] []) 100 ((items (blkAt (loopAt (blkAt (loopAt (bodyOf Try.f106) 7) 2) 2) 2)).take 2) (stD P P.length fr (cW S) (wR k) (vi64 t) .junk .junk .junk [wB wl]) (kfg 0 [2, 5, 6, 8, 9, 10, 11, 12, 58] [0, 1, 2, 3] 4) =
    .done .normal (stD P P.length fr (cW S) (wR k) (vi64 t) (vu64 0) .junk (vbool' (decide (t < 16))) [wB wl]) := by intro fr S k t wl; kernel_rfl
   have hw3 : ∀ (fr : Int) (S k : Nat) (t : Int) (wl : List (List D)), evLS (mkcf true false tabRSum512 [] []) 100 ((items (thenAt (blkAt (loopAt (blkAt (loopAt (bodyOf Try.f106) 7) 2) 2) 2) 2)).take 1) (stD P P.length fr (cW S) (wR k) (vi64 t) (vu64 0) .junk (vbool' true) [wB wl]) (kfg 0 [2, 5, 6, 8, 9, 10, 11, 12, 13] [0, 1, 2, 3] 4) =
    .done .normal (stD P P.length fr (cW S) (wR k) (vi64 t) (vu64 0) (vi64 0) .junk [wB wl]) := by intro fr S k t wl; kernel_rfl
   have hw4 : ∀ (fr : Int) (S k : Nat) (t x i : Int) (wl : List (List D)), evLS (mkcf true false tabRSum512 [] []) 100 (items (loopAt (thenAt (blkAt (loopAt (blkAt (loopAt (bodyOf Try.f106) 7) 2) 2) 2) 2) 1)) (stD P P.length fr (cW S) (wR k) (vi64 t) (vu64 x) (vi64 i) .junk [wB wl]) (kfgB 0 [2, 5, 6, 8, 9, 10, 11, 12, 13] [0, 1, 2, 3] 4 [] 4 [2, 5, 6, 8, 9, 10, 11, 12] [0, 1, 2, 3] 4) =
    bif decide (i < 8) then chks [okK .i64 (t * 8), okK .i64 (fr + t * 8), okK .i64 (fr + t * 8 + i), decide (0 ≤ fr + t * 8 + i), decide (fr + t * 8 + i < (P.length : Nat)), decide (0 + (fr + t * 8 + i).toNat < P.length), okK .i64 (i + 1)]
     (.done .normal (stD P P.length fr (cW S) (wR k) (vi64 t) (vu64 (wrapK .u64 (wrapK .u64 (x * 256) + wrapK .u64 ((P.getD (0 + (fr + t * 8 + i).toNat) []).headD (.n 0)).toI))) (vi64 (i + 1)) .junk [wB wl]))
    else .done (.exit 6) (stD P P.length fr (cW S) (wR k) (vi64 t) (vu64 x) .junk .junk [wB wl]) := by intro fr S k t x i wl; kernel_rfl
   have hw5 : ∀ (fr : Int) (S k : Nat) (t : Int) (wl : List (List D)), evLS (mkcf true false tabRSum512 [] []) 100 (items (elseAt (blkAt (loopAt (blkAt (loopAt (bodyOf Try.f106) 7) 2) 2) 2) 2)) (stD P P.length fr (cW S) (wR k) (vi64 t) (vu64 0) .junk (vbool' false) [wB wl]) (kfg 0 [2, 5, 6, 8, 9, 10, 11, 12] [0, 1, 2, 3] 4) =
    chks [okK .i64 (t - 2), decide (0 ≤ t - 2), decide (t - 2 < (k : Nat)), decide (0 + (t - 2).toNat < wl.length), okK .i64 (t - 7), decide (0 ≤ t - 7), decide (t - 7 < (k : Nat)), decide (0 + (t - 7).toNat < wl.length),
     okK .i64 (t - 15), decide (0 ≤ t - 15), decide (t - 15 < (k : Nat)), decide (0 + (t - 15).toNat < wl.length), okK .i64 (t - 16), decide (0 ≤ t - 16), decide (t - 16 < (k : Nat)), decide (0 + (t - 16).toNat < wl.length)]
    (.done .normal (stD P P.length fr (cW S) (wR k) (vi64 t) (vu64 (schD ((wl.getD (0 + (t - 2).toNat) []).headD (.n 0)).toI ((wl.getD (0 + (t - 7).toNat) []).headD (.n 0)).toI ((wl.getD (0 + (t - 15).toNat) []).headD (.n 0)).toI ((wl.getD (0 + (t - 16).toNat) []).headD (.n 0)).toI)) .junk .junk [wB wl])) := by intro fr S k t wl; kernel_rfl
   have hw6 : ∀ (fr : Int) (S k : Nat) (t x i : Int) (wl : List (List D)), evLS (mkcf true false tabRSum512 [] []) 100 ((items (blkAt (loopAt (blkAt (loopAt (bodyOf Try.f106) 7) 2) 2) 2)).drop 3) (stD P P.length fr (cW S) (wR k) (vi64 t) (vu64 x) .junk .junk [wB wl]) (kfgN 0 [2, 5, 6, 8, 9, 10, 11] [0, 1, 2, 5] 6 [(5, 3)] 4) =
    chks [decide (k ≤ wl.length), decide (k ≤ k), decide ((k + 1) * 8 ≤ 140737488355328), decide (k + 1 < 4611686018427387904)] (.done .normal (stD P P.length fr (cW S) (wR (k + 1)) (vi64 t) .junk .junk .junk [wB (wl.take k ++ [[.i x]])])) := by intro fr S k t x i wl; kernel_rfl
   have hw7 : ∀ (fr : Int) (S k : Nat) (t : Int) (wl : List (List D)), evLS (mkcf true false tabRSum512 [] []) 100 ((items (loopAt (blkAt (loopAt (bodyOf Try.f106) 7) 2) 2)).drop 3) (stD P P.length fr (cW S) (wR k) (vi64 t) .junk .junk .junk [wB wl]) (kfg 0 [2, 5, 6, 8, 9, 10, 11] [0, 1, 2, 3] 4) =
    chks [okK .i64 (t + 1)] (.done .normal (stD P P.length fr (cW S) (wR k) (vi64 (t + 1)) .junk .junk .junk [wB wl])) := by intro fr S k t wl; kernel_rfl
   have hr1 : ∀ (fr : Int) (S k : Nat) (t : V) (wl : List (List D)), evLS (mkcf true false tabRSum512 [] []) 100 (((items (blkAt (loopAt (bodyOf Try.f106) 7) 2)).drop 3).take 2) (stD P P.length fr (cW S) (wR k) t .junk .junk .junk [wB wl]) (kfg 0 [2, 5, 6, 8, 9, 10, 14, 15] [0, 1, 2, 3, 4] 5) =
    .done .normal (stV P P.length fr (cW S) k wl (vi64 0) (cW S)) := by intro fr S k t wl; kernel_rfl
   have hr2 : ∀ (fr : Int) (S k : Nat) (t a b c d e f g h : Int) (wl : List (List D)), evLS (mkcf true false tabRSum512 [] []) 100 (items (loopAt (blkAt (loopAt (bodyOf Try.f106) 7) 2) 5)) (stV P P.length fr (cW S) k wl (vi64 t) (v8 a b c d e f g h)) (kfg 0 [2, 5, 6, 8, 9, 10, 14, 15] [0, 1, 2, 3, 4] 5) =
    bif decide (t < 80) then chks [decide (0 ≤ t ∧ t < 80), okK .i64 0, decide (0 ≤ t), decide (t < (k : Nat)), decide (0 + t.toNat < wl.length), okK .i64 6, okK .i64 6, okK .i64 5, okK .i64 5, okK .i64 4, okK .i64 4, okK .i64 3, okK .i64 3, okK .i64 2, okK .i64 2, okK .i64 1, okK .i64 1, okK .i64 0, okK .i64 0, okK .i64 (t + 1)]
     (.done .normal (stV P P.length fr (cW S) k wl (vi64 (t + 1)) (v8 (wrapK .u64 (t1D e f g h ((k512.k.getD t.toNat 0 : Nat) : Int) ((wl.getD (0 + t.toNat) []).headD (.n 0)).toI + t2D a b c)) a b c (wrapK .u64 (d + t1D e f g h ((k512.k.getD t.toNat 0 : Nat) : Int) ((wl.getD (0 + t.toNat) []).headD (.n 0)).toI)) e f g)))
    else .done (.exit 8) (stV P P.length fr (cW S) k wl (vi64 t) (v8 a b c d e f g h)) := by intro fr S k t a b c d e f g h wl; kernel_rfl
   have hr3 : ∀ (fr : Int) (S k : Nat) (t : V) (a b c d e f g h : Int) (wl : List (List D)), evLS (mkcf false false tabRSum512 [] []) 100 ((items (blkAt (loopAt (bodyOf Try.f106) 7) 2)).drop 6) (stV P P.length fr (cW S) k wl t (v8 a b c d e f g h)) (kfg 0 [2, 5, 6, 8, 9] [0, 1, 2] 3) =
    .done .normal (stD P P.length fr (v8 (wrapK .u64 ((digit 64 S 0 : Nat) + a)) (wrapK .u64 ((digit 64 S 1 : Nat) + b)) (wrapK .u64 ((digit 64 S 2 : Nat) + c)) (wrapK .u64 ((digit 64 S 3 : Nat) + d)) (wrapK .u64 ((digit 64 S 4 : Nat) + e)) (wrapK .u64 ((digit 64 S 5 : Nat) + f)) (wrapK .u64 ((digit 64 S 6 : Nat) + g)) (wrapK .u64 ((digit 64 S 7 : Nat) + h))) .junk .junk .junk .junk .junk []) := by intro fr S k t a b c d e f g h wl; kernel_rfl
   have hch3 : ∀ (fr : Int) (S : Nat), evLS (mkcf true false tabRSum512 [] []) 100 ((items (loopAt (bodyOf Try.f106) 7)).drop 3) (stD P P.length fr (cW S) .junk .junk .junk .junk .junk []) (kfg 0 [2, 5, 6, 8, 9] [0, 1, 2] 3) =
    chks [okK .i64 128, okK .i64 (fr + 128)] (.done .normal (stD P P.length (fr + 128) (cW S) .junk .junk .junk .junk .junk [])) := by intro fr S; kernel_rfl
   refine RunsL.loop (id := 2) (by kernel_rfl) (fun m s => ∃ i : Nat, s = stD P P.length ((128 * i : Nat) : Int) (cW (gN P i)) .junk .junk .junk .junk .junk [] ∧ 128 * i ≤ P.length ∧ m = P.length - 128 * i) P.length ⟨0, rfl, by omega, by omega⟩ ?_
   rintro m s ⟨i, rfl, hi, hm⟩
   have h1 := hch1 ((128 * i : Nat) : Int) (gN P i)
   rw [chks_true (allT1 (okI (by omega) (by omega)))] at h1
   by_cases hc : 128 * i < P.length
   rotate_left 1
   · rw [decide_eq_false (show ¬ ((128 * i : Nat) : Int) < (P.length : Nat) by omega), cond_false] at h1
     refine RunsL.preS hok (k := 2) h1 ?_
     have hq : P.length / 128 = i := by omega
     show RunsL _ 0 _ _ _
     rw [hq]
     refine RunsL.flags (cx := mkcf false false tabRSum512 [] []) (cx' := mkcf true false tabRSum512 [] []) rfl rfl ?_
     have hend : ∀ (fr : Int) (S : Nat), evLS (mkcf false false tabRSum512 [] []) 300 ((items (bodyOf Try.f106)).drop (7 + 1)) (stD P P.length fr (cW S) .junk .junk .junk .junk .junk []) (kres (mkcf true false tabRSum512 [] []) Try.f106 base) =
      .done .ret ⟨[.one (.row base 1 0 64 64)], [some ⟨5, .row [.int .u8] (outs512 S)⟩]⟩ := by intro fr S; kernel_rfl
     exact runsL_evS hokx (bs0 := [⟨5, .row [.int .u8] (outs512 (gN P i))⟩]) (hend _ _) (VEnt.refl _) ⟨rfl, CEnt.refl _, fun ts h => ⟨ts, h⟩⟩
   · rw [decide_eq_true (show ((128 * i : Nat) : Int) < (P.length : Nat) by omega), cond_true] at h1
     refine RunsL.preS hok (k := 2) h1 (RunsL.blkAt (id := 3) (by kernel_rfl) ?_)
     clear h1
     refine RunsL.preS hok (k := 2) (hch2 _ _) ?_
     refine RunsL.nilrow (k := 10) (s := 1) (el := 52) (ts := [.int .u64]) rfl ?_
     rw [hnil]
     generalize hw : blw ((P.drop (128 * i)).take 128) = w
     have hbr := blk_rng hPr i
     have hbyte : ∀ t, t < 16 → ∀ j, j < 8 → byN1 P (128 * i + t * 8 + j) = byN1 ((P.drop (128 * i)).take 128) (t * 8 + j) := by
      intro t ht j hj
      rw [blk_byte (by omega), Nat.add_assoc]
     refine RunsL.loop (id := 4) (by kernel_rfl) (fun m s => ∃ t : Nat, s = stD P P.length ((128 * i : Nat) : Int) (cW (gN P i)) (wR t) (vi64 (t : Int)) .junk .junk .junk [wB (wlL w t)] ∧ t + m = 80) 80 ⟨0, rfl, rfl⟩ ?_
     rintro m2 s ⟨t, rfl, htm⟩
     have h1 := hw1 ((128 * i : Nat) : Int) (gN P i) t (t : Int) (wlL w t)
     cases m2 with
     | zero =>
       have ht80 : t = 80 := htm
       subst ht80
       rw [show decide (((80 : Nat) : Int) < 80) = false from rfl, cond_false] at h1
       refine RunsL.preS hok (k := 2) h1 ?_
       clear h1
       show RunsL _ 0 _ _ _
       refine RunsL.preG hok (k := 2) (hr1 _ _ _ _ _) (stV_ent (pk_v8 _) (fun h => by cases h) (fun _ h => by cases h)) ?_
       refine RunsL.loop (id := 8) (by kernel_rfl) (fun m s => ∃ t : Nat, t + m = 80 ∧ s = stV P P.length ((128 * i : Nat) : Int) (cW (gN P i)) 80 (wlL w 80) (vi64 (t : Int)) (v8W (rndsN k512 w (w8of (gN P i)) t))) 80 ⟨0, rfl, rfl⟩ ?_
       rintro m3 s ⟨t, htm, rfl⟩
       have hva : (rndsN k512 w (w8of (gN P i)) t).a < 2 ^ 64 := by
        cases t with
        | zero => exact digit_lt 64 _ 0
        | succ t => exact Nat.mod_lt _ (by decide)
       have hve : (rndsN k512 w (w8of (gN P i)) t).e < 2 ^ 64 := by
        cases t with
        | zero => exact digit_lt 64 _ 4
        | succ t => exact Nat.mod_lt _ (by decide)
       generalize hv : rndsN k512 w (w8of (gN P i)) t = v at *
       have h2 := hr2 ((128 * i : Nat) : Int) (gN P i) 80 (t : Int) v.a v.b v.c v.d v.e v.f v.g v.h (wlL w 80)
       rw [Int.toNat_natCast, Nat.zero_add] at h2
       cases m3 with
       | zero =>
         have htm : t = 80 := htm
         subst htm
         rw [show decide (((80 : Nat) : Int) < 80) = false from rfl, cond_false] at h2
         refine RunsL.allS hok h2 ?_
         clear h2
         show RunsL _ 0 _ _ _
         refine RunsL.flags (cx := mkcf false false tabRSum512 [] []) (cx' := mkcf true false tabRSum512 [] []) rfl rfl ?_
         have h3 := hr3 ((128 * i : Nat) : Int) (gN P i) 80 (vi64 ((80 : Nat) : Int)) v.a v.b v.c v.d v.e v.f v.g v.h (wlL w 80)
         simp only [← Int.natCast_add, wrap64] at h3
         have hgn : gN P (i + 1) = hpackW [(digit 64 (gN P i) 0 + v.a) % 2 ^ 64, (digit 64 (gN P i) 1 + v.b) % 2 ^ 64, (digit 64 (gN P i) 2 + v.c) % 2 ^ 64, (digit 64 (gN P i) 3 + v.d) % 2 ^ 64, (digit 64 (gN P i) 4 + v.e) % 2 ^ 64, (digit 64 (gN P i) 5 + v.f) % 2 ^ 64, (digit 64 (gN P i) 6 + v.g) % 2 ^ 64, (digit 64 (gN P i) 7 + v.h) % 2 ^ 64] := by
          show greatN (gN P i) ((P.drop (128 * i)).take 128) = _
          unfold greatN
          rw [seal_eq, ← hv, ← hw]
          rfl
         refine RunsL.allG hokx h3 (st' := stD P P.length ((128 * i : Nat) : Int) (cW (gN P (i + 1))) .junk .junk .junk .junk .junk []) (by rw [hgn]; exact stD_ent (CEnt.of' (ent_w8 _ _ _ _ _ _ _ _)) (fun h => by cases h) (fun _ h => by cases h)) ?_
         have h4 := hch3 ((128 * i : Nat) : Int) (gN P (i + 1))
         rw [chks_true (allTc (okI (by omega) (by omega)) (allT1 (okI (by omega) (by omega))))] at h4
         show RunsL _ 0 _ _ _
         refine RunsL.allS hok h4 ⟨m - 128, by omega, i + 1, ?_, by omega, by omega⟩
         rw [show ((128 * i : Nat) : Int) + 128 = ((128 * (i + 1) : Nat) : Int) by omega]
       | succ m3 =>
         rw [decide_eq_true (show ((t : Nat) : Int) < 80 by omega), cond_true, chks_true] at h2
         rotate_left 1
         · clear h2
           repeat' (first | exact allT0 | refine allTc ?_ ?_)
           all_goals first | (rw [decide_eq_true_iff, wlL_len]; omega) | (rw [decide_eq_true_iff]; omega) | exact okI (by omega) (by omega)
         rw [wlL_get w (show t < 80 by omega), t1D_eq hve, t2D_eq hva] at h2
         obtain ⟨r1, r2⟩ := rndI_eq (k := k512.k.getD t 0) (w := wordN k512 w t) hva hve
         rw [r1, r2] at h2
         refine RunsL.allS hok h2 ⟨m3, Nat.lt_succ_self m3, t + 1, by omega, ?_⟩
         show _ = stV P P.length ((128 * i : Nat) : Int) (cW (gN P i)) 80 (wlL w 80) (vi64 ((t + 1 : Nat) : Int)) (v8W (rndN k512 (k512.k.getD t 0) (wordN k512 w t) (rndsN k512 w (w8of (gN P i)) t)))
         rw [hv]
         rfl
     | succ m2 =>
       rw [decide_eq_true (show ((t : Nat) : Int) < 80 by omega), cond_true] at h1
       refine RunsL.preS hok (k := 2) h1 (RunsL.blkAt (id := 5) (by kernel_rfl) ?_)
       clear h1
       refine RunsL.preS hok (k := 2) (hw2 _ _ _ _ _) ?_
       rcases Nat.lt_or_ge t 16 with h16 | h16
       · rw [decide_eq_true (show ((t : Nat) : Int) < 16 by omega)]
         refine RunsL.thenAt (.tmp 58) (by kernel_rfl) (by kernel_rfl) ?_
         refine RunsL.preS hok (k := 1) (hw3 _ _ _ _ _) ?_
         refine RunsL.loop (id := 6) (by kernel_rfl) (fun m s => ∃ j : Nat, j + m = 8 ∧ s = stD P P.length ((128 * i : Nat) : Int) (cW (gN P i)) (wR t) (vi64 (t : Int)) (vu64 ((beN (fun j => byN1 ((P.drop (128 * i)).take 128) (t * 8 + j)) j : Nat) : Int)) (vi64 (j : Int)) .junk [wB (wlL w t)]) 8 ⟨0, rfl, rfl⟩ ?_
         rintro m3 s ⟨j, hj, rfl⟩
         have h4 := hw4 ((128 * i : Nat) : Int) (gN P i) t (t : Int) ((beN (fun j => byN1 ((P.drop (128 * i)).take 128) (t * 8 + j)) j : Nat) : Int) (j : Int) (wlL w t)
         rw [show (((128 * i : Nat) : Int) + (t : Int) * 8 + (j : Int)).toNat = 128 * i + t * 8 + j by omega, Nat.zero_add] at h4
         cases m3 with
         | succ m3 =>
           rw [decide_eq_true (show ((j : Nat) : Int) < 8 by omega), cond_true, chks_true] at h4
           rotate_left 1
           · clear h4
             repeat' (first | exact allT0 | refine allTc ?_ ?_)
             all_goals first | (rw [decide_eq_true_iff]; omega) | exact okI (by omega) (by omega)
           rw [byN1_cast hPr, hbyte t h16 j (by omega), byte_add (Nat.lt_of_lt_of_le (beN_lt (fun i => byN1_lt hbr _) j) (Nat.pow_le_pow_right (by decide) (by omega))) (byN1_lt hbr _)] at h4
           exact RunsL.allB hok rfl h4 ⟨m3, Nat.lt_succ_self m3, j + 1, by omega, rfl⟩
         | zero =>
           have hj : j = 8 := hj
           subst hj
           rw [show decide (((8 : Nat) : Int) < 8) = false from rfl, cond_false] at h4
           rw [show beN (fun j => byN1 ((P.drop (128 * i)).take 128) (t * 8 + j)) 8 = wordN k512 w t by rw [word_lo k512 w h16, ← hw]; rfl] at h4 ⊢
           refine RunsL.allB hok rfl h4 ?_
           refine (show ∀ R : Ex → St → Prop, ∀ s, R .normal s → RunsL (mkcf true false tabRSum512 [] []) 0 ((items (thenAt (blkAt (loopAt (blkAt (loopAt (bodyOf Try.f106) 7) 2) 2) 2) 2)).drop (1 + 1)) s R from fun R s h => RunsL.nil h) _ _ ?_
           show RunsL _ 0 _ _ _
           have h6 := hw6 ((128 * i : Nat) : Int) (gN P i) t (t : Int) ((wordN k512 w t : Nat) : Int) 0 (wlL w t)
           rw [chks_true] at h6
           rotate_left 1
           · clear h6
             repeat' (first | exact allT0 | refine allTc ?_ ?_)
             all_goals (rw [decide_eq_true_iff]; first | (rw [wlL_len]; omega) | omega)
           rw [show (wlL w t).take t = wlL w t from List.take_of_length_le (Nat.le_of_eq (wlL_len w t)), ← wlL_succ] at h6
           refine RunsL.allN hok rfl h6 ?_
           show RunsL _ 0 _ _ _
           have h7 := hw7 ((128 * i : Nat) : Int) (gN P i) (t + 1) (t : Int) (wlL w (t + 1))
           rw [chks_true (allT1 (okI (by omega) (by omega)))] at h7
           exact RunsL.allS hok h7 ⟨m2, Nat.lt_succ_self m2, t + 1, rfl, by omega⟩
       · rw [decide_eq_false (show ¬ ((t : Nat) : Int) < 16 by omega)]
         refine RunsL.elseAt (.tmp 58) (by kernel_rfl) (by kernel_rfl) ?_
         have h5 := hw5 ((128 * i : Nat) : Int) (gN P i) t (t : Int) (wlL w t)
         obtain ⟨u, rfl⟩ : ∃ u, t = u + 16 := ⟨t - 16, by omega⟩
         rw [show (((u + 16 : Nat) : Int) - 2).toNat = u + 14 by omega, show (((u + 16 : Nat) : Int) - 7).toNat = u + 9 by omega, show (((u + 16 : Nat) : Int) - 15).toNat = u + 1 by omega, show (((u + 16 : Nat) : Int) - 16).toNat = u by omega] at h5
         simp only [Nat.zero_add] at h5
         rw [chks_true] at h5
         rotate_left 1
         · clear h5
           repeat' (first | exact allT0 | refine allTc ?_ ?_)
           all_goals first | (rw [decide_eq_true_iff]; first | (rw [wlL_len]; omega) | omega) | exact okI (by omega) (by omega)
         rw [wlL_get w (show u + 14 < u + 16 by omega), wlL_get w (show u + 9 < u + 16 by omega), wlL_get w (show u + 1 < u + 16 by omega), wlL_get w (show u < u + 16 by omega), schD_eq] at h5
         rw [show (smlN 64 19 61 6 (wordN k512 w (u + 14)) + wordN k512 w (u + 9) + smlN 64 1 8 7 (wordN k512 w (u + 1)) + wordN k512 w u) % 2 ^ 64 = wordN k512 w (u + 16) from (word_hi k512 w u).symm] at h5
         refine RunsL.allS hok h5 ?_
         show RunsL _ 0 _ _ _
         have h6 := hw6 ((128 * i : Nat) : Int) (gN P i) (u + 16) ((u + 16 : Nat) : Int) ((wordN k512 w (u + 16) : Nat) : Int) 0 (wlL w (u + 16))
         rw [chks_true] at h6
         rotate_left 1
         · clear h6
           repeat' (first | exact allT0 | refine allTc ?_ ?_)
           all_goals (rw [decide_eq_true_iff]; first | (rw [wlL_len]; omega) | omega)
         rw [show (wlL w (u + 16)).take (u + 16) = wlL w (u + 16) from List.take_of_length_le (Nat.le_of_eq (wlL_len w (u + 16))), ← wlL_succ] at h6
         refine RunsL.allN hok rfl h6 ?_
         show RunsL _ 0 _ _ _
         have h7 := hw7 ((128 * i : Nat) : Int) (gN P i) (u + 16 + 1) ((u + 16 : Nat) : Int) (wlL w (u + 16 + 1))
         rw [chks_true (allT1 (okI (by omega) (by omega)))] at h7
         exact RunsL.allS hok h7 ⟨m2, Nat.lt_succ_self m2, (u + 16) + 1, rfl, by omega⟩
 · cases hF
end Go.Proofs.Ytdkmcpbjicnfmaa
