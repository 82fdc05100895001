/-
  The contract of sha.great: a block of the great sum.
-/
import Derived.Test.YteohgdpkdbckoaaL10
import Derived.Test.YteohgdpkdbckoaaS1
import Derived.Test.YteohgdpkdbckoaaX4
import Derived.Test.YteohgdpkdbckoaaL2
import Derived.Test.YteohgdpkdbckoaaU2
namespace Go.Proofs.Yteohgdpkdbckoaa
open Go Vx Go.RowKit

abbrev tw8 : Ty := .ag [.pk .u64 64 8]
abbrev vw8 (n : Nat) : V := .ag (.ps [.pk .u64 64 8 n])
abbrev tby : Ty := .one (.sl [.int .u8])
abbrev vby (x : List (List D)) : V := .one (.rd [.int .u8] x)
abbrev tk80 : Ty := .ptr [.pk .u64 64 80]
abbrev vk80 (n : Nat) : V := .one (.rp [.pk .u64 64 80] [.n n] 0)
abbrev hpackW (l : List Nat) : Nat := packL 64 l
theorem ent_w8 (a b c d e f g h : Nat) : VEnt (.ag (.ps [.int .u64 (a : Int), .int .u64 (b : Int), .int .u64 (c : Int), .int .u64 (d : Int), .int .u64 (e : Int), .int .u64 (f : Int), .int .u64 (g : Int), .int .u64 (h : Int)])) (vw8 (hpackW [a, b, c, d, e, f, g, h])) :=
  VEnt.dec (t := tw8) (ds := [.n (hpackW [a, b, c, d, e, f, g, h])]) rfl rfl
def w8of (s : Nat) : W8 := ⟨digit 64 s 0, digit 64 s 1, digit 64 s 2, digit 64 s 3, digit 64 s 4, digit 64 s 5, digit 64 s 6, digit 64 s 7⟩
def byN1 (x : List (List D)) (i : Nat) : Nat := ((x.getD i []).headD (.n 0)).toI.toNat
def blw (x : List (List D)) (t : Nat) : Nat := beN (fun j => byN1 x (t * 8 + j)) 8
noncomputable def greatN : Nat → List (List D) → Nat := hidden' fun s x => hpackW (blkN k512 (blw x) (w8of s)).toL
noncomputable def stGa (s : Nat) (x : List (List D)) (kk : Nat) (w : C) (i : Int) : St := ⟨[.junk, vby x, vk80 kk, .one (.ptr 0 0), .junk, .junk, .one (.ptr 1 0), .one (.ptr 2 0)] ++ List.replicate 20 .junk ++ [vi64 i] ++ List.replicate 182 .junk,
  [some ⟨61, .ps [.pk .u64 64 8 s]⟩, some ⟨61, .ps (List.replicate 8 (.int .u64 0))⟩, some ⟨139, w⟩]⟩
noncomputable def stGb (s : Nat) (x : List (List D)) (kk : Nat) (w : C) (i t : Int) : St := ⟨[.junk, vby x, vk80 kk, .one (.ptr 0 0), .junk, .junk, .one (.ptr 1 0), .one (.ptr 2 0), vi64 t] ++ List.replicate 19 .junk ++ [vi64 i] ++ List.replicate 182 .junk,
  [some ⟨61, .ps [.pk .u64 64 8 s]⟩, some ⟨61, .ps (List.replicate 8 (.int .u64 0))⟩, some ⟨139, w⟩]⟩
noncomputable def stGi (s : Nat) (x : List (List D)) (kk : Nat) (w : C) (i t : Int) (y : List (List D)) (n j : Int) : St := ⟨[.junk, vby x, vk80 kk, .one (.ptr 0 0), .junk, .junk, .one (.ptr 1 0), .one (.ptr 2 0), vi64 t] ++ List.replicate 19 .junk ++ [vi64 i] ++ List.replicate 10 .junk ++ [vby y, vi64 n, vi64 j] ++ List.replicate 169 .junk,
  [some ⟨61, .ps [.pk .u64 64 8 s]⟩, some ⟨61, .ps (List.replicate 8 (.int .u64 0))⟩, some ⟨139, w⟩]⟩
noncomputable def stGc (s : Nat) (x : List (List D)) (kk : Nat) (w : C) (i t : Int) (c : Bool) : St := ⟨[.junk, vby x, vk80 kk, .one (.ptr 0 0), .junk, .junk, .one (.ptr 1 0), .one (.ptr 2 0), vi64 t] ++ List.replicate 19 .junk ++ [vi64 i, .junk, .junk, .junk, .one (.bool c)] ++ List.replicate 178 .junk,
  [some ⟨61, .ps [.pk .u64 64 8 s]⟩, some ⟨61, .ps (List.replicate 8 (.int .u64 0))⟩, some ⟨139, w⟩]⟩
def schI (a b c d : Int) : Int := wrapK .u64 (wrapK .u64 (wrapK .u64 (smlI a (-19) (-61) 6 + b) + smlI c (-1) (-8) 7) + d)
noncomputable def stGr (s kk : Nat) (w : C) (a b c d e f g h t : Int) : St := ⟨[.junk, .junk, vk80 kk, .one (.ptr 0 0), .junk, .junk, .one (.ptr 1 0), .one (.ptr 2 0)] ++ List.replicate 7 .junk ++ [vu64 a, vu64 b, vu64 c, vu64 d, vu64 e, vu64 f, vu64 g, vu64 h] ++ List.replicate 88 .junk ++ [vi64 t] ++ List.replicate 99 .junk,
  [some ⟨61, .ps [.pk .u64 64 8 s]⟩, some ⟨61, .ps (List.replicate 8 (.int .u64 0))⟩, some ⟨139, w⟩]⟩

theorem stGa_ent {s : Nat} {x : List (List D)} {kk : Nat} {w w' : C} {i : Int} (h : CEnt w w') (h1 : w = .dead → w' = .dead) (h2 : ∀ ts, w = .row ts [] → ∃ ts', w' = .row ts' []) : StEntG (stGa s x kk w i) (stGa s x kk w' i) := by
  refine ⟨rfl, fun _ => .inl rfl, fun j => ?_⟩
  match j with
  | 0 | 1 => exact .inl rfl
  | 2 => exact .inr ⟨_, _, _, rfl, rfl, h, h1, h2⟩
  | j + 3 => exact .inl rfl
theorem byI_rng {x : List (List D)} (hx : ∀ (i : Nat) (e : List D), x[i]? = some e → rngTs [.int .u8] e) (i : Nat) : 0 ≤ ((x.getD i []).headD (.n 0)).toI ∧ ((x.getD i []).headD (.n 0)).toI < 256 := by
  rw [List.getD_eq_getElem?_getD]
  cases h : x[i]? with
  | none => exact ⟨by decide, by decide⟩
  | some e =>
    have := (hx i e h).1
    simp only [rngT, inK, Bool.and_eq_true, decide_eq_true_eq] at this
    exact this
theorem byN1_lt {x : List (List D)} (hx : ∀ (i : Nat) (e : List D), x[i]? = some e → rngTs [.int .u8] e) (i : Nat) : byN1 x i < 256 := by
  have := byI_rng hx i
  unfold byN1
  omega
theorem byN1_cast {x : List (List D)} (hx : ∀ (i : Nat) (e : List D), x[i]? = some e → rngTs [.int .u8] e) (i : Nat) : ((x.getD i []).headD (.n 0)).toI = (byN1 x i : Nat) := by
  have := byI_rng hx i
  unfold byN1
  omega
theorem beN_lt {f : Nat → Nat} (hf : ∀ i, f i < 256) : ∀ n, beN f n < 256 ^ n
  | 0 => by simp [beN]
  | n + 1 => by
    have h1 := beN_lt hf n
    have h2 := hf n
    rw [beN, Nat.pow_succ]
    generalize 256 ^ n = P at *
    omega
theorem word_lt {x : List (List D)} (hx : ∀ (i : Nat) (e : List D), x[i]? = some e → rngTs [.int .u8] e) (t : Nat) : wordN k512 (blw x) t < 2 ^ 64 := by
  rcases Nat.lt_or_ge t 16 with h | h
  · rw [word_lo _ _ h]
    exact beN_lt (fun i => byN1_lt hx _) 8
  · obtain ⟨u, rfl⟩ : ∃ u, t = u + 16 := ⟨t - 16, by omega⟩
    rw [word_hi]
    exact Nat.mod_lt _ (by decide)
theorem byte_step {v b : Nat} (hv : v < 256 ^ 7) (hb : b < 256) : (wrapK .u64 ((v : Int) * 256)).toNat ||| (wrapK .u64 (b : Int)).toNat = v * 256 + b := by
  have e1 : (wrapK .u64 ((v : Int) * 256)).toNat = v * 2 ^ 8 := by simp only [wrapK]; omega
  have e2 : (wrapK .u64 (b : Int)).toNat = b := by simp only [wrapK]; omega
  rw [e1, e2, Vx.or_add (m := 8) (by omega)]
theorem k512_dig : ∀ t, t < 80 → digit 64 (hpackW k512.k) t = k512.k.getD t 0 := by decide +kernel
theorem sch_eq {a b c d : Nat} (ha : a < 2 ^ 64) (hc : c < 2 ^ 64) : schI a b c d = (((smlN 64 19 61 6 a + b + smlN 64 1 8 7 c + d) % 2 ^ 64 : Nat) : Int) := by
  unfold schI
  rw [smlI_eq (i := 19) (j := 61) ha (by decide) (by decide) (by decide) (by decide), smlI_eq (i := 1) (j := 8) hc (by decide) (by decide) (by decide) (by decide)]
  simp only [← Int.natCast_add, wrap64]
  congr 1
  omega
theorem upd1_same {r : Nat → Int} {p : Nat} {v : Int} (h : r p = v) : upd1 r p v = r := by
  funext j
  unfold upd1
  by_cases hj : j = p
  · rw [if_pos hj, hj, h]
  · rw [if_neg hj]
theorem upd1_upd (r : Nat → Int) (p : Nat) (v w : Int) : upd1 (upd1 r p v) p w = upd1 r p w := by
  funext j
  unfold upd1
  by_cases hj : j = p
  · rw [if_pos hj, if_pos hj]
  · rw [if_neg hj, if_neg hj, if_neg hj]
theorem upd1_def (r : Nat → Int) (p : Nat) (v : Int) : (fun j => if j = p then v else r j) = upd1 r p v := rfl

noncomputable def sHGreatF : List D → Option (List Bool × V)
  | [.n s, .l x, .l [[.n kk]]] => some ([decide (x.length = 128), decide (kk = hpackW k512.k)], vw8 (greatN s x))
  | _ => none
noncomputable def sHGreat : FSpec := spec [tw8, tby, tk80] sHGreatF
noncomputable abbrev tabHGreat : List (FuncId × FSpec) := [(95, sRot64)]
set_option maxRecDepth 100000 in
theorem tabokHGreat : TabOK Try.prog (tabOf tabHGreat) := (.cons ok_Rot64 .nil)
set_option maxRecDepth 100000 in
theorem ok_HGreat : FnOK Try.prog 93 sHGreat := by
  refine fn_flat (cx := mkcs tabHGreat) (c := bodyOf Try.f93) Try.func93 (by kernel_rfl) (by kernel_rfl) rfl ?_
  intro ds chk v vs hF ht he hr base
  unfold sHGreatF at hF
  split at hF
  · rename_i s x kk
    cases hF
    have hvs : vs = [vw8 s, vby x, vk80 kk] := by simp only [encA, encV, encP, encL, Option.some.injEq] at he; exact he.symm
    subst hvs
    have h0 : evLS (mkcs tabHGreat) 100 ((items (bodyOf Try.f93)).take 3) ⟨t0 Try.f93 [vw8 s, vby x, vk80 kk], []⟩ (kfg 0 [1, 2, 3, 6, 7, 28] [0, 1, 2] 3) = .done .normal (stGa s x kk (psI .u64 80 fun _ => 0) 0) := by kernel_rfl
    have hrd : ∀ (wf : Nat → Int) (a b c d e f g h t : Int), evLS (mkcs tabHGreat) 100 (items (loopAt (bodyOf Try.f93) 6)) (stGr s kk (bgI .u64 80 wf) a b c d e f g h t) (kfg 0 [2, 3, 6, 7, 15, 16, 17, 18, 19, 20, 21, 22, 111] [0, 1, 2] 3) =
        bif decide (t < 80) then chks [decide (0 ≤ t), decide (t < 80), decide (0 + t.toNat * 1 < 80), decide (0 ≤ t), decide (t < 80), decide (0 + t.toNat < 80), okK .i64 (t + 1)]
          (.done .normal (stGr s kk (bgI .u64 80 wf) (wrapK .u64 (t1I e f g h (digit 64 kk (0 + t.toNat * 1) : Nat) (wf (0 + t.toNat)) + t2I a b c)) a b c (wrapK .u64 (d + t1I e f g h (digit 64 kk (0 + t.toNat * 1) : Nat) (wf (0 + t.toNat)))) e f g (t + 1)))
        else .done (.exit 4) (stGr s kk (bgI .u64 80 wf) a b c d e f g h t) := by intro wf a b c d e f g h t; kernel_rfl
    have hld : ∀ (wf : Nat → Int), evLS (mkcs tabHGreat) 100 (((items (bodyOf Try.f93)).drop 4).take 2) (stGa s x kk (bgI .u64 80 wf) 80) (kfg 0 [2, 3, 6, 7, 15, 16, 17, 18, 19, 20, 21, 22, 111] [0, 1, 2] 3) =
        .done .normal (stGr s kk (bgI .u64 80 wf) (digit 64 s 0 : Nat) (digit 64 s 1 : Nat) (digit 64 s 2 : Nat) (digit 64 s 3 : Nat) (digit 64 s 4 : Nat) (digit 64 s 5 : Nat) (digit 64 s 6 : Nat) (digit 64 s 7 : Nat) 0) := by intro wf; kernel_rfl
    have hsc : ∀ (wf : Nat → Int) (i t : Int), evLS (mkcs tabHGreat) 100 ((items (blkAt (loopAt (bodyOf Try.f93) 3) 2)).drop 3) (stGc s x kk (bgI .u64 80 wf) i t false) (kfg 0 [1, 2, 3, 6, 7, 28] [0, 1, 2] 3) =
        chks [okK .i64 (t - 2), decide (0 ≤ t - 2), decide (t - 2 < 80), decide (0 + (t - 2).toNat < 80), okK .i64 (t - 15), decide (0 ≤ t - 15), decide (t - 15 < 80), decide (0 + (t - 15).toNat < 80), okK .i64 (t - 7), decide (0 ≤ t - 7), decide (t - 7 < 80), decide (0 + (t - 7).toNat < 80),
          okK .i64 (t - 16), decide (0 ≤ t - 16), decide (t - 16 < 80), decide (0 + (t - 16).toNat < 80), decide (0 ≤ t), decide (t < 80), decide (0 + t.toNat < 80)]
          (.done .normal (stGa s x kk (.big 1 80 fun p => if p = 0 + t.toNat then [.int .u64 (schI (wf (0 + (t - 2).toNat)) (wf (0 + (t - 7).toNat)) (wf (0 + (t - 15).toNat)) (wf (0 + (t - 16).toNat)))] else [.int .u64 (wf p)]) i)) := by intro wf i t; kernel_rfl
    have hin : ∀ (wf : Nat → Int) (i t n j : Int) (y : List (List D)), evLS (mkcs tabHGreat) 100 (items (loopAt (thenAt (blkAt (loopAt (bodyOf Try.f93) 3) 2) 2) 1)) (stGi s x kk (bgI .u64 80 wf) i t y n j) (kfg 0 [1, 2, 3, 6, 7, 8, 28, 39, 40, 41] [0, 1, 2] 3) =
        bif decide (j < n) then chks [decide (0 ≤ j), decide (j < (y.length : Nat)), decide (0 ≤ t), decide (t < 80), decide (0 + t.toNat < 80), decide (0 ≤ t), decide (t < 80), decide (0 + t.toNat < 80), okK .i64 (j + 1)]
          (.done .normal (stGi s x kk (.big 1 80 fun p => if p = 0 + t.toNat then [.int .u64 (((wrapK .u64 (wf (0 + t.toNat) * 256)).toNat ||| (wrapK .u64 ((y.getD j.toNat []).headD (.n 0)).toI).toNat : Nat) : Int)] else [.int .u64 (wf p)]) i t y n (j + 1)))
        else .done (.exit 2) (stGi s x kk (bgI .u64 80 wf) i t y n j) := by intro wf i t n j y; kernel_rfl
    have hhd : ∀ (wf : Nat → Int) (i : Int), evLS (mkcs tabHGreat) 100 ((items (loopAt (bodyOf Try.f93) 3)).take 2) (stGa s x kk (bgI .u64 80 wf) i) (kfg 0 [1, 2, 3, 6, 7, 28] [0, 1, 2] 3) = bif decide (i < 80) then .done .normal (stGa s x kk (bgI .u64 80 wf) i) else .done (.exit 0) (stGa s x kk (bgI .u64 80 wf) i) := by intro wf i; kernel_rfl
    have htl : ∀ (wf : Nat → Int) (i : Int), evLS (mkcs tabHGreat) 100 ((items (loopAt (bodyOf Try.f93) 3)).drop 3) (stGa s x kk (bgI .u64 80 wf) i) (kfg 0 [1, 2, 3, 6, 7, 28] [0, 1, 2] 3) = chks [okK .i64 (i + 1)] (.done .normal (stGa s x kk (bgI .u64 80 wf) (i + 1))) := by intro wf i; kernel_rfl
    have hb4 : ∀ (wf : Nat → Int) (i : Int), evLS (mkcs tabHGreat) 100 ((items (blkAt (loopAt (bodyOf Try.f93) 3) 2)).take 2) (stGa s x kk (bgI .u64 80 wf) i) (kfg 0 [1, 2, 3, 6, 7, 8, 28, 32] [0, 1, 2] 3) = .done .normal (stGc s x kk (bgI .u64 80 wf) i i (decide (i < 16))) := by intro wf i; kernel_rfl
    have h6 : ∀ (wf : Nat → Int) (i t : Int), evLS (mkcs tabHGreat) 100 ((items (thenAt (blkAt (loopAt (bodyOf Try.f93) 3) 2) 2)).take 1) (stGc s x kk (bgI .u64 80 wf) i t true) (kfg 0 [1, 2, 3, 6, 7, 8, 28, 39, 40, 41] [0, 1, 2] 3) =
        chks [okK .i64 (8 * t), okK .i64 (8 * t), okK .i64 (8 * t + 8), decide (0 ≤ 8 * t + 8), decide (8 * t + 8 ≤ (x.length : Nat)), decide (0 ≤ 8 * t), decide (8 * t ≤ 8 * t + 8), okK .i64 (((x.drop (8 * t).toNat).take ((8 * t + 8).toNat - (8 * t).toNat)).length : Nat)]
          (.done .normal (stGi s x kk (bgI .u64 80 wf) i t ((x.drop (8 * t).toNat).take ((8 * t + 8).toNat - (8 * t).toNat)) (((x.drop (8 * t).toNat).take ((8 * t + 8).toNat - (8 * t).toNat)).length : Nat) 0)) := by intro wf i t; kernel_rfl
    have hex : ∀ (wf : Nat → Int) (i t n j : Int) (y : List (List D)), evLS (mkcs tabHGreat) 100 ((items (thenAt (blkAt (loopAt (bodyOf Try.f93) 3) 2) 2)).drop 2) (stGi s x kk (bgI .u64 80 wf) i t y n j) (kfg 0 [1, 2, 3, 6, 7, 28] [0, 1, 2] 3) = .done (.exit 1) (stGa s x kk (bgI .u64 80 wf) i) := by intro wf i t n j y; kernel_rfl
    have hel : ∀ (wf : Nat → Int) (t : Int), evLS (mkcs tabHGreat) 100 (items (elseAt (blkAt (loopAt (bodyOf Try.f93) 3) 2) 2)) (stGc s x kk (bgI .u64 80 wf) t t false) (kfg 0 [1, 2, 3, 6, 7, 8, 28, 32] [0, 1, 2] 3) = .done .normal (stGc s x kk (bgI .u64 80 wf) t t false) := by intro wf t; kernel_rfl
    have hend : ∀ (wf : Nat → Int) (a b c d e f g h t : Int), evLS (mkcs tabHGreat) 100 ((items (bodyOf Try.f93)).drop 7) (stGr s kk (bgI .u64 80 wf) a b c d e f g h t) (kres (mkcs tabHGreat) Try.f93 base) =
        outV (.ag (.ps [.int .u64 (wrapK .u64 ((digit 64 s 0 : Nat) + a)), .int .u64 (wrapK .u64 ((digit 64 s 1 : Nat) + b)), .int .u64 (wrapK .u64 ((digit 64 s 2 : Nat) + c)), .int .u64 (wrapK .u64 ((digit 64 s 3 : Nat) + d)), .int .u64 (wrapK .u64 ((digit 64 s 4 : Nat) + e)), .int .u64 (wrapK .u64 ((digit 64 s 5 : Nat) + f)), .int .u64 (wrapK .u64 ((digit 64 s 6 : Nat) + g)), .int .u64 (wrapK .u64 ((digit 64 s 7 : Nat) + h))])) := by intro wf a b c d e f g h t; kernel_rfl
    have hx : x.length = 128 := of_decide_eq_true (ht _ (by simp))
    have hkk : kk = hpackW k512.k := of_decide_eq_true (ht _ (by simp))
    obtain ⟨_, hxr, _⟩ := hr
    have hxr : ∀ (i : Nat) (e : List D), x[i]? = some e → rngTs [.int .u8] e := hxr.2
    refine Runs.items _ _ _ (RunsL.preG (mkoks tabokHGreat) (k := 3) h0 (stGa_ent ps_bg (fun h => by cases h) (fun _ h => by cases h)) ?_)
    refine RunsL.loop (id := 0) (by kernel_rfl) (fun m s' => ∃ (j : Nat) (wf : Nat → Int), s' = stGa s x kk (bgI .u64 80 wf) (j : Int) ∧ j + m = 80 ∧ (∀ p, p < j → wf p = (wordN k512 (blw x) p : Nat)) ∧ (∀ p, j ≤ p → wf p = 0)) 80
      ⟨0, fun _ => 0, rfl, rfl, fun p hp => absurd hp (Nat.not_lt_zero p), fun _ _ => rfl⟩ ?_
    rintro m s' ⟨j, wf, rfl, hj, hw, hz⟩
    cases m with
    | zero =>
      have hj : j = 80 := hj
      subst hj
      have h1 := hhd wf (80 : Nat)
      rw [show decide (((80 : Nat) : Int) < 80) = false from rfl, cond_false] at h1
      refine RunsL.preS (mkoks tabokHGreat) (k := 2) h1 ?_
      refine RunsL.preS (mkoks tabokHGreat) (k := 2) (hld wf) ?_
      refine RunsL.loop (id := 4) (by kernel_rfl) (fun m s' => ∃ t : Nat, t + m = 80 ∧ s' = (fun v : W8 => stGr s kk (bgI .u64 80 wf) v.a v.b v.c v.d v.e v.f v.g v.h (t : Int)) (rndsN k512 (blw x) (w8of s) t)) 80 ⟨0, rfl, rfl⟩ ?_
      rintro m s' ⟨t, htm, rfl⟩
      have hva : (rndsN k512 (blw x) (w8of s) t).a < 2 ^ 64 := by
        cases t with
        | zero => exact digit_lt 64 s 0
        | succ t => exact Nat.mod_lt _ (by decide)
      have hve : (rndsN k512 (blw x) (w8of s) t).e < 2 ^ 64 := by
        cases t with
        | zero => exact digit_lt 64 s 4
        | succ t => exact Nat.mod_lt _ (by decide)
      dsimp only
      generalize hv : rndsN k512 (blw x) (w8of s) t = v at *
      have h2 := hrd wf v.a v.b v.c v.d v.e v.f v.g v.h (t : Int)
      rw [Int.toNat_natCast, Nat.zero_add, Nat.mul_one, Nat.zero_add] at h2
      cases m with
      | zero =>
        have htm : t = 80 := htm
        subst htm
        rw [show decide (((80 : Nat) : Int) < 80) = false from rfl, cond_false] at h2
        refine RunsL.allS (mkoks tabokHGreat) h2 ?_
        have hg : greatN s x = hpackW [(digit 64 s 0 + v.a) % 2 ^ 64, (digit 64 s 1 + v.b) % 2 ^ 64, (digit 64 s 2 + v.c) % 2 ^ 64, (digit 64 s 3 + v.d) % 2 ^ 64, (digit 64 s 4 + v.e) % 2 ^ 64, (digit 64 s 5 + v.f) % 2 ^ 64, (digit 64 s 6 + v.g) % 2 ^ 64, (digit 64 s 7 + v.h) % 2 ^ 64] := by
          unfold greatN
          rw [seal_eq, ← hv]
          rfl
        rw [hg]
        have h3 := hend wf v.a v.b v.c v.d v.e v.f v.g v.h ((80 : Nat) : Int)
        simp only [← Int.natCast_add, wrap64] at h3
        exact runsL_evS (mkoks tabokHGreat) (bs0 := []) h3 (ent_w8 _ _ _ _ _ _ _ _) trivial
      | succ m =>
        rw [decide_eq_true (show ((t : Nat) : Int) < 80 by omega), cond_true, chks_true] at h2
        rotate_left 1
        · clear h2
          repeat' (first | exact allT0 | refine allTc ?_ ?_)
          all_goals first | (rw [decide_eq_true_iff]; omega) | exact okI (by omega) (by omega) | rfl
        rw [hkk, k512_dig t (by omega), hw t (by omega)] at h2
        obtain ⟨r1, r2⟩ := rndI_eq (k := k512.k.getD t 0) (w := wordN k512 (blw x) t) hva hve
        rw [r1, r2, ← hkk] at h2
        refine RunsL.allS (mkoks tabokHGreat) h2 ⟨m, Nat.lt_succ_self m, t + 1, by omega, ?_⟩
        show _ = (fun v : W8 => stGr s kk (bgI .u64 80 wf) v.a v.b v.c v.d v.e v.f v.g v.h ((t + 1 : Nat) : Int)) (rndN k512 (k512.k.getD t 0) (wordN k512 (blw x) t) (rndsN k512 (blw x) (w8of s) t))
        rw [hv]
        rfl
    | succ m =>
      have hjl : j < 80 := by omega
      have h1 := hhd wf (j : Int)
      rw [decide_eq_true (show ((j : Nat) : Int) < 80 by omega), cond_true] at h1
      refine RunsL.preS (mkoks tabokHGreat) (k := 2) h1 (RunsL.blkAt (id := 1) (by kernel_rfl) ?_)
      refine RunsL.preS (mkoks tabokHGreat) (k := 2) (hb4 wf (j : Int)) ?_
      have hlast : RunsL (mkcs tabHGreat) 0 ((items (loopAt (bodyOf Try.f93) 3)).drop 3) (stGa s x kk (bgI .u64 80 (upd1 wf j (wordN k512 (blw x) j : Nat))) (j : Int))
          (andThen (fun s' => ∃ m', m' < m + 1 ∧ ∃ (j : Nat) (wf : Nat → Int), s' = stGa s x kk (bgI .u64 80 wf) (j : Int) ∧ j + m' = 80 ∧ (∀ p, p < j → wf p = (wordN k512 (blw x) p : Nat)) ∧ (∀ p, j ≤ p → wf p = 0)) (inBlk 0 (andThen (fun s' => RunsL (mkcs tabHGreat) 0 ((items (bodyOf Try.f93)).drop (3 + 1)) s' (Post (mkcs tabHGreat) Try.f93 base (vw8 (greatN s x)) [])) (Post (mkcs tabHGreat) Try.f93 base (vw8 (greatN s x)) [])))) := by
        have h2 := htl (upd1 wf j (wordN k512 (blw x) j : Nat)) (j : Int)
        rw [chks_true (allT1 (okI (by omega) (by omega)))] at h2
        refine RunsL.allS (mkoks tabokHGreat) h2 ⟨m, Nat.lt_succ_self m, j + 1, _, rfl, by omega, fun p hp => ?_, fun p hp => ?_⟩
        · by_cases hpj : p = j
          · subst hpj; rw [upd1_at]
          · rw [upd1_ne hpj]; exact hw p (by omega)
        · rw [upd1_ne (by omega)]; exact hz p (by omega)
      rcases Nat.lt_or_ge j 16 with h16 | h16
      · rw [decide_eq_true (show ((j : Nat) : Int) < 16 by omega)]
        refine RunsL.thenAt (.tmp 32) (by kernel_rfl) (by kernel_rfl) ?_
        have h3 := h6 wf (j : Int) (j : Int)
        have e1 : (8 * (j : Int)).toNat = 8 * j := by omega
        have e2 : (8 * (j : Int) + 8).toNat - 8 * j = 8 := by omega
        have e3 : ((x.drop (8 * j)).take 8).length = 8 := by rw [List.length_take, List.length_drop, hx]; omega
        rw [e1, e2, e3, chks_true] at h3
        rotate_left 1
        · clear h3
          repeat' (first | exact allT0 | refine allTc ?_ ?_)
          all_goals first | (rw [decide_eq_true_iff]; omega) | exact okI (by omega) (by omega) | rfl
        refine RunsL.preS (mkoks tabokHGreat) (k := 1) h3 ?_
        have hy : ∀ i, i < 8 → ((x.drop (8 * j)).take 8).getD i [] = x.getD (8 * j + i) [] := by
          intro i hi
          rw [List.getD_eq_getElem?_getD, List.getElem?_take_of_lt hi, List.getElem?_drop, ← List.getD_eq_getElem?_getD]
        generalize (x.drop (8 * j)).take 8 = y at *
        refine RunsL.loop (id := 2) (by kernel_rfl) (fun m' s' => ∃ k : Nat, k + m' = 8 ∧ s' = stGi s x kk (bgI .u64 80 (upd1 wf j (beN (fun i => byN1 x (j * 8 + i)) k : Nat))) (j : Int) (j : Int) y 8 (k : Int)) 8 ⟨0, rfl, ?_⟩ ?_
        · rw [upd1_same (show wf j = ((beN (fun i => byN1 x (j * 8 + i)) 0 : Nat) : Int) from hz j (Nat.le_refl j))]; rfl
        rintro m' s' ⟨k, hk, rfl⟩
        have h4 := hin (upd1 wf j (beN (fun i => byN1 x (j * 8 + i)) k : Nat)) (j : Int) (j : Int) 8 (k : Int) y
        rw [Int.toNat_natCast, Int.toNat_natCast, Nat.zero_add, upd1_at, bg_upd, upd1_def, upd1_upd, e3] at h4
        cases m' with
        | zero =>
          have hk : k = 8 := hk
          subst hk
          rw [show decide (((8 : Nat) : Int) < 8) = false from rfl, cond_false] at h4
          refine RunsL.allS (mkoks tabokHGreat) h4 ?_
          refine RunsL.allS (mkoks tabokHGreat) (hex _ (j : Int) (j : Int) 8 ((8 : Nat) : Int) y) ?_
          show RunsL _ 0 _ _ _
          rw [word_lo k512 (blw x) h16] at hlast
          exact hlast
        | succ m' =>
          rw [decide_eq_true (show ((k : Nat) : Int) < 8 by omega), cond_true, chks_true] at h4
          rotate_left 1
          · clear h4
            repeat' (first | exact allT0 | refine allTc ?_ ?_)
            all_goals first | (rw [decide_eq_true_iff]; omega) | exact okI (by omega) (by omega) | rfl
          rw [hy k (by omega), byN1_cast hxr, byte_step (Nat.lt_of_lt_of_le (beN_lt (fun i => byN1_lt hxr _) k) (Nat.pow_le_pow_right (by decide) (by omega))) (byN1_lt hxr _), Nat.mul_comm 8 j] at h4
          exact RunsL.allS (mkoks tabokHGreat) h4 ⟨m', Nat.lt_succ_self m', k + 1, by omega, rfl⟩
      · rw [decide_eq_false (show ¬ ((j : Nat) : Int) < 16 by omega)]
        refine RunsL.elseAt (.tmp 32) (by kernel_rfl) (by kernel_rfl) ?_
        refine RunsL.allS (mkoks tabokHGreat) (n := 100) (kt := [1, 2, 3, 6, 7, 8, 28, 32]) (kh := [0, 1, 2]) (m := 3) (e := .normal) (st' := stGc s x kk (bgI .u64 80 wf) (j : Int) (j : Int) false) (hel wf (j : Int)) ?_
        have h5 := hsc wf (j : Int) (j : Int)
        obtain ⟨u, rfl⟩ : ∃ u, j = u + 16 := ⟨j - 16, by omega⟩
        have e1 : (((u + 16 : Nat) : Int) - 2).toNat = u + 14 := by omega
        have e2 : (((u + 16 : Nat) : Int) - 7).toNat = u + 9 := by omega
        have e3 : (((u + 16 : Nat) : Int) - 15).toNat = u + 1 := by omega
        have e4 : (((u + 16 : Nat) : Int) - 16).toNat = u := by omega
        rw [e1, e2, e3, e4, Int.toNat_natCast] at h5
        simp only [Nat.zero_add] at h5
        rw [chks_true] at h5
        rotate_left 1
        · clear h5
          repeat' (first | exact allT0 | refine allTc ?_ ?_)
          all_goals first | (rw [decide_eq_true_iff]; omega) | exact okI (by omega) (by omega) | rfl
        rw [hw (u + 14) (by omega), hw (u + 9) (by omega), hw (u + 1) (by omega), hw u (by omega), sch_eq (word_lt hxr _) (word_lt hxr _), bg_upd, upd1_def] at h5
        refine RunsL.allS (mkoks tabokHGreat) h5 ?_
        show RunsL _ 0 _ _ _
        rw [word_hi] at hlast
        exact hlast
  · cases hF
end Go.Proofs.Yteohgdpkdbckoaa
