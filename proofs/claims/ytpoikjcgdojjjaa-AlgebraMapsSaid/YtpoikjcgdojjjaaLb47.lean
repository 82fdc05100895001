/-
  Contracts of the document's scalars: Minus, Times, Inverse.
-/
import Derived.Test.YtpoikjcgdojjjaaLb46
namespace Go.Proofs.Ytpoikjcgdojjjaa
open Go Vx Go.RowKit

theorem bsum_zero : ∀ n, bsum (fun _ => 0) n = 0
  | 0 => rfl
  | n + 1 => by rw [bsum, bsum_zero n, Int.zero_mul]; rfl
theorem and255 (x : Int) : wrapK .u8 (wrapK .i64 ((BitVec.ofInt IntKind.i64.bits x &&& BitVec.ofInt IntKind.i64.bits 255).toNat : Int)) = x % 256 := by
  have h1 : (BitVec.ofInt IntKind.i64.bits x &&& BitVec.ofInt IntKind.i64.bits 255).toNat = (x % 18446744073709551616).toNat % 256 := by
    rw [BitVec.toNat_and]
    show (BitVec.ofInt 64 x).toNat &&& 255 = _
    rw [BitVec.toNat_ofInt, show (255 : Nat) = 2 ^ 8 - 1 from rfl, Nat.and_two_pow_sub_one_eq_mod]
    rfl
  rw [h1]
  simp only [wrapK]
  omega
def stMi (l c a : Nat) (sb : C) (bo i : Int) : St := ⟨[.junk, .junk, .one (.ptr 0 0), .junk, .one (.ptr 2 0), .one (.ptr 4 0), .one (.ptr 6 0), .one (.ptr 7 0), vi64 bo, vi64 i] ++ List.replicate 29 .junk,
  [some ⟨70, .ps [.pk .u8 8 32 a]⟩, none, some ⟨70, .ps [.int .u8 0, .int .u8 0, .int .u8 0, .int .u8 0, .int .u8 0, .int .u8 0, .int .u8 0, .int .u8 0, .int .u8 0, .int .u8 0, .int .u8 0, .int .u8 0, .int .u8 0, .int .u8 0, .int .u8 0, .int .u8 0, .int .u8 0, .int .u8 0, .int .u8 0, .int .u8 0, .int .u8 0, .int .u8 0, .int .u8 0, .int .u8 0, .int .u8 0, .int .u8 0, .int .u8 0, .int .u8 0, .int .u8 0, .int .u8 0, .int .u8 0, .int .u8 0]⟩, none, some ⟨22, .ps [.pk .u8 8 32 l]⟩, none, some ⟨70, .ps [.pk .u8 8 32 c]⟩, some ⟨70, sb⟩]⟩
theorem stMi_ent {l c a : Nat} {bo i : Int} {s s' : C} (h : CEnt s s') (h1 : s = .dead → s' = .dead) (h2 : ∀ ts, s = .row ts [] → ∃ ts', s' = .row ts' []) : StEntG (stMi l c a s bo i) (stMi l c a s' bo i) := by
  refine ⟨rfl, fun _ => .inl rfl, fun j => ?_⟩
  match j with
  | 0 | 1 | 2 | 3 | 4 | 5 | 6 => exact .inl rfl
  | 7 => exact .inr ⟨_, _, _, rfl, rfl, h, h1, h2⟩
  | j + 8 => exact .inl rfl
/-- Bytes that are told by their sum. -/
theorem bg_pk {c N : Nat} {r : Nat → Int} (h : ∀ j, j < c → 0 ≤ r j ∧ r j < 256) (hN : bsum r c = (N : Int)) : CEnt (bgI .u8 c r) (.ps [.pk .u8 8 c N]) := by
  have hb := bsum_bd h hN
  have hlt : N < 2 ^ (8 * c) := by
    have := (bsum_rng c h).2
    rw [hN, pow_castN] at this
    exact Int.ofNat_lt.1 this
  have h2 : CEnt (psI .u8 c r) (.ps [.pk .u8 8 c N]) := CEnt.of' (ent_pk (f := r) hlt rfl (by decide) hb)
  exact fun σ xs hx => h2 σ xs (bg_ps σ xs hx)
def stTi (a b : Nat) (sb : C) (i : Int) (c k : V) : St := ⟨[.junk, .junk, .one (.ptr 0 0), .one (.ptr 1 0), .one (.ptr 2 0), .one (.ptr 3 0), vi64 i, c, k] ++ List.replicate 42 .junk,
  [some ⟨70, .ps [.pk .u8 8 32 a]⟩, some ⟨70, .ps [.pk .u8 8 32 b]⟩, some ⟨70, .ps [.int .u8 0, .int .u8 0, .int .u8 0, .int .u8 0, .int .u8 0, .int .u8 0, .int .u8 0, .int .u8 0, .int .u8 0, .int .u8 0, .int .u8 0, .int .u8 0, .int .u8 0, .int .u8 0, .int .u8 0, .int .u8 0, .int .u8 0, .int .u8 0, .int .u8 0, .int .u8 0, .int .u8 0, .int .u8 0, .int .u8 0, .int .u8 0, .int .u8 0, .int .u8 0, .int .u8 0, .int .u8 0, .int .u8 0, .int .u8 0, .int .u8 0, .int .u8 0]⟩, some ⟨61, sb⟩]⟩
theorem stTi_ent {a b : Nat} {i : Int} {c k : V} {s s' : C} (h : CEnt s s') (h1 : s = .dead → s' = .dead) (h2 : ∀ ts, s = .row ts [] → ∃ ts', s' = .row ts' []) : StEntG (stTi a b s i c k) (stTi a b s' i c k) := by
  refine ⟨rfl, fun _ => .inl rfl, fun j => ?_⟩
  match j with
  | 0 | 1 | 2 => exact .inl rfl
  | 3 => exact .inr ⟨_, _, _, rfl, rfl, h, h1, h2⟩
  | j + 4 => exact .inl rfl

noncomputable def sSMinusF : List D → Option (List Bool × V)
  | [.n a, .n b] => some ([], vb32 (restP (restP a + restP (minusS 7237005577332262213973186563042994240857116359379907606001950938285454250989 (restP b)))))
  | _ => none
noncomputable def sSMinus : FSpec := spec [tb32, tb32] sSMinusF
noncomputable abbrev tabSMinus : List (FuncId × FSpec) := [(138, sSOrder), (141, sSRest), (114, sSPlus)]
set_option maxRecDepth 100000 in
theorem tabokSMinus : TabOK Try.prog (tabOf tabSMinus) := (.cons ok_SOrder (.cons ok_SRest (.cons ok_SPlus .nil)))
set_option maxRecDepth 100000 in
theorem ok_SMinus : FnOK Try.prog 115 sSMinus := by
  refine fn_flat (cx := mkcs tabSMinus) (c := bodyOf Try.f115) Try.func115 (by kernel_rfl) (by kernel_rfl) rfl ?_
  intro ds chk v vs hF ht he hr base
  unfold sSMinusF at hF
  split at hF
  · rename_i a b
    cases hF
    have hvs : vs = [vb32 a, vb32 b] := by simp only [encA, encV, encP, encL, Option.some.injEq] at he; exact he.symm
    subst hvs
    obtain ⟨_, h2, _⟩ := hr
    have hb := rng_b32 h2
    have eb : bytN (listI 32 (bd b)) = b := bytN_digits (c := 32) (by rw [p256]; exact hb)
    refine Runs.items _ _ _ (RunsL.preG (mkoks tabokSMinus) (n := 100) (k := 6) (kt := [2, 4, 5, 6, 7, 8, 9]) (kh := [0, 2, 4, 6, 7]) (m := 8) (e := .normal) (st1 := stMi 7237005577332262213973186563042994240857116359379907606001950938285454250989 (restP (bytN (listI 32 (bd b)))) a (psI .u8 32 fun _ => 0) 0 0) (st' := stMi 7237005577332262213973186563042994240857116359379907606001950938285454250989 (restP (bytN (listI 32 (bd b)))) a (bgI .u8 32 fun _ => 0) 0 0) (by kernel_rfl)
      (stMi_ent ps_bg (fun h => by cases h) (fun _ h => by cases h)) ?_)
    rw [eb]
    have hcl := restP_lt b
    generalize restP b = c at *
    obtain ⟨l, hl⟩ : ∃ l, l = 7237005577332262213973186563042994240857116359379907606001950938285454250989 := ⟨_, rfl⟩
    rw [← hl] at hcl
    rw [← hl]
    refine RunsL.loop (id := 0) (by kernel_rfl) (fun m s => ∃ (j : Nat) (bo : Int) (r : Nat → Int), s = stMi l c a (bgI .u8 32 r) bo (j : Int) ∧ j + m = 32 ∧ (bo = 0 ∨ bo = 1) ∧ (∀ p, 0 ≤ r p ∧ r p < 256) ∧ bsum r j = bsum (bd l) j - bsum (bd c) j + bo * 2 ^ (8 * j)) 32
      ⟨0, 0, fun _ => 0, rfl, rfl, .inl rfl, fun _ => (⟨by decide, by decide⟩ : (0 : Int) ≤ 0 ∧ (0 : Int) < 256), by simp [bsum]⟩ ?_
    rintro m s ⟨j, bo, r, rfl, hj, hbo, hr, hs⟩
    have hev : ∀ i : Int, evLS (mkcs tabSMinus) 100 (items (loopAt (bodyOf Try.f115) 6)) (stMi l c a (bgI .u8 32 r) bo i) (kfg 0 [2, 4, 5, 6, 7, 8, 9] [0, 2, 4, 6, 7] 8) =
        bif decide (i < 32) then chks [decide (0 ≤ i), decide (i < 32), decide (0 + i.toNat < 32), okK .i64 (bd l (0 + i.toNat)), decide (0 ≤ i), decide (i < 32), decide (0 + i.toNat < 32), okK .i64 (bd c (0 + i.toNat)),
          okK .i64 (bd l (0 + i.toNat) - bd c (0 + i.toNat)), okK .i64 (bd l (0 + i.toNat) - bd c (0 + i.toNat) - bo), decide (0 ≤ i), decide (i < 32), decide (0 + i.toNat < 32)]
          (bif decide ((bd l (0 + i.toNat) - bd c (0 + i.toNat) - bo) < 0) then chks [okK .i64 (i + 1)] (.done .normal (stMi l c a (.big 1 32 fun p => if p = 0 + i.toNat then [.int .u8 (wrapK .u8 (wrapK .i64 ((BitVec.ofInt IntKind.i64.bits (bd l (0 + i.toNat) - bd c (0 + i.toNat) - bo) &&& BitVec.ofInt IntKind.i64.bits 255).toNat : Int)))] else [.int .u8 (r p)]) 1 (i + 1)))
           else chks [okK .i64 (i + 1)] (.done .normal (stMi l c a (.big 1 32 fun p => if p = 0 + i.toNat then [.int .u8 (wrapK .u8 (wrapK .i64 ((BitVec.ofInt IntKind.i64.bits (bd l (0 + i.toNat) - bd c (0 + i.toNat) - bo) &&& BitVec.ofInt IntKind.i64.bits 255).toNat : Int)))] else [.int .u8 (r p)]) 0 (i + 1))))
        else .done (.exit 0) (stMi l c a (bgI .u8 32 r) bo i) := by intro i; kernel_rfl
    have hev := hev (j : Int)
    rw [and255, bg_upd, Int.toNat_natCast, Nat.zero_add] at hev
    have hx := bd_rng l j
    have hy := bd_rng c j
    cases m with
    | zero =>
      have hj : j = 32 := hj
      subst hj
      rw [show decide (((32 : Nat) : Int) < 32) = false from rfl, cond_false] at hev
      have hlb : l < 2 ^ (8 * 32) := by rw [hl]; decide +kernel
      have hv : bsum r 32 = ((l - c : Nat) : Int) := by
        obtain ⟨r1, r2⟩ := bsum_rng 32 (fun p _ => hr p)
        rw [bsum_digits, bsum_digits, Nat.mod_eq_of_lt hlb, Nat.mod_eq_of_lt (Nat.lt_trans hcl hlb)] at hs
        rw [pow_castN, p256] at hs r2
        rcases hbo with hbo | hbo <;> rw [hbo] at hs <;> omega
      refine RunsL.allG (mkoks tabokSMinus) hev (st' := stMi l c a (.ps [.pk .u8 8 32 (l - c)]) bo 32) (stMi_ent (bg_pk (fun p _ => hr p) hv) (fun h => by cases h) (fun _ h => by cases h)) ?_
      have hm : minusS l c = l - c := by rw [minusS_eq, hl]; rw [hl] at hcl; omega
      rw [hm]
      exact runsL_evS (mkoks tabokSMinus) (n := 100) (bs0 := []) (by kernel_rfl) (VEnt.refl _) trivial
    | succ m =>
      rw [decide_eq_true (show ((j : Nat) : Int) < 32 by omega), cond_true, chks_true, chks_true, chks_true] at hev
      rotate_left 1
      · exact allT1 (okI (by omega) (by omega))
      · exact allT1 (okI (by omega) (by omega))
      · clear hev
        generalize bd l j = x at *
        generalize bd c j = y at *
        clear hs
        repeat' (first | exact allT0 | refine allTc ?_ ?_)
        all_goals first | (rw [decide_eq_true_iff]; omega) | exact okI (by omega) (by omega) | rfl
      have hst : bsum r (j + 1) = bsum r j + r j * 2 ^ (8 * j) := rfl
      have hsa : bsum (bd l) (j + 1) = bsum (bd l) j + bd l j * 2 ^ (8 * j) := rfl
      have hsb : bsum (bd c) (j + 1) = bsum (bd c) j + bd c j * 2 ^ (8 * j) := rfl
      have hrn : ∀ p, 0 ≤ upd1 r j ((bd l j - bd c j - bo) % 256) p ∧ upd1 r j ((bd l j - bd c j - bo) % 256) p < 256 := fun p => by
        by_cases hp : p = j
        · subst hp; rw [upd1_at]; omega
        · rw [upd1_ne hp]; exact hr p
      have hsum : ∀ bo' : Int, (bd l j - bd c j - bo) % 256 = bd l j - bd c j - bo + bo' * 256 → bsum (upd1 r j ((bd l j - bd c j - bo) % 256)) (j + 1) = bsum (bd l) (j + 1) - bsum (bd c) (j + 1) + bo' * 2 ^ (8 * (j + 1)) := by
        intro bo' hbo'
        rw [hsa, hsb, bsum, upd1_at, bsum_congr j (e := r) (fun p hp => upd1_ne (by omega)), pow8_succ, hbo']
        generalize (2 : Int) ^ (8 * j) = P at *
        generalize bd l j = x at *
        generalize bd c j = y at *
        have : (x - y - bo + bo' * 256) * P = x * P - y * P - bo * P + bo' * (256 * P) := by
          rw [← Int.mul_assoc, Int.add_mul, Int.sub_mul, Int.sub_mul]
        omega
      by_cases hneg : bd l j - bd c j - bo < 0
      · rw [decide_eq_true hneg, cond_true] at hev
        exact RunsL.allS (mkoks tabokSMinus) hev ⟨m, Nat.lt_succ_self m, j + 1, 1, upd1 r j ((bd l j - bd c j - bo) % 256), rfl, by omega, .inr rfl, hrn, hsum 1 (by omega)⟩
      · rw [decide_eq_false hneg, cond_false] at hev
        exact RunsL.allS (mkoks tabokSMinus) hev ⟨m, Nat.lt_succ_self m, j + 1, 0, upd1 r j ((bd l j - bd c j - bo) % 256), rfl, by omega, .inl rfl, hrn, hsum 0 (by omega)⟩
  · cases hF

noncomputable def sSTimesF : List D → Option (List Bool × V)
  | [.n a, .n b] => some ([], vb32 (restP (restP a * restP b)))
  | _ => none
noncomputable def sSTimes : FSpec := spec [tb32, tb32] sSTimesF
noncomputable abbrev tabSTimes : List (FuncId × FSpec) := [(141, sSRest)]
set_option maxRecDepth 100000 in
theorem tabokSTimes : TabOK Try.prog (tabOf tabSTimes) := (.cons ok_SRest .nil)
set_option maxRecDepth 100000 in
theorem ok_STimes : FnOK Try.prog 116 sSTimes := by
  refine fn_flat (cx := mkcs tabSTimes) (c := bodyOf Try.f116) Try.func116 (by kernel_rfl) (by kernel_rfl) rfl ?_
  intro ds chk v vs hF ht he hr base
  unfold sSTimesF at hF
  split at hF
  · rename_i a b
    cases hF
    have hvs : vs = [vb32 a, vb32 b] := by simp only [encA, encV, encP, encL, Option.some.injEq] at he; exact he.symm
    subst hvs
    obtain ⟨h1, h2, _⟩ := hr
    have ha := rng_b32 h1
    have hb := rng_b32 h2
    have hF : restP (restP a * restP b) = restP (a * b) := by rw [restP_eq, restP_eq, restP_eq, restP_eq, ← Nat.mul_mod]
    rw [hF]
    clear hF
    refine Runs.items _ _ _ (RunsL.preG (mkoks tabokSTimes) (n := 100) (k := 3) (kt := [2, 3, 4, 5, 6]) (kh := [0, 1, 2, 3]) (m := 4) (e := .normal) (st1 := stTi a b (psI .u8 64 fun _ => 0) 0 .junk .junk) (st' := stTi a b (bgI .u8 64 fun _ => 0) 0 .junk .junk) (by kernel_rfl)
      (stTi_ent ps_bg (fun h => by cases h) (fun _ h => by cases h)) ?_)
    refine RunsL.loop (id := 0) (by kernel_rfl) (fun m s => ∃ (j : Nat) (r : Nat → Int), s = stTi a b (bgI .u8 64 r) (j : Int) .junk .junk ∧ j + m = 32 ∧ (∀ p, 0 ≤ r p ∧ r p < 256) ∧ (∀ p, j + 32 ≤ p → r p = 0) ∧ bsum r 64 = bsum (bd a) j * (b : Int)) 32
      ⟨0, fun _ => 0, rfl, rfl, fun _ => (⟨by decide, by decide⟩ : (0 : Int) ≤ 0 ∧ (0 : Int) < 256), fun _ _ => rfl, by rw [bsum_zero, bsum, Int.zero_mul]⟩ ?_
    rintro m s ⟨j, r, rfl, hj, hr, hz, hs⟩
    have hev : ∀ i : Int, evLS (mkcs tabSTimes) 100 ((items (loopAt (bodyOf Try.f116) 3)).take 2) (stTi a b (bgI .u8 64 r) i .junk .junk) (kfg 0 [2, 3, 4, 5, 6] [0, 1, 2, 3] 4) =
        bif decide (i < 32) then .done .normal (stTi a b (bgI .u8 64 r) i .junk .junk) else .done (.exit 0) (stTi a b (bgI .u8 64 r) i .junk .junk) := by intro i; kernel_rfl
    have hev := hev (j : Int)
    cases m with
    | zero =>
      have hj : j = 32 := hj
      subst hj
      rw [show decide (((32 : Nat) : Int) < 32) = false from rfl, cond_false] at hev
      refine RunsL.preG (mkoks tabokSTimes) (k := 2) hev (st' := stTi a b (psI .u8 64 r) 32 .junk .junk) (stTi_ent bg_ps (fun h => by cases h) (fun _ h => by cases h)) ?_
      have hsum : bytN (listI 64 r) = a * b := by
        refine bytN_list (fun p _ => hr p) ?_
        rw [hs, bsum_digits, p256, Nat.mod_eq_of_lt ha]
        exact (Int.natCast_mul a b).symm
      rw [← hsum]
      exact runsL_evS (mkoks tabokSTimes) (n := 100) (bs0 := []) (by kernel_rfl) (VEnt.refl _) trivial
    | succ m =>
      rw [decide_eq_true (show ((j : Nat) : Int) < 32 by omega), cond_true] at hev
      refine RunsL.preS (mkoks tabokSTimes) (k := 2) hev (RunsL.blkAt (id := 1) (by kernel_rfl) ?_)
      have hev1 : ∀ i : Int, evLS (mkcs tabSTimes) 100 ((items (blkAt (loopAt (bodyOf Try.f116) 3) 2)).take 2) (stTi a b (bgI .u8 64 r) i .junk .junk) (kfg 0 [2, 3, 4, 5, 6, 7, 8] [0, 1, 2, 3] 4) = .done .normal (stTi a b (bgI .u8 64 r) i (vi64 0) (vi64 0)) := by intro i; kernel_rfl
      refine RunsL.preS (mkoks tabokSTimes) (k := 2) (hev1 (j : Int)) ?_
      clear hev hev1
      have hx := bd_rng a j
      refine RunsL.loop (id := 2) (by kernel_rfl) (fun m' s => ∃ (k : Nat) (c : Int) (q : Nat → Int), s = stTi a b (bgI .u8 64 q) (j : Int) (vi64 c) (vi64 (k : Int)) ∧ k + m' = 32 ∧ (0 ≤ c ∧ c < 256) ∧ (∀ p, 0 ≤ q p ∧ q p < 256) ∧ (∀ p, j + 32 ≤ p → q p = 0) ∧
          bsum q 64 + c * 2 ^ (8 * (j + k)) = bsum (bd a) j * (b : Int) + bd a j * 2 ^ (8 * j) * bsum (bd b) k) 32
        ⟨0, 0, r, rfl, rfl, ⟨by decide, by decide⟩, hr, hz, by rw [hs, bsum]; omega⟩ ?_
      rintro m' s ⟨k, c, q, rfl, hk, hc, hq, hqz, hqs⟩
      have hev : ∀ i k : Int, evLS (mkcs tabSTimes) 100 (items (loopAt (blkAt (loopAt (bodyOf Try.f116) 3) 2) 2)) (stTi a b (bgI .u8 64 q) i (vi64 c) (vi64 k)) (kfg 0 [2, 3, 4, 5, 6, 7, 8] [0, 1, 2, 3] 4) =
          bif decide (k < 32) then chks [okK .i64 (i + k), decide (0 ≤ i + k), decide (i + k < 64), decide (0 + (i + k).toNat < 64), okK .i64 (q (0 + (i + k).toNat)), okK .i64 (c + q (0 + (i + k).toNat)), decide (0 ≤ i), decide (i < 32), decide (0 + i.toNat < 32),
            okK .i64 (bd a (0 + i.toNat)), decide (0 ≤ k), decide (k < 32), decide (0 + k.toNat < 32), okK .i64 (bd b (0 + k.toNat)), okK .i64 (bd a (0 + i.toNat) * bd b (0 + k.toNat)), okK .i64 (c + q (0 + (i + k).toNat) + bd a (0 + i.toNat) * bd b (0 + k.toNat)), okK .i64 (i + k), decide (0 ≤ i + k), decide (i + k < 64), decide (0 + (i + k).toNat < 64),
            okK .i64 ((c + q (0 + (i + k).toNat) + bd a (0 + i.toNat) * bd b (0 + k.toNat)).tdiv 256), okK .i64 (k + 1)]
            (.done .normal (stTi a b (.big 1 64 fun p => if p = 0 + (i + k).toNat then [.int .u8 (wrapK .u8 ((c + q (0 + (i + k).toNat) + bd a (0 + i.toNat) * bd b (0 + k.toNat)).tmod 256))] else [.int .u8 (q p)]) i (vi64 ((c + q (0 + (i + k).toNat) + bd a (0 + i.toNat) * bd b (0 + k.toNat)).tdiv 256)) (vi64 (k + 1))))
          else .done (.exit 2) (stTi a b (bgI .u8 64 q) i (vi64 c) (vi64 k)) := by intro i k; kernel_rfl
      have hev := hev (j : Int) (k : Int)
      have hjk : ((j : Int) + (k : Int)).toNat = j + k := by omega
      rw [bg_upd, hjk, Int.toNat_natCast, Int.toNat_natCast, Nat.zero_add, Nat.zero_add, Nat.zero_add] at hev
      cases m' with
      | zero =>
        have hk : k = 32 := hk
        subst hk
        rw [show decide (((32 : Nat) : Int) < 32) = false from rfl, cond_false] at hev
        refine RunsL.allS (mkoks tabokSTimes) hev ?_
        have hev2 : ∀ i : Int, evLS (mkcs tabSTimes) 100 ((items (blkAt (loopAt (bodyOf Try.f116) 3) 2)).drop 3) (stTi a b (bgI .u8 64 q) i (vi64 c) (vi64 32)) (kfg 0 [2, 3, 4, 5, 6] [0, 1, 2, 3] 4) =
            chks [okK .i64 (i + 32), decide (0 ≤ i + 32), decide (i + 32 < 64), decide (0 + (i + 32).toNat < 64)] (.done .normal (stTi a b (.big 1 64 fun p => if p = 0 + (i + 32).toNat then [.int .u8 (wrapK .u8 c)] else [.int .u8 (q p)]) i .junk .junk)) := by intro i; kernel_rfl
        have hev2 := hev2 (j : Int)
        have hj32 : ((j : Int) + 32).toNat = j + 32 := by omega
        rw [bg_upd, hj32, Nat.zero_add, chks_true] at hev2
        rotate_left 1
        · clear hev2
          repeat' (first | exact allT0 | refine allTc ?_ ?_)
          all_goals first | (rw [decide_eq_true_iff]; omega) | exact okI (by omega) (by omega) | rfl
        refine RunsL.allS (mkoks tabokSTimes) hev2 ?_
        have hev3 : ∀ (i : Int) (q : Nat → Int), evLS (mkcs tabSTimes) 100 ((items (loopAt (bodyOf Try.f116) 3)).drop 3) (stTi a b (bgI .u8 64 q) i .junk .junk) (kfg 0 [2, 3, 4, 5, 6] [0, 1, 2, 3] 4) =
            chks [okK .i64 (i + 1)] (.done .normal (stTi a b (bgI .u8 64 q) (i + 1) .junk .junk)) := by intro i q; kernel_rfl
        have hev3 := hev3 (j : Int) (upd1 q (j + 32) (wrapK .u8 c))
        rw [chks_true (allT1 (okI (by omega) (by omega)))] at hev3
        refine RunsL.allS (mkoks tabokSTimes) hev3 ⟨m, Nat.lt_succ_self m, j + 1, upd1 q (j + 32) (wrapK .u8 c), rfl, by omega, fun p => ?_, fun p hp => ?_, ?_⟩
        · by_cases hp : p = j + 32
          · subst hp; rw [upd1_at]; simp only [wrapK]; omega
          · rw [upd1_ne hp]; exact hq p
        · rw [upd1_ne (by omega)]; exact hqz p (by omega)
        · have hw : wrapK .u8 c = c := by simp only [wrapK]; omega
          rw [bsum_upd _ _ _ 64 (by omega), hqz (j + 32) (Nat.le_refl _), hw, Int.sub_zero, hqs, show bsum (bd b) 32 = (b : Int) by rw [bsum_digits, p256, Nat.mod_eq_of_lt hb], show bsum (bd a) (j + 1) = bsum (bd a) j + bd a j * 2 ^ (8 * j) from rfl, Int.add_mul]
      | succ m' =>
        have hy := bd_rng b k
        have hqp := hq (j + k)
        have hm0 : 0 ≤ bd a j * bd b k := Int.mul_nonneg hx.1 hy.1
        have hm1 : bd a j * bd b k ≤ 255 * 255 := Int.mul_le_mul (by omega) (by omega) hy.1 (by omega)
        have hd1 : (c + q (j + k) + bd a j * bd b k).tdiv 256 = (c + q (j + k) + bd a j * bd b k) / 256 := Int.tdiv_eq_ediv_of_nonneg (by omega)
        have hd2 : (c + q (j + k) + bd a j * bd b k).tmod 256 = (c + q (j + k) + bd a j * bd b k) % 256 := Int.tmod_eq_emod_of_nonneg (by omega)
        rw [hd1, hd2, decide_eq_true (show ((k : Nat) : Int) < 32 by omega), cond_true, chks_true] at hev
        rotate_left 1
        · clear hev hqs
          clear hs
          generalize bd a j * bd b k = z at *
          generalize bd a j = x at *
          generalize bd b k = y at *
          generalize q (j + k) = w at *
          repeat' (first | exact allT0 | refine allTc ?_ ?_)
          all_goals first | (rw [decide_eq_true_iff]; omega) | exact okI (by omega) (by omega) | rfl
        refine RunsL.allS (mkoks tabokSTimes) hev ⟨m', Nat.lt_succ_self m', k + 1, (c + q (j + k) + bd a j * bd b k) / 256, upd1 q (j + k) (wrapK .u8 ((c + q (j + k) + bd a j * bd b k) % 256)), rfl, by omega, by omega, fun p => ?_, fun p hp => ?_, ?_⟩
        · by_cases hp : p = j + k
          · subst hp; rw [upd1_at]; simp only [wrapK]; omega
          · rw [upd1_ne hp]; exact hq p
        · rw [upd1_ne (by omega)]; exact hqz p hp
        · have hw : wrapK .u8 ((c + q (j + k) + bd a j * bd b k) % 256) = (c + q (j + k) + bd a j * bd b k) % 256 := by simp only [wrapK]; omega
          have hp2 : (2 : Int) ^ (8 * (j + k)) = 2 ^ (8 * j) * 2 ^ (8 * k) := by rw [Nat.mul_add, Int.pow_add]
          have hdist : bd a j * 2 ^ (8 * j) * (bd b k * 2 ^ (8 * k)) = bd a j * bd b k * 2 ^ (8 * (j + k)) := by
            rw [hp2]
            generalize (2 : Int) ^ (8 * j) = P
            generalize (2 : Int) ^ (8 * k) = Q
            grind
          rw [bsum_upd _ _ _ 64 (by omega), hw, show j + (k + 1) = (j + k) + 1 from rfl, pow8_succ, show bsum (bd b) (k + 1) = bsum (bd b) k + bd b k * 2 ^ (8 * k) from rfl, Int.mul_add, hdist, ← Int.add_assoc, ← hqs]
          clear hp2 hdist hqs hs hev hd1 hd2
          generalize (2 : Int) ^ (8 * (j + k)) = P at *
          generalize bd a j * bd b k = z at *
          generalize q (j + k) = w at *
          have e2 : ((c + w + z) % 256 - w) * P + (c + w + z) / 256 * (256 * P) = c * P + z * P := by
            rw [← Int.mul_assoc, ← Int.add_mul, ← Int.add_mul]
            congr 1
            omega
          omega
  · cases hF

theorem bit_eq8 {e j : Nat} (hj : j < 256) : decide ((((digit 8 e (0 + ((j : Int).tdiv 8).toNat) : Nat) : Int) / ((2 ^ min ((j : Int).tmod 8).toNat IntKind.u8.bits : Nat) : Int)) % 2 = 1) = decide (e / 2 ^ j % 2 = 1) := by
  have h1 : ((j : Int).tdiv 8).toNat = j / 8 := by
    rw [Int.tdiv_eq_ediv_of_nonneg (by omega)]; omega
  have h2 : min ((j : Int).tmod 8).toNat IntKind.u8.bits = j % 8 := by
    rw [Int.tmod_eq_emod_of_nonneg (by omega)]
    show min ((j : Int) % 8).toNat 8 = j % 8
    omega
  have _ := hj
  rw [h1, h2, ← Int.natCast_ediv, Nat.zero_add]
  unfold digit
  have e1 : e / 2 ^ (8 * (j / 8)) % 2 ^ 8 / 2 ^ (j % 8) % 2 = e / 2 ^ j % 2 := by
    have hlt : j % 8 < 8 := Nat.mod_lt _ (by decide)
    have e2 : (2 : Nat) ^ 8 = 2 ^ (j % 8) * 2 ^ (8 - j % 8) := by rw [← Nat.pow_add]; congr 1; omega
    rw [e2, Nat.mod_mul_right_div_self, Nat.div_div_eq_div_mul, ← Nat.pow_add, Nat.div_add_mod]
    have e3 : (2 : Nat) ^ (8 - j % 8) = 2 * 2 ^ (7 - j % 8) := by rw [← Nat.pow_succ']; congr 1; omega
    rw [e3, Nat.mod_mul_right_mod]
  rw [← e1]
  congr 1
  exact propext ⟨fun h => by omega, fun h => by omega⟩
def stIv (a e : Nat) (i : Int) (c : Nat) : St := ⟨[.junk, .one (.ptr 0 0), .one (.ptr 1 0), .one (.ptr 3 0), .one (.ptr 5 0), vi64 i] ++ List.replicate 26 .junk,
  [some ⟨70, .ps [.pk .u8 8 32 a]⟩, some ⟨70, .ps [.int .u8 0, .int .u8 0, .int .u8 0, .int .u8 0, .int .u8 0, .int .u8 0, .int .u8 0, .int .u8 0, .int .u8 0, .int .u8 0, .int .u8 0, .int .u8 0, .int .u8 0, .int .u8 0, .int .u8 0, .int .u8 0, .int .u8 0, .int .u8 0, .int .u8 0, .int .u8 0, .int .u8 0, .int .u8 0, .int .u8 0, .int .u8 0, .int .u8 0, .int .u8 0, .int .u8 0, .int .u8 0, .int .u8 0, .int .u8 0, .int .u8 0, .int .u8 0]⟩, none, some ⟨22, .ps [.pk .u8 8 32 e]⟩, none, some ⟨70, .ps [.pk .u8 8 32 c]⟩]⟩
theorem stIv_ent {a e : Nat} {i : Int} {c : Nat} : StEntG ⟨[.junk, .one (.ptr 0 0), .one (.ptr 1 0), .one (.ptr 3 0), .one (.ptr 5 0), vi64 i] ++ List.replicate 26 .junk,
  [some ⟨70, .ps [.pk .u8 8 32 a]⟩, some ⟨70, .ps [.int .u8 0, .int .u8 0, .int .u8 0, .int .u8 0, .int .u8 0, .int .u8 0, .int .u8 0, .int .u8 0, .int .u8 0, .int .u8 0, .int .u8 0, .int .u8 0, .int .u8 0, .int .u8 0, .int .u8 0, .int .u8 0, .int .u8 0, .int .u8 0, .int .u8 0, .int .u8 0, .int .u8 0, .int .u8 0, .int .u8 0, .int .u8 0, .int .u8 0, .int .u8 0, .int .u8 0, .int .u8 0, .int .u8 0, .int .u8 0, .int .u8 0, .int .u8 0]⟩, none, some ⟨22, .ps ((List.range 32).map fun p => .int .u8 (bd e p))⟩, none, some ⟨70, .ps [.pk .u8 8 32 c]⟩]⟩ (stIv a (e % 2 ^ (8 * 32)) i c) := by
  refine ⟨rfl, fun _ => .inl rfl, fun j => ?_⟩
  match j with
  | 0 | 1 | 2 => exact .inl rfl
  | 3 => exact .inr ⟨_, _, _, rfl, rfl, CEnt.of' (ent_pk (f := bd e) (Nat.mod_lt _ (Nat.pow_pos (by decide))) rfl (by decide) fun p hp => by
      unfold bd digit
      congr 1
      have : (2 : Nat) ^ (8 * 32) = 2 ^ (8 * p) * (2 ^ 8 * 2 ^ (8 * (31 - p))) := by rw [← Nat.pow_add, ← Nat.pow_add]; congr 1; omega
      rw [this, Nat.mod_mul_right_div_self, Nat.mod_mul_right_mod]), (fun h => by cases h), (fun _ h => by cases h)⟩
  | 4 | 5 => exact .inl rfl
  | j + 6 => exact .inl rfl

noncomputable def sSInverseF : List D → Option (List Bool × V)
  | [.n a] => some ([], vb32 (powL a 7237005577332262213973186563042994240857116359379907606001950938285454250987))
  | _ => none
noncomputable def sSInverse : FSpec := spec [tb32] sSInverseF
noncomputable abbrev tabSInverse : List (FuncId × FSpec) := [(138, sSOrder), (117, sSScOf), (116, sSTimes)]
set_option maxRecDepth 100000 in
theorem tabokSInverse : TabOK Try.prog (tabOf tabSInverse) := (.cons ok_SOrder (.cons ok_SScOf (.cons ok_STimes .nil)))
set_option maxRecDepth 100000 in
theorem ok_SInverse : FnOK Try.prog 118 sSInverse := by
  refine fn_flat (cx := mkcs tabSInverse) (c := bodyOf Try.f118) Try.func118 (by kernel_rfl) (by kernel_rfl) rfl ?_
  intro ds chk v vs hF ht he hr base
  unfold sSInverseF at hF
  split at hF
  · rename_i a
    cases hF
    have hvs : vs = [vb32 a] := by simp only [encA, encV, encP, encL, Option.some.injEq] at he; exact he.symm
    subst hvs
    refine Runs.items _ _ _ (RunsL.preG (mkoks tabokSInverse) (n := 100) (k := 5) (kt := [1, 2, 3, 4, 5]) (kh := [0, 1, 3, 5]) (m := 6) (e := .normal) (st' := stIv a (7237005577332262213973186563042994240857116359379907606001950938285454250987 % 2 ^ (8 * 32)) 255 1) (by kernel_rfl) stIv_ent ?_)
    have he : 7237005577332262213973186563042994240857116359379907606001950938285454250987 % 2 ^ (8 * 32) = 7237005577332262213973186563042994240857116359379907606001950938285454250987 := by decide +kernel
    rw [he]
    refine RunsL.loop (id := 0) (by kernel_rfl) (fun m s => ∃ c, s = stIv a 7237005577332262213973186563042994240857116359379907606001950938285454250987 ((m : Int) - 1) c ∧ m ≤ 256 ∧ c = powL a (7237005577332262213973186563042994240857116359379907606001950938285454250987 / 2 ^ m)) 256 ⟨1, rfl, Nat.le_refl _, ?_⟩ ?_
    · rw [powL_eq, show 7237005577332262213973186563042994240857116359379907606001950938285454250987 / 2 ^ 256 = 0 from by decide +kernel, Nat.pow_zero]
    rintro m s ⟨c, rfl, hm, hc⟩
    cases m with
    | zero =>
      refine RunsL.allS (mkoks tabokSInverse) (n := 100) (kt := [1, 2, 3, 4, 5]) (kh := [0, 1, 3, 5]) (m := 6) (e := .exit 0) (st' := stIv a 7237005577332262213973186563042994240857116359379907606001950938285454250987 (-1) c) (by kernel_rfl) ?_
      have : powL a 7237005577332262213973186563042994240857116359379907606001950938285454250987 = c := by rw [hc, Nat.pow_zero, Nat.div_one]
      rw [this]
      exact runsL_evS (mkoks tabokSInverse) (n := 100) (bs0 := []) (by kernel_rfl) (VEnt.refl _) trivial
    | succ j =>
      have hj : j < 256 := hm
      have hi : ((j + 1 : Nat) : Int) - 1 = (j : Int) := by omega
      rw [hi]
      have hev : ∀ e : Nat, evL (mkcs tabSInverse) 100 (items (loopAt (bodyOf Try.f118) 5)) (stIv a e (j : Int) c) (kfg 0 [1, 2, 3, 4, 5] [0, 1, 3, 5] 6) =
          chks [okK .i64 ((j : Int).tdiv 8), decide ((j : Int).tdiv 8 < 32), decide (0 + ((j : Int).tdiv 8).toNat < 32)]
            (bif decide ((((digit 8 e (0 + ((j : Int).tdiv 8).toNat) : Nat) : Int) / ((2 ^ min ((j : Int).tmod 8).toNat IntKind.u8.bits : Nat) : Int)) % 2 = 1) then
              chks [okK .i64 ((j : Int) - 1)] (.done .normal (stIv a e ((j : Int) - 1) (mulL (mulL c c) a)))
            else chks [okK .i64 ((j : Int) - 1)] (.done .normal (stIv a e ((j : Int) - 1) (mulL c c)))) := by intro e; kernel_rfl
      have hev := hev 7237005577332262213973186563042994240857116359379907606001950938285454250987
      have hq : (j : Int).tdiv 8 = ((j / 8 : Nat) : Int) := by rw [Int.tdiv_eq_ediv_of_nonneg (by omega)]; simp
      have h4 : j / 8 < 32 := by omega
      have hc1 : allT [okK .i64 ((j : Int).tdiv 8), decide ((j : Int).tdiv 8 < 32), decide (0 + ((j : Int).tdiv 8).toNat < 32)] := by
        rw [hq]
        refine allTc (okI (by omega) (by omega)) (allTc (by rw [decide_eq_true_iff]; omega) (allT1 (by rw [decide_eq_true_iff]; omega)))
      have hc2 : allT [okK .i64 ((j : Int) - 1)] := allT1 (okI (by omega) (by omega))
      rw [chks_true hc1, chks_true hc2, chks_true hc2, bit_eq8 (show j < 256 by omega)] at hev
      have hstep := powL_step a 7237005577332262213973186563042994240857116359379907606001950938285454250987 j hc
      cases hb : decide (7237005577332262213973186563042994240857116359379907606001950938285454250987 / 2 ^ j % 2 = 1) with
      | true =>
        rw [hb] at hev hstep
        exact RunsL.all (mkoks tabokSInverse) hev ⟨j, Nat.lt_succ_self j, _, rfl, Nat.le_of_lt hj, hstep⟩
      | false =>
        rw [hb] at hev hstep
        exact RunsL.all (mkoks tabokSInverse) hev ⟨j, Nat.lt_succ_self j, _, rfl, Nat.le_of_lt hj, hstep⟩
  · cases hF
end Go.Proofs.Ytpoikjcgdojjjaa
