/-
  Contracts of the document's scalars: Of, Wide, Plus.
-/
import Derived.Test.YtpoikjcgdojjjaaLb45
import Derived.Test.YtpoikjcgdojjjaaVx26
import Derived.Test.YtpoikjcgdojjjaaPr7
import Derived.Test.YtpoikjcgdojjjaaLb43
namespace Go.Proofs.Ytpoikjcgdojjjaa
open Go Vx Go.RowKit

theorem allT_of {l : List Bool} (h : allT l) : allT l := h
def listI (c : Nat) (r : Nat → Int) : List (List D) := (List.range c).map fun j => [D.i (r j)]
theorem bytN_list {c N : Nat} {r : Nat → Int} (h : ∀ j, j < c → 0 ≤ r j ∧ r j < 256) (hN : bsum r c = (N : Int)) : bytN (listI c r) = N := by
  have hb := bsum_bd h hN
  have hlt : N < 2 ^ (8 * c) := by
    have := (bsum_rng c h).2
    rw [hN, pow_castN] at this
    exact Int.ofNat_lt.1 this
  have e : (listI c r).map (fun d => (byI d).toNat) = (List.range' 0 c).map (digit 8 N) := by
    unfold listI
    rw [List.map_map, List.range_eq_range']
    refine List.map_congr_left fun j hj => ?_
    have hj : j < c := by rw [List.mem_range'] at hj; obtain ⟨i, hi, rfl⟩ := hj; omega
    show (r j).toNat = digit 8 N j
    rw [hb j hj]
    unfold bd
    exact Int.toNat_natCast _
  unfold bytN
  rw [e, packL_digits, Nat.mul_zero, Nat.pow_zero, Nat.div_one, Nat.mod_eq_of_lt hlt]
theorem bytN_digits {c N : Nat} (hlt : N < 2 ^ (8 * c)) : bytN (listI c (bd N)) = N :=
  bytN_list (fun j _ => bd_rng N j) (by rw [bsum_digits, Nat.mod_eq_of_lt hlt])
theorem p256 : (2 : Nat) ^ (8 * 32) = 115792089237316195423570985008687907853269984665640564039457584007913129639936 := by decide +kernel
theorem p264 : (2 : Nat) ^ (8 * 33) = 29642774844752946028434172162224104410437116074403984394101141506025761187823616 := by decide +kernel
theorem p512 : (2 : Nat) ^ (8 * 64) = 13407807929942597099574024998205846127479365820592393377723561443721764030073546976801874298166903427690031858186486050853753882811946569946433649006084096 := by decide +kernel
def stPl (a b : Nat) (sb : C) (c i : Int) : St := ⟨[.junk, .junk, .one (.ptr 0 0), .one (.ptr 1 0), .one (.ptr 2 0), .one (.ptr 3 0), vi64 c, vi64 i] ++ List.replicate 27 .junk,
  [some ⟨70, .ps [.pk .u8 8 32 a]⟩, some ⟨70, .ps [.pk .u8 8 32 b]⟩, some ⟨70, .ps [.int .u8 0, .int .u8 0, .int .u8 0, .int .u8 0, .int .u8 0, .int .u8 0, .int .u8 0, .int .u8 0, .int .u8 0, .int .u8 0, .int .u8 0, .int .u8 0, .int .u8 0, .int .u8 0, .int .u8 0, .int .u8 0, .int .u8 0, .int .u8 0, .int .u8 0, .int .u8 0, .int .u8 0, .int .u8 0, .int .u8 0, .int .u8 0, .int .u8 0, .int .u8 0, .int .u8 0, .int .u8 0, .int .u8 0, .int .u8 0, .int .u8 0, .int .u8 0]⟩, some ⟨148, sb⟩]⟩
theorem stPl_ent {a b : Nat} {c i : Int} {s s' : C} (h : CEnt s s') (h1 : s = .dead → s' = .dead) (h2 : ∀ ts, s = .row ts [] → ∃ ts', s' = .row ts' []) : StEntG (stPl a b s c i) (stPl a b s' c i) := by
  refine ⟨rfl, fun _ => .inl rfl, fun j => ?_⟩
  match j with
  | 0 | 1 | 2 => exact .inl rfl
  | 3 => exact .inr ⟨_, _, _, rfl, rfl, h, h1, h2⟩
  | j + 4 => exact .inl rfl
theorem canon_add (a b : Nat) : restP (restP a + restP b) = restP (a + b) := by
  rw [restP_eq, restP_eq, restP_eq, restP_eq, ← Nat.add_mod]

def dvI (n : Int) : Nat → Int
  | 0 => n
  | i + 1 => dvI n i / 256
def ofI (n : Int) (i : Nat) : Int := bif Nat.blt i 8 then wrapK .u8 (dvI n i % 256) else 0
theorem dvI_eq {n : Nat} : ∀ i, dvI (n : Int) i = ((n / 2 ^ (8 * i) : Nat) : Int)
  | 0 => by simp [dvI]
  | i + 1 => by
    rw [dvI, dvI_eq i, Nat.mul_succ, Nat.pow_add, ← Nat.div_div_eq_div_mul]
    generalize n / 2 ^ (8 * i) = q
    rw [show (2 : Nat) ^ 8 = 256 from by decide]
    omega
theorem ofI_eq {n : Nat} (hn : n < 18446744073709551616) (i : Nat) : (ofI (n : Int) i).toNat = digit 8 n i := by
  unfold ofI digit
  rcases Nat.lt_or_ge i 8 with h | h
  · rw [blt_t h, cond_true, dvI_eq]
    generalize n / 2 ^ (8 * i) = q
    simp only [wrapK]
    rw [show (2 : Nat) ^ 8 = 256 from by decide]
    omega
  · rw [blt_f h, cond_false]
    have : n / 2 ^ (8 * i) = 0 := Nat.div_eq_of_lt (Nat.lt_of_lt_of_le hn (by rw [show (18446744073709551616 : Nat) = 2 ^ (8 * 8) from by decide]; exact Nat.pow_le_pow_right (by decide) (by omega)))
    rw [this]; rfl

noncomputable def sSScOfF : List D → Option (List Bool × V)
  | [.i n] => some ([], vb32 n.toNat)
  | _ => none
noncomputable def sSScOf : FSpec := spec [tu64] sSScOfF
noncomputable abbrev tabSScOf : List (FuncId × FSpec) := []
set_option maxRecDepth 100000 in
theorem tabokSScOf : TabOK Try.prog (tabOf tabSScOf) := TabOK.nil
set_option maxRecDepth 100000 in
theorem ok_SScOf : FnOK Try.prog 117 sSScOf := by
  refine fn_flat (cx := mkcx tabSScOf) (c := bodyOf Try.f117) Try.func117 (by kernel_rfl) (by kernel_rfl) rfl ?_
  intro ds chk v vs hF ht he hr base
  unfold sSScOfF at hF
  split at hF
  · rename_i n
    cases hF
    have hvs : vs = [vu64 n] := by simp only [encA, encV, encP, encL, Option.some.injEq] at he; exact he.symm
    subst hvs
    obtain ⟨h1, _⟩ := hr
    obtain ⟨h1, h2⟩ := rng_u64 h1
    obtain ⟨n, rfl⟩ := Int.eq_ofNat_of_zero_le h1
    rw [Int.toNat_natCast]
    exact runs_evS (mkok tabokSScOf) (n := 400) (bs0 := []) (v0 := .ag (.ps ((List.range' 0 32).map fun i => .int .u8 (ofI (n : Int) i)))) (by kernel_rfl) (ent_b32 (f := ofI (n : Int)) (by omega) fun i _ => ofI_eq (by omega) i) trivial
  · cases hF

noncomputable def sSWideF : List D → Option (List Bool × V)
  | [.n b] => some ([], vb32 (restP b))
  | _ => none
noncomputable def sSWide : FSpec := spec [tb64] sSWideF
noncomputable abbrev tabSWide : List (FuncId × FSpec) := [(141, sSRest)]
set_option maxRecDepth 100000 in
theorem tabokSWide : TabOK Try.prog (tabOf tabSWide) := (.cons ok_SRest .nil)
set_option maxRecDepth 100000 in
theorem ok_SWide : FnOK Try.prog 108 sSWide := by
  refine fn_flat (cx := mkcx tabSWide) (c := bodyOf Try.f108) Try.func108 (by kernel_rfl) (by kernel_rfl) rfl ?_
  intro ds chk v vs hF ht he hr base
  unfold sSWideF at hF
  split at hF
  · rename_i b
    cases hF
    have hvs : vs = [vb64 b] := by simp only [encA, encV, encP, encL, Option.some.injEq] at he; exact he.symm
    subst hvs
    obtain ⟨h1, _⟩ := hr
    have e := bytN_digits (c := 64) (rng_b64 h1)
    have hw : restP b = restP (bytN (listI 64 (bd b))) := by rw [e]
    rw [hw]
    exact runs_evS (mkok tabokSWide) (n := 600) (bs0 := []) (by kernel_rfl) (VEnt.refl _) trivial
  · cases hF

noncomputable def sSPlusF : List D → Option (List Bool × V)
  | [.n a, .n b] => some ([], vb32 (restP (restP a + restP b)))
  | _ => none
noncomputable def sSPlus : FSpec := spec [tb32, tb32] sSPlusF
noncomputable abbrev tabSPlus : List (FuncId × FSpec) := [(141, sSRest)]
set_option maxRecDepth 100000 in
theorem tabokSPlus : TabOK Try.prog (tabOf tabSPlus) := (.cons ok_SRest .nil)
set_option maxRecDepth 100000 in
theorem ok_SPlus : FnOK Try.prog 114 sSPlus := by
  refine fn_flat (cx := mkcs tabSPlus) (c := bodyOf Try.f114) Try.func114 (by kernel_rfl) (by kernel_rfl) rfl ?_
  intro ds chk v vs hF ht he hr base
  unfold sSPlusF at hF
  split at hF
  · rename_i a b
    cases hF
    have hvs : vs = [vb32 a, vb32 b] := by simp only [encA, encV, encP, encL, Option.some.injEq] at he; exact he.symm
    subst hvs
    obtain ⟨h1, h2, _⟩ := hr
    have ha := rng_b32 h1
    have hb := rng_b32 h2
    rw [canon_add]
    refine Runs.items _ _ _ (RunsL.preG (mkoks tabokSPlus) (n := 100) (k := 4) (kt := [2, 3, 4, 5, 6, 7]) (kh := [0, 1, 2, 3]) (m := 4) (e := .normal) (st1 := stPl a b (psI .u8 33 fun _ => 0) 0 0) (st' := stPl a b (bgI .u8 33 fun _ => 0) 0 0) (by kernel_rfl)
      (stPl_ent ps_bg (fun h => by cases h) (fun _ h => by cases h)) ?_)
    refine RunsL.loop (id := 0) (by kernel_rfl) (fun m s => ∃ (j : Nat) (c : Int) (r : Nat → Int), s = stPl a b (bgI .u8 33 r) c (j : Int) ∧ j + m = 32 ∧ (c = 0 ∨ c = 1) ∧ (∀ p, 0 ≤ r p ∧ r p < 256) ∧ bsum r j + c * 2 ^ (8 * j) = bsum (bd a) j + bsum (bd b) j) 32
      ⟨0, 0, fun _ => 0, rfl, rfl, .inl rfl, fun _ => (⟨by decide, by decide⟩ : (0 : Int) ≤ 0 ∧ (0 : Int) < 256), by simp [bsum]⟩ ?_
    rintro m s ⟨j, c, r, rfl, hj, hc, hr, hs⟩
    have hev : ∀ i : Int, evLS (mkcs tabSPlus) 100 (items (loopAt (bodyOf Try.f114) 4)) (stPl a b (bgI .u8 33 r) c i) (kfg 0 [2, 3, 4, 5, 6, 7] [0, 1, 2, 3] 4) =
        bif decide (i < 32) then chks [decide (0 ≤ i), decide (i < 32), decide (0 + i.toNat < 32), okK .i64 (bd a (0 + i.toNat)), okK .i64 (c + bd a (0 + i.toNat)), decide (0 ≤ i), decide (i < 32), decide (0 + i.toNat < 32), okK .i64 (bd b (0 + i.toNat)),
          okK .i64 (c + bd a (0 + i.toNat) + bd b (0 + i.toNat)), decide (0 ≤ i), decide (i < 33), decide (0 + i.toNat < 33), okK .i64 ((c + bd a (0 + i.toNat) + bd b (0 + i.toNat)).tdiv 256), okK .i64 (i + 1)]
          (.done .normal (stPl a b (.big 1 33 fun p => if p = 0 + i.toNat then [.int .u8 (wrapK .u8 ((c + bd a (0 + i.toNat) + bd b (0 + i.toNat)).tmod 256))] else [.int .u8 (r p)]) ((c + bd a (0 + i.toNat) + bd b (0 + i.toNat)).tdiv 256) (i + 1)))
        else .done (.exit 0) (stPl a b (bgI .u8 33 r) c i) := by intro i; kernel_rfl
    have hev := hev (j : Int)
    rw [bg_upd, Int.toNat_natCast, Nat.zero_add] at hev
    have hx := bd_rng a j
    have hy := bd_rng b j
    cases m with
    | zero =>
      have hj : j = 32 := hj
      subst hj
      rw [show decide (((32 : Nat) : Int) < 32) = false from rfl, cond_false] at hev
      refine RunsL.allG (mkoks tabokSPlus) hev (st' := stPl a b (psI .u8 33 r) c 32) (stPl_ent bg_ps (fun h => by cases h) (fun _ h => by cases h)) ?_
      have hsum : bytN (listI 33 (upd1 r 32 (wrapK .u8 c))) = a + b := by
        refine bytN_list (fun p _ => ?_) ?_
        · rcases Nat.lt_or_ge p 32 with h | h
          · rw [upd1_ne (by omega)]; exact hr p
          · by_cases hp : p = 32
            · subst hp; rw [upd1_at]; rcases hc with rfl | rfl <;> decide
            · rw [upd1_ne hp]; exact hr p
        · rw [bsum, upd1_at, bsum_congr 32 (e := r) (fun p hp => upd1_ne (by omega))]
          have hw : wrapK .u8 c = c := by rcases hc with rfl | rfl <;> rfl
          rw [hw, hs, bsum_digits, bsum_digits, p256, Nat.mod_eq_of_lt ha, Nat.mod_eq_of_lt hb]
          omega
      rw [← hsum]
      exact runsL_evS (mkoks tabokSPlus) (n := 100) (bs0 := []) (by kernel_rfl) (VEnt.refl _) trivial
    | succ m =>
      have hd1 : (c + bd a j + bd b j).tdiv 256 = (c + bd a j + bd b j) / 256 := Int.tdiv_eq_ediv_of_nonneg (by omega)
      have hd2 : (c + bd a j + bd b j).tmod 256 = (c + bd a j + bd b j) % 256 := Int.tmod_eq_emod_of_nonneg (by omega)
      rw [hd1, hd2, decide_eq_true (show ((j : Nat) : Int) < 32 by omega), cond_true] at hev
      have hst : bsum r (j + 1) = bsum r j + r j * 2 ^ (8 * j) := rfl
      have hsa : bsum (bd a) (j + 1) = bsum (bd a) j + bd a j * 2 ^ (8 * j) := rfl
      have hsb : bsum (bd b) (j + 1) = bsum (bd b) j + bd b j * 2 ^ (8 * j) := rfl
      rw [chks_true] at hev
      rotate_left 1
      · clear hev
        generalize bd a j = x at *
        generalize bd b j = y at *
        clear hs hst hsa hsb
        repeat' (first | exact allT0 | refine allTc ?_ ?_)
        all_goals first | (rw [decide_eq_true_iff]; omega) | exact okI (by omega) (by omega) | rfl
      refine RunsL.allS (mkoks tabokSPlus) hev ⟨m, Nat.lt_succ_self m, j + 1, (c + bd a j + bd b j) / 256, upd1 r j (wrapK .u8 ((c + bd a j + bd b j) % 256)), rfl, by omega, by omega, fun p => ?_, ?_⟩
      · by_cases hp : p = j
        · subst hp; rw [upd1_at]; simp only [wrapK]; omega
        · rw [upd1_ne hp]; exact hr p
      · rw [hsa, hsb, bsum, upd1_at, bsum_congr j (e := r) (fun p hp => upd1_ne (by omega)), pow8_succ]
        have hw : wrapK .u8 ((c + bd a j + bd b j) % 256) = (c + bd a j + bd b j) % 256 := by simp only [wrapK]; omega
        rw [hw]
        generalize (2 : Int) ^ (8 * j) = P at *
        generalize bd a j = x at *
        generalize bd b j = y at *
        have : (c + x + y) % 256 * P + (c + x + y) / 256 * (256 * P) = c * P + x * P + y * P := by
          rw [← Int.mul_assoc, ← Int.add_mul, ← Int.add_mul, ← Int.add_mul]
          congr 1
          omega
        omega
  · cases hF
end Go.Proofs.Ytpoikjcgdojjjaa
