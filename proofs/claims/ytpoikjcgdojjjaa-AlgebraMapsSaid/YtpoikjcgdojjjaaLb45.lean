/-
  Contracts of the document's scalars: Rest.
-/
import Derived.Test.YtpoikjcgdojjjaaLb44
namespace Go.Proofs.Ytpoikjcgdojjjaa
open Go Vx Go.RowKit

abbrev tbyts : Ty := .one (.sl [.int .u8])
abbrev vbyts (x : List (List D)) : V := .one (.rd [.int .u8] x)
def byI (d : List D) : Int := (d.headD (.n 0)).toI
def bytN (x : List (List D)) : Nat := packL 8 (x.map fun d => (byI d).toNat)
theorem bytN_drop {x : List (List D)} {j : Nat} (hj : j < x.length) : bytN (x.drop j) = (byI (x.getD j [])).toNat + 256 * bytN (x.drop (j + 1)) := by
  unfold bytN
  rw [List.drop_eq_getElem_cons hj, List.map_cons, packL, List.getD_eq_getElem?_getD, List.getElem?_eq_getElem hj, Option.getD_some]
theorem byt_rng {x : List (List D)} (hx : ∀ (i : Nat) (e : List D), x[i]? = some e → rngTs [.int .u8] e) {j : Nat} (hj : j < x.length) : 0 ≤ byI (x.getD j []) ∧ byI (x.getD j []) < 256 := by
  rw [List.getD_eq_getElem?_getD, List.getElem?_eq_getElem hj, Option.getD_some]
  have := hx j _ (List.getElem?_eq_getElem hj)
  simp only [rngTs, rngT] at this
  exact (inK_unsigned rfl).1 this.1
def zq9 : List L := [.int .u64 0, .int .u64 0, .int .u64 0, .int .u64 0, .int .u64 0, .int .u64 0, .int .u64 0, .int .u64 0, .int .u64 0]
def lL : List L := [.pk .u64 32 9 (oftL 0), .pk .u64 32 9 (oftL 1), .pk .u64 32 9 (oftL 2), .pk .u64 32 9 (oftL 3), .pk .u64 32 9 (oftL 4), .pk .u64 32 9 (oftL 5), .pk .u64 32 9 (oftL 6), .pk .u64 32 9 (oftL 7), .pk .u64 32 9 (oftL 8)]
def stS (x : List (List D)) (i : Int) (b : V) (rc : List L) : St := ⟨[vbyts x, .junk, .one (.ptr 0 0), .one (.ptr 1 0), .junk, .one (.ptr 11 0), vi64 i, .junk, .junk, b] ++ List.replicate 89 .junk,
  [some ⟨70, .ps [.int .u8 0, .int .u8 0, .int .u8 0, .int .u8 0, .int .u8 0, .int .u8 0, .int .u8 0, .int .u8 0, .int .u8 0, .int .u8 0, .int .u8 0, .int .u8 0, .int .u8 0, .int .u8 0, .int .u8 0, .int .u8 0, .int .u8 0, .int .u8 0, .int .u8 0, .int .u8 0, .int .u8 0, .int .u8 0, .int .u8 0, .int .u8 0, .int .u8 0, .int .u8 0, .int .u8 0, .int .u8 0, .int .u8 0, .int .u8 0, .int .u8 0, .int .u8 0]⟩, some ⟨151, .ps lL⟩] ++ List.replicate 9 none ++ [some ⟨150, .ps rc⟩]⟩
theorem stS_ent {x : List (List D)} {i : Int} {b : V} {c c' : List L} (h : CEnt (.ps c) (.ps c')) : StEntG (stS x i b c) (stS x i b c') := by
  refine ⟨rfl, fun _ => .inl rfl, fun j => ?_⟩
  match j with
  | 0 | 1 | 2 | 3 | 4 | 5 | 6 | 7 | 8 | 9 | 10 => exact .inl rfl
  | 11 => exact .inr ⟨_, _, _, rfl, rfl, h, (fun h => by cases h), (fun _ h => by cases h)⟩
  | j + 12 => exact .inl rfl
def i9 (f : Nat → Int) : List L := [.int .u64 (f 0), .int .u64 (f 1), .int .u64 (f 2), .int .u64 (f 3), .int .u64 (f 4), .int .u64 (f 5), .int .u64 (f 6), .int .u64 (f 7), .int .u64 (f 8)]
theorem psum_d32 (n : Nat) (h : n < 2 ^ (32 * 9)) : psum (d32 n) 9 = (n : Int) := by
  have := psum_digits n 9
  rw [Nat.mod_eq_of_lt h] at this
  exact this
theorem p288 : (2 : Nat) ^ (32 * 9) = 497323236409786642155382248146820840100456150797347717440463976893159497012533375533056 := by decide +kernel
/-- A byte more. -/
theorem rest_carry {n : Nat} {b : Int} (hn : n < 7237005577332262213973186563042994240857116359379907606001950938285454250989) (hb : 0 ≤ b ∧ b < 256) : CEnt (.ps (i9 (eC (d32 n) (wrapK .u64 b)))) (.ps [.pk .u64 32 9 (256 * n + b.toNat)]) := by
  refine CEnt.of' (ent_long (f := eC (d32 n) (wrapK .u64 b)) (fun i => eC_rng _ _ i) ?_)
  have hw : wrapK .u64 b = b := by simp only [wrapK]; omega
  rw [hw]
  have hp : n < 2 ^ (32 * 9) := by rw [p288]; omega
  obtain ⟨h1, h2, h3⟩ := carry_sum hb (d32_rng n) 9
  obtain ⟨h4, h5⟩ := psum_rng (d := eC (d32 n) b) 9 (fun i _ => eC_rng _ _ i)
  rw [psum_d32 n hp] at h3
  rw [pow_cast, p288] at h3 h5
  generalize psum (eC (d32 n) b) 9 = S at *
  generalize cC (d32 n) b 9 = c at *
  clear hp hw
  omega
/-- Less a multiple of l. -/
theorem rest_less {M q : Nat} (hM : M < 2 ^ (32 * 9)) (hq : q < 2 ^ (32 * 9)) : decide (bB (d32 M) (d32 q) 9 = 0) = decide (q ≤ M) ∧ (q ≤ M → CEnt (.ps (i9 (oB (d32 M) (d32 q)))) (.ps [.pk .u64 32 9 (M - q)])) := by
  obtain ⟨h1, h2⟩ := borrow_sum (d32_rng M) (d32_rng q) 9
  obtain ⟨h4, h5⟩ := psum_rng (d := oB (d32 M) (d32 q)) 9 (fun i _ => oB_rng _ _ i)
  rw [psum_d32 M hM, psum_d32 q hq] at h2
  rw [pow_cast, p288] at h2 h5
  rw [p288] at hM hq
  have hz : bB (d32 M) (d32 q) 9 = 0 ↔ q ≤ M := by
    generalize psum (oB (d32 M) (d32 q)) 9 = S at *
    rcases h1 with h1 | h1 <;> rw [h1] at h2 ⊢ <;> omega
  refine ⟨decide_eq_decide.2 hz, fun h => CEnt.of' (ent_long (f := oB (d32 M) (d32 q)) (fun i => oB_rng _ _ i) ?_)⟩
  rw [hz.2 h] at h2
  rw [h2]
  omega
theorem oft_lt {n : Int} (h : 0 ≤ n ∧ n ≤ 9) : oftL n < 2 ^ (32 * 9) := by
  unfold oftL
  have : 2 ^ n.toNat ≤ 2 ^ 9 := Nat.pow_le_pow_right (by decide) (by omega)
  rw [p288]
  generalize 2 ^ n.toNat = p at *
  omega
theorem oft_two (j : Nat) : oftL ((j + 1 : Nat) : Int) = 2 * oftL (j : Int) := by
  unfold oftL
  rw [Int.toNat_natCast, Int.toNat_natCast, Nat.pow_succ]
  omega
theorem oft_mod (j : Nat) : oftL (j : Int) % 7237005577332262213973186563042994240857116359379907606001950938285454250989 = 0 := by
  unfold oftL
  exact Nat.mul_mod_right _ _
theorem rest_sub {M j : Nat} (h : M < oftL ((j + 1 : Nat) : Int)) (hq : oftL (j : Int) ≤ M) : M - oftL (j : Int) < oftL (j : Int) ∧ (M - oftL (j : Int)) % 7237005577332262213973186563042994240857116359379907606001950938285454250989 = M % 7237005577332262213973186563042994240857116359379907606001950938285454250989 := by
  rw [oft_two] at h
  have := oft_mod j
  refine ⟨by omega, ?_⟩
  generalize oftL (j : Int) = q at *
  clear h
  omega
theorem by_ent {n : Nat} (hn : n < 7237005577332262213973186563042994240857116359379907606001950938285454250989) : VEnt (.ag (.ps ((List.range' 0 32).map fun i => .int .u8 (wrapK .u8 (((digit 32 n (i / 4) : Nat) : Int) / ((2 ^ (8 * (i % 4)) : Nat) : Int) % 256))))) (vb32 n) := by
  refine ent_b32 (f := fun i => wrapK .u8 (((digit 32 n (i / 4) : Nat) : Int) / ((2 ^ (8 * (i % 4)) : Nat) : Int) % 256)) (Nat.lt_trans hn (by decide)) fun i _ => ?_
  have e : (((digit 32 n (i / 4) : Nat) : Int) / ((2 ^ (8 * (i % 4)) : Nat) : Int) % 256) = ((digit 32 n (i / 4) / 2 ^ (8 * (i % 4)) % 256 : Nat) : Int) := by
    rw [Int.natCast_emod, Int.natCast_ediv]; rfl
  rw [e]
  have hw : wrapK .u8 ((digit 32 n (i / 4) / 2 ^ (8 * (i % 4)) % 256 : Nat) : Int) = ((digit 32 n (i / 4) / 2 ^ (8 * (i % 4)) % 256 : Nat) : Int) := by simp only [wrapK]; omega
  rw [hw, Int.toNat_natCast]
  unfold digit
  have hlt : i % 4 < 4 := Nat.mod_lt _ (by decide)
  have e2 : (2 : Nat) ^ 32 = 2 ^ (8 * (i % 4)) * 2 ^ (32 - 8 * (i % 4)) := by rw [← Nat.pow_add]; congr 1; omega
  rw [e2, Nat.mod_mul_right_div_self, Nat.div_div_eq_div_mul, ← Nat.pow_add]
  have e3 : (2 : Nat) ^ (32 - 8 * (i % 4)) = 256 * 2 ^ (24 - 8 * (i % 4)) := by
    rw [show (256 : Nat) = 2 ^ 8 from rfl, ← Nat.pow_add]; congr 1; omega
  rw [e3, Nat.mod_mul_right_mod]
  congr 3
  omega

noncomputable def sSRestF : List D → Option (List Bool × V)
  | [.l x] => some ([decide (x.length < 1099511627776)], vb32 (restP (bytN x)))
  | _ => none
noncomputable def sSRest : FSpec := spec [tbyts] sSRestF
noncomputable abbrev tabSRest : List (FuncId × FSpec) := [(143, sSOften)]
set_option maxRecDepth 100000 in
theorem tabokSRest : TabOK Try.prog (tabOf tabSRest) := (.cons ok_SOften .nil)
set_option maxRecDepth 100000 in
theorem ok_SRest : FnOK Try.prog 141 sSRest := by
  refine fn_flat (cx := mkcx tabSRest) (c := bodyOf Try.f141) Try.func141 (by kernel_rfl) (by kernel_rfl) rfl ?_
  intro ds chk v vs hF ht he hr base
  unfold sSRestF at hF
  split at hF
  · rename_i x
    cases hF
    have hvs : vs = [vbyts x] := by simp only [encA, encV, encP, encL, Option.some.injEq] at he; exact he.symm
    subst hvs
    have hxl : x.length < 1099511627776 := of_decide_eq_true (ht _ (by simp))
    obtain ⟨hrng, _⟩ := hr
    have hrng : ∀ (i : Nat) (e : List D), x[i]? = some e → rngTs [.int .u8] e := hrng
    have h0 : evLS (mkcs tabSRest) 100 ((items (bodyOf Try.f141)).take 6) ⟨t0 Try.f141 [vbyts x], []⟩ (kfg 0 [0, 2, 3, 5, 6] [0, 1, 11] 12) =
        chks [okK .i64 1, okK .i64 2, okK .i64 3, okK .i64 4, okK .i64 5, okK .i64 6, okK .i64 7, okK .i64 8, okK .i64 9, okK .i64 (x.length : Nat), okK .i64 ((x.length : Nat) - 1)] (.done .normal (stS x ((x.length : Nat) - 1) .junk zq9)) := by kernel_rfl
    have hc0 : allT [okK .i64 1, okK .i64 2, okK .i64 3, okK .i64 4, okK .i64 5, okK .i64 6, okK .i64 7, okK .i64 8, okK .i64 9, okK .i64 (x.length : Nat), okK .i64 ((x.length : Nat) - 1)] := by
      repeat' (first | exact allT0 | refine allTc (okI (by omega) (by omega)) ?_)
    rw [chks_true hc0] at h0
    refine Runs.items _ _ _ (RunsL.flags (cx := mkcs tabSRest) rfl rfl (RunsL.preG (mkoks tabokSRest) (k := 6) (st' := stS x ((x.length : Nat) - 1) .junk [.pk .u64 32 9 0]) h0 (stS_ent (CEnt.of' (ent_lit (n := 0) (by kernel_rfl) (by decide +kernel)))) ?_))
    refine RunsL.flags (cx := mkcx tabSRest) (cx' := mkcs tabSRest) (l := (items (bodyOf Try.f141)).drop 6) rfl rfl ?_
    refine RunsL.loop (id := 2) (by kernel_rfl) (fun m s => ∃ n, s = stS x ((m : Int) - 1) .junk [.pk .u64 32 9 n] ∧ m ≤ x.length ∧ n = bytN (x.drop m) % 7237005577332262213973186563042994240857116359379907606001950938285454250989) x.length ⟨0, rfl, Nat.le_refl _, ?_⟩ ?_
    · rw [List.drop_length]; rfl
    rintro m s ⟨n, rfl, hm, hn⟩
    have hnl : n < 7237005577332262213973186563042994240857116359379907606001950938285454250989 := by rw [hn]; exact Nat.mod_lt _ (by decide)
    cases m with
    | zero =>
      refine RunsL.allS (mkok tabokSRest) (n := 100) (kt := [0, 2, 3, 5, 6]) (kh := [0, 1, 11]) (m := 12) (e := .exit 2) (st' := stS x (-1) .junk [.pk .u64 32 9 n]) (by kernel_rfl) ?_
      have e : restP (bytN x) = n := by rw [restP_eq, hn, List.drop_zero]
      rw [e]
      have hfin2 : evLS (mkcx tabSRest) 100 ((items (bodyOf Try.f141)).drop 7) (stS x (-1) .junk [.pk .u64 32 9 n]) (kres (mkcx tabSRest) Try.f141 base) =
          outV (.ag (.ps ((List.range' 0 32).map fun i => .int .u8 (wrapK .u8 (((digit 32 n (i / 4) : Nat) : Int) / ((2 ^ (8 * (i % 4)) : Nat) : Int) % 256))))) := by kernel_rfl
      exact runsL_evS (mkok tabokSRest) (n := 100) (bs0 := []) hfin2 (by_ent hnl) trivial
    | succ j =>
      have hj : j < x.length := hm
      have hi : ((j + 1 : Nat) : Int) - 1 = (j : Int) := by omega
      rw [hi]
      have hev : ∀ i : Int, evLS (mkcx tabSRest) 100 ((items (loopAt (bodyOf Try.f141) 6)).take 2) (stS x i .junk [.pk .u64 32 9 n]) (kfg 0 [0, 2, 3, 5, 6] [0, 1, 11] 12) =
          bif decide ((0 : Int) ≤ i) then .done .normal (stS x i .junk [.pk .u64 32 9 n]) else .done (.exit 2) (stS x i .junk [.pk .u64 32 9 n]) := by intro i; kernel_rfl
      have hev := hev (j : Int)
      rw [show decide ((0 : Int) ≤ (j : Int)) = true by rw [decide_eq_true_iff]; omega, cond_true] at hev
      refine RunsL.preS (mkok tabokSRest) (k := 2) hev (RunsL.blkAt (id := 3) (by kernel_rfl) ?_)
      have hev2 : ∀ i : Int, evLS (mkcx tabSRest) 100 ((items (blkAt (loopAt (bodyOf Try.f141) 6) 2)).take 4) (stS x i .junk [.pk .u64 32 9 n]) (kfg 0 [0, 2, 3, 5, 6, 9] [0, 1, 11] 12) =
          chks [decide ((0 : Int) ≤ i), decide (i < (x.length : Nat))] (.done .normal (stS x i (vi64 8) (i9 (eC (d32 n) (wrapK .u64 (byI (x.getD i.toNat []))))))) := by intro i; kernel_rfl
      have hev2 := hev2 (j : Int)
      have hc1 : allT [decide ((0 : Int) ≤ (j : Int)), decide ((j : Int) < (x.length : Nat))] := allTc (by rw [decide_eq_true_iff]; omega) (allT1 (by rw [decide_eq_true_iff]; omega))
      rw [chks_true hc1, Int.toNat_natCast] at hev2
      have hb := byt_rng hrng hj
      refine RunsL.preG (mkok tabokSRest) (k := 4) hev2 (stS_ent (rest_carry hnl hb)) ?_
      have hN : bytN (x.drop j) % 7237005577332262213973186563042994240857116359379907606001950938285454250989 = (256 * n + (byI (x.getD j [])).toNat) % 7237005577332262213973186563042994240857116359379907606001950938285454250989 := by
        rw [bytN_drop hj, hn]
        generalize bytN (x.drop (j + 1)) = q
        generalize (byI (x.getD j [])).toNat = b
        clear hev hev2 hc1 hnl hn hb h0 hc0
        omega
      have hN0 : 256 * n + (byI (x.getD j [])).toNat < oftL ((9 : Nat) : Int) := by
        rw [show oftL ((9 : Nat) : Int) = 7237005577332262213973186563042994240857116359379907606001950938285454250989 * 512 from by decide +kernel]
        clear hev hev2 hc1 hn h0 hc0 hN
        omega
      generalize 256 * n + (byI (x.getD j [])).toNat = N at *
      clear hev hev2 hb
      refine RunsL.loop (id := 6) (by kernel_rfl) (fun m s => ∃ M, s = stS x (j : Int) (vi64 ((m : Int) - 1)) [.pk .u64 32 9 M] ∧ m ≤ 9 ∧ M < oftL (m : Int) ∧ M % 7237005577332262213973186563042994240857116359379907606001950938285454250989 = N % 7237005577332262213973186563042994240857116359379907606001950938285454250989) 9 ⟨N, rfl, by decide, hN0, rfl⟩ ?_
      rintro m s ⟨M, rfl, hm, hM, hMN⟩
      have hMb : M < 2 ^ (32 * 9) := Nat.lt_trans hM (oft_lt ⟨by omega, by omega⟩)
      match m, hm, hM with
      | 0, _, hM =>
        refine RunsL.allS (mkok tabokSRest) (n := 100) (kt := [0, 2, 3, 5, 6]) (kh := [0, 1, 11]) (m := 12) (e := .exit 6) (st' := stS x (j : Int) .junk [.pk .u64 32 9 M]) (by kernel_rfl) ?_
        refine RunsL.allS (mkok tabokSRest) (n := 100) (l := []) (kt := [0, 2, 3, 5, 6]) (kh := [0, 1, 11]) (m := 12) (e := .normal) (st' := stS x (j : Int) .junk [.pk .u64 32 9 M]) (by kernel_rfl) ?_
        have hd : ∀ i : Int, evLS (mkcx tabSRest) 100 ((items (loopAt (bodyOf Try.f141) 6)).drop 3) (stS x i .junk [.pk .u64 32 9 M]) (kfg 0 [0, 2, 3, 5, 6] [0, 1, 11] 12) = (.done .normal (stS x (wrapK .i64 (i - 1)) .junk [.pk .u64 32 9 M])) := by intro i; kernel_rfl
        have hd := hd (j : Int)
        have hw : wrapK .i64 ((j : Int) - 1) = (j : Int) - 1 := by simp only [wrapK]; omega
        rw [hw] at hd
        refine RunsL.allS (mkok tabokSRest) hd ⟨j, Nat.lt_succ_self j, M, rfl, Nat.le_of_lt hj, ?_⟩
        rw [hN, ← hMN, Nat.mod_eq_of_lt]
        exact hM
      | 1, _, hM =>
        have hev : evLS (mkcx tabSRest) 100 (items (loopAt (blkAt (loopAt (bodyOf Try.f141) 6) 2) 4)) (stS x (j : Int) (vi64 0) [.pk .u64 32 9 M]) (kfg 0 [0, 2, 3, 5, 6, 9] [0, 1, 11] 12) =
            (bif decide (bB (d32 M) (d32 (oftL 0)) 9 = 0) then (.done .normal (stS x (j : Int) (vi64 (-1)) (i9 (oB (d32 M) (d32 (oftL 0))))))
              else (.done .normal (stS x (j : Int) (vi64 (-1)) [.pk .u64 32 9 M]))) := by kernel_rfl
        obtain ⟨hl1, hl2⟩ := rest_less hMb (oft_lt (n := 0) (by decide))
        rw [hl1] at hev
        by_cases hle : oftL (0 : Int) ≤ M
        · rw [decide_eq_true hle, cond_true] at hev
          obtain ⟨h1, h2⟩ := rest_sub (j := 0) hM hle
          exact RunsL.allG (mkok tabokSRest) hev (stS_ent (hl2 hle)) ⟨0, by decide, _, rfl, by decide, h1, h2.trans hMN⟩
        · rw [decide_eq_false hle, cond_false] at hev
          exact RunsL.allS (mkok tabokSRest) hev ⟨0, by decide, _, rfl, by decide, Nat.lt_of_not_le hle, hMN⟩
      | 2, _, hM =>
        have hev : evLS (mkcx tabSRest) 100 (items (loopAt (blkAt (loopAt (bodyOf Try.f141) 6) 2) 4)) (stS x (j : Int) (vi64 1) [.pk .u64 32 9 M]) (kfg 0 [0, 2, 3, 5, 6, 9] [0, 1, 11] 12) =
            (bif decide (bB (d32 M) (d32 (oftL 1)) 9 = 0) then (.done .normal (stS x (j : Int) (vi64 0) (i9 (oB (d32 M) (d32 (oftL 1))))))
              else (.done .normal (stS x (j : Int) (vi64 0) [.pk .u64 32 9 M]))) := by kernel_rfl
        obtain ⟨hl1, hl2⟩ := rest_less hMb (oft_lt (n := 1) (by decide))
        rw [hl1] at hev
        by_cases hle : oftL (1 : Int) ≤ M
        · rw [decide_eq_true hle, cond_true] at hev
          obtain ⟨h1, h2⟩ := rest_sub (j := 1) hM hle
          exact RunsL.allG (mkok tabokSRest) hev (stS_ent (hl2 hle)) ⟨1, by decide, _, rfl, by decide, h1, h2.trans hMN⟩
        · rw [decide_eq_false hle, cond_false] at hev
          exact RunsL.allS (mkok tabokSRest) hev ⟨1, by decide, _, rfl, by decide, Nat.lt_of_not_le hle, hMN⟩
      | 3, _, hM =>
        have hev : evLS (mkcx tabSRest) 100 (items (loopAt (blkAt (loopAt (bodyOf Try.f141) 6) 2) 4)) (stS x (j : Int) (vi64 2) [.pk .u64 32 9 M]) (kfg 0 [0, 2, 3, 5, 6, 9] [0, 1, 11] 12) =
            (bif decide (bB (d32 M) (d32 (oftL 2)) 9 = 0) then (.done .normal (stS x (j : Int) (vi64 1) (i9 (oB (d32 M) (d32 (oftL 2))))))
              else (.done .normal (stS x (j : Int) (vi64 1) [.pk .u64 32 9 M]))) := by kernel_rfl
        obtain ⟨hl1, hl2⟩ := rest_less hMb (oft_lt (n := 2) (by decide))
        rw [hl1] at hev
        by_cases hle : oftL (2 : Int) ≤ M
        · rw [decide_eq_true hle, cond_true] at hev
          obtain ⟨h1, h2⟩ := rest_sub (j := 2) hM hle
          exact RunsL.allG (mkok tabokSRest) hev (stS_ent (hl2 hle)) ⟨2, by decide, _, rfl, by decide, h1, h2.trans hMN⟩
        · rw [decide_eq_false hle, cond_false] at hev
          exact RunsL.allS (mkok tabokSRest) hev ⟨2, by decide, _, rfl, by decide, Nat.lt_of_not_le hle, hMN⟩
      | 4, _, hM =>
        have hev : evLS (mkcx tabSRest) 100 (items (loopAt (blkAt (loopAt (bodyOf Try.f141) 6) 2) 4)) (stS x (j : Int) (vi64 3) [.pk .u64 32 9 M]) (kfg 0 [0, 2, 3, 5, 6, 9] [0, 1, 11] 12) =
            (bif decide (bB (d32 M) (d32 (oftL 3)) 9 = 0) then (.done .normal (stS x (j : Int) (vi64 2) (i9 (oB (d32 M) (d32 (oftL 3))))))
              else (.done .normal (stS x (j : Int) (vi64 2) [.pk .u64 32 9 M]))) := by kernel_rfl
        obtain ⟨hl1, hl2⟩ := rest_less hMb (oft_lt (n := 3) (by decide))
        rw [hl1] at hev
        by_cases hle : oftL (3 : Int) ≤ M
        · rw [decide_eq_true hle, cond_true] at hev
          obtain ⟨h1, h2⟩ := rest_sub (j := 3) hM hle
          exact RunsL.allG (mkok tabokSRest) hev (stS_ent (hl2 hle)) ⟨3, by decide, _, rfl, by decide, h1, h2.trans hMN⟩
        · rw [decide_eq_false hle, cond_false] at hev
          exact RunsL.allS (mkok tabokSRest) hev ⟨3, by decide, _, rfl, by decide, Nat.lt_of_not_le hle, hMN⟩
      | 5, _, hM =>
        have hev : evLS (mkcx tabSRest) 100 (items (loopAt (blkAt (loopAt (bodyOf Try.f141) 6) 2) 4)) (stS x (j : Int) (vi64 4) [.pk .u64 32 9 M]) (kfg 0 [0, 2, 3, 5, 6, 9] [0, 1, 11] 12) =
            (bif decide (bB (d32 M) (d32 (oftL 4)) 9 = 0) then (.done .normal (stS x (j : Int) (vi64 3) (i9 (oB (d32 M) (d32 (oftL 4))))))
              else (.done .normal (stS x (j : Int) (vi64 3) [.pk .u64 32 9 M]))) := by kernel_rfl
        obtain ⟨hl1, hl2⟩ := rest_less hMb (oft_lt (n := 4) (by decide))
        rw [hl1] at hev
        by_cases hle : oftL (4 : Int) ≤ M
        · rw [decide_eq_true hle, cond_true] at hev
          obtain ⟨h1, h2⟩ := rest_sub (j := 4) hM hle
          exact RunsL.allG (mkok tabokSRest) hev (stS_ent (hl2 hle)) ⟨4, by decide, _, rfl, by decide, h1, h2.trans hMN⟩
        · rw [decide_eq_false hle, cond_false] at hev
          exact RunsL.allS (mkok tabokSRest) hev ⟨4, by decide, _, rfl, by decide, Nat.lt_of_not_le hle, hMN⟩
      | 6, _, hM =>
        have hev : evLS (mkcx tabSRest) 100 (items (loopAt (blkAt (loopAt (bodyOf Try.f141) 6) 2) 4)) (stS x (j : Int) (vi64 5) [.pk .u64 32 9 M]) (kfg 0 [0, 2, 3, 5, 6, 9] [0, 1, 11] 12) =
            (bif decide (bB (d32 M) (d32 (oftL 5)) 9 = 0) then (.done .normal (stS x (j : Int) (vi64 4) (i9 (oB (d32 M) (d32 (oftL 5))))))
              else (.done .normal (stS x (j : Int) (vi64 4) [.pk .u64 32 9 M]))) := by kernel_rfl
        obtain ⟨hl1, hl2⟩ := rest_less hMb (oft_lt (n := 5) (by decide))
        rw [hl1] at hev
        by_cases hle : oftL (5 : Int) ≤ M
        · rw [decide_eq_true hle, cond_true] at hev
          obtain ⟨h1, h2⟩ := rest_sub (j := 5) hM hle
          exact RunsL.allG (mkok tabokSRest) hev (stS_ent (hl2 hle)) ⟨5, by decide, _, rfl, by decide, h1, h2.trans hMN⟩
        · rw [decide_eq_false hle, cond_false] at hev
          exact RunsL.allS (mkok tabokSRest) hev ⟨5, by decide, _, rfl, by decide, Nat.lt_of_not_le hle, hMN⟩
      | 7, _, hM =>
        have hev : evLS (mkcx tabSRest) 100 (items (loopAt (blkAt (loopAt (bodyOf Try.f141) 6) 2) 4)) (stS x (j : Int) (vi64 6) [.pk .u64 32 9 M]) (kfg 0 [0, 2, 3, 5, 6, 9] [0, 1, 11] 12) =
            (bif decide (bB (d32 M) (d32 (oftL 6)) 9 = 0) then (.done .normal (stS x (j : Int) (vi64 5) (i9 (oB (d32 M) (d32 (oftL 6))))))
              else (.done .normal (stS x (j : Int) (vi64 5) [.pk .u64 32 9 M]))) := by kernel_rfl
        obtain ⟨hl1, hl2⟩ := rest_less hMb (oft_lt (n := 6) (by decide))
        rw [hl1] at hev
        by_cases hle : oftL (6 : Int) ≤ M
        · rw [decide_eq_true hle, cond_true] at hev
          obtain ⟨h1, h2⟩ := rest_sub (j := 6) hM hle
          exact RunsL.allG (mkok tabokSRest) hev (stS_ent (hl2 hle)) ⟨6, by decide, _, rfl, by decide, h1, h2.trans hMN⟩
        · rw [decide_eq_false hle, cond_false] at hev
          exact RunsL.allS (mkok tabokSRest) hev ⟨6, by decide, _, rfl, by decide, Nat.lt_of_not_le hle, hMN⟩
      | 8, _, hM =>
        have hev : evLS (mkcx tabSRest) 100 (items (loopAt (blkAt (loopAt (bodyOf Try.f141) 6) 2) 4)) (stS x (j : Int) (vi64 7) [.pk .u64 32 9 M]) (kfg 0 [0, 2, 3, 5, 6, 9] [0, 1, 11] 12) =
            (bif decide (bB (d32 M) (d32 (oftL 7)) 9 = 0) then (.done .normal (stS x (j : Int) (vi64 6) (i9 (oB (d32 M) (d32 (oftL 7))))))
              else (.done .normal (stS x (j : Int) (vi64 6) [.pk .u64 32 9 M]))) := by kernel_rfl
        obtain ⟨hl1, hl2⟩ := rest_less hMb (oft_lt (n := 7) (by decide))
        rw [hl1] at hev
        by_cases hle : oftL (7 : Int) ≤ M
        · rw [decide_eq_true hle, cond_true] at hev
          obtain ⟨h1, h2⟩ := rest_sub (j := 7) hM hle
          exact RunsL.allG (mkok tabokSRest) hev (stS_ent (hl2 hle)) ⟨7, by decide, _, rfl, by decide, h1, h2.trans hMN⟩
        · rw [decide_eq_false hle, cond_false] at hev
          exact RunsL.allS (mkok tabokSRest) hev ⟨7, by decide, _, rfl, by decide, Nat.lt_of_not_le hle, hMN⟩
      | 9, _, hM =>
        have hev : evLS (mkcx tabSRest) 100 (items (loopAt (blkAt (loopAt (bodyOf Try.f141) 6) 2) 4)) (stS x (j : Int) (vi64 8) [.pk .u64 32 9 M]) (kfg 0 [0, 2, 3, 5, 6, 9] [0, 1, 11] 12) =
            (bif decide (bB (d32 M) (d32 (oftL 8)) 9 = 0) then (.done .normal (stS x (j : Int) (vi64 7) (i9 (oB (d32 M) (d32 (oftL 8))))))
              else (.done .normal (stS x (j : Int) (vi64 7) [.pk .u64 32 9 M]))) := by kernel_rfl
        obtain ⟨hl1, hl2⟩ := rest_less hMb (oft_lt (n := 8) (by decide))
        rw [hl1] at hev
        by_cases hle : oftL (8 : Int) ≤ M
        · rw [decide_eq_true hle, cond_true] at hev
          obtain ⟨h1, h2⟩ := rest_sub (j := 8) hM hle
          exact RunsL.allG (mkok tabokSRest) hev (stS_ent (hl2 hle)) ⟨8, by decide, _, rfl, by decide, h1, h2.trans hMN⟩
        · rw [decide_eq_false hle, cond_false] at hev
          exact RunsL.allS (mkok tabokSRest) hev ⟨8, by decide, _, rfl, by decide, Nat.lt_of_not_le hle, hMN⟩
  · cases hF
end Go.Proofs.Ytpoikjcgdojjjaa
