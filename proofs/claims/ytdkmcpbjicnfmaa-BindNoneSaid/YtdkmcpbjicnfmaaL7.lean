/-
  Contracts of the program's scalars: Times.
-/
import Derived.Test.YtdkmcpbjicnfmaaL6
import Derived.Test.YtdkmcpbjicnfmaaU2
import Derived.Test.YtdkmcpbjicnfmaaX4
import Derived.Test.YtdkmcpbjicnfmaaL3
set_option maxRecDepth 100000
namespace Go.Proofs.Ytdkmcpbjicnfmaa
open Go Vx Go.RowKit

def q8 (r : Nat → Int) : List L := [.int .u64 (r 0), .int .u64 (r 1), .int .u64 (r 2), .int .u64 (r 3), .int .u64 (r 4), .int .u64 (r 5), .int .u64 (r 6), .int .u64 (r 7)]
end Go.Proofs.Ytdkmcpbjicnfmaa

/-
  Contracts of the program's scalars: Inverse.
-/
namespace Go.Proofs.Ytdkmcpbjicnfmaa
open Go Vx Go.RowKit

noncomputable def powL : Nat → Nat → Nat := hidden' fun a n => a ^ n % 7237005577332262213973186563042994240857116359379907606001950938285454250989
end Go.Proofs.Ytdkmcpbjicnfmaa

/-
  Contracts of the document's scalars: often.
-/
namespace Go.Proofs.Ytdkmcpbjicnfmaa
open Go Vx Go.RowKit

abbrev vlong (n : Nat) : V := .pk .u64 32 9 n
def d32 (n i : Nat) : Int := ((digit 32 n i : Nat) : Int)
theorem d32_rng (n i : Nat) : 0 ≤ d32 n i ∧ d32 n i < 4294967296 := by
 unfold d32 digit
 have := Nat.mod_lt (n / 2 ^ (32 * i)) (show 2 ^ 32 > 0 by decide)
 simp only [Nat.reducePow] at *
 omega
theorem pow_cast (n : Nat) : (2 : Int) ^ n = ((2 ^ n : Nat) : Int) := by simp
theorem ent_long {f : Nat → Int} {n : Nat} (h : ∀ i, 0 ≤ f i ∧ f i < 4294967296) (hn : psum f 9 = (n : Int)) : VEnt (.ag (.ps ((List.range 9).map fun i => .int .u64 (f i)))) (vlong n) := by
 have hb : n < 2 ^ (32 * 9) := by
  have := (psum_rng (d := f) 9 (fun i _ => h i)).2
  rw [hn, pow_cast (32 * 9)] at this
  exact Int.ofNat_lt.1 this
 refine ent_pk (f := f) hb rfl (by decide) fun i hi => ?_
 rw [← psum_digit h 9 i hi, hn]
 unfold digit
 have h2 : ((2 : Int) ^ (32 * i)) = ((2 ^ (32 * i) : Nat) : Int) := by simp
 rw [h2]
 simp only [Nat.reducePow]
 omega
theorem ent_lit {n : Nat} {l : List L} (h : l = (List.range 9).map fun i => .int .u64 (d32 n i)) (hn : n < 2 ^ (32 * 9)) : VEnt (.ag (.ps l)) (vlong n) := by
 subst h
 exact ent_pk (f := d32 n) hn rfl (by decide) fun i _ => rfl

def oftL (n : Int) : Nat := 7237005577332262213973186563042994240857116359379907606001950938285454250989 * 2 ^ n.toNat

noncomputable def sSOftenF : List D → Option (List Bool × V)
 | [.i n] => some ([decide (0 ≤ n ∧ n ≤ 8)], vlong (oftL n))
 | _ => none
noncomputable def sSOften : FSpec := spec [ti64] sSOftenF
noncomputable abbrev tabSOften : List (FuncId × FSpec) := [(134, sSOrder)]
theorem tabokSOften : TabOK Try.prog (tabOf tabSOften) := (.cons ok_SOrder .nil)
theorem ok_SOften : FnOK Try.prog 131 sSOften := by
 refine fn_flat (cx := mkcx tabSOften) (c := bodyOf Try.f131) Try.func131 (by kernel_rfl) (by kernel_rfl) rfl ?_
 intro ds chk v vs hF ht he hr base
 unfold sSOftenF at hF
 split at hF
 · rename_i n
   cases hF
   have hvs : vs = [vi64 n] := by simp only [encA, encV, encP, encL, Option.some.injEq] at he; exact he.symm
   subst hvs
   have hc : 0 ≤ n ∧ n ≤ 8 := of_decide_eq_true (ht _ (by simp))
   have : n = 0 ∨ n = 1 ∨ n = 2 ∨ n = 3 ∨ n = 4 ∨ n = 5 ∨ n = 6 ∨ n = 7 ∨ n = 8 := by omega
   rcases this with rfl | rfl | rfl | rfl | rfl | rfl | rfl | rfl | rfl
   · exact runs_evS (mkok tabokSOften) (n := 400) (bs0 := []) (v0 := .ag (.ps [.int .u64 1559614445, .int .u64 1477600026, .int .u64 2734136534, .int .u64 350157278, .int .u64 0, .int .u64 0, .int .u64 0, .int .u64 268435456, .int .u64 0])) (by kernel_rfl) (ent_lit (n := 7237005577332262213973186563042994240857116359379907606001950938285454250989) (by kernel_rfl) (by decide +kernel)) trivial
   · exact runs_evS (mkok tabokSOften) (n := 400) (bs0 := []) (v0 := .ag (.ps [.int .u64 3119228890, .int .u64 2955200052, .int .u64 1173305772, .int .u64 700314557, .int .u64 0, .int .u64 0, .int .u64 0, .int .u64 536870912, .int .u64 0])) (by kernel_rfl) (ent_lit (n := 14474011154664524427946373126085988481714232718759815212003901876570908501978) (by kernel_rfl) (by decide +kernel)) trivial
   · exact runs_evS (mkok tabokSOften) (n := 400) (bs0 := []) (v0 := .ag (.ps [.int .u64 1943490484, .int .u64 1615432809, .int .u64 2346611545, .int .u64 1400629114, .int .u64 0, .int .u64 0, .int .u64 0, .int .u64 1073741824, .int .u64 0])) (by kernel_rfl) (ent_lit (n := 28948022309329048855892746252171976963428465437519630424007803753141817003956) (by kernel_rfl) (by decide +kernel)) trivial
   · exact runs_evS (mkok tabokSOften) (n := 400) (bs0 := []) (v0 := .ag (.ps [.int .u64 3886980968, .int .u64 3230865618, .int .u64 398255794, .int .u64 2801258229, .int .u64 0, .int .u64 0, .int .u64 0, .int .u64 2147483648, .int .u64 0])) (by kernel_rfl) (ent_lit (n := 57896044618658097711785492504343953926856930875039260848015607506283634007912) (by kernel_rfl) (by decide +kernel)) trivial
   · exact runs_evS (mkok tabokSOften) (n := 400) (bs0 := []) (v0 := .ag (.ps [.int .u64 3478994640, .int .u64 2166763941, .int .u64 796511589, .int .u64 1307549162, .int .u64 1, .int .u64 0, .int .u64 0, .int .u64 0, .int .u64 1])) (by kernel_rfl) (ent_lit (n := 115792089237316195423570985008687907853713861750078521696031215012567268015824) (by kernel_rfl) (by decide +kernel)) trivial
   · exact runs_evS (mkok tabokSOften) (n := 400) (bs0 := []) (v0 := .ag (.ps [.int .u64 2663021984, .int .u64 38560587, .int .u64 1593023179, .int .u64 2615098324, .int .u64 2, .int .u64 0, .int .u64 0, .int .u64 0, .int .u64 2])) (by kernel_rfl) (ent_lit (n := 231584178474632390847141970017375815707427723500157043392062430025134536031648) (by kernel_rfl) (by decide +kernel)) trivial
   · exact runs_evS (mkok tabokSOften) (n := 400) (bs0 := []) (v0 := .ag (.ps [.int .u64 1031076672, .int .u64 77121175, .int .u64 3186046358, .int .u64 935229352, .int .u64 5, .int .u64 0, .int .u64 0, .int .u64 0, .int .u64 4])) (by kernel_rfl) (ent_lit (n := 463168356949264781694283940034751631414855447000314086784124860050269072063296) (by kernel_rfl) (by decide +kernel)) trivial
   · exact runs_evS (mkok tabokSOften) (n := 400) (bs0 := []) (v0 := .ag (.ps [.int .u64 2062153344, .int .u64 154242350, .int .u64 2077125420, .int .u64 1870458705, .int .u64 10, .int .u64 0, .int .u64 0, .int .u64 0, .int .u64 8])) (by kernel_rfl) (ent_lit (n := 926336713898529563388567880069503262829710894000628173568249720100538144126592) (by kernel_rfl) (by decide +kernel)) trivial
   · exact runs_evS (mkok tabokSOften) (n := 400) (bs0 := []) (v0 := .ag (.ps [.int .u64 4124306688, .int .u64 308484700, .int .u64 4154250840, .int .u64 3740917410, .int .u64 20, .int .u64 0, .int .u64 0, .int .u64 0, .int .u64 16])) (by kernel_rfl) (ent_lit (n := 1852673427797059126777135760139006525659421788001256347136499440201076288253184) (by kernel_rfl) (by decide +kernel)) trivial
 · cases hF
end Go.Proofs.Ytdkmcpbjicnfmaa

/-
  Contracts of the document's scalars: Rest.
-/
namespace Go.Proofs.Ytdkmcpbjicnfmaa
open Go Vx Go.RowKit

abbrev tbyts : Ty := .one (.sl [.int .u8])
abbrev vbyts (x : List (List D)) : V := .one (.rd [.int .u8] x)
def byI (d : List D) : Int := (d.headD (.n 0)).toI
def bytN (x : List (List D)) : Nat := packL 8 (x.map fun d => (byI d).toNat)
theorem bytN_drop {x : List (List D)} {j : Nat} (hj : j < x.length) : bytN (x.drop j) = (byI (x.getD j [])).toNat + 256 * bytN (x.drop (j + 1)) := by
 unfold bytN
 rw [List.drop_eq_getElem_cons hj, List.map_cons, packL, List.getD_eq_getElem?_getD, List.getElem?_eq_getElem hj, Option.getD_some]
theorem byt_rng {x : List (List D)} (hx : ∀ (i : Nat) (e : List D), x[i]? = some e → rngTs [.int .u8] e) {j : Nat} (hj : j < x.length) : 0 ≤ byI (x.getD j []) ∧ byI (x.getD j []) < 256 := by
 rw [List.getD_eq_getElem?_getD, List.getElem?_eq_getElem hj, Option.getD_some]
 have := hx j _ (List.getElem?_eq_getElem hj)
 simp only [rngTs, rngT] at this
 exact (inK_unsigned rfl).1 this.1
def zq9 : List L := [.int .u64 0, .int .u64 0, .int .u64 0, .int .u64 0, .int .u64 0, .int .u64 0, .int .u64 0, .int .u64 0, .int .u64 0]
def lL : List L := [.pk .u64 32 9 (oftL 0), .pk .u64 32 9 (oftL 1), .pk .u64 32 9 (oftL 2), .pk .u64 32 9 (oftL 3), .pk .u64 32 9 (oftL 4), .pk .u64 32 9 (oftL 5), .pk .u64 32 9 (oftL 6), .pk .u64 32 9 (oftL 7), .pk .u64 32 9 (oftL 8)]
def stS (x : List (List D)) (i : Int) (b : V) (rc : List L) : St := ⟨[vbyts x, .junk, .one (.ptr 0 0), .one (.ptr 1 0), .junk, .one (.ptr 11 0), vi64 i, .junk, .junk, b] ++ List.replicate 89 .junk,
 [some ⟨29, .ps [.int .u8 0, .int .u8 0, .int .u8 0, .int .u8 0, .int .u8 0, .int .u8 0, .int .u8 0, .int .u8 0, .int .u8 0, .int .u8 0, .int .u8 0, .int .u8 0, .int .u8 0, .int .u8 0, .int .u8 0, .int .u8 0, .int .u8 0, .int .u8 0, .int .u8 0, .int .u8 0, .int .u8 0, .int .u8 0, .int .u8 0, .int .u8 0, .int .u8 0, .int .u8 0, .int .u8 0, .int .u8 0, .int .u8 0, .int .u8 0, .int .u8 0, .int .u8 0]⟩, some ⟨177, .ps lL⟩] ++ List.replicate 9 none ++ [some ⟨176, .ps rc⟩]⟩
theorem stS_ent {x : List (List D)} {i : Int} {b : V} {c c' : List L} (h : CEnt (.ps c) (.ps c')) : StEntG (stS x i b c) (stS x i b c') := by
 refine ⟨rfl, fun _ => .inl rfl, fun j => ?_⟩
 match j with
 | 0 | 1 | 2 | 3 | 4 | 5 | 6 | 7 | 8 | 9 | 10 => exact .inl rfl
 | 11 => exact .inr ⟨_, _, _, rfl, rfl, h, (fun h => by cases h), (fun _ h => by cases h)⟩
 | j + 12 => exact .inl rfl
def i9 (f : Nat → Int) : List L := [.int .u64 (f 0), .int .u64 (f 1), .int .u64 (f 2), .int .u64 (f 3), .int .u64 (f 4), .int .u64 (f 5), .int .u64 (f 6), .int .u64 (f 7), .int .u64 (f 8)]
theorem psum_d32 (n : Nat) (h : n < 2 ^ (32 * 9)) : psum (d32 n) 9 = (n : Int) := by
 have := psum_digits n 9
 rw [Nat.mod_eq_of_lt h] at this
 exact this
theorem p288 : (2 : Nat) ^ (32 * 9) = 497323236409786642155382248146820840100456150797347717440463976893159497012533375533056 := by decide +kernel
theorem rest_carry {n : Nat} {b : Int} (hn : n < 7237005577332262213973186563042994240857116359379907606001950938285454250989) (hb : 0 ≤ b ∧ b < 256) : CEnt (.ps (i9 (eC (d32 n) (wrapK .u64 b)))) (.ps [.pk .u64 32 9 (256 * n + b.toNat)]) := by
 refine CEnt.of' (ent_long (f := eC (d32 n) (wrapK .u64 b)) (fun i => eC_rng _ _ i) ?_)
 have hw : wrapK .u64 b = b := by simp only [wrapK]; omega
 rw [hw]
 have hp : n < 2 ^ (32 * 9) := by rw [p288]; omega
 obtain ⟨h1, h2, h3⟩ := carry_sum hb (d32_rng n) 9
 obtain ⟨h4, h5⟩ := psum_rng (d := eC (d32 n) b) 9 (fun i _ => eC_rng _ _ i)
 rw [psum_d32 n hp] at h3
 rw [pow_cast, p288] at h3 h5
 generalize psum (eC (d32 n) b) 9 = S at *
 generalize cC (d32 n) b 9 = c at *
 clear hp hw
 omega
theorem rest_less {M q : Nat} (hM : M < 2 ^ (32 * 9)) (hq : q < 2 ^ (32 * 9)) : decide (bB (d32 M) (d32 q) 9 = 0) = decide (q ≤ M) ∧ (q ≤ M → CEnt (.ps (i9 (oB (d32 M) (d32 q)))) (.ps [.pk .u64 32 9 (M - q)])) := by
 obtain ⟨h1, h2⟩ := borrow_sum (d32_rng M) (d32_rng q) 9
 obtain ⟨h4, h5⟩ := psum_rng (d := oB (d32 M) (d32 q)) 9 (fun i _ => oB_rng _ _ i)
 rw [psum_d32 M hM, psum_d32 q hq] at h2
 rw [pow_cast, p288] at h2 h5
 rw [p288] at hM hq
 have hz : bB (d32 M) (d32 q) 9 = 0 ↔ q ≤ M := by
  generalize psum (oB (d32 M) (d32 q)) 9 = S at *
  rcases h1 with h1 | h1 <;> rw [h1] at h2 ⊢ <;> omega
 refine ⟨decide_eq_decide.2 hz, fun h => CEnt.of' (ent_long (f := oB (d32 M) (d32 q)) (fun i => oB_rng _ _ i) ?_)⟩
 rw [hz.2 h] at h2
 rw [h2]
 omega
theorem oft_lt {n : Int} (h : 0 ≤ n ∧ n ≤ 9) : oftL n < 2 ^ (32 * 9) := by
 unfold oftL
 have : 2 ^ n.toNat ≤ 2 ^ 9 := Nat.pow_le_pow_right (by decide) (by omega)
 rw [p288]
 generalize 2 ^ n.toNat = p at *
 omega
theorem oft_two (j : Nat) : oftL ((j + 1 : Nat) : Int) = 2 * oftL (j : Int) := by
 unfold oftL
 rw [Int.toNat_natCast, Int.toNat_natCast, Nat.pow_succ]
 omega
theorem oft_mod (j : Nat) : oftL (j : Int) % 7237005577332262213973186563042994240857116359379907606001950938285454250989 = 0 := by
 unfold oftL
 exact Nat.mul_mod_right _ _
theorem rest_sub {M j : Nat} (h : M < oftL ((j + 1 : Nat) : Int)) (hq : oftL (j : Int) ≤ M) : M - oftL (j : Int) < oftL (j : Int) ∧ (M - oftL (j : Int)) % 7237005577332262213973186563042994240857116359379907606001950938285454250989 = M % 7237005577332262213973186563042994240857116359379907606001950938285454250989 := by
 rw [oft_two] at h
 have := oft_mod j
 refine ⟨by omega, ?_⟩
 generalize oftL (j : Int) = q at *
 clear h
 omega
theorem by_ent {n : Nat} (hn : n < 7237005577332262213973186563042994240857116359379907606001950938285454250989) : VEnt (.ag (.ps ((List.range' 0 32).map fun i => .int .u8 (wrapK .u8 (((digit 32 n (i / 4) : Nat) : Int) / ((2 ^ (8 * (i % 4)) : Nat) : Int) % 256))))) (vb32 n) := by
 refine ent_b32 (f := fun i => wrapK .u8 (((digit 32 n (i / 4) : Nat) : Int) / ((2 ^ (8 * (i % 4)) : Nat) : Int) % 256)) (Nat.lt_trans hn (by decide)) fun i _ => ?_
 have e : (((digit 32 n (i / 4) : Nat) : Int) / ((2 ^ (8 * (i % 4)) : Nat) : Int) % 256) = ((digit 32 n (i / 4) / 2 ^ (8 * (i % 4)) % 256 : Nat) : Int) := by
  rw [Int.natCast_emod, Int.natCast_ediv]; rfl
 rw [e]
 have hw : wrapK .u8 ((digit 32 n (i / 4) / 2 ^ (8 * (i % 4)) % 256 : Nat) : Int) = ((digit 32 n (i / 4) / 2 ^ (8 * (i % 4)) % 256 : Nat) : Int) := by simp only [wrapK]; omega
 rw [hw, Int.toNat_natCast]
 unfold digit
 have hlt : i % 4 < 4 := Nat.mod_lt _ (by decide)
 have e2 : (2 : Nat) ^ 32 = 2 ^ (8 * (i % 4)) * 2 ^ (32 - 8 * (i % 4)) := by rw [← Nat.pow_add]; congr 1; omega
 rw [e2, Nat.mod_mul_right_div_self, Nat.div_div_eq_div_mul, ← Nat.pow_add]
 have e3 : (2 : Nat) ^ (32 - 8 * (i % 4)) = 256 * 2 ^ (24 - 8 * (i % 4)) := by
  rw [show (256 : Nat) = 2 ^ 8 from rfl, ← Nat.pow_add]; congr 1; omega
 rw [e3, Nat.mod_mul_right_mod]
 congr 3
 omega

noncomputable def sSRestF : List D → Option (List Bool × V)
 | [.l x] => some ([decide (x.length < 1099511627776)], vb32 (restP (bytN x)))
 | _ => none
noncomputable def sSRest : FSpec := spec [tbyts] sSRestF
noncomputable abbrev tabSRest : List (FuncId × FSpec) := [(131, sSOften)]
theorem tabokSRest : TabOK Try.prog (tabOf tabSRest) := (.cons ok_SOften .nil)
theorem ok_SRest : FnOK Try.prog 122 sSRest := by
 refine fn_flat (cx := mkcx tabSRest) (c := bodyOf Try.f122) Try.func122 (by kernel_rfl) (by kernel_rfl) rfl ?_
 intro ds chk v vs hF ht he hr base
 unfold sSRestF at hF
 split at hF
 · rename_i x
   cases hF
   have hvs : vs = [vbyts x] := by simp only [encA, encV, encP, encL, Option.some.injEq] at he; exact he.symm
   subst hvs
   have hxl : x.length < 1099511627776 := of_decide_eq_true (ht _ (by simp))
   obtain ⟨hrng, _⟩ := hr
   have hrng : ∀ (i : Nat) (e : List D), x[i]? = some e → rngTs [.int .u8] e := hrng.2
   have h0 : evLS (mkcs tabSRest) 100 ((items (bodyOf Try.f122)).take 6) ⟨t0 Try.f122 [vbyts x], []⟩ (kfg 0 [0, 2, 3, 5, 6] [0, 1, 11] 12) =
    chks [okK .i64 1, okK .i64 2, okK .i64 3, okK .i64 4, okK .i64 5, okK .i64 6, okK .i64 7, okK .i64 8, okK .i64 9, okK .i64 (x.length : Nat), okK .i64 ((x.length : Nat) - 1)] (.done .normal (stS x ((x.length : Nat) - 1) .junk zq9)) := by kernel_rfl
   have hc0 : allT [okK .i64 1, okK .i64 2, okK .i64 3, okK .i64 4, okK .i64 5, okK .i64 6, okK .i64 7, okK .i64 8, okK .i64 9, okK .i64 (x.length : Nat), okK .i64 ((x.length : Nat) - 1)] := by
    repeat' (first | exact allT0 | refine allTc (okI (by omega) (by omega)) ?_)
   rw [chks_true hc0] at h0
   refine Runs.items _ _ _ (RunsL.flags (cx := mkcs tabSRest) rfl rfl (RunsL.preG (mkoks tabokSRest) (k := 6) (st' := stS x ((x.length : Nat) - 1) .junk [.pk .u64 32 9 0]) h0 (stS_ent (CEnt.of' (ent_lit (n := 0) (by kernel_rfl) (by decide +kernel)))) ?_))
   refine RunsL.flags (cx := mkcx tabSRest) (cx' := mkcs tabSRest) (l := (items (bodyOf Try.f122)).drop 6) rfl rfl ?_
   refine RunsL.loop (id := 2) (by kernel_rfl) (fun m s => ∃ n, s = stS x ((m : Int) - 1) .junk [.pk .u64 32 9 n] ∧ m ≤ x.length ∧ n = bytN (x.drop m) % 7237005577332262213973186563042994240857116359379907606001950938285454250989) x.length ⟨0, rfl, Nat.le_refl _, ?_⟩ ?_
   · rw [List.drop_length]; rfl
   rintro m s ⟨n, rfl, hm, hn⟩
   have hnl : n < 7237005577332262213973186563042994240857116359379907606001950938285454250989 := by rw [hn]; exact Nat.mod_lt _ (by decide)
   cases m with
   | zero =>
     refine RunsL.allS (mkok tabokSRest) (n := 100) (kt := [0, 2, 3, 5, 6]) (kh := [0, 1, 11]) (m := 12) (e := .exit 2) (st' := stS x (-1) .junk [.pk .u64 32 9 n]) (by kernel_rfl) ?_
     have e : restP (bytN x) = n := by rw [restP_eq, hn, List.drop_zero]
     rw [e]
     have hfin2 : evLS (mkcx tabSRest) 100 ((items (bodyOf Try.f122)).drop 7) (stS x (-1) .junk [.pk .u64 32 9 n]) (kres (mkcx tabSRest) Try.f122 base) =
      outV (.ag (.ps ((List.range' 0 32).map fun i => .int .u8 (wrapK .u8 (((digit 32 n (i / 4) : Nat) : Int) / ((2 ^ (8 * (i % 4)) : Nat) : Int) % 256))))) := by kernel_rfl
     exact runsL_evS (mkok tabokSRest) (n := 100) (bs0 := []) hfin2 (by_ent hnl) trivial
   | succ j =>
     have hj : j < x.length := hm
     have hi : ((j + 1 : Nat) : Int) - 1 = (j : Int) := by omega
     rw [hi]
     have hev : ∀ i : Int, evLS (mkcx tabSRest) 100 ((items (loopAt (bodyOf Try.f122) 6)).take 2) (stS x i .junk [.pk .u64 32 9 n]) (kfg 0 [0, 2, 3, 5, 6] [0, 1, 11] 12) =
      bif decide ((0 : Int) ≤ i) then .done .normal (stS x i .junk [.pk .u64 32 9 n]) else .done (.exit 2) (stS x i .junk [.pk .u64 32 9 n]) := by intro i; kernel_rfl
     have hev := hev (j : Int)
     rw [show decide ((0 : Int) ≤ (j : Int)) = true by rw [decide_eq_true_iff]; omega, cond_true] at hev
     refine RunsL.preS (mkok tabokSRest) (k := 2) hev (RunsL.blkAt (id := 3) (by kernel_rfl) ?_)
     have hev2 : ∀ i : Int, evLS (mkcx tabSRest) 100 ((items (blkAt (loopAt (bodyOf Try.f122) 6) 2)).take 4) (stS x i .junk [.pk .u64 32 9 n]) (kfg 0 [0, 2, 3, 5, 6, 9] [0, 1, 11] 12) =
      chks [decide ((0 : Int) ≤ i), decide (i < (x.length : Nat))] (.done .normal (stS x i (vi64 8) (i9 (eC (d32 n) (wrapK .u64 (byI (x.getD i.toNat []))))))) := by intro i; kernel_rfl
     have hev2 := hev2 (j : Int)
     have hc1 : allT [decide ((0 : Int) ≤ (j : Int)), decide ((j : Int) < (x.length : Nat))] := allTc (by rw [decide_eq_true_iff]; omega) (allT1 (by rw [decide_eq_true_iff]; omega))
     rw [chks_true hc1, Int.toNat_natCast] at hev2
     have hb := byt_rng hrng hj
     refine RunsL.preG (mkok tabokSRest) (k := 4) hev2 (stS_ent (rest_carry hnl hb)) ?_
     have hN : bytN (x.drop j) % 7237005577332262213973186563042994240857116359379907606001950938285454250989 = (256 * n + (byI (x.getD j [])).toNat) % 7237005577332262213973186563042994240857116359379907606001950938285454250989 := by
      rw [bytN_drop hj, hn]
      generalize bytN (x.drop (j + 1)) = q
      generalize (byI (x.getD j [])).toNat = b
      clear hev hev2 hc1 hnl hn hb h0 hc0
      omega
     have hN0 : 256 * n + (byI (x.getD j [])).toNat < oftL ((9 : Nat) : Int) := by
      rw [show oftL ((9 : Nat) : Int) = 7237005577332262213973186563042994240857116359379907606001950938285454250989 * 512 from by decide +kernel]
      clear hev hev2 hc1 hn h0 hc0 hN
      omega
     generalize 256 * n + (byI (x.getD j [])).toNat = N at *
     clear hev hev2 hb
     refine RunsL.loop (id := 6) (by kernel_rfl) (fun m s => ∃ M, s = stS x (j : Int) (vi64 ((m : Int) - 1)) [.pk .u64 32 9 M] ∧ m ≤ 9 ∧ M < oftL (m : Int) ∧ M % 7237005577332262213973186563042994240857116359379907606001950938285454250989 = N % 7237005577332262213973186563042994240857116359379907606001950938285454250989) 9 ⟨N, rfl, by decide, hN0, rfl⟩ ?_
     rintro m s ⟨M, rfl, hm, hM, hMN⟩
     have hMb : M < 2 ^ (32 * 9) := Nat.lt_trans hM (oft_lt ⟨by omega, by omega⟩)
     match m, hm, hM with
     | 0, _, hM =>
       refine RunsL.allS (mkok tabokSRest) (n := 100) (kt := [0, 2, 3, 5, 6]) (kh := [0, 1, 11]) (m := 12) (e := .exit 6) (st' := stS x (j : Int) .junk [.pk .u64 32 9 M]) (by kernel_rfl) ?_
       refine RunsL.allS (mkok tabokSRest) (n := 100) (l := []) (kt := [0, 2, 3, 5, 6]) (kh := [0, 1, 11]) (m := 12) (e := .normal) (st' := stS x (j : Int) .junk [.pk .u64 32 9 M]) (by kernel_rfl) ?_
       have hd : ∀ i : Int, evLS (mkcx tabSRest) 100 ((items (loopAt (bodyOf Try.f122) 6)).drop 3) (stS x i .junk [.pk .u64 32 9 M]) (kfg 0 [0, 2, 3, 5, 6] [0, 1, 11] 12) = (.done .normal (stS x (wrapK .i64 (i - 1)) .junk [.pk .u64 32 9 M])) := by intro i; kernel_rfl
       have hd := hd (j : Int)
       have hw : wrapK .i64 ((j : Int) - 1) = (j : Int) - 1 := by simp only [wrapK]; omega
       rw [hw] at hd
       refine RunsL.allS (mkok tabokSRest) hd ⟨j, Nat.lt_succ_self j, M, rfl, Nat.le_of_lt hj, ?_⟩
       rw [hN, ← hMN, Nat.mod_eq_of_lt]
       exact hM
     | 1, _, hM =>
       have hev : evLS (mkcx tabSRest) 100 (items (loopAt (blkAt (loopAt (bodyOf Try.f122) 6) 2) 4)) (stS x (j : Int) (vi64 0) [.pk .u64 32 9 M]) (kfg 0 [0, 2, 3, 5, 6, 9] [0, 1, 11] 12) =
        (bif decide (bB (d32 M) (d32 (oftL 0)) 9 = 0) then (.done .normal (stS x (j : Int) (vi64 (-1)) (i9 (oB (d32 M) (d32 (oftL 0))))))
         else (.done .normal (stS x (j : Int) (vi64 (-1)) [.pk .u64 32 9 M]))) := by kernel_rfl
       obtain ⟨hl1, hl2⟩ := rest_less hMb (oft_lt (n := 0) (by decide))
       rw [hl1] at hev
       by_cases hle : oftL (0 : Int) ≤ M
       · rw [decide_eq_true hle, cond_true] at hev
         obtain ⟨h1, h2⟩ := rest_sub (j := 0) hM hle
         exact RunsL.allG (mkok tabokSRest) hev (stS_ent (hl2 hle)) ⟨0, by decide, _, rfl, by decide, h1, h2.trans hMN⟩
       · rw [decide_eq_false hle, cond_false] at hev
         exact RunsL.allS (mkok tabokSRest) hev ⟨0, by decide, _, rfl, by decide, Nat.lt_of_not_le hle, hMN⟩
     | 2, _, hM =>
       have hev : evLS (mkcx tabSRest) 100 (items (loopAt (blkAt (loopAt (bodyOf Try.f122) 6) 2) 4)) (stS x (j : Int) (vi64 1) [.pk .u64 32 9 M]) (kfg 0 [0, 2, 3, 5, 6, 9] [0, 1, 11] 12) =
        (bif decide (bB (d32 M) (d32 (oftL 1)) 9 = 0) then (.done .normal (stS x (j : Int) (vi64 0) (i9 (oB (d32 M) (d32 (oftL 1))))))
         else (.done .normal (stS x (j : Int) (vi64 0) [.pk .u64 32 9 M]))) := by kernel_rfl
       obtain ⟨hl1, hl2⟩ := rest_less hMb (oft_lt (n := 1) (by decide))
       rw [hl1] at hev
       by_cases hle : oftL (1 : Int) ≤ M
       · rw [decide_eq_true hle, cond_true] at hev
         obtain ⟨h1, h2⟩ := rest_sub (j := 1) hM hle
         exact RunsL.allG (mkok tabokSRest) hev (stS_ent (hl2 hle)) ⟨1, by decide, _, rfl, by decide, h1, h2.trans hMN⟩
       · rw [decide_eq_false hle, cond_false] at hev
         exact RunsL.allS (mkok tabokSRest) hev ⟨1, by decide, _, rfl, by decide, Nat.lt_of_not_le hle, hMN⟩
     | 3, _, hM =>
       have hev : evLS (mkcx tabSRest) 100 (items (loopAt (blkAt (loopAt (bodyOf Try.f122) 6) 2) 4)) (stS x (j : Int) (vi64 2) [.pk .u64 32 9 M]) (kfg 0 [0, 2, 3, 5, 6, 9] [0, 1, 11] 12) =
        (bif decide (bB (d32 M) (d32 (oftL 2)) 9 = 0) then (.done .normal (stS x (j : Int) (vi64 1) (i9 (oB (d32 M) (d32 (oftL 2))))))
         else (.done .normal (stS x (j : Int) (vi64 1) [.pk .u64 32 9 M]))) := by kernel_rfl
       obtain ⟨hl1, hl2⟩ := rest_less hMb (oft_lt (n := 2) (by decide))
       rw [hl1] at hev
       by_cases hle : oftL (2 : Int) ≤ M
       · rw [decide_eq_true hle, cond_true] at hev
         obtain ⟨h1, h2⟩ := rest_sub (j := 2) hM hle
         exact RunsL.allG (mkok tabokSRest) hev (stS_ent (hl2 hle)) ⟨2, by decide, _, rfl, by decide, h1, h2.trans hMN⟩
       · rw [decide_eq_false hle, cond_false] at hev
         exact RunsL.allS (mkok tabokSRest) hev ⟨2, by decide, _, rfl, by decide, Nat.lt_of_not_le hle, hMN⟩
     | 4, _, hM =>
       have hev : evLS (mkcx tabSRest) 100 (items (loopAt (blkAt (loopAt (bodyOf Try.f122) 6) 2) 4)) (stS x (j : Int) (vi64 3) [.pk .u64 32 9 M]) (kfg 0 [0, 2, 3, 5, 6, 9] [0, 1, 11] 12) =
        (bif decide (bB (d32 M) (d32 (oftL 3)) 9 = 0) then (.done .normal (stS x (j : Int) (vi64 2) (i9 (oB (d32 M) (d32 (oftL 3))))))
         else (.done .normal (stS x (j : Int) (vi64 2) [.pk .u64 32 9 M]))) := by kernel_rfl
       obtain ⟨hl1, hl2⟩ := rest_less hMb (oft_lt (n := 3) (by decide))
       rw [hl1] at hev
       by_cases hle : oftL (3 : Int) ≤ M
       · rw [decide_eq_true hle, cond_true] at hev
         obtain ⟨h1, h2⟩ := rest_sub (j := 3) hM hle
         exact RunsL.allG (mkok tabokSRest) hev (stS_ent (hl2 hle)) ⟨3, by decide, _, rfl, by decide, h1, h2.trans hMN⟩
       · rw [decide_eq_false hle, cond_false] at hev
         exact RunsL.allS (mkok tabokSRest) hev ⟨3, by decide, _, rfl, by decide, Nat.lt_of_not_le hle, hMN⟩
     | 5, _, hM =>
       have hev : evLS (mkcx tabSRest) 100 (items (loopAt (blkAt (loopAt (bodyOf Try.f122) 6) 2) 4)) (stS x (j : Int) (vi64 4) [.pk .u64 32 9 M]) (kfg 0 [0, 2, 3, 5, 6, 9] [0, 1, 11] 12) =
        (bif decide (bB (d32 M) (d32 (oftL 4)) 9 = 0) then (.done .normal (stS x (j : Int) (vi64 3) (i9 (oB (d32 M) (d32 (oftL 4))))))
         else (.done .normal (stS x (j : Int) (vi64 3) [.pk .u64 32 9 M]))) := by kernel_rfl
       obtain ⟨hl1, hl2⟩ := rest_less hMb (oft_lt (n := 4) (by decide))
       rw [hl1] at hev
       by_cases hle : oftL (4 : Int) ≤ M
       · rw [decide_eq_true hle, cond_true] at hev
         obtain ⟨h1, h2⟩ := rest_sub (j := 4) hM hle
         exact RunsL.allG (mkok tabokSRest) hev (stS_ent (hl2 hle)) ⟨4, by decide, _, rfl, by decide, h1, h2.trans hMN⟩
       · rw [decide_eq_false hle, cond_false] at hev
         exact RunsL.allS (mkok tabokSRest) hev ⟨4, by decide, _, rfl, by decide, Nat.lt_of_not_le hle, hMN⟩
     | 6, _, hM =>
       have hev : evLS (mkcx tabSRest) 100 (items (loopAt (blkAt (loopAt (bodyOf Try.f122) 6) 2) 4)) (stS x (j : Int) (vi64 5) [.pk .u64 32 9 M]) (kfg 0 [0, 2, 3, 5, 6, 9] [0, 1, 11] 12) =
        (bif decide (bB (d32 M) (d32 (oftL 5)) 9 = 0) then (.done .normal (stS x (j : Int) (vi64 4) (i9 (oB (d32 M) (d32 (oftL 5))))))
         else (.done .normal (stS x (j : Int) (vi64 4) [.pk .u64 32 9 M]))) := by kernel_rfl
       obtain ⟨hl1, hl2⟩ := rest_less hMb (oft_lt (n := 5) (by decide))
       rw [hl1] at hev
       by_cases hle : oftL (5 : Int) ≤ M
       · rw [decide_eq_true hle, cond_true] at hev
         obtain ⟨h1, h2⟩ := rest_sub (j := 5) hM hle
         exact RunsL.allG (mkok tabokSRest) hev (stS_ent (hl2 hle)) ⟨5, by decide, _, rfl, by decide, h1, h2.trans hMN⟩
       · rw [decide_eq_false hle, cond_false] at hev
         exact RunsL.allS (mkok tabokSRest) hev ⟨5, by decide, _, rfl, by decide, Nat.lt_of_not_le hle, hMN⟩
     | 7, _, hM =>
       have hev : evLS (mkcx tabSRest) 100 (items (loopAt (blkAt (loopAt (bodyOf Try.f122) 6) 2) 4)) (stS x (j : Int) (vi64 6) [.pk .u64 32 9 M]) (kfg 0 [0, 2, 3, 5, 6, 9] [0, 1, 11] 12) =
        (bif decide (bB (d32 M) (d32 (oftL 6)) 9 = 0) then (.done .normal (stS x (j : Int) (vi64 5) (i9 (oB (d32 M) (d32 (oftL 6))))))
         else (.done .normal (stS x (j : Int) (vi64 5) [.pk .u64 32 9 M]))) := by kernel_rfl
       obtain ⟨hl1, hl2⟩ := rest_less hMb (oft_lt (n := 6) (by decide))
       rw [hl1] at hev
       by_cases hle : oftL (6 : Int) ≤ M
       · rw [decide_eq_true hle, cond_true] at hev
         obtain ⟨h1, h2⟩ := rest_sub (j := 6) hM hle
         exact RunsL.allG (mkok tabokSRest) hev (stS_ent (hl2 hle)) ⟨6, by decide, _, rfl, by decide, h1, h2.trans hMN⟩
       · rw [decide_eq_false hle, cond_false] at hev
         exact RunsL.allS (mkok tabokSRest) hev ⟨6, by decide, _, rfl, by decide, Nat.lt_of_not_le hle, hMN⟩
     | 8, _, hM =>
       have hev : evLS (mkcx tabSRest) 100 (items (loopAt (blkAt (loopAt (bodyOf Try.f122) 6) 2) 4)) (stS x (j : Int) (vi64 7) [.pk .u64 32 9 M]) (kfg 0 [0, 2, 3, 5, 6, 9] [0, 1, 11] 12) =
        (bif decide (bB (d32 M) (d32 (oftL 7)) 9 = 0) then (.done .normal (stS x (j : Int) (vi64 6) (i9 (oB (d32 M) (d32 (oftL 7))))))
         else (.done .normal (stS x (j : Int) (vi64 6) [.pk .u64 32 9 M]))) := by kernel_rfl
       obtain ⟨hl1, hl2⟩ := rest_less hMb (oft_lt (n := 7) (by decide))
       rw [hl1] at hev
       by_cases hle : oftL (7 : Int) ≤ M
       · rw [decide_eq_true hle, cond_true] at hev
         obtain ⟨h1, h2⟩ := rest_sub (j := 7) hM hle
         exact RunsL.allG (mkok tabokSRest) hev (stS_ent (hl2 hle)) ⟨7, by decide, _, rfl, by decide, h1, h2.trans hMN⟩
       · rw [decide_eq_false hle, cond_false] at hev
         exact RunsL.allS (mkok tabokSRest) hev ⟨7, by decide, _, rfl, by decide, Nat.lt_of_not_le hle, hMN⟩
     | 9, _, hM =>
       have hev : evLS (mkcx tabSRest) 100 (items (loopAt (blkAt (loopAt (bodyOf Try.f122) 6) 2) 4)) (stS x (j : Int) (vi64 8) [.pk .u64 32 9 M]) (kfg 0 [0, 2, 3, 5, 6, 9] [0, 1, 11] 12) =
        (bif decide (bB (d32 M) (d32 (oftL 8)) 9 = 0) then (.done .normal (stS x (j : Int) (vi64 7) (i9 (oB (d32 M) (d32 (oftL 8))))))
         else (.done .normal (stS x (j : Int) (vi64 7) [.pk .u64 32 9 M]))) := by kernel_rfl
       obtain ⟨hl1, hl2⟩ := rest_less hMb (oft_lt (n := 8) (by decide))
       rw [hl1] at hev
       by_cases hle : oftL (8 : Int) ≤ M
       · rw [decide_eq_true hle, cond_true] at hev
         obtain ⟨h1, h2⟩ := rest_sub (j := 8) hM hle
         exact RunsL.allG (mkok tabokSRest) hev (stS_ent (hl2 hle)) ⟨8, by decide, _, rfl, by decide, h1, h2.trans hMN⟩
       · rw [decide_eq_false hle, cond_false] at hev
         exact RunsL.allS (mkok tabokSRest) hev ⟨8, by decide, _, rfl, by decide, Nat.lt_of_not_le hle, hMN⟩
 · cases hF
end Go.Proofs.Ytdkmcpbjicnfmaa

/-
  Contracts of the document's scalars: Of, Wide, Plus.
-/
namespace Go.Proofs.Ytdkmcpbjicnfmaa
open Go Vx Go.RowKit

def listI (c : Nat) (r : Nat → Int) : List (List D) := (List.range c).map fun j => [D.i (r j)]
theorem bytN_list {c N : Nat} {r : Nat → Int} (h : ∀ j, j < c → 0 ≤ r j ∧ r j < 256) (hN : bsum r c = (N : Int)) : bytN (listI c r) = N := by
 have hb := bsum_bd h hN
 have hlt : N < 2 ^ (8 * c) := by
  have := (bsum_rng c h).2
  rw [hN, pow_castN] at this
  exact Int.ofNat_lt.1 this
 have e : (listI c r).map (fun d => (byI d).toNat) = (List.range' 0 c).map (digit 8 N) := by
  unfold listI
  rw [List.map_map, List.range_eq_range']
  refine List.map_congr_left fun j hj => ?_
  have hj : j < c := by rw [List.mem_range'] at hj; obtain ⟨i, hi, rfl⟩ := hj; omega
  show (r j).toNat = digit 8 N j
  rw [hb j hj]
  unfold bd
  exact Int.toNat_natCast _
 unfold bytN
 rw [e, packL_digits, Nat.mul_zero, Nat.pow_zero, Nat.div_one, Nat.mod_eq_of_lt hlt]
theorem bytN_digits {c N : Nat} (hlt : N < 2 ^ (8 * c)) : bytN (listI c (bd N)) = N :=
 bytN_list (fun j _ => bd_rng N j) (by rw [bsum_digits, Nat.mod_eq_of_lt hlt])

def dvI (n : Int) : Nat → Int
 | 0 => n
 | i + 1 => dvI n i / 256
def ofI (n : Int) (i : Nat) : Int := bif Nat.blt i 8 then wrapK .u8 (dvI n i % 256) else 0
theorem dvI_eq {n : Nat} : ∀ i, dvI (n : Int) i = ((n / 2 ^ (8 * i) : Nat) : Int)
 | 0 => by simp [dvI]
 | i + 1 => by
   rw [dvI, dvI_eq i, Nat.mul_succ, Nat.pow_add, ← Nat.div_div_eq_div_mul]
   generalize n / 2 ^ (8 * i) = q
   rw [show (2 : Nat) ^ 8 = 256 from by decide]
   omega
theorem ofI_eq {n : Nat} (hn : n < 18446744073709551616) (i : Nat) : (ofI (n : Int) i).toNat = digit 8 n i := by
 unfold ofI digit
 rcases Nat.lt_or_ge i 8 with h | h
 · rw [blt_t h, cond_true, dvI_eq]
   generalize n / 2 ^ (8 * i) = q
   simp only [wrapK]
   rw [show (2 : Nat) ^ 8 = 256 from by decide]
   omega
 · rw [blt_f h, cond_false]
   have : n / 2 ^ (8 * i) = 0 := Nat.div_eq_of_lt (Nat.lt_of_lt_of_le hn (by rw [show (18446744073709551616 : Nat) = 2 ^ (8 * 8) from by decide]; exact Nat.pow_le_pow_right (by decide) (by omega)))
   rw [this]; rfl

noncomputable def sSScOfF : List D → Option (List Bool × V)
 | [.i n] => some ([], vb32 n.toNat)
 | _ => none
noncomputable def sSScOf : FSpec := spec [tu64] sSScOfF
noncomputable abbrev tabSScOf : List (FuncId × FSpec) := []
theorem tabokSScOf : TabOK Try.prog (tabOf tabSScOf) := TabOK.nil
theorem ok_SScOf : FnOK Try.prog 107 sSScOf := by
 refine fn_flat (cx := mkcx tabSScOf) (c := bodyOf Try.f107) Try.func107 (by kernel_rfl) (by kernel_rfl) rfl ?_
 intro ds chk v vs hF ht he hr base
 unfold sSScOfF at hF
 split at hF
 · rename_i n
   cases hF
   have hvs : vs = [vu64 n] := by simp only [encA, encV, encP, encL, Option.some.injEq] at he; exact he.symm
   subst hvs
   obtain ⟨h1, _⟩ := hr
   obtain ⟨h1, h2⟩ := rng_u64 h1
   obtain ⟨n, rfl⟩ := Int.eq_ofNat_of_zero_le h1
   rw [Int.toNat_natCast]
   exact runs_evS (mkok tabokSScOf) (n := 400) (bs0 := []) (v0 := .ag (.ps ((List.range' 0 32).map fun i => .int .u8 (ofI (n : Int) i)))) (by kernel_rfl) (ent_b32 (f := ofI (n : Int)) (by omega) fun i _ => ofI_eq (by omega) i) trivial
 · cases hF

noncomputable def sSWideF : List D → Option (List Bool × V)
 | [.n b] => some ([], vb32 (restP b))
 | _ => none
noncomputable def sSWide : FSpec := spec [tb64] sSWideF
noncomputable abbrev tabSWide : List (FuncId × FSpec) := [(122, sSRest)]
theorem tabokSWide : TabOK Try.prog (tabOf tabSWide) := (.cons ok_SRest .nil)
theorem ok_SWide : FnOK Try.prog 104 sSWide := by
 refine fn_flat (cx := mkcx tabSWide) (c := bodyOf Try.f104) Try.func104 (by kernel_rfl) (by kernel_rfl) rfl ?_
 intro ds chk v vs hF ht he hr base
 unfold sSWideF at hF
 split at hF
 · rename_i b
   cases hF
   have hvs : vs = [vb64 b] := by simp only [encA, encV, encP, encL, Option.some.injEq] at he; exact he.symm
   subst hvs
   obtain ⟨h1, _⟩ := hr
   have e := bytN_digits (c := 64) (rng_b64 h1)
   have hw : restP b = restP (bytN (listI 64 (bd b))) := by rw [e]
   rw [hw]
   exact runs_evS (mkok tabokSWide) (n := 600) (bs0 := []) (by kernel_rfl) (VEnt.refl _) trivial
 · cases hF
end Go.Proofs.Ytdkmcpbjicnfmaa

/-
  Contracts of the document's scalars: Minus, Times, Inverse.
-/
namespace Go.Proofs.Ytdkmcpbjicnfmaa
open Go Vx Go.RowKit
end Go.Proofs.Ytdkmcpbjicnfmaa
