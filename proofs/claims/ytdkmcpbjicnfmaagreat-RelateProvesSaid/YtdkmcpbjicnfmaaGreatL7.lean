/-
  Contracts of the program's scalars: Times.
-/
import Derived.Test.YtdkmcpbjicnfmaaGreatL6
import Derived.Test.YtdkmcpbjicnfmaaGreatU2
import Derived.Test.YtdkmcpbjicnfmaaGreatX4
import Derived.Test.YtdkmcpbjicnfmaaGreatL3
set_option maxRecDepth 100000
namespace Go.Proofs.YtdkmcpbjicnfmaaGreat
open Go Vx Go.RowKit

def q8 (r : Nat → Int) : List L := [.int .u64 (r 0), .int .u64 (r 1), .int .u64 (r 2), .int .u64 (r 3), .int .u64 (r 4), .int .u64 (r 5), .int .u64 (r 6), .int .u64 (r 7)]
def l8 (r : Nat → Int) : List (List D) := [[.i (r 0)], [.i (r 1)], [.i (r 2)], [.i (r 3)], [.i (r 4)], [.i (r 5)], [.i (r 6)], [.i (r 7)]]
def dq (n i : Nat) : Int := ((digit 64 n i : Nat) : Int)
def stT (x y : Nat) (r : Nat → Int) (i : Int) : St := ⟨[.junk, .junk, .junk, .junk, .one (.ptr 2 0), .one (.ptr 5 0), .one (.ptr 6 0), .one (.sl 7 0 8 8)] ++ List.replicate 11 .junk ++ [vi64 i] ++ List.replicate 53 .junk,
 [none, none, some ⟨35, .ps [.int .u8 0, .int .u8 0, .int .u8 0, .int .u8 0, .int .u8 0, .int .u8 0, .int .u8 0, .int .u8 0, .int .u8 0, .int .u8 0, .int .u8 0, .int .u8 0, .int .u8 0, .int .u8 0, .int .u8 0, .int .u8 0, .int .u8 0, .int .u8 0, .int .u8 0, .int .u8 0, .int .u8 0, .int .u8 0, .int .u8 0, .int .u8 0, .int .u8 0, .int .u8 0, .int .u8 0, .int .u8 0, .int .u8 0, .int .u8 0, .int .u8 0, .int .u8 0]⟩, none, none, some ⟨155, .ps [.pk .u64 64 4 x]⟩, some ⟨155, .ps [.pk .u64 64 4 y]⟩, some ⟨92, .ps (q8 r)⟩]⟩
theorem dq_rng (n i : Nat) : 0 ≤ dq n i ∧ dq n i < 18446744073709551616 := by
 unfold dq digit
 have := Nat.mod_lt (n / 2 ^ (64 * i)) (show 2 ^ 64 > 0 by decide)
 simp only [Nat.reducePow] at *
 omega
theorem wsum_digits (n : Nat) : ∀ k, wsum (dq n) k = ((n % 2 ^ (64 * k) : Nat) : Int)
 | 0 => by simp [wsum, Nat.mod_one]
 | k + 1 => by
   rw [wsum, wsum_digits n k]
   have e : n % 2 ^ (64 * (k + 1)) = n % 2 ^ (64 * k) + 2 ^ (64 * k) * digit 64 n k := by
    rw [show 64 * (k + 1) = 64 * k + 64 from rfl, Nat.pow_add, Nat.mod_mul]
    rfl
   rw [e]
   unfold dq
   simp only [Int.natCast_add, Int.natCast_mul, Int.natCast_pow, Int.cast_ofNat_Int]
   rw [Int.mul_comm (2 ^ (64 * k))]
theorem limbs_wsum {r : Nat → Int} (h : ∀ j, 0 ≤ r j ∧ r j < 18446744073709551616) : ((limbs (l8 r) : Nat) : Int) = wsum r 8 := by
 unfold limbs l8 limbD
 simp only [List.map_cons, List.map_nil, List.headD_cons, D.toI, packL, wsum]
 have h0 := h 0; have h1 := h 1; have h2 := h 2; have h3 := h 3; have h4 := h 4; have h5 := h 5; have h6 := h 6; have h7 := h 7
 generalize r 0 = a0 at *; generalize r 1 = a1 at *; generalize r 2 = a2 at *; generalize r 3 = a3 at *
 generalize r 4 = a4 at *; generalize r 5 = a5 at *; generalize r 6 = a6 at *; generalize r 7 = a7 at *
 clear h
 have p1 : (2 : Int) ^ (64 * 1) = 2 ^ 64 := rfl
 have ps : ∀ k, (2 : Int) ^ (64 * (k + 1)) = 2 ^ (64 * k) * 2 ^ 64 := fun k => by rw [Nat.mul_succ, Int.pow_add]
 have p0 : (2 : Int) ^ (64 * 0) = 1 := rfl
 rw [ps 6, ps 5, ps 4, ps 3, ps 2, ps 1, ps 0, p0]
 simp only [Int.natCast_add, Int.natCast_mul, Int.natCast_pow, Int.cast_ofNat_Int, Int.toNat_of_nonneg h0.1, Int.toNat_of_nonneg h1.1, Int.toNat_of_nonneg h2.1, Int.toNat_of_nonneg h3.1, Int.toNat_of_nonneg h4.1, Int.toNat_of_nonneg h5.1, Int.toNat_of_nonneg h6.1, Int.toNat_of_nonneg h7.1]
 generalize (2 : Int) ^ 64 = M
 grind
theorem times_end {x y : Nat} (hx : x < 115792089237316195423570985008687907853269984665640564039457584007913129639936) (hy : y < 115792089237316195423570985008687907853269984665640564039457584007913129639936) {r : Nat → Int} (h : QInv (dq x) (dq y) 4 r) : limbs (l8 r) = x * y := by
 have e := limbs_wsum h.rng
 have hv := h.val
 have px : wsum (dq x) 4 = (x : Int) := by rw [wsum_digits, show (2 : Nat) ^ (64 * 4) = 115792089237316195423570985008687907853269984665640564039457584007913129639936 from by decide +kernel, Nat.mod_eq_of_lt hx]
 have py : wsum (dq y) 4 = (y : Int) := by rw [wsum_digits, show (2 : Nat) ^ (64 * 4) = 115792089237316195423570985008687907853269984665640564039457584007913129639936 from by decide +kernel, Nat.mod_eq_of_lt hy]
 rw [px, py, ← e] at hv
 exact_mod_cast hv

noncomputable def sRTimesF : List D → Option (List Bool × V)
 | [.n a, .n b] => some ([], vb32 (restP (restP a * restP b)))
 | _ => none
noncomputable def sRTimes : FSpec := spec [tb32, tb32] sRTimesF
noncomputable abbrev tabRTimes : List (FuncId × FSpec) := [(169, sRCanon), (170, sMul64), (171, sAdd64), (125, sRest), (126, sRScalar)]
theorem tabokRTimes : TabOK Tryz.prog (tabOf tabRTimes) := (.cons ok_RCanon (.cons ok_Mul64 (.cons ok_Add64 (.cons ok_Rest (.cons ok_RScalar .nil)))))
theorem ok_RTimes : FnOK Tryz.prog 111 sRTimes := by
 refine fn_flat (cx := mkcx tabRTimes) (c := bodyOf Tryz.f111) Tryz.func111 (by kernel_rfl) (by kernel_rfl) rfl ?_
 intro ds chk v vs hF ht he hr base
 unfold sRTimesF at hF
 split at hF
 · rename_i a b
   cases hF
   have hvs : vs = [vb32 a, vb32 b] := by simp only [encA, encV, encP, encL, Option.some.injEq] at he; exact he.symm
   subst hvs
   have hx : restP a < 115792089237316195423570985008687907853269984665640564039457584007913129639936 := Nat.lt_trans (restP_lt a) (by decide)
   have hy : restP b < 115792089237316195423570985008687907853269984665640564039457584007913129639936 := Nat.lt_trans (restP_lt b) (by decide)
   have hI0 : QInv (dq (restP a)) (dq (restP b)) 0 (fun _ => 0) := ⟨fun _ => ⟨by decide, by decide⟩, fun _ _ => rfl, by simp [wsum]⟩
   refine Runs.items _ _ _ (RunsL.preS (mkok tabokRTimes) (n := 100) (k := 4) (kt := [4, 5, 6, 7, 19]) (kh := [2, 5, 6, 7]) (m := 8) (e := .normal) (st' := stT (restP a) (restP b) (fun _ => 0) 0) (by kernel_rfl) ?_)
   generalize restP a = x at *
   generalize restP b = y at *
   refine RunsL.loop (id := 0) (by kernel_rfl) (fun m s => ∃ r, s = stT x y r (4 - (m : Int)) ∧ m ≤ 4 ∧ QInv (dq x) (dq y) (4 - m) r) 4 ⟨fun _ => 0, rfl, Nat.le_refl _, by have := hI0; exact this⟩ ?_
   rintro m s ⟨r, rfl, hm, hI⟩
   match m, hm, hI with
   | 4, _, hI => exact RunsL.allS (mkok tabokRTimes) (n := 100) (kt := [4, 5, 6, 7, 19]) (kh := [2, 5, 6, 7]) (m := 8) (e := .normal) (st' := stT x y (nextQ r (dq x 0) (dq y) 0) 1) (by kernel_rfl) ⟨3, by decide, _, rfl, by decide, hI.step (dq_rng x) (dq_rng y)⟩
   | 3, _, hI => exact RunsL.allS (mkok tabokRTimes) (n := 100) (kt := [4, 5, 6, 7, 19]) (kh := [2, 5, 6, 7]) (m := 8) (e := .normal) (st' := stT x y (nextQ r (dq x 1) (dq y) 1) 2) (by kernel_rfl) ⟨2, by decide, _, rfl, by decide, hI.step (dq_rng x) (dq_rng y)⟩
   | 2, _, hI => exact RunsL.allS (mkok tabokRTimes) (n := 100) (kt := [4, 5, 6, 7, 19]) (kh := [2, 5, 6, 7]) (m := 8) (e := .normal) (st' := stT x y (nextQ r (dq x 2) (dq y) 2) 3) (by kernel_rfl) ⟨1, by decide, _, rfl, by decide, hI.step (dq_rng x) (dq_rng y)⟩
   | 1, _, hI => exact RunsL.allS (mkok tabokRTimes) (n := 100) (kt := [4, 5, 6, 7, 19]) (kh := [2, 5, 6, 7]) (m := 8) (e := .normal) (st' := stT x y (nextQ r (dq x 3) (dq y) 3) 4) (by kernel_rfl) ⟨0, by decide, _, rfl, by decide, hI.step (dq_rng x) (dq_rng y)⟩
   | 0, _, hI =>
     refine RunsL.allS (mkok tabokRTimes) (n := 100) (kt := [4, 5, 6, 7, 19]) (kh := [2, 5, 6, 7]) (m := 8) (e := .exit 0) (st' := stT x y r 4) (by kernel_rfl) ?_
     rw [← times_end hx hy hI]
     exact runsL_evS (mkok tabokRTimes) (n := 200) (bs0 := []) (by kernel_rfl) (VEnt.refl _) trivial
 · cases hF
end Go.Proofs.YtdkmcpbjicnfmaaGreat

/-
  Contracts of the program's scalars: Inverse.
-/
namespace Go.Proofs.YtdkmcpbjicnfmaaGreat
open Go Vx Go.RowKit

noncomputable def powL : Nat → Nat → Nat := hidden' fun a n => a ^ n % 7237005577332262213973186563042994240857116359379907606001950938285454250989
theorem powL_eq (a n : Nat) : powL a n = a ^ n % 7237005577332262213973186563042994240857116359379907606001950938285454250989 := by unfold powL; rw [seal_eq]
end Go.Proofs.YtdkmcpbjicnfmaaGreat

/-
  Contracts of the document's scalars: often.
-/
namespace Go.Proofs.YtdkmcpbjicnfmaaGreat
open Go Vx Go.RowKit

abbrev vlong (n : Nat) : V := .pk .u64 32 9 n
def d32 (n i : Nat) : Int := ((digit 32 n i : Nat) : Int)
theorem d32_rng (n i : Nat) : 0 ≤ d32 n i ∧ d32 n i < 4294967296 := by
 unfold d32 digit
 have := Nat.mod_lt (n / 2 ^ (32 * i)) (show 2 ^ 32 > 0 by decide)
 simp only [Nat.reducePow] at *
 omega
theorem pow_cast (n : Nat) : (2 : Int) ^ n = ((2 ^ n : Nat) : Int) := by simp
theorem ent_long {f : Nat → Int} {n : Nat} (h : ∀ i, 0 ≤ f i ∧ f i < 4294967296) (hn : psum f 9 = (n : Int)) : VEnt (.ag (.ps ((List.range 9).map fun i => .int .u64 (f i)))) (vlong n) := by
 have hb : n < 2 ^ (32 * 9) := by
  have := (psum_rng (d := f) 9 (fun i _ => h i)).2
  rw [hn, pow_cast (32 * 9)] at this
  exact Int.ofNat_lt.1 this
 refine ent_pk (f := f) hb rfl (by decide) fun i hi => ?_
 rw [← psum_digit h 9 i hi, hn]
 unfold digit
 have h2 : ((2 : Int) ^ (32 * i)) = ((2 ^ (32 * i) : Nat) : Int) := by simp
 rw [h2]
 simp only [Nat.reducePow]
 omega
theorem ent_lit {n : Nat} {l : List L} (h : l = (List.range 9).map fun i => .int .u64 (d32 n i)) (hn : n < 2 ^ (32 * 9)) : VEnt (.ag (.ps l)) (vlong n) := by
 subst h
 exact ent_pk (f := d32 n) hn rfl (by decide) fun i _ => rfl

def oftL (n : Int) : Nat := 7237005577332262213973186563042994240857116359379907606001950938285454250989 * 2 ^ n.toNat

noncomputable def sSOftenF : List D → Option (List Bool × V)
 | [.i n] => some ([decide (0 ≤ n ∧ n ≤ 8)], vlong (oftL n))
 | _ => none
noncomputable def sSOften : FSpec := spec [ti64] sSOftenF
noncomputable abbrev tabSOften : List (FuncId × FSpec) := [(172, sSOrder)]
theorem tabokSOften : TabOK Tryz.prog (tabOf tabSOften) := (.cons ok_SOrder .nil)
theorem ok_SOften : FnOK Tryz.prog 181 sSOften := by
 refine fn_flat (cx := mkcx tabSOften) (c := bodyOf Tryz.f181) Tryz.func181 (by kernel_rfl) (by kernel_rfl) rfl ?_
 intro ds chk v vs hF ht he hr base
 unfold sSOftenF at hF
 split at hF
 · rename_i n
   cases hF
   have hvs : vs = [vi64 n] := by simp only [encA, encV, encP, encL, Option.some.injEq] at he; exact he.symm
   subst hvs
   have hc : 0 ≤ n ∧ n ≤ 8 := of_decide_eq_true (ht _ (by simp))
   have : n = 0 ∨ n = 1 ∨ n = 2 ∨ n = 3 ∨ n = 4 ∨ n = 5 ∨ n = 6 ∨ n = 7 ∨ n = 8 := by omega
   rcases this with rfl | rfl | rfl | rfl | rfl | rfl | rfl | rfl | rfl
   · exact runs_evS (mkok tabokSOften) (n := 400) (bs0 := []) (v0 := .ag (.ps [.int .u64 1559614445, .int .u64 1477600026, .int .u64 2734136534, .int .u64 350157278, .int .u64 0, .int .u64 0, .int .u64 0, .int .u64 268435456, .int .u64 0])) (by kernel_rfl) (ent_lit (n := 7237005577332262213973186563042994240857116359379907606001950938285454250989) (by kernel_rfl) (by decide +kernel)) trivial
   · exact runs_evS (mkok tabokSOften) (n := 400) (bs0 := []) (v0 := .ag (.ps [.int .u64 3119228890, .int .u64 2955200052, .int .u64 1173305772, .int .u64 700314557, .int .u64 0, .int .u64 0, .int .u64 0, .int .u64 536870912, .int .u64 0])) (by kernel_rfl) (ent_lit (n := 14474011154664524427946373126085988481714232718759815212003901876570908501978) (by kernel_rfl) (by decide +kernel)) trivial
   · exact runs_evS (mkok tabokSOften) (n := 400) (bs0 := []) (v0 := .ag (.ps [.int .u64 1943490484, .int .u64 1615432809, .int .u64 2346611545, .int .u64 1400629114, .int .u64 0, .int .u64 0, .int .u64 0, .int .u64 1073741824, .int .u64 0])) (by kernel_rfl) (ent_lit (n := 28948022309329048855892746252171976963428465437519630424007803753141817003956) (by kernel_rfl) (by decide +kernel)) trivial
   · exact runs_evS (mkok tabokSOften) (n := 400) (bs0 := []) (v0 := .ag (.ps [.int .u64 3886980968, .int .u64 3230865618, .int .u64 398255794, .int .u64 2801258229, .int .u64 0, .int .u64 0, .int .u64 0, .int .u64 2147483648, .int .u64 0])) (by kernel_rfl) (ent_lit (n := 57896044618658097711785492504343953926856930875039260848015607506283634007912) (by kernel_rfl) (by decide +kernel)) trivial
   · exact runs_evS (mkok tabokSOften) (n := 400) (bs0 := []) (v0 := .ag (.ps [.int .u64 3478994640, .int .u64 2166763941, .int .u64 796511589, .int .u64 1307549162, .int .u64 1, .int .u64 0, .int .u64 0, .int .u64 0, .int .u64 1])) (by kernel_rfl) (ent_lit (n := 115792089237316195423570985008687907853713861750078521696031215012567268015824) (by kernel_rfl) (by decide +kernel)) trivial
   · exact runs_evS (mkok tabokSOften) (n := 400) (bs0 := []) (v0 := .ag (.ps [.int .u64 2663021984, .int .u64 38560587, .int .u64 1593023179, .int .u64 2615098324, .int .u64 2, .int .u64 0, .int .u64 0, .int .u64 0, .int .u64 2])) (by kernel_rfl) (ent_lit (n := 231584178474632390847141970017375815707427723500157043392062430025134536031648) (by kernel_rfl) (by decide +kernel)) trivial
   · exact runs_evS (mkok tabokSOften) (n := 400) (bs0 := []) (v0 := .ag (.ps [.int .u64 1031076672, .int .u64 77121175, .int .u64 3186046358, .int .u64 935229352, .int .u64 5, .int .u64 0, .int .u64 0, .int .u64 0, .int .u64 4])) (by kernel_rfl) (ent_lit (n := 463168356949264781694283940034751631414855447000314086784124860050269072063296) (by kernel_rfl) (by decide +kernel)) trivial
   · exact runs_evS (mkok tabokSOften) (n := 400) (bs0 := []) (v0 := .ag (.ps [.int .u64 2062153344, .int .u64 154242350, .int .u64 2077125420, .int .u64 1870458705, .int .u64 10, .int .u64 0, .int .u64 0, .int .u64 0, .int .u64 8])) (by kernel_rfl) (ent_lit (n := 926336713898529563388567880069503262829710894000628173568249720100538144126592) (by kernel_rfl) (by decide +kernel)) trivial
   · exact runs_evS (mkok tabokSOften) (n := 400) (bs0 := []) (v0 := .ag (.ps [.int .u64 4124306688, .int .u64 308484700, .int .u64 4154250840, .int .u64 3740917410, .int .u64 20, .int .u64 0, .int .u64 0, .int .u64 0, .int .u64 16])) (by kernel_rfl) (ent_lit (n := 1852673427797059126777135760139006525659421788001256347136499440201076288253184) (by kernel_rfl) (by decide +kernel)) trivial
 · cases hF
end Go.Proofs.YtdkmcpbjicnfmaaGreat

/-
  Contracts of the document's scalars: Rest.
-/
namespace Go.Proofs.YtdkmcpbjicnfmaaGreat
open Go Vx Go.RowKit

abbrev tbyts : Ty := .one (.sl [.int .u8])
abbrev vbyts (x : List (List D)) : V := .one (.rd [.int .u8] x)
def byI (d : List D) : Int := (d.headD (.n 0)).toI
def bytN (x : List (List D)) : Nat := packL 8 (x.map fun d => (byI d).toNat)
theorem bytN_drop {x : List (List D)} {j : Nat} (hj : j < x.length) : bytN (x.drop j) = (byI (x.getD j [])).toNat + 256 * bytN (x.drop (j + 1)) := by
 unfold bytN
 rw [List.drop_eq_getElem_cons hj, List.map_cons, packL, List.getD_eq_getElem?_getD, List.getElem?_eq_getElem hj, Option.getD_some]
theorem byt_rng {x : List (List D)} (hx : ∀ (i : Nat) (e : List D), x[i]? = some e → rngTs [.int .u8] e) {j : Nat} (hj : j < x.length) : 0 ≤ byI (x.getD j []) ∧ byI (x.getD j []) < 256 := by
 rw [List.getD_eq_getElem?_getD, List.getElem?_eq_getElem hj, Option.getD_some]
 have := hx j _ (List.getElem?_eq_getElem hj)
 simp only [rngTs, rngT] at this
 exact (inK_unsigned rfl).1 this.1
def zq9 : List L := [.int .u64 0, .int .u64 0, .int .u64 0, .int .u64 0, .int .u64 0, .int .u64 0, .int .u64 0, .int .u64 0, .int .u64 0]
def lL : List L := [.pk .u64 32 9 (oftL 0), .pk .u64 32 9 (oftL 1), .pk .u64 32 9 (oftL 2), .pk .u64 32 9 (oftL 3), .pk .u64 32 9 (oftL 4), .pk .u64 32 9 (oftL 5), .pk .u64 32 9 (oftL 6), .pk .u64 32 9 (oftL 7), .pk .u64 32 9 (oftL 8)]
def stS (x : List (List D)) (i : Int) (b : V) (rc : List L) : St := ⟨[vbyts x, .junk, .one (.ptr 0 0), .one (.ptr 1 0), .junk, .one (.ptr 11 0), vi64 i, .junk, .junk, b] ++ List.replicate 89 .junk,
 [some ⟨35, .ps [.int .u8 0, .int .u8 0, .int .u8 0, .int .u8 0, .int .u8 0, .int .u8 0, .int .u8 0, .int .u8 0, .int .u8 0, .int .u8 0, .int .u8 0, .int .u8 0, .int .u8 0, .int .u8 0, .int .u8 0, .int .u8 0, .int .u8 0, .int .u8 0, .int .u8 0, .int .u8 0, .int .u8 0, .int .u8 0, .int .u8 0, .int .u8 0, .int .u8 0, .int .u8 0, .int .u8 0, .int .u8 0, .int .u8 0, .int .u8 0, .int .u8 0, .int .u8 0]⟩, some ⟨208, .ps lL⟩] ++ List.replicate 9 none ++ [some ⟨207, .ps rc⟩]⟩
theorem stS_ent {x : List (List D)} {i : Int} {b : V} {c c' : List L} (h : CEnt (.ps c) (.ps c')) : StEntG (stS x i b c) (stS x i b c') := by
 refine ⟨rfl, fun _ => .inl rfl, fun j => ?_⟩
 match j with
 | 0 | 1 | 2 | 3 | 4 | 5 | 6 | 7 | 8 | 9 | 10 => exact .inl rfl
 | 11 => exact .inr ⟨_, _, _, rfl, rfl, h, (fun h => by cases h), (fun _ h => by cases h)⟩
 | j + 12 => exact .inl rfl
def i9 (f : Nat → Int) : List L := [.int .u64 (f 0), .int .u64 (f 1), .int .u64 (f 2), .int .u64 (f 3), .int .u64 (f 4), .int .u64 (f 5), .int .u64 (f 6), .int .u64 (f 7), .int .u64 (f 8)]
theorem psum_d32 (n : Nat) (h : n < 2 ^ (32 * 9)) : psum (d32 n) 9 = (n : Int) := by
 have := psum_digits n 9
 rw [Nat.mod_eq_of_lt h] at this
 exact this
theorem p288 : (2 : Nat) ^ (32 * 9) = 497323236409786642155382248146820840100456150797347717440463976893159497012533375533056 := by decide +kernel
theorem rest_carry {n : Nat} {b : Int} (hn : n < 7237005577332262213973186563042994240857116359379907606001950938285454250989) (hb : 0 ≤ b ∧ b < 256) : CEnt (.ps (i9 (eC (d32 n) (wrapK .u64 b)))) (.ps [.pk .u64 32 9 (256 * n + b.toNat)]) := by
 refine CEnt.of' (ent_long (f := eC (d32 n) (wrapK .u64 b)) (fun i => eC_rng _ _ i) ?_)
 have hw : wrapK .u64 b = b := by simp only [wrapK]; omega
 rw [hw]
 have hp : n < 2 ^ (32 * 9) := by rw [p288]; omega
 obtain ⟨h1, h2, h3⟩ := carry_sum hb (d32_rng n) 9
 obtain ⟨h4, h5⟩ := psum_rng (d := eC (d32 n) b) 9 (fun i _ => eC_rng _ _ i)
 rw [psum_d32 n hp] at h3
 rw [pow_cast, p288] at h3 h5
 generalize psum (eC (d32 n) b) 9 = S at *
 generalize cC (d32 n) b 9 = c at *
 clear hp hw
 omega
theorem rest_less {M q : Nat} (hM : M < 2 ^ (32 * 9)) (hq : q < 2 ^ (32 * 9)) : decide (bB (d32 M) (d32 q) 9 = 0) = decide (q ≤ M) ∧ (q ≤ M → CEnt (.ps (i9 (oB (d32 M) (d32 q)))) (.ps [.pk .u64 32 9 (M - q)])) := by
 obtain ⟨h1, h2⟩ := borrow_sum (d32_rng M) (d32_rng q) 9
 obtain ⟨h4, h5⟩ := psum_rng (d := oB (d32 M) (d32 q)) 9 (fun i _ => oB_rng _ _ i)
 rw [psum_d32 M hM, psum_d32 q hq] at h2
 rw [pow_cast, p288] at h2 h5
 rw [p288] at hM hq
 have hz : bB (d32 M) (d32 q) 9 = 0 ↔ q ≤ M := by
  generalize psum (oB (d32 M) (d32 q)) 9 = S at *
  rcases h1 with h1 | h1 <;> rw [h1] at h2 ⊢ <;> omega
 refine ⟨decide_eq_decide.2 hz, fun h => CEnt.of' (ent_long (f := oB (d32 M) (d32 q)) (fun i => oB_rng _ _ i) ?_)⟩
 rw [hz.2 h] at h2
 rw [h2]
 omega
theorem oft_lt {n : Int} (h : 0 ≤ n ∧ n ≤ 9) : oftL n < 2 ^ (32 * 9) := by
 unfold oftL
 have : 2 ^ n.toNat ≤ 2 ^ 9 := Nat.pow_le_pow_right (by decide) (by omega)
 rw [p288]
 generalize 2 ^ n.toNat = p at *
 omega
theorem oft_two (j : Nat) : oftL ((j + 1 : Nat) : Int) = 2 * oftL (j : Int) := by
 unfold oftL
 rw [Int.toNat_natCast, Int.toNat_natCast, Nat.pow_succ]
 omega
theorem oft_mod (j : Nat) : oftL (j : Int) % 7237005577332262213973186563042994240857116359379907606001950938285454250989 = 0 := by
 unfold oftL
 exact Nat.mul_mod_right _ _
theorem rest_sub {M j : Nat} (h : M < oftL ((j + 1 : Nat) : Int)) (hq : oftL (j : Int) ≤ M) : M - oftL (j : Int) < oftL (j : Int) ∧ (M - oftL (j : Int)) % 7237005577332262213973186563042994240857116359379907606001950938285454250989 = M % 7237005577332262213973186563042994240857116359379907606001950938285454250989 := by
 rw [oft_two] at h
 have := oft_mod j
 refine ⟨by omega, ?_⟩
 generalize oftL (j : Int) = q at *
 clear h
 omega
theorem by_ent {n : Nat} (hn : n < 7237005577332262213973186563042994240857116359379907606001950938285454250989) : VEnt (.ag (.ps ((List.range' 0 32).map fun i => .int .u8 (wrapK .u8 (((digit 32 n (i / 4) : Nat) : Int) / ((2 ^ (8 * (i % 4)) : Nat) : Int) % 256))))) (vb32 n) := by
 refine ent_b32 (f := fun i => wrapK .u8 (((digit 32 n (i / 4) : Nat) : Int) / ((2 ^ (8 * (i % 4)) : Nat) : Int) % 256)) (Nat.lt_trans hn (by decide)) fun i _ => ?_
 have e : (((digit 32 n (i / 4) : Nat) : Int) / ((2 ^ (8 * (i % 4)) : Nat) : Int) % 256) = ((digit 32 n (i / 4) / 2 ^ (8 * (i % 4)) % 256 : Nat) : Int) := by
  rw [Int.natCast_emod, Int.natCast_ediv]; rfl
 rw [e]
 have hw : wrapK .u8 ((digit 32 n (i / 4) / 2 ^ (8 * (i % 4)) % 256 : Nat) : Int) = ((digit 32 n (i / 4) / 2 ^ (8 * (i % 4)) % 256 : Nat) : Int) := by simp only [wrapK]; omega
 rw [hw, Int.toNat_natCast]
 unfold digit
 have hlt : i % 4 < 4 := Nat.mod_lt _ (by decide)
 have e2 : (2 : Nat) ^ 32 = 2 ^ (8 * (i % 4)) * 2 ^ (32 - 8 * (i % 4)) := by rw [← Nat.pow_add]; congr 1; omega
 rw [e2, Nat.mod_mul_right_div_self, Nat.div_div_eq_div_mul, ← Nat.pow_add]
 have e3 : (2 : Nat) ^ (32 - 8 * (i % 4)) = 256 * 2 ^ (24 - 8 * (i % 4)) := by
  rw [show (256 : Nat) = 2 ^ 8 from rfl, ← Nat.pow_add]; congr 1; omega
 rw [e3, Nat.mod_mul_right_mod]
 congr 3
 omega

noncomputable def sSRestF : List D → Option (List Bool × V)
 | [.l x] => some ([decide (x.length < 1099511627776)], vb32 (restP (bytN x)))
 | _ => none
noncomputable def sSRest : FSpec := spec [tbyts] sSRestF
noncomputable abbrev tabSRest : List (FuncId × FSpec) := [(181, sSOften)]
theorem tabokSRest : TabOK Tryz.prog (tabOf tabSRest) := (.cons ok_SOften .nil)
theorem ok_SRest : FnOK Tryz.prog 129 sSRest := by
 refine fn_flat (cx := mkcx tabSRest) (c := bodyOf Tryz.f129) Tryz.func129 (by kernel_rfl) (by kernel_rfl) rfl ?_
 intro ds chk v vs hF ht he hr base
 unfold sSRestF at hF
 split at hF
 · rename_i x
   cases hF
   have hvs : vs = [vbyts x] := by simp only [encA, encV, encP, encL, Option.some.injEq] at he; exact he.symm
   subst hvs
   have hxl : x.length < 1099511627776 := of_decide_eq_true (ht _ (by simp))
   obtain ⟨hrng, _⟩ := hr
   have hrng : ∀ (i : Nat) (e : List D), x[i]? = some e → rngTs [.int .u8] e := hrng.2
   have h0 : evLS (mkcs tabSRest) 100 ((items (bodyOf Tryz.f129)).take 6) ⟨t0 Tryz.f129 [vbyts x], []⟩ (kfg 0 [0, 2, 3, 5, 6] [0, 1, 11] 12) =
    chks [okK .i64 1, okK .i64 2, okK .i64 3, okK .i64 4, okK .i64 5, okK .i64 6, okK .i64 7, okK .i64 8, okK .i64 9, okK .i64 (x.length : Nat), okK .i64 ((x.length : Nat) - 1)] (.done .normal (stS x ((x.length : Nat) - 1) .junk zq9)) := by kernel_rfl
   have hc0 : allT [okK .i64 1, okK .i64 2, okK .i64 3, okK .i64 4, okK .i64 5, okK .i64 6, okK .i64 7, okK .i64 8, okK .i64 9, okK .i64 (x.length : Nat), okK .i64 ((x.length : Nat) - 1)] := by
    repeat' (first | exact allT0 | refine allTc (okI (by omega) (by omega)) ?_)
   rw [chks_true hc0] at h0
   refine Runs.items _ _ _ (RunsL.flags (cx := mkcs tabSRest) rfl rfl (RunsL.preG (mkoks tabokSRest) (k := 6) (st' := stS x ((x.length : Nat) - 1) .junk [.pk .u64 32 9 0]) h0 (stS_ent (CEnt.of' (ent_lit (n := 0) (by kernel_rfl) (by decide +kernel)))) ?_))
   refine RunsL.flags (cx := mkcx tabSRest) (cx' := mkcs tabSRest) (l := (items (bodyOf Tryz.f129)).drop 6) rfl rfl ?_
   refine RunsL.loop (id := 2) (by kernel_rfl) (fun m s => ∃ n, s = stS x ((m : Int) - 1) .junk [.pk .u64 32 9 n] ∧ m ≤ x.length ∧ n = bytN (x.drop m) % 7237005577332262213973186563042994240857116359379907606001950938285454250989) x.length ⟨0, rfl, Nat.le_refl _, ?_⟩ ?_
   · rw [List.drop_length]; rfl
   rintro m s ⟨n, rfl, hm, hn⟩
   have hnl : n < 7237005577332262213973186563042994240857116359379907606001950938285454250989 := by rw [hn]; exact Nat.mod_lt _ (by decide)
   cases m with
   | zero =>
     refine RunsL.allS (mkok tabokSRest) (n := 100) (kt := [0, 2, 3, 5, 6]) (kh := [0, 1, 11]) (m := 12) (e := .exit 2) (st' := stS x (-1) .junk [.pk .u64 32 9 n]) (by kernel_rfl) ?_
     have e : restP (bytN x) = n := by rw [restP_eq, hn, List.drop_zero]
     rw [e]
     have hfin2 : evLS (mkcx tabSRest) 100 ((items (bodyOf Tryz.f129)).drop 7) (stS x (-1) .junk [.pk .u64 32 9 n]) (kres (mkcx tabSRest) Tryz.f129 base) =
      outV (.ag (.ps ((List.range' 0 32).map fun i => .int .u8 (wrapK .u8 (((digit 32 n (i / 4) : Nat) : Int) / ((2 ^ (8 * (i % 4)) : Nat) : Int) % 256))))) := by kernel_rfl
     exact runsL_evS (mkok tabokSRest) (n := 100) (bs0 := []) hfin2 (by_ent hnl) trivial
   | succ j =>
     have hj : j < x.length := hm
     have hi : ((j + 1 : Nat) : Int) - 1 = (j : Int) := by omega
     rw [hi]
     have hev : ∀ i : Int, evLS (mkcx tabSRest) 100 ((items (loopAt (bodyOf Tryz.f129) 6)).take 2) (stS x i .junk [.pk .u64 32 9 n]) (kfg 0 [0, 2, 3, 5, 6] [0, 1, 11] 12) =
      bif decide ((0 : Int) ≤ i) then .done .normal (stS x i .junk [.pk .u64 32 9 n]) else .done (.exit 2) (stS x i .junk [.pk .u64 32 9 n]) := by intro i; kernel_rfl
     have hev := hev (j : Int)
     rw [show decide ((0 : Int) ≤ (j : Int)) = true by rw [decide_eq_true_iff]; omega, cond_true] at hev
     refine RunsL.preS (mkok tabokSRest) (k := 2) hev (RunsL.blkAt (id := 3) (by kernel_rfl) ?_)
     have hev2 : ∀ i : Int, evLS (mkcx tabSRest) 100 ((items (blkAt (loopAt (bodyOf Tryz.f129) 6) 2)).take 4) (stS x i .junk [.pk .u64 32 9 n]) (kfg 0 [0, 2, 3, 5, 6, 9] [0, 1, 11] 12) =
      chks [decide ((0 : Int) ≤ i), decide (i < (x.length : Nat))] (.done .normal (stS x i (vi64 8) (i9 (eC (d32 n) (wrapK .u64 (byI (x.getD i.toNat []))))))) := by intro i; kernel_rfl
     have hev2 := hev2 (j : Int)
     have hc1 : allT [decide ((0 : Int) ≤ (j : Int)), decide ((j : Int) < (x.length : Nat))] := allTc (by rw [decide_eq_true_iff]; omega) (allT1 (by rw [decide_eq_true_iff]; omega))
     rw [chks_true hc1, Int.toNat_natCast] at hev2
     have hb := byt_rng hrng hj
     refine RunsL.preG (mkok tabokSRest) (k := 4) hev2 (stS_ent (rest_carry hnl hb)) ?_
     have hN : bytN (x.drop j) % 7237005577332262213973186563042994240857116359379907606001950938285454250989 = (256 * n + (byI (x.getD j [])).toNat) % 7237005577332262213973186563042994240857116359379907606001950938285454250989 := by
      rw [bytN_drop hj, hn]
      generalize bytN (x.drop (j + 1)) = q
      generalize (byI (x.getD j [])).toNat = b
      clear hev hev2 hc1 hnl hn hb h0 hc0
      omega
     have hN0 : 256 * n + (byI (x.getD j [])).toNat < oftL ((9 : Nat) : Int) := by
      rw [show oftL ((9 : Nat) : Int) = 7237005577332262213973186563042994240857116359379907606001950938285454250989 * 512 from by decide +kernel]
      clear hev hev2 hc1 hn h0 hc0 hN
      omega
     generalize 256 * n + (byI (x.getD j [])).toNat = N at *
     clear hev hev2 hb
     refine RunsL.loop (id := 6) (by kernel_rfl) (fun m s => ∃ M, s = stS x (j : Int) (vi64 ((m : Int) - 1)) [.pk .u64 32 9 M] ∧ m ≤ 9 ∧ M < oftL (m : Int) ∧ M % 7237005577332262213973186563042994240857116359379907606001950938285454250989 = N % 7237005577332262213973186563042994240857116359379907606001950938285454250989) 9 ⟨N, rfl, by decide, hN0, rfl⟩ ?_
     rintro m s ⟨M, rfl, hm, hM, hMN⟩
     have hMb : M < 2 ^ (32 * 9) := Nat.lt_trans hM (oft_lt ⟨by omega, by omega⟩)
     match m, hm, hM with
     | 0, _, hM =>
       refine RunsL.allS (mkok tabokSRest) (n := 100) (kt := [0, 2, 3, 5, 6]) (kh := [0, 1, 11]) (m := 12) (e := .exit 6) (st' := stS x (j : Int) .junk [.pk .u64 32 9 M]) (by kernel_rfl) ?_
       refine RunsL.allS (mkok tabokSRest) (n := 100) (l := []) (kt := [0, 2, 3, 5, 6]) (kh := [0, 1, 11]) (m := 12) (e := .normal) (st' := stS x (j : Int) .junk [.pk .u64 32 9 M]) (by kernel_rfl) ?_
       have hd : ∀ i : Int, evLS (mkcx tabSRest) 100 ((items (loopAt (bodyOf Tryz.f129) 6)).drop 3) (stS x i .junk [.pk .u64 32 9 M]) (kfg 0 [0, 2, 3, 5, 6] [0, 1, 11] 12) = (.done .normal (stS x (wrapK .i64 (i - 1)) .junk [.pk .u64 32 9 M])) := by intro i; kernel_rfl
       have hd := hd (j : Int)
       have hw : wrapK .i64 ((j : Int) - 1) = (j : Int) - 1 := by simp only [wrapK]; omega
       rw [hw] at hd
       refine RunsL.allS (mkok tabokSRest) hd ⟨j, Nat.lt_succ_self j, M, rfl, Nat.le_of_lt hj, ?_⟩
       rw [hN, ← hMN, Nat.mod_eq_of_lt]
       exact hM
     | 1, _, hM =>
       have hev : evLS (mkcx tabSRest) 100 (items (loopAt (blkAt (loopAt (bodyOf Tryz.f129) 6) 2) 4)) (stS x (j : Int) (vi64 0) [.pk .u64 32 9 M]) (kfg 0 [0, 2, 3, 5, 6, 9] [0, 1, 11] 12) =
        (bif decide (bB (d32 M) (d32 (oftL 0)) 9 = 0) then (.done .normal (stS x (j : Int) (vi64 (-1)) (i9 (oB (d32 M) (d32 (oftL 0))))))
         else (.done .normal (stS x (j : Int) (vi64 (-1)) [.pk .u64 32 9 M]))) := by kernel_rfl
       obtain ⟨hl1, hl2⟩ := rest_less hMb (oft_lt (n := 0) (by decide))
       rw [hl1] at hev
       by_cases hle : oftL (0 : Int) ≤ M
       · rw [decide_eq_true hle, cond_true] at hev
         obtain ⟨h1, h2⟩ := rest_sub (j := 0) hM hle
         exact RunsL.allG (mkok tabokSRest) hev (stS_ent (hl2 hle)) ⟨0, by decide, _, rfl, by decide, h1, h2.trans hMN⟩
       · rw [decide_eq_false hle, cond_false] at hev
         exact RunsL.allS (mkok tabokSRest) hev ⟨0, by decide, _, rfl, by decide, Nat.lt_of_not_le hle, hMN⟩
     | 2, _, hM =>
       have hev : evLS (mkcx tabSRest) 100 (items (loopAt (blkAt (loopAt (bodyOf Tryz.f129) 6) 2) 4)) (stS x (j : Int) (vi64 1) [.pk .u64 32 9 M]) (kfg 0 [0, 2, 3, 5, 6, 9] [0, 1, 11] 12) =
        (bif decide (bB (d32 M) (d32 (oftL 1)) 9 = 0) then (.done .normal (stS x (j : Int) (vi64 0) (i9 (oB (d32 M) (d32 (oftL 1))))))
         else (.done .normal (stS x (j : Int) (vi64 0) [.pk .u64 32 9 M]))) := by kernel_rfl
       obtain ⟨hl1, hl2⟩ := rest_less hMb (oft_lt (n := 1) (by decide))
       rw [hl1] at hev
       by_cases hle : oftL (1 : Int) ≤ M
       · rw [decide_eq_true hle, cond_true] at hev
         obtain ⟨h1, h2⟩ := rest_sub (j := 1) hM hle
         exact RunsL.allG (mkok tabokSRest) hev (stS_ent (hl2 hle)) ⟨1, by decide, _, rfl, by decide, h1, h2.trans hMN⟩
       · rw [decide_eq_false hle, cond_false] at hev
         exact RunsL.allS (mkok tabokSRest) hev ⟨1, by decide, _, rfl, by decide, Nat.lt_of_not_le hle, hMN⟩
     | 3, _, hM =>
       have hev : evLS (mkcx tabSRest) 100 (items (loopAt (blkAt (loopAt (bodyOf Tryz.f129) 6) 2) 4)) (stS x (j : Int) (vi64 2) [.pk .u64 32 9 M]) (kfg 0 [0, 2, 3, 5, 6, 9] [0, 1, 11] 12) =
        (bif decide (bB (d32 M) (d32 (oftL 2)) 9 = 0) then (.done .normal (stS x (j : Int) (vi64 1) (i9 (oB (d32 M) (d32 (oftL 2))))))
         else (.done .normal (stS x (j : Int) (vi64 1) [.pk .u64 32 9 M]))) := by kernel_rfl
       obtain ⟨hl1, hl2⟩ := rest_less hMb (oft_lt (n := 2) (by decide))
       rw [hl1] at hev
       by_cases hle : oftL (2 : Int) ≤ M
       · rw [decide_eq_true hle, cond_true] at hev
         obtain ⟨h1, h2⟩ := rest_sub (j := 2) hM hle
         exact RunsL.allG (mkok tabokSRest) hev (stS_ent (hl2 hle)) ⟨2, by decide, _, rfl, by decide, h1, h2.trans hMN⟩
       · rw [decide_eq_false hle, cond_false] at hev
         exact RunsL.allS (mkok tabokSRest) hev ⟨2, by decide, _, rfl, by decide, Nat.lt_of_not_le hle, hMN⟩
     | 4, _, hM =>
       have hev : evLS (mkcx tabSRest) 100 (items (loopAt (blkAt (loopAt (bodyOf Tryz.f129) 6) 2) 4)) (stS x (j : Int) (vi64 3) [.pk .u64 32 9 M]) (kfg 0 [0, 2, 3, 5, 6, 9] [0, 1, 11] 12) =
        (bif decide (bB (d32 M) (d32 (oftL 3)) 9 = 0) then (.done .normal (stS x (j : Int) (vi64 2) (i9 (oB (d32 M) (d32 (oftL 3))))))
         else (.done .normal (stS x (j : Int) (vi64 2) [.pk .u64 32 9 M]))) := by kernel_rfl
       obtain ⟨hl1, hl2⟩ := rest_less hMb (oft_lt (n := 3) (by decide))
       rw [hl1] at hev
       by_cases hle : oftL (3 : Int) ≤ M
       · rw [decide_eq_true hle, cond_true] at hev
         obtain ⟨h1, h2⟩ := rest_sub (j := 3) hM hle
         exact RunsL.allG (mkok tabokSRest) hev (stS_ent (hl2 hle)) ⟨3, by decide, _, rfl, by decide, h1, h2.trans hMN⟩
       · rw [decide_eq_false hle, cond_false] at hev
         exact RunsL.allS (mkok tabokSRest) hev ⟨3, by decide, _, rfl, by decide, Nat.lt_of_not_le hle, hMN⟩
     | 5, _, hM =>
       have hev : evLS (mkcx tabSRest) 100 (items (loopAt (blkAt (loopAt (bodyOf Tryz.f129) 6) 2) 4)) (stS x (j : Int) (vi64 4) [.pk .u64 32 9 M]) (kfg 0 [0, 2, 3, 5, 6, 9] [0, 1, 11] 12) =
        (bif decide (bB (d32 M) (d32 (oftL 4)) 9 = 0) then (.done .normal (stS x (j : Int) (vi64 3) (i9 (oB (d32 M) (d32 (oftL 4))))))
         else (.done .normal (stS x (j : Int) (vi64 3) [.pk .u64 32 9 M]))) := by kernel_rfl
       obtain ⟨hl1, hl2⟩ := rest_less hMb (oft_lt (n := 4) (by decide))
       rw [hl1] at hev
       by_cases hle : oftL (4 : Int) ≤ M
       · rw [decide_eq_true hle, cond_true] at hev
         obtain ⟨h1, h2⟩ := rest_sub (j := 4) hM hle
         exact RunsL.allG (mkok tabokSRest) hev (stS_ent (hl2 hle)) ⟨4, by decide, _, rfl, by decide, h1, h2.trans hMN⟩
       · rw [decide_eq_false hle, cond_false] at hev
         exact RunsL.allS (mkok tabokSRest) hev ⟨4, by decide, _, rfl, by decide, Nat.lt_of_not_le hle, hMN⟩
     | 6, _, hM =>
       have hev : evLS (mkcx tabSRest) 100 (items (loopAt (blkAt (loopAt (bodyOf Tryz.f129) 6) 2) 4)) (stS x (j : Int) (vi64 5) [.pk .u64 32 9 M]) (kfg 0 [0, 2, 3, 5, 6, 9] [0, 1, 11] 12) =
        (bif decide (bB (d32 M) (d32 (oftL 5)) 9 = 0) then (.done .normal (stS x (j : Int) (vi64 4) (i9 (oB (d32 M) (d32 (oftL 5))))))
         else (.done .normal (stS x (j : Int) (vi64 4) [.pk .u64 32 9 M]))) := by kernel_rfl
       obtain ⟨hl1, hl2⟩ := rest_less hMb (oft_lt (n := 5) (by decide))
       rw [hl1] at hev
       by_cases hle : oftL (5 : Int) ≤ M
       · rw [decide_eq_true hle, cond_true] at hev
         obtain ⟨h1, h2⟩ := rest_sub (j := 5) hM hle
         exact RunsL.allG (mkok tabokSRest) hev (stS_ent (hl2 hle)) ⟨5, by decide, _, rfl, by decide, h1, h2.trans hMN⟩
       · rw [decide_eq_false hle, cond_false] at hev
         exact RunsL.allS (mkok tabokSRest) hev ⟨5, by decide, _, rfl, by decide, Nat.lt_of_not_le hle, hMN⟩
     | 7, _, hM =>
       have hev : evLS (mkcx tabSRest) 100 (items (loopAt (blkAt (loopAt (bodyOf Tryz.f129) 6) 2) 4)) (stS x (j : Int) (vi64 6) [.pk .u64 32 9 M]) (kfg 0 [0, 2, 3, 5, 6, 9] [0, 1, 11] 12) =
        (bif decide (bB (d32 M) (d32 (oftL 6)) 9 = 0) then (.done .normal (stS x (j : Int) (vi64 5) (i9 (oB (d32 M) (d32 (oftL 6))))))
         else (.done .normal (stS x (j : Int) (vi64 5) [.pk .u64 32 9 M]))) := by kernel_rfl
       obtain ⟨hl1, hl2⟩ := rest_less hMb (oft_lt (n := 6) (by decide))
       rw [hl1] at hev
       by_cases hle : oftL (6 : Int) ≤ M
       · rw [decide_eq_true hle, cond_true] at hev
         obtain ⟨h1, h2⟩ := rest_sub (j := 6) hM hle
         exact RunsL.allG (mkok tabokSRest) hev (stS_ent (hl2 hle)) ⟨6, by decide, _, rfl, by decide, h1, h2.trans hMN⟩
       · rw [decide_eq_false hle, cond_false] at hev
         exact RunsL.allS (mkok tabokSRest) hev ⟨6, by decide, _, rfl, by decide, Nat.lt_of_not_le hle, hMN⟩
     | 8, _, hM =>
       have hev : evLS (mkcx tabSRest) 100 (items (loopAt (blkAt (loopAt (bodyOf Tryz.f129) 6) 2) 4)) (stS x (j : Int) (vi64 7) [.pk .u64 32 9 M]) (kfg 0 [0, 2, 3, 5, 6, 9] [0, 1, 11] 12) =
        (bif decide (bB (d32 M) (d32 (oftL 7)) 9 = 0) then (.done .normal (stS x (j : Int) (vi64 6) (i9 (oB (d32 M) (d32 (oftL 7))))))
         else (.done .normal (stS x (j : Int) (vi64 6) [.pk .u64 32 9 M]))) := by kernel_rfl
       obtain ⟨hl1, hl2⟩ := rest_less hMb (oft_lt (n := 7) (by decide))
       rw [hl1] at hev
       by_cases hle : oftL (7 : Int) ≤ M
       · rw [decide_eq_true hle, cond_true] at hev
         obtain ⟨h1, h2⟩ := rest_sub (j := 7) hM hle
         exact RunsL.allG (mkok tabokSRest) hev (stS_ent (hl2 hle)) ⟨7, by decide, _, rfl, by decide, h1, h2.trans hMN⟩
       · rw [decide_eq_false hle, cond_false] at hev
         exact RunsL.allS (mkok tabokSRest) hev ⟨7, by decide, _, rfl, by decide, Nat.lt_of_not_le hle, hMN⟩
     | 9, _, hM =>
       have hev : evLS (mkcx tabSRest) 100 (items (loopAt (blkAt (loopAt (bodyOf Tryz.f129) 6) 2) 4)) (stS x (j : Int) (vi64 8) [.pk .u64 32 9 M]) (kfg 0 [0, 2, 3, 5, 6, 9] [0, 1, 11] 12) =
        (bif decide (bB (d32 M) (d32 (oftL 8)) 9 = 0) then (.done .normal (stS x (j : Int) (vi64 7) (i9 (oB (d32 M) (d32 (oftL 8))))))
         else (.done .normal (stS x (j : Int) (vi64 7) [.pk .u64 32 9 M]))) := by kernel_rfl
       obtain ⟨hl1, hl2⟩ := rest_less hMb (oft_lt (n := 8) (by decide))
       rw [hl1] at hev
       by_cases hle : oftL (8 : Int) ≤ M
       · rw [decide_eq_true hle, cond_true] at hev
         obtain ⟨h1, h2⟩ := rest_sub (j := 8) hM hle
         exact RunsL.allG (mkok tabokSRest) hev (stS_ent (hl2 hle)) ⟨8, by decide, _, rfl, by decide, h1, h2.trans hMN⟩
       · rw [decide_eq_false hle, cond_false] at hev
         exact RunsL.allS (mkok tabokSRest) hev ⟨8, by decide, _, rfl, by decide, Nat.lt_of_not_le hle, hMN⟩
 · cases hF
end Go.Proofs.YtdkmcpbjicnfmaaGreat

/-
  Contracts of the document's scalars: Of, Wide, Plus.
-/
namespace Go.Proofs.YtdkmcpbjicnfmaaGreat
open Go Vx Go.RowKit

def listI (c : Nat) (r : Nat → Int) : List (List D) := (List.range c).map fun j => [D.i (r j)]
theorem bytN_list {c N : Nat} {r : Nat → Int} (h : ∀ j, j < c → 0 ≤ r j ∧ r j < 256) (hN : bsum r c = (N : Int)) : bytN (listI c r) = N := by
 have hb := bsum_bd h hN
 have hlt : N < 2 ^ (8 * c) := by
  have := (bsum_rng c h).2
  rw [hN, pow_castN] at this
  exact Int.ofNat_lt.1 this
 have e : (listI c r).map (fun d => (byI d).toNat) = (List.range' 0 c).map (digit 8 N) := by
  unfold listI
  rw [List.map_map, List.range_eq_range']
  refine List.map_congr_left fun j hj => ?_
  have hj : j < c := by rw [List.mem_range'] at hj; obtain ⟨i, hi, rfl⟩ := hj; omega
  show (r j).toNat = digit 8 N j
  rw [hb j hj]
  unfold bd
  exact Int.toNat_natCast _
 unfold bytN
 rw [e, packL_digits, Nat.mul_zero, Nat.pow_zero, Nat.div_one, Nat.mod_eq_of_lt hlt]
theorem bytN_digits {c N : Nat} (hlt : N < 2 ^ (8 * c)) : bytN (listI c (bd N)) = N :=
 bytN_list (fun j _ => bd_rng N j) (by rw [bsum_digits, Nat.mod_eq_of_lt hlt])
theorem p256 : (2 : Nat) ^ (8 * 32) = 115792089237316195423570985008687907853269984665640564039457584007913129639936 := by decide +kernel
def stPl (a b : Nat) (sb : C) (c i : Int) : St := ⟨[.junk, .junk, .one (.ptr 0 0), .one (.ptr 1 0), .one (.ptr 2 0), .one (.ptr 3 0), vi64 c, vi64 i] ++ List.replicate 27 .junk,
 [some ⟨35, .ps [.pk .u8 8 32 a]⟩, some ⟨35, .ps [.pk .u8 8 32 b]⟩, some ⟨35, .ps [.int .u8 0, .int .u8 0, .int .u8 0, .int .u8 0, .int .u8 0, .int .u8 0, .int .u8 0, .int .u8 0, .int .u8 0, .int .u8 0, .int .u8 0, .int .u8 0, .int .u8 0, .int .u8 0, .int .u8 0, .int .u8 0, .int .u8 0, .int .u8 0, .int .u8 0, .int .u8 0, .int .u8 0, .int .u8 0, .int .u8 0, .int .u8 0, .int .u8 0, .int .u8 0, .int .u8 0, .int .u8 0, .int .u8 0, .int .u8 0, .int .u8 0, .int .u8 0]⟩, some ⟨204, sb⟩]⟩
theorem stPl_ent {a b : Nat} {c i : Int} {s s' : C} (h : CEnt s s') (h1 : s = .dead → s' = .dead) (h2 : ∀ ts, s = .row ts [] → ∃ ts', s' = .row ts' []) : StEntG (stPl a b s c i) (stPl a b s' c i) := by
 refine ⟨rfl, fun _ => .inl rfl, fun j => ?_⟩
 match j with
 | 0 | 1 | 2 => exact .inl rfl
 | 3 => exact .inr ⟨_, _, _, rfl, rfl, h, h1, h2⟩
 | j + 4 => exact .inl rfl
theorem canon_add (a b : Nat) : restP (restP a + restP b) = restP (a + b) := by
 rw [restP_eq, restP_eq, restP_eq, restP_eq, ← Nat.add_mod]

noncomputable def sSWideF : List D → Option (List Bool × V)
 | [.n b] => some ([], vb32 (restP b))
 | _ => none
noncomputable def sSWide : FSpec := spec [tb64] sSWideF
noncomputable abbrev tabSWide : List (FuncId × FSpec) := [(129, sSRest)]
theorem tabokSWide : TabOK Tryz.prog (tabOf tabSWide) := (.cons ok_SRest .nil)
theorem ok_SWide : FnOK Tryz.prog 92 sSWide := by
 refine fn_flat (cx := mkcx tabSWide) (c := bodyOf Tryz.f92) Tryz.func92 (by kernel_rfl) (by kernel_rfl) rfl ?_
 intro ds chk v vs hF ht he hr base
 unfold sSWideF at hF
 split at hF
 · rename_i b
   cases hF
   have hvs : vs = [vb64 b] := by simp only [encA, encV, encP, encL, Option.some.injEq] at he; exact he.symm
   subst hvs
   obtain ⟨h1, _⟩ := hr
   have e := bytN_digits (c := 64) (rng_b64 h1)
   have hw : restP b = restP (bytN (listI 64 (bd b))) := by rw [e]
   rw [hw]
   exact runs_evS (mkok tabokSWide) (n := 600) (bs0 := []) (by kernel_rfl) (VEnt.refl _) trivial
 · cases hF

noncomputable def sSPlusF : List D → Option (List Bool × V)
 | [.n a, .n b] => some ([], vb32 (restP (restP a + restP b)))
 | _ => none
noncomputable def sSPlus : FSpec := spec [tb32, tb32] sSPlusF
noncomputable abbrev tabSPlus : List (FuncId × FSpec) := [(129, sSRest)]
theorem tabokSPlus : TabOK Tryz.prog (tabOf tabSPlus) := (.cons ok_SRest .nil)
theorem ok_SPlus : FnOK Tryz.prog 121 sSPlus := by
 refine fn_flat (cx := mkcs tabSPlus) (c := bodyOf Tryz.f121) Tryz.func121 (by kernel_rfl) (by kernel_rfl) rfl ?_
 intro ds chk v vs hF ht he hr base
 unfold sSPlusF at hF
 split at hF
 · rename_i a b
   cases hF
   have hvs : vs = [vb32 a, vb32 b] := by simp only [encA, encV, encP, encL, Option.some.injEq] at he; exact he.symm
   subst hvs
   obtain ⟨h1, h2, _⟩ := hr
   have ha := rng_b32 h1
   have hb := rng_b32 h2
   rw [canon_add]
   refine Runs.items _ _ _ (RunsL.preG (mkoks tabokSPlus) (n := 100) (k := 4) (kt := [2, 3, 4, 5, 6, 7]) (kh := [0, 1, 2, 3]) (m := 4) (e := .normal) (st1 := stPl a b (psI .u8 33 fun _ => 0) 0 0) (st' := stPl a b (bgI .u8 33 fun _ => 0) 0 0) (by kernel_rfl)
    (stPl_ent ps_bg (fun h => by cases h) (fun _ h => by cases h)) ?_)
   refine RunsL.loop (id := 0) (by kernel_rfl) (fun m s => ∃ (j : Nat) (c : Int) (r : Nat → Int), s = stPl a b (bgI .u8 33 r) c (j : Int) ∧ j + m = 32 ∧ (c = 0 ∨ c = 1) ∧ (∀ p, 0 ≤ r p ∧ r p < 256) ∧ bsum r j + c * 2 ^ (8 * j) = bsum (bd a) j + bsum (bd b) j) 32
    ⟨0, 0, fun _ => 0, rfl, rfl, .inl rfl, fun _ => (⟨by decide, by decide⟩ : (0 : Int) ≤ 0 ∧ (0 : Int) < 256), by simp [bsum]⟩ ?_
   rintro m s ⟨j, c, r, rfl, hj, hc, hr, hs⟩
   have hev : ∀ i : Int, evLS (mkcs tabSPlus) 100 (items (loopAt (bodyOf Tryz.f121) 4)) (stPl a b (bgI .u8 33 r) c i) (kfg 0 [2, 3, 4, 5, 6, 7] [0, 1, 2, 3] 4) =
    bif decide (i < 32) then chks [decide (0 ≤ i), decide (i < 32), decide (0 + i.toNat < 32), okK .i64 (bd a (0 + i.toNat)), okK .i64 (c + bd a (0 + i.toNat)), decide (0 ≤ i), decide (i < 32), decide (0 + i.toNat < 32), okK .i64 (bd b (0 + i.toNat)),
     okK .i64 (c + bd a (0 + i.toNat) + bd b (0 + i.toNat)), decide (0 ≤ i), decide (i < 33), decide (0 + i.toNat < 33), okK .i64 ((c + bd a (0 + i.toNat) + bd b (0 + i.toNat)).tdiv 256), okK .i64 (i + 1)]
     (.done .normal (stPl a b (.big 1 33 fun p => if p = 0 + i.toNat then [.int .u8 (wrapK .u8 ((c + bd a (0 + i.toNat) + bd b (0 + i.toNat)).tmod 256))] else [.int .u8 (r p)]) ((c + bd a (0 + i.toNat) + bd b (0 + i.toNat)).tdiv 256) (i + 1)))
    else .done (.exit 0) (stPl a b (bgI .u8 33 r) c i) := by intro i; kernel_rfl
   have hev := hev (j : Int)
   rw [bg_upd, Int.toNat_natCast, Nat.zero_add] at hev
   have hx := bd_rng a j
   have hy := bd_rng b j
   cases m with
   | zero =>
     have hj : j = 32 := hj
     subst hj
     rw [show decide (((32 : Nat) : Int) < 32) = false from rfl, cond_false] at hev
     refine RunsL.allG (mkoks tabokSPlus) hev (st' := stPl a b (psI .u8 33 r) c 32) (stPl_ent bg_ps (fun h => by cases h) (fun _ h => by cases h)) ?_
     have hsum : bytN (listI 33 (upd1 r 32 (wrapK .u8 c))) = a + b := by
      refine bytN_list (fun p _ => ?_) ?_
      · rcases Nat.lt_or_ge p 32 with h | h
        · rw [upd1_ne (by omega)]; exact hr p
        · by_cases hp : p = 32
          · subst hp; rw [upd1_at]; rcases hc with rfl | rfl <;> decide
          · rw [upd1_ne hp]; exact hr p
      · rw [bsum, upd1_at, bsum_congr 32 (e := r) (fun p hp => upd1_ne (by omega))]
        have hw : wrapK .u8 c = c := by rcases hc with rfl | rfl <;> rfl
        rw [hw, hs, bsum_digits, bsum_digits, p256, Nat.mod_eq_of_lt ha, Nat.mod_eq_of_lt hb]
        omega
     rw [← hsum]
     exact runsL_evS (mkoks tabokSPlus) (n := 100) (bs0 := []) (by kernel_rfl) (VEnt.refl _) trivial
   | succ m =>
     have hd1 : (c + bd a j + bd b j).tdiv 256 = (c + bd a j + bd b j) / 256 := Int.tdiv_eq_ediv_of_nonneg (by omega)
     have hd2 : (c + bd a j + bd b j).tmod 256 = (c + bd a j + bd b j) % 256 := Int.tmod_eq_emod_of_nonneg (by omega)
     rw [hd1, hd2, decide_eq_true (show ((j : Nat) : Int) < 32 by omega), cond_true] at hev
     have hst : bsum r (j + 1) = bsum r j + r j * 2 ^ (8 * j) := rfl
     have hsa : bsum (bd a) (j + 1) = bsum (bd a) j + bd a j * 2 ^ (8 * j) := rfl
     have hsb : bsum (bd b) (j + 1) = bsum (bd b) j + bd b j * 2 ^ (8 * j) := rfl
     rw [chks_true] at hev
     rotate_left 1
     · clear hev
       generalize bd a j = x at *
       generalize bd b j = y at *
       clear hs hst hsa hsb
       repeat' (first | exact allT0 | refine allTc ?_ ?_)
       all_goals first | (rw [decide_eq_true_iff]; omega) | exact okI (by omega) (by omega) | rfl
     refine RunsL.allS (mkoks tabokSPlus) hev ⟨m, Nat.lt_succ_self m, j + 1, (c + bd a j + bd b j) / 256, upd1 r j (wrapK .u8 ((c + bd a j + bd b j) % 256)), rfl, by omega, by omega, fun p => ?_, ?_⟩
     · by_cases hp : p = j
       · subst hp; rw [upd1_at]; simp only [wrapK]; omega
       · rw [upd1_ne hp]; exact hr p
     · rw [hsa, hsb, bsum, upd1_at, bsum_congr j (e := r) (fun p hp => upd1_ne (by omega)), pow8_succ]
       have hw : wrapK .u8 ((c + bd a j + bd b j) % 256) = (c + bd a j + bd b j) % 256 := by simp only [wrapK]; omega
       rw [hw]
       generalize (2 : Int) ^ (8 * j) = P at *
       generalize bd a j = x at *
       generalize bd b j = y at *
       have : (c + x + y) % 256 * P + (c + x + y) / 256 * (256 * P) = c * P + x * P + y * P := by
        rw [← Int.mul_assoc, ← Int.add_mul, ← Int.add_mul, ← Int.add_mul]
        congr 1
        omega
       omega
 · cases hF
end Go.Proofs.YtdkmcpbjicnfmaaGreat

/-
  Contracts of the document's scalars: Minus, Times, Inverse.
-/
namespace Go.Proofs.YtdkmcpbjicnfmaaGreat
open Go Vx Go.RowKit

theorem bsum_zero : ∀ n, bsum (fun _ => 0) n = 0
 | 0 => rfl
 | n + 1 => by rw [bsum, bsum_zero n, Int.zero_mul]; rfl
def stTi (a b : Nat) (sb : C) (i : Int) (c k : V) : St := ⟨[.junk, .junk, .one (.ptr 0 0), .one (.ptr 1 0), .one (.ptr 2 0), .one (.ptr 3 0), vi64 i, c, k] ++ List.replicate 42 .junk,
 [some ⟨35, .ps [.pk .u8 8 32 a]⟩, some ⟨35, .ps [.pk .u8 8 32 b]⟩, some ⟨35, .ps [.int .u8 0, .int .u8 0, .int .u8 0, .int .u8 0, .int .u8 0, .int .u8 0, .int .u8 0, .int .u8 0, .int .u8 0, .int .u8 0, .int .u8 0, .int .u8 0, .int .u8 0, .int .u8 0, .int .u8 0, .int .u8 0, .int .u8 0, .int .u8 0, .int .u8 0, .int .u8 0, .int .u8 0, .int .u8 0, .int .u8 0, .int .u8 0, .int .u8 0, .int .u8 0, .int .u8 0, .int .u8 0, .int .u8 0, .int .u8 0, .int .u8 0, .int .u8 0]⟩, some ⟨85, sb⟩]⟩
theorem stTi_ent {a b : Nat} {i : Int} {c k : V} {s s' : C} (h : CEnt s s') (h1 : s = .dead → s' = .dead) (h2 : ∀ ts, s = .row ts [] → ∃ ts', s' = .row ts' []) : StEntG (stTi a b s i c k) (stTi a b s' i c k) := by
 refine ⟨rfl, fun _ => .inl rfl, fun j => ?_⟩
 match j with
 | 0 | 1 | 2 => exact .inl rfl
 | 3 => exact .inr ⟨_, _, _, rfl, rfl, h, h1, h2⟩
 | j + 4 => exact .inl rfl

noncomputable def sSTimesF : List D → Option (List Bool × V)
 | [.n a, .n b] => some ([], vb32 (restP (restP a * restP b)))
 | _ => none
noncomputable def sSTimes : FSpec := spec [tb32, tb32] sSTimesF
noncomputable abbrev tabSTimes : List (FuncId × FSpec) := [(129, sSRest)]
theorem tabokSTimes : TabOK Tryz.prog (tabOf tabSTimes) := (.cons ok_SRest .nil)
theorem ok_STimes : FnOK Tryz.prog 120 sSTimes := by
 refine fn_flat (cx := mkcs tabSTimes) (c := bodyOf Tryz.f120) Tryz.func120 (by kernel_rfl) (by kernel_rfl) rfl ?_
 intro ds chk v vs hF ht he hr base
 unfold sSTimesF at hF
 split at hF
 · rename_i a b
   cases hF
   have hvs : vs = [vb32 a, vb32 b] := by simp only [encA, encV, encP, encL, Option.some.injEq] at he; exact he.symm
   subst hvs
   obtain ⟨h1, h2, _⟩ := hr
   have ha := rng_b32 h1
   have hb := rng_b32 h2
   have hF : restP (restP a * restP b) = restP (a * b) := by rw [restP_eq, restP_eq, restP_eq, restP_eq, ← Nat.mul_mod]
   rw [hF]
   clear hF
   refine Runs.items _ _ _ (RunsL.preG (mkoks tabokSTimes) (n := 100) (k := 3) (kt := [2, 3, 4, 5, 6]) (kh := [0, 1, 2, 3]) (m := 4) (e := .normal) (st1 := stTi a b (psI .u8 64 fun _ => 0) 0 .junk .junk) (st' := stTi a b (bgI .u8 64 fun _ => 0) 0 .junk .junk) (by kernel_rfl)
    (stTi_ent ps_bg (fun h => by cases h) (fun _ h => by cases h)) ?_)
   refine RunsL.loop (id := 0) (by kernel_rfl) (fun m s => ∃ (j : Nat) (r : Nat → Int), s = stTi a b (bgI .u8 64 r) (j : Int) .junk .junk ∧ j + m = 32 ∧ (∀ p, 0 ≤ r p ∧ r p < 256) ∧ (∀ p, j + 32 ≤ p → r p = 0) ∧ bsum r 64 = bsum (bd a) j * (b : Int)) 32
    ⟨0, fun _ => 0, rfl, rfl, fun _ => (⟨by decide, by decide⟩ : (0 : Int) ≤ 0 ∧ (0 : Int) < 256), fun _ _ => rfl, by rw [bsum_zero, bsum, Int.zero_mul]⟩ ?_
   rintro m s ⟨j, r, rfl, hj, hr, hz, hs⟩
   have hev : ∀ i : Int, evLS (mkcs tabSTimes) 100 ((items (loopAt (bodyOf Tryz.f120) 3)).take 2) (stTi a b (bgI .u8 64 r) i .junk .junk) (kfg 0 [2, 3, 4, 5, 6] [0, 1, 2, 3] 4) =
    bif decide (i < 32) then .done .normal (stTi a b (bgI .u8 64 r) i .junk .junk) else .done (.exit 0) (stTi a b (bgI .u8 64 r) i .junk .junk) := by intro i; kernel_rfl
   have hev := hev (j : Int)
   cases m with
   | zero =>
     have hj : j = 32 := hj
     subst hj
     rw [show decide (((32 : Nat) : Int) < 32) = false from rfl, cond_false] at hev
     refine RunsL.preG (mkoks tabokSTimes) (k := 2) hev (st' := stTi a b (psI .u8 64 r) 32 .junk .junk) (stTi_ent bg_ps (fun h => by cases h) (fun _ h => by cases h)) ?_
     have hsum : bytN (listI 64 r) = a * b := by
      refine bytN_list (fun p _ => hr p) ?_
      rw [hs, bsum_digits, p256, Nat.mod_eq_of_lt ha]
      exact (Int.natCast_mul a b).symm
     rw [← hsum]
     exact runsL_evS (mkoks tabokSTimes) (n := 100) (bs0 := []) (by kernel_rfl) (VEnt.refl _) trivial
   | succ m =>
     rw [decide_eq_true (show ((j : Nat) : Int) < 32 by omega), cond_true] at hev
     refine RunsL.preS (mkoks tabokSTimes) (k := 2) hev (RunsL.blkAt (id := 1) (by kernel_rfl) ?_)
     have hev1 : ∀ i : Int, evLS (mkcs tabSTimes) 100 ((items (blkAt (loopAt (bodyOf Tryz.f120) 3) 2)).take 2) (stTi a b (bgI .u8 64 r) i .junk .junk) (kfg 0 [2, 3, 4, 5, 6, 7, 8] [0, 1, 2, 3] 4) = .done .normal (stTi a b (bgI .u8 64 r) i (vi64 0) (vi64 0)) := by intro i; kernel_rfl
     refine RunsL.preS (mkoks tabokSTimes) (k := 2) (hev1 (j : Int)) ?_
     clear hev hev1
     have hx := bd_rng a j
     refine RunsL.loop (id := 2) (by kernel_rfl) (fun m' s => ∃ (k : Nat) (c : Int) (q : Nat → Int), s = stTi a b (bgI .u8 64 q) (j : Int) (vi64 c) (vi64 (k : Int)) ∧ k + m' = 32 ∧ (0 ≤ c ∧ c < 256) ∧ (∀ p, 0 ≤ q p ∧ q p < 256) ∧ (∀ p, j + 32 ≤ p → q p = 0) ∧
      bsum q 64 + c * 2 ^ (8 * (j + k)) = bsum (bd a) j * (b : Int) + bd a j * 2 ^ (8 * j) * bsum (bd b) k) 32
      ⟨0, 0, r, rfl, rfl, ⟨by decide, by decide⟩, hr, hz, by rw [hs, bsum]; omega⟩ ?_
     rintro m' s ⟨k, c, q, rfl, hk, hc, hq, hqz, hqs⟩
     have hev : ∀ i k : Int, evLS (mkcs tabSTimes) 100 (items (loopAt (blkAt (loopAt (bodyOf Tryz.f120) 3) 2) 2)) (stTi a b (bgI .u8 64 q) i (vi64 c) (vi64 k)) (kfg 0 [2, 3, 4, 5, 6, 7, 8] [0, 1, 2, 3] 4) =
      bif decide (k < 32) then chks [okK .i64 (i + k), decide (0 ≤ i + k), decide (i + k < 64), decide (0 + (i + k).toNat < 64), okK .i64 (q (0 + (i + k).toNat)), okK .i64 (c + q (0 + (i + k).toNat)), decide (0 ≤ i), decide (i < 32), decide (0 + i.toNat < 32),
       okK .i64 (bd a (0 + i.toNat)), decide (0 ≤ k), decide (k < 32), decide (0 + k.toNat < 32), okK .i64 (bd b (0 + k.toNat)), okK .i64 (bd a (0 + i.toNat) * bd b (0 + k.toNat)), okK .i64 (c + q (0 + (i + k).toNat) + bd a (0 + i.toNat) * bd b (0 + k.toNat)), okK .i64 (i + k), decide (0 ≤ i + k), decide (i + k < 64), decide (0 + (i + k).toNat < 64),
       okK .i64 ((c + q (0 + (i + k).toNat) + bd a (0 + i.toNat) * bd b (0 + k.toNat)).tdiv 256), okK .i64 (k + 1)]
       (.done .normal (stTi a b (.big 1 64 fun p => if p = 0 + (i + k).toNat then [.int .u8 (wrapK .u8 ((c + q (0 + (i + k).toNat) + bd a (0 + i.toNat) * bd b (0 + k.toNat)).tmod 256))] else [.int .u8 (q p)]) i (vi64 ((c + q (0 + (i + k).toNat) + bd a (0 + i.toNat) * bd b (0 + k.toNat)).tdiv 256)) (vi64 (k + 1))))
      else .done (.exit 2) (stTi a b (bgI .u8 64 q) i (vi64 c) (vi64 k)) := by intro i k; kernel_rfl
     have hev := hev (j : Int) (k : Int)
     have hjk : ((j : Int) + (k : Int)).toNat = j + k := by omega
     rw [bg_upd, hjk, Int.toNat_natCast, Int.toNat_natCast, Nat.zero_add, Nat.zero_add, Nat.zero_add] at hev
     cases m' with
     | zero =>
       have hk : k = 32 := hk
       subst hk
       rw [show decide (((32 : Nat) : Int) < 32) = false from rfl, cond_false] at hev
       refine RunsL.allS (mkoks tabokSTimes) hev ?_
       have hev2 : ∀ i : Int, evLS (mkcs tabSTimes) 100 ((items (blkAt (loopAt (bodyOf Tryz.f120) 3) 2)).drop 3) (stTi a b (bgI .u8 64 q) i (vi64 c) (vi64 32)) (kfg 0 [2, 3, 4, 5, 6] [0, 1, 2, 3] 4) =
        chks [okK .i64 (i + 32), decide (0 ≤ i + 32), decide (i + 32 < 64), decide (0 + (i + 32).toNat < 64)] (.done .normal (stTi a b (.big 1 64 fun p => if p = 0 + (i + 32).toNat then [.int .u8 (wrapK .u8 c)] else [.int .u8 (q p)]) i .junk .junk)) := by intro i; kernel_rfl
       have hev2 := hev2 (j : Int)
       have hj32 : ((j : Int) + 32).toNat = j + 32 := by omega
       rw [bg_upd, hj32, Nat.zero_add, chks_true] at hev2
       rotate_left 1
       · clear hev2
         repeat' (first | exact allT0 | refine allTc ?_ ?_)
         all_goals first | (rw [decide_eq_true_iff]; omega) | exact okI (by omega) (by omega) | rfl
       refine RunsL.allS (mkoks tabokSTimes) hev2 ?_
       have hev3 : ∀ (i : Int) (q : Nat → Int), evLS (mkcs tabSTimes) 100 ((items (loopAt (bodyOf Tryz.f120) 3)).drop 3) (stTi a b (bgI .u8 64 q) i .junk .junk) (kfg 0 [2, 3, 4, 5, 6] [0, 1, 2, 3] 4) =
        chks [okK .i64 (i + 1)] (.done .normal (stTi a b (bgI .u8 64 q) (i + 1) .junk .junk)) := by intro i q; kernel_rfl
       have hev3 := hev3 (j : Int) (upd1 q (j + 32) (wrapK .u8 c))
       rw [chks_true (allT1 (okI (by omega) (by omega)))] at hev3
       refine RunsL.allS (mkoks tabokSTimes) hev3 ⟨m, Nat.lt_succ_self m, j + 1, upd1 q (j + 32) (wrapK .u8 c), rfl, by omega, fun p => ?_, fun p hp => ?_, ?_⟩
       · by_cases hp : p = j + 32
         · subst hp; rw [upd1_at]; simp only [wrapK]; omega
         · rw [upd1_ne hp]; exact hq p
       · rw [upd1_ne (by omega)]; exact hqz p (by omega)
       · have hw : wrapK .u8 c = c := by simp only [wrapK]; omega
         rw [bsum_upd _ _ _ 64 (by omega), hqz (j + 32) (Nat.le_refl _), hw, Int.sub_zero, hqs, show bsum (bd b) 32 = (b : Int) by rw [bsum_digits, p256, Nat.mod_eq_of_lt hb], show bsum (bd a) (j + 1) = bsum (bd a) j + bd a j * 2 ^ (8 * j) from rfl, Int.add_mul]
     | succ m' =>
       have hy := bd_rng b k
       have hqp := hq (j + k)
       have hm0 : 0 ≤ bd a j * bd b k := Int.mul_nonneg hx.1 hy.1
       have hm1 : bd a j * bd b k ≤ 255 * 255 := Int.mul_le_mul (by omega) (by omega) hy.1 (by omega)
       have hd1 : (c + q (j + k) + bd a j * bd b k).tdiv 256 = (c + q (j + k) + bd a j * bd b k) / 256 := Int.tdiv_eq_ediv_of_nonneg (by omega)
       have hd2 : (c + q (j + k) + bd a j * bd b k).tmod 256 = (c + q (j + k) + bd a j * bd b k) % 256 := Int.tmod_eq_emod_of_nonneg (by omega)
       rw [hd1, hd2, decide_eq_true (show ((k : Nat) : Int) < 32 by omega), cond_true, chks_true] at hev
       rotate_left 1
       · clear hev hqs
         clear hs
         generalize bd a j * bd b k = z at *
         generalize bd a j = x at *
         generalize bd b k = y at *
         generalize q (j + k) = w at *
         repeat' (first | exact allT0 | refine allTc ?_ ?_)
         all_goals first | (rw [decide_eq_true_iff]; omega) | exact okI (by omega) (by omega) | rfl
       refine RunsL.allS (mkoks tabokSTimes) hev ⟨m', Nat.lt_succ_self m', k + 1, (c + q (j + k) + bd a j * bd b k) / 256, upd1 q (j + k) (wrapK .u8 ((c + q (j + k) + bd a j * bd b k) % 256)), rfl, by omega, by omega, fun p => ?_, fun p hp => ?_, ?_⟩
       · by_cases hp : p = j + k
         · subst hp; rw [upd1_at]; simp only [wrapK]; omega
         · rw [upd1_ne hp]; exact hq p
       · rw [upd1_ne (by omega)]; exact hqz p hp
       · have hw : wrapK .u8 ((c + q (j + k) + bd a j * bd b k) % 256) = (c + q (j + k) + bd a j * bd b k) % 256 := by simp only [wrapK]; omega
         have hp2 : (2 : Int) ^ (8 * (j + k)) = 2 ^ (8 * j) * 2 ^ (8 * k) := by rw [Nat.mul_add, Int.pow_add]
         have hdist : bd a j * 2 ^ (8 * j) * (bd b k * 2 ^ (8 * k)) = bd a j * bd b k * 2 ^ (8 * (j + k)) := by
          rw [hp2]
          generalize (2 : Int) ^ (8 * j) = P
          generalize (2 : Int) ^ (8 * k) = Q
          grind
         rw [bsum_upd _ _ _ 64 (by omega), hw, show j + (k + 1) = (j + k) + 1 from rfl, pow8_succ, show bsum (bd b) (k + 1) = bsum (bd b) k + bd b k * 2 ^ (8 * k) from rfl, Int.mul_add, hdist, ← Int.add_assoc, ← hqs]
         clear hp2 hdist hqs hs hev hd1 hd2
         generalize (2 : Int) ^ (8 * (j + k)) = P at *
         generalize bd a j * bd b k = z at *
         generalize q (j + k) = w at *
         have e2 : ((c + w + z) % 256 - w) * P + (c + w + z) / 256 * (256 * P) = c * P + z * P := by
          rw [← Int.mul_assoc, ← Int.add_mul, ← Int.add_mul]
          congr 1
          omega
         omega
 · cases hF

theorem bit_eq8 {e j : Nat} (hj : j < 256) : decide ((((digit 8 e (0 + ((j : Int).tdiv 8).toNat) : Nat) : Int) / ((2 ^ min ((j : Int).tmod 8).toNat IntKind.u8.bits : Nat) : Int)) % 2 = 1) = decide (e / 2 ^ j % 2 = 1) := by
 have h1 : ((j : Int).tdiv 8).toNat = j / 8 := by
  rw [Int.tdiv_eq_ediv_of_nonneg (by omega)]; omega
 have h2 : min ((j : Int).tmod 8).toNat IntKind.u8.bits = j % 8 := by
  rw [Int.tmod_eq_emod_of_nonneg (by omega)]
  show min ((j : Int) % 8).toNat 8 = j % 8
  omega
 have _ := hj
 rw [h1, h2, ← Int.natCast_ediv, Nat.zero_add]
 unfold digit
 have e1 : e / 2 ^ (8 * (j / 8)) % 2 ^ 8 / 2 ^ (j % 8) % 2 = e / 2 ^ j % 2 := by
  have hlt : j % 8 < 8 := Nat.mod_lt _ (by decide)
  have e2 : (2 : Nat) ^ 8 = 2 ^ (j % 8) * 2 ^ (8 - j % 8) := by rw [← Nat.pow_add]; congr 1; omega
  rw [e2, Nat.mod_mul_right_div_self, Nat.div_div_eq_div_mul, ← Nat.pow_add, Nat.div_add_mod]
  have e3 : (2 : Nat) ^ (8 - j % 8) = 2 * 2 ^ (7 - j % 8) := by rw [← Nat.pow_succ']; congr 1; omega
  rw [e3, Nat.mod_mul_right_mod]
 rw [← e1]
 congr 1
 exact propext ⟨fun h => by omega, fun h => by omega⟩
end Go.Proofs.YtdkmcpbjicnfmaaGreat
