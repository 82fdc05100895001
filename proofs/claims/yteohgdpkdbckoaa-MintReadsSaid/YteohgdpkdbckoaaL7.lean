/-
  Contracts of the program's scalars: Times.
-/
import Derived.Test.YteohgdpkdbckoaaL6
import Derived.Test.YteohgdpkdbckoaaU2
import Derived.Test.YteohgdpkdbckoaaX4
import Derived.Test.YteohgdpkdbckoaaL3
namespace Go.Proofs.Yteohgdpkdbckoaa
open Go Vx Go.RowKit

def q8 (r : Nat → Int) : List L := [.int .u64 (r 0), .int .u64 (r 1), .int .u64 (r 2), .int .u64 (r 3), .int .u64 (r 4), .int .u64 (r 5), .int .u64 (r 6), .int .u64 (r 7)]
def l8 (r : Nat → Int) : List (List D) := [[.i (r 0)], [.i (r 1)], [.i (r 2)], [.i (r 3)], [.i (r 4)], [.i (r 5)], [.i (r 6)], [.i (r 7)]]
def dq (n i : Nat) : Int := ((digit 64 n i : Nat) : Int)
def stT (x y : Nat) (r : Nat → Int) (i : Int) : St := ⟨[.junk, .junk, .junk, .junk, .one (.ptr 2 0), .one (.ptr 5 0), .one (.ptr 6 0), .one (.sl 7 0 8 8)] ++ List.replicate 11 .junk ++ [vi64 i] ++ List.replicate 53 .junk,
  [none, none, some ⟨46, .ps [.int .u8 0, .int .u8 0, .int .u8 0, .int .u8 0, .int .u8 0, .int .u8 0, .int .u8 0, .int .u8 0, .int .u8 0, .int .u8 0, .int .u8 0, .int .u8 0, .int .u8 0, .int .u8 0, .int .u8 0, .int .u8 0, .int .u8 0, .int .u8 0, .int .u8 0, .int .u8 0, .int .u8 0, .int .u8 0, .int .u8 0, .int .u8 0, .int .u8 0, .int .u8 0, .int .u8 0, .int .u8 0, .int .u8 0, .int .u8 0, .int .u8 0, .int .u8 0]⟩, none, none, some ⟨123, .ps [.pk .u64 64 4 x]⟩, some ⟨123, .ps [.pk .u64 64 4 y]⟩, some ⟨54, .ps (q8 r)⟩]⟩
theorem dq_rng (n i : Nat) : 0 ≤ dq n i ∧ dq n i < 18446744073709551616 := by
  unfold dq digit
  have := Nat.mod_lt (n / 2 ^ (64 * i)) (show 2 ^ 64 > 0 by decide)
  simp only [Nat.reducePow] at *
  omega
theorem wsum_digits (n : Nat) : ∀ k, wsum (dq n) k = ((n % 2 ^ (64 * k) : Nat) : Int)
  | 0 => by simp [wsum, Nat.mod_one]
  | k + 1 => by
    rw [wsum, wsum_digits n k]
    have e : n % 2 ^ (64 * (k + 1)) = n % 2 ^ (64 * k) + 2 ^ (64 * k) * digit 64 n k := by
      rw [show 64 * (k + 1) = 64 * k + 64 from rfl, Nat.pow_add, Nat.mod_mul]
      rfl
    rw [e]
    unfold dq
    simp only [Int.natCast_add, Int.natCast_mul, Int.natCast_pow, Int.cast_ofNat_Int]
    rw [Int.mul_comm (2 ^ (64 * k))]
theorem limbs_wsum {r : Nat → Int} (h : ∀ j, 0 ≤ r j ∧ r j < 18446744073709551616) : ((limbs (l8 r) : Nat) : Int) = wsum r 8 := by
  unfold limbs l8 limbD
  simp only [List.map_cons, List.map_nil, List.headD_cons, D.toI, packL, wsum]
  have h0 := h 0; have h1 := h 1; have h2 := h 2; have h3 := h 3; have h4 := h 4; have h5 := h 5; have h6 := h 6; have h7 := h 7
  generalize r 0 = a0 at *; generalize r 1 = a1 at *; generalize r 2 = a2 at *; generalize r 3 = a3 at *
  generalize r 4 = a4 at *; generalize r 5 = a5 at *; generalize r 6 = a6 at *; generalize r 7 = a7 at *
  clear h
  have p1 : (2 : Int) ^ (64 * 1) = 2 ^ 64 := rfl
  have ps : ∀ k, (2 : Int) ^ (64 * (k + 1)) = 2 ^ (64 * k) * 2 ^ 64 := fun k => by rw [Nat.mul_succ, Int.pow_add]
  have p0 : (2 : Int) ^ (64 * 0) = 1 := rfl
  rw [ps 6, ps 5, ps 4, ps 3, ps 2, ps 1, ps 0, p0]
  simp only [Int.natCast_add, Int.natCast_mul, Int.natCast_pow, Int.cast_ofNat_Int, Int.toNat_of_nonneg h0.1, Int.toNat_of_nonneg h1.1, Int.toNat_of_nonneg h2.1, Int.toNat_of_nonneg h3.1, Int.toNat_of_nonneg h4.1, Int.toNat_of_nonneg h5.1, Int.toNat_of_nonneg h6.1, Int.toNat_of_nonneg h7.1]
  generalize (2 : Int) ^ 64 = M
  grind
theorem times_end {x y : Nat} (hx : x < 115792089237316195423570985008687907853269984665640564039457584007913129639936) (hy : y < 115792089237316195423570985008687907853269984665640564039457584007913129639936) {r : Nat → Int} (h : QInv (dq x) (dq y) 4 r) : limbs (l8 r) = x * y := by
  have e := limbs_wsum h.rng
  have hv := h.val
  have px : wsum (dq x) 4 = (x : Int) := by rw [wsum_digits, show (2 : Nat) ^ (64 * 4) = 115792089237316195423570985008687907853269984665640564039457584007913129639936 from by decide +kernel, Nat.mod_eq_of_lt hx]
  have py : wsum (dq y) 4 = (y : Int) := by rw [wsum_digits, show (2 : Nat) ^ (64 * 4) = 115792089237316195423570985008687907853269984665640564039457584007913129639936 from by decide +kernel, Nat.mod_eq_of_lt hy]
  rw [px, py, ← e] at hv
  exact_mod_cast hv

noncomputable def sRTimesF : List D → Option (List Bool × V)
  | [.n a, .n b] => some ([], vb32 (restP (restP a * restP b)))
  | _ => none
noncomputable def sRTimes : FSpec := spec [tb32, tb32] sRTimesF
end Go.Proofs.Yteohgdpkdbckoaa

/-
  Contracts of the program's scalars: Inverse.
-/
namespace Go.Proofs.Yteohgdpkdbckoaa
open Go Vx Go.RowKit

noncomputable def powL : Nat → Nat → Nat := hidden' fun a n => a ^ n % 7237005577332262213973186563042994240857116359379907606001950938285454250989
theorem powL_eq (a n : Nat) : powL a n = a ^ n % 7237005577332262213973186563042994240857116359379907606001950938285454250989 := by unfold powL; rw [seal_eq]
noncomputable def mulL (a b : Nat) : Nat := restP (restP a * restP b)
theorem mulL_eq (a b : Nat) : mulL a b = a * b % 7237005577332262213973186563042994240857116359379907606001950938285454250989 := by unfold mulL; rw [restP_eq, restP_eq, restP_eq, ← Nat.mul_mod]
theorem powL_step (a e j : Nat) {c : Nat} (hc : c = powL a (e / 2 ^ (j + 1))) : (bif decide (e / 2 ^ j % 2 = 1) then mulL (mulL c c) a else mulL c c) = powL a (e / 2 ^ j) := by
  have hd : e / 2 ^ j = 2 * (e / 2 ^ (j + 1)) + e / 2 ^ j % 2 := by
    rw [Nat.pow_succ, ← Nat.div_div_eq_div_mul]; omega
  rw [hc]
  generalize e / 2 ^ (j + 1) = q at *
  have hb : e / 2 ^ j % 2 = 0 ∨ e / 2 ^ j % 2 = 1 := by omega
  rcases hb with hb | hb
  · rw [hb] at hd
    rw [hb, hd]
    simp only [Nat.zero_ne_one, decide_false, cond_false, mulL_eq, powL_eq, Nat.add_zero]
    rw [← Nat.mul_mod, ← Nat.pow_add, Nat.two_mul]
  · rw [hb] at hd
    rw [hb, hd]
    simp only [decide_true, cond_true, mulL_eq, powL_eq]
    rw [Nat.mod_mul_mod, Nat.mul_mod, ← Nat.mul_mod (a ^ q), ← Nat.pow_add, ← Nat.two_mul, Nat.pow_succ]
    simp only [Nat.mod_mul_mod, Nat.mul_mod_mod]
def stI (a e : Nat) (i : Int) (c : Nat) : St := ⟨[.junk, .one (.ptr 0 0), .one (.ptr 1 0), .one (.ptr 4 0), .junk, .one (.ptr 6 0), vi64 i] ++ List.replicate 27 .junk,
  [some ⟨46, .ps [.pk .u8 8 32 a]⟩, some ⟨46, .ps [.int .u8 0, .int .u8 0, .int .u8 0, .int .u8 0, .int .u8 0, .int .u8 0, .int .u8 0, .int .u8 0, .int .u8 0, .int .u8 0, .int .u8 0, .int .u8 0, .int .u8 0, .int .u8 0, .int .u8 0, .int .u8 0, .int .u8 0, .int .u8 0, .int .u8 0, .int .u8 0, .int .u8 0, .int .u8 0, .int .u8 0, .int .u8 0, .int .u8 0, .int .u8 0, .int .u8 0, .int .u8 0, .int .u8 0, .int .u8 0, .int .u8 0, .int .u8 0]⟩, none, none, some ⟨123, .ps [.pk .u64 64 4 e]⟩, none, some ⟨46, .ps [.pk .u8 8 32 c]⟩]⟩

noncomputable def sRInverseF : List D → Option (List Bool × V)
  | [.n a] => some ([], vb32 (powL a 7237005577332262213973186563042994240857116359379907606001950938285454250987))
  | _ => none
noncomputable def sRInverse : FSpec := spec [tb32] sRInverseF
end Go.Proofs.Yteohgdpkdbckoaa

/-
  Contracts of the document's scalars: often.
-/
namespace Go.Proofs.Yteohgdpkdbckoaa
open Go Vx Go.RowKit

abbrev tlong : Ty := .ag [.pk .u64 32 9]
abbrev vlong (n : Nat) : V := .pk .u64 32 9 n
def d32 (n i : Nat) : Int := ((digit 32 n i : Nat) : Int)
theorem d32_rng (n i : Nat) : 0 ≤ d32 n i ∧ d32 n i < 4294967296 := by
  unfold d32 digit
  have := Nat.mod_lt (n / 2 ^ (32 * i)) (show 2 ^ 32 > 0 by decide)
  simp only [Nat.reducePow] at *
  omega
theorem pow_cast (n : Nat) : (2 : Int) ^ n = ((2 ^ n : Nat) : Int) := by simp
theorem ent_long {f : Nat → Int} {n : Nat} (h : ∀ i, 0 ≤ f i ∧ f i < 4294967296) (hn : psum f 9 = (n : Int)) : VEnt (.ag (.ps ((List.range 9).map fun i => .int .u64 (f i)))) (vlong n) := by
  have hb : n < 2 ^ (32 * 9) := by
    have := (psum_rng (d := f) 9 (fun i _ => h i)).2
    rw [hn, pow_cast (32 * 9)] at this
    exact Int.ofNat_lt.1 this
  refine ent_pk (f := f) hb rfl (by decide) fun i hi => ?_
  rw [← psum_digit h 9 i hi, hn]
  unfold digit
  have h2 : ((2 : Int) ^ (32 * i)) = ((2 ^ (32 * i) : Nat) : Int) := by simp
  rw [h2]
  simp only [Nat.reducePow]
  omega
theorem ent_lit {n : Nat} {l : List L} (h : l = (List.range 9).map fun i => .int .u64 (d32 n i)) (hn : n < 2 ^ (32 * 9)) : VEnt (.ag (.ps l)) (vlong n) := by
  subst h
  exact ent_pk (f := d32 n) hn rfl (by decide) fun i _ => rfl

/-- l, so often. -/
def oftL (n : Int) : Nat := 7237005577332262213973186563042994240857116359379907606001950938285454250989 * 2 ^ n.toNat

noncomputable def sSOftenF : List D → Option (List Bool × V)
  | [.i n] => some ([decide (0 ≤ n ∧ n ≤ 8)], vlong (oftL n))
  | _ => none
noncomputable def sSOften : FSpec := spec [ti64] sSOftenF
end Go.Proofs.Yteohgdpkdbckoaa

/-
  Contracts of the document's scalars: Rest.
-/
namespace Go.Proofs.Yteohgdpkdbckoaa
open Go Vx Go.RowKit

abbrev tbyts : Ty := .one (.sl [.int .u8])
abbrev vbyts (x : List (List D)) : V := .one (.rd [.int .u8] x)
def byI (d : List D) : Int := (d.headD (.n 0)).toI
def bytN (x : List (List D)) : Nat := packL 8 (x.map fun d => (byI d).toNat)
theorem bytN_drop {x : List (List D)} {j : Nat} (hj : j < x.length) : bytN (x.drop j) = (byI (x.getD j [])).toNat + 256 * bytN (x.drop (j + 1)) := by
  unfold bytN
  rw [List.drop_eq_getElem_cons hj, List.map_cons, packL, List.getD_eq_getElem?_getD, List.getElem?_eq_getElem hj, Option.getD_some]
theorem byt_rng {x : List (List D)} (hx : ∀ (i : Nat) (e : List D), x[i]? = some e → rngTs [.int .u8] e) {j : Nat} (hj : j < x.length) : 0 ≤ byI (x.getD j []) ∧ byI (x.getD j []) < 256 := by
  rw [List.getD_eq_getElem?_getD, List.getElem?_eq_getElem hj, Option.getD_some]
  have := hx j _ (List.getElem?_eq_getElem hj)
  simp only [rngTs, rngT] at this
  exact (inK_unsigned rfl).1 this.1
def zq9 : List L := [.int .u64 0, .int .u64 0, .int .u64 0, .int .u64 0, .int .u64 0, .int .u64 0, .int .u64 0, .int .u64 0, .int .u64 0]
def lL : List L := [.pk .u64 32 9 (oftL 0), .pk .u64 32 9 (oftL 1), .pk .u64 32 9 (oftL 2), .pk .u64 32 9 (oftL 3), .pk .u64 32 9 (oftL 4), .pk .u64 32 9 (oftL 5), .pk .u64 32 9 (oftL 6), .pk .u64 32 9 (oftL 7), .pk .u64 32 9 (oftL 8)]
def i9 (f : Nat → Int) : List L := [.int .u64 (f 0), .int .u64 (f 1), .int .u64 (f 2), .int .u64 (f 3), .int .u64 (f 4), .int .u64 (f 5), .int .u64 (f 6), .int .u64 (f 7), .int .u64 (f 8)]
theorem psum_d32 (n : Nat) (h : n < 2 ^ (32 * 9)) : psum (d32 n) 9 = (n : Int) := by
  have := psum_digits n 9
  rw [Nat.mod_eq_of_lt h] at this
  exact this
theorem p288 : (2 : Nat) ^ (32 * 9) = 497323236409786642155382248146820840100456150797347717440463976893159497012533375533056 := by decide +kernel
/-- A byte more. -/
theorem rest_carry {n : Nat} {b : Int} (hn : n < 7237005577332262213973186563042994240857116359379907606001950938285454250989) (hb : 0 ≤ b ∧ b < 256) : CEnt (.ps (i9 (eC (d32 n) (wrapK .u64 b)))) (.ps [.pk .u64 32 9 (256 * n + b.toNat)]) := by
  refine CEnt.of' (ent_long (f := eC (d32 n) (wrapK .u64 b)) (fun i => eC_rng _ _ i) ?_)
  have hw : wrapK .u64 b = b := by simp only [wrapK]; omega
  rw [hw]
  have hp : n < 2 ^ (32 * 9) := by rw [p288]; omega
  obtain ⟨h1, h2, h3⟩ := carry_sum hb (d32_rng n) 9
  obtain ⟨h4, h5⟩ := psum_rng (d := eC (d32 n) b) 9 (fun i _ => eC_rng _ _ i)
  rw [psum_d32 n hp] at h3
  rw [pow_cast, p288] at h3 h5
  generalize psum (eC (d32 n) b) 9 = S at *
  generalize cC (d32 n) b 9 = c at *
  clear hp hw
  omega
/-- Less a multiple of l. -/
theorem rest_less {M q : Nat} (hM : M < 2 ^ (32 * 9)) (hq : q < 2 ^ (32 * 9)) : decide (bB (d32 M) (d32 q) 9 = 0) = decide (q ≤ M) ∧ (q ≤ M → CEnt (.ps (i9 (oB (d32 M) (d32 q)))) (.ps [.pk .u64 32 9 (M - q)])) := by
  obtain ⟨h1, h2⟩ := borrow_sum (d32_rng M) (d32_rng q) 9
  obtain ⟨h4, h5⟩ := psum_rng (d := oB (d32 M) (d32 q)) 9 (fun i _ => oB_rng _ _ i)
  rw [psum_d32 M hM, psum_d32 q hq] at h2
  rw [pow_cast, p288] at h2 h5
  rw [p288] at hM hq
  have hz : bB (d32 M) (d32 q) 9 = 0 ↔ q ≤ M := by
    generalize psum (oB (d32 M) (d32 q)) 9 = S at *
    rcases h1 with h1 | h1 <;> rw [h1] at h2 ⊢ <;> omega
  refine ⟨decide_eq_decide.2 hz, fun h => CEnt.of' (ent_long (f := oB (d32 M) (d32 q)) (fun i => oB_rng _ _ i) ?_)⟩
  rw [hz.2 h] at h2
  rw [h2]
  omega
theorem oft_lt {n : Int} (h : 0 ≤ n ∧ n ≤ 9) : oftL n < 2 ^ (32 * 9) := by
  unfold oftL
  have : 2 ^ n.toNat ≤ 2 ^ 9 := Nat.pow_le_pow_right (by decide) (by omega)
  rw [p288]
  generalize 2 ^ n.toNat = p at *
  omega
theorem oft_two (j : Nat) : oftL ((j + 1 : Nat) : Int) = 2 * oftL (j : Int) := by
  unfold oftL
  rw [Int.toNat_natCast, Int.toNat_natCast, Nat.pow_succ]
  omega
theorem oft_mod (j : Nat) : oftL (j : Int) % 7237005577332262213973186563042994240857116359379907606001950938285454250989 = 0 := by
  unfold oftL
  exact Nat.mul_mod_right _ _
theorem rest_sub {M j : Nat} (h : M < oftL ((j + 1 : Nat) : Int)) (hq : oftL (j : Int) ≤ M) : M - oftL (j : Int) < oftL (j : Int) ∧ (M - oftL (j : Int)) % 7237005577332262213973186563042994240857116359379907606001950938285454250989 = M % 7237005577332262213973186563042994240857116359379907606001950938285454250989 := by
  rw [oft_two] at h
  have := oft_mod j
  refine ⟨by omega, ?_⟩
  generalize oftL (j : Int) = q at *
  clear h
  omega
theorem by_ent {n : Nat} (hn : n < 7237005577332262213973186563042994240857116359379907606001950938285454250989) : VEnt (.ag (.ps ((List.range' 0 32).map fun i => .int .u8 (wrapK .u8 (((digit 32 n (i / 4) : Nat) : Int) / ((2 ^ (8 * (i % 4)) : Nat) : Int) % 256))))) (vb32 n) := by
  refine ent_b32 (f := fun i => wrapK .u8 (((digit 32 n (i / 4) : Nat) : Int) / ((2 ^ (8 * (i % 4)) : Nat) : Int) % 256)) (Nat.lt_trans hn (by decide)) fun i _ => ?_
  have e : (((digit 32 n (i / 4) : Nat) : Int) / ((2 ^ (8 * (i % 4)) : Nat) : Int) % 256) = ((digit 32 n (i / 4) / 2 ^ (8 * (i % 4)) % 256 : Nat) : Int) := by
    rw [Int.natCast_emod, Int.natCast_ediv]; rfl
  rw [e]
  have hw : wrapK .u8 ((digit 32 n (i / 4) / 2 ^ (8 * (i % 4)) % 256 : Nat) : Int) = ((digit 32 n (i / 4) / 2 ^ (8 * (i % 4)) % 256 : Nat) : Int) := by simp only [wrapK]; omega
  rw [hw, Int.toNat_natCast]
  unfold digit
  have hlt : i % 4 < 4 := Nat.mod_lt _ (by decide)
  have e2 : (2 : Nat) ^ 32 = 2 ^ (8 * (i % 4)) * 2 ^ (32 - 8 * (i % 4)) := by rw [← Nat.pow_add]; congr 1; omega
  rw [e2, Nat.mod_mul_right_div_self, Nat.div_div_eq_div_mul, ← Nat.pow_add]
  have e3 : (2 : Nat) ^ (32 - 8 * (i % 4)) = 256 * 2 ^ (24 - 8 * (i % 4)) := by
    rw [show (256 : Nat) = 2 ^ 8 from rfl, ← Nat.pow_add]; congr 1; omega
  rw [e3, Nat.mod_mul_right_mod]
  congr 3
  omega

noncomputable def sSRestF : List D → Option (List Bool × V)
  | [.l x] => some ([decide (x.length < 1099511627776)], vb32 (restP (bytN x)))
  | _ => none
noncomputable def sSRest : FSpec := spec [tbyts] sSRestF
end Go.Proofs.Yteohgdpkdbckoaa

/-
  Contracts of the document's scalars: Of, Wide, Plus.
-/
namespace Go.Proofs.Yteohgdpkdbckoaa
open Go Vx Go.RowKit

theorem allT_of {l : List Bool} (h : allT l) : allT l := h
def listI (c : Nat) (r : Nat → Int) : List (List D) := (List.range c).map fun j => [D.i (r j)]
theorem bytN_list {c N : Nat} {r : Nat → Int} (h : ∀ j, j < c → 0 ≤ r j ∧ r j < 256) (hN : bsum r c = (N : Int)) : bytN (listI c r) = N := by
  have hb := bsum_bd h hN
  have hlt : N < 2 ^ (8 * c) := by
    have := (bsum_rng c h).2
    rw [hN, pow_castN] at this
    exact Int.ofNat_lt.1 this
  have e : (listI c r).map (fun d => (byI d).toNat) = (List.range' 0 c).map (digit 8 N) := by
    unfold listI
    rw [List.map_map, List.range_eq_range']
    refine List.map_congr_left fun j hj => ?_
    have hj : j < c := by rw [List.mem_range'] at hj; obtain ⟨i, hi, rfl⟩ := hj; omega
    show (r j).toNat = digit 8 N j
    rw [hb j hj]
    unfold bd
    exact Int.toNat_natCast _
  unfold bytN
  rw [e, packL_digits, Nat.mul_zero, Nat.pow_zero, Nat.div_one, Nat.mod_eq_of_lt hlt]
theorem bytN_digits {c N : Nat} (hlt : N < 2 ^ (8 * c)) : bytN (listI c (bd N)) = N :=
  bytN_list (fun j _ => bd_rng N j) (by rw [bsum_digits, Nat.mod_eq_of_lt hlt])
theorem p256 : (2 : Nat) ^ (8 * 32) = 115792089237316195423570985008687907853269984665640564039457584007913129639936 := by decide +kernel
theorem p264 : (2 : Nat) ^ (8 * 33) = 29642774844752946028434172162224104410437116074403984394101141506025761187823616 := by decide +kernel
theorem p512 : (2 : Nat) ^ (8 * 64) = 13407807929942597099574024998205846127479365820592393377723561443721764030073546976801874298166903427690031858186486050853753882811946569946433649006084096 := by decide +kernel
theorem canon_add (a b : Nat) : restP (restP a + restP b) = restP (a + b) := by
  rw [restP_eq, restP_eq, restP_eq, restP_eq, ← Nat.add_mod]

def dvI (n : Int) : Nat → Int
  | 0 => n
  | i + 1 => dvI n i / 256
def ofI (n : Int) (i : Nat) : Int := bif Nat.blt i 8 then wrapK .u8 (dvI n i % 256) else 0
theorem dvI_eq {n : Nat} : ∀ i, dvI (n : Int) i = ((n / 2 ^ (8 * i) : Nat) : Int)
  | 0 => by simp [dvI]
  | i + 1 => by
    rw [dvI, dvI_eq i, Nat.mul_succ, Nat.pow_add, ← Nat.div_div_eq_div_mul]
    generalize n / 2 ^ (8 * i) = q
    rw [show (2 : Nat) ^ 8 = 256 from by decide]
    omega
theorem ofI_eq {n : Nat} (hn : n < 18446744073709551616) (i : Nat) : (ofI (n : Int) i).toNat = digit 8 n i := by
  unfold ofI digit
  rcases Nat.lt_or_ge i 8 with h | h
  · rw [blt_t h, cond_true, dvI_eq]
    generalize n / 2 ^ (8 * i) = q
    simp only [wrapK]
    rw [show (2 : Nat) ^ 8 = 256 from by decide]
    omega
  · rw [blt_f h, cond_false]
    have : n / 2 ^ (8 * i) = 0 := Nat.div_eq_of_lt (Nat.lt_of_lt_of_le hn (by rw [show (18446744073709551616 : Nat) = 2 ^ (8 * 8) from by decide]; exact Nat.pow_le_pow_right (by decide) (by omega)))
    rw [this]; rfl

noncomputable def sSScOfF : List D → Option (List Bool × V)
  | [.i n] => some ([], vb32 n.toNat)
  | _ => none
noncomputable def sSScOf : FSpec := spec [tu64] sSScOfF
noncomputable abbrev tabSScOf : List (FuncId × FSpec) := []
set_option maxRecDepth 100000 in
theorem tabokSScOf : TabOK Try.prog (tabOf tabSScOf) := TabOK.nil

noncomputable def sSWideF : List D → Option (List Bool × V)
  | [.n b] => some ([], vb32 (restP b))
  | _ => none
noncomputable def sSWide : FSpec := spec [tb64] sSWideF

noncomputable def sSPlusF : List D → Option (List Bool × V)
  | [.n a, .n b] => some ([], vb32 (restP (restP a + restP b)))
  | _ => none
noncomputable def sSPlus : FSpec := spec [tb32, tb32] sSPlusF
end Go.Proofs.Yteohgdpkdbckoaa

/-
  Contracts of the document's scalars: Minus, Times, Inverse.
-/
namespace Go.Proofs.Yteohgdpkdbckoaa
open Go Vx Go.RowKit

theorem bsum_zero : ∀ n, bsum (fun _ => 0) n = 0
  | 0 => rfl
  | n + 1 => by rw [bsum, bsum_zero n, Int.zero_mul]; rfl
theorem and255 (x : Int) : wrapK .u8 (wrapK .i64 ((BitVec.ofInt IntKind.i64.bits x &&& BitVec.ofInt IntKind.i64.bits 255).toNat : Int)) = x % 256 := by
  have h1 : (BitVec.ofInt IntKind.i64.bits x &&& BitVec.ofInt IntKind.i64.bits 255).toNat = (x % 18446744073709551616).toNat % 256 := by
    rw [BitVec.toNat_and]
    show (BitVec.ofInt 64 x).toNat &&& 255 = _
    rw [BitVec.toNat_ofInt, show (255 : Nat) = 2 ^ 8 - 1 from rfl, Nat.and_two_pow_sub_one_eq_mod]
    rfl
  rw [h1]
  simp only [wrapK]
  omega
def stMi (l c a : Nat) (sb : C) (bo i : Int) : St := ⟨[.junk, .junk, .one (.ptr 0 0), .junk, .one (.ptr 2 0), .one (.ptr 4 0), .one (.ptr 6 0), .one (.ptr 7 0), vi64 bo, vi64 i] ++ List.replicate 29 .junk,
  [some ⟨46, .ps [.pk .u8 8 32 a]⟩, none, some ⟨46, .ps [.int .u8 0, .int .u8 0, .int .u8 0, .int .u8 0, .int .u8 0, .int .u8 0, .int .u8 0, .int .u8 0, .int .u8 0, .int .u8 0, .int .u8 0, .int .u8 0, .int .u8 0, .int .u8 0, .int .u8 0, .int .u8 0, .int .u8 0, .int .u8 0, .int .u8 0, .int .u8 0, .int .u8 0, .int .u8 0, .int .u8 0, .int .u8 0, .int .u8 0, .int .u8 0, .int .u8 0, .int .u8 0, .int .u8 0, .int .u8 0, .int .u8 0, .int .u8 0]⟩, none, some ⟨22, .ps [.pk .u8 8 32 l]⟩, none, some ⟨46, .ps [.pk .u8 8 32 c]⟩, some ⟨46, sb⟩]⟩
theorem stMi_ent {l c a : Nat} {bo i : Int} {s s' : C} (h : CEnt s s') (h1 : s = .dead → s' = .dead) (h2 : ∀ ts, s = .row ts [] → ∃ ts', s' = .row ts' []) : StEntG (stMi l c a s bo i) (stMi l c a s' bo i) := by
  refine ⟨rfl, fun _ => .inl rfl, fun j => ?_⟩
  match j with
  | 0 | 1 | 2 | 3 | 4 | 5 | 6 => exact .inl rfl
  | 7 => exact .inr ⟨_, _, _, rfl, rfl, h, h1, h2⟩
  | j + 8 => exact .inl rfl
/-- Bytes that are told by their sum. -/
theorem bg_pk {c N : Nat} {r : Nat → Int} (h : ∀ j, j < c → 0 ≤ r j ∧ r j < 256) (hN : bsum r c = (N : Int)) : CEnt (bgI .u8 c r) (.ps [.pk .u8 8 c N]) := by
  have hb := bsum_bd h hN
  have hlt : N < 2 ^ (8 * c) := by
    have := (bsum_rng c h).2
    rw [hN, pow_castN] at this
    exact Int.ofNat_lt.1 this
  have h2 : CEnt (psI .u8 c r) (.ps [.pk .u8 8 c N]) := CEnt.of' (ent_pk (f := r) hlt rfl (by decide) hb)
  exact fun σ xs hx => h2 σ xs (bg_ps σ xs hx)
def stTi (a b : Nat) (sb : C) (i : Int) (c k : V) : St := ⟨[.junk, .junk, .one (.ptr 0 0), .one (.ptr 1 0), .one (.ptr 2 0), .one (.ptr 3 0), vi64 i, c, k] ++ List.replicate 42 .junk,
  [some ⟨46, .ps [.pk .u8 8 32 a]⟩, some ⟨46, .ps [.pk .u8 8 32 b]⟩, some ⟨46, .ps [.int .u8 0, .int .u8 0, .int .u8 0, .int .u8 0, .int .u8 0, .int .u8 0, .int .u8 0, .int .u8 0, .int .u8 0, .int .u8 0, .int .u8 0, .int .u8 0, .int .u8 0, .int .u8 0, .int .u8 0, .int .u8 0, .int .u8 0, .int .u8 0, .int .u8 0, .int .u8 0, .int .u8 0, .int .u8 0, .int .u8 0, .int .u8 0, .int .u8 0, .int .u8 0, .int .u8 0, .int .u8 0, .int .u8 0, .int .u8 0, .int .u8 0, .int .u8 0]⟩, some ⟨105, sb⟩]⟩
theorem stTi_ent {a b : Nat} {i : Int} {c k : V} {s s' : C} (h : CEnt s s') (h1 : s = .dead → s' = .dead) (h2 : ∀ ts, s = .row ts [] → ∃ ts', s' = .row ts' []) : StEntG (stTi a b s i c k) (stTi a b s' i c k) := by
  refine ⟨rfl, fun _ => .inl rfl, fun j => ?_⟩
  match j with
  | 0 | 1 | 2 => exact .inl rfl
  | 3 => exact .inr ⟨_, _, _, rfl, rfl, h, h1, h2⟩
  | j + 4 => exact .inl rfl

noncomputable def sSMinusF : List D → Option (List Bool × V)
  | [.n a, .n b] => some ([], vb32 (restP (restP a + restP (minusS 7237005577332262213973186563042994240857116359379907606001950938285454250989 (restP b)))))
  | _ => none
noncomputable def sSMinus : FSpec := spec [tb32, tb32] sSMinusF

noncomputable def sSTimesF : List D → Option (List Bool × V)
  | [.n a, .n b] => some ([], vb32 (restP (restP a * restP b)))
  | _ => none
noncomputable def sSTimes : FSpec := spec [tb32, tb32] sSTimesF

theorem bit_eq8 {e j : Nat} (hj : j < 256) : decide ((((digit 8 e (0 + ((j : Int).tdiv 8).toNat) : Nat) : Int) / ((2 ^ min ((j : Int).tmod 8).toNat IntKind.u8.bits : Nat) : Int)) % 2 = 1) = decide (e / 2 ^ j % 2 = 1) := by
  have h1 : ((j : Int).tdiv 8).toNat = j / 8 := by
    rw [Int.tdiv_eq_ediv_of_nonneg (by omega)]; omega
  have h2 : min ((j : Int).tmod 8).toNat IntKind.u8.bits = j % 8 := by
    rw [Int.tmod_eq_emod_of_nonneg (by omega)]
    show min ((j : Int) % 8).toNat 8 = j % 8
    omega
  have _ := hj
  rw [h1, h2, ← Int.natCast_ediv, Nat.zero_add]
  unfold digit
  have e1 : e / 2 ^ (8 * (j / 8)) % 2 ^ 8 / 2 ^ (j % 8) % 2 = e / 2 ^ j % 2 := by
    have hlt : j % 8 < 8 := Nat.mod_lt _ (by decide)
    have e2 : (2 : Nat) ^ 8 = 2 ^ (j % 8) * 2 ^ (8 - j % 8) := by rw [← Nat.pow_add]; congr 1; omega
    rw [e2, Nat.mod_mul_right_div_self, Nat.div_div_eq_div_mul, ← Nat.pow_add, Nat.div_add_mod]
    have e3 : (2 : Nat) ^ (8 - j % 8) = 2 * 2 ^ (7 - j % 8) := by rw [← Nat.pow_succ']; congr 1; omega
    rw [e3, Nat.mod_mul_right_mod]
  rw [← e1]
  congr 1
  exact propext ⟨fun h => by omega, fun h => by omega⟩
def stIv (a e : Nat) (i : Int) (c : Nat) : St := ⟨[.junk, .one (.ptr 0 0), .one (.ptr 1 0), .one (.ptr 3 0), .one (.ptr 5 0), vi64 i] ++ List.replicate 26 .junk,
  [some ⟨46, .ps [.pk .u8 8 32 a]⟩, some ⟨46, .ps [.int .u8 0, .int .u8 0, .int .u8 0, .int .u8 0, .int .u8 0, .int .u8 0, .int .u8 0, .int .u8 0, .int .u8 0, .int .u8 0, .int .u8 0, .int .u8 0, .int .u8 0, .int .u8 0, .int .u8 0, .int .u8 0, .int .u8 0, .int .u8 0, .int .u8 0, .int .u8 0, .int .u8 0, .int .u8 0, .int .u8 0, .int .u8 0, .int .u8 0, .int .u8 0, .int .u8 0, .int .u8 0, .int .u8 0, .int .u8 0, .int .u8 0, .int .u8 0]⟩, none, some ⟨22, .ps [.pk .u8 8 32 e]⟩, none, some ⟨46, .ps [.pk .u8 8 32 c]⟩]⟩
theorem stIv_ent {a e : Nat} {i : Int} {c : Nat} : StEntG ⟨[.junk, .one (.ptr 0 0), .one (.ptr 1 0), .one (.ptr 3 0), .one (.ptr 5 0), vi64 i] ++ List.replicate 26 .junk,
  [some ⟨46, .ps [.pk .u8 8 32 a]⟩, some ⟨46, .ps [.int .u8 0, .int .u8 0, .int .u8 0, .int .u8 0, .int .u8 0, .int .u8 0, .int .u8 0, .int .u8 0, .int .u8 0, .int .u8 0, .int .u8 0, .int .u8 0, .int .u8 0, .int .u8 0, .int .u8 0, .int .u8 0, .int .u8 0, .int .u8 0, .int .u8 0, .int .u8 0, .int .u8 0, .int .u8 0, .int .u8 0, .int .u8 0, .int .u8 0, .int .u8 0, .int .u8 0, .int .u8 0, .int .u8 0, .int .u8 0, .int .u8 0, .int .u8 0]⟩, none, some ⟨22, .ps ((List.range 32).map fun p => .int .u8 (bd e p))⟩, none, some ⟨46, .ps [.pk .u8 8 32 c]⟩]⟩ (stIv a (e % 2 ^ (8 * 32)) i c) := by
  refine ⟨rfl, fun _ => .inl rfl, fun j => ?_⟩
  match j with
  | 0 | 1 | 2 => exact .inl rfl
  | 3 => exact .inr ⟨_, _, _, rfl, rfl, CEnt.of' (ent_pk (f := bd e) (Nat.mod_lt _ (Nat.pow_pos (by decide))) rfl (by decide) fun p hp => by
      unfold bd digit
      congr 1
      have : (2 : Nat) ^ (8 * 32) = 2 ^ (8 * p) * (2 ^ 8 * 2 ^ (8 * (31 - p))) := by rw [← Nat.pow_add, ← Nat.pow_add]; congr 1; omega
      rw [this, Nat.mod_mul_right_div_self, Nat.mod_mul_right_mod]), (fun h => by cases h), (fun _ h => by cases h)⟩
  | 4 | 5 => exact .inl rfl
  | j + 6 => exact .inl rfl

noncomputable def sSInverseF : List D → Option (List Bool × V)
  | [.n a] => some ([], vb32 (powL a 7237005577332262213973186563042994240857116359379907606001950938285454250987))
  | _ => none
noncomputable def sSInverse : FSpec := spec [tb32] sSInverseF
end Go.Proofs.Yteohgdpkdbckoaa
