/-
  Contracts of the document's scalars: often.
-/
import Derived.Test.YtpoikjcgdojjjaaLb41
import Derived.Test.YtpoikjcgdojjjaaLb39
import Derived.Test.YtpoikjcgdojjjaaVx25
import Derived.Test.YtpoikjcgdojjjaaPr6
import Derived.Test.YtpoikjcgdojjjaaL3
namespace Go.Proofs.Ytpoikjcgdojjjaa
open Go Vx Go.RowKit

abbrev tlong : Ty := .ag [.pk .u64 32 9]
abbrev vlong (n : Nat) : V := .pk .u64 32 9 n
def d32 (n i : Nat) : Int := ((digit 32 n i : Nat) : Int)
theorem d32_rng (n i : Nat) : 0 ≤ d32 n i ∧ d32 n i < 4294967296 := by
  unfold d32 digit
  have := Nat.mod_lt (n / 2 ^ (32 * i)) (show 2 ^ 32 > 0 by decide)
  simp only [Nat.reducePow] at *
  omega
theorem pow_cast (n : Nat) : (2 : Int) ^ n = ((2 ^ n : Nat) : Int) := by simp
theorem ent_long {f : Nat → Int} {n : Nat} (h : ∀ i, 0 ≤ f i ∧ f i < 4294967296) (hn : psum f 9 = (n : Int)) : VEnt (.ag (.ps ((List.range 9).map fun i => .int .u64 (f i)))) (vlong n) := by
  have hb : n < 2 ^ (32 * 9) := by
    have := (psum_rng (d := f) 9 (fun i _ => h i)).2
    rw [hn, pow_cast (32 * 9)] at this
    exact Int.ofNat_lt.1 this
  refine ent_pk (f := f) hb rfl (by decide) fun i hi => ?_
  rw [← psum_digit h 9 i hi, hn]
  unfold digit
  have h2 : ((2 : Int) ^ (32 * i)) = ((2 ^ (32 * i) : Nat) : Int) := by simp
  rw [h2]
  simp only [Nat.reducePow]
  omega
theorem ent_lit {n : Nat} {l : List L} (h : l = (List.range 9).map fun i => .int .u64 (d32 n i)) (hn : n < 2 ^ (32 * 9)) : VEnt (.ag (.ps l)) (vlong n) := by
  subst h
  exact ent_pk (f := d32 n) hn rfl (by decide) fun i _ => rfl

/-- l, so often. -/
def oftL (n : Int) : Nat := 7237005577332262213973186563042994240857116359379907606001950938285454250989 * 2 ^ n.toNat

noncomputable def sSOftenF : List D → Option (List Bool × V)
  | [.i n] => some ([decide (0 ≤ n ∧ n ≤ 8)], vlong (oftL n))
  | _ => none
noncomputable def sSOften : FSpec := spec [ti64] sSOftenF
noncomputable abbrev tabSOften : List (FuncId × FSpec) := [(138, sSOrder)]
set_option maxRecDepth 100000 in
theorem tabokSOften : TabOK Try.prog (tabOf tabSOften) := (.cons ok_SOrder .nil)
set_option maxRecDepth 100000 in
theorem ok_SOften : FnOK Try.prog 143 sSOften := by
  refine fn_flat (cx := mkcx tabSOften) (c := bodyOf Try.f143) Try.func143 (by kernel_rfl) (by kernel_rfl) rfl ?_
  intro ds chk v vs hF ht he hr base
  unfold sSOftenF at hF
  split at hF
  · rename_i n
    cases hF
    have hvs : vs = [vi64 n] := by simp only [encA, encV, encP, encL, Option.some.injEq] at he; exact he.symm
    subst hvs
    have hc : 0 ≤ n ∧ n ≤ 8 := of_decide_eq_true (ht _ (by simp))
    have : n = 0 ∨ n = 1 ∨ n = 2 ∨ n = 3 ∨ n = 4 ∨ n = 5 ∨ n = 6 ∨ n = 7 ∨ n = 8 := by omega
    rcases this with rfl | rfl | rfl | rfl | rfl | rfl | rfl | rfl | rfl
    · exact runs_evS (mkok tabokSOften) (n := 400) (bs0 := []) (v0 := .ag (.ps [.int .u64 1559614445, .int .u64 1477600026, .int .u64 2734136534, .int .u64 350157278, .int .u64 0, .int .u64 0, .int .u64 0, .int .u64 268435456, .int .u64 0])) (by kernel_rfl) (ent_lit (n := 7237005577332262213973186563042994240857116359379907606001950938285454250989) (by kernel_rfl) (by decide +kernel)) trivial
    · exact runs_evS (mkok tabokSOften) (n := 400) (bs0 := []) (v0 := .ag (.ps [.int .u64 3119228890, .int .u64 2955200052, .int .u64 1173305772, .int .u64 700314557, .int .u64 0, .int .u64 0, .int .u64 0, .int .u64 536870912, .int .u64 0])) (by kernel_rfl) (ent_lit (n := 14474011154664524427946373126085988481714232718759815212003901876570908501978) (by kernel_rfl) (by decide +kernel)) trivial
    · exact runs_evS (mkok tabokSOften) (n := 400) (bs0 := []) (v0 := .ag (.ps [.int .u64 1943490484, .int .u64 1615432809, .int .u64 2346611545, .int .u64 1400629114, .int .u64 0, .int .u64 0, .int .u64 0, .int .u64 1073741824, .int .u64 0])) (by kernel_rfl) (ent_lit (n := 28948022309329048855892746252171976963428465437519630424007803753141817003956) (by kernel_rfl) (by decide +kernel)) trivial
    · exact runs_evS (mkok tabokSOften) (n := 400) (bs0 := []) (v0 := .ag (.ps [.int .u64 3886980968, .int .u64 3230865618, .int .u64 398255794, .int .u64 2801258229, .int .u64 0, .int .u64 0, .int .u64 0, .int .u64 2147483648, .int .u64 0])) (by kernel_rfl) (ent_lit (n := 57896044618658097711785492504343953926856930875039260848015607506283634007912) (by kernel_rfl) (by decide +kernel)) trivial
    · exact runs_evS (mkok tabokSOften) (n := 400) (bs0 := []) (v0 := .ag (.ps [.int .u64 3478994640, .int .u64 2166763941, .int .u64 796511589, .int .u64 1307549162, .int .u64 1, .int .u64 0, .int .u64 0, .int .u64 0, .int .u64 1])) (by kernel_rfl) (ent_lit (n := 115792089237316195423570985008687907853713861750078521696031215012567268015824) (by kernel_rfl) (by decide +kernel)) trivial
    · exact runs_evS (mkok tabokSOften) (n := 400) (bs0 := []) (v0 := .ag (.ps [.int .u64 2663021984, .int .u64 38560587, .int .u64 1593023179, .int .u64 2615098324, .int .u64 2, .int .u64 0, .int .u64 0, .int .u64 0, .int .u64 2])) (by kernel_rfl) (ent_lit (n := 231584178474632390847141970017375815707427723500157043392062430025134536031648) (by kernel_rfl) (by decide +kernel)) trivial
    · exact runs_evS (mkok tabokSOften) (n := 400) (bs0 := []) (v0 := .ag (.ps [.int .u64 1031076672, .int .u64 77121175, .int .u64 3186046358, .int .u64 935229352, .int .u64 5, .int .u64 0, .int .u64 0, .int .u64 0, .int .u64 4])) (by kernel_rfl) (ent_lit (n := 463168356949264781694283940034751631414855447000314086784124860050269072063296) (by kernel_rfl) (by decide +kernel)) trivial
    · exact runs_evS (mkok tabokSOften) (n := 400) (bs0 := []) (v0 := .ag (.ps [.int .u64 2062153344, .int .u64 154242350, .int .u64 2077125420, .int .u64 1870458705, .int .u64 10, .int .u64 0, .int .u64 0, .int .u64 0, .int .u64 8])) (by kernel_rfl) (ent_lit (n := 926336713898529563388567880069503262829710894000628173568249720100538144126592) (by kernel_rfl) (by decide +kernel)) trivial
    · exact runs_evS (mkok tabokSOften) (n := 400) (bs0 := []) (v0 := .ag (.ps [.int .u64 4124306688, .int .u64 308484700, .int .u64 4154250840, .int .u64 3740917410, .int .u64 20, .int .u64 0, .int .u64 0, .int .u64 0, .int .u64 16])) (by kernel_rfl) (ent_lit (n := 1852673427797059126777135760139006525659421788001256347136499440201076288253184) (by kernel_rfl) (by decide +kernel)) trivial
  · cases hF
end Go.Proofs.Ytpoikjcgdojjjaa
