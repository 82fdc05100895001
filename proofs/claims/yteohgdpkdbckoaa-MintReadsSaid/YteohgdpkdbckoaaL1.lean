/-
  Contracts of the program's lowest functions: sums and products of words.
-/
import Derived.Test.YteohgdpkdbckoaaX3
import Derived.Test.YteohgdpkdbckoaaU1
import Derived.Test.YteohgdpkdbckoaaProg
namespace Go.Proofs.Yteohgdpkdbckoaa
open Go Vx Go.RowKit

theorem mixed : Try.prog.follows .mixedOrders = true := by kernel_rfl

abbrev tu64 : Ty := .one (.int .u64)
abbrev tfe : Ty := .ag [.pk .u64 64 4]
abbrev vu64 (n : Int) : V := .u (.one (.int .u64 n))
abbrev vfe (n : Nat) : V := .pk .u64 64 4 n

noncomputable abbrev mkcx (l : List (FuncId × FSpec)) : Cx := { P := Try.prog, ro := 0, tab := tabOf l }
/-- With numbers that are not known. -/
noncomputable abbrev mkcs (l : List (FuncId × FSpec)) : Cx := { P := Try.prog, ro := 0, sy := true, tab := tabOf l }
set_option maxRecDepth 100000 in
theorem mkoks {l : List (FuncId × FSpec)} (h : TabOK Try.prog (tabOf l)) : Ok (mkcs l) := ⟨h, fun _ _ h => (by cases h), fun _ _ _ _ _ h => (by cases h), mixed⟩

set_option maxRecDepth 100000 in
theorem mkok {l : List (FuncId × FSpec)} (h : TabOK Try.prog (tabOf l)) : Ok (mkcx l) := ⟨h, fun _ _ h => (by cases h), fun _ _ _ _ _ h => (by cases h), mixed⟩

/-- With bodies that are run in place. -/
noncomputable abbrev mkci (l : List (FuncId × FSpec)) (il : List (FuncId × Func)) : Cx := { P := Try.prog, ro := 0, il := ilTab il, tab := tabOf l }
noncomputable abbrev mkcis (l : List (FuncId × FSpec)) (il : List (FuncId × Func)) : Cx := { P := Try.prog, ro := 0, sy := true, il := ilTab il, tab := tabOf l }
set_option maxRecDepth 100000 in
theorem mkoki {l : List (FuncId × FSpec)} {il : List (FuncId × Func)} (h : TabOK Try.prog (tabOf l)) (hi : IlOK Try.prog (ilTab il)) : Ok (mkci l il) := ⟨h, hi, fun _ _ _ _ _ h => (by cases h), mixed⟩
set_option maxRecDepth 100000 in
theorem mkokis {l : List (FuncId × FSpec)} {il : List (FuncId × Func)} (h : TabOK Try.prog (tabOf l)) (hi : IlOK Try.prog (ilTab il)) : Ok (mkcis l il) := ⟨h, hi, fun _ _ _ _ _ h => (by cases h), mixed⟩

/-- Words of all kinds: held to be of their kind, slices as rows; contracts, bodies in place, calls that are known. -/
noncomputable abbrev mkcf (sy rw : Bool) (l : List (FuncId × FSpec)) (il : List (FuncId × Func)) (js : List (FuncId × List V × Hp × V × Hp)) : Cx := { P := Try.prog, ro := 0, sy := sy, rw := rw, il := ilTab il, js := jsTab js, tab := tabOf l }
set_option maxRecDepth 100000 in
theorem mkokf {sy rw : Bool} {l : List (FuncId × FSpec)} {il : List (FuncId × Func)} {js : List (FuncId × List V × Hp × V × Hp)} (h : TabOK Try.prog (tabOf l)) (hi : IlOK Try.prog (ilTab il)) (hj : JsOK Try.prog 0 (jsTab js)) : Ok (mkcf sy rw l il js) := ⟨h, hi, hj, mixed⟩


/-- Add64, Sub64. -/
def sAdd64F : List D → Option (List Bool × V)
  | [.i x, .i y, .i c] => some ([decide (c ≤ 1)], .tup [.one (.int .u64 ((x + y + c) % 18446744073709551616)), .one (.int .u64 ((x + y + c) / 18446744073709551616))])
  | _ => none
def sAdd64 : FSpec := spec [tu64, tu64, tu64] sAdd64F

theorem rng_u64 {n : Int} (h : rngV (vu64 n)) : 0 ≤ n ∧ n < 18446744073709551616 := by
  have : inK .u64 n = true := h
  simpa [inK] using this

set_option maxRecDepth 100000 in
theorem ok_Add64 : FnOK Try.prog 66 sAdd64 := by
  refine fn_extern Try.func66 (by kernel_rfl) (by kernel_rfl) (by kernel_rfl) (e := add64Entry) (by kernel_rfl) ?_
  intro ds chk v vs hF ht he hr σ w vals hv
  unfold sAdd64F at hF
  split at hF
  · rename_i x y c
    cases hF
    have hvs : vs = [vu64 x, vu64 y, vu64 c] := by
      simp only [encA, encV, encP, encL, Option.some.injEq] at he; exact he.symm
    subst hvs
    obtain ⟨h1, h2, h3, _⟩ := hr
    have h1 := rng_u64 h1
    have h2 := rng_u64 h2
    have h3 := rng_u64 h3
    have hc : c ≤ 1 := of_decide_eq_true (ht _ (by simp))
    cases hv with
    | cons a1 hv => cases hv with
      | cons a2 hv => cases hv with
        | cons a3 hv =>
          cases hv
          obtain ⟨rfl, _⟩ := vint a1
          obtain ⟨rfl, _⟩ := vint a2
          obtain ⟨rfl, _⟩ := vint a3
          refine ⟨_, run_add64 x y c h1.1 h2.1 h3.1 hc w, rfl, ?_⟩
          refine ⟨_, rfl, .cons ⟨rfl, rfl, ?_⟩ (.cons ⟨rfl, rfl, ?_⟩ .nil)⟩
          · simp [inK]; omega
          · simp [inK]; omega
  · cases hF

def sSub64F : List D → Option (List Bool × V)
  | [.i x, .i y, .i c] => some ([decide (c ≤ 1)], .tup [.one (.int .u64 ((x - y - c) % 18446744073709551616)), .one (.int .u64 (if x < y + c then 1 else 0))])
  | _ => none
def sSub64 : FSpec := spec [tu64, tu64, tu64] sSub64F

def sub64Entry : Array Value → Sem Value := fun args => do
  let (x, y, b) ← Extern.MathBitsCarry.three "Sub64" args
  pure (Extern.MathBitsCarry.pair ((x + Extern.MathBitsCarry.m64 - y - b) % Extern.MathBitsCarry.m64) (if x < y + b then 1 else 0))

theorem run_sub64 {P : Program} (x y c : Int) (hx : 0 ≤ x) (hy : 0 ≤ y) (hy' : y < 18446744073709551616) (hc0 : 0 ≤ c) (hc : c ≤ 1) (w : World) :
    (sub64Entry #[.int .u64 x, .int .u64 y, .int .u64 c]).run P w =
      .ok (.tuple #[.int .u64 ((x - y - c) % 18446744073709551616), .int .u64 (if x < y + c then 1 else 0)]) w := by
  have key : ∀ k : Nat, k ≤ 1 → (sub64Entry #[.int .u64 x, .int .u64 y, .int .u64 (k : Int)]).run P w =
      .ok (Extern.MathBitsCarry.pair ((x.toNat + Extern.MathBitsCarry.m64 - y.toNat - k) % Extern.MathBitsCarry.m64) (if x.toNat < y.toNat + k then 1 else 0)) w := by
    intro k hk
    have : k = 0 ∨ k = 1 := by omega
    rcases this with rfl | rfl <;> rfl
  obtain ⟨k, rfl⟩ := Int.eq_ofNat_of_zero_le hc0
  rw [key k (by omega)]
  obtain ⟨X, rfl⟩ := Int.eq_ofNat_of_zero_le hx
  obtain ⟨Y, rfl⟩ := Int.eq_ofNat_of_zero_le hy
  simp only [Extern.MathBitsCarry.pair, Extern.MathBitsCarry.m64, Int.toNat_natCast]
  have e1 : (Int.ofNat ((X + 2 ^ 64 - Y - k) % 2 ^ 64)) = ((X : Int) - Y - k) % 18446744073709551616 := by
    show (((X + 2 ^ 64 - Y - k) % 2 ^ 64 : Nat) : Int) = _
    have h2 : (2 : Nat) ^ 64 = 18446744073709551616 := by decide
    rw [h2]
    omega
  have e2 : Int.ofNat (if X < Y + k then 1 else 0) = if (X : Int) < Y + k then 1 else 0 := by
    by_cases h : X < Y + k
    · rw [if_pos h, if_pos (by omega)]; rfl
    · rw [if_neg h, if_neg (by omega)]; rfl
  rw [e1, e2]

set_option maxRecDepth 100000 in
theorem ok_Sub64 : FnOK Try.prog 88 sSub64 := by
  refine fn_extern Try.func88 (by kernel_rfl) (by kernel_rfl) (by kernel_rfl) (e := sub64Entry) (by kernel_rfl) ?_
  intro ds chk v vs hF ht he hr σ w vals hv
  unfold sSub64F at hF
  split at hF
  · rename_i x y c
    cases hF
    have hvs : vs = [vu64 x, vu64 y, vu64 c] := by
      simp only [encA, encV, encP, encL, Option.some.injEq] at he; exact he.symm
    subst hvs
    obtain ⟨h1, h2, h3, _⟩ := hr
    have h1 := rng_u64 h1
    have h2 := rng_u64 h2
    have h3 := rng_u64 h3
    have hc : c ≤ 1 := of_decide_eq_true (ht _ (by simp))
    cases hv with
    | cons a1 hv => cases hv with
      | cons a2 hv => cases hv with
        | cons a3 hv =>
          cases hv
          obtain ⟨rfl, _⟩ := vint a1
          obtain ⟨rfl, _⟩ := vint a2
          obtain ⟨rfl, _⟩ := vint a3
          refine ⟨_, run_sub64 x y c h1.1 h2.1 h2.2 h3.1 hc w, rfl, ?_⟩
          refine ⟨_, rfl, .cons ⟨rfl, rfl, ?_⟩ (.cons ⟨rfl, rfl, ?_⟩ .nil)⟩
          · simp [inK]; omega
          · simp only [inK]; split <;> rfl
  · cases hF
end Go.Proofs.Yteohgdpkdbckoaa

/-
  Contracts of the program's lowest functions: words.
-/
namespace Go.Proofs.Yteohgdpkdbckoaa
open Go Vx Go.RowKit

theorem VEnt.dec {t : Ty} {v v' : V} {ds : List D} (h : decV t v = some ds) (he : encV t ds = some (v', [])) : VEnt v v' := by
  obtain ⟨v2, h1, _, h3⟩ := decV_sound h
  have := h1 []
  rw [List.append_nil, he] at this
  cases this
  exact h3

def UEnt (u u' : U) : Prop := ∀ σ x, URel σ u x → URel σ u' x
theorem UEnt.refl (u : U) : UEnt u u := fun _ _ h => h
theorem UEnt.of {u u' : U} (h : VEnt (.u u) (.u u')) : UEnt u u' := fun σ x hx => h σ x hx

theorem VEnt.tup2 {a b a' b' : U} (h1 : UEnt a a') (h2 : UEnt b b') : VEnt (.tup [a, b]) (.tup [a', b']) := by
  rintro σ x ⟨xs, e, hall⟩
  refine ⟨xs, e, ?_⟩
  cases hall with
  | cons ha hl => cases hl with
    | cons hb hl => cases hl; exact .cons (h1 _ _ ha) (.cons (h2 _ _ hb) .nil)

theorem VEnt.tup3 {a b c a' b' c' : U} (h1 : UEnt a a') (h2 : UEnt b b') (h3 : UEnt c c') : VEnt (.tup [a, b, c]) (.tup [a', b', c']) := by
  rintro σ x ⟨xs, e, hall⟩
  refine ⟨xs, e, ?_⟩
  cases hall with
  | cons ha hl => cases hl with
    | cons hb hl => cases hl with
      | cons hc hl => cases hl; exact .cons (h1 _ _ ha) (.cons (h2 _ _ hb) (.cons (h3 _ _ hc) .nil))

theorem ent_fe {c0 c1 c2 c3 : Int} {n : Nat} (h : c0.toNat + 2 ^ 64 * (c1.toNat + 2 ^ 64 * (c2.toNat + 2 ^ 64 * (c3.toNat + 2 ^ 64 * 0))) = n) :
    VEnt (.ag (.ps [.int .u64 c0, .int .u64 c1, .int .u64 c2, .int .u64 c3])) (vfe n) := by
  refine VEnt.dec (t := tfe) (ds := [.n n]) ?_ rfl
  rw [← h]
  rfl

theorem digits4 {n : Nat} (h : n < 115792089237316195423570985008687907853269984665640564039457584007913129639936) :
    n = digit 64 n 0 + 18446744073709551616 * digit 64 n 1 + 340282366920938463463374607431768211456 * digit 64 n 2 + 6277101735386680763835789423207666416102355444464034512896 * digit 64 n 3 ∧
    digit 64 n 0 < 18446744073709551616 ∧ digit 64 n 1 < 18446744073709551616 ∧ digit 64 n 2 < 18446744073709551616 ∧ digit 64 n 3 < 18446744073709551616 := by
  simp only [digit, Nat.reduceMul, Nat.reducePow, Nat.div_one]
  omega

theorem rng_fe {n : Nat} (h : rngV (vfe n)) : n < 115792089237316195423570985008687907853269984665640564039457584007913129639936 := by
  have := h.1
  simpa [rngL] using this

/-- Mul64. -/
def mulHi (x y : Int) : Int :=
  wrapK .u64 (wrapK .u64 (wrapK .u64 (x / 4294967296 * (y / 4294967296)) +
      wrapK .u64 (wrapK .u64 (x / 4294967296 * ((y.toNat &&& 4294967295 : Nat) : Int)) + wrapK .u64 (((x.toNat &&& 4294967295 : Nat) : Int) * ((y.toNat &&& 4294967295 : Nat) : Int)) / 4294967296) / 4294967296) +
    wrapK .u64 ((((wrapK .u64 (wrapK .u64 (x / 4294967296 * ((y.toNat &&& 4294967295 : Nat) : Int)) + wrapK .u64 (((x.toNat &&& 4294967295 : Nat) : Int) * ((y.toNat &&& 4294967295 : Nat) : Int)) / 4294967296)).toNat &&& 4294967295 : Nat) : Int) +
      wrapK .u64 (((x.toNat &&& 4294967295 : Nat) : Int) * (y / 4294967296))) / 4294967296)

theorem mulHi_eq {x y : Int} (hx : 0 ≤ x) (hx' : x < 18446744073709551616) (hy : 0 ≤ y) (hy' : y < 18446744073709551616) : mulHi x y = x * y / 18446744073709551616 := by
  have hand : ∀ n : Nat, n &&& 4294967295 = n % 4294967296 := fun n => Nat.and_two_pow_sub_one_eq_mod n 32
  have hmod : ∀ z : Int, 0 ≤ z → ((z.toNat % 4294967296 : Nat) : Int) = z % 4294967296 := by intro z hz; omega
  unfold mulHi
  simp only [wrapK, hand]
  rw [hmod x hx, hmod y hy]
  obtain ⟨x1, hx1⟩ : ∃ a, a = x / 4294967296 := ⟨_, rfl⟩
  obtain ⟨x0, hx0⟩ : ∃ a, a = x % 4294967296 := ⟨_, rfl⟩
  obtain ⟨y1, hy1⟩ : ∃ a, a = y / 4294967296 := ⟨_, rfl⟩
  obtain ⟨y0, hy0⟩ : ∃ a, a = y % 4294967296 := ⟨_, rfl⟩
  rw [← hx1, ← hx0, ← hy1, ← hy0]
  have bx1 : 0 ≤ x1 ∧ x1 ≤ 4294967295 := by omega
  have bx0 : 0 ≤ x0 ∧ x0 ≤ 4294967295 := by omega
  have by1 : 0 ≤ y1 ∧ y1 ≤ 4294967295 := by omega
  have by0 : 0 ≤ y0 ∧ y0 ≤ 4294967295 := by omega
  have prod : ∀ a b : Int, 0 ≤ a ∧ a ≤ 4294967295 → 0 ≤ b ∧ b ≤ 4294967295 → 0 ≤ a * b ∧ a * b ≤ 18446744065119617025 := by
    intro a b ha hb
    refine ⟨Int.mul_nonneg ha.1 hb.1, ?_⟩
    calc a * b ≤ 4294967295 * b := Int.mul_le_mul_of_nonneg_right ha.2 hb.1
      _ ≤ 4294967295 * 4294967295 := Int.mul_le_mul_of_nonneg_left hb.2 (by omega)
  have p11 := prod x1 y1 bx1 by1
  have p10 := prod x1 y0 bx1 by0
  have p01 := prod x0 y1 bx0 by1
  have p00 := prod x0 y0 bx0 by0
  have hxy : x * y = x1 * y1 * 18446744073709551616 + (x1 * y0 + x0 * y1) * 4294967296 + x0 * y0 := by
    have e1 : x = x1 * 4294967296 + x0 := by omega
    have e2 : y = y1 * 4294967296 + y0 := by omega
    rw [e1, e2]
    grind
  rw [hxy]
  generalize x1 * y1 = a at *
  generalize x1 * y0 = b at *
  generalize x0 * y1 = c at *
  generalize x0 * y0 = d at *
  have t0 : (b % 18446744073709551616 + d % 18446744073709551616 / 4294967296) % 18446744073709551616 = b + d / 4294967296 := by omega
  rw [t0, hmod _ (by omega)]
  omega

def sMul64F : List D → Option (List Bool × V)
  | [.i x, .i y] => some ([], .tup [.one (.int .u64 (x * y / 18446744073709551616)), .one (.int .u64 (x * y % 18446744073709551616))])
  | _ => none
def sMul64 : FSpec := spec [tu64, tu64] sMul64F

set_option maxRecDepth 100000 in
theorem ok_Mul64 : FnOK Try.prog 65 sMul64 := by
  refine fn_flat (cx := mkcx []) (c := bodyOf Try.f65) Try.func65 (by kernel_rfl) (by kernel_rfl) rfl ?_
  intro ds chk v vs hF ht he hr base
  unfold sMul64F at hF
  split at hF
  · rename_i x y
    cases hF
    have hvs : vs = [vu64 x, vu64 y] := by simp only [encA, encV, encP, encL, Option.some.injEq] at he; exact he.symm
    subst hvs
    obtain ⟨h1, h2, _⟩ := hr
    have h1 := rng_u64 h1
    have h2 := rng_u64 h2
    refine runs_ev (mkok TabOK.nil) (n := 200) (bs0 := []) (v0 := .tup [.one (.int .u64 (mulHi x y)), .one (.int .u64 (wrapK .u64 (x * y)))]) (by kernel_rfl) ?_ trivial
    rw [mulHi_eq h1.1 h1.2 h2.1 h2.2]
    exact VEnt.refl _
  · cases hF

/-- plus, minus: of four words. -/
noncomputable def sPlusF : List D → Option (List Bool × V)
  | [.n a, .n b] => some ([], .tup [.ag (.ps [.pk .u64 64 4 (plusS a b)]), .one (.int .u64 (plusC a b : Int))])
  | _ => none
noncomputable def sPlus : FSpec := spec [tfe, tfe] sPlusF

theorem carry4 {a b : Nat} {a0 a1 a2 a3 b0 b1 b2 b3 : Nat}
    (ea : a = a0 + 18446744073709551616 * a1 + 340282366920938463463374607431768211456 * a2 + 6277101735386680763835789423207666416102355444464034512896 * a3)
    (eb : b = b0 + 18446744073709551616 * b1 + 340282366920938463463374607431768211456 * b2 + 6277101735386680763835789423207666416102355444464034512896 * b3) {s0 s1 s2 s3 : Int}
    (h0 : s0 = (a0 : Int) + (b0 : Int) + 0) (h1 : s1 = (a1 : Int) + (b1 : Int) + s0 / 18446744073709551616)
    (h2 : s2 = (a2 : Int) + (b2 : Int) + s1 / 18446744073709551616) (h3 : s3 = (a3 : Int) + (b3 : Int) + s2 / 18446744073709551616) :
    (s0 % 18446744073709551616).toNat + 2 ^ 64 * ((s1 % 18446744073709551616).toNat + 2 ^ 64 * ((s2 % 18446744073709551616).toNat + 2 ^ 64 * ((s3 % 18446744073709551616).toNat + 2 ^ 64 * 0))) =
      (a + b) % 115792089237316195423570985008687907853269984665640564039457584007913129639936 ∧
    s3 / 18446744073709551616 = (((a + b) / 115792089237316195423570985008687907853269984665640564039457584007913129639936 : Nat) : Int) := by
  obtain ⟨q0, hq0⟩ : ∃ q, q = s0 / 18446744073709551616 := ⟨_, rfl⟩
  obtain ⟨q1, hq1⟩ : ∃ q, q = s1 / 18446744073709551616 := ⟨_, rfl⟩
  obtain ⟨q2, hq2⟩ : ∃ q, q = s2 / 18446744073709551616 := ⟨_, rfl⟩
  obtain ⟨q3, hq3⟩ : ∃ q, q = s3 / 18446744073709551616 := ⟨_, rfl⟩
  obtain ⟨r0, hr0⟩ : ∃ q, q = s0 % 18446744073709551616 := ⟨_, rfl⟩
  obtain ⟨r1, hr1⟩ : ∃ q, q = s1 % 18446744073709551616 := ⟨_, rfl⟩
  obtain ⟨r2, hr2⟩ : ∃ q, q = s2 % 18446744073709551616 := ⟨_, rfl⟩
  obtain ⟨r3, hr3⟩ : ∃ q, q = s3 % 18446744073709551616 := ⟨_, rfl⟩
  have d0 : s0 = 18446744073709551616 * q0 + r0 ∧ 0 ≤ r0 ∧ r0 < 18446744073709551616 := by omega
  have d1 : s1 = 18446744073709551616 * q1 + r1 ∧ 0 ≤ r1 ∧ r1 < 18446744073709551616 := by omega
  have d2 : s2 = 18446744073709551616 * q2 + r2 ∧ 0 ≤ r2 ∧ r2 < 18446744073709551616 := by omega
  have d3 : s3 = 18446744073709551616 * q3 + r3 ∧ 0 ≤ r3 ∧ r3 < 18446744073709551616 := by omega
  rw [← hq0] at h1; rw [← hq1] at h2; rw [← hq2] at h3; rw [← hq3, ← hr0, ← hr1, ← hr2, ← hr3]
  have q3n : 0 ≤ q3 := by omega
  clear hq0 hq1 hq2 hq3 hr0 hr1 hr2 hr3
  obtain ⟨R0, rfl⟩ := Int.eq_ofNat_of_zero_le d0.2.1
  obtain ⟨R1, rfl⟩ := Int.eq_ofNat_of_zero_le d1.2.1
  obtain ⟨R2, rfl⟩ := Int.eq_ofNat_of_zero_le d2.2.1
  obtain ⟨R3, rfl⟩ := Int.eq_ofNat_of_zero_le d3.2.1
  obtain ⟨Q3, rfl⟩ := Int.eq_ofNat_of_zero_le q3n
  have hsum : a + b = R0 + 18446744073709551616 * R1 + 340282366920938463463374607431768211456 * R2 + 6277101735386680763835789423207666416102355444464034512896 * R3 +
      115792089237316195423570985008687907853269984665640564039457584007913129639936 * Q3 := by omega
  have hlt : R0 + 18446744073709551616 * R1 + 340282366920938463463374607431768211456 * R2 + 6277101735386680763835789423207666416102355444464034512896 * R3 <
      115792089237316195423570985008687907853269984665640564039457584007913129639936 := by omega
  simp only [Int.toNat_natCast, Nat.reducePow]
  refine ⟨?_, ?_⟩
  · rw [hsum, Nat.add_mul_mod_self_left, Nat.mod_eq_of_lt hlt]
    omega
  · rw [hsum, Nat.add_mul_div_left _ _ (by omega), Nat.div_eq_of_lt hlt]
    omega

set_option maxRecDepth 100000 in
theorem ok_Plus : FnOK Try.prog 68 sPlus := by
  refine fn_flat (cx := mkcx [(66, sAdd64)]) (c := bodyOf Try.f68) Try.func68 (by kernel_rfl) (by kernel_rfl) rfl ?_
  intro ds chk v vs hF ht he hr base
  unfold sPlusF at hF
  split at hF
  · rename_i a b
    cases hF
    have hvs : vs = [vfe a, vfe b] := by simp only [encA, encV, encP, encL, Option.some.injEq] at he; exact he.symm
    subst hvs
    obtain ⟨h1, h2, _⟩ := hr
    obtain ⟨ea, a0, a1, a2, a3⟩ := digits4 (rng_fe h1)
    obtain ⟨eb, b0, b1, b2, b3⟩ := digits4 (rng_fe h2)
    obtain ⟨s0, hs0⟩ : ∃ s : Int, s = (digit 64 a 0 : Int) + (digit 64 b 0 : Int) + 0 := ⟨_, rfl⟩
    obtain ⟨s1, hs1⟩ : ∃ s : Int, s = (digit 64 a 1 : Int) + (digit 64 b 1 : Int) + s0 / 18446744073709551616 := ⟨_, rfl⟩
    obtain ⟨s2, hs2⟩ : ∃ s : Int, s = (digit 64 a 2 : Int) + (digit 64 b 2 : Int) + s1 / 18446744073709551616 := ⟨_, rfl⟩
    obtain ⟨s3, hs3⟩ : ∃ s : Int, s = (digit 64 a 3 : Int) + (digit 64 b 3 : Int) + s2 / 18446744073709551616 := ⟨_, rfl⟩
    have hc : allT [decide (s0 / 18446744073709551616 ≤ 1), decide (s1 / 18446744073709551616 ≤ 1), decide (s2 / 18446744073709551616 ≤ 1)] := by
      intro b hb
      simp only [List.mem_cons, List.not_mem_nil, or_false] at hb
      rcases hb with rfl | rfl | rfl <;> (rw [decide_eq_true_iff]; omega)
    obtain ⟨m1, m2⟩ := carry4 ea eb hs0 hs1 hs2 hs3
    have hent := VEnt.tup2 (UEnt.of (ent_fe m1)) (UEnt.refl (.one (.int .u64 (s3 / 18446744073709551616))))
    rw [m2, ← plusS_eq, ← plusC_eq] at hent
    refine runs_ev (mkok (.cons ok_Add64 .nil)) (n := 200) (bs0 := []) (v0 := .tup [.ag (.ps [.int .u64 (s0 % 18446744073709551616), .int .u64 (s1 % 18446744073709551616), .int .u64 (s2 % 18446744073709551616), .int .u64 (s3 % 18446744073709551616)]),
            .one (.int .u64 (s3 / 18446744073709551616))]) (.trans (?_ : _ = chks [decide (s0 / 18446744073709551616 ≤ 1), decide (s1 / 18446744073709551616 ≤ 1), decide (s2 / 18446744073709551616 ≤ 1)] _) (chks_true hc)) (by rw [m2, ← plusC_eq]; exact hent) trivial
    subst hs3 hs2 hs1 hs0
    kernel_rfl
  · cases hF
end Go.Proofs.Yteohgdpkdbckoaa

/-
  Contracts of the program's field of 2^255 - 19: sums.
-/
namespace Go.Proofs.Yteohgdpkdbckoaa
open Go Vx Go.RowKit

abbrev ti64 : Ty := .one (.int .i64)
abbrev tbool : Ty := .one .bool
abbrev vi64 (n : Int) : V := .u (.one (.int .i64 n))
abbrev vbool' (b : Bool) : V := .u (.one (.bool b))

theorem borrow4 {a b : Nat} {a0 a1 a2 a3 b0 b1 b2 b3 : Nat}
    (ea : a = a0 + 18446744073709551616 * a1 + 340282366920938463463374607431768211456 * a2 + 6277101735386680763835789423207666416102355444464034512896 * a3)
    (eb : b = b0 + 18446744073709551616 * b1 + 340282366920938463463374607431768211456 * b2 + 6277101735386680763835789423207666416102355444464034512896 * b3)
    (ha : a0 < 18446744073709551616 ∧ a1 < 18446744073709551616 ∧ a2 < 18446744073709551616 ∧ a3 < 18446744073709551616)
    (hb : b0 < 18446744073709551616 ∧ b1 < 18446744073709551616 ∧ b2 < 18446744073709551616 ∧ b3 < 18446744073709551616) {c1 c2 c3 c4 : Int}
    (h1 : c1 = if (a0 : Int) < (b0 : Int) + 0 then 1 else 0) (h2 : c2 = if (a1 : Int) < (b1 : Int) + c1 then 1 else 0)
    (h3 : c3 = if (a2 : Int) < (b2 : Int) + c2 then 1 else 0) (h4 : c4 = if (a3 : Int) < (b3 : Int) + c3 then 1 else 0) :
    (((a0 : Int) - b0 - 0) % 18446744073709551616).toNat + 2 ^ 64 * ((((a1 : Int) - b1 - c1) % 18446744073709551616).toNat + 2 ^ 64 * ((((a2 : Int) - b2 - c2) % 18446744073709551616).toNat +
      2 ^ 64 * ((((a3 : Int) - b3 - c3) % 18446744073709551616).toNat + 2 ^ 64 * 0))) = (a + 115792089237316195423570985008687907853269984665640564039457584007913129639936 - b) % 115792089237316195423570985008687907853269984665640564039457584007913129639936 ∧
    c4 = bif decide (a < b) then 1 else 0 := by
  have k1 : c1 = 0 ∨ c1 = 1 := by rw [h1]; split <;> omega
  have k2 : c2 = 0 ∨ c2 = 1 := by rw [h2]; split <;> omega
  have k3 : c3 = 0 ∨ c3 = 1 := by rw [h3]; split <;> omega
  have k4 : c4 = 0 ∨ c4 = 1 := by rw [h4]; split <;> omega
  have step : ∀ (x y : Nat) (c d : Int), x < 18446744073709551616 → y < 18446744073709551616 → (c = 0 ∨ c = 1) → d = (if (x : Int) < (y : Int) + c then 1 else 0) →
      ∃ r : Nat, ((x : Int) - y - c) % 18446744073709551616 = r ∧ (x : Int) - y - c + 18446744073709551616 * d = r ∧ r < 18446744073709551616 := by
    intro x y c d hx hy hc hd
    refine ⟨(((x : Int) - y - c) % 18446744073709551616).toNat, by omega, ?_, by omega⟩
    rw [hd]
    split <;> omega
  obtain ⟨r0, e0, f0, g0⟩ := step a0 b0 0 c1 ha.1 hb.1 (.inl rfl) h1
  obtain ⟨r1, e1, f1, g1⟩ := step a1 b1 c1 c2 ha.2.1 hb.2.1 k1 h2
  obtain ⟨r2, e2, f2, g2⟩ := step a2 b2 c2 c3 ha.2.2.1 hb.2.2.1 k2 h3
  obtain ⟨r3, e3, f3, g3⟩ := step a3 b3 c3 c4 ha.2.2.2 hb.2.2.2 k3 h4
  rw [e0, e1, e2, e3]
  simp only [Int.toNat_natCast, Nat.reducePow]
  clear e0 e1 e2 e3 h1 h2 h3 h4 k1 k2 k3 step
  have hlt : r0 + 18446744073709551616 * (r1 + 18446744073709551616 * (r2 + 18446744073709551616 * (r3 + 18446744073709551616 * 0))) < 115792089237316195423570985008687907853269984665640564039457584007913129639936 := by omega
  have hbl : b < 115792089237316195423570985008687907853269984665640564039457584007913129639936 := by clear f0 f1 f2 f3 k4; omega
  have hal : a < 115792089237316195423570985008687907853269984665640564039457584007913129639936 := by clear f0 f1 f2 f3 k4; omega
  clear ha hb
  have hsum : (a : Int) - b + 115792089237316195423570985008687907853269984665640564039457584007913129639936 * c4 = ((r0 + 18446744073709551616 * (r1 + 18446744073709551616 * (r2 + 18446744073709551616 * (r3 + 18446744073709551616 * 0))) : Nat) : Int) := by omega
  clear f0 f1 f2 f3 ea eb
  generalize r0 + 18446744073709551616 * (r1 + 18446744073709551616 * (r2 + 18446744073709551616 * (r3 + 18446744073709551616 * 0))) = R at *
  rcases k4 with rfl | rfl
  · have h : ¬ a < b := by omega
    rw [decide_eq_false h]
    refine ⟨?_, rfl⟩
    have : a + 115792089237316195423570985008687907853269984665640564039457584007913129639936 - b = R + 115792089237316195423570985008687907853269984665640564039457584007913129639936 := by omega
    rw [this, Nat.add_mod_right, Nat.mod_eq_of_lt hlt]
  · have h : a < b := by omega
    rw [decide_eq_true h]
    refine ⟨?_, rfl⟩
    have : a + 115792089237316195423570985008687907853269984665640564039457584007913129639936 - b = R := by omega
    rw [this, Nat.mod_eq_of_lt hlt]

noncomputable def sMinusF : List D → Option (List Bool × V)
  | [.n a, .n b] => some ([], .tup [.ag (.ps [.pk .u64 64 4 (minusS a b)]), .one (.int .u64 (bif minusB a b then 1 else 0))])
  | _ => none
noncomputable def sMinus : FSpec := spec [tfe, tfe] sMinusF
noncomputable abbrev tabMinus : List (FuncId × FSpec) := [(88, sSub64)]
set_option maxRecDepth 100000 in
theorem tabokMinus : TabOK Try.prog (tabOf tabMinus) := (.cons ok_Sub64 .nil)
set_option maxRecDepth 100000 in
theorem ok_Minus : FnOK Try.prog 69 sMinus := by
  refine fn_flat (cx := mkcx tabMinus) (c := bodyOf Try.f69) Try.func69 (by kernel_rfl) (by kernel_rfl) rfl ?_
  intro ds chk v vs hF ht he hr base
  unfold sMinusF at hF
  split at hF
  · rename_i a b
    cases hF
    have hvs : vs = [vfe a, vfe b] := by simp only [encA, encV, encP, encL, Option.some.injEq] at he; exact he.symm
    subst hvs
    obtain ⟨h1, h2, _⟩ := hr
    obtain ⟨ea, a0, a1, a2, a3⟩ := digits4 (rng_fe h1)
    obtain ⟨eb, b0, b1, b2, b3⟩ := digits4 (rng_fe h2)
    obtain ⟨c1, hc1⟩ : ∃ c : Int, c = if (digit 64 a 0 : Int) < (digit 64 b 0 : Int) + 0 then 1 else 0 := ⟨_, rfl⟩
    obtain ⟨c2, hc2⟩ : ∃ c : Int, c = if (digit 64 a 1 : Int) < (digit 64 b 1 : Int) + c1 then 1 else 0 := ⟨_, rfl⟩
    obtain ⟨c3, hc3⟩ : ∃ c : Int, c = if (digit 64 a 2 : Int) < (digit 64 b 2 : Int) + c2 then 1 else 0 := ⟨_, rfl⟩
    obtain ⟨c4, hc4⟩ : ∃ c : Int, c = if (digit 64 a 3 : Int) < (digit 64 b 3 : Int) + c3 then 1 else 0 := ⟨_, rfl⟩
    have hc : allT [decide (c1 ≤ 1), decide (c2 ≤ 1), decide (c3 ≤ 1)] := by
      intro b hb
      simp only [List.mem_cons, List.not_mem_nil, or_false] at hb
      rcases hb with rfl | rfl | rfl <;> rw [decide_eq_true_iff]
      · rw [hc1]; split <;> omega
      · rw [hc2]; split <;> omega
      · rw [hc3]; split <;> omega
    obtain ⟨m1, m2⟩ := borrow4 ea eb ⟨a0, a1, a2, a3⟩ ⟨b0, b1, b2, b3⟩ hc1 hc2 hc3 hc4
    have hent := VEnt.tup2 (UEnt.of (ent_fe m1)) (UEnt.refl (.one (.int .u64 c4)))
    rw [m2, ← minusS_eq, ← minusB_eq] at hent
    refine runs_ev (mkok tabokMinus) (n := 200) (bs0 := []) (v0 := .tup [.ag (.ps [.int .u64 (((digit 64 a 0 : Int) - digit 64 b 0 - 0) % 18446744073709551616), .int .u64 (((digit 64 a 1 : Int) - digit 64 b 1 - c1) % 18446744073709551616),
        .int .u64 (((digit 64 a 2 : Int) - digit 64 b 2 - c2) % 18446744073709551616), .int .u64 (((digit 64 a 3 : Int) - digit 64 b 3 - c3) % 18446744073709551616)]), .one (.int .u64 c4)])
      (.trans (?_ : _ = chks [decide (c1 ≤ 1), decide (c2 ≤ 1), decide (c3 ≤ 1)] _) (chks_true hc)) (by rw [m2, ← minusB_eq]; exact hent) trivial
    subst hc4 hc3 hc2 hc1
    kernel_rfl
  · cases hF

noncomputable def sPrimeF : List D → Option (List Bool × V)
  | [] => some ([], vfe pP)
  | _ => none
noncomputable def sPrime : FSpec := spec [] sPrimeF
noncomputable abbrev tabPrime : List (FuncId × FSpec) := []
set_option maxRecDepth 100000 in
theorem tabokPrime : TabOK Try.prog (tabOf tabPrime) := TabOK.nil
set_option maxRecDepth 100000 in
theorem ok_Prime : FnOK Try.prog 70 sPrime := by
  refine fn_flat (cx := mkcx tabPrime) (c := bodyOf Try.f70) Try.func70 (by kernel_rfl) (by kernel_rfl) rfl ?_
  intro ds chk v vs hF ht he hr base
  unfold sPrimeF at hF
  split at hF
  · cases hF
    have hvs : vs = [] := by simp only [encA, Option.some.injEq] at he; exact he.symm
    subst hvs
    refine runs_ev (mkok tabokPrime) (n := 200) (bs0 := []) (v0 := .ag (.ps [.int .u64 18446744073709551597, .int .u64 18446744073709551615, .int .u64 18446744073709551615, .int .u64 9223372036854775807])) (by kernel_rfl) (ent_fe ?_) trivial
    decide +kernel
  · cases hF

noncomputable def sLOfF : List D → Option (List Bool × V)
  | [.i n] => some ([], vfe n.toNat)
  | _ => none
noncomputable def sLOf : FSpec := spec [tu64] sLOfF
noncomputable abbrev tabLOf : List (FuncId × FSpec) := []
set_option maxRecDepth 100000 in
theorem tabokLOf : TabOK Try.prog (tabOf tabLOf) := TabOK.nil
set_option maxRecDepth 100000 in
theorem ok_LOf : FnOK Try.prog 33 sLOf := by
  refine fn_flat (cx := mkcx tabLOf) (c := bodyOf Try.f33) Try.func33 (by kernel_rfl) (by kernel_rfl) rfl ?_
  intro ds chk v vs hF ht he hr base
  unfold sLOfF at hF
  split at hF
  · rename_i n
    cases hF
    have hvs : vs = [vu64 n] := by simp only [encA, encV, encP, encL, Option.some.injEq] at he; exact he.symm
    subst hvs
    refine runs_ev (mkok tabokLOf) (n := 200) (bs0 := []) (v0 := .ag (.ps [.int .u64 n, .int .u64 0, .int .u64 0, .int .u64 0])) (by kernel_rfl) (ent_fe ?_) trivial
    simp
  · cases hF

theorem top19 (d : Nat) (hd : d < 18446744073709551616) : (((19 * ((d : Int) / 9223372036854775808)) % 18446744073709551616).toNat) = 19 * (d / 9223372036854775808) := by
  have e : ((d : Int) / 9223372036854775808) = ((d / 9223372036854775808 : Nat) : Int) := by simp
  have hq : d / 9223372036854775808 ≤ 1 := by
    have := Nat.div_lt_of_lt_mul (m := d) (n := 9223372036854775808) (k := 2) hd
    exact Nat.le_of_lt_succ this
  rw [e]
  generalize d / 9223372036854775808 = q at *
  clear e hd
  have : q = 0 ∨ q = 1 := by omega
  rcases this with rfl | rfl <;> decide

theorem canon_aux {a d0 d1 d2 d3 q r m : Nat} (ea : a = d0 + 18446744073709551616 * d1 + 340282366920938463463374607431768211456 * d2 + 6277101735386680763835789423207666416102355444464034512896 * d3)
    (a0 : d0 < 18446744073709551616) (a1 : d1 < 18446744073709551616) (a2 : d2 < 18446744073709551616) (hd : d3 = 9223372036854775808 * q + r) (hr : r < 9223372036854775808) (hq : q ≤ 1)
    (hm : m = (d0 + 18446744073709551616 * (d1 + 18446744073709551616 * (d2 + 18446744073709551616 * r)) + 19 * q) % 115792089237316195423570985008687907853269984665640564039457584007913129639936) :
    m % pP = a % pP ∧ m < 2 * pP ∧ m < 115792089237316195423570985008687907853269984665640564039457584007913129639936 := by
  have hx : d0 + 18446744073709551616 * (d1 + 18446744073709551616 * (d2 + 18446744073709551616 * r)) < 57896044618658097711785492504343953926634992332820282019728792003956564819968 := by omega
  rw [Nat.mod_eq_of_lt (by omega)] at hm
  unfold pP
  have ea' : a = m + 57896044618658097711785492504343953926634992332820282019728792003956564819949 * q := by omega
  refine ⟨?_, by omega, by omega⟩
  rw [ea', Nat.add_mul_mod_self_left]

theorem canon_eq {a : Nat} (h : a < 115792089237316195423570985008687907853269984665640564039457584007913129639936) {m : Nat} (hm : m = (((digit 64 a 0 : Nat) : Int).toNat + 2 ^ 64 * (((digit 64 a 1 : Nat) : Int).toNat + 2 ^ 64 * (((digit 64 a 2 : Nat) : Int).toNat +
      2 ^ 64 * (((((digit 64 a 3 : Nat) : Int).toNat &&& 9223372036854775807 : Nat) : Int).toNat + 2 ^ 64 * 0))) +
      ((wrapK .u64 (19 * (((digit 64 a 3 : Nat) : Int) / 9223372036854775808))).toNat + 2 ^ 64 * ((0 : Int).toNat + 2 ^ 64 * ((0 : Int).toNat + 2 ^ 64 * ((0 : Int).toNat + 2 ^ 64 * 0))))) % 115792089237316195423570985008687907853269984665640564039457584007913129639936) :
    m % pP = a % pP ∧ m < 2 * pP ∧ m < 115792089237316195423570985008687907853269984665640564039457584007913129639936 := by
  obtain ⟨ea, a0, a1, a2, a3⟩ := digits4 h
  have hand : ∀ n : Nat, n &&& 9223372036854775807 = n % 9223372036854775808 := fun n => Nat.and_two_pow_sub_one_eq_mod n 63
  simp only [Int.toNat_natCast, hand, wrapK, Nat.reducePow, Int.toNat_zero, Nat.mul_zero, Nat.add_zero] at hm
  rw [top19 _ a3] at hm
  generalize digit 64 a 0 = d0 at *
  generalize digit 64 a 1 = d1 at *
  generalize digit 64 a 2 = d2 at *
  generalize digit 64 a 3 = d3 at *
  obtain ⟨q, hq⟩ : ∃ q, q = d3 / 9223372036854775808 := ⟨_, rfl⟩
  obtain ⟨r, hr⟩ : ∃ r, r = d3 % 9223372036854775808 := ⟨_, rfl⟩
  rw [← hq, ← hr] at hm
  have h1 : d3 = 9223372036854775808 * q + r ∧ r < 9223372036854775808 ∧ q ≤ 1 := by clear hm ea hand h; omega
  exact canon_aux ea a0 a1 a2 h1.1 h1.2.1 h1.2.2 hm

theorem sub_mod {m : Nat} (h : m < 2 * pP) : (if m < pP then m else (m + 115792089237316195423570985008687907853269984665640564039457584007913129639936 - pP) % 115792089237316195423570985008687907853269984665640564039457584007913129639936) = m % pP := by
  unfold pP at *
  split
  · rename_i hlt
    rw [Nat.mod_eq_of_lt hlt]
  · omega

noncomputable def sCanonF : List D → Option (List Bool × V)
  | [.n a] => some ([], vfe (canP a))
  | _ => none
noncomputable def sCanon : FSpec := spec [tfe] sCanonF
noncomputable abbrev tabCanon : List (FuncId × FSpec) := [(68, sPlus), (69, sMinus), (70, sPrime)]
set_option maxRecDepth 100000 in
theorem tabokCanon : TabOK Try.prog (tabOf tabCanon) := (.cons ok_Plus (.cons ok_Minus (.cons ok_Prime .nil)))
set_option maxRecDepth 100000 in
theorem ok_Canon : FnOK Try.prog 64 sCanon := by
  refine fn_flat (cx := mkcx tabCanon) (c := bodyOf Try.f64) Try.func64 (by kernel_rfl) (by kernel_rfl) rfl ?_
  intro ds chk v vs hF ht he hr base
  unfold sCanonF at hF
  split at hF
  · rename_i a
    cases hF
    have hvs : vs = [vfe a] := by simp only [encA, encV, encP, encL, Option.some.injEq] at he; exact he.symm
    subst hvs
    obtain ⟨h1, _⟩ := hr
    obtain ⟨m, hm⟩ : ∃ m : Nat, m = plusS (((digit 64 a 0 : Nat) : Int).toNat + 2 ^ 64 * (((digit 64 a 1 : Nat) : Int).toNat + 2 ^ 64 * (((digit 64 a 2 : Nat) : Int).toNat +
          2 ^ 64 * (((((digit 64 a 3 : Nat) : Int).toNat &&& 9223372036854775807 : Nat) : Int).toNat + 2 ^ 64 * 0))))
          ((wrapK .u64 (19 * (((digit 64 a 3 : Nat) : Int) / 9223372036854775808))).toNat + 2 ^ 64 * ((0 : Int).toNat + 2 ^ 64 * ((0 : Int).toNat + 2 ^ 64 * ((0 : Int).toNat + 2 ^ 64 * 0)))) := ⟨_, rfl⟩
    obtain ⟨m1, m2, m3⟩ := canon_eq (rng_fe h1) (hm.trans (plusS_eq _ _))
    have hs := sub_mod m2
    rw [m1] at hs
    have hev : ev (mkcx tabCanon) 200 (bodyOf Try.f64) ⟨t0 Try.f64 [vfe a], []⟩ (kres (mkcx tabCanon) Try.f64 base) =
        bif decide ((bif minusB m pP then (1 : Int) else 0) = 0) then .done .ret ⟨[vfe (minusS m pP)], []⟩ else .done .ret ⟨[vfe m], []⟩ := by
      rw [hm]
      kernel_rfl
    rw [canP_eq]
    by_cases hlt : m < pP
    · rw [if_pos hlt] at hs
      refine runs_ev (mkok tabokCanon) (n := 200) (bs0 := []) (v0 := vfe m) (hev.trans ?_) (by rw [← hs]; exact VEnt.refl _) trivial
      rw [minusB_eq, decide_eq_true hlt]; rfl
    · rw [if_neg hlt, ← minusS_eq] at hs
      refine runs_ev (mkok tabokCanon) (n := 200) (bs0 := []) (v0 := vfe (minusS m pP)) (hev.trans ?_) (by rw [← hs]; exact VEnt.refl _) trivial
      rw [minusB_eq, decide_eq_false hlt]; rfl
  · cases hF
end Go.Proofs.Yteohgdpkdbckoaa

/-
  Contracts of the program's field of 2^255 - 19: sums and products.
-/
namespace Go.Proofs.Yteohgdpkdbckoaa
open Go Vx Go.RowKit

noncomputable def sSameF : List D → Option (List Bool × V)
  | [.n a, .n b] => some ([], .one (.bool (sameP a b)))
  | _ => none
noncomputable def sSame : FSpec := spec [tfe, tfe] sSameF
noncomputable abbrev tabSame : List (FuncId × FSpec) := [(64, sCanon)]
set_option maxRecDepth 100000 in
theorem tabokSame : TabOK Try.prog (tabOf tabSame) := (.cons ok_Canon .nil)
set_option maxRecDepth 100000 in
theorem ok_Same : FnOK Try.prog 41 sSame := by
  refine fn_flat (cx := mkcx tabSame) (c := bodyOf Try.f41) Try.func41 (by kernel_rfl) (by kernel_rfl) rfl ?_
  intro ds chk v vs hF ht he hr base
  unfold sSameF at hF
  split at hF
  · rename_i a b
    cases hF
    have hvs : vs = [vfe a, vfe b] := by simp only [encA, encV, encP, encL, Option.some.injEq] at he; exact he.symm
    subst hvs
    have e : sameP a b = decide (canP a = canP b) := by rw [sameP_eq, canP_eq, canP_eq]
    rw [e]
    exact runs_ev (mkok tabokSame) (n := 400) (bs0 := []) (by kernel_rfl) (VEnt.refl _) trivial
  · cases hF

noncomputable def sLOddF : List D → Option (List Bool × V)
  | [.n a] => some ([], .one (.bool (oddP a)))
  | _ => none
noncomputable def sLOdd : FSpec := spec [tfe] sLOddF
noncomputable abbrev tabLOdd : List (FuncId × FSpec) := [(64, sCanon)]
set_option maxRecDepth 100000 in
theorem tabokLOdd : TabOK Try.prog (tabOf tabLOdd) := (.cons ok_Canon .nil)
set_option maxRecDepth 100000 in
theorem ok_LOdd : FnOK Try.prog 32 sLOdd := by
  refine fn_flat (cx := mkcx tabLOdd) (c := bodyOf Try.f32) Try.func32 (by kernel_rfl) (by kernel_rfl) rfl ?_
  intro ds chk v vs hF ht he hr base
  unfold sLOddF at hF
  split at hF
  · rename_i a
    cases hF
    have hvs : vs = [vfe a] := by simp only [encA, encV, encP, encL, Option.some.injEq] at he; exact he.symm
    subst hvs
    rw [oddP_eq]
    have hd : (((digit 64 (canP a) 0 : Nat) : Int).toNat &&& 1) = a % pP % 2 := by
      have h1 : ∀ n : Nat, n &&& 1 = n % 2 := fun n => Nat.and_two_pow_sub_one_eq_mod n 1
      rw [Int.toNat_natCast, h1]
      simp only [digit, Nat.mul_zero, Nat.pow_zero, Nat.div_one, canP_eq]
      exact Nat.mod_mod_of_dvd _ (by decide)
    have he : (((((digit 64 (canP a) 0 : Nat) : Int).toNat &&& 1 : Nat) : Int) = 1) = (a % pP % 2 = 1) := by
      rw [hd]; exact propext ⟨fun h => by omega, fun h => by omega⟩
    refine runs_ev (mkok tabokLOdd) (n := 200) (bs0 := []) (v0 := .one (.bool (decide (((((digit 64 (canP a) 0 : Nat) : Int).toNat &&& 1 : Nat) : Int) = 1)))) (by kernel_rfl) ?_ trivial
    rw [show decide (((((digit 64 (canP a) 0 : Nat) : Int).toNat &&& 1 : Nat) : Int) = 1) = decide (a % pP % 2 = 1) by simp only [he]]
    exact VEnt.refl _
  · cases hF

def stFold (a : Nat) (c : Int) (z : List L) : St := ⟨[.junk, vu64 c, .one (.ptr 0 0), .junk, .one (.ptr 1 0), .junk, .junk, .junk, .junk, .junk, .junk, .junk, .junk, .junk, .junk, .junk, .junk],
  [some ⟨56, .ps [.pk .u64 64 4 a]⟩, some ⟨56, .ps z⟩]⟩
def z4 : List L := [.int .u64 0, .int .u64 0, .int .u64 0, .int .u64 0]
def muFold (a : Nat) (c : Int) : Nat := 2 * c.toNat + if 115792089237316195423570985008687907853269984665640564039457584007913129639898 ≤ a then 1 else 0

theorem w38 {c : Int} (h0 : 0 ≤ c) (h1 : c < 288230376151711744) :
    (wrapK .u64 (38 * c)).toNat + 2 ^ 64 * ((0 : Int).toNat + 2 ^ 64 * ((0 : Int).toNat + 2 ^ 64 * ((0 : Int).toNat + 2 ^ 64 * 0))) = 38 * c.toNat := by
  have e : wrapK .u64 (38 * c) = 38 * c := by
    simp only [wrapK]
    exact Int.emod_eq_of_lt (by omega) (by omega)
  rw [e]
  simp only [Int.toNat_zero, Nat.mul_zero, Nat.add_zero]
  omega

theorem fold_step {a : Nat} {c : Int} (ha : a < 115792089237316195423570985008687907853269984665640564039457584007913129639936) (h0 : 0 < c) (h1 : c < 288230376151711744) {n2 : Nat} (hn : n2 = 38 * c.toNat) :
    (((a + n2) / 115792089237316195423570985008687907853269984665640564039457584007913129639936 : Nat) : Int) ≤ 1 ∧ ((a + n2) % 115792089237316195423570985008687907853269984665640564039457584007913129639936 + ((((a + n2) / 115792089237316195423570985008687907853269984665640564039457584007913129639936 : Nat) : Int)).toNat * 115792089237316195423570985008687907853269984665640564039457584007913129639936) % pP = (a + c.toNat * 115792089237316195423570985008687907853269984665640564039457584007913129639936) % pP ∧
      muFold ((a + n2) % 115792089237316195423570985008687907853269984665640564039457584007913129639936) (((a + n2) / 115792089237316195423570985008687907853269984665640564039457584007913129639936 : Nat) : Int) < muFold a c := by
  obtain ⟨q, hq⟩ : ∃ q, q = (a + n2) / 115792089237316195423570985008687907853269984665640564039457584007913129639936 := ⟨_, rfl⟩
  obtain ⟨r, hr⟩ : ∃ r, r = (a + n2) % 115792089237316195423570985008687907853269984665640564039457584007913129639936 := ⟨_, rfl⟩
  have hqr : a + n2 = 115792089237316195423570985008687907853269984665640564039457584007913129639936 * q + r := by rw [hq, hr]; exact (Nat.div_add_mod _ _).symm
  have hrl : r < 115792089237316195423570985008687907853269984665640564039457584007913129639936 := by rw [hr]; exact Nat.mod_lt _ (by omega)
  rw [← hq, ← hr]
  clear hq hr
  obtain ⟨C, rfl⟩ := Int.eq_ofNat_of_zero_le (Int.le_of_lt h0)
  simp only [Int.toNat_natCast] at *
  have hq1 : q ≤ 1 := by omega
  refine ⟨by omega, ?_, ?_⟩
  · have e : a + C * 115792089237316195423570985008687907853269984665640564039457584007913129639936 = (r + q * 115792089237316195423570985008687907853269984665640564039457584007913129639936) + pP * (2 * C) := by
      unfold pP; omega
    rw [e, Nat.add_mul_mod_self_left]
  · unfold muFold
    simp only [Int.toNat_natCast]
    have : q = 0 ∨ q = 1 := by omega
    rcases this with rfl | rfl
    · split <;> split <;> omega
    · split <;> split <;> omega

noncomputable def sFoldF : List D → Option (List Bool × V)
  | [.n a, .i c] => some ([small58 c], vfe (foldP a c))
  | _ => none
noncomputable def sFold : FSpec := spec [tfe, tu64] sFoldF
noncomputable abbrev tabFold : List (FuncId × FSpec) := [(68, sPlus), (64, sCanon)]
set_option maxRecDepth 100000 in
theorem tabokFold : TabOK Try.prog (tabOf tabFold) := (.cons ok_Plus (.cons ok_Canon .nil))
set_option maxRecDepth 100000 in
theorem ok_Fold : FnOK Try.prog 67 sFold := by
  refine fn_flat (cx := mkcx tabFold) (c := bodyOf Try.f67) Try.func67 (by kernel_rfl) (by kernel_rfl) rfl ?_
  intro ds chk v vs hF ht he hr base
  unfold sFoldF at hF
  split at hF
  · rename_i a c
    cases hF
    have hvs : vs = [vfe a, vu64 c] := by simp only [encA, encV, encP, encL, Option.some.injEq] at he; exact he.symm
    subst hvs
    have hc : c < 288230376151711744 := of_decide_eq_true (by rw [← small58_eq]; exact ht _ (by simp))
    obtain ⟨h1, h2, _⟩ := hr
    have ha := rng_fe h1
    have hc0 := (rng_u64 h2).1
    clear h1 h2 ht
    refine Runs.items _ _ _ (RunsL.pre (mkok tabokFold) (n := 100) (k := 1) (kt := [1, 2, 4]) (kh := [0, 1]) (m := 2) (e := .normal) (st' := stFold a c z4) (by kernel_rfl) ?_)
    refine RunsL.loop (id := 0) (by kernel_rfl) (fun m s => ∃ a' c', s = stFold a' c' z4 ∧ a' < 115792089237316195423570985008687907853269984665640564039457584007913129639936 ∧ 0 ≤ c' ∧ c' < 288230376151711744 ∧ (a' + c'.toNat * 115792089237316195423570985008687907853269984665640564039457584007913129639936) % pP = (a + c.toNat * 115792089237316195423570985008687907853269984665640564039457584007913129639936) % pP ∧ m = muFold a' c')
      (muFold a c) ⟨a, c, rfl, ha, hc0, hc, rfl, rfl⟩ ?_
    rintro m s ⟨a', c', rfl, ha', hc0', hc', heq, rfl⟩
    obtain ⟨n2, hn2⟩ : ∃ n2 : Nat, n2 = (wrapK .u64 (38 * c')).toNat + 2 ^ 64 * ((0 : Int).toNat + 2 ^ 64 * ((0 : Int).toNat + 2 ^ 64 * ((0 : Int).toNat + 2 ^ 64 * 0))) := ⟨_, rfl⟩
    have hev : evL (mkcx tabFold) 100 (items (loopAt (bodyOf Try.f67) 1)) (stFold a' c' z4) (kfg 0 [1, 2, 4] [0, 1] 2) =
        bif decide (0 < c') then .done .normal (stFold (plusS a' n2) (plusC a' n2 : Int) z4) else .done (.exit 0) (stFold a' c' z4) := by
      rw [hn2]
      kernel_rfl
    by_cases h : 0 < c'
    · refine RunsL.all (mkok tabokFold) (hev.trans (by rw [decide_eq_true h]; rfl)) ?_
      have hn : n2 = 38 * c'.toNat := hn2.trans (w38 hc0' hc')
      obtain ⟨e1, e2, e3⟩ := fold_step ha' h hc' hn
      rw [← plusS_eq, ← plusC_eq] at e2 e3
      rw [← plusC_eq] at e1
      exact ⟨_, e3, _, _, rfl, by rw [plusS_eq]; exact Nat.mod_lt _ (by decide), Int.natCast_nonneg _, Int.lt_of_le_of_lt e1 (by decide), e2.trans heq, rfl⟩
    · have hz : c' = 0 := Int.le_antisymm (Int.not_lt.1 h) hc0'
      subst hz
      refine RunsL.all (mkok tabokFold) (hev.trans (by rfl)) ?_
      have hm : canP a' = foldP a c := by rw [canP_eq, foldP_eq, ← heq]; simp
      refine runsL_ev (mkok tabokFold) (n := 100) (bs0 := []) (v0 := vfe (canP a')) (by kernel_rfl) (by rw [hm]; exact VEnt.refl _) trivial
  · cases hF
end Go.Proofs.Yteohgdpkdbckoaa

/-
  Contracts of the program's field of 2^255 - 19: sums and products.
-/
namespace Go.Proofs.Yteohgdpkdbckoaa
open Go Vx Go.RowKit

noncomputable def sLAddF : List D → Option (List Bool × V)
  | [.n a, .n b] => some ([], vfe (addP a b))
  | _ => none
noncomputable def sLAdd : FSpec := spec [tfe, tfe] sLAddF
noncomputable abbrev tabLAdd : List (FuncId × FSpec) := [(68, sPlus), (67, sFold)]
set_option maxRecDepth 100000 in
theorem tabokLAdd : TabOK Try.prog (tabOf tabLAdd) := (.cons ok_Plus (.cons ok_Fold .nil))
set_option maxRecDepth 100000 in
theorem ok_LAdd : FnOK Try.prog 36 sLAdd := by
  refine fn_flat (cx := mkcx tabLAdd) (c := bodyOf Try.f36) Try.func36 (by kernel_rfl) (by kernel_rfl) rfl ?_
  intro ds chk v vs hF ht he hr base
  unfold sLAddF at hF
  split at hF
  · rename_i a b
    cases hF
    have hvs : vs = [vfe a, vfe b] := by simp only [encA, encV, encP, encL, Option.some.injEq] at he; exact he.symm
    subst hvs
    obtain ⟨h1, h2, _⟩ := hr
    have ha := rng_fe h1
    have hb := rng_fe h2
    have hq1 : plusC a b ≤ 1 := by
      rw [plusC_eq]
      exact Nat.le_of_lt_succ (Nat.div_lt_of_lt_mul (by omega))
    have hc : allT [small58 (plusC a b : Int)] := allT1 (by rw [small58_eq, decide_eq_true_iff]; omega)
    have hm : foldP (plusS a b) (plusC a b : Int) = addP a b := by
      rw [foldP_eq, plusS_eq, plusC_eq, addP_eq, Int.toNat_natCast, Nat.mul_comm, Nat.mod_add_div]
    rw [← hm]
    exact runs_ev (mkok tabokLAdd) (n := 100) (bs0 := []) (v0 := vfe (foldP (plusS a b) (plusC a b : Int))) (.trans (by kernel_rfl : _ = chks [small58 (plusC a b : Int)] _) (chks_true hc)) (VEnt.refl _) trivial
  · cases hF

noncomputable def sLNegF : List D → Option (List Bool × V)
  | [.n a] => some ([], vfe (negP a))
  | _ => none
noncomputable def sLNeg : FSpec := spec [tfe] sLNegF
noncomputable abbrev tabLNeg : List (FuncId × FSpec) := [(69, sMinus), (70, sPrime), (64, sCanon)]
set_option maxRecDepth 100000 in
theorem tabokLNeg : TabOK Try.prog (tabOf tabLNeg) := (.cons ok_Minus (.cons ok_Prime (.cons ok_Canon .nil)))
set_option maxRecDepth 100000 in
theorem ok_LNeg : FnOK Try.prog 37 sLNeg := by
  refine fn_flat (cx := mkcx tabLNeg) (c := bodyOf Try.f37) Try.func37 (by kernel_rfl) (by kernel_rfl) rfl ?_
  intro ds chk v vs hF ht he hr base
  unfold sLNegF at hF
  split at hF
  · rename_i a
    cases hF
    have hvs : vs = [vfe a] := by simp only [encA, encV, encP, encL, Option.some.injEq] at he; exact he.symm
    subst hvs
    have hm : canP (minusS pP (canP a)) = negP a := by
      rw [canP_eq, minusS_eq, canP_eq, negP_eq]
      have : a % pP < pP := Nat.mod_lt _ (by decide)
      congr 1
      unfold pP at *
      omega
    rw [← hm]
    exact runs_ev (mkok tabokLNeg) (n := 100) (bs0 := []) (by kernel_rfl) (VEnt.refl _) trivial
  · cases hF

noncomputable def sLSubF : List D → Option (List Bool × V)
  | [.n a, .n b] => some ([], vfe (subP a b))
  | _ => none
noncomputable def sLSub : FSpec := spec [tfe, tfe] sLSubF
noncomputable abbrev tabLSub : List (FuncId × FSpec) := [(36, sLAdd), (37, sLNeg)]
set_option maxRecDepth 100000 in
theorem tabokLSub : TabOK Try.prog (tabOf tabLSub) := (.cons ok_LAdd (.cons ok_LNeg .nil))
set_option maxRecDepth 100000 in
theorem ok_LSub : FnOK Try.prog 35 sLSub := by
  refine fn_flat (cx := mkcx tabLSub) (c := bodyOf Try.f35) Try.func35 (by kernel_rfl) (by kernel_rfl) rfl ?_
  intro ds chk v vs hF ht he hr base
  unfold sLSubF at hF
  split at hF
  · rename_i a b
    cases hF
    have hvs : vs = [vfe a, vfe b] := by simp only [encA, encV, encP, encL, Option.some.injEq] at he; exact he.symm
    subst hvs
    rw [← subP_add]
    exact runs_ev (mkok tabokLSub) (n := 100) (bs0 := []) (by kernel_rfl) (VEnt.refl _) trivial
  · cases hF

noncomputable def sLAbsF : List D → Option (List Bool × V)
  | [.n a] => some ([], vfe (absP a))
  | _ => none
noncomputable def sLAbs : FSpec := spec [tfe] sLAbsF
noncomputable abbrev tabLAbs : List (FuncId × FSpec) := [(32, sLOdd), (37, sLNeg), (64, sCanon)]
set_option maxRecDepth 100000 in
theorem tabokLAbs : TabOK Try.prog (tabOf tabLAbs) := (.cons ok_LOdd (.cons ok_LNeg (.cons ok_Canon .nil)))
set_option maxRecDepth 100000 in
theorem ok_LAbs : FnOK Try.prog 40 sLAbs := by
  refine fn_flat (cx := mkcx tabLAbs) (c := bodyOf Try.f40) Try.func40 (by kernel_rfl) (by kernel_rfl) rfl ?_
  intro ds chk v vs hF ht he hr base
  unfold sLAbsF at hF
  split at hF
  · rename_i a
    cases hF
    have hvs : vs = [vfe a] := by simp only [encA, encV, encP, encL, Option.some.injEq] at he; exact he.symm
    subst hvs
    have hev : ev (mkcx tabLAbs) 100 (bodyOf Try.f40) ⟨t0 Try.f40 [vfe a], []⟩ (kres (mkcx tabLAbs) Try.f40 base) =
        bif oddP a then .done .ret ⟨[vfe (negP a)], []⟩ else .done .ret ⟨[vfe (canP a)], []⟩ := by kernel_rfl
    have e : absP a = if oddP a = true then negP a else canP a := by rw [absP_eq, oddP_eq, negP_eq, canP_eq]; simp only [decide_eq_true_iff]
    rw [e]
    cases h : oddP a with
    | true => exact runs_ev (mkok tabokLAbs) (n := 100) (bs0 := []) (hev.trans (by rw [h]; rfl)) (VEnt.refl _) trivial
    | false => exact runs_ev (mkok tabokLAbs) (n := 100) (bs0 := []) (hev.trans (by rw [h]; rfl)) (VEnt.refl _) trivial
  · cases hF

/-- One step of a product: a word, and what is carried. -/
def mS (x y s c : Int) : Int := (s + (x * y % 18446744073709551616 + c + 0) % 18446744073709551616 + 0) % 18446744073709551616
def mC (x y s c : Int) : Int := wrapK .u64 (wrapK .u64 (x * y / 18446744073709551616 + (x * y % 18446744073709551616 + c + 0) / 18446744073709551616) +
  (s + (x * y % 18446744073709551616 + c + 0) % 18446744073709551616 + 0) / 18446744073709551616)

def W (x : Int) : Prop := 0 ≤ x ∧ x < 18446744073709551616

theorem mstep {x y s c : Int} (hx : W x) (hy : W y) (hs : W s) (hc : W c) : mS x y s c + 18446744073709551616 * mC x y s c = s + x * y + c ∧ W (mS x y s c) ∧ W (mC x y s c) := by
  have hp : 0 ≤ x * y ∧ x * y ≤ 340282366920938463426481119284349108225 := by
    refine ⟨Int.mul_nonneg hx.1 hy.1, ?_⟩
    calc x * y ≤ 18446744073709551615 * y := Int.mul_le_mul_of_nonneg_right (by have := hx.2; omega) hy.1
      _ ≤ 18446744073709551615 * 18446744073709551615 := Int.mul_le_mul_of_nonneg_left (by have := hy.2; omega) (by omega)
  unfold mS mC
  generalize x * y = P at *
  obtain ⟨h, hh⟩ : ∃ h, h = P / 18446744073709551616 := ⟨_, rfl⟩
  obtain ⟨l, hl⟩ : ∃ l, l = P % 18446744073709551616 := ⟨_, rfl⟩
  have e1 : P = 18446744073709551616 * h + l ∧ 0 ≤ l ∧ l < 18446744073709551616 ∧ 0 ≤ h ∧ h ≤ 18446744073709551614 := by omega
  rw [← hh, ← hl]
  clear hh hl
  obtain ⟨q1, hq1⟩ : ∃ h, h = (l + c + 0) / 18446744073709551616 := ⟨_, rfl⟩
  obtain ⟨r1, hr1⟩ : ∃ h, h = (l + c + 0) % 18446744073709551616 := ⟨_, rfl⟩
  have e2 : l + c = 18446744073709551616 * q1 + r1 ∧ 0 ≤ r1 ∧ r1 < 18446744073709551616 ∧ 0 ≤ q1 ∧ q1 ≤ 1 := by obtain ⟨_, _⟩ := hc; omega
  rw [← hq1, ← hr1]
  clear hq1 hr1
  obtain ⟨q2, hq2⟩ : ∃ h, h = (s + r1 + 0) / 18446744073709551616 := ⟨_, rfl⟩
  obtain ⟨r2, hr2⟩ : ∃ h, h = (s + r1 + 0) % 18446744073709551616 := ⟨_, rfl⟩
  have e3 : s + r1 = 18446744073709551616 * q2 + r2 ∧ 0 ≤ r2 ∧ r2 < 18446744073709551616 ∧ 0 ≤ q2 ∧ q2 ≤ 1 := by obtain ⟨_, _⟩ := hs; omega
  rw [← hq2, ← hr2]
  clear hq2 hr2
  have tot : 18446744073709551616 * (h + q1 + q2) + r2 = s + P + c := by omega
  have hlt : h + q1 + q2 < 18446744073709551616 := by
    obtain ⟨_, _⟩ := hs
    obtain ⟨_, _⟩ := hc
    omega
  have w1 : wrapK .u64 (h + q1) = h + q1 := by simp only [wrapK]; exact Int.emod_eq_of_lt (by omega) (by omega)
  have w2 : wrapK .u64 (h + q1 + q2) = h + q1 + q2 := by simp only [wrapK]; exact Int.emod_eq_of_lt (by omega) hlt
  rw [w1, w2]
  exact ⟨by omega, ⟨e3.2.1, e3.2.2.1⟩, ⟨by omega, hlt⟩⟩

structure Row where
  s0 : Int
  s1 : Int
  s2 : Int
  s3 : Int
  c : Int

def mrow (x b0 b1 b2 b3 s0 s1 s2 s3 : Int) : Row :=
  let c1 := mC x b0 s0 0
  let c2 := mC x b1 s1 c1
  let c3 := mC x b2 s2 c2
  ⟨mS x b0 s0 0, mS x b1 s1 c1, mS x b2 s2 c2, mS x b3 s3 c3, mC x b3 s3 c3⟩

theorem mrow_eq {x b0 b1 b2 b3 s0 s1 s2 s3 : Int} (hx : W x) (h0 : W b0) (h1 : W b1) (h2 : W b2) (h3 : W b3) (k0 : W s0) (k1 : W s1) (k2 : W s2) (k3 : W s3) :
    let r := mrow x b0 b1 b2 b3 s0 s1 s2 s3
    r.s0 + 18446744073709551616 * r.s1 + 340282366920938463463374607431768211456 * r.s2 + 6277101735386680763835789423207666416102355444464034512896 * r.s3 + 115792089237316195423570985008687907853269984665640564039457584007913129639936 * r.c =
      s0 + 18446744073709551616 * s1 + 340282366920938463463374607431768211456 * s2 + 6277101735386680763835789423207666416102355444464034512896 * s3 +
      x * (b0 + 18446744073709551616 * b1 + 340282366920938463463374607431768211456 * b2 + 6277101735386680763835789423207666416102355444464034512896 * b3) ∧
    W r.s0 ∧ W r.s1 ∧ W r.s2 ∧ W r.s3 ∧ W r.c := by
  intro r
  obtain ⟨e0, w0, v0⟩ := mstep hx h0 k0 (show W 0 by unfold W; omega)
  obtain ⟨e1, w1, v1⟩ := mstep hx h1 k1 v0
  obtain ⟨e2, w2, v2⟩ := mstep hx h2 k2 v1
  obtain ⟨e3, w3, v3⟩ := mstep hx h3 k3 v2
  refine ⟨?_, w0, w1, w2, w3, v3⟩
  show mS x b0 s0 0 + 18446744073709551616 * mS x b1 s1 (mC x b0 s0 0) + 340282366920938463463374607431768211456 * mS x b2 s2 (mC x b1 s1 (mC x b0 s0 0)) +
    6277101735386680763835789423207666416102355444464034512896 * mS x b3 s3 (mC x b2 s2 (mC x b1 s1 (mC x b0 s0 0))) + 115792089237316195423570985008687907853269984665640564039457584007913129639936 * mC x b3 s3 (mC x b2 s2 (mC x b1 s1 (mC x b0 s0 0))) = _
  generalize mC x b3 s3 (mC x b2 s2 (mC x b1 s1 (mC x b0 s0 0))) = c4 at *
  generalize mS x b3 s3 (mC x b2 s2 (mC x b1 s1 (mC x b0 s0 0))) = t3 at *
  generalize mC x b2 s2 (mC x b1 s1 (mC x b0 s0 0)) = c3 at *
  generalize mS x b2 s2 (mC x b1 s1 (mC x b0 s0 0)) = t2 at *
  generalize mC x b1 s1 (mC x b0 s0 0) = c2 at *
  generalize mS x b1 s1 (mC x b0 s0 0) = t1 at *
  generalize mC x b0 s0 0 = c1 at *
  generalize mS x b0 s0 0 = t0 at *
  have hd : x * (b0 + 18446744073709551616 * b1 + 340282366920938463463374607431768211456 * b2 + 6277101735386680763835789423207666416102355444464034512896 * b3) =
      x * b0 + 18446744073709551616 * (x * b1) + 340282366920938463463374607431768211456 * (x * b2) + 6277101735386680763835789423207666416102355444464034512896 * (x * b3) := by
    simp only [Int.mul_add, Int.mul_left_comm x]
  rw [hd]
  generalize x * b0 = p0 at *
  generalize x * b1 = p1 at *
  generalize x * b2 = p2 at *
  generalize x * b3 = p3 at *
  clear w0 w1 w2 w3 v0 v1 v2 v3 hd hx h0 h1 h2 h3 k0 k1 k2 k3
  omega
end Go.Proofs.Yteohgdpkdbckoaa

/-
  Contracts of the program's field of 2^255 - 19: products.
-/
namespace Go.Proofs.Yteohgdpkdbckoaa
open Go Vx Go.RowKit

theorem W0 : W 0 := by unfold W; omega
theorem W38 : W 38 := by unfold W; omega

theorem mul_eq {a b : Nat} (ha : a < 115792089237316195423570985008687907853269984665640564039457584007913129639936) (hb : b < 115792089237316195423570985008687907853269984665640564039457584007913129639936) {r0 r1 r2 r3 : Row}
    (h0 : r0 = mrow (digit 64 a 0) (digit 64 b 0) (digit 64 b 1) (digit 64 b 2) (digit 64 b 3) 0 0 0 0)
    (h1 : r1 = mrow (digit 64 a 1) (digit 64 b 0) (digit 64 b 1) (digit 64 b 2) (digit 64 b 3) r0.s1 r0.s2 r0.s3 r0.c)
    (h2 : r2 = mrow (digit 64 a 2) (digit 64 b 0) (digit 64 b 1) (digit 64 b 2) (digit 64 b 3) r1.s1 r1.s2 r1.s3 r1.c)
    (h3 : r3 = mrow (digit 64 a 3) (digit 64 b 0) (digit 64 b 1) (digit 64 b 2) (digit 64 b 3) r2.s1 r2.s2 r2.s3 r2.c) {f1 f2 f3 f4 : Int}
    (g1 : f1 = mC r3.s1 38 r0.s0 0) (g2 : f2 = mC r3.s2 38 r1.s0 f1) (g3 : f3 = mC r3.s3 38 r2.s0 f2) (g4 : f4 = mC r3.c 38 r3.s0 f3) :
    f4 < 288230376151711744 ∧ foldP ((mS r3.s1 38 r0.s0 0).toNat + 2 ^ 64 * ((mS r3.s2 38 r1.s0 f1).toNat + 2 ^ 64 * ((mS r3.s3 38 r2.s0 f2).toNat + 2 ^ 64 * ((mS r3.c 38 r3.s0 f3).toNat + 2 ^ 64 * 0)))) f4 = mulP a b := by
  obtain ⟨ea, a0, a1, a2, a3⟩ := digits4 ha
  obtain ⟨eb, b0, b1, b2, b3⟩ := digits4 hb
  have wd : ∀ n : Nat, n < 18446744073709551616 → W (n : Int) := by intro n hn; unfold W; omega
  have hbI : (b : Int) = (digit 64 b 0 : Int) + 18446744073709551616 * (digit 64 b 1 : Int) + 340282366920938463463374607431768211456 * (digit 64 b 2 : Int) + 6277101735386680763835789423207666416102355444464034512896 * (digit 64 b 3 : Int) := by clear ea h0 h1 h2 h3; omega
  have haI : (a : Int) = (digit 64 a 0 : Int) + 18446744073709551616 * (digit 64 a 1 : Int) + 340282366920938463463374607431768211456 * (digit 64 a 2 : Int) + 6277101735386680763835789423207666416102355444464034512896 * (digit 64 a 3 : Int) := by clear eb h0 h1 h2 h3; omega
  have m0 := mrow_eq (wd _ a0) (wd _ b0) (wd _ b1) (wd _ b2) (wd _ b3) W0 W0 W0 W0
  rw [← h0] at m0
  obtain ⟨e0, p0, p1, p2, p3, p4⟩ := m0
  have m1 := mrow_eq (wd _ a1) (wd _ b0) (wd _ b1) (wd _ b2) (wd _ b3) p1 p2 p3 p4
  rw [← h1] at m1
  obtain ⟨e1, q0, q1, q2, q3, q4⟩ := m1
  have m2 := mrow_eq (wd _ a2) (wd _ b0) (wd _ b1) (wd _ b2) (wd _ b3) q1 q2 q3 q4
  rw [← h2] at m2
  obtain ⟨e2, t0, t1, t2, t3, t4⟩ := m2
  have m3 := mrow_eq (wd _ a3) (wd _ b0) (wd _ b1) (wd _ b2) (wd _ b3) t1 t2 t3 t4
  rw [← h3] at m3
  obtain ⟨e3, u0, u1, u2, u3, u4⟩ := m3
  rw [← hbI] at e0 e1 e2 e3
  obtain ⟨k1, v1, x1⟩ := mstep u1 W38 p0 W0
  obtain ⟨k2, v2, x2⟩ := mstep u2 W38 q0 x1
  rw [← g1] at k1 k2 x1 x2 v2
  obtain ⟨k3, v3, x3⟩ := mstep u3 W38 t0 x2
  rw [← g2] at k2 k3 x2 x3 v3
  obtain ⟨k4, v4, x4⟩ := mstep u4 W38 u0 x3
  rw [← g3] at k3 k4 x3 x4 v4
  rw [← g4] at k4 x4
  clear h0 h1 h2 h3 g1 g2 g3 g4 wd hbI ea eb a0 a1 a2 a3 b0 b1 b2 b3
  generalize mS r3.s1 38 r0.s0 0 = z0 at *
  generalize mS r3.s2 38 r1.s0 f1 = z1 at *
  generalize mS r3.s3 38 r2.s0 f2 = z2 at *
  generalize mS r3.c 38 r3.s0 f3 = z3 at *
  have hprod : (a : Int) * b = (digit 64 a 0 : Int) * b + 18446744073709551616 * ((digit 64 a 1 : Int) * b) + 340282366920938463463374607431768211456 * ((digit 64 a 2 : Int) * b) + 6277101735386680763835789423207666416102355444464034512896 * ((digit 64 a 3 : Int) * b) := by
    rw [haI]
    simp only [Int.add_mul, Int.mul_assoc]
  generalize (digit 64 a 0 : Int) * b = y0 at *
  generalize (digit 64 a 1 : Int) * b = y1 at *
  generalize (digit 64 a 2 : Int) * b = y2 at *
  generalize (digit 64 a 3 : Int) * b = y3 at *
  obtain ⟨Pab, hP⟩ : ∃ p : Nat, p = a * b := ⟨_, rfl⟩
  have hPI : (Pab : Int) = (a : Int) * b := by rw [hP]; simp
  rw [← hPI] at hprod
  have hfold : ((z0 + 18446744073709551616 * z1 + 340282366920938463463374607431768211456 * z2 + 6277101735386680763835789423207666416102355444464034512896 * z3) : Int) + 115792089237316195423570985008687907853269984665640564039457584007913129639936 * f4 +
      57896044618658097711785492504343953926634992332820282019728792003956564819949 * (2 * (r3.s1 + 18446744073709551616 * r3.s2 + 340282366920938463463374607431768211456 * r3.s3 + 6277101735386680763835789423207666416102355444464034512896 * r3.c)) = Pab := by
    clear p0 p1 p2 p3 p4 q0 q1 q2 q3 q4 t0 t1 t2 t3 t4 u0 u1 u2 u3 u4 v1 v2 v3 v4 x1 x2 x3 x4 hPI haI
    omega
  have hf4 : f4 < 288230376151711744 := by
    clear hfold hprod e0 e1 e2 e3 k1 k2 k3 hPI haI p0 p1 p2 p3 p4 q0 q1 q2 q3 q4 t0 t1 t2 t3 t4 u1 u2 u3 v1 v2 v3 x1 x2
    unfold W at *
    omega
  refine ⟨hf4, ?_⟩
  rw [foldP_eq, mulP_eq, ← hP]
  obtain ⟨Z0, rfl⟩ := Int.eq_ofNat_of_zero_le v1.1
  obtain ⟨Z1, rfl⟩ := Int.eq_ofNat_of_zero_le v2.1
  obtain ⟨Z2, rfl⟩ := Int.eq_ofNat_of_zero_le v3.1
  obtain ⟨Z3, rfl⟩ := Int.eq_ofNat_of_zero_le v4.1
  obtain ⟨F4, rfl⟩ := Int.eq_ofNat_of_zero_le x4.1
  obtain ⟨q, hq⟩ := Int.eq_ofNat_of_zero_le (show 0 ≤ r3.s1 + 18446744073709551616 * r3.s2 + 340282366920938463463374607431768211456 * r3.s3 + 6277101735386680763835789423207666416102355444464034512896 * r3.c by
    have := u1.1; have := u2.1; have := u3.1; have := u4.1; clear hfold hprod e0 e1 e2 e3 k1 k2 k3 k4 hPI haI; omega)
  rw [hq] at hfold
  simp only [Int.toNat_natCast, Nat.reducePow]
  have hN : Pab = (Z0 + 18446744073709551616 * (Z1 + 18446744073709551616 * (Z2 + 18446744073709551616 * (Z3 + 18446744073709551616 * 0))) + F4 * 115792089237316195423570985008687907853269984665640564039457584007913129639936) + pP * (2 * q) := by
    clear hq hprod e0 e1 e2 e3 k1 k2 k3 k4 hPI haI p0 p1 p2 p3 p4 q0 q1 q2 q3 q4 t0 t1 t2 t3 t4 u0 u1 u2 u3 u4 v1 v2 v3 v4 x1 x2 x3 x4 hf4
    unfold pP
    omega
  rw [hN, Nat.add_mul_mod_self_left]

noncomputable def sLMulF : List D → Option (List Bool × V)
  | [.n a, .n b] => some ([], vfe (mulP a b))
  | _ => none
noncomputable def sLMul : FSpec := spec [tfe, tfe] sLMulF
noncomputable abbrev tabLMul : List (FuncId × FSpec) := [(65, sMul64), (66, sAdd64), (67, sFold)]
set_option maxRecDepth 100000 in
theorem tabokLMul : TabOK Try.prog (tabOf tabLMul) := (.cons ok_Mul64 (.cons ok_Add64 (.cons ok_Fold .nil)))
set_option maxRecDepth 100000 in
theorem ok_LMul : FnOK Try.prog 34 sLMul := by
  refine fn_flat (cx := mkcx tabLMul) (c := bodyOf Try.f34) Try.func34 (by kernel_rfl) (by kernel_rfl) rfl ?_
  intro ds chk v vs hF ht he hr base
  unfold sLMulF at hF
  split at hF
  · rename_i a b
    cases hF
    have hvs : vs = [vfe a, vfe b] := by simp only [encA, encV, encP, encL, Option.some.injEq] at he; exact he.symm
    subst hvs
    obtain ⟨h1, h2, _⟩ := hr
    have ha := rng_fe h1
    have hb := rng_fe h2
    obtain ⟨r0, hr0⟩ : ∃ r, r = mrow (digit 64 a 0) (digit 64 b 0) (digit 64 b 1) (digit 64 b 2) (digit 64 b 3) 0 0 0 0 := ⟨_, rfl⟩
    obtain ⟨r1, hr1⟩ : ∃ r, r = mrow (digit 64 a 1) (digit 64 b 0) (digit 64 b 1) (digit 64 b 2) (digit 64 b 3) r0.s1 r0.s2 r0.s3 r0.c := ⟨_, rfl⟩
    obtain ⟨r2, hr2⟩ : ∃ r, r = mrow (digit 64 a 2) (digit 64 b 0) (digit 64 b 1) (digit 64 b 2) (digit 64 b 3) r1.s1 r1.s2 r1.s3 r1.c := ⟨_, rfl⟩
    obtain ⟨r3, hr3⟩ : ∃ r, r = mrow (digit 64 a 3) (digit 64 b 0) (digit 64 b 1) (digit 64 b 2) (digit 64 b 3) r2.s1 r2.s2 r2.s3 r2.c := ⟨_, rfl⟩
    obtain ⟨f1, hf1⟩ : ∃ f, f = mC r3.s1 38 r0.s0 0 := ⟨_, rfl⟩
    obtain ⟨f2, hf2⟩ : ∃ f, f = mC r3.s2 38 r1.s0 f1 := ⟨_, rfl⟩
    obtain ⟨f3, hf3⟩ : ∃ f, f = mC r3.s3 38 r2.s0 f2 := ⟨_, rfl⟩
    obtain ⟨f4, hf4⟩ : ∃ f, f = mC r3.c 38 r3.s0 f3 := ⟨_, rfl⟩
    obtain ⟨e1, e2⟩ := mul_eq ha hb hr0 hr1 hr2 hr3 hf1 hf2 hf3 hf4
    rw [← e2]
    refine runs_ev (mkok tabokLMul) (n := 400) (bs0 := []) (v0 := vfe (foldP ((mS r3.s1 38 r0.s0 0).toNat + 2 ^ 64 * ((mS r3.s2 38 r1.s0 f1).toNat + 2 ^ 64 * ((mS r3.s3 38 r2.s0 f2).toNat + 2 ^ 64 * ((mS r3.c 38 r3.s0 f3).toNat + 2 ^ 64 * 0)))) f4))
      (.trans (?_ : _ = chks [small58 f4] _) (chks_true (allT1 (by rw [small58_eq, decide_eq_true_iff]; exact e1)))) (VEnt.refl _) trivial
    subst hf4 hf3 hf2 hf1 hr3 hr2 hr1 hr0
    kernel_rfl
  · cases hF
end Go.Proofs.Yteohgdpkdbckoaa

/-
  Contracts of the program's field of 2^255 - 19: powers, roots, bytes.
-/
namespace Go.Proofs.Yteohgdpkdbckoaa
open Go Vx Go.RowKit

abbrev tb32 : Ty := .ag [.pk .u8 8 32]
abbrev vb32 (n : Nat) : V := .pk .u8 8 32 n

theorem or_add {x y k : Nat} (h : x < 2 ^ k) : x ||| (2 ^ k * y) = x + 2 ^ k * y := by
  rw [Nat.or_comm, ← Nat.two_pow_add_eq_or_of_lt h, Nat.add_comm]

theorem down_eq {a : Nat} (ha : a < 115792089237316195423570985008687907853269984665640564039457584007913129639936) (n : Nat) (hn : n = 2 ∨ n = 3) {r : Nat → Int → Int}
    (hr : ∀ (i : Nat) (w : Int), r i w = (((((digit 64 a i : Nat) : Int) / ((2 ^ n : Nat) : Int)).toNat ||| (wrapK .u64 (w * ((2 ^ (64 - n) : Nat) : Int))).toNat : Nat) : Int)) :
    (r 0 (digit 64 a 1 : Int)).toNat + 2 ^ 64 * ((r 1 (digit 64 a 2 : Int)).toNat + 2 ^ 64 * ((r 2 (digit 64 a 3 : Int)).toNat + 2 ^ 64 * ((r 3 0).toNat + 2 ^ 64 * 0))) = a / 2 ^ n := by
  obtain ⟨ea, a0, a1, a2, a3⟩ := digits4 ha
  have key : ∀ (d w : Nat), d < 18446744073709551616 → w < 18446744073709551616 →
      (((((d : Nat) : Int) / ((2 ^ n : Nat) : Int)).toNat ||| (wrapK .u64 ((w : Int) * ((2 ^ (64 - n) : Nat) : Int))).toNat : Nat) : Int).toNat = d / 2 ^ n + 2 ^ (64 - n) * (w % 2 ^ n) := by
    intro d w hd hw
    rw [Int.toNat_natCast]
    have e1 : (((d : Nat) : Int) / ((2 ^ n : Nat) : Int)).toNat = d / 2 ^ n := by
      rw [← Int.natCast_ediv, Int.toNat_natCast]
    have e2 : (wrapK .u64 ((w : Int) * ((2 ^ (64 - n) : Nat) : Int))).toNat = 2 ^ (64 - n) * (w % 2 ^ n) := by
      simp only [wrapK]
      have : ((w : Int) * ((2 ^ (64 - n) : Nat) : Int)) % 18446744073709551616 = ((w * 2 ^ (64 - n) % 18446744073709551616 : Nat) : Int) := by simp
      rw [this, Int.toNat_natCast]
      have hp : 18446744073709551616 = 2 ^ (64 - n) * 2 ^ n := by rw [← Nat.pow_add]; rcases hn with rfl | rfl <;> rfl
      rw [hp, Nat.mul_comm w, Nat.mul_mod_mul_left]
    rw [e1, e2, or_add]
    rcases hn with rfl | rfl <;> (simp only [Nat.reducePow, Nat.reduceSub]; clear e1 e2 hr ea; omega)
  have k0 := key _ _ a0 a1
  have k1 := key _ _ a1 a2
  have k2 := key _ _ a2 a3
  have k3 := key _ 0 a3 (by decide)
  rw [hr, hr, hr, hr, k0, k1, k2]
  rw [show ((0 : Int)) = ((0 : Nat) : Int) from rfl, k3]
  clear key hr k0 k1 k2 k3
  generalize digit 64 a 0 = d0 at *
  generalize digit 64 a 1 = d1 at *
  generalize digit 64 a 2 = d2 at *
  generalize digit 64 a 3 = d3 at *
  rcases hn with rfl | rfl
  · simp only [Nat.reducePow, Nat.reduceSub]; omega
  · simp only [Nat.reducePow, Nat.reduceSub]; omega

theorem bit_eq {e j : Nat} (hj : j < 256) : decide ((((((digit 64 e (0 + ((j : Int).tdiv 64).toNat) : Nat) : Int) / ((2 ^ min ((j : Int).tmod 64).toNat IntKind.u64.bits : Nat) : Int)).toNat &&& 1 : Nat) : Int) = 1) = decide (e / 2 ^ j % 2 = 1) := by
  have h1 : ((j : Int).tdiv 64).toNat = j / 64 := by
    rw [Int.tdiv_eq_ediv_of_nonneg (by omega)]; omega
  have h2 : min ((j : Int).tmod 64).toNat IntKind.u64.bits = j % 64 := by
    rw [Int.tmod_eq_emod_of_nonneg (by omega)]
    show min ((j : Int) % 64).toNat 64 = j % 64
    omega
  have h3 : ∀ n : Nat, n &&& 1 = n % 2 := fun n => Nat.and_two_pow_sub_one_eq_mod n 1
  have _ := hj
  rw [h1, h2, h3, ← Int.natCast_ediv, Int.toNat_natCast, Nat.zero_add]
  unfold digit
  have e1 : e / 2 ^ (64 * (j / 64)) % 2 ^ 64 / 2 ^ (j % 64) % 2 = e / 2 ^ j % 2 := by
    have hlt : j % 64 < 64 := Nat.mod_lt _ (by decide)
    have e2 : (2 : Nat) ^ 64 = 2 ^ (j % 64) * 2 ^ (64 - j % 64) := by rw [← Nat.pow_add]; congr 1; omega
    rw [e2, Nat.mod_mul_right_div_self, Nat.div_div_eq_div_mul, ← Nat.pow_add, Nat.div_add_mod]
    have e3 : (2 : Nat) ^ (64 - j % 64) = 2 * 2 ^ (63 - j % 64) := by rw [← Nat.pow_succ']; congr 1; omega
    rw [e3, Nat.mod_mul_right_mod]
  rw [e1]
  congr 1
  exact propext ⟨fun h => by omega, fun h => by omega⟩

theorem pow_step (a e j : Nat) {c : Nat} (hc : c = powP a (e / 2 ^ (j + 1))) : (bif decide (e / 2 ^ j % 2 = 1) then mulP (mulP c c) a else mulP c c) = powP a (e / 2 ^ j) := by
  have hd : e / 2 ^ j = 2 * (e / 2 ^ (j + 1)) + e / 2 ^ j % 2 := by
    rw [Nat.pow_succ, ← Nat.div_div_eq_div_mul]; omega
  rw [hc]
  generalize e / 2 ^ (j + 1) = q at *
  have hb : e / 2 ^ j % 2 = 0 ∨ e / 2 ^ j % 2 = 1 := by omega
  rcases hb with hb | hb
  · rw [hb] at hd
    rw [hb, hd]
    simp only [Nat.zero_ne_one, decide_false, cond_false, mulP_eq, powP_eq, Nat.add_zero]
    rw [← Nat.mul_mod, ← Nat.pow_add, Nat.two_mul]
  · rw [hb] at hd
    rw [hb, hd]
    simp only [decide_true, cond_true, mulP_eq, powP_eq]
    rw [Nat.mod_mul_mod, Nat.mul_mod, ← Nat.mul_mod (a ^ q), ← Nat.pow_add, ← Nat.two_mul, Nat.pow_succ]
    simp only [Nat.mod_mul_mod, Nat.mul_mod_mod]

def stPow (a e : Nat) (i : Int) (c : Nat) : St := ⟨[.junk, .junk, .one (.ptr 0 0), .one (.ptr 1 0), .one (.ptr 2 0), .one (.ptr 4 0), vi64 i, .junk, .junk, .junk, .junk, .junk, .junk, .junk, .junk, .junk, .junk, .junk, .junk, .junk, .junk, .junk, .junk, .junk, .junk, .junk, .junk, .junk],
  [some ⟨56, .ps [.pk .u64 64 4 a]⟩, some ⟨56, .ps [.pk .u64 64 4 e]⟩, some ⟨56, .ps z4⟩, none, some ⟨56, .ps [.pk .u64 64 4 c]⟩]⟩

theorem okI {n : Int} (h0 : -9223372036854775808 ≤ n) (h1 : n < 9223372036854775808) : okK .i64 n = true := by
  rw [okK_eq, inK_iff]
  simp only [IntKind.min, IntKind.max, IntKind.signed, IntKind.bits]
  simp
  omega

noncomputable def sLPowF : List D → Option (List Bool × V)
  | [.n a, .n e] => some ([], vfe (powP a e))
  | _ => none
noncomputable def sLPow : FSpec := spec [tfe, tfe] sLPowF
noncomputable abbrev tabLPow : List (FuncId × FSpec) := [(34, sLMul), (33, sLOf)]
set_option maxRecDepth 100000 in
theorem tabokLPow : TabOK Try.prog (tabOf tabLPow) := (.cons ok_LMul (.cons ok_LOf .nil))
set_option maxRecDepth 100000 in
theorem ok_LPow : FnOK Try.prog 71 sLPow := by
  refine fn_flat (cx := mkcs tabLPow) (c := bodyOf Try.f71) Try.func71 (by kernel_rfl) (by kernel_rfl) rfl ?_
  intro ds chk v vs hF ht he hr base
  unfold sLPowF at hF
  split at hF
  · rename_i a e
    cases hF
    have hvs : vs = [vfe a, vfe e] := by simp only [encA, encV, encP, encL, Option.some.injEq] at he; exact he.symm
    subst hvs
    obtain ⟨_, h2, _⟩ := hr
    have he2 := rng_fe h2
    refine Runs.items _ _ _ (RunsL.pre (mkoks tabokLPow) (n := 100) (k := 3) (kt := [2, 3, 4, 5, 6]) (kh := [0, 1, 2, 4]) (m := 5) (e := .normal) (st' := stPow a e 255 1) (by kernel_rfl) ?_)
    refine RunsL.loop (id := 0) (by kernel_rfl) (fun m s => ∃ c, s = stPow a e ((m : Int) - 1) c ∧ m ≤ 256 ∧ c = powP a (e / 2 ^ m)) 256 ⟨1, rfl, Nat.le_refl _, ?_⟩ ?_
    · rw [Nat.div_eq_of_lt (by simpa using he2), powP_eq, Nat.pow_zero]
      rfl
    rintro m s ⟨c, rfl, hm, hc⟩
    cases m with
    | zero =>
      refine RunsL.all (mkoks tabokLPow) (n := 100) (kt := [2, 3, 4, 5, 6]) (kh := [0, 1, 2, 4]) (m := 5) (e := .exit 0) (st' := stPow a e (-1) c) (by kernel_rfl) ?_
      have : powP a e = c := by rw [hc]; simp
      rw [this]
      exact runsL_ev (mkoks tabokLPow) (n := 100) (bs0 := []) (by kernel_rfl) (VEnt.refl _) trivial
    | succ j =>
      have hj : j < 256 := hm
      have hi : ((j + 1 : Nat) : Int) - 1 = (j : Int) := by omega
      rw [hi]
      have hev : evL (mkcs tabLPow) 100 (items (loopAt (bodyOf Try.f71) 3)) (stPow a e (j : Int) c) (kfg 0 [2, 3, 4, 5, 6] [0, 1, 2, 4] 5) =
          chks [okK .i64 ((j : Int).tdiv 64), decide ((j : Int).tdiv 64 < 4), decide (0 + ((j : Int).tdiv 64).toNat < 4)]
            (bif decide ((((((digit 64 e (0 + ((j : Int).tdiv 64).toNat) : Nat) : Int) / ((2 ^ min ((j : Int).tmod 64).toNat IntKind.u64.bits : Nat) : Int)).toNat &&& 1 : Nat) : Int) = 1) then
              chks [okK .i64 ((j : Int) - 1)] (.done .normal (stPow a e ((j : Int) - 1) (mulP (mulP c c) a)))
            else chks [okK .i64 ((j : Int) - 1)] (.done .normal (stPow a e ((j : Int) - 1) (mulP c c)))) := by kernel_rfl
      have hq : (j : Int).tdiv 64 = ((j / 64 : Nat) : Int) := by rw [Int.tdiv_eq_ediv_of_nonneg (by omega)]; simp
      have h4 : j / 64 < 4 := by omega
      have hc1 : allT [okK .i64 ((j : Int).tdiv 64), decide ((j : Int).tdiv 64 < 4), decide (0 + ((j : Int).tdiv 64).toNat < 4)] := by
        rw [hq]
        refine allTc (okI (by omega) (by omega)) (allTc (by rw [decide_eq_true_iff]; omega) (allT1 (by rw [decide_eq_true_iff]; omega)))
      have hc2 : allT [okK .i64 ((j : Int) - 1)] := allT1 (okI (by omega) (by omega))
      rw [chks_true hc1, chks_true hc2, chks_true hc2, bit_eq hj] at hev
      have hstep := pow_step a e j hc
      cases hb : decide (e / 2 ^ j % 2 = 1) with
      | true =>
        rw [hb] at hev hstep
        exact RunsL.all (mkoks tabokLPow) hev ⟨j, Nat.lt_succ_self j, _, rfl, Nat.le_of_lt hj, hstep⟩
      | false =>
        rw [hb] at hev hstep
        exact RunsL.all (mkoks tabokLPow) hev ⟨j, Nat.lt_succ_self j, _, rfl, Nat.le_of_lt hj, hstep⟩
  · cases hF
end Go.Proofs.Yteohgdpkdbckoaa

/-
  Contracts of the program's field of 2^255 - 19: roots, bytes.
-/
namespace Go.Proofs.Yteohgdpkdbckoaa
open Go Vx Go.RowKit

abbrev ufe (n : Nat) : U := .ag (.ps [.pk .u64 64 4 n])
abbrev ubool (b : Bool) : U := .one (.bool b)

noncomputable def sLDownF : List D → Option (List Bool × V)
  | [.n a, .i n] => some ([decide (n = 2 ∨ n = 3)], vfe (shrP a n.toNat))
  | _ => none
noncomputable def sLDown : FSpec := spec [tfe, ti64] sLDownF
noncomputable abbrev tabLDown : List (FuncId × FSpec) := []
set_option maxRecDepth 100000 in
theorem tabokLDown : TabOK Try.prog (tabOf tabLDown) := TabOK.nil
set_option maxRecDepth 100000 in
theorem ok_LDown : FnOK Try.prog 72 sLDown := by
  refine fn_flat (cx := mkcx tabLDown) (c := bodyOf Try.f72) Try.func72 (by kernel_rfl) (by kernel_rfl) rfl ?_
  intro ds chk v vs hF ht he hr base
  unfold sLDownF at hF
  split at hF
  · rename_i a n
    cases hF
    have hvs : vs = [vfe a, vi64 n] := by simp only [encA, encV, encP, encL, Option.some.injEq] at he; exact he.symm
    subst hvs
    have hc : n = 2 ∨ n = 3 := of_decide_eq_true (ht _ (by simp))
    obtain ⟨h1, _⟩ := hr
    have ha := rng_fe h1
    rw [shrP_eq]
    rcases hc with rfl | rfl
    · have hd := down_eq ha 2 (.inl rfl) (r := fun i w => (((((digit 64 a i : Nat) : Int) / ((2 ^ 2 : Nat) : Int)).toNat ||| (wrapK .u64 (w * ((2 ^ (64 - 2) : Nat) : Int))).toNat : Nat) : Int)) (fun _ _ => rfl)
      exact runs_ev (mkok tabokLDown) (n := 200) (bs0 := []) (by kernel_rfl) (ent_fe hd) trivial
    · have hd := down_eq ha 3 (.inr rfl) (r := fun i w => (((((digit 64 a i : Nat) : Int) / ((2 ^ 3 : Nat) : Int)).toNat ||| (wrapK .u64 (w * ((2 ^ (64 - 3) : Nat) : Int))).toNat : Nat) : Int)) (fun _ _ => rfl)
      exact runs_ev (mkok tabokLDown) (n := 200) (bs0 := []) (by kernel_rfl) (ent_fe hd) trivial
  · cases hF

noncomputable def sLInvF : List D → Option (List Bool × V)
  | [.n a] => some ([], vfe (invP a))
  | _ => none
noncomputable def sLInv : FSpec := spec [tfe] sLInvF
noncomputable abbrev tabLInv : List (FuncId × FSpec) := [(71, sLPow), (69, sMinus), (70, sPrime), (33, sLOf)]
set_option maxRecDepth 100000 in
theorem tabokLInv : TabOK Try.prog (tabOf tabLInv) := (.cons ok_LPow (.cons ok_Minus (.cons ok_Prime (.cons ok_LOf .nil))))
set_option maxRecDepth 100000 in
theorem ok_LInv : FnOK Try.prog 63 sLInv := by
  refine fn_flat (cx := mkcx tabLInv) (c := bodyOf Try.f63) Try.func63 (by kernel_rfl) (by kernel_rfl) rfl ?_
  intro ds chk v vs hF ht he hr base
  unfold sLInvF at hF
  split at hF
  · rename_i a
    cases hF
    have hvs : vs = [vfe a] := by simp only [encA, encV, encP, encL, Option.some.injEq] at he; exact he.symm
    subst hvs
    have e : powP a (minusS pP (2 : Int).toNat) = invP a := by
      rw [invP_eq, minusS_eq]
      have h : (pP + 115792089237316195423570985008687907853269984665640564039457584007913129639936 - (2 : Int).toNat) % 115792089237316195423570985008687907853269984665640564039457584007913129639936 = pP - 2 := by decide +kernel
      rw [h]
    rw [← e]
    exact runs_ev (mkok tabokLInv) (n := 200) (bs0 := []) (by kernel_rfl) (VEnt.refl _) trivial
  · cases hF

noncomputable def sLIF : List D → Option (List Bool × V)
  | [] => some ([], vfe iP)
  | _ => none
noncomputable def sLI : FSpec := spec [] sLIF
noncomputable abbrev tabLI : List (FuncId × FSpec) := [(71, sLPow), (72, sLDown), (70, sPrime), (33, sLOf)]
set_option maxRecDepth 100000 in
theorem tabokLI : TabOK Try.prog (tabOf tabLI) := (.cons ok_LPow (.cons ok_LDown (.cons ok_Prime (.cons ok_LOf .nil))))
set_option maxRecDepth 100000 in
theorem ok_LI : FnOK Try.prog 73 sLI := by
  refine fn_flat (cx := mkcx tabLI) (c := bodyOf Try.f73) Try.func73 (by kernel_rfl) (by kernel_rfl) rfl ?_
  intro ds chk v vs hF ht he hr base
  unfold sLIF at hF
  split at hF
  · cases hF
    have hvs : vs = [] := by simp only [encA, Option.some.injEq] at he; exact he.symm
    subst hvs
    rw [iP_eq]
    exact runs_ev (mkok tabokLI) (n := 200) (bs0 := []) (by kernel_rfl) (VEnt.refl _) trivial
  · cases hF

def outV (v : V) : Out := .done .ret ⟨[v], []⟩

def treeRoot (s1 s2 s3 : Bool) (x y : Nat) : Out :=
  bif s2 then (bif s1 then outV (.tup [ufe x, ubool true]) else outV (.tup [ufe x, ubool s2]))
  else bif s3 then (bif s1 then outV (.tup [ufe x, ubool true]) else outV (.tup [ufe x, ubool s2]))
  else (bif s1 then outV (.tup [ufe y, ubool true]) else outV (.tup [ufe y, ubool s2]))

theorem treeRoot_eq (s1 s2 s3 : Bool) (x y : Nat) : treeRoot s1 s2 s3 (absP x) (absP y) = outV (.tup [ufe (absP (bif s2 || s3 then x else y)), ubool (s1 || s2)]) := by
  cases s1 <;> cases s2 <;> cases s3 <;> rfl

noncomputable def sLRootF : List D → Option (List Bool × V)
  | [.n u, .n v] => some ([], .tup [ufe (rootR u v), ubool (rootB u v)])
  | _ => none
noncomputable def sLRoot : FSpec := spec [tfe, tfe] sLRootF
noncomputable abbrev tabLRoot : List (FuncId × FSpec) := [(34, sLMul), (71, sLPow), (72, sLDown), (37, sLNeg), (73, sLI), (40, sLAbs), (41, sSame), (70, sPrime)]
set_option maxRecDepth 100000 in
theorem tabokLRoot : TabOK Try.prog (tabOf tabLRoot) := (.cons ok_LMul (.cons ok_LPow (.cons ok_LDown (.cons ok_LNeg (.cons ok_LI (.cons ok_LAbs (.cons ok_Same (.cons ok_Prime .nil))))))))
set_option maxRecDepth 100000 in
theorem ok_LRoot : FnOK Try.prog 39 sLRoot := by
  refine fn_flat (cx := mkcx tabLRoot) (c := bodyOf Try.f39) Try.func39 (by kernel_rfl) (by kernel_rfl) rfl ?_
  intro ds chk v vs hF ht he hr base
  unfold sLRootF at hF
  split at hF
  · rename_i u v
    cases hF
    have hvs : vs = [vfe u, vfe v] := by simp only [encA, encV, encP, encL, Option.some.injEq] at he; exact he.symm
    subst hvs
    rw [rootR_eq, rootB_eq]
    refine runs_evS (mkok tabokLRoot) (n := 200) (bs0 := []) (h := Eq.trans (b := (fun r => (fun c => treeRoot (sameP c u) (sameP c (negP u)) (sameP c (negP (mulP u iP))) (absP (mulP r iP)) (absP r)) (mulP v (mulP r r))) (mulP (mulP u (mulP (mulP v v) v)) (powP (mulP u (mulP (mulP (mulP (mulP v v) v) (mulP (mulP v v) v)) v)) (shrP pP 3)))) (by kernel_rfl) (treeRoot_eq _ _ _ _ _)) (VEnt.refl _) trivial
  · cases hF
end Go.Proofs.Yteohgdpkdbckoaa
