/-
  Contracts of the program's lowest functions: sums and products of words.
-/
import Derived.Test.YtdkmcpbjicnfmaaX3
import Derived.Test.YtdkmcpbjicnfmaaU1
import Derived.Test.YtdkmcpbjicnfmaaProg
set_option maxRecDepth 100000
namespace Go.Proofs.Ytdkmcpbjicnfmaa
open Go Vx Go.RowKit

theorem mixed : Try.prog.follows .mixedOrders = true := by kernel_rfl

abbrev tu64 : Ty := .one (.int .u64)
abbrev tfe : Ty := .ag [.pk .u64 64 4]
abbrev vu64 (n : Int) : V := .u (.one (.int .u64 n))
abbrev vfe (n : Nat) : V := .pk .u64 64 4 n

noncomputable abbrev mkcx (l : List (FuncId × FSpec)) : Cx := { P := Try.prog, ro := 0, tab := tabOf l }
noncomputable abbrev mkcs (l : List (FuncId × FSpec)) : Cx := { P := Try.prog, ro := 0, sy := true, tab := tabOf l }
theorem mkoks {l : List (FuncId × FSpec)} (h : TabOK Try.prog (tabOf l)) : Ok (mkcs l) := ⟨h, fun _ _ h => (by cases h), fun _ _ _ _ _ h => (by cases h), mixed⟩

theorem mkok {l : List (FuncId × FSpec)} (h : TabOK Try.prog (tabOf l)) : Ok (mkcx l) := ⟨h, fun _ _ h => (by cases h), fun _ _ _ _ _ h => (by cases h), mixed⟩

noncomputable abbrev mkcf (sy rw : Bool) (l : List (FuncId × FSpec)) (il : List (FuncId × Func)) (js : List (FuncId × List V × Hp × V × Hp)) : Cx := { P := Try.prog, ro := 0, sy := sy, rw := rw, il := ilTab il, js := jsTab js, tab := tabOf l }
theorem mkokf {sy rw : Bool} {l : List (FuncId × FSpec)} {il : List (FuncId × Func)} {js : List (FuncId × List V × Hp × V × Hp)} (h : TabOK Try.prog (tabOf l)) (hi : IlOK Try.prog (ilTab il)) (hj : JsOK Try.prog 0 (jsTab js)) : Ok (mkcf sy rw l il js) := ⟨h, hi, hj, mixed⟩



theorem rng_u64 {n : Int} (h : rngV (vu64 n)) : 0 ≤ n ∧ n < 18446744073709551616 := by
 have : inK .u64 n = true := h
 simpa [inK] using this

def sSub64F : List D → Option (List Bool × V)
 | [.i x, .i y, .i c] => some ([decide (c ≤ 1)], .tup [.one (.int .u64 ((x - y - c) % 18446744073709551616)), .one (.int .u64 (if x < y + c then 1 else 0))])
 | _ => none
def sSub64 : FSpec := spec [tu64, tu64, tu64] sSub64F

def sub64Entry : Array Value → Sem Value := fun args => do
 let (x, y, b) ← Extern.MathBitsCarry.three "Sub64" args
 pure (Extern.MathBitsCarry.pair ((x + Extern.MathBitsCarry.m64 - y - b) % Extern.MathBitsCarry.m64) (if x < y + b then 1 else 0))

theorem run_sub64 {P : Program} (x y c : Int) (hx : 0 ≤ x) (hy : 0 ≤ y) (hy' : y < 18446744073709551616) (hc0 : 0 ≤ c) (hc : c ≤ 1) (w : World) :
 (sub64Entry #[.int .u64 x, .int .u64 y, .int .u64 c]).run P w =
  .ok (.tuple #[.int .u64 ((x - y - c) % 18446744073709551616), .int .u64 (if x < y + c then 1 else 0)]) w := by
 have key : ∀ k : Nat, k ≤ 1 → (sub64Entry #[.int .u64 x, .int .u64 y, .int .u64 (k : Int)]).run P w =
  .ok (Extern.MathBitsCarry.pair ((x.toNat + Extern.MathBitsCarry.m64 - y.toNat - k) % Extern.MathBitsCarry.m64) (if x.toNat < y.toNat + k then 1 else 0)) w := by
  intro k hk
  have : k = 0 ∨ k = 1 := by omega
  rcases this with rfl | rfl <;> rfl
 obtain ⟨k, rfl⟩ := Int.eq_ofNat_of_zero_le hc0
 rw [key k (by omega)]
 obtain ⟨X, rfl⟩ := Int.eq_ofNat_of_zero_le hx
 obtain ⟨Y, rfl⟩ := Int.eq_ofNat_of_zero_le hy
 simp only [Extern.MathBitsCarry.pair, Extern.MathBitsCarry.m64, Int.toNat_natCast]
 have e1 : (Int.ofNat ((X + 2 ^ 64 - Y - k) % 2 ^ 64)) = ((X : Int) - Y - k) % 18446744073709551616 := by
  show (((X + 2 ^ 64 - Y - k) % 2 ^ 64 : Nat) : Int) = _
  have h2 : (2 : Nat) ^ 64 = 18446744073709551616 := by decide
  rw [h2]
  omega
 have e2 : Int.ofNat (if X < Y + k then 1 else 0) = if (X : Int) < Y + k then 1 else 0 := by
  by_cases h : X < Y + k
  · rw [if_pos h, if_pos (by omega)]; rfl
  · rw [if_neg h, if_neg (by omega)]; rfl
 rw [e1, e2]

theorem ok_Sub64 : FnOK Try.prog 113 sSub64 := by
 refine fn_extern Try.func113 (by kernel_rfl) (by kernel_rfl) (by kernel_rfl) (e := sub64Entry) (by kernel_rfl) ?_
 intro ds chk v vs hF ht he hr σ w vals hv
 unfold sSub64F at hF
 split at hF
 · rename_i x y c
   cases hF
   have hvs : vs = [vu64 x, vu64 y, vu64 c] := by
    simp only [encA, encV, encP, encL, Option.some.injEq] at he; exact he.symm
   subst hvs
   obtain ⟨h1, h2, h3, _⟩ := hr
   have h1 := rng_u64 h1
   have h2 := rng_u64 h2
   have h3 := rng_u64 h3
   have hc : c ≤ 1 := of_decide_eq_true (ht _ (by simp))
   cases hv with
   | cons a1 hv => cases hv with
     | cons a2 hv => cases hv with
       | cons a3 hv =>
         cases hv
         obtain ⟨rfl, _⟩ := vint a1
         obtain ⟨rfl, _⟩ := vint a2
         obtain ⟨rfl, _⟩ := vint a3
         refine ⟨_, run_sub64 x y c h1.1 h2.1 h2.2 h3.1 hc w, rfl, ?_⟩
         refine ⟨_, rfl, .cons ⟨rfl, rfl, ?_⟩ (.cons ⟨rfl, rfl, ?_⟩ .nil)⟩
         · simp [inK]; omega
         · simp only [inK]; split <;> rfl
 · cases hF
end Go.Proofs.Ytdkmcpbjicnfmaa

/-
  Contracts of the program's lowest functions: words.
-/
namespace Go.Proofs.Ytdkmcpbjicnfmaa
open Go Vx Go.RowKit

theorem VEnt.dec {t : Ty} {v v' : V} {ds : List D} (h : decV t v = some ds) (he : encV t ds = some (v', [])) : VEnt v v' := by
 obtain ⟨v2, h1, _, h3⟩ := decV_sound h
 have := h1 []
 rw [List.append_nil, he] at this
 cases this
 exact h3

def UEnt (u u' : U) : Prop := ∀ σ x, URel σ u x → URel σ u' x
theorem UEnt.refl (u : U) : UEnt u u := fun _ _ h => h
theorem UEnt.of {u u' : U} (h : VEnt (.u u) (.u u')) : UEnt u u' := fun σ x hx => h σ x hx

theorem VEnt.tup2 {a b a' b' : U} (h1 : UEnt a a') (h2 : UEnt b b') : VEnt (.tup [a, b]) (.tup [a', b']) := by
 rintro σ x ⟨xs, e, hall⟩
 refine ⟨xs, e, ?_⟩
 cases hall with
 | cons ha hl => cases hl with
   | cons hb hl => cases hl; exact .cons (h1 _ _ ha) (.cons (h2 _ _ hb) .nil)

theorem ent_fe {c0 c1 c2 c3 : Int} {n : Nat} (h : c0.toNat + 2 ^ 64 * (c1.toNat + 2 ^ 64 * (c2.toNat + 2 ^ 64 * (c3.toNat + 2 ^ 64 * 0))) = n) :
 VEnt (.ag (.ps [.int .u64 c0, .int .u64 c1, .int .u64 c2, .int .u64 c3])) (vfe n) := by
 refine VEnt.dec (t := tfe) (ds := [.n n]) ?_ rfl
 rw [← h]
 rfl

theorem digits4 {n : Nat} (h : n < 115792089237316195423570985008687907853269984665640564039457584007913129639936) :
 n = digit 64 n 0 + 18446744073709551616 * digit 64 n 1 + 340282366920938463463374607431768211456 * digit 64 n 2 + 6277101735386680763835789423207666416102355444464034512896 * digit 64 n 3 ∧
 digit 64 n 0 < 18446744073709551616 ∧ digit 64 n 1 < 18446744073709551616 ∧ digit 64 n 2 < 18446744073709551616 ∧ digit 64 n 3 < 18446744073709551616 := by
 simp only [digit, Nat.reduceMul, Nat.reducePow, Nat.div_one]
 omega

theorem rng_fe {n : Nat} (h : rngV (vfe n)) : n < 115792089237316195423570985008687907853269984665640564039457584007913129639936 := by
 have := h.1
 simpa [rngL] using this
end Go.Proofs.Ytdkmcpbjicnfmaa

/-
  Contracts of the program's field of 2^255 - 19: sums.
-/
namespace Go.Proofs.Ytdkmcpbjicnfmaa
open Go Vx Go.RowKit

abbrev ti64 : Ty := .one (.int .i64)
abbrev vi64 (n : Int) : V := .u (.one (.int .i64 n))
abbrev vbool' (b : Bool) : V := .u (.one (.bool b))

theorem borrow4 {a b : Nat} {a0 a1 a2 a3 b0 b1 b2 b3 : Nat}
 (ea : a = a0 + 18446744073709551616 * a1 + 340282366920938463463374607431768211456 * a2 + 6277101735386680763835789423207666416102355444464034512896 * a3)
 (eb : b = b0 + 18446744073709551616 * b1 + 340282366920938463463374607431768211456 * b2 + 6277101735386680763835789423207666416102355444464034512896 * b3)
 (ha : a0 < 18446744073709551616 ∧ a1 < 18446744073709551616 ∧ a2 < 18446744073709551616 ∧ a3 < 18446744073709551616)
 (hb : b0 < 18446744073709551616 ∧ b1 < 18446744073709551616 ∧ b2 < 18446744073709551616 ∧ b3 < 18446744073709551616) {c1 c2 c3 c4 : Int}
 (h1 : c1 = if (a0 : Int) < (b0 : Int) + 0 then 1 else 0) (h2 : c2 = if (a1 : Int) < (b1 : Int) + c1 then 1 else 0)
 (h3 : c3 = if (a2 : Int) < (b2 : Int) + c2 then 1 else 0) (h4 : c4 = if (a3 : Int) < (b3 : Int) + c3 then 1 else 0) :
 (((a0 : Int) - b0 - 0) % 18446744073709551616).toNat + 2 ^ 64 * ((((a1 : Int) - b1 - c1) % 18446744073709551616).toNat + 2 ^ 64 * ((((a2 : Int) - b2 - c2) % 18446744073709551616).toNat +
   2 ^ 64 * ((((a3 : Int) - b3 - c3) % 18446744073709551616).toNat + 2 ^ 64 * 0))) = (a + 115792089237316195423570985008687907853269984665640564039457584007913129639936 - b) % 115792089237316195423570985008687907853269984665640564039457584007913129639936 ∧
 c4 = bif decide (a < b) then 1 else 0 := by
 have k1 : c1 = 0 ∨ c1 = 1 := by rw [h1]; split <;> omega
 have k2 : c2 = 0 ∨ c2 = 1 := by rw [h2]; split <;> omega
 have k3 : c3 = 0 ∨ c3 = 1 := by rw [h3]; split <;> omega
 have k4 : c4 = 0 ∨ c4 = 1 := by rw [h4]; split <;> omega
 have step : ∀ (x y : Nat) (c d : Int), x < 18446744073709551616 → y < 18446744073709551616 → (c = 0 ∨ c = 1) → d = (if (x : Int) < (y : Int) + c then 1 else 0) →
  ∃ r : Nat, ((x : Int) - y - c) % 18446744073709551616 = r ∧ (x : Int) - y - c + 18446744073709551616 * d = r ∧ r < 18446744073709551616 := by
  intro x y c d hx hy hc hd
  refine ⟨(((x : Int) - y - c) % 18446744073709551616).toNat, by omega, ?_, by omega⟩
  rw [hd]
  split <;> omega
 obtain ⟨r0, e0, f0, g0⟩ := step a0 b0 0 c1 ha.1 hb.1 (.inl rfl) h1
 obtain ⟨r1, e1, f1, g1⟩ := step a1 b1 c1 c2 ha.2.1 hb.2.1 k1 h2
 obtain ⟨r2, e2, f2, g2⟩ := step a2 b2 c2 c3 ha.2.2.1 hb.2.2.1 k2 h3
 obtain ⟨r3, e3, f3, g3⟩ := step a3 b3 c3 c4 ha.2.2.2 hb.2.2.2 k3 h4
 rw [e0, e1, e2, e3]
 simp only [Int.toNat_natCast, Nat.reducePow]
 clear e0 e1 e2 e3 h1 h2 h3 h4 k1 k2 k3 step
 have hlt : r0 + 18446744073709551616 * (r1 + 18446744073709551616 * (r2 + 18446744073709551616 * (r3 + 18446744073709551616 * 0))) < 115792089237316195423570985008687907853269984665640564039457584007913129639936 := by omega
 have hbl : b < 115792089237316195423570985008687907853269984665640564039457584007913129639936 := by clear f0 f1 f2 f3 k4; omega
 have hal : a < 115792089237316195423570985008687907853269984665640564039457584007913129639936 := by clear f0 f1 f2 f3 k4; omega
 clear ha hb
 have hsum : (a : Int) - b + 115792089237316195423570985008687907853269984665640564039457584007913129639936 * c4 = ((r0 + 18446744073709551616 * (r1 + 18446744073709551616 * (r2 + 18446744073709551616 * (r3 + 18446744073709551616 * 0))) : Nat) : Int) := by omega
 clear f0 f1 f2 f3 ea eb
 generalize r0 + 18446744073709551616 * (r1 + 18446744073709551616 * (r2 + 18446744073709551616 * (r3 + 18446744073709551616 * 0))) = R at *
 rcases k4 with rfl | rfl
 · have h : ¬ a < b := by omega
   rw [decide_eq_false h]
   refine ⟨?_, rfl⟩
   have : a + 115792089237316195423570985008687907853269984665640564039457584007913129639936 - b = R + 115792089237316195423570985008687907853269984665640564039457584007913129639936 := by omega
   rw [this, Nat.add_mod_right, Nat.mod_eq_of_lt hlt]
 · have h : a < b := by omega
   rw [decide_eq_true h]
   refine ⟨?_, rfl⟩
   have : a + 115792089237316195423570985008687907853269984665640564039457584007913129639936 - b = R := by omega
   rw [this, Nat.mod_eq_of_lt hlt]
end Go.Proofs.Ytdkmcpbjicnfmaa

/-
  Contracts of the program's field of 2^255 - 19: sums and products.
-/
namespace Go.Proofs.Ytdkmcpbjicnfmaa
open Go Vx Go.RowKit
end Go.Proofs.Ytdkmcpbjicnfmaa

/-
  Contracts of the program's field of 2^255 - 19: sums and products.
-/
namespace Go.Proofs.Ytdkmcpbjicnfmaa
open Go Vx Go.RowKit

def W (x : Int) : Prop := 0 ≤ x ∧ x < 18446744073709551616

structure Row where
 s0 : Int
 s1 : Int
 s2 : Int
 s3 : Int
 c : Int
end Go.Proofs.Ytdkmcpbjicnfmaa

/-
  Contracts of the program's field of 2^255 - 19: products.
-/
namespace Go.Proofs.Ytdkmcpbjicnfmaa
open Go Vx Go.RowKit
end Go.Proofs.Ytdkmcpbjicnfmaa

/-
  Contracts of the program's field of 2^255 - 19: powers, roots, bytes.
-/
namespace Go.Proofs.Ytdkmcpbjicnfmaa
open Go Vx Go.RowKit

abbrev tb32 : Ty := .ag [.pk .u8 8 32]
abbrev vb32 (n : Nat) : V := .pk .u8 8 32 n

theorem or_add {x y k : Nat} (h : x < 2 ^ k) : x ||| (2 ^ k * y) = x + 2 ^ k * y := by
 rw [Nat.or_comm, ← Nat.two_pow_add_eq_or_of_lt h, Nat.add_comm]

theorem okI {n : Int} (h0 : -9223372036854775808 ≤ n) (h1 : n < 9223372036854775808) : okK .i64 n = true := by
 rw [okK_eq, inK_iff]
 simp only [IntKind.min, IntKind.max, IntKind.signed, IntKind.bits]
 simp
 omega
end Go.Proofs.Ytdkmcpbjicnfmaa

/-
  Contracts of the program's field of 2^255 - 19: roots, bytes.
-/
namespace Go.Proofs.Ytdkmcpbjicnfmaa
open Go Vx Go.RowKit

def outV (v : V) : Out := .done .ret ⟨[v], []⟩
end Go.Proofs.Ytdkmcpbjicnfmaa
