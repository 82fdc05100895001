/-
  Contracts of the program's field of 2^255 - 19: bytes.
-/
import Derived.Test.YtdkmcpbjicnfmaaL1
import Derived.Test.YtdkmcpbjicnfmaaU1
namespace Go.Proofs.Ytdkmcpbjicnfmaa
open Go Vx Go.RowKit

def orw (b q : Nat) : Nat → Int
 | 0 => 0
 | r + 1 => (((orw b q r).toNat ||| (wrapK .u64 (wrapK .u64 ((digit 8 b (8 * q + r) : Nat) : Int) * ((2 ^ (8 * r) : Nat) : Int))).toNat : Nat) : Int)

theorem orw_eq (b q : Nat) : ∀ r, r ≤ 8 → orw b q r = ((b / 2 ^ (64 * q) % 2 ^ (8 * r) : Nat) : Int)
 | 0, _ => by simp [orw, Nat.mod_one]
 | r + 1, h => by
   have ih := orw_eq b q r (by omega)
   unfold orw
   rw [ih, Int.toNat_natCast]
   have hd : digit 8 b (8 * q + r) = b / 2 ^ (64 * q) / 2 ^ (8 * r) % 256 := by
    unfold digit
    rw [Nat.div_div_eq_div_mul, ← Nat.pow_add]
    congr 3
    omega
   rw [hd]
   generalize b / 2 ^ (64 * q) = c
   have e1 : wrapK .u64 ((c / 2 ^ (8 * r) % 256 : Nat) : Int) = ((c / 2 ^ (8 * r) % 256 : Nat) : Int) := by
    simp only [wrapK]
    have := Nat.mod_lt (c / 2 ^ (8 * r)) (show 256 > 0 by decide)
    omega
   have e2 : wrapK .u64 (((c / 2 ^ (8 * r) % 256 : Nat) : Int) * ((2 ^ (8 * r) : Nat) : Int)) = ((2 ^ (8 * r) * (c / 2 ^ (8 * r) % 256) : Nat) : Int) := by
    simp only [wrapK]
    have h1 : c / 2 ^ (8 * r) % 256 < 256 := Nat.mod_lt _ (by decide)
    have h2 : 2 ^ (8 * r) * (c / 2 ^ (8 * r) % 256) < 2 ^ 64 := by
     have : (2 : Nat) ^ 64 = 2 ^ (8 * r) * 2 ^ (64 - 8 * r) := by rw [← Nat.pow_add]; congr 1; omega
     rw [this]
     refine Nat.mul_lt_mul_of_pos_left (Nat.lt_of_lt_of_le h1 ?_) (Nat.two_pow_pos _)
     exact (Nat.pow_le_pow_right (by decide) (by omega) : (2 : Nat) ^ 8 ≤ 2 ^ (64 - 8 * r))
    rw [← Int.natCast_mul, Nat.mul_comm]
    have : ((2 : Nat) ^ 64 : Nat) = 18446744073709551616 := by decide
    omega
   rw [e1, e2, Int.toNat_natCast, or_add (Nat.mod_lt _ (Nat.two_pow_pos _))]
   congr 1
   rw [show 8 * (r + 1) = 8 * r + 8 from by omega, Nat.pow_add, Nat.mod_mul]

theorem orw_digit (b q : Nat) : orw b q 8 = ((digit 64 b q : Nat) : Int) := by
 rw [orw_eq b q 8 (Nat.le_refl _)]
 rfl

def packL (bits : Nat) : List Nat → Nat
 | [] => 0
 | d :: l => d + 2 ^ bits * packL bits l

theorem packL_digits (bits n : Nat) : ∀ cnt k, packL bits ((List.range' k cnt).map (digit bits n)) = n / 2 ^ (bits * k) % 2 ^ (bits * cnt)
 | 0, k => by simp [packL, Nat.mod_one]
 | cnt + 1, k => by
   rw [List.range'_succ, List.map_cons, packL, packL_digits bits n cnt (k + 1)]
   unfold digit
   rw [show bits * (k + 1) = bits * k + bits from by rw [Nat.mul_succ], Nat.pow_add, ← Nat.div_div_eq_div_mul, show bits * (cnt + 1) = bits + bits * cnt from by rw [Nat.mul_succ, Nat.add_comm], Nat.pow_add, Nat.mod_mul]

theorem ent_b32 {f : Nat → Int} {n : Nat} (hn : n < 115792089237316195423570985008687907853269984665640564039457584007913129639936) (h : ∀ i, i < 32 → (f i).toNat = digit 8 n i) :
 VEnt (.ag (.ps ((List.range' 0 32).map fun i => .int .u8 (f i)))) (vb32 n) := by
 refine VEnt.dec (t := tb32) (ds := [.n n]) ?_ rfl
 have e : decV tb32 (.ag (.ps ((List.range' 0 32).map fun i => .int .u8 (f i)))) = some [.n (packL 8 ((List.range' 0 32).map fun i => (f i).toNat))] := rfl
 rw [e]
 have e2 : ((List.range' 0 32).map fun i => (f i).toNat) = (List.range' 0 32).map (digit 8 n) := List.map_congr_left fun i hi => h i (by
  rw [List.mem_range'] at hi
  obtain ⟨j, hj, rfl⟩ := hi
  omega)
 rw [e2, packL_digits, Nat.mul_zero, Nat.pow_zero, Nat.div_one, show (2 : Nat) ^ (8 * 32) = 115792089237316195423570985008687907853269984665640564039457584007913129639936 from by decide +kernel, Nat.mod_eq_of_lt hn]

theorem byte_eq (n i : Nat) : (wrapK .u8 (((digit 64 n (i / 8) : Nat) : Int) / ((2 ^ (8 * (i % 8)) : Nat) : Int))).toNat = digit 8 n i := by
 simp only [wrapK]
 rw [← Int.natCast_ediv]
 have : ((digit 64 n (i / 8) / 2 ^ (8 * (i % 8)) : Nat) : Int) % 256 = ((digit 64 n (i / 8) / 2 ^ (8 * (i % 8)) % 256 : Nat) : Int) := by omega
 rw [this, Int.toNat_natCast]
 unfold digit
 have hlt : i % 8 < 8 := Nat.mod_lt _ (by decide)
 have e2 : (2 : Nat) ^ 64 = 2 ^ (8 * (i % 8)) * 2 ^ (64 - 8 * (i % 8)) := by rw [← Nat.pow_add]; congr 1; omega
 rw [e2, Nat.mod_mul_right_div_self, Nat.div_div_eq_div_mul, ← Nat.pow_add]
 have e3 : (2 : Nat) ^ (64 - 8 * (i % 8)) = 256 * 2 ^ (56 - 8 * (i % 8)) := by
  rw [show (256 : Nat) = 2 ^ 8 from rfl, ← Nat.pow_add]; congr 1; omega
 rw [e3, Nat.mod_mul_right_mod]
 congr 3
 omega
end Go.Proofs.Ytdkmcpbjicnfmaa

/-
  Contracts of the program's curve.
-/
namespace Go.Proofs.Ytdkmcpbjicnfmaa
open Go Vx Go.RowKit
end Go.Proofs.Ytdkmcpbjicnfmaa

/-
  Contracts of the program's group: bytes and points.
-/
namespace Go.Proofs.Ytdkmcpbjicnfmaa
open Go Vx Go.RowKit

abbrev tb64 : Ty := .ag [.pk .u8 8 64]
abbrev vb64 (n : Nat) : V := .pk .u8 8 64 n
end Go.Proofs.Ytdkmcpbjicnfmaa

/-
  Contracts of the program's group: maps.
-/
namespace Go.Proofs.Ytdkmcpbjicnfmaa
open Go Vx Go.RowKit

theorem rng_b64 {n : Nat} (h : rngV (vb64 n)) : n < 2 ^ (8 * 64) := h.1
end Go.Proofs.Ytdkmcpbjicnfmaa

/-
  Contracts of the laws of layer 4: what all ask first.
-/
namespace Go.Proofs.Ytdkmcpbjicnfmaa
open Go Vx Go.RowKit
end Go.Proofs.Ytdkmcpbjicnfmaa

/-
  Digits that lie one by one are the digits of their number.
-/
namespace Go.Proofs.Ytdkmcpbjicnfmaa
open Go Vx Go.RowKit

abbrev unm (n : Nat) : U := .ag (.ps [.pk .u64 32 8 n])

theorem prel_ints {σ : Sg} {k : IntKind} {f : Nat → Int} : ∀ {l : List Nat} {xs : List Value}, PRel σ (l.map fun i => .int k (f i)) xs → xs = l.map fun i => Value.int k (f i)
 | [], xs, h => h
 | i :: l, xs, h => by
   obtain ⟨ys, zs, e, h1, h2⟩ := h
   rw [e, h1.1, prel_ints h2]
   rfl

theorem ent_pk {k : IntKind} {b cnt n : Nat} {f : Nat → Int} (hn : n < 2 ^ (b * cnt)) (hu : k.signed = false) (hb : b ≤ k.bits) (h : ∀ i, i < cnt → f i = (digit b n i : Nat)) :
 VEnt (.ag (.ps ((List.range cnt).map fun i => .int k (f i)))) (.pk k b cnt n) := by
 rintro σ x ⟨xs, e, hp⟩
 refine ⟨xs, e, xs, [], by simp, ⟨?_, hn, hu, hb⟩, rfl⟩
 rw [prel_ints hp]
 refine List.map_congr_left fun i hi => ?_
 rw [h i (List.mem_range.1 hi)]

end Go.Proofs.Ytdkmcpbjicnfmaa
