/-
  Sums of bytes. No program stands in it.
-/
import Derived.Test.YtpoikjcgdojjjaaU1
namespace Vx
open Go

def bsum (d : Nat → Int) : Nat → Int
  | 0 => 0
  | k + 1 => bsum d k + d k * 2 ^ (8 * k)
def bd (n i : Nat) : Int := ((digit 8 n i : Nat) : Int)
theorem bd_rng (n i : Nat) : 0 ≤ bd n i ∧ bd n i < 256 := by
  unfold bd digit
  have := Nat.mod_lt (n / 2 ^ (8 * i)) (show 2 ^ 8 > 0 by decide)
  simp only [Nat.reducePow] at *
  omega
theorem pow_castN (n : Nat) : (2 : Int) ^ n = ((2 ^ n : Nat) : Int) := by simp
theorem pow8_succ (k : Nat) : (2 : Int) ^ (8 * (k + 1)) = 256 * 2 ^ (8 * k) := by
  rw [Nat.mul_succ, Int.pow_add, Int.mul_comm]; rfl
theorem pow8_pos (k : Nat) : (0 : Int) < 2 ^ (8 * k) := by
  rw [pow_castN]
  exact Int.ofNat_lt.2 (Nat.pow_pos (by decide))
theorem bsum_congr {d e : Nat → Int} : ∀ n, (∀ i, i < n → d i = e i) → bsum d n = bsum e n
  | 0, _ => rfl
  | n + 1, h => by rw [bsum, bsum, bsum_congr n (fun i hi => h i (by omega)), h n (by omega)]
theorem bsum_rng {d : Nat → Int} : ∀ n, (∀ i, i < n → 0 ≤ d i ∧ d i < 256) → 0 ≤ bsum d n ∧ bsum d n < 2 ^ (8 * n)
  | 0, _ => by simp [bsum]
  | n + 1, h => by
    obtain ⟨h1, h2⟩ := bsum_rng n (fun i hi => h i (by omega))
    obtain ⟨h3, h4⟩ := h n (by omega)
    rw [bsum, pow8_succ]
    have hp := pow8_pos n
    generalize (2 : Int) ^ (8 * n) = P at *
    have h5 : 0 ≤ d n * P := Int.mul_nonneg h3 (Int.le_of_lt hp)
    have h6 : d n * P ≤ 255 * P := Int.mul_le_mul_of_nonneg_right (by omega) (Int.le_of_lt hp)
    omega
theorem bsum_digits (n : Nat) : ∀ m, bsum (bd n) m = ((n % 2 ^ (8 * m) : Nat) : Int)
  | 0 => by simp [bsum, Nat.mod_one]
  | m + 1 => by
    rw [bsum, bsum_digits n m, show 8 * (m + 1) = 8 * m + 8 from rfl, Nat.pow_add, Nat.mod_mul]
    unfold bd digit
    rw [Int.natCast_add, Int.natCast_mul, Int.mul_comm]
    simp
/-- The digits are told by the sum. -/
theorem bsum_inj {d e : Nat → Int} : ∀ n, (∀ i, i < n → 0 ≤ d i ∧ d i < 256) → (∀ i, i < n → 0 ≤ e i ∧ e i < 256) → bsum d n = bsum e n → ∀ i, i < n → d i = e i
  | 0, _, _, _, i, hi => by omega
  | n + 1, hd, he, h, i, hi => by
    obtain ⟨a1, a2⟩ := bsum_rng n (fun i hi => hd i (by omega))
    obtain ⟨b1, b2⟩ := bsum_rng n (fun i hi => he i (by omega))
    have hp := pow8_pos n
    rw [bsum, bsum] at h
    have hn : d n = e n := by
      generalize (2 : Int) ^ (8 * n) = P at *
      rcases Int.lt_trichotomy (d n) (e n) with hlt | heq | hgt
      · exfalso
        have : (d n + 1) * P ≤ e n * P := Int.mul_le_mul_of_nonneg_right (by omega) (Int.le_of_lt hp)
        rw [Int.add_mul] at this
        omega
      · exact heq
      · exfalso
        have : (e n + 1) * P ≤ d n * P := Int.mul_le_mul_of_nonneg_right (by omega) (Int.le_of_lt hp)
        rw [Int.add_mul] at this
        omega
    rw [hn] at h
    rcases Nat.lt_or_ge i n with h1 | h1
    · exact bsum_inj n (fun i hi => hd i (by omega)) (fun i hi => he i (by omega)) (by omega) i h1
    · have : i = n := by omega
      rw [this]; exact hn
theorem bsum_bd {d : Nat → Int} {n N : Nat} (hd : ∀ i, i < n → 0 ≤ d i ∧ d i < 256) (h : bsum d n = (N : Int)) : ∀ i, i < n → d i = bd N i := by
  have hN : N < 2 ^ (8 * n) := by
    have := (bsum_rng n hd).2
    rw [h, pow_castN] at this
    exact Int.ofNat_lt.1 this
  refine bsum_inj n hd (fun i _ => bd_rng N i) ?_
  rw [h, bsum_digits, Nat.mod_eq_of_lt hN]
/-- One place changed. -/
def upd1 (r : Nat → Int) (p : Nat) (v : Int) (j : Nat) : Int := if j = p then v else r j
theorem upd1_at (r : Nat → Int) (p : Nat) (v : Int) : upd1 r p v p = v := if_pos rfl
theorem upd1_ne {r : Nat → Int} {p j : Nat} {v : Int} (h : j ≠ p) : upd1 r p v j = r j := if_neg h
theorem bsum_upd (r : Nat → Int) (p : Nat) (v : Int) : ∀ n, p < n → bsum (upd1 r p v) n = bsum r n + (v - r p) * 2 ^ (8 * p)
  | 0, h => by omega
  | n + 1, h => by
    rw [bsum, bsum]
    rcases Nat.lt_or_ge p n with h1 | h1
    · rw [bsum_upd r p v n h1, upd1_ne (by omega)]
      omega
    · have : p = n := by omega
      subst this
      rw [bsum_congr p (e := r) (fun i hi => upd1_ne (by omega)), upd1_at, Int.sub_mul]
      omega
end Vx
