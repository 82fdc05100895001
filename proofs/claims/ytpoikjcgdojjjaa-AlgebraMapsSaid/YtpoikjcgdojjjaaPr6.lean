/-
  Digits of 32 bits: a number times 256 and a byte; a number less another one. No program stands in it.
-/
import Derived.Test.YtpoikjcgdojjjaaU1
namespace Vx
open Go

def cC (f : Nat → Int) (c0 : Int) : Nat → Int
  | 0 => c0
  | k + 1 => wrapK .u64 (cC f c0 k + wrapK .u64 (256 * f k)) / 4294967296
def eC (f : Nat → Int) (c0 : Int) (k : Nat) : Int := wrapK .u64 (cC f c0 k + wrapK .u64 (256 * f k)) % 4294967296

theorem eC_rng (f : Nat → Int) (c0 : Int) (k : Nat) : 0 ≤ eC f c0 k ∧ eC f c0 k < 4294967296 :=
  ⟨Int.emod_nonneg _ (by decide), Int.emod_lt_of_pos _ (by decide)⟩

theorem carry_sum {f : Nat → Int} {c0 : Int} (hc : 0 ≤ c0 ∧ c0 < 256) (hf : ∀ k, 0 ≤ f k ∧ f k < 4294967296) : ∀ k,
    0 ≤ cC f c0 k ∧ cC f c0 k < 256 ∧ psum (eC f c0) k + cC f c0 k * 2 ^ (32 * k) = c0 + 256 * psum f k
  | 0 => by simp [cC, psum]; omega
  | k + 1 => by
    obtain ⟨h1, h2, h3⟩ := carry_sum hc hf k
    obtain ⟨h4, h5⟩ := hf k
    have hw : wrapK .u64 (cC f c0 k + wrapK .u64 (256 * f k)) = cC f c0 k + 256 * f k := by simp only [wrapK]; omega
    have hs : eC f c0 k + cC f c0 (k + 1) * 4294967296 = cC f c0 k + 256 * f k ∧ 0 ≤ cC f c0 (k + 1) ∧ cC f c0 (k + 1) < 256 := by
      rw [cC, eC, hw]; omega
    obtain ⟨hs, h6, h7⟩ := hs
    refine ⟨h6, h7, ?_⟩
    have hp : (2 : Int) ^ (32 * (k + 1)) = 4294967296 * 2 ^ (32 * k) := by
      rw [Nat.mul_succ, Int.pow_add, Int.mul_comm]; rfl
    rw [psum, psum.eq_def f, hp]
    simp only []
    generalize (2 : Int) ^ (32 * k) = P at *
    have : eC f c0 k * P + cC f c0 (k + 1) * (4294967296 * P) = cC f c0 k * P + 256 * (f k * P) := by
      rw [← Int.mul_assoc, ← Int.add_mul, hs, Int.add_mul, Int.mul_assoc 256]
    rw [Int.mul_add]
    omega

def xB (d q : Nat → Int) (b : Int) (k : Nat) : Int := wrapK .u64 (wrapK .u64 (wrapK .u64 (4294967296 + d k) - q k) - b)
def bB (d q : Nat → Int) : Nat → Int
  | 0 => 0
  | k + 1 => wrapK .u64 (1 - xB d q (bB d q k) k / 4294967296)
def oB (d q : Nat → Int) (k : Nat) : Int := xB d q (bB d q k) k % 4294967296
theorem oB_rng (d q : Nat → Int) (k : Nat) : 0 ≤ oB d q k ∧ oB d q k < 4294967296 :=
  ⟨Int.emod_nonneg _ (by decide), Int.emod_lt_of_pos _ (by decide)⟩

theorem borrow_sum {d q : Nat → Int} (hd : ∀ k, 0 ≤ d k ∧ d k < 4294967296) (hq : ∀ k, 0 ≤ q k ∧ q k < 4294967296) : ∀ k,
    (bB d q k = 0 ∨ bB d q k = 1) ∧ psum (oB d q) k = psum d k - psum q k + bB d q k * 2 ^ (32 * k)
  | 0 => by simp [bB, psum]
  | k + 1 => by
    obtain ⟨h1, h3⟩ := borrow_sum hd hq k
    obtain ⟨h4, h5⟩ := hd k
    obtain ⟨h6, h7⟩ := hq k
    have hx : xB d q (bB d q k) k = 4294967296 + d k - q k - bB d q k := by
      unfold xB; simp only [wrapK]; omega
    have hs : oB d q k = d k - q k - bB d q k + bB d q (k + 1) * 4294967296 ∧ (bB d q (k + 1) = 0 ∨ bB d q (k + 1) = 1) := by
      rw [bB, oB, hx]; simp only [wrapK]; omega
    obtain ⟨hs, h8⟩ := hs
    refine ⟨h8, ?_⟩
    have hp : (2 : Int) ^ (32 * (k + 1)) = 4294967296 * 2 ^ (32 * k) := by
      rw [Nat.mul_succ, Int.pow_add, Int.mul_comm]; rfl
    rw [psum, psum.eq_def d, psum.eq_def q, hp]
    simp only []
    generalize (2 : Int) ^ (32 * k) = P at *
    rw [hs, h3, ← Int.mul_assoc, Int.add_mul, Int.sub_mul, Int.sub_mul]
    omega
end Vx
