/-
  Eight words to which one word's multiple of four others is added: a round of long multiplication by words of 64 bits. No program stands in it.
-/
import Derived.Test.YteohgdpkdbckoaaU1
namespace Vx
open Go

def qs1 (x : Int) (y : Nat → Int) (c : Int) (k : Nat) : Int := x * y k % 18446744073709551616 + c + 0
def qs2 (r : Nat → Int) (x : Int) (y : Nat → Int) (i : Nat) (c : Int) (k : Nat) : Int := r (i + k) + qs1 x y c k % 18446744073709551616 + 0
def qc (r : Nat → Int) (x : Int) (y : Nat → Int) (i : Nat) : Nat → Int
  | 0 => 0
  | k + 1 => wrapK .u64 (wrapK .u64 (x * y k / 18446744073709551616 + qs1 x y (qc r x y i k) k / 18446744073709551616) + qs2 r x y i (qc r x y i k) k / 18446744073709551616)
def qe (r : Nat → Int) (x : Int) (y : Nat → Int) (i k : Nat) : Int := qs2 r x y i (qc r x y i k) k % 18446744073709551616
def nextQ (r : Nat → Int) (x : Int) (y : Nat → Int) (i j : Nat) : Int :=
  bif Nat.blt j i then r j else bif Nat.blt j (i + 4) then qe r x y i (j - i) else bif Nat.beq j (i + 4) then qc r x y i 4 else r j

def wsum (r : Nat → Int) : Nat → Int
  | 0 => 0
  | k + 1 => wsum r k + r k * 2 ^ (64 * k)

theorem qpass {r y : Nat → Int} {x : Int} {i : Nat} (hx : 0 ≤ x ∧ x < 18446744073709551616) (hr : ∀ k, 0 ≤ r k ∧ r k < 18446744073709551616) (hy : ∀ k, 0 ≤ y k ∧ y k < 18446744073709551616) : ∀ k,
    0 ≤ qc r x y i k ∧ qc r x y i k < 18446744073709551616 ∧ wsum (qe r x y i) k + qc r x y i k * 2 ^ (64 * k) = wsum (fun k => r (i + k)) k + x * wsum y k
  | 0 => by simp [qc, wsum]
  | k + 1 => by
    obtain ⟨h1, h2, h3⟩ := qpass (i := i) hx hr hy k
    obtain ⟨h4, h5⟩ := hr (i + k)
    obtain ⟨h6, h7⟩ := hy k
    have hm0 : 0 ≤ x * y k := Int.mul_nonneg hx.1 h6
    have hm1 : x * y k ≤ 18446744073709551615 * 18446744073709551615 := Int.mul_le_mul (by omega) (by omega) h6 (by omega)
    have hs : qe r x y i k + qc r x y i (k + 1) * 18446744073709551616 = qc r x y i k + r (i + k) + x * y k ∧ 0 ≤ qc r x y i (k + 1) ∧ qc r x y i (k + 1) < 18446744073709551616 := by
      unfold qe
      rw [qc, qs2, qs1]
      simp only [wrapK]
      generalize qc r x y i k = c at *
      generalize r (i + k) = a at *
      generalize x * y k = m at *
      clear h3
      omega
    obtain ⟨hs, hs0, hs1⟩ := hs
    refine ⟨hs0, hs1, ?_⟩
    have hp : (2 : Int) ^ (64 * (k + 1)) = 18446744073709551616 * 2 ^ (64 * k) := by
      rw [Nat.mul_succ, Int.pow_add, Int.mul_comm]; rfl
    rw [wsum, wsum.eq_def (fun k => r (i + k)), wsum.eq_def y, hp]
    simp only []
    generalize (2 : Int) ^ (64 * k) = P at *
    have : qe r x y i k * P + qc r x y i (k + 1) * (18446744073709551616 * P) = qc r x y i k * P + r (i + k) * P + x * (y k * P) := by
      rw [← Int.mul_assoc, ← Int.add_mul, hs, Int.add_mul, Int.add_mul, Int.mul_assoc x]
    rw [Int.mul_add]
    omega

theorem wsum_shift (r : Nat → Int) (i : Nat) : ∀ k, wsum r (i + k) = wsum r i + 2 ^ (64 * i) * wsum (fun k => r (i + k)) k
  | 0 => by simp [wsum]
  | k + 1 => by
    have e1 : wsum (fun k => r (i + k)) (k + 1) = wsum (fun k => r (i + k)) k + r (i + k) * 2 ^ (64 * k) := rfl
    have e2 : wsum r (i + (k + 1)) = wsum r (i + k) + r (i + k) * 2 ^ (64 * (i + k)) := rfl
    have e3 : (2 : Int) ^ (64 * (i + k)) = 2 ^ (64 * i) * 2 ^ (64 * k) := by rw [Nat.mul_add, Int.pow_add]
    rw [e2, e1, wsum_shift r i k, e3, Int.mul_add, Int.add_assoc]
    congr 2
    rw [← Int.mul_assoc, Int.mul_comm (r (i + k)), Int.mul_assoc]

theorem wsum_congr {r s : Nat → Int} : ∀ k, (∀ j, j < k → r j = s j) → wsum r k = wsum s k
  | 0, _ => rfl
  | k + 1, h => by rw [wsum, wsum, wsum_congr k (fun j hj => h j (by omega)), h k (by omega)]

theorem nextQ_low {r : Nat → Int} {x : Int} {y : Nat → Int} {i j : Nat} (h : j < i) : nextQ r x y i j = r j := by
  unfold nextQ; rw [blt_t h]; rfl
theorem nextQ_mid {r : Nat → Int} {x : Int} {y : Nat → Int} {i k : Nat} (h : k < 4) : nextQ r x y i (i + k) = qe r x y i k := by
  unfold nextQ; rw [blt_f (by omega), blt_t (by omega), Nat.add_sub_cancel_left]; rfl
theorem nextQ_top {r : Nat → Int} {x : Int} {y : Nat → Int} {i : Nat} : nextQ r x y i (i + 4) = qc r x y i 4 := by
  unfold nextQ; rw [blt_f (by omega), blt_f (by omega), Nat.beq_refl]; rfl
theorem nextQ_high {r : Nat → Int} {x : Int} {y : Nat → Int} {i j : Nat} (h : i + 4 < j) : nextQ r x y i j = r j := by
  unfold nextQ; rw [blt_f (by omega), blt_f (by omega)]
  have : Nat.beq j (i + 4) = false := by
    cases hb : Nat.beq j (i + 4)
    · rfl
    · have := Nat.eq_of_beq_eq_true hb; omega
  rw [this]; rfl

/-- After i rounds. -/
structure QInv (x y : Nat → Int) (i : Nat) (r : Nat → Int) : Prop where
  rng : ∀ j, 0 ≤ r j ∧ r j < 18446744073709551616
  zero : ∀ j, i + 4 ≤ j → r j = 0
  val : wsum r (i + 4) = wsum x i * wsum y 4

theorem QInv.step {x y : Nat → Int} {i : Nat} {r : Nat → Int} (hx : ∀ k, 0 ≤ x k ∧ x k < 18446744073709551616) (hy : ∀ k, 0 ≤ y k ∧ y k < 18446744073709551616) (h : QInv x y i r) : QInv x y (i + 1) (nextQ r (x i) y i) := by
  have hp := fun k => qpass (i := i) (hx i) h.rng hy k
  have hqe : ∀ k, 0 ≤ qe r (x i) y i k ∧ qe r (x i) y i k < 18446744073709551616 := fun k => by
    unfold qe; omega
  refine ⟨fun j => ?_, fun j hj => ?_, ?_⟩
  · rcases Nat.lt_or_ge j i with h1 | h1
    · rw [nextQ_low h1]; exact h.rng j
    · obtain ⟨k, rfl⟩ := Nat.le.dest h1
      rcases Nat.lt_or_ge k 4 with h2 | h2
      · rw [nextQ_mid h2]; exact hqe k
      · rcases Nat.eq_or_lt_of_le h2 with h3 | h3
        · subst h3
          rw [nextQ_top]
          exact ⟨(hp 4).1, (hp 4).2.1⟩
        · rw [nextQ_high (by omega)]; exact h.rng _
  · rw [nextQ_high (by omega)]; exact h.zero j (by omega)
  · rw [show i + 1 + 4 = i + (4 + 1) by omega, wsum_shift, show (wsum (fun k => nextQ r (x i) y i (i + k)) (4 + 1)) = wsum (fun k => nextQ r (x i) y i (i + k)) 4 + nextQ r (x i) y i (i + 4) * 2 ^ (64 * 4) from rfl, nextQ_top,
      wsum_congr (s := r) i (fun j hj => nextQ_low hj), wsum_congr (s := qe r (x i) y i) 4 (fun j hj => nextQ_mid hj), (hp 4).2.2]
    have hv := h.val
    rw [wsum_shift] at hv
    rw [show wsum x (i + 1) = wsum x i + x i * 2 ^ (64 * i) from rfl, Int.add_mul, ← hv, Int.mul_add, Int.add_assoc]
    congr 2
    rw [← Int.mul_assoc, Int.mul_comm (x i)]
end Vx

/-
  Digits of 32 bits: a number times 256 and a byte; a number less another one. No program stands in it.
-/
namespace Vx
open Go

def cC (f : Nat → Int) (c0 : Int) : Nat → Int
  | 0 => c0
  | k + 1 => wrapK .u64 (cC f c0 k + wrapK .u64 (256 * f k)) / 4294967296
def eC (f : Nat → Int) (c0 : Int) (k : Nat) : Int := wrapK .u64 (cC f c0 k + wrapK .u64 (256 * f k)) % 4294967296

theorem eC_rng (f : Nat → Int) (c0 : Int) (k : Nat) : 0 ≤ eC f c0 k ∧ eC f c0 k < 4294967296 :=
  ⟨Int.emod_nonneg _ (by decide), Int.emod_lt_of_pos _ (by decide)⟩

theorem carry_sum {f : Nat → Int} {c0 : Int} (hc : 0 ≤ c0 ∧ c0 < 256) (hf : ∀ k, 0 ≤ f k ∧ f k < 4294967296) : ∀ k,
    0 ≤ cC f c0 k ∧ cC f c0 k < 256 ∧ psum (eC f c0) k + cC f c0 k * 2 ^ (32 * k) = c0 + 256 * psum f k
  | 0 => by simp [cC, psum]; omega
  | k + 1 => by
    obtain ⟨h1, h2, h3⟩ := carry_sum hc hf k
    obtain ⟨h4, h5⟩ := hf k
    have hw : wrapK .u64 (cC f c0 k + wrapK .u64 (256 * f k)) = cC f c0 k + 256 * f k := by simp only [wrapK]; omega
    have hs : eC f c0 k + cC f c0 (k + 1) * 4294967296 = cC f c0 k + 256 * f k ∧ 0 ≤ cC f c0 (k + 1) ∧ cC f c0 (k + 1) < 256 := by
      rw [cC, eC, hw]; omega
    obtain ⟨hs, h6, h7⟩ := hs
    refine ⟨h6, h7, ?_⟩
    have hp : (2 : Int) ^ (32 * (k + 1)) = 4294967296 * 2 ^ (32 * k) := by
      rw [Nat.mul_succ, Int.pow_add, Int.mul_comm]; rfl
    rw [psum, psum.eq_def f, hp]
    simp only []
    generalize (2 : Int) ^ (32 * k) = P at *
    have : eC f c0 k * P + cC f c0 (k + 1) * (4294967296 * P) = cC f c0 k * P + 256 * (f k * P) := by
      rw [← Int.mul_assoc, ← Int.add_mul, hs, Int.add_mul, Int.mul_assoc 256]
    rw [Int.mul_add]
    omega

def xB (d q : Nat → Int) (b : Int) (k : Nat) : Int := wrapK .u64 (wrapK .u64 (wrapK .u64 (4294967296 + d k) - q k) - b)
def bB (d q : Nat → Int) : Nat → Int
  | 0 => 0
  | k + 1 => wrapK .u64 (1 - xB d q (bB d q k) k / 4294967296)
def oB (d q : Nat → Int) (k : Nat) : Int := xB d q (bB d q k) k % 4294967296
theorem oB_rng (d q : Nat → Int) (k : Nat) : 0 ≤ oB d q k ∧ oB d q k < 4294967296 :=
  ⟨Int.emod_nonneg _ (by decide), Int.emod_lt_of_pos _ (by decide)⟩

theorem borrow_sum {d q : Nat → Int} (hd : ∀ k, 0 ≤ d k ∧ d k < 4294967296) (hq : ∀ k, 0 ≤ q k ∧ q k < 4294967296) : ∀ k,
    (bB d q k = 0 ∨ bB d q k = 1) ∧ psum (oB d q) k = psum d k - psum q k + bB d q k * 2 ^ (32 * k)
  | 0 => by simp [bB, psum]
  | k + 1 => by
    obtain ⟨h1, h3⟩ := borrow_sum hd hq k
    obtain ⟨h4, h5⟩ := hd k
    obtain ⟨h6, h7⟩ := hq k
    have hx : xB d q (bB d q k) k = 4294967296 + d k - q k - bB d q k := by
      unfold xB; simp only [wrapK]; omega
    have hs : oB d q k = d k - q k - bB d q k + bB d q (k + 1) * 4294967296 ∧ (bB d q (k + 1) = 0 ∨ bB d q (k + 1) = 1) := by
      rw [bB, oB, hx]; simp only [wrapK]; omega
    obtain ⟨hs, h8⟩ := hs
    refine ⟨h8, ?_⟩
    have hp : (2 : Int) ^ (32 * (k + 1)) = 4294967296 * 2 ^ (32 * k) := by
      rw [Nat.mul_succ, Int.pow_add, Int.mul_comm]; rfl
    rw [psum, psum.eq_def d, psum.eq_def q, hp]
    simp only []
    generalize (2 : Int) ^ (32 * k) = P at *
    rw [hs, h3, ← Int.mul_assoc, Int.add_mul, Int.sub_mul, Int.sub_mul]
    omega
end Vx

/-
  Sums of bytes. No program stands in it.
-/
namespace Vx
open Go

def bsum (d : Nat → Int) : Nat → Int
  | 0 => 0
  | k + 1 => bsum d k + d k * 2 ^ (8 * k)
def bd (n i : Nat) : Int := ((digit 8 n i : Nat) : Int)
theorem bd_rng (n i : Nat) : 0 ≤ bd n i ∧ bd n i < 256 := by
  unfold bd digit
  have := Nat.mod_lt (n / 2 ^ (8 * i)) (show 2 ^ 8 > 0 by decide)
  simp only [Nat.reducePow] at *
  omega
theorem pow_castN (n : Nat) : (2 : Int) ^ n = ((2 ^ n : Nat) : Int) := by simp
theorem pow8_succ (k : Nat) : (2 : Int) ^ (8 * (k + 1)) = 256 * 2 ^ (8 * k) := by
  rw [Nat.mul_succ, Int.pow_add, Int.mul_comm]; rfl
theorem pow8_pos (k : Nat) : (0 : Int) < 2 ^ (8 * k) := by
  rw [pow_castN]
  exact Int.ofNat_lt.2 (Nat.pow_pos (by decide))
theorem bsum_congr {d e : Nat → Int} : ∀ n, (∀ i, i < n → d i = e i) → bsum d n = bsum e n
  | 0, _ => rfl
  | n + 1, h => by rw [bsum, bsum, bsum_congr n (fun i hi => h i (by omega)), h n (by omega)]
theorem bsum_rng {d : Nat → Int} : ∀ n, (∀ i, i < n → 0 ≤ d i ∧ d i < 256) → 0 ≤ bsum d n ∧ bsum d n < 2 ^ (8 * n)
  | 0, _ => by simp [bsum]
  | n + 1, h => by
    obtain ⟨h1, h2⟩ := bsum_rng n (fun i hi => h i (by omega))
    obtain ⟨h3, h4⟩ := h n (by omega)
    rw [bsum, pow8_succ]
    have hp := pow8_pos n
    generalize (2 : Int) ^ (8 * n) = P at *
    have h5 : 0 ≤ d n * P := Int.mul_nonneg h3 (Int.le_of_lt hp)
    have h6 : d n * P ≤ 255 * P := Int.mul_le_mul_of_nonneg_right (by omega) (Int.le_of_lt hp)
    omega
theorem bsum_digits (n : Nat) : ∀ m, bsum (bd n) m = ((n % 2 ^ (8 * m) : Nat) : Int)
  | 0 => by simp [bsum, Nat.mod_one]
  | m + 1 => by
    rw [bsum, bsum_digits n m, show 8 * (m + 1) = 8 * m + 8 from rfl, Nat.pow_add, Nat.mod_mul]
    unfold bd digit
    rw [Int.natCast_add, Int.natCast_mul, Int.mul_comm]
    simp
/-- The digits are told by the sum. -/
theorem bsum_inj {d e : Nat → Int} : ∀ n, (∀ i, i < n → 0 ≤ d i ∧ d i < 256) → (∀ i, i < n → 0 ≤ e i ∧ e i < 256) → bsum d n = bsum e n → ∀ i, i < n → d i = e i
  | 0, _, _, _, i, hi => by omega
  | n + 1, hd, he, h, i, hi => by
    obtain ⟨a1, a2⟩ := bsum_rng n (fun i hi => hd i (by omega))
    obtain ⟨b1, b2⟩ := bsum_rng n (fun i hi => he i (by omega))
    have hp := pow8_pos n
    rw [bsum, bsum] at h
    have hn : d n = e n := by
      generalize (2 : Int) ^ (8 * n) = P at *
      rcases Int.lt_trichotomy (d n) (e n) with hlt | heq | hgt
      · exfalso
        have : (d n + 1) * P ≤ e n * P := Int.mul_le_mul_of_nonneg_right (by omega) (Int.le_of_lt hp)
        rw [Int.add_mul] at this
        omega
      · exact heq
      · exfalso
        have : (e n + 1) * P ≤ d n * P := Int.mul_le_mul_of_nonneg_right (by omega) (Int.le_of_lt hp)
        rw [Int.add_mul] at this
        omega
    rw [hn] at h
    rcases Nat.lt_or_ge i n with h1 | h1
    · exact bsum_inj n (fun i hi => hd i (by omega)) (fun i hi => he i (by omega)) (by omega) i h1
    · have : i = n := by omega
      rw [this]; exact hn
theorem bsum_bd {d : Nat → Int} {n N : Nat} (hd : ∀ i, i < n → 0 ≤ d i ∧ d i < 256) (h : bsum d n = (N : Int)) : ∀ i, i < n → d i = bd N i := by
  have hN : N < 2 ^ (8 * n) := by
    have := (bsum_rng n hd).2
    rw [h, pow_castN] at this
    exact Int.ofNat_lt.1 this
  refine bsum_inj n hd (fun i _ => bd_rng N i) ?_
  rw [h, bsum_digits, Nat.mod_eq_of_lt hN]
/-- One place changed. -/
def upd1 (r : Nat → Int) (p : Nat) (v : Int) (j : Nat) : Int := if j = p then v else r j
theorem upd1_at (r : Nat → Int) (p : Nat) (v : Int) : upd1 r p v p = v := if_pos rfl
theorem upd1_ne {r : Nat → Int} {p j : Nat} {v : Int} (h : j ≠ p) : upd1 r p v j = r j := if_neg h
theorem bsum_upd (r : Nat → Int) (p : Nat) (v : Int) : ∀ n, p < n → bsum (upd1 r p v) n = bsum r n + (v - r p) * 2 ^ (8 * p)
  | 0, h => by omega
  | n + 1, h => by
    rw [bsum, bsum]
    rcases Nat.lt_or_ge p n with h1 | h1
    · rw [bsum_upd r p v n h1, upd1_ne (by omega)]
      omega
    · have : p = n := by omega
      subst this
      rw [bsum_congr p (e := r) (fun i hi => upd1_ne (by omega)), upd1_at, Int.sub_mul]
      omega
end Vx

/-
  Elements of the group, so many times: what the program's and the document's functions answer. No program stands in it.
-/
namespace Vx

noncomputable def tbl (p : P4) : Nat → P4
  | 0 => idP
  | i + 1 => sumP (tbl p i) p (addP dP dP)
noncomputable def dbl4 (o : P4) : P4 :=
  let tw := addP dP dP
  let a := sumP o o tw
  let b := sumP a a tw
  let c := sumP b b tw
  sumP c c tw
noncomputable def tmR (k : Nat) (p : P4) : Nat → P4
  | 0 => idP
  | m + 1 => sumP (dbl4 (tmR k p m)) (tbl p (k / 2 ^ (4 * (63 - m)) % 16)) (addP dP dP)
noncomputable def tmX : Nat → P4 → Nat := hidden' fun k p => (tmR k p 64).x
noncomputable def tmY : Nat → P4 → Nat := hidden' fun k p => (tmR k p 64).y
noncomputable def tmZ : Nat → P4 → Nat := hidden' fun k p => (tmR k p 64).z
noncomputable def tmT : Nat → P4 → Nat := hidden' fun k p => (tmR k p 64).t
noncomputable def tmP (k : Nat) (p : P4) : P4 := ⟨tmX k p, tmY k p, tmZ k p, tmT k p⟩
theorem tmP_eq (k : Nat) (p : P4) : tmP k p = tmR k p 64 := by
  unfold tmP tmX tmY tmZ tmT
  simp only [seal_eq]
end Vx
