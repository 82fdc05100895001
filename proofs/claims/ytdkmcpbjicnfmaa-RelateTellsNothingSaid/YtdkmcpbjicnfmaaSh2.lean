/-
  The row of words of a block: how each comes of those ahead. No program stands in it.
-/
import Derived.Test.YtdkmcpbjicnfmaaSh1
namespace Vx

theorem win_len (q : ShK) (w : Nat → Nat) : ∀ t, (winN q w t).length = 16
  | 0 => by simp [winN]
  | t + 1 => by
    have := win_len q w t
    simp only [winN, List.length_append, List.length_tail, List.length_singleton, this]
theorem win_step (q : ShK) (w : Nat → Nat) (t j : Nat) (hj : j < 15) : (winN q w (t + 1)).getD j 0 = (winN q w t).getD (j + 1) 0 := by
  have hl := win_len q w t
  simp only [winN]
  rw [List.getD_eq_getElem?_getD, List.getElem?_append_left (by rw [List.length_tail, hl]; exact hj), List.getElem?_tail, ← List.getD_eq_getElem?_getD]
theorem win_word (q : ShK) (w : Nat → Nat) : ∀ (j t : Nat), j < 16 → (winN q w t).getD j 0 = wordN q w (t + j)
  | 0, t, _ => rfl
  | j + 1, t, h => by
    rw [← win_step q w t j (by omega), win_word q w j (t + 1) (by omega)]
    congr 1
    omega
theorem word_lo (q : ShK) (w : Nat → Nat) {t : Nat} (ht : t < 16) : wordN q w t = w t := by
  have := win_word q w t 0 ht
  rw [Nat.zero_add] at this
  rw [← this, winN, List.getD_eq_getElem?_getD, List.getElem?_map, List.getElem?_range ht]
  rfl
theorem word_hi (q : ShK) (w : Nat → Nat) (t : Nat) : wordN q w (t + 16) =
    (smlN q.b q.m1 q.m2 q.m3 (wordN q w (t + 14)) + wordN q w (t + 9) + smlN q.b q.l1 q.l2 q.l3 (wordN q w (t + 1)) + wordN q w t) % 2 ^ q.b := by
  have hl := win_len q w t
  rw [← win_word q w 14 t (by decide), ← win_word q w 9 t (by decide), ← win_word q w 1 t (by decide)]
  have h15 : wordN q w (t + 16) = (winN q w (t + 1)).getD 15 0 := by
    rw [win_word q w 15 (t + 1) (by decide)]
  rw [h15]
  simp only [winN]
  rw [List.getD_eq_getElem?_getD, List.getElem?_append_right (by rw [List.length_tail, hl]; decide), List.length_tail, hl]
  rfl
end Vx
