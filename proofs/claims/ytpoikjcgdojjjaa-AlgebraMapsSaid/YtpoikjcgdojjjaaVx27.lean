/-
  An executor of Go code on values of its own: elements by a function, and one behind the other.
-/
import Derived.Test.YtpoikjcgdojjjaaVx26
namespace Vx
open Go Go.RowKit

theorem prel_append {σ : Sg} : ∀ {l m : List L} {xs : List Value}, PRel σ (l ++ m) xs → ∃ ys zs, xs = ys ++ zs ∧ PRel σ l ys ∧ PRel σ m zs
  | [], m, xs, h => ⟨[], xs, rfl, rfl, h⟩
  | x :: l, m, xs, h => by
    obtain ⟨ys, zs, e, h1, h2⟩ : ∃ ys zs, xs = ys ++ zs ∧ LRel σ x ys ∧ PRel σ (l ++ m) zs := h
    obtain ⟨us, ws, e2, h3, h4⟩ := prel_append h2
    exact ⟨ys ++ us, ws, by rw [e, e2, List.append_assoc], ⟨ys, us, rfl, h1, h3⟩, h4⟩

theorem prel_flat {σ : Sg} {s : Nat} {f : Nat → List L} (hs : ∀ i, szs (f i) = s) : ∀ {c a : Nat} {xs : List Value}, PRel σ ((List.range' a c).flatMap f) xs →
    xs.length = s * c ∧ ∀ i, i < c → PRel σ (f (a + i)) ((xs.drop (i * s)).take s)
  | 0, a, xs, h => by
    have h : xs = [] := h
    subst h
    exact ⟨by simp, fun i hi => by omega⟩
  | c + 1, a, xs, h => by
    rw [List.range'_succ, List.flatMap_cons] at h
    obtain ⟨ys, zs, rfl, h1, h2⟩ := prel_append h
    obtain ⟨h3, h4⟩ := prel_flat hs h2
    have hy : ys.length = s := by rw [h1.len, hs]
    refine ⟨by rw [List.length_append, hy, h3, Nat.mul_succ]; omega, fun i hi => ?_⟩
    cases i with
    | zero =>
      rw [Nat.zero_mul, List.drop_zero, Nat.add_zero, List.take_append_of_le_length (by omega), List.take_of_length_le (by omega)]
      exact h1
    | succ i =>
      have := h4 i (by omega)
      rw [Nat.succ_mul, Nat.add_comm (i * s), ← hy, ← List.drop_drop, List.drop_left, hy]
      rw [show a + (i + 1) = a + 1 + i by omega]
      exact this

/-- Elements, one behind the other; by a function. -/
theorem fl_bg {s c : Nat} {f : Nat → List L} (hs : ∀ i, szs (f i) = s) (hf : ∀ i, flatL (f i) = true) : CEnt (.ps ((List.range c).flatMap f)) (.big s c f) := by
  intro σ xs h
  have h : PRel σ ((List.range c).flatMap f) xs := h
  rw [List.range_eq_range'] at h
  obtain ⟨h1, h2⟩ := prel_flat hs h
  refine ⟨h1, fun i hi => ⟨?_, hf i⟩⟩
  have := h2 i hi
  rw [Nat.zero_add] at this
  exact this
end Vx
