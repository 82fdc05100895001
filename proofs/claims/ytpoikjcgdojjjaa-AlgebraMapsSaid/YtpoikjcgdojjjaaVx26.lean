/-
  An executor of Go code on values of its own: cells by a function, and one by one.
-/
import Derived.Test.YtpoikjcgdojjjaaVx25
namespace Vx
open Go Go.RowKit

/-- Whole numbers, one by one; by a function. -/
def psI (k : IntKind) (c : Nat) (r : Nat → Int) : C := .ps ((List.range c).map fun i => .int k (r i))
def bgI (k : IntKind) (c : Nat) (r : Nat → Int) : C := .big 1 c fun i => [.int k (r i)]

theorem prel_range {σ : Sg} {k : IntKind} {r : Nat → Int} : ∀ {c a : Nat} {xs : List Value}, PRel σ ((List.range' a c).map fun i => .int k (r i)) xs ↔ xs = (List.range' a c).map (fun i => Value.int k (r i)) ∧ ∀ i, a ≤ i → i < a + c → inK k (r i) = true
  | 0, a, xs => by
    simp only [List.range'_zero, List.map_nil, PRel]
    exact ⟨fun h => ⟨h, fun i _ _ => by omega⟩, fun h => h.1⟩
  | c + 1, a, xs => by
    rw [List.range'_succ, List.map_cons, List.map_cons]
    constructor
    · rintro ⟨ys, zs, rfl, h1, h2⟩
      obtain ⟨h3, h4⟩ := (prel_range (a := a + 1)).1 h2
      obtain ⟨h5, h6⟩ : ys = [.int k (r a)] ∧ inK k (r a) = true := h1
      subst h3 h5
      refine ⟨rfl, fun i hi hi2 => ?_⟩
      rcases Nat.eq_or_lt_of_le hi with rfl | hlt
      · exact h6
      · exact h4 i hlt (by omega)
    · rintro ⟨rfl, h⟩
      exact ⟨[.int k (r a)], _, rfl, ⟨rfl, h a (Nat.le_refl _) (by omega)⟩, (prel_range (a := a + 1)).2 ⟨rfl, fun i hi hi2 => h i (by omega) (by omega)⟩⟩

theorem ps_bg {k : IntKind} {c : Nat} {r : Nat → Int} : CEnt (psI k c r) (bgI k c r) := by
  intro σ xs h
  have h : PRel σ ((List.range c).map fun i => .int k (r i)) xs := h
  rw [List.range_eq_range'] at h
  obtain ⟨rfl, hk⟩ := prel_range.1 h
  refine ⟨by simp, fun i hi => ⟨?_, rfl⟩⟩
  have : ((List.map (fun i => Value.int k (r i)) (List.range' 0 c)).drop (i * 1)).take 1 = [Value.int k (r i)] := by
    apply List.ext_getElem?
    intro j
    rw [List.getElem?_take, List.getElem?_drop, List.getElem?_map]
    cases j with
    | zero => simp [hi]
    | succ j => simp
  rw [this]
  exact ⟨[_], [], rfl, ⟨rfl, hk i (by omega) (by omega)⟩, rfl⟩

theorem bg_ps {k : IntKind} {c : Nat} {r : Nat → Int} : CEnt (bgI k c r) (psI k c r) := by
  rintro σ xs ⟨h1, h2⟩
  show PRel σ ((List.range c).map fun i => .int k (r i)) xs
  rw [List.range_eq_range']
  have hcell : ∀ i, i < c → (xs.drop i).take 1 = [Value.int k (r i)] ∧ inK k (r i) = true := by
    intro i hi
    obtain ⟨⟨ys, zs, e, ⟨h3, h4⟩, h5⟩, _⟩ := h2 i hi
    have h5 : zs = [] := h5
    have h3 : ys = [.int k (r i)] := h3
    subst h3 h5
    rw [Nat.mul_one] at e
    exact ⟨e, h4⟩
  refine prel_range.2 ⟨?_, fun i _ hi => (hcell i (by omega)).2⟩
  apply List.ext_getElem?
  intro j
  rw [List.getElem?_map]
  rcases Nat.lt_or_ge j c with hj | hj
  · have := (hcell j hj).1
    have e : xs[j]? = some (Value.int k (r j)) := by
      have h0 : ((xs.drop j).take 1)[0]? = some (Value.int k (r j)) := by rw [this]; rfl
      simpa using h0
    rw [e]
    simp [hj]
  · rw [List.getElem?_eq_none (by omega)]
    simp [hj]

/-- The same but at one place. -/
theorem bg_upd {k : IntKind} {c p : Nat} {r : Nat → Int} {v : Int} : (C.big 1 c fun j => if j = p then [L.int k v] else [L.int k (r j)]) = bgI k c fun j => if j = p then v else r j := by
  unfold bgI
  congr 1
  funext j
  by_cases h : j = p
  · simp only [if_pos h]
  · simp only [if_neg h]
end Vx
