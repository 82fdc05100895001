/-
  The document's root is the root. No program stands in it.
-/
import Derived.Test.YtpoikjcgdojjjaaM1
namespace Vx

def e3K : Nat := 7237005577332262213973186563042994240829374041602535252466099000494570602494
theorem e3_two : e3K + e3K = eR2 + 1 := by decide +kernel
theorem e3_one : e3K = eR + 1 := by decide +kernel

def rxE (e : Nat) (w : K) : K := bif decide (w ^ e * w ^ e = w) then w ^ e else w ^ e * kI

theorem rxE_sq {e q r h : Nat} (h1 : e + e = q + 1) (h2 : q + q = h) (h3 : e = r + 1) (hS : ∀ {w : K}, w ≠ 0 → (Sq w ↔ w ^ h = 1)) (w : K) : rxE e w * rxE e w = w ↔ Sq w := by
  refine ⟨fun h => ⟨_, h⟩, fun hs => ?_⟩
  unfold rxE
  cases hd : decide (w ^ e * w ^ e = w) with
  | true => exact of_decide_eq_true hd
  | false =>
    have hne := of_decide_eq_false hd
    simp only [cond_false]
    have hw : w ≠ 0 := by
      rintro rfl
      apply hne
      rw [h3, K.pow_succ]
      generalize (0 : K) ^ r = x
      grind
    have h4 : w ^ e * w ^ e = w ^ q * w := by rw [← K.pow_add, h1, K.pow_succ]
    have h5 : w ^ q * w ^ q = 1 * 1 := by rw [← K.pow_add, h2, (hS hw).1 hs]; grind
    rw [h4] at hne
    generalize w ^ e = a at *
    generalize w ^ q = s at *
    have hi := kI_sq
    rcases K.sq_eq h5 with h6 | h6
    · exact absurd (by rw [h6]; grind) hne
    · rw [h6] at h4
      generalize kI = i at *
      clear hne hd h5 h6
      grind

/-- A root of a square. -/
def rx (w : K) : K := rxE e3K w
theorem rx_sq (w : K) : rx w * rx w = w ↔ Sq w := rxE_sq e3_two eR2_two e3_one Sq.iff w

section
variable {f : K → K} (hf : ∀ w, f w * f w = w ↔ Sq w)

def nR (f : K → K) (u v : K) : K := bif decide (u = 0) then 0 else bif decide (v = 0) then 0 else bif decide (f (u * kinv v) * f (u * kinv v) = u * kinv v) then (f (u * kinv v)).abs else (f (u * kinv v * kI)).abs
def nB (f : K → K) (u v : K) : Bool := bif decide (u = 0) then true else bif decide (v = 0) then false else decide (f (u * kinv v) * f (u * kinv v) = u * kinv v)

include hf in
theorem nroot_is (u v : K) : IsRoot u v (nR f u v) (nB f u v) := by
  by_cases hu : u = 0
  · have h1 : nR f u v = 0 := by unfold nR; rw [decide_eq_true hu, cond_true]
    have h2 : nB f u v = true := by unfold nB; rw [decide_eq_true hu, cond_true]
    rw [h1, h2]
    exact ⟨K.odd_zero, fun _ => by rw [hu]; grind, fun h => (by cases h), fun _ => rfl, fun _ => rfl, ⟨fun _ => .inl hu, fun _ => rfl⟩⟩
  · by_cases hv : v = 0
    · have h1 : nR f u v = 0 := by unfold nR; rw [decide_eq_false hu, decide_eq_true hv, cond_false, cond_true]
      have h2 : nB f u v = false := by unfold nB; rw [decide_eq_false hu, decide_eq_true hv, cond_false, cond_true]
      rw [h1, h2]
      exact ⟨K.odd_zero, fun h => (by cases h), fun _ h => absurd hv h, fun _ => rfl, fun _ => rfl, ⟨fun h => (by cases h), fun h => h.elim (fun h => absurd h hu) (fun h => absurd hv h.1)⟩⟩
    · have hk := kinv_mul hv
      have e1 : nR f u v = bif decide (f (u * kinv v) * f (u * kinv v) = u * kinv v) then (f (u * kinv v)).abs else (f (u * kinv v * kI)).abs := by unfold nR; rw [decide_eq_false hu, decide_eq_false hv, cond_false, cond_false]
      have e2 : nB f u v = decide (f (u * kinv v) * f (u * kinv v) = u * kinv v) := by unfold nB; rw [decide_eq_false hu, decide_eq_false hv, cond_false, cond_false]
      have hw0 : u * kinv v ≠ 0 := by
        intro h
        apply hu
        have : u = u * kinv v * v := by grind
        rw [this, h]; grind
      have huv : u * v = v * v * (u * kinv v) := by grind
      have hvw : v * (u * kinv v) = u := by grind
      rw [e1, e2]
      generalize u * kinv v = w at *
      have hS : Sq (u * v) ↔ Sq w := by
        rw [huv]
        exact ⟨fun h => Sq.of_mul (K.mul_ne hv hv) ⟨v, rfl⟩ h, fun h => Sq.mul ⟨v, rfl⟩ h⟩
      cases hd : decide (f w * f w = w) with
      | true =>
        have h := of_decide_eq_true hd
        simp only [cond_true]
        refine ⟨K.abs_odd _, fun _ => by rw [K.abs_sq, h]; exact hvw, fun h => (by cases h), fun h => absurd h hv, fun h => absurd h hu, ⟨fun _ => .inr ⟨hv, hS.2 ((hf w).1 h)⟩, fun _ => rfl⟩⟩
      | false =>
        have h := of_decide_eq_false hd
        have hns : ¬ Sq w := fun hs => h ((hf w).2 hs)
        have hsi := (hf (w * kI)).2 (Sq.both hns kI_not_sq)
        simp only [cond_false]
        refine ⟨K.abs_odd _, fun h => (by cases h), fun _ _ => by rw [K.abs_sq, hsi]; grind, fun h => absurd h hv, fun h => absurd h hu, ⟨fun h => (by cases h), fun hh => ?_⟩⟩
        rcases hh with hh | ⟨_, hh⟩
        · exact absurd hh hu
        · exact absurd (hS.1 hh) hns
end
end Vx
