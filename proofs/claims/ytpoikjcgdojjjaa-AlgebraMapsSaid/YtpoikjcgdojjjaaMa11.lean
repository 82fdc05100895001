/-
  Elements of the group, so many times, four bits at a time. No program stands in it.
-/
import Derived.Test.YtpoikjcgdojjjaaM2
import Derived.Test.YtpoikjcgdojjjaaPu3
namespace Vx

theorem sum_rep {q r : P4} {P Q : E} (h1 : RepP q P) (h2 : RepP r Q) : RepP (sumP q r (addP dP dP)) (P + Q) := by
  have := add_rep h1 h2
  rw [addP4_eq] at this
  exact this
theorem tbl_rep {p : P4} {P : E} (h : RepP p P) : ∀ i, RepP (tbl p i) (E.mul i P)
  | 0 => id_rep
  | i + 1 => by rw [tbl, E.mul_succ]; exact sum_rep (tbl_rep h i) h
theorem E.mul_two (n : Nat) (P : E) : E.mul n P + E.mul n P = E.mul (2 * n) P := by rw [Nat.two_mul, E.add_mul]
theorem dbl4_rep {o : P4} {P : E} {n : Nat} (h : RepP o (E.mul n P)) : RepP (dbl4 o) (E.mul (16 * n) P) := by
  unfold dbl4
  have h1 := sum_rep h h
  rw [E.mul_two] at h1
  have h2 := sum_rep h1 h1
  rw [E.mul_two] at h2
  have h3 := sum_rep h2 h2
  rw [E.mul_two] at h3
  have h4 := sum_rep h3 h3
  rw [E.mul_two] at h4
  have e : 2 * (2 * (2 * (2 * n))) = 16 * n := by omega
  rw [e] at h4
  exact h4
theorem tmR_rep {k : Nat} {p : P4} {P : E} (h : RepP p P) (hk : k < 2 ^ 256) : ∀ m, m ≤ 64 → RepP (tmR k p m) (E.mul (k / 2 ^ (4 * (64 - m))) P)
  | 0, _ => by
    have : k / 2 ^ (4 * (64 - 0)) = 0 := Nat.div_eq_of_lt hk
    rw [this]
    exact id_rep
  | m + 1, hm => by
    have h1 := dbl4_rep (tmR_rep h hk m (by omega))
    have h2 := sum_rep h1 (tbl_rep h (k / 2 ^ (4 * (63 - m)) % 16))
    rw [← E.add_mul] at h2
    have e : 16 * (k / 2 ^ (4 * (64 - m))) + k / 2 ^ (4 * (63 - m)) % 16 = k / 2 ^ (4 * (64 - (m + 1))) := by
      have e1 : 4 * (64 - m) = 4 * (63 - m) + 4 := by omega
      have e2 : 64 - (m + 1) = 63 - m := by omega
      rw [e1, e2, Nat.pow_add, ← Nat.div_div_eq_div_mul]
      generalize k / 2 ^ (4 * (63 - m)) = q
      rw [show (2 : Nat) ^ 4 = 16 from rfl]
      omega
    rw [e] at h2
    exact h2
theorem tm_rep {k : Nat} {p : P4} {P : E} (h : RepP p P) (hk : k < 2 ^ 256) : RepP (tmP k p) (E.mul k P) := by
  have := tmR_rep h hk 64 (Nat.le_refl _)
  rw [tmP_eq]
  rw [Nat.sub_self, Nat.mul_zero, Nat.pow_zero, Nat.div_one] at this
  exact this
end Vx
