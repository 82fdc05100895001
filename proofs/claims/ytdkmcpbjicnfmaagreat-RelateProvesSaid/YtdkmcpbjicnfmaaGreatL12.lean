/-
  What signatures come to, in points of the group.
-/
import Derived.Test.YtdkmcpbjicnfmaaGreatL11
import Derived.Test.YtdkmcpbjicnfmaaGreatL9
import Derived.Test.YtdkmcpbjicnfmaaGreatL8
namespace Go.Proofs.YtdkmcpbjicnfmaaGreat
open Go Vx Go.RowKit

theorem bE_ex : ∃ G, Pt bN G := by
 obtain ⟨P, h1, h2, _⟩ := base_rep
 exact ⟨P, Pt.of h1 h2⟩
noncomputable def bE : E := Classical.choose bE_ex
theorem bE_pt : Pt bN bE := Classical.choose_spec bE_ex
theorem bN_ne : bN ≠ 0 := base_ne
theorem lP_pos : 0 < lP := by unfold lP; decide
theorem okS_lt {a : Nat} (h : okS a = true) : a < lP := okS_iff.1 h
theorem okS_mod (n : Nat) : okS (n % lP) = true := okS_iff.2 (Nat.mod_lt _ lP_pos)
theorem restP_mod (a : Nat) : restP a = a % lP := restP_eq a
theorem restP_self {a : Nat} (h : okS a = true) : restP a = a := by rw [restP_mod, Nat.mod_eq_of_lt (okS_lt h)]
theorem okS_rest (n : Nat) : okS (restP n) = true := by rw [restP_mod]; exact okS_mod n
theorem ord_of {P : E} (he : Ev P) (hne : ¬ Co P 0) {n : Nat} : Co (E.mul n P) 0 ↔ n % lP = 0 := by
 constructor
 · intro h
   rcases Nat.eq_zero_or_pos (n % lP) with h0 | h0
   · exact h0
   · exfalso
     have hx : n % lP < lP := Nat.mod_lt _ lP_pos
     have h1 : Co (E.mul (n % lP) P) 0 := co_trans (co_mod he (Nat.mod_mod _ _)) h
     have hi := powL_inv' h0 hx rfl
     have h2 := co_mul h1 (powL (n % lP) (lP - 2))
     rw [← E.mul_mul, E.mul_of_zero] at h2
     have h3 : Co (E.mul 1 P) (E.mul (n % lP * powL (n % lP) (lP - 2)) P) := co_mod he (by rw [hi]; exact Nat.mod_eq_of_lt (by unfold lP; decide))
     rw [E.mul_one] at h3
     exact hne (co_trans h3 h2)
 · intro h
   exact co_mod he (b := 0) (by rw [h]; rfl)
theorem bE_ne : ¬ Co bE 0 := fun h => bN_ne (bE_pt.zero_iff.2 h)
theorem bE_ord {n : Nat} : Co (E.mul n bE) 0 ↔ n % lP = 0 := ord_of bE_pt.1 bE_ne
theorem co_cancel {X Y : E} (h : Co (X + Y) X) : Co Y 0 := by
 have h2 := co_add h (co_refl (-X))
 rw [E.add_comm X Y, E.add_assoc, E.add_neg, E.add_zero] at h2
 exact h2
end Go.Proofs.YtdkmcpbjicnfmaaGreat

/-
  The law's known signature, worked out.
-/
namespace Go.Proofs.YtdkmcpbjicnfmaaGreat
open Go Vx Go.RowKit

abbrev r5 : Nat := 57508903943393600895749509425442319287243818866879131272463261763848326966948
end Go.Proofs.YtdkmcpbjicnfmaaGreat
