/-
  The law RistoDecodes answers true.
-/
import Derived.Test.YteohgdpkdbckoaaL4
namespace Go.Proofs.Yteohgdpkdbckoaa
open Go Vx Go.RowKit

theorem kq_div {a z : Nat} {x : K} (hz : k z ≠ 0) (h : k a = x * k z) : k (mulP (canP a) (invP (canP z))) = x := by
  rw [k_mul, k_inv, k_can, k_can, h]
  have := kinv_mul hz
  generalize kinv (k z) = i at *
  generalize k z = w at *
  grind
theorem on_rep {q : P4} {P : E} (h : RepP q P) : onQ (canP q.x) (canP q.y) (canP q.z) (canP q.t) = true := by
  obtain ⟨hz, hx, hy, ht⟩ := h
  rw [onQ_eq]
  unfold onQ0
  have a1 := kq_div hz hx
  have a2 := kq_div hz hy
  generalize mulP (canP q.x) (invP (canP q.z)) = a at *
  generalize mulP (canP q.y) (invP (canP q.z)) = b at *
  have e0 : decide (canP q.z = 0) = false := by
    rw [decide_eq_false_iff_not]
    intro e
    apply hz
    rw [← k_can, e]; rfl
  have e1 : decide (mulP (canP q.x) (canP q.y) = mulP (canP q.z) (canP q.t)) = true := by
    rw [decide_eq_true_iff]
    refine k_inj (mulP_lt _ _) (mulP_lt _ _) ?_
    simp only [k_mul, k_can, hx, hy, ht]
    grind
  have e2 : decide (addP (mulP b b) (negN (mulP a a)) = addP (canP 1) (mulP dP (mulP (mulP a a) (mulP b b)))) = true := by
    rw [decide_eq_true_iff, subN_of (mulP_lt _ _), can1]
    refine k_inj (subP_lt _ _) (addP_lt _ _) ?_
    simp only [k_sub, k_add, k_mul, k_one, k_dP, a1, a2]
    have := P.on
    grind
  rw [e0, e1, e2]
  rfl
theorem same_of {x y z x1 y1 z1 : Nat} (hx : k x * k z1 = k x1 * k z) (hy : k y * k z1 = k y1 * k z) : sameQ (canP x) (canP y) (canP z) x1 y1 z1 = true := by
  rw [sameQ_eq, Bool.and_eq_true, decide_eq_true_iff, decide_eq_true_iff]
  exact ⟨k_inj (mulP_lt _ _) (mulP_lt _ _) (by simp only [k_mul, k_can]; exact hx), k_inj (mulP_lt _ _) (mulP_lt _ _) (by simp only [k_mul, k_can]; exact hy)⟩
def treeRD (a b c : Bool) : Out := bif !a then (bif !a then (bif b then outV (vbool' true) else outV (vbool' false)) else outV (vbool' false)) else (bif a then (bif c then outV (vbool' true) else outV (vbool' false)) else outV (vbool' false))
theorem treeRD_eq {a b c : Bool} (h1 : a = false → b = true) (h2 : a = true → c = true) : treeRD a b c = outV (vbool' true) := by
  cases a with
  | true => rw [h2 rfl]; rfl
  | false => rw [h1 rfl]; rfl
theorem rd_facts (n : Nat) : treeRD (rdecBP n) (allB [true && decide ((rdecP n).x = 0), true && decide ((rdecP n).y = 0), true && decide ((rdecP n).z = 0), true && decide ((rdecP n).t = 0)])
    (onQ (canP (rdecP n).x) (canP (rdecP n).y) (canP (rdecP n).z) (canP (rdecP n).t) && sameQ (canP (rdecP n).x) (canP (rdecP n).y) (canP (rdecP n).z) (rdecP n).x (rdecP n).y (rdecP n).z) = outV (vbool' true) := by
  refine treeRD_eq (fun h => ?_) (fun h => ?_)
  · rw [rdecP_eq]
    unfold rdec0
    rw [h]
    rfl
  · obtain ⟨P, hP, _, _⟩ := enc_dec h
    rw [on_rep hP, same_of rfl rfl]
    rfl

noncomputable def sRistoDecodesF : List D → Option (List Bool × V)
  | [.n _] => some ([], vbool' true)
  | _ => none
noncomputable def sRistoDecodes : FSpec := spec [tb32] sRistoDecodesF
end Go.Proofs.Yteohgdpkdbckoaa
