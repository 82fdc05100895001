/-
  The document's root is the root. No program stands in it.
-/
import Derived.Test.YtdkmcpbjicnfmaaM1
import Derived.Test.YtdkmcpbjicnfmaaM2
import Derived.Test.YtdkmcpbjicnfmaaU2
namespace Vx

def e3K : Nat := 7237005577332262213973186563042994240829374041602535252466099000494570602494

def rxE (e : Nat) (w : K) : K := bif decide (w ^ e * w ^ e = w) then w ^ e else w ^ e * kI

def rx (w : K) : K := rxE e3K w

section
variable {f : K → K} (hf : ∀ w, f w * f w = w ↔ Sq w)

include hf in
end
end Vx

/-
  Elements of the group, so many times, four bits at a time. No program stands in it.
-/
namespace Vx
end Vx

/-
  Elements as they are encoded: a number stands for points that count as one. No program stands in it.
-/
namespace Vx

theorem exists_rep (P : E) : ∃ q, RepP q P := by
 refine ⟨⟨P.x.val, P.y.val, 1, (P.x * P.y).val⟩, ?_, ?_, ?_, ?_⟩
 · show k 1 ≠ 0
   rw [k_one]; exact K.one_ne
 · show k P.x.val = P.x * k 1
   rw [k_of, k_one]; generalize P.x = a; grind
 · show k P.y.val = P.y * k 1
   rw [k_of, k_one]; generalize P.y = a; grind
 · show k (P.x * P.y).val = P.x * P.y * k 1
   rw [k_of, k_one]; generalize P.x * P.y = a; grind

def Pt (n : Nat) (P : E) : Prop := Ev P ∧ ∃ q, RepP q P ∧ n = rencP q

theorem Pt.of {q : P4} {P : E} (h : RepP q P) (e : Ev P) : Pt (rencP q) P := ⟨e, q, h, rfl⟩
theorem Pt.eq_iff {n m : Nat} {P Q : E} (h : Pt n P) (h' : Pt m Q) : n = m ↔ Co P Q := by
 obtain ⟨e, q, hq, rfl⟩ := h
 obtain ⟨e', q', hq', rfl⟩ := h'
 exact enc_eq hq hq' e e'
theorem Pt.eq {n m : Nat} {P Q : E} (h : Pt n P) (h' : Pt m Q) (hc : Co P Q) : n = m := (h.eq_iff h').2 hc
theorem Pt.co {n : Nat} {P Q : E} (h : Pt n P) (hc : Co P Q) : Pt n Q := by
 obtain ⟨q, hq⟩ := exists_rep Q
 have h2 := Pt.of hq (ev_co hc h.1)
 rw [h.eq h2 hc]
 exact h2
theorem Pt.dec {n : Nat} {P : E} (h : Pt n P) : rdecBP n = true ∧ ∃ Q, RepP (rdecP n) Q ∧ Co P Q ∧ Ev Q := by
 obtain ⟨e, q, hq, rfl⟩ := h
 exact dec_enc hq e
theorem Pt.lt {n : Nat} {P : E} (h : Pt n P) : n < pP := by
 obtain ⟨e, q, hq, rfl⟩ := h
 exact (enc_can hq e).2
theorem enc_id : rencP idP = 0 := by rw [rencP_C]; unfold idP; decide +kernel
theorem Pt.zero : Pt 0 0 := by
 have := Pt.of id_rep ev_zero
 rw [enc_id] at this
 exact this
theorem Pt.map (b : Nat) : ∃ P, Pt (rencP (rmapP b)) P := by
 obtain ⟨P, Q, e1, e2, _, _, h3⟩ := map_rep b
 exact ⟨P + Q, Pt.of h3 (ev_add e1 e2)⟩
theorem Pt.mod {n a b : Nat} {P : E} (h : Pt n (E.mul a P)) (e : Ev P) (hab : a % lP = b % lP) : Pt n (E.mul b P) := h.co (co_mod e hab)
end Vx
