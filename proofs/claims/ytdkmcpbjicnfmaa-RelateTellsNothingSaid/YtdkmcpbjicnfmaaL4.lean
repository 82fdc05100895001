/-
  Contracts of the document's numbers: ones.
-/
import Derived.Test.YtdkmcpbjicnfmaaL3
import Derived.Test.YtdkmcpbjicnfmaaM3
import Derived.Test.YtdkmcpbjicnfmaaLb19
import Derived.Test.YtdkmcpbjicnfmaaM2
namespace Go.Proofs.Ytdkmcpbjicnfmaa
open Go Vx Go.RowKit
end Go.Proofs.Ytdkmcpbjicnfmaa

/-
  Contracts of the document's numbers: powers.
-/
namespace Go.Proofs.Ytdkmcpbjicnfmaa
open Go Vx Go.RowKit

theorem pow_one (a e : Nat) : mulP (powP a e) a = powP a (1 + e) := by
  rw [mulP_eq, powP_eq, powP_eq, Nat.mod_mul_mod, ← Nat.pow_succ]
  congr 2; omega

def e3 : Nat := 7237005577332262213973186563042994240829374041602535252466099000494570602494
end Go.Proofs.Ytdkmcpbjicnfmaa

/-
  Contracts of the document's numbers: sums, opposites, signs, bytes.
-/
namespace Go.Proofs.Ytdkmcpbjicnfmaa
open Go Vx Go.RowKit

noncomputable def negN : Nat → Nat := hidden' fun a => if a ≤ pP then (pP - a) % pP else (pP + 115792089237316195423570985008687907853269984665640564039457584007913129639936 - a) % pP
theorem negN_eq (a : Nat) : negN a = if a ≤ pP then (pP - a) % pP else (pP + 115792089237316195423570985008687907853269984665640564039457584007913129639936 - a) % pP := by unfold negN; rw [seal_eq]
noncomputable def oddN : Nat → Bool := hidden' fun a => decide (a % 2 = 1)
theorem oddN_eq (a : Nat) : oddN a = decide (a % 2 = 1) := by unfold oddN; rw [seal_eq]
noncomputable def absN (a : Nat) : Nat := bif oddN a then negN a else a
end Go.Proofs.Ytdkmcpbjicnfmaa

/-
  Contracts of the document's numbers: roots, bytes.
-/
namespace Go.Proofs.Ytdkmcpbjicnfmaa
open Go Vx Go.RowKit

noncomputable def rtX0 (w : Nat) : Nat := bif decide (mulP (powP w e3) (powP w e3) = w) then powP w e3 else mulP (powP w e3) iP
noncomputable def rtX : Nat → Nat := hidden' rtX0
theorem rtX_eq (w : Nat) : rtX w = rtX0 w := by unfold rtX; rw [seal_eq]
noncomputable def rtB : Nat → Bool := hidden' fun w => decide (mulP (rtX w) (rtX w) = w)
theorem rtB_eq (w : Nat) : rtB w = decide (mulP (rtX w) (rtX w) = w) := by unfold rtB; rw [seal_eq]
end Go.Proofs.Ytdkmcpbjicnfmaa

/-
  Contracts of the document's numbers: the root of a quotient; its numbers are the program's.
-/
namespace Go.Proofs.Ytdkmcpbjicnfmaa
open Go Vx Go.RowKit

noncomputable def nr0 (u v : Nat) : Nat × Bool := bif decide (u = 0) then (0, true) else bif decide (v = 0) then (0, false) else bif rtB (mulP u (invP v)) then (absN (rtX (mulP u (invP v))), true) else (absN (rtX (mulP (mulP u (invP v)) iP)), false)
noncomputable def nrR : Nat → Nat → Nat := hidden' fun u v => (nr0 u v).1
noncomputable def nrB : Nat → Nat → Bool := hidden' fun u v => (nr0 u v).2
theorem nrR_eq (u v : Nat) : nrR u v = (nr0 u v).1 := by unfold nrR; rw [seal_eq]
theorem nrB_eq (u v : Nat) : nrB u v = (nr0 u v).2 := by unfold nrB; rw [seal_eq]

theorem zero_lt : 0 < pP := by decide
theorem negN_of {a : Nat} (h : a < pP) : negN a = negP a := by
  rw [negN_eq, negP_eq, if_pos (Nat.le_of_lt h), Nat.mod_eq_of_lt h]
theorem oddN_of {a : Nat} (h : a < pP) : oddN a = oddP a := by rw [oddN_eq, oddP_eq, Nat.mod_eq_of_lt h]
theorem absN_of {a : Nat} (h : a < pP) : absN a = absP a := by
  unfold absN
  rw [oddN_of h, negN_of h, absP_eq, oddP_eq, negP_eq, Nat.mod_eq_of_lt h]
  by_cases ho : a % 2 = 1
  · rw [if_pos ho, decide_eq_true ho, cond_true]
  · rw [if_neg ho, decide_eq_false ho, cond_false]
theorem subN_of {a b : Nat} (h : b < pP) : addP a (negN b) = subP a b := by rw [negN_of h, subP_add]
theorem e3_K : e3 = e3K := rfl
theorem k_rtX {w : Nat} (h : w < pP) : k (rtX w) = rx (k w) ∧ rtX w < pP := by
  rw [rtX_eq]
  unfold rtX0 rx rxE
  have h1 : k (powP w e3) = k w ^ e3K := by rw [k_pow, e3_K]
  have h2 : powP w e3 < pP := powP_lt _ _
  rw [← h1]
  generalize powP w e3 = x at *
  have hd : decide (mulP x x = w) = decide (k x * k x = k w) := by
    refine decide_eq_decide.2 ?_
    rw [← k_mul]
    exact ⟨fun e => by rw [e], fun e => k_inj (mulP_lt _ _) h e⟩
  rw [hd]
  cases decide (k x * k x = k w) with
  | true => exact ⟨rfl, h2⟩
  | false => exact ⟨by simp only [cond_false, k_mul, k_iP], mulP_lt _ _⟩
theorem k_rtB {w : Nat} (h : w < pP) : rtB w = decide (rx (k w) * rx (k w) = k w) := by
  rw [rtB_eq]
  refine decide_eq_decide.2 ?_
  rw [← (k_rtX h).1, ← k_mul]
  exact ⟨fun e => by rw [e], fun e => k_inj (mulP_lt _ _) h e⟩
theorem k_eq0 {a : Nat} (h : a < pP) : decide (a = 0) = decide (k a = 0) := by
  refine decide_eq_decide.2 ⟨fun e => by rw [e]; rfl, fun e => k_inj h (by decide) e⟩
theorem bif3 (a b c : Bool) (x y : Nat) : k (bif a then ((0 : Nat), true) else bif b then (0, false) else bif c then (x, true) else (y, false)).1 = (bif a then 0 else bif b then 0 else bif c then k x else k y) ∧
    (bif a then ((0 : Nat), true) else bif b then (0, false) else bif c then (x, true) else (y, false)).2 = (bif a then true else bif b then false else c) ∧
    (x < pP → y < pP → (bif a then ((0 : Nat), true) else bif b then (0, false) else bif c then (x, true) else (y, false)).1 < pP) := by
  cases a <;> cases b <;> cases c <;> simp only [cond_true, cond_false, k_zero] <;> exact ⟨trivial, trivial, fun h1 h2 => by first | exact zero_lt | exact h1 | exact h2⟩
theorem nr_key {u v : Nat} (hu : u < pP) (hv : v < pP) : k (nrR u v) = nR rx (k u) (k v) ∧ nrB u v = nB rx (k u) (k v) ∧ nrR u v < pP := by
  have hx : k (rtX (mulP u (invP v))) = rx (k u * kinv (k v)) := by rw [(k_rtX (mulP_lt u (invP v))).1, k_mul, k_inv]
  have hy : k (rtX (mulP (mulP u (invP v)) iP)) = rx (k u * kinv (k v) * kI) := by rw [(k_rtX (mulP_lt (mulP u (invP v)) iP)).1, k_mul, k_mul, k_inv, k_iP]
  have hb : rtB (mulP u (invP v)) = decide (rx (k u * kinv (k v)) * rx (k u * kinv (k v)) = k u * kinv (k v)) := by rw [k_rtB (mulP_lt _ _), k_mul, k_inv]
  have hx' : k (absN (rtX (mulP u (invP v)))) = (rx (k u * kinv (k v))).abs := by rw [absN_of (k_rtX (mulP_lt u (invP v))).2, k_abs, hx]
  have hy' : k (absN (rtX (mulP (mulP u (invP v)) iP))) = (rx (k u * kinv (k v) * kI)).abs := by rw [absN_of (k_rtX (mulP_lt (mulP u (invP v)) iP)).2, k_abs, hy]
  have lx : absN (rtX (mulP u (invP v))) < pP := by rw [absN_of (k_rtX (mulP_lt u (invP v))).2]; exact absP_lt _
  have ly : absN (rtX (mulP (mulP u (invP v)) iP)) < pP := by rw [absN_of (k_rtX (mulP_lt (mulP u (invP v)) iP)).2]; exact absP_lt _
  obtain ⟨b1, b2, b3⟩ := bif3 (decide (u = 0)) (decide (v = 0)) (rtB (mulP u (invP v))) (absN (rtX (mulP u (invP v)))) (absN (rtX (mulP (mulP u (invP v)) iP)))
  rw [nrR_eq, nrB_eq]
  unfold nr0
  refine ⟨b1.trans ?_, b2.trans ?_, b3 lx ly⟩
  · rw [hx', hy', hb, k_eq0 hu, k_eq0 hv]
    unfold nR
    rfl
  · rw [hb, k_eq0 hu, k_eq0 hv]
    unfold nB
    rfl
theorem nroot_eq {u v : Nat} (hu : u < pP) (hv : v < pP) : nrR u v = rootR u v ∧ nrB u v = rootB u v := by
  obtain ⟨h2, h3⟩ := root_is u v
  obtain ⟨h4, h5⟩ := (nroot_is rx_sq (k u) (k v)).unique h2
  obtain ⟨k1, k2, k3⟩ := nr_key hu hv
  exact ⟨k_inj k3 h3 (k1.trans h4), k2.trans h5⟩
theorem nrR_of {u v : Nat} (hu : u < pP) (hv : v < pP) : nrR u v = rootR u v := (nroot_eq hu hv).1
theorem nrB_of {u v : Nat} (hu : u < pP) (hv : v < pP) : nrB u v = rootB u v := (nroot_eq hu hv).2
theorem rootR_lt (u v : Nat) : rootR u v < pP := (root_is u v).2
theorem can1 : canP 1 = 1 := by rw [canP_eq]; decide
theorem one_lt : 1 < pP := by decide
end Go.Proofs.Ytdkmcpbjicnfmaa

/-
  Contracts of the document's curve.
-/
namespace Go.Proofs.Ytdkmcpbjicnfmaa
open Go Vx Go.RowKit
end Go.Proofs.Ytdkmcpbjicnfmaa

/-
  Contracts of the document's elements: out of bytes.
-/
namespace Go.Proofs.Ytdkmcpbjicnfmaa
open Go Vx Go.RowKit
end Go.Proofs.Ytdkmcpbjicnfmaa
