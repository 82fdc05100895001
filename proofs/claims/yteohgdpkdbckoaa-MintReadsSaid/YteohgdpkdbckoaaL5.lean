/-
  Contracts of the document's curve and elements: sums, bytes.
-/
import Derived.Test.YteohgdpkdbckoaaL4
import Derived.Test.YteohgdpkdbckoaaLb29
namespace Go.Proofs.Yteohgdpkdbckoaa
open Go Vx Go.RowKit

noncomputable def aqX : Nat → Nat → Nat → Nat → Nat → Nat → Nat → Nat := hidden' fun x y z x1 y1 z1 d => mulP (mulP (mulP z z1) (addP (mulP (mulP z z1) (mulP z z1)) (negN (mulP d (mulP (mulP x x1) (mulP y y1)))))) (addP (mulP x y1) (mulP x1 y))
noncomputable def aqY : Nat → Nat → Nat → Nat → Nat → Nat → Nat → Nat := hidden' fun x y z x1 y1 z1 d => mulP (mulP (mulP z z1) (addP (mulP (mulP z z1) (mulP z z1)) (mulP d (mulP (mulP x x1) (mulP y y1))))) (addP (mulP y y1) (mulP x x1))
noncomputable def aqZ : Nat → Nat → Nat → Nat → Nat → Nat → Nat → Nat := hidden' fun x y z x1 y1 z1 d => mulP (addP (mulP (mulP z z1) (mulP z z1)) (negN (mulP d (mulP (mulP x x1) (mulP y y1))))) (addP (mulP (mulP z z1) (mulP z z1)) (mulP d (mulP (mulP x x1) (mulP y y1))))
theorem aqX_eq (x y z x1 y1 z1 d : Nat) : aqX x y z x1 y1 z1 d = mulP (mulP (mulP z z1) (addP (mulP (mulP z z1) (mulP z z1)) (negN (mulP d (mulP (mulP x x1) (mulP y y1)))))) (addP (mulP x y1) (mulP x1 y)) := by unfold aqX; rw [seal_eq]
theorem aqY_eq (x y z x1 y1 z1 d : Nat) : aqY x y z x1 y1 z1 d = mulP (mulP (mulP z z1) (addP (mulP (mulP z z1) (mulP z z1)) (mulP d (mulP (mulP x x1) (mulP y y1))))) (addP (mulP y y1) (mulP x x1)) := by unfold aqY; rw [seal_eq]
theorem aqZ_eq (x y z x1 y1 z1 d : Nat) : aqZ x y z x1 y1 z1 d = mulP (addP (mulP (mulP z z1) (mulP z z1)) (negN (mulP d (mulP (mulP x x1) (mulP y y1))))) (addP (mulP (mulP z z1) (mulP z z1)) (mulP d (mulP (mulP x x1) (mulP y y1)))) := by unfold aqZ; rw [seal_eq]

noncomputable def sQAddByF : List D → Option (List Bool × V)
  | [.n x, .n y, .n z, .n x1, .n y1, .n z1, .n d] => some ([], vqt (aqX x y z x1 y1 z1 d) (aqY x y z x1 y1 z1 d) (aqZ x y z x1 y1 z1 d))
  | _ => none
noncomputable def sQAddBy : FSpec := spec [tqt, tqt, tnm] sQAddByF
noncomputable abbrev tabQAddBy : List (FuncId × FSpec) := [(45, sNMul), (47, sNAdd), (46, sNSub)]
set_option maxRecDepth 100000 in
theorem tabokQAddBy : TabOK Try.prog (tabOf tabQAddBy) := (.cons ok_NMul (.cons ok_NAdd (.cons ok_NSub .nil)))

noncomputable def sQAddF : List D → Option (List Bool × V)
  | [.n x, .n y, .n z, .n x1, .n y1, .n z1] => some ([], vqt (aqX x y z x1 y1 z1 dP) (aqY x y z x1 y1 z1 dP) (aqZ x y z x1 y1 z1 dP))
  | _ => none
noncomputable def sQAdd : FSpec := spec [tqt, tqt] sQAddF

theorem qN_eq : nrR (canP 1) (negN (addP (canP 1) dP)) = fitNP := by
  rw [can1, negN_of (addP_lt _ _), nrR_of one_lt (negP_lt _), fitNP_eq, lessP_eq]
theorem qM_eq : negN (nrR (negN (addP (canP 1) dP)) (canP 1)) = fitMP := by
  rw [can1, negN_of (addP_lt 1 dP), nrR_of (negP_lt _) one_lt, negN_of (rootR_lt _ _), fitMP_eq, lessP_eq]

noncomputable def sQMinusF : List D → Option (List Bool × V)
  | [] => some ([], vnm (negN (addP (canP 1) dP)))
  | _ => none
noncomputable def sQMinus : FSpec := spec [] sQMinusF
noncomputable abbrev tabQMinus : List (FuncId × FSpec) := [(48, sNNeg), (47, sNAdd), (44, sNOf), (49, sQD)]
set_option maxRecDepth 100000 in
theorem tabokQMinus : TabOK Try.prog (tabOf tabQMinus) := (.cons ok_NNeg (.cons ok_NAdd (.cons ok_NOf (.cons ok_QD .nil))))

noncomputable def sQNF : List D → Option (List Bool × V)
  | [] => some ([], vnm fitNP)
  | _ => none
noncomputable def sQN : FSpec := spec [] sQNF

noncomputable def sQMF : List D → Option (List Bool × V)
  | [] => some ([], vnm fitMP)
  | _ => none
noncomputable def sQM : FSpec := spec [] sQMF

noncomputable def sQAffF : List D → Option (List Bool × V)
  | [.n x, .n y, .n z] => some ([], .tup [unm (mulP x (invP z)), unm (mulP y (invP z))])
  | _ => none
noncomputable def sQAff : FSpec := spec [tqt] sQAffF
noncomputable abbrev tabQAff : List (FuncId × FSpec) := [(45, sNMul), (78, sNInv)]
set_option maxRecDepth 100000 in
theorem tabokQAff : TabOK Try.prog (tabOf tabQAff) := (.cons ok_NMul (.cons ok_NInv .nil))
end Go.Proofs.Yteohgdpkdbckoaa

/-
  Contracts of the document's elements: into bytes; points of a seed.
-/
namespace Go.Proofs.Yteohgdpkdbckoaa
open Go Vx Go.RowKit

theorem mulP_comm (a b : Nat) : mulP a b = mulP b a := by rw [mulP_eq, mulP_eq, Nat.mul_comm]
noncomputable def gU (Y : Nat) : Nat := addP (canP 1) (negN (mulP Y Y))
noncomputable def gR (X Y : Nat) : Nat := nrR (canP 1) (mulP (gU Y) (mulP (mulP X Y) (mulP X Y)))
noncomputable def gA (X Y : Nat) : Nat := mulP (gR X Y) (gU Y)
noncomputable def gE (X Y : Nat) : Nat := mulP (gR X Y) (mulP X Y)
noncomputable def gC (X Y : Nat) : Nat := mulP (mulP (gA X Y) (gE X Y)) (mulP X Y)
noncomputable def g1 (X Y : Nat) : Bool := oddN (mulP (mulP X Y) (gC X Y))
noncomputable def g2 (X Y : Nat) : Bool := oddN (mulP (mulP iP Y) (gC X Y))
noncomputable def g3 (X Y : Nat) : Bool := oddN (mulP X (gC X Y))
noncomputable def gV1 (X Y : Nat) : Nat := absN (mulP (mulP (gA X Y) fitNP) (addP (canP 1) (negN (negN (mulP iP X)))))
noncomputable def gV2 (X Y : Nat) : Nat := absN (mulP (mulP (gA X Y) fitNP) (addP (canP 1) (negN (mulP iP X))))
noncomputable def gV3 (X Y : Nat) : Nat := absN (mulP (gE X Y) (addP (canP 1) (negN (negN Y))))
noncomputable def gV4 (X Y : Nat) : Nat := absN (mulP (gE X Y) (addP (canP 1) (negN Y)))
def treeGE (a b c : Bool) (v1 v2 v3 v4 : Nat) : Out := bif a then (bif b then outV (vb32 v1) else outV (vb32 v2)) else (bif c then outV (vb32 v3) else outV (vb32 v4))
theorem treeGE_eq (a b c : Bool) (v1 v2 v3 v4 : Nat) : treeGE a b c v1 v2 v3 v4 = outV (vb32 (bif a then (bif b then v1 else v2) else (bif c then v3 else v4))) := by cases a <;> cases b <;> cases c <;> rfl
theorem gU_eq (Y : Nat) : gU Y = mulP (addP 1 Y) (subP 1 Y) := by
  unfold gU
  rw [can1, subN_of (mulP_lt _ _)]
  refine k_inj (subP_lt _ _) (mulP_lt _ _) ?_
  simp only [k_sub, k_mul, k_add, k_one]
  grind
theorem gR_eq (X Y : Nat) : gR X Y = rootR 1 (mulP (gU Y) (mulP (mulP X Y) (mulP X Y))) := by unfold gR; rw [can1, nrR_of one_lt (mulP_lt _ _)]
theorem gsub {a : Nat} (h : a < pP) : addP (canP 1) (negN a) = subP 1 a := by rw [can1, subN_of h]
theorem encQ_eq {X Y : Nat} (_ : X < pP) (hY : Y < pP) : (bif g1 X Y then (bif g2 X Y then gV1 X Y else gV2 X Y) else (bif g3 X Y then gV3 X Y else gV4 X Y)) = rencP ⟨X, Y, 1, mulP X Y⟩ := by
  rw [rencP_eq]
  have e1 : g1 X Y = oddP (mulP (mulP X Y) (gC X Y)) := oddN_of (mulP_lt _ _)
  have e2 : g2 X Y = oddP (mulP (mulP Y iP) (gC X Y)) := by unfold g2; rw [oddN_of (mulP_lt _ _), mulP_comm iP Y]
  have e3 : g3 X Y = oddP (mulP X (gC X Y)) := oddN_of (mulP_lt _ _)
  have f1 : gV1 X Y = absP (mulP (mulP (gA X Y) fitNP) (subP 1 (negP (mulP X iP)))) := by unfold gV1; rw [absN_of (mulP_lt _ _), gsub (negN_lt _), negN_of (mulP_lt _ _), mulP_comm iP X]
  have f2 : gV2 X Y = absP (mulP (mulP (gA X Y) fitNP) (subP 1 (mulP X iP))) := by unfold gV2; rw [absN_of (mulP_lt _ _), gsub (mulP_lt _ _), mulP_comm iP X]
  have f3 : gV3 X Y = absP (mulP (gE X Y) (subP 1 (negP Y))) := by unfold gV3; rw [absN_of (mulP_lt _ _), gsub (negN_lt _), negN_of hY]
  have f4 : gV4 X Y = absP (mulP (gE X Y) (subP 1 Y)) := by unfold gV4; rw [absN_of (mulP_lt _ _), gsub hY]
  rw [e1, e2, e3, f1, f2, f3, f4]
  unfold gC gE gA
  rw [gR_eq, gU_eq]
  unfold renc0
  simp only []
  generalize rootR 1 (mulP (mulP (addP 1 Y) (subP 1 Y)) (mulP (mulP X Y) (mulP X Y))) = r
  generalize mulP r (mulP (addP 1 Y) (subP 1 Y)) = a
  generalize mulP r (mulP X Y) = b
  generalize mulP (mulP a b) (mulP X Y) = c
  rw [can_of (absP_lt _)]
  cases oddP (mulP (mulP X Y) c) with
  | true =>
    simp only [cond_true]
    cases oddP (mulP (mulP Y iP) c) <;> rfl
  | false =>
    simp only [cond_false]
    cases oddP (mulP X c) <;> rfl

noncomputable def sQEncF : List D → Option (List Bool × V)
  | [.n x, .n y, .n z] => some ([], vb32 (rencP ⟨mulP x (invP z), mulP y (invP z), 1, mulP (mulP x (invP z)) (mulP y (invP z))⟩))
  | _ => none
noncomputable def sQEnc : FSpec := spec [tqt] sQEncF

noncomputable def hR (y : Nat) : Nat := nrR (addP (mulP y y) (negN (canP 1))) (addP (mulP dP (mulP y y)) (canP 1))
noncomputable def hB (y : Nat) : Bool := nrB (addP (mulP y y) (negN (canP 1))) (addP (mulP dP (mulP y y)) (canP 1))
noncomputable def atQ0 (y : Nat) (o : Bool) : Nat × Nat × Nat := bif !(!hB y || (o && decide (hR y = 0))) then (bif o then negN (hR y) else hR y, y, canP 1) else (0, 0, 0)
noncomputable def atQX : Nat → Bool → Nat := hidden' fun y o => (atQ0 y o).1
noncomputable def atQY : Nat → Bool → Nat := hidden' fun y o => (atQ0 y o).2.1
noncomputable def atQZ : Nat → Bool → Nat := hidden' fun y o => (atQ0 y o).2.2
noncomputable def atQB : Nat → Bool → Bool := hidden' fun y o => !(!hB y || (o && decide (hR y = 0)))
theorem atQX_eq (y : Nat) (o : Bool) : atQX y o = (atQ0 y o).1 := by unfold atQX; rw [seal_eq]
theorem atQY_eq (y : Nat) (o : Bool) : atQY y o = (atQ0 y o).2.1 := by unfold atQY; rw [seal_eq]
theorem atQZ_eq (y : Nat) (o : Bool) : atQZ y o = (atQ0 y o).2.2 := by unfold atQZ; rw [seal_eq]
theorem atQB_eq (y : Nat) (o : Bool) : atQB y o = !(!hB y || (o && decide (hR y = 0))) := by unfold atQB; rw [seal_eq]
def treeQAt (b o c : Bool) (x n y z : Nat) : Out :=
  bif !b then outV (.tup [uqt0, ubool false])
  else bif o then (bif c then outV (.tup [uqt0, ubool false]) else (bif o then outV (.tup [uqt n y z, ubool true]) else outV (.tup [uqt x y z, ubool true])))
  else (bif o then outV (.tup [uqt n y z, ubool true]) else outV (.tup [uqt x y z, ubool true]))
def valQAt (b o c : Bool) (x n y z : Nat) : V := bif !(!b || (o && c)) then .tup [uqt (bif o then n else x) y z, ubool true] else .tup [uqt0, ubool false]
theorem treeQAt_eq (b o c : Bool) (x n y z : Nat) : treeQAt b o c x n y z = outV (valQAt b o c x n y z) := by cases b <;> cases o <;> cases c <;> rfl
theorem qat_ent (y : Nat) (o : Bool) : VEnt (valQAt (hB y) o (allB [decide (hR y = 0)]) (hR y) (negN (hR y)) y (canP 1)) (.tup [uqt (atQX y o) (atQY y o) (atQZ y o), ubool (atQB y o)]) := by
  rw [atQX_eq, atQY_eq, atQZ_eq, atQB_eq]
  unfold atQ0 valQAt
  simp only [allB]
  cases (!(!hB y || (o && decide (hR y = 0)))) with
  | true => exact VEnt.refl _
  | false => exact VEnt.tup2 uqt0_ent (UEnt.refl _)

noncomputable def sQAtF : List D → Option (List Bool × V)
  | [.n y, .b o] => some ([], .tup [uqt (atQX y o) (atQY y o) (atQZ y o), ubool (atQB y o)])
  | _ => none
noncomputable def sQAt : FSpec := spec [tnm, tbool] sQAtF
noncomputable abbrev tabQAt : List (FuncId × FSpec) := [(45, sNMul), (46, sNSub), (44, sNOf), (47, sNAdd), (49, sQD), (50, sNRoot), (52, sNZero), (48, sNNeg)]
set_option maxRecDepth 100000 in
theorem tabokQAt : TabOK Try.prog (tabOf tabQAt) := (.cons ok_NMul (.cons ok_NSub (.cons ok_NOf (.cons ok_NAdd (.cons ok_QD (.cons ok_NRoot (.cons ok_NZero (.cons ok_NNeg .nil))))))))

theorem hR_eq (y : Nat) : hR (canP y) = rootR (subP (mulP y y) 1) (addP (mulP dP (mulP y y)) 1) := by
  unfold hR
  rw [mulP_can, can1, subN_of one_lt, nrR_of (subP_lt _ _) (addP_lt _ _)]
theorem hB_eq (y : Nat) : hB (canP y) = rootB (subP (mulP y y) 1) (addP (mulP dP (mulP y y)) 1) := by
  unfold hB
  rw [mulP_can, can1, subN_of one_lt, nrB_of (subP_lt _ _) (addP_lt _ _)]
theorem atQB_of (y : Nat) (o : Bool) : atQB (canP y) o = atB y o := by rw [atQB_eq, hB_eq, hR_eq, atB_eq]
/-- Three numbers are a point's. -/
structure RepQ (x y z : Nat) (P : E) : Prop where
  hz : k z ≠ 0
  hx : k x = P.x * k z
  hy : k y = P.y * k z
theorem atQ_rep {y : Nat} {o : Bool} (h : atB y o = true) {P : E} (hP : RepP (atP y o) P) : RepQ (atQX (canP y) o) (atQY (canP y) o) (atQZ (canP y) o) P := by
  have hq : atQX (canP y) o = (atP y o).x ∧ atQY (canP y) o = (atP y o).y ∧ atQZ (canP y) o = (atP y o).z := by
    rw [atQX_eq, atQY_eq, atQZ_eq, atP_eq]
    unfold atQ0 at0
    rw [← atQB_eq, atQB_of, h, hR_eq, negN_of (rootR_lt _ _), can1]
    exact ⟨rfl, rfl, rfl⟩
  obtain ⟨e1, e2, e3⟩ := hq
  rw [e1, e2, e3]
  exact ⟨hP.z, hP.x, hP.y⟩
theorem addQ_rep {x y z x1 y1 z1 : Nat} {P Q : E} (h1 : RepQ x y z P) (h2 : RepQ x1 y1 z1 Q) : RepQ (aqX x y z x1 y1 z1 dP) (aqY x y z x1 y1 z1 dP) (aqZ x y z x1 y1 z1 dP) (P + Q) := by
  obtain ⟨hz, hx, hy⟩ := h1
  obtain ⟨hz1, hx1, hy1⟩ := h2
  obtain ⟨d1, d2⟩ := E.den P Q
  have sx := E.add_x P Q
  have sy := E.add_y P Q
  rw [aqX_eq, aqY_eq, aqZ_eq]
  refine ⟨?_, ?_, ?_⟩
  · simp only [k_mul, k_add, subN_of (mulP_lt dP _), k_sub, k_dP, hx, hy, hx1, hy1]
    have e : k z * k z1 * (k z * k z1) * (k z * k z1 * (k z * k z1)) * ((1 - P.m Q) * (1 + P.m Q)) =
        (k z * k z1 * (k z * k z1) - kD * (P.x * k z * (Q.x * k z1) * (P.y * k z * (Q.y * k z1)))) * (k z * k z1 * (k z * k z1) + kD * (P.x * k z * (Q.x * k z1) * (P.y * k z * (Q.y * k z1)))) := by
      unfold E.m
      clear sx sy d1 d2 hx hy hx1 hy1
      grind
    rw [← e]
    exact K.mul_ne (K.mul_ne (K.mul_ne (K.mul_ne hz hz1) (K.mul_ne hz hz1)) (K.mul_ne (K.mul_ne hz hz1) (K.mul_ne hz hz1))) (K.mul_ne d2 d1)
  · simp only [k_mul, k_add, subN_of (mulP_lt dP _), k_sub, k_dP, hx, hy, hx1, hy1]
    have : P.x * Q.y + Q.x * P.y = (P + Q).x * (1 + P.m Q) := sx.symm
    unfold E.m at this
    clear sx sy d1 d2 hx hy hx1 hy1 hz hz1
    generalize (P + Q).x = s at *
    grobner
  · simp only [k_mul, k_add, subN_of (mulP_lt dP _), k_sub, k_dP, hx, hy, hx1, hy1]
    have : P.y * Q.y + P.x * Q.x = (P + Q).y * (1 - P.m Q) := sy.symm
    unfold E.m at this
    clear sx sy d1 d2 hx hy hx1 hy1 hz hz1
    generalize (P + Q).y = s at *
    grobner
theorem aff_rep {x y z : Nat} {P : E} (h : RepQ x y z P) : RepP ⟨mulP x (invP z), mulP y (invP z), 1, mulP (mulP x (invP z)) (mulP y (invP z))⟩ P := by
  obtain ⟨hz, hx, hy⟩ := h
  have a1 : k (mulP x (invP z)) = P.x := by
    rw [k_mul, k_inv, hx]
    have := kinv_mul hz
    generalize kinv (k z) = i at *
    generalize k z = w at *
    grind
  have a2 : k (mulP y (invP z)) = P.y := by
    rw [k_mul, k_inv, hy]
    have := kinv_mul hz
    generalize kinv (k z) = i at *
    generalize k z = w at *
    grind
  refine ⟨?_, ?_, ?_, ?_⟩
  · show k 1 ≠ 0; exact K.one_ne
  · show k (mulP x (invP z)) = P.x * k 1; rw [a1, k_one]; grind
  · show k (mulP y (invP z)) = P.y * k 1; rw [a2, k_one]; grind
  · show k (mulP (mulP x (invP z)) (mulP y (invP z))) = P.x * P.y * k 1; rw [k_mul, a1, a2, k_one]; grind
end Go.Proofs.Yteohgdpkdbckoaa

/-
  The law RistoEncodes answers true.
-/
namespace Go.Proofs.Yteohgdpkdbckoaa
open Go Vx Go.RowKit

abbrev tsd : Ty := .ag [.pk .u64 64 4, .bool]
abbrev vsd (y : Nat) (o : Bool) : V := .u (.ag (.ps [.pk .u64 64 4 y, .bool o]))
noncomputable def twP0 (y : Nat) (o : Bool) : P4 := bif atB y o then addP4 (atP y o) (atP y o) else atP y o
noncomputable def twX : Nat → Bool → Nat := hidden' fun y o => (twP0 y o).x
noncomputable def twY : Nat → Bool → Nat := hidden' fun y o => (twP0 y o).y
noncomputable def twZ : Nat → Bool → Nat := hidden' fun y o => (twP0 y o).z
noncomputable def twT : Nat → Bool → Nat := hidden' fun y o => (twP0 y o).t
noncomputable def twP (y : Nat) (o : Bool) : P4 := ⟨twX y o, twY y o, twZ y o, twT y o⟩
theorem twP_eq (y : Nat) (o : Bool) : twP y o = twP0 y o := by
  unfold twP twX twY twZ twT
  simp only [seal_eq]
noncomputable def twQX : Nat → Bool → Nat := hidden' fun y o => bif atB y o then (aqX (atQX (canP y) o) (atQY (canP y) o) (atQZ (canP y) o) (atQX (canP y) o) (atQY (canP y) o) (atQZ (canP y) o) dP) else (atQX (canP y) o)
noncomputable def twQY : Nat → Bool → Nat := hidden' fun y o => bif atB y o then (aqY (atQX (canP y) o) (atQY (canP y) o) (atQZ (canP y) o) (atQX (canP y) o) (atQY (canP y) o) (atQZ (canP y) o) dP) else (atQY (canP y) o)
noncomputable def twQZ : Nat → Bool → Nat := hidden' fun y o => bif atB y o then (aqZ (atQX (canP y) o) (atQY (canP y) o) (atQZ (canP y) o) (atQX (canP y) o) (atQY (canP y) o) (atQZ (canP y) o) dP) else (atQZ (canP y) o)
theorem twQX_eq (y : Nat) (o : Bool) : twQX y o = bif atB y o then (aqX (atQX (canP y) o) (atQY (canP y) o) (atQZ (canP y) o) (atQX (canP y) o) (atQY (canP y) o) (atQZ (canP y) o) dP) else (atQX (canP y) o) := by unfold twQX; rw [seal_eq]
theorem twQY_eq (y : Nat) (o : Bool) : twQY y o = bif atB y o then (aqY (atQX (canP y) o) (atQY (canP y) o) (atQZ (canP y) o) (atQX (canP y) o) (atQY (canP y) o) (atQZ (canP y) o) dP) else (atQY (canP y) o) := by unfold twQY; rw [seal_eq]
theorem twQZ_eq (y : Nat) (o : Bool) : twQZ y o = bif atB y o then (aqZ (atQX (canP y) o) (atQY (canP y) o) (atQZ (canP y) o) (atQX (canP y) o) (atQY (canP y) o) (atQZ (canP y) o) dP) else (atQZ (canP y) o) := by unfold twQZ; rw [seal_eq]
noncomputable def treeTw (a b : Bool) (y : Nat) (o : Bool) : Out := bif !a then outV (.tup [upP (atP y o), uqt (atQX (canP y) o) (atQY (canP y) o) (atQZ (canP y) o), ubool false]) else bif !b then outV (.tup [upP (atP y o), uqt (atQX (canP y) o) (atQY (canP y) o) (atQZ (canP y) o), ubool false]) else
  outV (.tup [upP (addP4 (atP y o) (atP y o)), uqt (aqX (atQX (canP y) o) (atQY (canP y) o) (atQZ (canP y) o) (atQX (canP y) o) (atQY (canP y) o) (atQZ (canP y) o) dP) (aqY (atQX (canP y) o) (atQY (canP y) o) (atQZ (canP y) o) (atQX (canP y) o) (atQY (canP y) o) (atQZ (canP y) o) dP) (aqZ (atQX (canP y) o) (atQY (canP y) o) (atQZ (canP y) o) (atQX (canP y) o) (atQY (canP y) o) (atQZ (canP y) o) dP), ubool true])
theorem treeTw_eq (y : Nat) (o : Bool) : treeTw (atB y o) (atQB (canP y) o) y o = outV (.tup [upP (twP y o), uqt (twQX y o) (twQY y o) (twQZ y o), ubool (atB y o)]) := by
  rw [atQB_of, twP_eq, twQX_eq, twQY_eq, twQZ_eq]
  unfold twP0 treeTw
  cases atB y o <;> rfl

noncomputable def sTwiceF : List D → Option (List Bool × V)
  | [.n y, .b o] => some ([], .tup [upP (twP y o), uqt (twQX y o) (twQY y o) (twQZ y o), ubool (atB y o)])
  | _ => none
noncomputable def sTwice : FSpec := spec [tsd] sTwiceF

theorem tw_rep {y : Nat} {o : Bool} (h : atB y o = true) : ∃ P, RepP (twP y o) P ∧ RepQ (twQX y o) (twQY y o) (twQZ y o) P ∧ Ev P := by
  obtain ⟨A, hA, _, _⟩ := at_rep h
  refine ⟨A + A, ?_, ?_, ev_double A⟩
  · rw [twP_eq]
    unfold twP0
    rw [h]
    exact add_rep hA hA
  · rw [twQX_eq, twQY_eq, twQZ_eq, h]
    exact addQ_rep (atQ_rep h hA) (atQ_rep h hA)
theorem enc_aff {q : P4} {x y z : Nat} {P : E} (h1 : RepP q P) (h2 : RepQ x y z P) (e : Ev P) : rencP q = rencP ⟨mulP x (invP z), mulP y (invP z), 1, mulP (mulP x (invP z)) (mulP y (invP z))⟩ :=
  (enc_eq h1 (aff_rep h2) e e).2 (co_refl P)
def treeRE (a b : Bool) : Out := bif !a then outV (vbool' true) else bif b then outV (vbool' true) else outV (vbool' false)
theorem re_facts (y : Nat) (o : Bool) : treeRE (atB y o) (allB [decide (rencP (twP y o) = rencP ⟨mulP (twQX y o) (invP (twQZ y o)), mulP (twQY y o) (invP (twQZ y o)), 1, mulP (mulP (twQX y o) (invP (twQZ y o))) (mulP (twQY y o) (invP (twQZ y o)))⟩)]) = outV (vbool' true) := by
  cases h : atB y o with
  | false => rfl
  | true =>
    obtain ⟨P, h1, h2, h3⟩ := tw_rep h
    rw [← enc_aff h1 h2 h3]
    simp only [allB, decide_true]
    rfl

noncomputable def sRistoEncodesF : List D → Option (List Bool × V)
  | [.n _, .b _] => some ([], vbool' true)
  | _ => none
noncomputable def sRistoEncodes : FSpec := spec [tsd] sRistoEncodesF
end Go.Proofs.Yteohgdpkdbckoaa

/-
  Contracts of the document's map.
-/
namespace Go.Proofs.Yteohgdpkdbckoaa
open Go Vx Go.RowKit

abbrev tbytes : Ty := .one (.sl [.int .u8])
abbrev vbytes (x : List (List D)) : V := .one (.rd [.int .u8] x)
def bt (x : List (List D)) (i : Nat) : Int := ((x.getD i []).headD (.n 0)).toI
def numH0 (x : List (List D)) : Nat := packL 8 ((List.range' 0 31).map (fun i => (bt x i).toNat) ++ [(bt x 31 % 128).toNat])
noncomputable def numH : List (List D) → Nat := hidden' numH0
theorem numH_eq (x : List (List D)) : numH x = numH0 x := by unfold numH; rw [seal_eq]
noncomputable def rH (t : Nat) : Nat := mulP iP (mulP t t)
noncomputable def uH (t : Nat) : Nat := mulP (addP (rH t) (canP 1)) (addP (canP 1) (negN (mulP dP dP)))
noncomputable def vH (t : Nat) : Nat := mulP (addP (negN (canP 1)) (negN (mulP (rH t) dP))) (addP (rH t) dP)
noncomputable def nH (t c : Nat) : Nat := addP (mulP (mulP c (addP (rH t) (negN (canP 1)))) (mulP (addP dP (negN (canP 1))) (addP dP (negN (canP 1))))) (negN (vH t))
noncomputable def xH (t s : Nat) : Nat := mulP (mulP (canP 2) (mulP s (vH t))) (addP (canP 1) (mulP s s))
noncomputable def yH (t s c : Nat) : Nat := mulP (addP (canP 1) (negN (mulP s s))) (mulP (nH t c) fitMP)
noncomputable def zH (t s c : Nat) : Nat := mulP (mulP (nH t c) fitMP) (addP (canP 1) (mulP s s))
noncomputable def s1H (t : Nat) : Nat := nrR (uH t) (vH t)
noncomputable def s2H (t : Nat) : Nat := negN (absN (mulP (nrR (uH t) (vH t)) t))
noncomputable def treeH (t : Nat) (b : Bool) : Out := bif !b then outV (vqt (xH t (s2H t)) (yH t (s2H t) (rH t)) (zH t (s2H t) (rH t))) else outV (vqt (xH t (s1H t)) (yH t (s1H t) (negN (canP 1))) (zH t (s1H t) (negN (canP 1))))

theorem treeH_eq (t : Nat) : treeH t (nrB (uH t) (vH t)) = outV (vqt (halfP 1 iP dP fitMP fitAP fitBP t).x (halfP 1 iP dP fitMP fitAP fitBP t).y (halfP 1 iP dP fitMP fitAP fitBP t).z) := by
  have hu : uH t = mulP (addP (rH t) 1) fitAP := by unfold uH; rw [can1, subN_of (mulP_lt _ _), fitAP_eq]
  have hv : vH t = mulP (negP (addP 1 (mulP (rH t) dP))) (addP (rH t) dP) := by
    unfold vH
    rw [can1, negN_of one_lt, subN_of (mulP_lt _ _)]
    congr 1
    refine k_inj (subP_lt _ _) (negP_lt _) ?_
    simp only [k_sub, k_neg, k_add, k_mul, k_one]
    grind
  have hv' : vH t < pP := mulP_lt _ _
  have hu' : uH t < pP := mulP_lt _ _
  have hn : ∀ c, nH t c = subP (mulP (mulP c (subP (rH t) 1)) fitBP) (vH t) := fun c => by unfold nH; rw [can1, subN_of one_lt, subN_of one_lt, subN_of hv', fitBP_eq]
  have hx : ∀ s, xH t s = mulP (mulP (addP s s) (vH t)) (addP 1 (mulP s s)) := fun s => by
    unfold xH
    rw [can1, can2]
    congr 1
    refine k_inj (mulP_lt _ _) (mulP_lt _ _) ?_
    simp only [k_mul, k_add, k_two]
    grind
  have hy : ∀ s c, yH t s c = mulP (subP 1 (mulP s s)) (mulP (nH t c) fitMP) := fun s c => by unfold yH; rw [can1, subN_of (mulP_lt _ _)]
  have hz : ∀ s c, zH t s c = mulP (mulP (nH t c) fitMP) (addP 1 (mulP s s)) := fun s c => by unfold zH; rw [can1]
  have h1 : s1H t = rootR (uH t) (vH t) := nrR_of hu' hv'
  have h2 : s2H t = negP (absP (mulP (rootR (uH t) (vH t)) t)) := by unfold s2H; rw [nrR_of hu' hv', absN_of (mulP_lt _ _), negN_of (absP_lt _)]
  rw [nrB_of hu' hv', halfP_eq]
  unfold half0 treeH
  simp only []
  rw [hx, hx, hy, hy, hz, hz, hn, hn, h1, h2, can1, negN_of one_lt]
  have hr : rH t = mulP iP (mulP t t) := rfl
  rw [hv, hu, ← hr]
  cases rootB (mulP (addP (rH t) 1) fitAP) (mulP (negP (addP 1 (mulP (rH t) dP))) (addP (rH t) dP)) <;> rfl

noncomputable def sQHalfF : List D → Option (List Bool × V)
  | [.l x] => some ([decide (32 ≤ x.length)], vqt (halfP 1 iP dP fitMP fitAP fitBP (canP (numH x))).x (halfP 1 iP dP fitMP fitAP fitBP (canP (numH x))).y (halfP 1 iP dP fitMP fitAP fitBP (canP (numH x))).z)
  | _ => none
noncomputable def sQHalf : FSpec := spec [tbytes] sQHalfF

theorem packL_snoc (b : Nat) : ∀ (l : List Nat) (d : Nat), packL b (l ++ [d]) = packL b l + 2 ^ (b * l.length) * d
  | [], d => by simp [packL]
  | e :: l, d => by
    simp only [List.cons_append, packL, packL_snoc b l d, List.length_cons]
    rw [Nat.mul_succ, Nat.pow_add, Nat.mul_add, Nat.mul_comm (2 ^ (b * l.length)) (2 ^ b), Nat.mul_assoc]
    omega
def bytesL (n k : Nat) : List (List D) := (List.range' k 32).map fun i => [.i ((digit 8 n i : Nat) : Int)]
theorem bt_bytes (n k i : Nat) (h : i < 32) : bt (bytesL n k) i = ((digit 8 n (k + i) : Nat) : Int) := by
  unfold bt bytesL
  rw [List.getD_eq_getElem?_getD, List.getElem?_map, List.getElem?_range' h]
  simp [D.toI]
theorem dig_shift (n k i : Nat) : digit 8 n (k + i) = digit 8 (n / 2 ^ (8 * k)) i := by
  unfold digit
  rw [Nat.div_div_eq_div_mul, ← Nat.pow_add]
  congr 3
  omega
theorem numH_bytes (n k : Nat) : numH (bytesL n k) = n / 2 ^ (8 * k) % 2 ^ 255 := by
  rw [numH_eq]
  unfold numH0
  have e1 : ((List.range' 0 31).map fun i => (bt (bytesL n k) i).toNat) = (List.range' 0 31).map (digit 8 (n / 2 ^ (8 * k))) := List.map_congr_left fun i hi => by
    rw [List.mem_range'] at hi
    obtain ⟨j, hj, rfl⟩ := hi
    rw [bt_bytes n k _ (by omega), Int.toNat_natCast, dig_shift]
  have e2 : (bt (bytesL n k) 31 % 128).toNat = digit 8 (n / 2 ^ (8 * k)) 31 % 128 := by
    rw [bt_bytes n k 31 (by decide), dig_shift]
    omega
  rw [e1, e2, packL_snoc, packL_digits]
  generalize n / 2 ^ (8 * k) = m
  simp only [List.length_map, List.length_range', Nat.mul_zero, Nat.pow_zero, Nat.div_one]
  unfold digit
  rw [show (255 : Nat) = 8 * 31 + 7 from rfl, Nat.pow_add, Nat.mod_mul]
  congr 2
  rw [show (2 : Nat) ^ 8 = 128 * 2 from by decide, Nat.mod_mul_right_mod]
theorem numH_lo (n : Nat) : numH (bytesL n 0) = maskP (lo256P n) := by
  rw [numH_bytes, maskP_eq, lo256P_eq, Nat.mul_zero, Nat.pow_zero, Nat.div_one, Nat.mod_mod_of_dvd]
  exact Nat.pow_dvd_pow 2 (by decide)
theorem numH_hi (n : Nat) : numH (bytesL n 32) = maskP (hi256P n) := by
  rw [numH_bytes, maskP_eq, hi256P_eq]
noncomputable abbrev hLo (b : Nat) : P4 := halfP 1 iP dP fitMP fitAP fitBP (canP (maskP (lo256P b)))
noncomputable abbrev hHi (b : Nat) : P4 := halfP 1 iP dP fitMP fitAP fitBP (canP (maskP (hi256P b)))
noncomputable def mqX : Nat → Nat := hidden' fun b => aqX (hLo b).x (hLo b).y (hLo b).z (hHi b).x (hHi b).y (hHi b).z dP
noncomputable def mqY : Nat → Nat := hidden' fun b => aqY (hLo b).x (hLo b).y (hLo b).z (hHi b).x (hHi b).y (hHi b).z dP
noncomputable def mqZ : Nat → Nat := hidden' fun b => aqZ (hLo b).x (hLo b).y (hLo b).z (hHi b).x (hHi b).y (hHi b).z dP
theorem mqX_eq (b : Nat) : mqX b = aqX (hLo b).x (hLo b).y (hLo b).z (hHi b).x (hHi b).y (hHi b).z dP := by unfold mqX; rw [seal_eq]
theorem mqY_eq (b : Nat) : mqY b = aqY (hLo b).x (hLo b).y (hLo b).z (hHi b).x (hHi b).y (hHi b).z dP := by unfold mqY; rw [seal_eq]
theorem mqZ_eq (b : Nat) : mqZ b = aqZ (hLo b).x (hLo b).y (hLo b).z (hHi b).x (hHi b).y (hHi b).z dP := by unfold mqZ; rw [seal_eq]

noncomputable def sQMapF : List D → Option (List Bool × V)
  | [.n b] => some ([], vqt (mqX b) (mqY b) (mqZ b))
  | _ => none
noncomputable def sQMap : FSpec := spec [tb64] sQMapF
end Go.Proofs.Yteohgdpkdbckoaa
