/-
  Contracts of the document's curve and elements: sums, bytes.
-/
import Derived.Test.YtdkmcpbjicnfmaaGreatL4
import Derived.Test.YtdkmcpbjicnfmaaGreatLb29
set_option maxRecDepth 100000
namespace Go.Proofs.YtdkmcpbjicnfmaaGreat
open Go Vx Go.RowKit

noncomputable def aqX : Nat → Nat → Nat → Nat → Nat → Nat → Nat → Nat := hidden' fun x y z x1 y1 z1 d => mulP (mulP (mulP z z1) (addP (mulP (mulP z z1) (mulP z z1)) (negN (mulP d (mulP (mulP x x1) (mulP y y1)))))) (addP (mulP x y1) (mulP x1 y))
noncomputable def aqY : Nat → Nat → Nat → Nat → Nat → Nat → Nat → Nat := hidden' fun x y z x1 y1 z1 d => mulP (mulP (mulP z z1) (addP (mulP (mulP z z1) (mulP z z1)) (mulP d (mulP (mulP x x1) (mulP y y1))))) (addP (mulP y y1) (mulP x x1))
noncomputable def aqZ : Nat → Nat → Nat → Nat → Nat → Nat → Nat → Nat := hidden' fun x y z x1 y1 z1 d => mulP (addP (mulP (mulP z z1) (mulP z z1)) (negN (mulP d (mulP (mulP x x1) (mulP y y1))))) (addP (mulP (mulP z z1) (mulP z z1)) (mulP d (mulP (mulP x x1) (mulP y y1))))
theorem aqX_eq (x y z x1 y1 z1 d : Nat) : aqX x y z x1 y1 z1 d = mulP (mulP (mulP z z1) (addP (mulP (mulP z z1) (mulP z z1)) (negN (mulP d (mulP (mulP x x1) (mulP y y1)))))) (addP (mulP x y1) (mulP x1 y)) := by unfold aqX; rw [seal_eq]
theorem aqY_eq (x y z x1 y1 z1 d : Nat) : aqY x y z x1 y1 z1 d = mulP (mulP (mulP z z1) (addP (mulP (mulP z z1) (mulP z z1)) (mulP d (mulP (mulP x x1) (mulP y y1))))) (addP (mulP y y1) (mulP x x1)) := by unfold aqY; rw [seal_eq]
theorem aqZ_eq (x y z x1 y1 z1 d : Nat) : aqZ x y z x1 y1 z1 d = mulP (addP (mulP (mulP z z1) (mulP z z1)) (negN (mulP d (mulP (mulP x x1) (mulP y y1))))) (addP (mulP (mulP z z1) (mulP z z1)) (mulP d (mulP (mulP x x1) (mulP y y1)))) := by unfold aqZ; rw [seal_eq]

noncomputable def sQAddByF : List D → Option (List Bool × V)
 | [.n x, .n y, .n z, .n x1, .n y1, .n z1, .n d] => some ([], vqt (aqX x y z x1 y1 z1 d) (aqY x y z x1 y1 z1 d) (aqZ x y z x1 y1 z1 d))
 | _ => none
noncomputable def sQAddBy : FSpec := spec [tqt, tqt, tnm] sQAddByF
noncomputable abbrev tabQAddBy : List (FuncId × FSpec) := [(146, sNMul), (174, sNAdd), (147, sNSub)]
theorem tabokQAddBy : TabOK Tryz.prog (tabOf tabQAddBy) := (.cons ok_NMul (.cons ok_NAdd (.cons ok_NSub .nil)))
theorem ok_QAddBy : FnOK Tryz.prog 177 sQAddBy := by
 refine fn_flat (cx := mkcx tabQAddBy) (c := bodyOf Tryz.f177) Tryz.func177 (by kernel_rfl) (by kernel_rfl) rfl ?_
 intro ds chk v vs hF ht he hr base
 unfold sQAddByF at hF
 split at hF
 · rename_i x y z x1 y1 z1 d
   cases hF
   have hvs : vs = [vqt x y z, vqt x1 y1 z1, vnm d] := by simp only [encA, encV, encP, encL, Option.some.injEq] at he; exact he.symm
   subst hvs
   rw [aqX_eq, aqY_eq, aqZ_eq]
   exact runs_evS (mkok tabokQAddBy) (n := 200) (bs0 := []) (by kernel_rfl) (VEnt.refl _) trivial
 · cases hF

noncomputable def sQAddF : List D → Option (List Bool × V)
 | [.n x, .n y, .n z, .n x1, .n y1, .n z1] => some ([], vqt (aqX x y z x1 y1 z1 dP) (aqY x y z x1 y1 z1 dP) (aqZ x y z x1 y1 z1 dP))
 | _ => none
noncomputable def sQAdd : FSpec := spec [tqt, tqt] sQAddF
noncomputable abbrev tabQAdd : List (FuncId × FSpec) := [(177, sQAddBy), (175, sQD)]
theorem tabokQAdd : TabOK Tryz.prog (tabOf tabQAdd) := (.cons ok_QAddBy (.cons ok_QD .nil))
theorem ok_QAdd : FnOK Tryz.prog 117 sQAdd := by
 refine fn_flat (cx := mkcx tabQAdd) (c := bodyOf Tryz.f117) Tryz.func117 (by kernel_rfl) (by kernel_rfl) rfl ?_
 intro ds chk v vs hF ht he hr base
 unfold sQAddF at hF
 split at hF
 · rename_i x y z x1 y1 z1
   cases hF
   have hvs : vs = [vqt x y z, vqt x1 y1 z1] := by simp only [encA, encV, encP, encL, Option.some.injEq] at he; exact he.symm
   subst hvs
   exact runs_evS (mkok tabokQAdd) (n := 400) (bs0 := []) (by kernel_rfl) (VEnt.refl _) trivial
 · cases hF

theorem qN_eq : nrR (canP 1) (negN (addP (canP 1) dP)) = fitNP := by
 rw [can1, negN_of (addP_lt _ _), nrR_of one_lt (negP_lt _), fitNP_eq, lessP_eq]

noncomputable def sQMinusF : List D → Option (List Bool × V)
 | [] => some ([], vnm (negN (addP (canP 1) dP)))
 | _ => none
noncomputable def sQMinus : FSpec := spec [] sQMinusF
noncomputable abbrev tabQMinus : List (FuncId × FSpec) := [(153, sNNeg), (174, sNAdd), (148, sNOf), (175, sQD)]
theorem tabokQMinus : TabOK Tryz.prog (tabOf tabQMinus) := (.cons ok_NNeg (.cons ok_NAdd (.cons ok_NOf (.cons ok_QD .nil))))
theorem ok_QMinus : FnOK Tryz.prog 196 sQMinus := by
 refine fn_flat (cx := mkcx tabQMinus) (c := bodyOf Tryz.f196) Tryz.func196 (by kernel_rfl) (by kernel_rfl) rfl ?_
 intro ds chk v vs hF ht he hr base
 unfold sQMinusF at hF
 split at hF
 · cases hF
   have hvs : vs = [] := by simp only [encA, Option.some.injEq] at he; exact he.symm
   subst hvs
   exact runs_evS (mkok tabokQMinus) (n := 400) (bs0 := []) (by kernel_rfl) (VEnt.refl _) trivial
 · cases hF

noncomputable def sQNF : List D → Option (List Bool × V)
 | [] => some ([], vnm fitNP)
 | _ => none
noncomputable def sQN : FSpec := spec [] sQNF
noncomputable abbrev tabQN : List (FuncId × FSpec) := [(149, sNRoot), (148, sNOf), (196, sQMinus)]
theorem tabokQN : TabOK Tryz.prog (tabOf tabQN) := (.cons ok_NRoot (.cons ok_NOf (.cons ok_QMinus .nil)))
theorem ok_QN : FnOK Tryz.prog 152 sQN := by
 refine fn_flat (cx := mkcx tabQN) (c := bodyOf Tryz.f152) Tryz.func152 (by kernel_rfl) (by kernel_rfl) rfl ?_
 intro ds chk v vs hF ht he hr base
 unfold sQNF at hF
 split at hF
 · cases hF
   have hvs : vs = [] := by simp only [encA, Option.some.injEq] at he; exact he.symm
   subst hvs
   rw [← qN_eq]
   exact runs_evS (mkok tabokQN) (n := 200) (bs0 := []) (by kernel_rfl) (VEnt.refl _) trivial
 · cases hF

noncomputable def sQAffF : List D → Option (List Bool × V)
 | [.n x, .n y, .n z] => some ([], .tup [unm (mulP x (invP z)), unm (mulP y (invP z))])
 | _ => none
noncomputable def sQAff : FSpec := spec [tqt] sQAffF
noncomputable abbrev tabQAff : List (FuncId × FSpec) := [(146, sNMul), (179, sNInv)]
theorem tabokQAff : TabOK Tryz.prog (tabOf tabQAff) := (.cons ok_NMul (.cons ok_NInv .nil))
theorem ok_QAff : FnOK Tryz.prog 145 sQAff := by
 refine fn_flat (cx := mkcx tabQAff) (c := bodyOf Tryz.f145) Tryz.func145 (by kernel_rfl) (by kernel_rfl) rfl ?_
 intro ds chk v vs hF ht he hr base
 unfold sQAffF at hF
 split at hF
 · rename_i x y z
   cases hF
   have hvs : vs = [vqt x y z] := by simp only [encA, encV, encP, encL, Option.some.injEq] at he; exact he.symm
   subst hvs
   exact runs_evS (mkok tabokQAff) (n := 400) (bs0 := []) (by kernel_rfl) (VEnt.refl _) trivial
 · cases hF
end Go.Proofs.YtdkmcpbjicnfmaaGreat

/-
  Contracts of the document's elements: into bytes; points of a seed.
-/
namespace Go.Proofs.YtdkmcpbjicnfmaaGreat
open Go Vx Go.RowKit

theorem mulP_comm (a b : Nat) : mulP a b = mulP b a := by rw [mulP_eq, mulP_eq, Nat.mul_comm]
noncomputable def gU (Y : Nat) : Nat := addP (canP 1) (negN (mulP Y Y))
noncomputable def gR (X Y : Nat) : Nat := nrR (canP 1) (mulP (gU Y) (mulP (mulP X Y) (mulP X Y)))
noncomputable def gA (X Y : Nat) : Nat := mulP (gR X Y) (gU Y)
noncomputable def gE (X Y : Nat) : Nat := mulP (gR X Y) (mulP X Y)
noncomputable def gC (X Y : Nat) : Nat := mulP (mulP (gA X Y) (gE X Y)) (mulP X Y)
noncomputable def g1 (X Y : Nat) : Bool := oddN (mulP (mulP X Y) (gC X Y))
noncomputable def g2 (X Y : Nat) : Bool := oddN (mulP (mulP iP Y) (gC X Y))
noncomputable def g3 (X Y : Nat) : Bool := oddN (mulP X (gC X Y))
noncomputable def gV1 (X Y : Nat) : Nat := absN (mulP (mulP (gA X Y) fitNP) (addP (canP 1) (negN (negN (mulP iP X)))))
noncomputable def gV2 (X Y : Nat) : Nat := absN (mulP (mulP (gA X Y) fitNP) (addP (canP 1) (negN (mulP iP X))))
noncomputable def gV3 (X Y : Nat) : Nat := absN (mulP (gE X Y) (addP (canP 1) (negN (negN Y))))
noncomputable def gV4 (X Y : Nat) : Nat := absN (mulP (gE X Y) (addP (canP 1) (negN Y)))
def treeGE (a b c : Bool) (v1 v2 v3 v4 : Nat) : Out := bif a then (bif b then outV (vb32 v1) else outV (vb32 v2)) else (bif c then outV (vb32 v3) else outV (vb32 v4))
theorem treeGE_eq (a b c : Bool) (v1 v2 v3 v4 : Nat) : treeGE a b c v1 v2 v3 v4 = outV (vb32 (bif a then (bif b then v1 else v2) else (bif c then v3 else v4))) := by cases a <;> cases b <;> cases c <;> rfl
theorem gU_eq (Y : Nat) : gU Y = mulP (addP 1 Y) (subP 1 Y) := by
 unfold gU
 rw [can1, subN_of (mulP_lt _ _)]
 refine k_inj (subP_lt _ _) (mulP_lt _ _) ?_
 simp only [k_sub, k_mul, k_add, k_one]
 grind
theorem gR_eq (X Y : Nat) : gR X Y = rootR 1 (mulP (gU Y) (mulP (mulP X Y) (mulP X Y))) := by unfold gR; rw [can1, nrR_of one_lt (mulP_lt _ _)]
theorem gsub {a : Nat} (h : a < pP) : addP (canP 1) (negN a) = subP 1 a := by rw [can1, subN_of h]
theorem encQ_eq {X Y : Nat} (_ : X < pP) (hY : Y < pP) : (bif g1 X Y then (bif g2 X Y then gV1 X Y else gV2 X Y) else (bif g3 X Y then gV3 X Y else gV4 X Y)) = rencP ⟨X, Y, 1, mulP X Y⟩ := by
 rw [rencP_eq]
 have e1 : g1 X Y = oddP (mulP (mulP X Y) (gC X Y)) := oddN_of (mulP_lt _ _)
 have e2 : g2 X Y = oddP (mulP (mulP Y iP) (gC X Y)) := by unfold g2; rw [oddN_of (mulP_lt _ _), mulP_comm iP Y]
 have e3 : g3 X Y = oddP (mulP X (gC X Y)) := oddN_of (mulP_lt _ _)
 have f1 : gV1 X Y = absP (mulP (mulP (gA X Y) fitNP) (subP 1 (negP (mulP X iP)))) := by unfold gV1; rw [absN_of (mulP_lt _ _), gsub (negN_lt _), negN_of (mulP_lt _ _), mulP_comm iP X]
 have f2 : gV2 X Y = absP (mulP (mulP (gA X Y) fitNP) (subP 1 (mulP X iP))) := by unfold gV2; rw [absN_of (mulP_lt _ _), gsub (mulP_lt _ _), mulP_comm iP X]
 have f3 : gV3 X Y = absP (mulP (gE X Y) (subP 1 (negP Y))) := by unfold gV3; rw [absN_of (mulP_lt _ _), gsub (negN_lt _), negN_of hY]
 have f4 : gV4 X Y = absP (mulP (gE X Y) (subP 1 Y)) := by unfold gV4; rw [absN_of (mulP_lt _ _), gsub hY]
 rw [e1, e2, e3, f1, f2, f3, f4]
 unfold gC gE gA
 rw [gR_eq, gU_eq]
 unfold renc0
 simp only []
 generalize rootR 1 (mulP (mulP (addP 1 Y) (subP 1 Y)) (mulP (mulP X Y) (mulP X Y))) = r
 generalize mulP r (mulP (addP 1 Y) (subP 1 Y)) = a
 generalize mulP r (mulP X Y) = b
 generalize mulP (mulP a b) (mulP X Y) = c
 rw [can_of (absP_lt _)]
 cases oddP (mulP (mulP X Y) c) with
 | true =>
   simp only [cond_true]
   cases oddP (mulP (mulP Y iP) c) <;> rfl
 | false =>
   simp only [cond_false]
   cases oddP (mulP X c) <;> rfl

noncomputable def sQEncF : List D → Option (List Bool × V)
 | [.n x, .n y, .n z] => some ([], vb32 (rencP ⟨mulP x (invP z), mulP y (invP z), 1, mulP (mulP x (invP z)) (mulP y (invP z))⟩))
 | _ => none
noncomputable def sQEnc : FSpec := spec [tqt] sQEncF
noncomputable abbrev tabQEnc : List (FuncId × FSpec) := [(145, sQAff), (146, sNMul), (147, sNSub), (148, sNOf), (149, sNRoot), (150, sNOdd), (151, sNI), (152, sQN), (153, sNNeg), (155, sNAbs), (154, sNBytes)]
theorem tabokQEnc : TabOK Tryz.prog (tabOf tabQEnc) := (.cons ok_QAff (.cons ok_NMul (.cons ok_NSub (.cons ok_NOf (.cons ok_NRoot (.cons ok_NOdd (.cons ok_NI (.cons ok_QN (.cons ok_NNeg (.cons ok_NAbs (.cons ok_NBytes .nil)))))))))))
theorem ok_QEnc : FnOK Tryz.prog 97 sQEnc := by
 refine fn_flat (cx := mkcx tabQEnc) (c := bodyOf Tryz.f97) Tryz.func97 (by kernel_rfl) (by kernel_rfl) rfl ?_
 intro ds chk v vs hF ht he hr base
 unfold sQEncF at hF
 split at hF
 · rename_i x y z
   cases hF
   have hvs : vs = [vqt x y z] := by simp only [encA, encV, encP, encL, Option.some.injEq] at he; exact he.symm
   subst hvs
   rw [← encQ_eq (mulP_lt _ _) (mulP_lt _ _)]
   exact runs_evS (mkok tabokQEnc) (n := 200) (bs0 := []) (h := Eq.trans (b := treeGE (g1 (mulP x (invP z)) (mulP y (invP z))) (g2 (mulP x (invP z)) (mulP y (invP z))) (g3 (mulP x (invP z)) (mulP y (invP z))) (gV1 (mulP x (invP z)) (mulP y (invP z))) (gV2 (mulP x (invP z)) (mulP y (invP z))) (gV3 (mulP x (invP z)) (mulP y (invP z))) (gV4 (mulP x (invP z)) (mulP y (invP z)))) (by kernel_rfl) (treeGE_eq _ _ _ _ _ _ _)) (VEnt.refl _) trivial
 · cases hF

noncomputable def hR (y : Nat) : Nat := nrR (addP (mulP y y) (negN (canP 1))) (addP (mulP dP (mulP y y)) (canP 1))
noncomputable def hB (y : Nat) : Bool := nrB (addP (mulP y y) (negN (canP 1))) (addP (mulP dP (mulP y y)) (canP 1))
noncomputable def atQ0 (y : Nat) (o : Bool) : Nat × Nat × Nat := bif !(!hB y || (o && decide (hR y = 0))) then (bif o then negN (hR y) else hR y, y, canP 1) else (0, 0, 0)
noncomputable def atQX : Nat → Bool → Nat := hidden' fun y o => (atQ0 y o).1
noncomputable def atQY : Nat → Bool → Nat := hidden' fun y o => (atQ0 y o).2.1
noncomputable def atQZ : Nat → Bool → Nat := hidden' fun y o => (atQ0 y o).2.2
noncomputable def atQB : Nat → Bool → Bool := hidden' fun y o => !(!hB y || (o && decide (hR y = 0)))
theorem atQX_eq (y : Nat) (o : Bool) : atQX y o = (atQ0 y o).1 := by unfold atQX; rw [seal_eq]
theorem atQY_eq (y : Nat) (o : Bool) : atQY y o = (atQ0 y o).2.1 := by unfold atQY; rw [seal_eq]
theorem atQZ_eq (y : Nat) (o : Bool) : atQZ y o = (atQ0 y o).2.2 := by unfold atQZ; rw [seal_eq]
theorem atQB_eq (y : Nat) (o : Bool) : atQB y o = !(!hB y || (o && decide (hR y = 0))) := by unfold atQB; rw [seal_eq]

theorem hR_eq (y : Nat) : hR (canP y) = rootR (subP (mulP y y) 1) (addP (mulP dP (mulP y y)) 1) := by
 unfold hR
 rw [mulP_can, can1, subN_of one_lt, nrR_of (subP_lt _ _) (addP_lt _ _)]
theorem hB_eq (y : Nat) : hB (canP y) = rootB (subP (mulP y y) 1) (addP (mulP dP (mulP y y)) 1) := by
 unfold hB
 rw [mulP_can, can1, subN_of one_lt, nrB_of (subP_lt _ _) (addP_lt _ _)]
theorem atQB_of (y : Nat) (o : Bool) : atQB (canP y) o = atB y o := by rw [atQB_eq, hB_eq, hR_eq, atB_eq]
structure RepQ (x y z : Nat) (P : E) : Prop where
 hz : k z ≠ 0
 hx : k x = P.x * k z
 hy : k y = P.y * k z
theorem atQ_rep {y : Nat} {o : Bool} (h : atB y o = true) {P : E} (hP : RepP (atP y o) P) : RepQ (atQX (canP y) o) (atQY (canP y) o) (atQZ (canP y) o) P := by
 have hq : atQX (canP y) o = (atP y o).x ∧ atQY (canP y) o = (atP y o).y ∧ atQZ (canP y) o = (atP y o).z := by
  rw [atQX_eq, atQY_eq, atQZ_eq, atP_eq]
  unfold atQ0 at0
  rw [← atQB_eq, atQB_of, h, hR_eq, negN_of (rootR_lt _ _), can1]
  exact ⟨rfl, rfl, rfl⟩
 obtain ⟨e1, e2, e3⟩ := hq
 rw [e1, e2, e3]
 exact ⟨hP.z, hP.x, hP.y⟩
theorem addQ_rep {x y z x1 y1 z1 : Nat} {P Q : E} (h1 : RepQ x y z P) (h2 : RepQ x1 y1 z1 Q) : RepQ (aqX x y z x1 y1 z1 dP) (aqY x y z x1 y1 z1 dP) (aqZ x y z x1 y1 z1 dP) (P + Q) := by
 obtain ⟨hz, hx, hy⟩ := h1
 obtain ⟨hz1, hx1, hy1⟩ := h2
 obtain ⟨d1, d2⟩ := E.den P Q
 have sx := E.add_x P Q
 have sy := E.add_y P Q
 rw [aqX_eq, aqY_eq, aqZ_eq]
 refine ⟨?_, ?_, ?_⟩
 · simp only [k_mul, k_add, subN_of (mulP_lt dP _), k_sub, k_dP, hx, hy, hx1, hy1]
   have e : k z * k z1 * (k z * k z1) * (k z * k z1 * (k z * k z1)) * ((1 - P.m Q) * (1 + P.m Q)) =
    (k z * k z1 * (k z * k z1) - kD * (P.x * k z * (Q.x * k z1) * (P.y * k z * (Q.y * k z1)))) * (k z * k z1 * (k z * k z1) + kD * (P.x * k z * (Q.x * k z1) * (P.y * k z * (Q.y * k z1)))) := by
    unfold E.m
    clear sx sy d1 d2 hx hy hx1 hy1
    grind
   rw [← e]
   exact K.mul_ne (K.mul_ne (K.mul_ne (K.mul_ne hz hz1) (K.mul_ne hz hz1)) (K.mul_ne (K.mul_ne hz hz1) (K.mul_ne hz hz1))) (K.mul_ne d2 d1)
 · simp only [k_mul, k_add, subN_of (mulP_lt dP _), k_sub, k_dP, hx, hy, hx1, hy1]
   have : P.x * Q.y + Q.x * P.y = (P + Q).x * (1 + P.m Q) := sx.symm
   unfold E.m at this
   clear sx sy d1 d2 hx hy hx1 hy1 hz hz1
   generalize (P + Q).x = s at *
   grobner
 · simp only [k_mul, k_add, subN_of (mulP_lt dP _), k_sub, k_dP, hx, hy, hx1, hy1]
   have : P.y * Q.y + P.x * Q.x = (P + Q).y * (1 - P.m Q) := sy.symm
   unfold E.m at this
   clear sx sy d1 d2 hx hy hx1 hy1 hz hz1
   generalize (P + Q).y = s at *
   grobner
theorem aff_rep {x y z : Nat} {P : E} (h : RepQ x y z P) : RepP ⟨mulP x (invP z), mulP y (invP z), 1, mulP (mulP x (invP z)) (mulP y (invP z))⟩ P := by
 obtain ⟨hz, hx, hy⟩ := h
 have a1 : k (mulP x (invP z)) = P.x := by
  rw [k_mul, k_inv, hx]
  have := kinv_mul hz
  generalize kinv (k z) = i at *
  generalize k z = w at *
  grind
 have a2 : k (mulP y (invP z)) = P.y := by
  rw [k_mul, k_inv, hy]
  have := kinv_mul hz
  generalize kinv (k z) = i at *
  generalize k z = w at *
  grind
 refine ⟨?_, ?_, ?_, ?_⟩
 · show k 1 ≠ 0; exact K.one_ne
 · show k (mulP x (invP z)) = P.x * k 1; rw [a1, k_one]; grind
 · show k (mulP y (invP z)) = P.y * k 1; rw [a2, k_one]; grind
 · show k (mulP (mulP x (invP z)) (mulP y (invP z))) = P.x * P.y * k 1; rw [k_mul, a1, a2, k_one]; grind
end Go.Proofs.YtdkmcpbjicnfmaaGreat

/-
  The law RistoEncodes answers true.
-/
namespace Go.Proofs.YtdkmcpbjicnfmaaGreat
open Go Vx Go.RowKit

theorem enc_aff {q : P4} {x y z : Nat} {P : E} (h1 : RepP q P) (h2 : RepQ x y z P) (e : Ev P) : rencP q = rencP ⟨mulP x (invP z), mulP y (invP z), 1, mulP (mulP x (invP z)) (mulP y (invP z))⟩ :=
 (enc_eq h1 (aff_rep h2) e e).2 (co_refl P)
end Go.Proofs.YtdkmcpbjicnfmaaGreat

/-
  Contracts of the document's map.
-/
namespace Go.Proofs.YtdkmcpbjicnfmaaGreat
open Go Vx Go.RowKit
end Go.Proofs.YtdkmcpbjicnfmaaGreat
