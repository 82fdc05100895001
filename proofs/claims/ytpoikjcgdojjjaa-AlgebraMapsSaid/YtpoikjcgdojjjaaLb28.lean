/-
  Contracts of the document's elements: out of bytes.
-/
import Derived.Test.YtpoikjcgdojjjaaLb27
import Derived.Test.YtpoikjcgdojjjaaM2
namespace Go.Proofs.Ytpoikjcgdojjjaa
open Go Vx Go.RowKit

noncomputable def onQ0 (x y z t : Nat) : Bool := !decide (z = 0) && (decide (mulP x y = mulP z t) &&
  decide (addP (mulP (mulP y (invP z)) (mulP y (invP z))) (negN (mulP (mulP x (invP z)) (mulP x (invP z)))) = addP (canP 1) (mulP dP (mulP (mulP (mulP x (invP z)) (mulP x (invP z))) (mulP (mulP y (invP z)) (mulP y (invP z)))))))
noncomputable def onQ : Nat → Nat → Nat → Nat → Bool := hidden' onQ0
theorem onQ_eq (x y z t : Nat) : onQ x y z t = onQ0 x y z t := by unfold onQ; rw [seal_eq]
def treeOnQ (a b c : Bool) : Out := bif a then outV (vbool' false) else bif !b then outV (vbool' false) else outV (vbool' c)
theorem treeOnQ_eq (a b c : Bool) : treeOnQ a b c = outV (vbool' (!a && (b && c))) := by cases a <;> cases b <;> rfl

noncomputable def sQOnF : List D → Option (List Bool × V)
  | [.n x, .n y, .n z, .n t] => some ([], vbool' (onQ x y z t))
  | _ => none
noncomputable def sQOn : FSpec := spec [tnm, tnm, tnm, tnm] sQOnF
noncomputable abbrev tabQOn : List (FuncId × FSpec) := [(21, sNMul), (78, sNZero), (126, sNInv), (72, sNSub), (73, sNAdd), (71, sNOf), (75, sQD)]
set_option maxRecDepth 100000 in
theorem tabokQOn : TabOK Try.prog (tabOf tabQOn) := (.cons ok_NMul (.cons ok_NZero (.cons ok_NInv (.cons ok_NSub (.cons ok_NAdd (.cons ok_NOf (.cons ok_QD .nil)))))))
set_option maxRecDepth 100000 in
theorem ok_QOn : FnOK Try.prog 79 sQOn := by
  refine fn_flat (cx := mkcx tabQOn) (c := bodyOf Try.f79) Try.func79 (by kernel_rfl) (by kernel_rfl) rfl ?_
  intro ds chk v vs hF ht he hr base
  unfold sQOnF at hF
  split at hF
  · rename_i x y z t
    cases hF
    have hvs : vs = [vnm x, vnm y, vnm z, vnm t] := by simp only [encA, encV, encP, encL, Option.some.injEq] at he; exact he.symm
    subst hvs
    rw [onQ_eq]
    exact runs_evS (mkok tabokQOn) (n := 200) (bs0 := []) (h := Eq.trans (b := treeOnQ (allB [decide (z = 0)]) (allB [decide (mulP x y = mulP z t)]) (allB [decide (addP (mulP (mulP y (invP z)) (mulP y (invP z))) (negN (mulP (mulP x (invP z)) (mulP x (invP z)))) = addP (canP 1) (mulP dP (mulP (mulP (mulP x (invP z)) (mulP x (invP z))) (mulP (mulP y (invP z)) (mulP y (invP z))))))])) (by kernel_rfl) (treeOnQ_eq _ _ _)) (VEnt.refl _) trivial
  · cases hF

def treeIs (a b : Bool) : Out := bif a then outV (vbool' b) else outV (vbool' false)
theorem treeIs_eq (a b : Bool) : treeIs a b = outV (vbool' (a && b)) := by cases a <;> rfl

noncomputable def sIs4F : List D → Option (List Bool × V)
  | [.n x, .n y, .n z, .n t, .n x1, .n y1, .n z1] => some ([], vbool' (onQ (canP x) (canP y) (canP z) (canP t) && sameQ (canP x) (canP y) (canP z) x1 y1 z1))
  | _ => none
noncomputable def sIs4 : FSpec := spec [tpt, tqt] sIs4F
noncomputable abbrev tabIs4 : List (FuncId × FSpec) := [(22, sNum4), (79, sQOn), (80, sQSame)]
set_option maxRecDepth 100000 in
theorem tabokIs4 : TabOK Try.prog (tabOf tabIs4) := (.cons ok_Num4 (.cons ok_QOn (.cons ok_QSame .nil)))
set_option maxRecDepth 100000 in
theorem ok_Is4 : FnOK Try.prog 20 sIs4 := by
  refine fn_flat (cx := mkcx tabIs4) (c := bodyOf Try.f20) Try.func20 (by kernel_rfl) (by kernel_rfl) rfl ?_
  intro ds chk v vs hF ht he hr base
  unfold sIs4F at hF
  split at hF
  · rename_i x y z t x1 y1 z1
    cases hF
    have hvs : vs = [vpt x y z t, vqt x1 y1 z1] := by simp only [encA, encV, encP, encL, Option.some.injEq] at he; exact he.symm
    subst hvs
    exact runs_evS (mkok tabokIs4) (n := 200) (bs0 := []) (h := Eq.trans (b := treeIs (onQ (canP x) (canP y) (canP z) (canP t)) (sameQ (canP x) (canP y) (canP z) x1 y1 z1)) (by kernel_rfl) (treeIs_eq _ _)) (VEnt.refl _) trivial
  · cases hF

noncomputable def qU1 (s : Nat) : Nat := addP (canP 1) (negN (mulP s s))
noncomputable def qU2 (s : Nat) : Nat := addP (canP 1) (mulP s s)
noncomputable def qV (s : Nat) : Nat := addP (negN (mulP dP (mulP (qU1 s) (qU1 s)))) (negN (mulP (qU2 s) (qU2 s)))
noncomputable def qW (s : Nat) : Nat := mulP (qV s) (mulP (qU2 s) (qU2 s))
noncomputable def qR (s : Nat) : Nat := nrR (canP 1) (qW s)
noncomputable def qX (s : Nat) : Nat := absN (mulP (canP 2) (mulP s (mulP (qR s) (qU2 s))))
noncomputable def qY (s : Nat) : Nat := mulP (mulP (qU1 s) (qR s)) (mulP (mulP (qR s) (qU2 s)) (qV s))
noncomputable def pU1 (s : Nat) : Nat := subP 1 (mulP s s)
noncomputable def pU2 (s : Nat) : Nat := addP 1 (mulP s s)
noncomputable def pV (s : Nat) : Nat := subP (negP (mulP dP (mulP (pU1 s) (pU1 s)))) (mulP (pU2 s) (pU2 s))
noncomputable def pW (s : Nat) : Nat := mulP (pV s) (mulP (pU2 s) (pU2 s))
noncomputable def pR (s : Nat) : Nat := rootR 1 (pW s)
noncomputable def pX (s : Nat) : Nat := absP (mulP (addP s s) (mulP (pR s) (pU2 s)))
noncomputable def pY (s : Nat) : Nat := mulP (pU1 s) (mulP (mulP (pR s) (mulP (pR s) (pU2 s))) (pV s))
theorem pW_lt (s : Nat) : pW s < pP := mulP_lt _ _
theorem pY_lt (s : Nat) : pY s < pP := mulP_lt _ _
theorem rdecB0_p (n : Nat) : rdecB0 n = (lowP n && !oddP (canP n) && (rootB 1 (pW (canP n)) && !oddP (mulP (pX (canP n)) (pY (canP n))) && !sameP (pY (canP n)) 0)) := rfl
theorem rdec0_p (n : Nat) : rdec0 n = bif rdecBP n then ⟨pX (canP n), pY (canP n), 1, mulP (pX (canP n)) (pY (canP n))⟩ else zeroP := rfl
theorem qU1_eq (s : Nat) : qU1 s = pU1 s := by unfold qU1 pU1; rw [can1, subN_of (mulP_lt _ _)]
theorem qU2_eq (s : Nat) : qU2 s = pU2 s := by unfold qU2 pU2; rw [can1]
theorem qV_eq (s : Nat) : qV s = pV s := by unfold qV pV; rw [qU1_eq, qU2_eq, negN_of (mulP_lt dP _), subN_of (mulP_lt _ _)]
theorem qW_eq (s : Nat) : qW s = pW s := by unfold qW pW; rw [qV_eq, qU2_eq]
theorem qR_eq (s : Nat) : qR s = pR s := by unfold qR pR; rw [qW_eq, can1, nrR_of one_lt (pW_lt s)]
theorem k_two : k 2 = 1 + 1 := by decide +kernel
theorem qX_eq (s : Nat) : qX s = pX s := by
  unfold qX pX
  rw [absN_of (mulP_lt _ _), qR_eq, qU2_eq, can2]
  congr 1
  refine k_inj (mulP_lt _ _) (mulP_lt _ _) ?_
  simp only [k_mul, k_add, k_two]
  grind
theorem qY_eq (s : Nat) : qY s = pY s := by
  unfold qY pY
  rw [qR_eq, qU1_eq, qU2_eq, qV_eq]
  refine k_inj (mulP_lt _ _) (mulP_lt _ _) ?_
  simp only [k_mul]
  grind
def uqt0 : U := .ag (.ps [z0, z0, z0, z0, z0, z0, z0, z0, z0, z0, z0, z0, z0, z0, z0, z0, z0, z0, z0, z0, z0, z0, z0, z0])
theorem uqt0_ent : UEnt uqt0 (uqt 0 0 0) := by
  intro σ x h
  obtain ⟨xs, e, hc⟩ := h
  obtain ⟨h1, h2, _⟩ := splitC_sound (m := 8) (a := [z0, z0, z0, z0, z0, z0, z0, z0]) (r := [z0, z0, z0, z0, z0, z0, z0, z0, z0, z0, z0, z0, z0, z0, z0, z0]) rfl hc
  obtain ⟨h3, h4, _⟩ := splitC_sound (m := 8) (a := [z0, z0, z0, z0, z0, z0, z0, z0]) (r := [z0, z0, z0, z0, z0, z0, z0, z0]) rfl h2
  have key : ∀ {ys : List Value}, PRel σ [z0, z0, z0, z0, z0, z0, z0, z0] ys → LRel σ (.pk .u64 32 8 0) ys := by
    intro ys hy
    obtain ⟨zs, e3, g1⟩ := unm0_ent σ (.agg ys.toArray) ⟨ys, rfl, hy⟩
    have : ys = zs := by simpa using e3
    subst this
    obtain ⟨a1, a2, f1, l1, rfl⟩ := g1
    rw [List.append_nil] at f1
    rw [f1]; exact l1
  exact ⟨xs, e, xs.take 8, xs.drop 8, (List.take_append_drop 8 xs).symm, key h1, (xs.drop 8).take 8, (xs.drop 8).drop 8, (List.take_append_drop 8 _).symm, key h3, _, [], (List.append_nil _).symm, key h4, rfl⟩
def treeQDec (b1 b2 b3 b4 b5 : Bool) (x y o : Nat) : Out :=
  bif !b1 then outV (.tup [uqt0, ubool false]) else bif b2 then outV (.tup [uqt0, ubool false]) else bif !b3 then outV (.tup [uqt0, ubool false]) else bif b4 then outV (.tup [uqt0, ubool false]) else bif b5 then outV (.tup [uqt0, ubool false]) else outV (.tup [uqt x y o, ubool true])
def valQDec (b1 b2 b3 b4 b5 : Bool) (x y o : Nat) : V := bif (b1 && !b2 && (b3 && !b4 && !b5)) then (.tup [uqt x y o, ubool true]) else .tup [uqt0, ubool false]
theorem treeQDec_eq (b1 b2 b3 b4 b5 : Bool) (x y o : Nat) : treeQDec b1 b2 b3 b4 b5 x y o = outV (valQDec b1 b2 b3 b4 b5 x y o) := by
  cases b1 <;> cases b2 <;> cases b3 <;> cases b4 <;> cases b5 <;> rfl
theorem qdec_ent (n : Nat) : VEnt (valQDec (lowP n) (oddN (canP n)) (nrB (canP 1) (qW (canP n))) (oddN (mulP (qX (canP n)) (qY (canP n)))) (allB [decide (qY (canP n) = 0)]) (qX (canP n)) (qY (canP n)) (canP 1))
    (.tup [uqt (rdecP n).x (rdecP n).y (rdecP n).z, ubool (rdecBP n)]) := by
  have hy : decide (qY (canP n) = 0) = sameP (pY (canP n)) 0 := by
    rw [qY_eq, sameP_val, k_zero, k_eq0 (pY_lt _)]
  have hb : rdecBP n = (lowP n && !oddN (canP n) && (nrB (canP 1) (qW (canP n)) && !oddN (mulP (qX (canP n)) (qY (canP n))) && !allB [decide (qY (canP n) = 0)])) := by
    rw [rdecBP_eq, rdecB0_p, oddN_of (canP_lt _), oddN_of (mulP_lt _ _), qX_eq, can1, nrB_of one_lt (by rw [qW_eq]; exact mulP_lt _ _), qW_eq]
    simp only [allB]
    rw [hy, qY_eq]
  unfold valQDec
  rw [← hb, rdecP_eq, rdec0_p, qX_eq, qY_eq, can1]
  cases rdecBP n with
  | true => exact VEnt.refl _
  | false => exact VEnt.tup2 uqt0_ent (UEnt.refl _)

noncomputable def sQDecF : List D → Option (List Bool × V)
  | [.n n] => some ([], .tup [uqt (rdecP n).x (rdecP n).y (rdecP n).z, ubool (rdecBP n)])
  | _ => none
noncomputable def sQDec : FSpec := spec [tb32] sQDecF
noncomputable abbrev tabQDec : List (FuncId × FSpec) := [(69, sNRead), (70, sNOdd), (71, sNOf), (21, sNMul), (72, sNSub), (73, sNAdd), (74, sNNeg), (75, sQD), (76, sNRoot), (77, sNAbs), (78, sNZero)]
set_option maxRecDepth 100000 in
theorem tabokQDec : TabOK Try.prog (tabOf tabQDec) := (.cons ok_NRead (.cons ok_NOdd (.cons ok_NOf (.cons ok_NMul (.cons ok_NSub (.cons ok_NAdd (.cons ok_NNeg (.cons ok_QD (.cons ok_NRoot (.cons ok_NAbs (.cons ok_NZero .nil)))))))))))
set_option maxRecDepth 100000 in
theorem ok_QDec : FnOK Try.prog 18 sQDec := by
  refine fn_flat (cx := mkcx tabQDec) (c := bodyOf Try.f18) Try.func18 (by kernel_rfl) (by kernel_rfl) rfl ?_
  intro ds chk v vs hF ht he hr base
  unfold sQDecF at hF
  split at hF
  · rename_i n
    cases hF
    have hvs : vs = [vb32 n] := by simp only [encA, encV, encP, encL, Option.some.injEq] at he; exact he.symm
    subst hvs
    exact runs_evS (mkok tabokQDec) (n := 200) (bs0 := []) (h := Eq.trans (b := treeQDec (lowP n) (oddN (canP n)) (nrB (canP 1) (qW (canP n))) (oddN (mulP (qX (canP n)) (qY (canP n)))) (allB [decide (qY (canP n) = 0)]) (qX (canP n)) (qY (canP n)) (canP 1)) (by kernel_rfl) (treeQDec_eq _ _ _ _ _ _ _ _)) (qdec_ent n) trivial
  · cases hF
end Go.Proofs.Ytpoikjcgdojjjaa
