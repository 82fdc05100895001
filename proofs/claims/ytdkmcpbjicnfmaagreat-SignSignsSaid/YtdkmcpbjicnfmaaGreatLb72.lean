/-
  The laws SignAdds, SignTakes answer true.
-/
import Derived.Test.YtdkmcpbjicnfmaaGreatLb71
namespace Go.Proofs.YtdkmcpbjicnfmaaGreat
open Go Vx Go.RowKit

abbrev oT : Out := outV (vbool' true)
abbrev oF : Out := outV (vbool' false)
theorem pubE_iff {a : Nat} (ha : okS a = true) : decide (pubE a = 0) = !decide (a = 0) := by
  by_cases h : a = 0
  · rw [(pub_bad fun h1 => h1.2 h).1, decide_eq_true h]; rfl
  · rw [(pub_pt ha h).1, decide_eq_false h]; rfl
def addsT (x e1 e2 e3 z1 z2 z3 s1 s2 : Bool) : Out := bif x then oT else bif !e1 then (bif z1 == !e1 then bif z2 == !e2 then bif z3 == !e3 then oT else oF else oF else oF) else bif !e2 then (bif z1 == !e1 then bif z2 == !e2 then bif z3 == !e3 then oT else oF else oF else oF) else
  bif !e3 then (bif z1 == !e1 then bif z2 == !e2 then bif z3 == !e3 then oT else oF else oF else oF) else bif s1 then bif s2 then oT else oF else oF
theorem addsT_t (z1 z2 z3 s1 s2 : Bool) (h : z1 = false → z2 = false → z3 = false → s1 = true ∧ s2 = true) : addsT false (!z1) (!z2) (!z3) z1 z2 z3 s1 s2 = oT := by
  cases z1 <;> cases z2 <;> cases z3 <;> try rfl
  obtain ⟨rfl, rfl⟩ := h rfl rfl rfl
  rfl
theorem addsT_x (e1 e2 e3 z1 z2 z3 s1 s2 : Bool) : addsT true e1 e2 e3 z1 z2 z3 s1 s2 = oT := rfl
noncomputable abbrev addC (a b : Nat) : Nat := bif okS a && okS b then restP (restP a + restP b) else 0
theorem addC_eq {a b : Nat} (ha : okS a = true) (hb : okS b = true) : addC a b = (a + b) % lP := by
  unfold addC
  rw [ha, hb, restP_self ha, restP_self hb, restP_mod]
  rfl
theorem adds_ok (a b : Nat) : addsT (!decide ((bif okS a && okS b then (0 : Int) else 50) = 0)) (decide (pubE a = 0)) (decide (pubE b = 0)) (decide (pubE (addC a b) = 0)) (decide (a = 0)) (decide (b = 0)) (decide (addC a b = 0))
    (decide (sumE [[.n 1, .n (pubN a)], [.n 1, .n (pubN b)]] = 0)) (decide (sumN [[.n 1, .n (pubN a)], [.n 1, .n (pubN b)]] = pubN (addC a b))) = oT := by
  cases hab : okS a && okS b with
  | false => exact addsT_x ..
  | true =>
    rw [Bool.and_eq_true] at hab
    obtain ⟨ha, hb⟩ := hab
    have hc := addC_eq ha hb
    rw [hc, pubE_iff ha, pubE_iff hb, pubE_iff (okS_mod _)]
    refine addsT_t _ _ _ _ _ fun h1 h2 h3 => ?_
    obtain ⟨e1, e2⟩ := pub_add ha hb (of_decide_eq_false h1) (of_decide_eq_false h2) (of_decide_eq_false h3)
    exact ⟨decide_eq_true e1, decide_eq_true e2⟩
def takesT (ck : List Bool) (e1 e2 e3 z f0 v1 pl sc bz w0 w1 : Bool) : Out := bif !e1 then (bif e2 then bif e3 then bif z then oT else oF else oF else oF) else bif !f0 then oF else chks ck (bif !v1 then oF else bif !pl then (bif !sc then oT else oF) else bif bz then chks ck (bif w0 then oT else oF) else chks ck (bif w1 then oT else oF))
theorem takesT_e (ck : List Bool) (f0 v1 pl sc bz w0 w1 : Bool) : takesT ck false true true true f0 v1 pl sc bz w0 w1 = oT := rfl
theorem takesT_p (ck : List Bool) (hck : allT ck) (e2 e3 z bz w0 w1 : Bool) : takesT ck true e2 e3 z true true false false bz w0 w1 = oT := by
  unfold takesT
  rw [chks_true hck]
  rfl
theorem takesT_w (ck : List Bool) (hck : allT ck) (e2 e3 z sc bz w0 w1 : Bool) (h0 : bz = true → w0 = true) (h1 : bz = false → w1 = true) : takesT ck true e2 e3 z true true true sc bz w0 w1 = oT := by
  unfold takesT
  rw [chks_true hck, chks_true hck, chks_true hck]
  cases bz
  · rw [h1 rfl]; rfl
  · rw [h0 rfl]; rfl
noncomputable abbrev tkF (a : Nat) (m : List (List D)) : Int := bif decide (sgBad a m = 0) then sgF a m else sgBad a m
noncomputable abbrev tkR (a : Nat) (m : List (List D)) : Nat := bif decide (sgBad a m = 0) then sgR a m else 0
noncomputable abbrev tkS (a : Nat) (m : List (List D)) : Nat := bif decide (sgBad a m = 0) then sgS a m else 0
theorem takes_ok (a : Nat) (m : List (List D)) (b : Nat) (hm : m.length ≤ 1048576) (ck : List Bool) (hck : allT ck) :
    takesT ck (decide (pubE a = 0)) (decide (pubE a = 50)) (decide (tkF a m = 50)) (decide (tkR a m = 0) && decide (tkS a m = 0)) (decide (tkF a m = 0)) (decide (verE (pubN a) m (tkR a m) (tkS a m) = 0)) (decide ((bif okS (tkS a m) && okS b then (0 : Int) else 50) = 0)) (okS b) (decide (b = 0))
      (decide (verE (pubN a) m (tkR a m) (addC (tkS a m) b) = 0)) (decide (verE (pubN a) m (tkR a m) (addC (tkS a m) b) = 120)) = oT := by
  by_cases h : okS a = true ∧ a ≠ 0
  · obtain ⟨ha, h0⟩ := h
    have hbad := sgBad_ok ha h0 hm
    have e1 : tkF a m = 0 := by unfold tkF; rw [hbad]; exact (sgS_eq ha m).2
    have e2 : tkR a m = sgR a m := by unfold tkR; rw [hbad]; rfl
    have e3 : tkS a m = sgS a m := by unfold tkS; rw [hbad]; rfl
    rw [e1, e2, e3, (pub_pt ha h0).1, sg_taken ha h0 hm, sgS_ok ha m]
    have hd : decide ((0 : Int) = 0) = true := rfl
    rw [hd]
    cases hb : okS b with
    | false => exact takesT_p _ hck ..
    | true =>
      have h4 : addC (sgS a m) b = restP (restP (sgS a m) + restP b) := by unfold addC; rw [sgS_ok ha m, hb]; rfl
      rw [h4, sg_other ha h0 hb hm]
      refine takesT_w _ hck _ _ _ _ _ _ _ (fun h => ?_) fun h => ?_
      · rw [h]; rfl
      · rw [h]; rfl
  · have hp := (pub_bad h).1
    have hbad : sgBad a m = 50 := by unfold sgBad; rw [hp]; rfl
    have e1 : tkF a m = 50 := by unfold tkF; rw [hbad]; rfl
    have e2 : tkR a m = 0 := by unfold tkR; rw [hbad]; rfl
    have e3 : tkS a m = 0 := by unfold tkS; rw [hbad]; rfl
    rw [e1, e2, e3, hp]
    exact takesT_e ..

noncomputable def sSignAddsF : List D → Option (List Bool × V)
  | [.n _, .n _] => some ([], vbool' true)
  | _ => none
noncomputable def sSignAdds : FSpec := spec [tb32, tb32] sSignAddsF
noncomputable abbrev tabSignAdds : List (FuncId × FSpec) := [(64, sAPlus), (24, sGPublic), (57, sAOf), (59, sASum), (22, sKnown12)]
set_option maxRecDepth 100000 in
theorem tabokSignAdds : TabOK Tryz.prog (tabOf tabSignAdds) := (.cons ok_APlus (.cons ok_GPublic (.cons ok_AOf (.cons ok_ASum (.cons ok_Known12 .nil)))))
noncomputable abbrev ilSignAdds : List (FuncId × Func) := []
set_option maxRecDepth 100000 in
theorem ilokSignAdds : IlOK Tryz.prog (ilTab ilSignAdds) := IlOK.nil

noncomputable def sSignTakesF : List D → Option (List Bool × V)
  | [.n _, .l _, .n _] => some ([], vbool' true)
  | _ => none
noncomputable def sSignTakes : FSpec := spec [tb32, tby, tb32] sSignTakesF
noncomputable abbrev tabSignTakes : List (FuncId × FSpec) := [(24, sGPublic), (25, sGSign), (29, sGVerify), (64, sAPlus), (58, sAIsScalar), (22, sKnown12)]
set_option maxRecDepth 100000 in
theorem tabokSignTakes : TabOK Tryz.prog (tabOf tabSignTakes) := (.cons ok_GPublic (.cons ok_GSign (.cons ok_GVerify (.cons ok_APlus (.cons ok_AIsScalar (.cons ok_Known12 .nil))))))
noncomputable abbrev ilSignTakes : List (FuncId × Func) := []
set_option maxRecDepth 100000 in
theorem ilokSignTakes : IlOK Tryz.prog (ilTab ilSignTakes) := IlOK.nil
end Go.Proofs.YtdkmcpbjicnfmaaGreat
