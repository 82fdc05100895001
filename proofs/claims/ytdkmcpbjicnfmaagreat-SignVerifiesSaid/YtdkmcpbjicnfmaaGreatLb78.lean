/-
  The law SignVerifies answers true.
-/
import Derived.Test.YtdkmcpbjicnfmaaGreatLb77
namespace Go.Proofs.YtdkmcpbjicnfmaaGreat
open Go Vx Go.RowKit

abbrev outT12 : Out := outV (vbool' true)
abbrev outF12 : Out := outV (vbool' false)
/-- What a law lends: the same bytes, with one behind them; what stays of it. -/
abbrev iz0 : Nat := (0 : Int).toNat
abbrev lntL (m : List (List D)) : List (List D) := List.take (0 + m.length) ([] ++ m) ++ [[.i 77]]
abbrev lniL (m : List (List D)) : List (List D) := List.take (((m.length : Nat) : Int).toNat - iz0) (List.drop (0 + iz0) (lntL m))
theorem lntL_eq (m : List (List D)) : lntL m = m ++ [[.i 77]] := by
  unfold lntL
  rw [List.nil_append, Nat.zero_add, List.take_length]
theorem lniL_eq (m : List (List D)) : lniL m = m := by
  unfold lniL
  rw [lntL_eq, Int.toNat_natCast]
  show List.take m.length (m ++ [[.i 77]]) = m
  exact List.take_left' rfl
noncomputable abbrev lniC (m : List (List D)) : Bool := decide (0 + iz0 + (((m.length : Nat) : Int).toNat - iz0) ≤ (lntL m).length)
noncomputable abbrev lentC (m : List (List D)) : List Bool := [decide ((0 + m.length) * 1 ≤ 140737488355328), decide (0 + m.length < 4611686018427387904), decide (0 + m.length ≤ ([] ++ m : List (List D)).length), decide (0 + m.length ≤ 0 + m.length),
  decide ((0 + m.length + [[D.i 77]].length) * 1 ≤ 140737488355328), decide (0 + m.length + [[D.i 77]].length < 4611686018427387904), okK .i64 (m.length : Nat), decide (((m.length : Nat) : Int) ≤ ((0 + m.length + [[D.i 77]].length : Nat) : Int)), lniC m, lniC m]
noncomputable abbrev keptC (m : List (List D)) : List Bool := [okK .i64 (m.length : Nat), okK .i64 (((m.length : Nat) : Int) + 1), decide (((m.length : Nat) : Int) + 1 ≤ ((0 + m.length + [[D.i 77]].length - iz0 : Nat) : Int)), okK .i64 (m.length : Nat),
  decide (((m.length : Nat) : Int) < (((((m.length : Nat) : Int) + 1).toNat - iz0 : Nat) : Int)), decide (0 + iz0 + iz0 + ((m.length : Nat) : Int).toNat < (lntL m).length)]
noncomputable def lentO (m : List (List D)) (f : List (List D) → List Bool) : Out := chks (lentC m) (bif decide ((toStr (lniL m)).toList = (toStr m).toList) then chks (keptC m) (bif decide ((((lntL m).getD (0 + iz0 + iz0 + ((m.length : Nat) : Int).toNat) []).headD (.n 0)).toI = 77) then treeL (f (lniL m)) else outF12) else outF12)
theorem lentO_t {m : List (List D)} {f : List (List D) → List Bool} (hm : m.length ≤ 140737488351232) (hf : allT (f m)) : lentO m f = outT12 := by
  have hr : (lntL m).length = m.length + 1 := by rw [lntL_eq]; simp
  have hi : okK .i64 (m.length : Nat) = true := okI (by omega) (by omega)
  have hin : lniC m = true := by
    rw [decide_eq_true_iff, hr, Int.toNat_natCast]
    show 0 + 0 + (m.length - 0) ≤ _
    omega
  have hg : decide ((((lntL m).getD (0 + iz0 + iz0 + ((m.length : Nat) : Int).toNat) []).headD (.n 0)).toI = 77) = true := by
    rw [decide_eq_true_iff, lntL_eq, Int.toNat_natCast]
    show (((m ++ [[D.i 77]]).getD (0 + 0 + 0 + m.length) []).headD (.n 0)).toI = 77
    rw [show 0 + 0 + 0 + m.length = m.length by omega, List.getD_eq_getElem?_getD, List.getElem?_append_right (Nat.le_refl _), Nat.sub_self]
    rfl
  unfold lentO
  rw [lniL_eq, decide_eq_true rfl, cond_true, chks_true, chks_true, hg, cond_true]
  · exact treeL_t hf
  · refine allTc hi (allTc (okI (by omega) (by omega)) (allTc ?_ (allTc hi (allTc ?_ (allT1 ?_))))) <;> rw [decide_eq_true_iff]
    · show ((m.length : Nat) : Int) + 1 ≤ ((0 + m.length + 1 - 0 : Nat) : Int)
      omega
    · show ((m.length : Nat) : Int) < (((((m.length : Nat) : Int) + 1).toNat - 0 : Nat) : Int)
      omega
    · rw [hr, Int.toNat_natCast]
      show 0 + 0 + 0 + m.length < _
      omega
  · refine allTc ?_ (allTc ?_ (allTc ?_ (allTc ?_ (allTc ?_ (allTc ?_ (allTc hi (allTc ?_ (allTc hin (allT1 hin)))))))))  <;> rw [decide_eq_true_iff]
    · omega
    · omega
    · rw [List.nil_append]; omega
    · omega
    · show (0 + m.length + 1) * 1 ≤ _
      omega
    · show 0 + m.length + 1 < _
      omega
    · show ((m.length : Nat) : Int) ≤ ((0 + m.length + 1 : Nat) : Int)
      omega

noncomputable def sSignVerifiesF : List D → Option (List Bool × V)
  | [.n _, .l m, .n _, .n _] => some ([decide (m.length ≤ 140737488351232)], vbool' true)
  | _ => none
noncomputable def sSignVerifies : FSpec := spec [tb32, tby, tsg] sSignVerifiesF
noncomputable abbrev tabSignVerifies : List (FuncId × FSpec) := [(29, sHVerify12), (30, sRVerify12), (22, sKnown12)]
set_option maxRecDepth 100000 in
theorem tabokSignVerifies : TabOK Tryz.prog (tabOf tabSignVerifies) := (.cons ok_HVerify12 (.cons ok_RVerify12 (.cons ok_Known12 .nil)))
noncomputable abbrev ilSignVerifies : List (FuncId × Func) := [(23, Tryz.f23), (28, Tryz.f28)]
set_option maxRecDepth 100000 in
theorem ilokSignVerifies : IlOK Tryz.prog (ilTab ilSignVerifies) := (IlOK.cons Tryz.func23 (by kernel_rfl) (IlOK.cons Tryz.func28 (by kernel_rfl) IlOK.nil))
set_option maxRecDepth 100000 in
theorem ok_SignVerifies : FnOK Tryz.prog 5 sSignVerifies := by
  refine fn_flat (cx := mkcf true false tabSignVerifies ilSignVerifies []) (c := bodyOf Tryz.f5) Tryz.func5 (by kernel_rfl) (by kernel_rfl) rfl ?_
  intro ds chk v vs hF ht he hr base
  unfold sSignVerifiesF at hF
  split at hF
  · rename_i p m r s
    cases hF
    have hvs : vs = [vb32 p, vby m, vsg0 r s] := by simp only [encA, encV, encP, encL, Option.some.injEq] at he; exact he.symm
    subst hvs
    have hm : m.length ≤ 140737488351232 := of_decide_eq_true (ht _ (by simp))
    have hev : evS (mkcf true false tabSignVerifies ilSignVerifies []) 400 (bodyOf Tryz.f5) ⟨t0 Tryz.f5 [vb32 p, vby m, vsg0 r s], []⟩ (kres (mkcf true false tabSignVerifies ilSignVerifies []) Tryz.f5 base) = chks [okK .i64 (m.length : Nat)] (bif decide ((1000 : Int) < (m.length : Nat)) then chks [okK .i64 (m.length : Nat)] (bif decide (((m.length : Nat) : Int) ≤ 1048576) then outT12 else lentO m (fun y => [decide (verE p y r s = verE p m r s)])) else lentO m (fun y => [decide (verE p y r s = verE p m r s)])) := by kernel_rfl
    have hi : okK .i64 (m.length : Nat) = true := okI (by omega) (by omega)
    rw [chks_true (allT1 hi), chks_true (allT1 hi), lentO_t hm (allT1 (decide_eq_true rfl))] at hev
    have hev2 : evS (mkcf true false tabSignVerifies ilSignVerifies []) 400 (bodyOf Tryz.f5) ⟨t0 Tryz.f5 [vb32 p, vby m, vsg0 r s], []⟩ (kres (mkcf true false tabSignVerifies ilSignVerifies []) Tryz.f5 base) = outT12 := by
      rw [hev]
      cases decide ((1000 : Int) < (m.length : Nat)) <;> cases decide (((m.length : Nat) : Int) ≤ 1048576) <;> rfl
    exact runs_evS (mkokf (sy := true) (rw := false) tabokSignVerifies ilokSignVerifies JsOK.nil) (bs0 := []) hev2 (VEnt.refl _) trivial
  · cases hF
end Go.Proofs.YtdkmcpbjicnfmaaGreat
