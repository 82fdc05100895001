/-
  The document's signatures: points and nonces.
-/
import Derived.Test.YtdkmcpbjicnfmaaGreatLb75
namespace Go.Proofs.YtdkmcpbjicnfmaaGreat
open Go Vx Go.RowKit

noncomputable def sRPublicF : List D → Option (List Bool × V)
  | [.n a] => some ([], vse (pubN a) (pubE a))
  | _ => none
noncomputable def sRPublic : FSpec := spec [tb32] sRPublicF
noncomputable abbrev tabRPublic : List (FuncId × FSpec) := [(65, sSIsScalar), (68, sSBase), (67, sSSum), (66, sSOf)]
set_option maxRecDepth 100000 in
theorem tabokRPublic : TabOK Tryz.prog (tabOf tabRPublic) := (.cons ok_SIsScalar (.cons ok_SBase (.cons ok_SSum (.cons ok_SOf .nil))))
noncomputable abbrev ilRPublic : List (FuncId × Func) := []
set_option maxRecDepth 100000 in
theorem ilokRPublic : IlOK Tryz.prog (ilTab ilRPublic) := IlOK.nil
set_option maxRecDepth 100000 in
theorem ok_RPublic : FnOK Tryz.prog 26 sRPublic := by
  refine fn_flat (cx := mkcf true false tabRPublic ilRPublic []) (c := bodyOf Tryz.f26) Tryz.func26 (by kernel_rfl) (by kernel_rfl) rfl ?_
  intro ds chk v vs hF ht he hr base
  unfold sRPublicF at hF
  split at hF
  · rename_i a
    cases hF
    have hvs : vs = [vb32 a] := by simp only [encA, encV, encP, encL, Option.some.injEq] at he; exact he.symm
    subst hvs
    have hev : evS (mkcf true false tabRPublic ilRPublic []) 400 (bodyOf Tryz.f26) ⟨t0 Tryz.f26 [vb32 a], []⟩ (kres (mkcf true false tabRPublic ilRPublic []) Tryz.f26 base) = bif !okS a then outV boE else bif decide (a = 0) then outV boE else outV (vse (sumN [[.n a, .n bN]]) (sumE [[.n a, .n bN]])) := by kernel_rfl
    unfold pubN pubE
    cases h1 : okS a with
    | false =>
      rw [h1, Bool.not_false, cond_true] at hev
      rw [Bool.not_false, cond_true, cond_true]
      exact runs_evS (mkokf (sy := true) (rw := false) tabokRPublic ilokRPublic JsOK.nil) (bs0 := []) hev (vse0 50) trivial
    | true =>
      rw [h1, Bool.not_true, cond_false] at hev
      rw [Bool.not_true, cond_false, cond_false]
      cases h2 : decide (a = 0) with
      | true =>
        rw [h2, cond_true] at hev
        exact runs_evS (mkokf (sy := true) (rw := false) tabokRPublic ilokRPublic JsOK.nil) (bs0 := []) hev (vse0 50) trivial
      | false =>
        rw [h2, cond_false] at hev
        exact runs_evS (mkokf (sy := true) (rw := false) tabokRPublic ilokRPublic JsOK.nil) (bs0 := []) hev (VEnt.refl _) trivial
  · cases hF

noncomputable def sRNonceF : List D → Option (List Bool × V)
  | [.n a, .l m] => some ([decide (m.length < 274877906944)], vb32 (nonceN a m))
  | _ => none
noncomputable def sRNonce : FSpec := spec [tb32, tby] sRNonceF
noncomputable abbrev tabRNonce : List (FuncId × FSpec) := [(52, sRSum512a), (51, sSReduce), (66, sSOf)]
set_option maxRecDepth 100000 in
theorem tabokRNonce : TabOK Tryz.prog (tabOf tabRNonce) := (.cons ok_RSum512a (.cons ok_SReduce (.cons ok_SOf .nil)))
noncomputable abbrev ilRNonce : List (FuncId × Func) := []
set_option maxRecDepth 100000 in
theorem ilokRNonce : IlOK Tryz.prog (ilTab ilRNonce) := IlOK.nil
set_option maxRecDepth 100000 in
theorem ok_RNonce : FnOK Tryz.prog 69 sRNonce := by
  refine fn_flat (cx := mkcf true false tabRNonce ilRNonce []) (c := bodyOf Tryz.f69) Tryz.func69 (by kernel_rfl) (by kernel_rfl) rfl ?_
  intro ds chk v vs hF ht he hr base
  unfold sRNonceF at hF
  split at hF
  · rename_i a m
    cases hF
    have hvs : vs = [vb32 a, vby m] := by simp only [encA, encV, encP, encL, Option.some.injEq] at he; exact he.symm
    subst hvs
    have hm : m.length < 274877906944 := of_decide_eq_true (ht _ (by simp))
    have hev : evS (mkcf true false tabRNonce ilRNonce []) 400 (bodyOf Tryz.f69) ⟨t0 Tryz.f69 [vb32 a, vby m], []⟩ (kres (mkcf true false tabRNonce ilRNonce []) Tryz.f69 base) =
        chks (ckA ([[.i 110], [.i 111], [.i 110], [.i 99], [.i 101]] ++ pkL 32 a, 5 + (pkL 32 a).length) m ++ [decide (0 + (apR ([[.i 110], [.i 111], [.i 110], [.i 99], [.i 101]] ++ pkL 32 a, 5 + (pkL 32 a).length) m).2 ≤ (apR ([[.i 110], [.i 111], [.i 110], [.i 99], [.i 101]] ++ pkL 32 a, 5 + (pkL 32 a).length) m).1.length), decide ((((apR ([[.i 110], [.i 111], [.i 110], [.i 99], [.i 101]] ++ pkL 32 a, 5 + (pkL 32 a).length) m).1.drop 0).take (apR ([[.i 110], [.i 111], [.i 110], [.i 99], [.i 101]] ++ pkL 32 a, 5 + (pkL 32 a).length) m).2).length < 1099511627776)])
          (bif decide (restP (sha512N (((apR ([[.i 110], [.i 111], [.i 110], [.i 99], [.i 101]] ++ pkL 32 a, 5 + (pkL 32 a).length) m).1.drop 0).take (apR ([[.i 110], [.i 111], [.i 110], [.i 99], [.i 101]] ++ pkL 32 a, 5 + (pkL 32 a).length) m).2)) = 0) then outV (vb32 1) else outV (vb32 (restP (sha512N (((apR ([[.i 110], [.i 111], [.i 110], [.i 99], [.i 101]] ++ pkL 32 a, 5 + (pkL 32 a).length) m).1.drop 0).take (apR ([[.i 110], [.i 111], [.i 110], [.i 99], [.i 101]] ++ pkL 32 a, 5 + (pkL 32 a).length) m).2))))) := by kernel_rfl
    have o1 : okR ([[.i 110], [.i 111], [.i 110], [.i 99], [.i 101]] ++ pkL 32 a, 5 + (pkL 32 a).length) ([[.i 110], [.i 111], [.i 110], [.i 99], [.i 101]] ++ pkL 32 a) := ⟨rfl, rfl⟩
    have o2 := apR_ok (y := m) o1
    have l1 : ([[D.i 110], [.i 111], [.i 110], [.i 99], [.i 101]] ++ pkL 32 a).length = 37 := rfl
    have l2 : ([[D.i 110], [.i 111], [.i 110], [.i 99], [.i 101]] ++ pkL 32 a ++ m).length = 37 + m.length := by rw [List.length_append, l1]
    rw [look_ok o2, chks_true] at hev
    rotate_left 1
    · refine allT_app (ckA_ok o1 (by rw [l1]; omega)) (allTc (by rw [decide_eq_true_iff, o2.1, o2.2]; omega) (allT1 ?_))
      rw [decide_eq_true_iff, l2]
      omega
    unfold nonceN nonceK nonceL
    cases h2 : decide (restP (sha512N ([[D.i 110], [.i 111], [.i 110], [.i 99], [.i 101]] ++ pkL 32 a ++ m)) = 0) with
    | true =>
      rw [h2, cond_true] at hev
      exact runs_evS (mkokf (sy := true) (rw := false) tabokRNonce ilokRNonce JsOK.nil) (bs0 := []) hev (VEnt.refl _) trivial
    | false =>
      rw [h2, cond_false] at hev
      exact runs_evS (mkokf (sy := true) (rw := false) tabokRNonce ilokRNonce JsOK.nil) (bs0 := []) hev (VEnt.refl _) trivial
  · cases hF

noncomputable def sRSignF : List D → Option (List Bool × V)
  | [.n a, .l m] => some ([decide (m.length < 274877906944)], vsg (bif decide (sgBad a m = 0) then sgR a m else 0) (bif decide (sgBad a m = 0) then sgS a m else 0) (bif decide (sgBad a m = 0) then (0 : Int) else sgBad a m))
  | _ => none
noncomputable def sRSign : FSpec := spec [tb32, tby] sRSignF
noncomputable abbrev tabRSign : List (FuncId × FSpec) := [(26, sRPublic), (69, sRNonce), (71, sRChal), (67, sSSum), (68, sSBase), (70, sSaTimes), (72, sSaPlus)]
set_option maxRecDepth 100000 in
theorem tabokRSign : TabOK Tryz.prog (tabOf tabRSign) := (.cons ok_RPublic (.cons ok_RNonce (.cons ok_RChal (.cons ok_SSum (.cons ok_SBase (.cons ok_SaTimes (.cons ok_SaPlus .nil)))))))
noncomputable abbrev ilRSign : List (FuncId × Func) := []
set_option maxRecDepth 100000 in
theorem ilokRSign : IlOK Tryz.prog (ilTab ilRSign) := IlOK.nil
set_option maxRecDepth 100000 in
theorem ok_RSign : FnOK Tryz.prog 27 sRSign := by
  refine fn_flat (cx := mkcf true false tabRSign ilRSign []) (c := bodyOf Tryz.f27) Tryz.func27 (by kernel_rfl) (by kernel_rfl) rfl ?_
  intro ds chk v vs hF ht he hr base
  unfold sRSignF at hF
  split at hF
  · rename_i a m
    cases hF
    have hvs : vs = [vb32 a, vby m] := by simp only [encA, encV, encP, encL, Option.some.injEq] at he; exact he.symm
    subst hvs
    have hm : m.length < 274877906944 := of_decide_eq_true (ht _ (by simp))
    have hev : evS (mkcf true false tabRSign ilRSign []) 400 (bodyOf Tryz.f27) ⟨t0 Tryz.f27 [vb32 a, vby m], []⟩ (kres (mkcf true false tabRSign ilRSign []) Tryz.f27 base) =
        bif !decide (pubE a = 0) then outV (sg0 (pubE a)) else chks [okK .i64 (m.length : Nat)] (bif decide ((1048576 : Int) < (m.length : Nat)) then outV (sg0 3) else chks [decide (m.length < 274877906944), decide (m.length < 274877906944)] (outV (vsg (sgR a m) (sgS a m) ((0 : Int))))) := by kernel_rfl
    rw [chks_true (allT1 (okI (by omega) (by omega))), chks_true (allTc (by rw [decide_eq_true_iff]; omega) (allT1 (by rw [decide_eq_true_iff]; omega)))] at hev
    cases h1 : decide (pubE a = 0) with
    | false =>
      rw [h1, Bool.not_false, cond_true] at hev
      have hb : sgBad a m = pubE a := by unfold sgBad; rw [h1]; rfl
      rw [hb, h1]
      exact runs_evS (mkokf (sy := true) (rw := false) tabokRSign ilokRSign JsOK.nil) (bs0 := []) hev (sg0_ent _) trivial
    | true =>
      rw [h1, Bool.not_true, cond_false] at hev
      cases h2 : decide ((1048576 : Int) < (m.length : Nat)) with
      | true =>
        rw [h2, cond_true] at hev
        have hb : sgBad a m = 3 := by unfold sgBad; rw [h1, h2]; rfl
        rw [hb]
        exact runs_evS (mkokf (sy := true) (rw := false) tabokRSign ilokRSign JsOK.nil) (bs0 := []) hev (sg0_ent _) trivial
      | false =>
        rw [h2, cond_false] at hev
        have hb : sgBad a m = 0 := by unfold sgBad; rw [h1, h2]; rfl
        rw [hb]
        exact runs_evS (mkokf (sy := true) (rw := false) tabokRSign ilokRSign JsOK.nil) (bs0 := []) hev (VEnt.refl _) trivial
  · cases hF

noncomputable def negP12 (p r : Nat) (m : List (List D)) : Nat := bif okS 0 && okS (chalN p r m) then restP (restP 0 + restP (minusS 7237005577332262213973186563042994240857116359379907606001950938285454250989 (restP (chalN p r m)))) else 0
/-- What the document's Verify answers. -/
noncomputable def verR (p : Nat) (m : List (List D)) (r s : Nat) : Int := bif decide ((1048576 : Int) < (m.length : Nat)) then 3 else bif !rdecBP p then 51 else bif !rdecBP r then 51 else bif !okS s then 50 else
  bif !decide (sumN [[.n s, .n bN], [.n (negP12 p r m), .n p]] = r) then 120 else 0

noncomputable def sRVerifyF : List D → Option (List Bool × V)
  | [.n p, .l m, .n r, .n s] => some ([decide (m.length < 274877906944)], vi64 (verR p m r s))
  | _ => none
noncomputable def sRVerify : FSpec := spec [tb32, tby, tsg] sRVerifyF
noncomputable abbrev tabRVerify : List (FuncId × FSpec) := [(71, sRChal), (74, sSIsPoint), (65, sSIsScalar), (68, sSBase), (66, sSOf), (75, sSaMinus), (67, sSSum)]
set_option maxRecDepth 100000 in
theorem tabokRVerify : TabOK Tryz.prog (tabOf tabRVerify) := (.cons ok_RChal (.cons ok_SIsPoint (.cons ok_SIsScalar (.cons ok_SBase (.cons ok_SOf (.cons ok_SaMinus (.cons ok_SSum .nil)))))))
noncomputable abbrev ilRVerify : List (FuncId × Func) := []
set_option maxRecDepth 100000 in
theorem ilokRVerify : IlOK Tryz.prog (ilTab ilRVerify) := IlOK.nil
set_option maxRecDepth 100000 in
theorem ok_RVerify : FnOK Tryz.prog 30 sRVerify := by
  refine fn_flat (cx := mkcf true false tabRVerify ilRVerify []) (c := bodyOf Tryz.f30) Tryz.func30 (by kernel_rfl) (by kernel_rfl) rfl ?_
  intro ds chk v vs hF ht he hr base
  unfold sRVerifyF at hF
  split at hF
  · rename_i p m r s
    cases hF
    have hvs : vs = [vb32 p, vby m, vsg0 r s] := by simp only [encA, encV, encP, encL, Option.some.injEq] at he; exact he.symm
    subst hvs
    have hm : m.length < 274877906944 := of_decide_eq_true (ht _ (by simp))
    have hev : evS (mkcf true false tabRVerify ilRVerify []) 400 (bodyOf Tryz.f30) ⟨t0 Tryz.f30 [vb32 p, vby m, vsg0 r s], []⟩ (kres (mkcf true false tabRVerify ilRVerify []) Tryz.f30 base) =
        chks [okK .i64 (m.length : Nat)] (bif decide ((1048576 : Int) < (m.length : Nat)) then outV (vi64 3) else bif !rdecBP p then outV (vi64 51) else bif !rdecBP r then outV (vi64 51) else bif !okS s then outV (vi64 50) else
          chks [decide (m.length < 274877906944)] (bif !decide (sumN [[.n s, .n bN], [.n (negP12 p r m), .n p]] = r) then outV (vi64 120) else outV (vi64 0))) := by kernel_rfl
    rw [chks_true (allT1 (okI (by omega) (by omega))), chks_true (allT1 (by rw [decide_eq_true_iff]; omega))] at hev
    have hev : evS (mkcf true false tabRVerify ilRVerify []) 400 (bodyOf Tryz.f30) ⟨t0 Tryz.f30 [vb32 p, vby m, vsg0 r s], []⟩ (kres (mkcf true false tabRVerify ilRVerify []) Tryz.f30 base) = outV (vi64 (verR p m r s)) := by
      rw [hev]
      unfold verR
      cases decide ((1048576 : Int) < (m.length : Nat)) <;> cases rdecBP p <;> cases rdecBP r <;> cases okS s <;> cases decide (sumN [[.n s, .n bN], [.n (negP12 p r m), .n p]] = r) <;> rfl
    exact runs_evS (mkokf (sy := true) (rw := false) tabokRVerify ilokRVerify JsOK.nil) (bs0 := []) hev (VEnt.refl _) trivial
  · cases hF
end Go.Proofs.YtdkmcpbjicnfmaaGreat
