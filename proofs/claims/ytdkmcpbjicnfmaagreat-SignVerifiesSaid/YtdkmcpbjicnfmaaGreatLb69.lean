/-
  Contracts of signatures.
-/
import Derived.Test.YtdkmcpbjicnfmaaGreatLb68
import Derived.Test.YtdkmcpbjicnfmaaGreatL8
namespace Go.Proofs.YtdkmcpbjicnfmaaGreat
open Go Vx Go.RowKit

noncomputable def bN : Nat := rencP (baseP ())
noncomputable def pubE (a : Nat) : Int := bif !okS a then 50 else bif decide (a = 0) then 50 else sumE [[.n a, .n bN]]
noncomputable def pubN (a : Nat) : Nat := bif !okS a then 0 else bif decide (a = 0) then 0 else sumN [[.n a, .n bN]]
def nonceL (a : Nat) (m : List (List D)) : List (List D) := [[.i 110], [.i 111], [.i 110], [.i 99], [.i 101]] ++ pkL 32 a ++ m
noncomputable def nonceK (a : Nat) (m : List (List D)) : Nat := restP (sha512N (nonceL a m))
noncomputable def nonceN (a : Nat) (m : List (List D)) : Nat := bif decide (nonceK a m = 0) then 1 else nonceK a m
abbrev tsg : Ty := .ag [.pk .u8 8 32, .pk .u8 8 32]
abbrev vsg0 (r s : Nat) : V := .ag (.ps [.pk .u8 8 32 r, .pk .u8 8 32 s])
abbrev vsg (r s : Nat) (e : Int) : V := .tup [.ag (.ps [.pk .u8 8 32 r, .pk .u8 8 32 s]), .one (.int .i64 e)]
def sg0 (e : Int) : V := .tup [.ag (.ps (ub0 ++ ub0)), .one (.int .i64 e)]
theorem sg0_ent (e : Int) : VEnt (sg0 e) (vsg 0 0 e) := VEnt.tup2 (UEnt.of (VEnt.dec (t := tsg) (ds := [.n 0, .n 0]) rfl rfl)) (UEnt.refl _)
noncomputable def sgR (a : Nat) (m : List (List D)) : Nat := sumN [[.n (nonceN a m), .n bN]]
noncomputable def sgC (a : Nat) (m : List (List D)) : Nat := chalN (pubN a) (sgR a m) m
noncomputable def sgX (a : Nat) (m : List (List D)) : Nat := bif okS (sgC a m) && okS a then restP (restP (sgC a m) * restP a) else 0
noncomputable def sgS (a : Nat) (m : List (List D)) : Nat := bif okS (nonceN a m) && okS (sgX a m) then restP (restP (nonceN a m) + restP (sgX a m)) else 0
noncomputable def sgF (a : Nat) (m : List (List D)) : Int := bif okS (nonceN a m) && okS (sgX a m) then 0 else 50
noncomputable def sgBad (a : Nat) (m : List (List D)) : Int := bif !decide (pubE a = 0) then pubE a else bif decide ((1048576 : Int) < (m.length : Nat)) then 3 else 0
noncomputable def verE (p : Nat) (m : List (List D)) (r s : Nat) : Int := bif decide ((1048576 : Int) < (m.length : Nat)) then 3 else bif !rdecBP p then 51 else bif !rdecBP r then 51 else bif !okS s then 50 else
  bif !decide (sumN [[.n s, .n bN]] = sumN [[.n 1, .n r], [.n (chalN p r m), .n p]]) then 120 else 0

noncomputable def sGPublicF : List D → Option (List Bool × V)
  | [.n a] => some ([], vse (pubN a) (pubE a))
  | _ => none
noncomputable def sGPublic : FSpec := spec [tb32] sGPublicF
noncomputable abbrev tabGPublic : List (FuncId × FSpec) := [(58, sAIsScalar), (60, sABase), (59, sASum)]
set_option maxRecDepth 100000 in
theorem tabokGPublic : TabOK Tryz.prog (tabOf tabGPublic) := (.cons ok_AIsScalar (.cons ok_ABase (.cons ok_ASum .nil)))
noncomputable abbrev ilGPublic : List (FuncId × Func) := []
set_option maxRecDepth 100000 in
theorem ilokGPublic : IlOK Tryz.prog (ilTab ilGPublic) := IlOK.nil
set_option maxRecDepth 100000 in
theorem ok_GPublic : FnOK Tryz.prog 24 sGPublic := by
  refine fn_flat (cx := mkcf true false tabGPublic ilGPublic []) (c := bodyOf Tryz.f24) Tryz.func24 (by kernel_rfl) (by kernel_rfl) rfl ?_
  intro ds chk v vs hF ht he hr base
  unfold sGPublicF at hF
  split at hF
  · rename_i a
    cases hF
    have hvs : vs = [vb32 a] := by simp only [encA, encV, encP, encL, Option.some.injEq] at he; exact he.symm
    subst hvs
    have hev : evS (mkcf true false tabGPublic ilGPublic []) 400 (bodyOf Tryz.f24) ⟨t0 Tryz.f24 [vb32 a], []⟩ (kres (mkcf true false tabGPublic ilGPublic []) Tryz.f24 base) = bif !okS a then outV boE else bif decide (a = 0) then outV boE else outV (vse (sumN [[.n a, .n bN]]) (sumE [[.n a, .n bN]])) := by kernel_rfl
    unfold pubN pubE
    cases h1 : okS a with
    | false =>
      rw [h1, Bool.not_false, cond_true] at hev
      rw [Bool.not_false, cond_true, cond_true]
      exact runs_evS (mkokf (sy := true) (rw := false) tabokGPublic ilokGPublic JsOK.nil) (bs0 := []) hev (vse0 50) trivial
    | true =>
      rw [h1, Bool.not_true, cond_false] at hev
      rw [Bool.not_true, cond_false, cond_false]
      cases h2 : decide (a = 0) with
      | true =>
        rw [h2, cond_true] at hev
        exact runs_evS (mkokf (sy := true) (rw := false) tabokGPublic ilokGPublic JsOK.nil) (bs0 := []) hev (vse0 50) trivial
      | false =>
        rw [h2, cond_false] at hev
        exact runs_evS (mkokf (sy := true) (rw := false) tabokGPublic ilokGPublic JsOK.nil) (bs0 := []) hev (VEnt.refl _) trivial
  · cases hF

noncomputable def sGNonceF : List D → Option (List Bool × V)
  | [.n a, .l m] => some ([decide (m.length < 274877906944)], vb32 (nonceN a m))
  | _ => none
noncomputable def sGNonce : FSpec := spec [tb32, tby] sGNonceF
noncomputable abbrev tabGNonce : List (FuncId × FSpec) := [(91, sHSum512), (49, sAReduce), (57, sAOf)]
set_option maxRecDepth 100000 in
theorem tabokGNonce : TabOK Tryz.prog (tabOf tabGNonce) := (.cons ok_HSum512 (.cons ok_AReduce (.cons ok_AOf .nil)))
noncomputable abbrev ilGNonce : List (FuncId × Func) := []
set_option maxRecDepth 100000 in
theorem ilokGNonce : IlOK Tryz.prog (ilTab ilGNonce) := IlOK.nil
set_option maxRecDepth 100000 in
theorem ok_GNonce : FnOK Tryz.prog 61 sGNonce := by
  refine fn_flat (cx := mkcf true false tabGNonce ilGNonce []) (c := bodyOf Tryz.f61) Tryz.func61 (by kernel_rfl) (by kernel_rfl) rfl ?_
  intro ds chk v vs hF ht he hr base
  unfold sGNonceF at hF
  split at hF
  · rename_i a m
    cases hF
    have hvs : vs = [vb32 a, vby m] := by simp only [encA, encV, encP, encL, Option.some.injEq] at he; exact he.symm
    subst hvs
    have hm : m.length < 274877906944 := of_decide_eq_true (ht _ (by simp))
    have hev : evS (mkcf true false tabGNonce ilGNonce []) 400 (bodyOf Tryz.f61) ⟨t0 Tryz.f61 [vb32 a, vby m], []⟩ (kres (mkcf true false tabGNonce ilGNonce []) Tryz.f61 base) =
        chks (ckA ([[.i 110], [.i 111], [.i 110], [.i 99], [.i 101]] ++ pkL 32 a, 5 + (pkL 32 a).length) m ++ [decide (0 + (apR ([[.i 110], [.i 111], [.i 110], [.i 99], [.i 101]] ++ pkL 32 a, 5 + (pkL 32 a).length) m).2 ≤ (apR ([[.i 110], [.i 111], [.i 110], [.i 99], [.i 101]] ++ pkL 32 a, 5 + (pkL 32 a).length) m).1.length), decide ((((apR ([[.i 110], [.i 111], [.i 110], [.i 99], [.i 101]] ++ pkL 32 a, 5 + (pkL 32 a).length) m).1.drop 0).take (apR ([[.i 110], [.i 111], [.i 110], [.i 99], [.i 101]] ++ pkL 32 a, 5 + (pkL 32 a).length) m).2).length < 1099511627776)])
          (bif decide (restP (sha512N (((apR ([[.i 110], [.i 111], [.i 110], [.i 99], [.i 101]] ++ pkL 32 a, 5 + (pkL 32 a).length) m).1.drop 0).take (apR ([[.i 110], [.i 111], [.i 110], [.i 99], [.i 101]] ++ pkL 32 a, 5 + (pkL 32 a).length) m).2)) = 0) then outV (vb32 1) else outV (vb32 (restP (sha512N (((apR ([[.i 110], [.i 111], [.i 110], [.i 99], [.i 101]] ++ pkL 32 a, 5 + (pkL 32 a).length) m).1.drop 0).take (apR ([[.i 110], [.i 111], [.i 110], [.i 99], [.i 101]] ++ pkL 32 a, 5 + (pkL 32 a).length) m).2))))) := by kernel_rfl
    have o1 : okR ([[.i 110], [.i 111], [.i 110], [.i 99], [.i 101]] ++ pkL 32 a, 5 + (pkL 32 a).length) ([[.i 110], [.i 111], [.i 110], [.i 99], [.i 101]] ++ pkL 32 a) := ⟨rfl, rfl⟩
    have o2 := apR_ok (y := m) o1
    have l1 : ([[D.i 110], [.i 111], [.i 110], [.i 99], [.i 101]] ++ pkL 32 a).length = 37 := rfl
    have l2 : ([[D.i 110], [.i 111], [.i 110], [.i 99], [.i 101]] ++ pkL 32 a ++ m).length = 37 + m.length := by rw [List.length_append, l1]
    rw [look_ok o2, chks_true] at hev
    rotate_left 1
    · refine allT_app (ckA_ok o1 (by rw [l1]; omega)) (allTc (by rw [decide_eq_true_iff, o2.1, o2.2]; omega) (allT1 ?_))
      rw [decide_eq_true_iff, l2]
      omega
    unfold nonceN nonceK nonceL
    cases h2 : decide (restP (sha512N ([[D.i 110], [.i 111], [.i 110], [.i 99], [.i 101]] ++ pkL 32 a ++ m)) = 0) with
    | true =>
      rw [h2, cond_true] at hev
      exact runs_evS (mkokf (sy := true) (rw := false) tabokGNonce ilokGNonce JsOK.nil) (bs0 := []) hev (VEnt.refl _) trivial
    | false =>
      rw [h2, cond_false] at hev
      exact runs_evS (mkokf (sy := true) (rw := false) tabokGNonce ilokGNonce JsOK.nil) (bs0 := []) hev (VEnt.refl _) trivial
  · cases hF

noncomputable def sGSignF : List D → Option (List Bool × V)
  | [.n a, .l m] => some ([decide (m.length < 274877906944)], vsg (bif decide (sgBad a m = 0) then sgR a m else 0) (bif decide (sgBad a m = 0) then sgS a m else 0) (bif decide (sgBad a m = 0) then sgF a m else sgBad a m))
  | _ => none
noncomputable def sGSign : FSpec := spec [tb32, tby] sGSignF
noncomputable abbrev tabGSign : List (FuncId × FSpec) := [(24, sGPublic), (61, sGNonce), (63, sGChal), (60, sABase), (59, sASum), (62, sATimes), (64, sAPlus)]
set_option maxRecDepth 100000 in
theorem tabokGSign : TabOK Tryz.prog (tabOf tabGSign) := (.cons ok_GPublic (.cons ok_GNonce (.cons ok_GChal (.cons ok_ABase (.cons ok_ASum (.cons ok_ATimes (.cons ok_APlus .nil)))))))
noncomputable abbrev ilGSign : List (FuncId × Func) := []
set_option maxRecDepth 100000 in
theorem ilokGSign : IlOK Tryz.prog (ilTab ilGSign) := IlOK.nil
set_option maxRecDepth 100000 in
theorem ok_GSign : FnOK Tryz.prog 25 sGSign := by
  refine fn_flat (cx := mkcf true false tabGSign ilGSign []) (c := bodyOf Tryz.f25) Tryz.func25 (by kernel_rfl) (by kernel_rfl) rfl ?_
  intro ds chk v vs hF ht he hr base
  unfold sGSignF at hF
  split at hF
  · rename_i a m
    cases hF
    have hvs : vs = [vb32 a, vby m] := by simp only [encA, encV, encP, encL, Option.some.injEq] at he; exact he.symm
    subst hvs
    have hm : m.length < 274877906944 := of_decide_eq_true (ht _ (by simp))
    have hev : evS (mkcf true false tabGSign ilGSign []) 400 (bodyOf Tryz.f25) ⟨t0 Tryz.f25 [vb32 a, vby m], []⟩ (kres (mkcf true false tabGSign ilGSign []) Tryz.f25 base) =
        bif !decide (pubE a = 0) then outV (sg0 (pubE a)) else chks [okK .i64 (m.length : Nat)] (bif decide ((1048576 : Int) < (m.length : Nat)) then outV (sg0 3) else chks [decide (m.length < 274877906944), decide (m.length < 274877906944)] (outV (vsg (sgR a m) (sgS a m) (sgF a m)))) := by kernel_rfl
    rw [chks_true (allT1 (okI (by omega) (by omega))), chks_true (allTc (by rw [decide_eq_true_iff]; omega) (allT1 (by rw [decide_eq_true_iff]; omega)))] at hev
    cases h1 : decide (pubE a = 0) with
    | false =>
      rw [h1, Bool.not_false, cond_true] at hev
      have hb : sgBad a m = pubE a := by unfold sgBad; rw [h1]; rfl
      rw [hb, h1]
      exact runs_evS (mkokf (sy := true) (rw := false) tabokGSign ilokGSign JsOK.nil) (bs0 := []) hev (sg0_ent _) trivial
    | true =>
      rw [h1, Bool.not_true, cond_false] at hev
      cases h2 : decide ((1048576 : Int) < (m.length : Nat)) with
      | true =>
        rw [h2, cond_true] at hev
        have hb : sgBad a m = 3 := by unfold sgBad; rw [h1, h2]; rfl
        rw [hb]
        exact runs_evS (mkokf (sy := true) (rw := false) tabokGSign ilokGSign JsOK.nil) (bs0 := []) hev (sg0_ent _) trivial
      | false =>
        rw [h2, cond_false] at hev
        have hb : sgBad a m = 0 := by unfold sgBad; rw [h1, h2]; rfl
        rw [hb]
        exact runs_evS (mkokf (sy := true) (rw := false) tabokGSign ilokGSign JsOK.nil) (bs0 := []) hev (VEnt.refl _) trivial
  · cases hF

noncomputable def sGVerifyF : List D → Option (List Bool × V)
  | [.n p, .l m, .n r, .n s] => some ([decide (m.length < 274877906944)], vi64 (verE p m r s))
  | _ => none
noncomputable def sGVerify : FSpec := spec [tb32, tby, tsg] sGVerifyF
noncomputable abbrev tabGVerify : List (FuncId × FSpec) := [(63, sGChal), (73, sAIsPoint), (58, sAIsScalar), (60, sABase), (57, sAOf), (59, sASum)]
set_option maxRecDepth 100000 in
theorem tabokGVerify : TabOK Tryz.prog (tabOf tabGVerify) := (.cons ok_GChal (.cons ok_AIsPoint (.cons ok_AIsScalar (.cons ok_ABase (.cons ok_AOf (.cons ok_ASum .nil))))))
noncomputable abbrev ilGVerify : List (FuncId × Func) := []
set_option maxRecDepth 100000 in
theorem ilokGVerify : IlOK Tryz.prog (ilTab ilGVerify) := IlOK.nil
set_option maxRecDepth 100000 in
theorem ok_GVerify : FnOK Tryz.prog 29 sGVerify := by
  refine fn_flat (cx := mkcf true false tabGVerify ilGVerify []) (c := bodyOf Tryz.f29) Tryz.func29 (by kernel_rfl) (by kernel_rfl) rfl ?_
  intro ds chk v vs hF ht he hr base
  unfold sGVerifyF at hF
  split at hF
  · rename_i p m r s
    cases hF
    have hvs : vs = [vb32 p, vby m, vsg0 r s] := by simp only [encA, encV, encP, encL, Option.some.injEq] at he; exact he.symm
    subst hvs
    have hm : m.length < 274877906944 := of_decide_eq_true (ht _ (by simp))
    have hev : evS (mkcf true false tabGVerify ilGVerify []) 400 (bodyOf Tryz.f29) ⟨t0 Tryz.f29 [vb32 p, vby m, vsg0 r s], []⟩ (kres (mkcf true false tabGVerify ilGVerify []) Tryz.f29 base) =
        chks [okK .i64 (m.length : Nat)] (bif decide ((1048576 : Int) < (m.length : Nat)) then outV (vi64 3) else bif !rdecBP p then outV (vi64 51) else bif !rdecBP r then outV (vi64 51) else bif !okS s then outV (vi64 50) else
          chks [decide (m.length < 274877906944)] (bif !decide (sumN [[.n s, .n bN]] = sumN [[.n 1, .n r], [.n (chalN p r m), .n p]]) then outV (vi64 120) else outV (vi64 0))) := by kernel_rfl
    rw [chks_true (allT1 (okI (by omega) (by omega))), chks_true (allT1 (by rw [decide_eq_true_iff]; omega))] at hev
    have hev : evS (mkcf true false tabGVerify ilGVerify []) 400 (bodyOf Tryz.f29) ⟨t0 Tryz.f29 [vb32 p, vby m, vsg0 r s], []⟩ (kres (mkcf true false tabGVerify ilGVerify []) Tryz.f29 base) = outV (vi64 (verE p m r s)) := by
      rw [hev]
      unfold verE
      cases decide ((1048576 : Int) < (m.length : Nat)) <;> cases rdecBP p <;> cases rdecBP r <;> cases okS s <;> cases decide (sumN [[.n s, .n bN]] = sumN [[.n 1, .n r], [.n (chalN p r m), .n p]]) <;> rfl
    exact runs_evS (mkokf (sy := true) (rw := false) tabokGVerify ilokGVerify JsOK.nil) (bs0 := []) hev (VEnt.refl _) trivial
  · cases hF
end Go.Proofs.YtdkmcpbjicnfmaaGreat
