/-
  Signatures of texts of any size; the document's answer is the program's.
-/
import Derived.Test.YtdkmcpbjicnfmaaGreatLb76
namespace Go.Proofs.YtdkmcpbjicnfmaaGreat
open Go Vx Go.RowKit

theorem negP12_eq (p r : Nat) (m : List (List D)) : okS (negP12 p r m) = true ∧ (negP12 p r m + chalN p r m) % lP = 0 := by
  have h0 : okS 0 = true := okS_iff.2 lP_pos
  have hc := chal_ok p r m
  have hx := okS_lt hc
  have e : negP12 p r m = (lP - chalN p r m) % lP := by
    unfold negP12
    rw [h0, hc, restP_self h0, restP_self hc, restP_mod, restP_mod, minusS_eq, Bool.and_true, cond_true, Nat.zero_add, Nat.mod_mod]
    show (lP + 2 ^ 256 - chalN p r m) % 2 ^ 256 % lP = _
    have h2 := lP_small
    generalize chalN p r m = x at *
    generalize lP = l at *
    generalize (2 : Nat) ^ 256 = t at *
    rw [show l + t - x = t + (l - x) by omega, Nat.add_mod_left]
    by_cases hx0 : x = 0
    · subst hx0
      rw [Nat.sub_zero, Nat.mod_eq_of_lt h2]
    · rw [Nat.mod_eq_of_lt (show l - x < t by omega)]
  refine ⟨by rw [e]; exact okS_mod _, ?_⟩
  rw [e, Nat.mod_add_mod, show lP - chalN p r m + chalN p r m = lP by omega, Nat.mod_self]
/-- The document's answer is the program's. -/
theorem verR_eq (p : Nat) (m : List (List D)) (r s : Nat) : verR p m r s = verE p m r s := by
  unfold verR verE
  cases decide ((1048576 : Int) < (m.length : Nat)) with
  | true => rfl
  | false =>
    cases hp : rdecBP p with
    | false => rfl
    | true =>
      cases hr : rdecBP r with
      | false => rfl
      | true =>
        cases hs : okS s with
        | false => rfl
        | true =>
          obtain ⟨P, _, hP⟩ := Pt.of_dec hp
          obtain ⟨R, _, hR⟩ := Pt.of_dec hr
          obtain ⟨hn, hn0⟩ := negP12_eq p r m
          have h1 := (sum_pt2 hs bE_pt hn hP).2
          have h2 := ver_iff (m := m) hP hR hs
          have hz : Co (E.mul (negP12 p r m) P + E.mul (chalN p r m) P) 0 := by
            rw [← E.add_mul]
            exact co_mod hP.1 (b := 0) (by rw [hn0]; rfl)
          have h3 : Co (E.mul s bE + E.mul (negP12 p r m) P) R ↔ Co (E.mul s bE) (R + E.mul (chalN p r m) P) := by
            constructor
            · intro h
              have := co_add h (co_refl (E.mul (chalN p r m) P))
              rw [E.add_assoc] at this
              have h4 := co_add (co_refl (E.mul s bE)) hz
              rw [E.add_zero] at h4
              exact co_trans (co_symm h4) this
            · intro h
              have := co_add h (co_refl (E.mul (negP12 p r m) P))
              rw [E.add_assoc, E.add_comm (E.mul (chalN p r m) P)] at this
              have h4 := co_add (co_refl R) hz
              rw [E.add_zero] at h4
              exact co_trans this h4
          have h5 : (sumN [[.n s, .n bN], [.n (negP12 p r m), .n p]] = r) ↔ (sumN [[.n s, .n bN]] = sumN [[.n 1, .n r], [.n (chalN p r m), .n p]]) := by
            rw [h2, ← h3]
            exact h1.eq_iff hR
          rw [decide_eq_decide.2 h5]

noncomputable def sHSign12F : List D → Option (List Bool × V)
  | [.n a, .l m] => some ([], vsg (bif decide (sgBad a m = 0) then sgR a m else 0) (bif decide (sgBad a m = 0) then sgS a m else 0) (bif decide (sgBad a m = 0) then (sgF a m) else sgBad a m))
  | _ => none
noncomputable def sHSign12 : FSpec := spec [tb32, tby] sHSign12F
noncomputable abbrev tabHSign12 : List (FuncId × FSpec) := [(24, sGPublic), (61, sGNonce), (63, sGChal), (60, sABase), (59, sASum), (62, sATimes), (64, sAPlus)]
set_option maxRecDepth 100000 in
theorem tabokHSign12 : TabOK Tryz.prog (tabOf tabHSign12) := (.cons ok_GPublic (.cons ok_GNonce (.cons ok_GChal (.cons ok_ABase (.cons ok_ASum (.cons ok_ATimes (.cons ok_APlus .nil)))))))
noncomputable abbrev ilHSign12 : List (FuncId × Func) := []
set_option maxRecDepth 100000 in
theorem ilokHSign12 : IlOK Tryz.prog (ilTab ilHSign12) := IlOK.nil
set_option maxRecDepth 100000 in
theorem ok_HSign12 : FnOK Tryz.prog 25 sHSign12 := by
  refine fn_flat (cx := mkcf true false tabHSign12 ilHSign12 []) (c := bodyOf Tryz.f25) Tryz.func25 (by kernel_rfl) (by kernel_rfl) rfl ?_
  intro ds chk v vs hF ht he hr base
  unfold sHSign12F at hF
  split at hF
  · rename_i a m
    cases hF
    have hvs : vs = [vb32 a, vby m] := by simp only [encA, encV, encP, encL, Option.some.injEq] at he; exact he.symm
    subst hvs
    obtain ⟨_, hrng, _⟩ := hr
    have hmx : m.length < 9223372036854775808 := Nat.lt_of_le_of_lt hrng.1 (by decide)
    have hev : evS (mkcf true false tabHSign12 ilHSign12 []) 400 (bodyOf Tryz.f25) ⟨t0 Tryz.f25 [vb32 a, vby m], []⟩ (kres (mkcf true false tabHSign12 ilHSign12 []) Tryz.f25 base) =
        bif !decide (pubE a = 0) then outV (sg0 (pubE a)) else chks [okK .i64 (m.length : Nat)] (bif decide ((1048576 : Int) < (m.length : Nat)) then outV (sg0 3) else chks [decide (m.length < 274877906944), decide (m.length < 274877906944)] (outV (vsg (sgR a m) (sgS a m) (sgF a m)))) := by kernel_rfl
    rw [chks_true (allT1 (okI (by omega) (by omega)))] at hev
    cases h1 : decide (pubE a = 0) with
    | false =>
      rw [h1, Bool.not_false, cond_true] at hev
      have hb : sgBad a m = pubE a := by unfold sgBad; rw [h1]; rfl
      rw [hb, h1]
      exact runs_evS (mkokf (sy := true) (rw := false) tabokHSign12 ilokHSign12 JsOK.nil) (bs0 := []) hev (sg0_ent _) trivial
    | true =>
      rw [h1, Bool.not_true, cond_false] at hev
      cases h2 : decide ((1048576 : Int) < (m.length : Nat)) with
      | true =>
        rw [h2, cond_true] at hev
        have hb : sgBad a m = 3 := by unfold sgBad; rw [h1, h2]; rfl
        rw [hb]
        exact runs_evS (mkokf (sy := true) (rw := false) tabokHSign12 ilokHSign12 JsOK.nil) (bs0 := []) hev (sg0_ent _) trivial
      | false =>
        have hl := of_decide_eq_false h2
        have hd : decide (m.length < 274877906944) = true := decide_eq_true (by omega)
        rw [h2, cond_false, chks_true (allTc hd (allT1 hd))] at hev
        have hb : sgBad a m = 0 := by unfold sgBad; rw [h1, h2]; rfl
        rw [hb]
        exact runs_evS (mkokf (sy := true) (rw := false) tabokHSign12 ilokHSign12 JsOK.nil) (bs0 := []) hev (VEnt.refl _) trivial
  · cases hF

noncomputable def sRSign12F : List D → Option (List Bool × V)
  | [.n a, .l m] => some ([], vsg (bif decide (sgBad a m = 0) then sgR a m else 0) (bif decide (sgBad a m = 0) then sgS a m else 0) (bif decide (sgBad a m = 0) then (0 : Int) else sgBad a m))
  | _ => none
noncomputable def sRSign12 : FSpec := spec [tb32, tby] sRSign12F
noncomputable abbrev tabRSign12 : List (FuncId × FSpec) := [(26, sRPublic), (69, sRNonce), (71, sRChal), (67, sSSum), (68, sSBase), (70, sSaTimes), (72, sSaPlus)]
set_option maxRecDepth 100000 in
theorem tabokRSign12 : TabOK Tryz.prog (tabOf tabRSign12) := (.cons ok_RPublic (.cons ok_RNonce (.cons ok_RChal (.cons ok_SSum (.cons ok_SBase (.cons ok_SaTimes (.cons ok_SaPlus .nil)))))))
noncomputable abbrev ilRSign12 : List (FuncId × Func) := []
set_option maxRecDepth 100000 in
theorem ilokRSign12 : IlOK Tryz.prog (ilTab ilRSign12) := IlOK.nil
set_option maxRecDepth 100000 in
theorem ok_RSign12 : FnOK Tryz.prog 27 sRSign12 := by
  refine fn_flat (cx := mkcf true false tabRSign12 ilRSign12 []) (c := bodyOf Tryz.f27) Tryz.func27 (by kernel_rfl) (by kernel_rfl) rfl ?_
  intro ds chk v vs hF ht he hr base
  unfold sRSign12F at hF
  split at hF
  · rename_i a m
    cases hF
    have hvs : vs = [vb32 a, vby m] := by simp only [encA, encV, encP, encL, Option.some.injEq] at he; exact he.symm
    subst hvs
    obtain ⟨_, hrng, _⟩ := hr
    have hmx : m.length < 9223372036854775808 := Nat.lt_of_le_of_lt hrng.1 (by decide)
    have hev : evS (mkcf true false tabRSign12 ilRSign12 []) 400 (bodyOf Tryz.f27) ⟨t0 Tryz.f27 [vb32 a, vby m], []⟩ (kres (mkcf true false tabRSign12 ilRSign12 []) Tryz.f27 base) =
        bif !decide (pubE a = 0) then outV (sg0 (pubE a)) else chks [okK .i64 (m.length : Nat)] (bif decide ((1048576 : Int) < (m.length : Nat)) then outV (sg0 3) else chks [decide (m.length < 274877906944), decide (m.length < 274877906944)] (outV (vsg (sgR a m) (sgS a m) (0 : Int)))) := by kernel_rfl
    rw [chks_true (allT1 (okI (by omega) (by omega)))] at hev
    cases h1 : decide (pubE a = 0) with
    | false =>
      rw [h1, Bool.not_false, cond_true] at hev
      have hb : sgBad a m = pubE a := by unfold sgBad; rw [h1]; rfl
      rw [hb, h1]
      exact runs_evS (mkokf (sy := true) (rw := false) tabokRSign12 ilokRSign12 JsOK.nil) (bs0 := []) hev (sg0_ent _) trivial
    | true =>
      rw [h1, Bool.not_true, cond_false] at hev
      cases h2 : decide ((1048576 : Int) < (m.length : Nat)) with
      | true =>
        rw [h2, cond_true] at hev
        have hb : sgBad a m = 3 := by unfold sgBad; rw [h1, h2]; rfl
        rw [hb]
        exact runs_evS (mkokf (sy := true) (rw := false) tabokRSign12 ilokRSign12 JsOK.nil) (bs0 := []) hev (sg0_ent _) trivial
      | false =>
        have hl := of_decide_eq_false h2
        have hd : decide (m.length < 274877906944) = true := decide_eq_true (by omega)
        rw [h2, cond_false, chks_true (allTc hd (allT1 hd))] at hev
        have hb : sgBad a m = 0 := by unfold sgBad; rw [h1, h2]; rfl
        rw [hb]
        exact runs_evS (mkokf (sy := true) (rw := false) tabokRSign12 ilokRSign12 JsOK.nil) (bs0 := []) hev (VEnt.refl _) trivial
  · cases hF

noncomputable def sHVerify12F : List D → Option (List Bool × V)
  | [.n p, .l m, .n r, .n s] => some ([], vi64 (verE p m r s))
  | _ => none
noncomputable def sHVerify12 : FSpec := spec [tb32, tby, tsg] sHVerify12F
noncomputable abbrev tabHVerify12 : List (FuncId × FSpec) := [(63, sGChal), (73, sAIsPoint), (58, sAIsScalar), (60, sABase), (57, sAOf), (59, sASum)]
set_option maxRecDepth 100000 in
theorem tabokHVerify12 : TabOK Tryz.prog (tabOf tabHVerify12) := (.cons ok_GChal (.cons ok_AIsPoint (.cons ok_AIsScalar (.cons ok_ABase (.cons ok_AOf (.cons ok_ASum .nil))))))
noncomputable abbrev ilHVerify12 : List (FuncId × Func) := []
set_option maxRecDepth 100000 in
theorem ilokHVerify12 : IlOK Tryz.prog (ilTab ilHVerify12) := IlOK.nil
set_option maxRecDepth 100000 in
theorem ok_HVerify12 : FnOK Tryz.prog 29 sHVerify12 := by
  refine fn_flat (cx := mkcf true false tabHVerify12 ilHVerify12 []) (c := bodyOf Tryz.f29) Tryz.func29 (by kernel_rfl) (by kernel_rfl) rfl ?_
  intro ds chk v vs hF ht he hr base
  unfold sHVerify12F at hF
  split at hF
  · rename_i p m r s
    cases hF
    have hvs : vs = [vb32 p, vby m, vsg0 r s] := by simp only [encA, encV, encP, encL, Option.some.injEq] at he; exact he.symm
    subst hvs
    obtain ⟨_, hrng, _⟩ := hr
    have hmx : m.length < 9223372036854775808 := Nat.lt_of_le_of_lt hrng.1 (by decide)
    have hev : evS (mkcf true false tabHVerify12 ilHVerify12 []) 400 (bodyOf Tryz.f29) ⟨t0 Tryz.f29 [vb32 p, vby m, vsg0 r s], []⟩ (kres (mkcf true false tabHVerify12 ilHVerify12 []) Tryz.f29 base) =
        chks [okK .i64 (m.length : Nat)] (bif decide ((1048576 : Int) < (m.length : Nat)) then outV (vi64 3) else bif !rdecBP p then outV (vi64 51) else bif !rdecBP r then outV (vi64 51) else bif !okS s then outV (vi64 50) else
          chks [decide (m.length < 274877906944)] (bif !decide (sumN [[.n s, .n bN]] = sumN [[.n 1, .n r], [.n (chalN p r m), .n p]]) then outV (vi64 120) else outV (vi64 0))) := by kernel_rfl
    rw [chks_true (allT1 (okI (by omega) (by omega)))] at hev
    have hev2 : evS (mkcf true false tabHVerify12 ilHVerify12 []) 400 (bodyOf Tryz.f29) ⟨t0 Tryz.f29 [vb32 p, vby m, vsg0 r s], []⟩ (kres (mkcf true false tabHVerify12 ilHVerify12 []) Tryz.f29 base) = outV (vi64 (verE p m r s)) := by
      rw [hev]
      unfold verE
      cases h2 : decide ((1048576 : Int) < (m.length : Nat)) with
      | true => rfl
      | false =>
        have hl := of_decide_eq_false h2
        rw [chks_true (allT1 (decide_eq_true (by omega)))]
        cases rdecBP p <;> cases rdecBP r <;> cases okS s <;> cases decide (sumN [[.n s, .n bN]] = sumN [[.n 1, .n r], [.n (chalN p r m), .n p]]) <;> rfl
    
    exact runs_evS (mkokf (sy := true) (rw := false) tabokHVerify12 ilokHVerify12 JsOK.nil) (bs0 := []) hev2 (VEnt.refl _) trivial
  · cases hF

noncomputable def sRVerify12F : List D → Option (List Bool × V)
  | [.n p, .l m, .n r, .n s] => some ([], vi64 (verE p m r s))
  | _ => none
noncomputable def sRVerify12 : FSpec := spec [tb32, tby, tsg] sRVerify12F
noncomputable abbrev tabRVerify12 : List (FuncId × FSpec) := [(71, sRChal), (74, sSIsPoint), (65, sSIsScalar), (68, sSBase), (66, sSOf), (75, sSaMinus), (67, sSSum)]
set_option maxRecDepth 100000 in
theorem tabokRVerify12 : TabOK Tryz.prog (tabOf tabRVerify12) := (.cons ok_RChal (.cons ok_SIsPoint (.cons ok_SIsScalar (.cons ok_SBase (.cons ok_SOf (.cons ok_SaMinus (.cons ok_SSum .nil)))))))
noncomputable abbrev ilRVerify12 : List (FuncId × Func) := []
set_option maxRecDepth 100000 in
theorem ilokRVerify12 : IlOK Tryz.prog (ilTab ilRVerify12) := IlOK.nil
set_option maxRecDepth 100000 in
theorem ok_RVerify12 : FnOK Tryz.prog 30 sRVerify12 := by
  refine fn_flat (cx := mkcf true false tabRVerify12 ilRVerify12 []) (c := bodyOf Tryz.f30) Tryz.func30 (by kernel_rfl) (by kernel_rfl) rfl ?_
  intro ds chk v vs hF ht he hr base
  unfold sRVerify12F at hF
  split at hF
  · rename_i p m r s
    cases hF
    have hvs : vs = [vb32 p, vby m, vsg0 r s] := by simp only [encA, encV, encP, encL, Option.some.injEq] at he; exact he.symm
    subst hvs
    obtain ⟨_, hrng, _⟩ := hr
    have hmx : m.length < 9223372036854775808 := Nat.lt_of_le_of_lt hrng.1 (by decide)
    have hev : evS (mkcf true false tabRVerify12 ilRVerify12 []) 400 (bodyOf Tryz.f30) ⟨t0 Tryz.f30 [vb32 p, vby m, vsg0 r s], []⟩ (kres (mkcf true false tabRVerify12 ilRVerify12 []) Tryz.f30 base) =
        chks [okK .i64 (m.length : Nat)] (bif decide ((1048576 : Int) < (m.length : Nat)) then outV (vi64 3) else bif !rdecBP p then outV (vi64 51) else bif !rdecBP r then outV (vi64 51) else bif !okS s then outV (vi64 50) else
          chks [decide (m.length < 274877906944)] (bif !decide (sumN [[.n s, .n bN], [.n (negP12 p r m), .n p]] = r) then outV (vi64 120) else outV (vi64 0))) := by kernel_rfl
    rw [chks_true (allT1 (okI (by omega) (by omega)))] at hev
    have hev2 : evS (mkcf true false tabRVerify12 ilRVerify12 []) 400 (bodyOf Tryz.f30) ⟨t0 Tryz.f30 [vb32 p, vby m, vsg0 r s], []⟩ (kres (mkcf true false tabRVerify12 ilRVerify12 []) Tryz.f30 base) = outV (vi64 (verR p m r s)) := by
      rw [hev]
      unfold verR
      cases h2 : decide ((1048576 : Int) < (m.length : Nat)) with
      | true => rfl
      | false =>
        have hl := of_decide_eq_false h2
        rw [chks_true (allT1 (decide_eq_true (by omega)))]
        cases rdecBP p <;> cases rdecBP r <;> cases okS s <;> cases decide (sumN [[.n s, .n bN], [.n (negP12 p r m), .n p]] = r) <;> rfl
    rw [verR_eq] at hev2
    exact runs_evS (mkokf (sy := true) (rw := false) tabokRVerify12 ilokRVerify12 JsOK.nil) (bs0 := []) hev2 (VEnt.refl _) trivial
  · cases hF
end Go.Proofs.YtdkmcpbjicnfmaaGreat
