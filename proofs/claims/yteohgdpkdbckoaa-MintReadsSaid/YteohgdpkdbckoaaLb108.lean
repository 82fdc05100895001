/-
  The law MintParams answers true; what the document reads.
-/
import Derived.Test.YteohgdpkdbckoaaLb106
namespace Go.Proofs.Yteohgdpkdbckoaa
open Go Vx Go.RowKit

noncomputable def sMintParamsTF : List D → Option (List Bool × V)
  | [.n a, .n b, .n c, .n d, .n e, .n f, .n g, .n h, .n i] => some ([mprM a b c d e f g h i], vbool' true)
  | _ => none
noncomputable def sMintParamsT : FSpec := spec [tprm] sMintParamsTF
noncomputable abbrev tabMintParamsT : List (FuncId × FSpec) := [(5, sHMBytT), (6, sHMPar), (7, sRMPar), (9, sRMForm), (8, sKnown13)]
set_option maxRecDepth 100000 in
theorem tabokMintParamsT : TabOK Try.prog (tabOf tabMintParamsT) := (.cons ok_HMBytT (.cons ok_HMPar (.cons ok_RMPar (.cons ok_RMForm (.cons ok_Known13 .nil)))))
noncomputable abbrev ilMintParamsT : List (FuncId × Func) := []
set_option maxRecDepth 100000 in
theorem ilokMintParamsT : IlOK Try.prog (ilTab ilMintParamsT) := IlOK.nil
set_option maxRecDepth 100000 in
theorem ok_MintParamsT : FnOK Try.prog 3 sMintParamsT := by
  refine fn_flat (cx := mkcf false false tabMintParamsT ilMintParamsT []) (c := bodyOf Try.f3) Try.func3 (by kernel_rfl) (by kernel_rfl) rfl ?_
  intro ds chk v vs hF ht he hr base
  unfold sMintParamsTF at hF
  split at hF
  · rename_i a b c d e f g h i
    cases hF
    have hvs : vs = [vprm a b c d e f g h i] := by simp only [encA, encV, encP, encL, Option.some.injEq] at he; exact he.symm
    subst hvs
    have hm : mprM a b c d e f g h i = true := ht _ (by simp)
    have hev : evS (mkcf false false tabMintParamsT ilMintParamsT []) 400 (bodyOf Try.f3) ⟨t0 Try.f3 [vprm a b c d e f g h i], []⟩ (kres (mkcf false false tabMintParamsT ilMintParamsT []) Try.f3 base) = chks [mprM a b c d e f g h i] (bif !(mprM a b c d e f g h i == mprM a b c d e f g h i) then outV (vbool' false) else bif !mprM a b c d e f g h i then outV (vbool' false) else treeL [decide ((toStr (List.take 288 (List.drop 0 (frmL a b c d e f g h i)))).toList = (toStr (List.take 288 (List.drop 0 (frmL a b c d e f g h i)))).toList)]) := by kernel_rfl
    rw [hm] at hev
    exact runs_evS (mkokf (sy := false) (rw := false) tabokMintParamsT ilokMintParamsT JsOK.nil) (n := 400) (bs0 := []) (hev.trans (by simp only [eq_self, decide_true]; rfl)) (VEnt.refl _) trivial
  · cases hF

noncomputable def sMintParamsFF : List D → Option (List Bool × V)
  | [.n a, .n b, .n c, .n d, .n e, .n f, .n g, .n h, .n i] => some ([!mprM a b c d e f g h i], vbool' true)
  | _ => none
noncomputable def sMintParamsF : FSpec := spec [tprm] sMintParamsFF
noncomputable abbrev tabMintParamsF : List (FuncId × FSpec) := [(5, sHMBytF), (6, sHMPar), (7, sRMPar), (8, sKnown13)]
set_option maxRecDepth 100000 in
theorem tabokMintParamsF : TabOK Try.prog (tabOf tabMintParamsF) := (.cons ok_HMBytF (.cons ok_HMPar (.cons ok_RMPar (.cons ok_Known13 .nil))))
noncomputable abbrev ilMintParamsF : List (FuncId × Func) := []
set_option maxRecDepth 100000 in
theorem ilokMintParamsF : IlOK Try.prog (ilTab ilMintParamsF) := IlOK.nil
set_option maxRecDepth 100000 in
theorem ok_MintParamsF : FnOK Try.prog 3 sMintParamsF := by
  refine fn_flat (cx := mkcf false false tabMintParamsF ilMintParamsF []) (c := bodyOf Try.f3) Try.func3 (by kernel_rfl) (by kernel_rfl) rfl ?_
  intro ds chk v vs hF ht he hr base
  unfold sMintParamsFF at hF
  split at hF
  · rename_i a b c d e f g h i
    cases hF
    have hvs : vs = [vprm a b c d e f g h i] := by simp only [encA, encV, encP, encL, Option.some.injEq] at he; exact he.symm
    subst hvs
    have hm : mprM a b c d e f g h i = false := not_f (ht _ (by simp))
    have hev : evS (mkcf false false tabMintParamsF ilMintParamsF []) 400 (bodyOf Try.f3) ⟨t0 Try.f3 [vprm a b c d e f g h i], []⟩ (kres (mkcf false false tabMintParamsF ilMintParamsF []) Try.f3 base) = chks [!mprM a b c d e f g h i] (bif !(mprM a b c d e f g h i == mprM a b c d e f g h i) then outV (vbool' false) else bif !mprM a b c d e f g h i then outV (vbool' true) else outV (vbool' false)) := by kernel_rfl
    rw [hm] at hev
    exact runs_evS (mkokf (sy := false) (rw := false) tabokMintParamsF ilokMintParamsF JsOK.nil) (n := 400) (bs0 := []) hev (VEnt.refl _) trivial
  · cases hF

noncomputable def sMintParamsAF : List D → Option (List Bool × V)
  | [.n _, .n _, .n _, .n _, .n _, .n _, .n _, .n _, .n _] => some ([], vbool' true)
  | _ => none
set_option maxRecDepth 100000 in
theorem ok_MintParams : FnOK Try.prog 3 (spec [tprm] sMintParamsAF) := by
  refine spec_or ok_MintParamsT ok_MintParamsF fun ds c v h _ => ?_
  unfold sMintParamsAF at h
  split at h
  · rename_i a b c d e f g h i
    cases h
    cases hm : mprM a b c d e f g h i with
    | true => exact .inl ⟨_, rfl, allT1 hm⟩
    | false => exact .inr ⟨_, rfl, allT1 (by rw [hm]; rfl)⟩
  · cases h

def by32q (x : List (List D)) (k : Nat) : Nat := packL 8 ((List.range 32).map fun j => ((x.getD (32 * k + j) []).headD (.n 0)).toI.toNat)
theorem by32_q {x : List (List D)} (h : x.length = 288) {k : Nat} (hk : k < 9) : by32 x k = by32q x k := by
  unfold by32 by32q dr
  congr 1
  refine List.map_congr_left fun j hj => ?_
  have hj := List.mem_range.1 hj
  have e : (32 * (k : Int)).toNat = 32 * k := by omega
  rw [Int.toNat_natCast, e, h, List.getD_eq_getElem?_getD, List.getElem?_take, if_pos (by omega), List.getElem?_drop, ← List.getD_eq_getElem?_getD]
def rqL (x : List (List D)) : List L := (List.range 288).map fun j => .int .u8 ((x.getD j []).headD (.n 0)).toI
abbrev xq (g : Nat → List D) : List (List D) := (List.range 288).map g
theorem xq_of {x : List (List D)} (h : x.length = 288) : x = xq fun i => x.getD i [] := by
  refine List.ext_getElem? fun i => ?_
  rw [List.getElem?_map]
  by_cases hi : i < 288
  · rw [List.getElem?_range hi, Option.map_some, List.getD_eq_getElem?_getD, List.getElem?_eq_getElem (by omega)]; rfl
  · rw [List.getElem?_eq_none (by omega), List.getElem?_eq_none (by rw [List.length_range]; omega)]; rfl
def stR13q (x : List (List D)) (e : Int) : St := ⟨[vby x, .junk, .one (.ptr 0 0), vi64 e] ++ List.replicate 45 .junk, [some ⟨25, .ps z9⟩]⟩
def stR13l (x : List (List D)) (l : List L) : St := ⟨[vby x, .junk, .one (.ptr 0 0), vi64 0, .one (.ptr 1 0)] ++ List.replicate 44 .junk, [some ⟨25, .ps z9⟩, some ⟨52, .ps l⟩]⟩

noncomputable def sRMReadF : List D → Option (List Bool × V)
  | [.l x] => some ([], vprm5 (rdN x 0) (rdN x 1) (rdN x 2) (rdN x 3) (rdN x 4) (rdN x 5) (rdN x 6) (rdN x 7) (rdN x 8) (rdE x))
  | _ => none
noncomputable def sRMRead : FSpec := spec [tby] sRMReadF
noncomputable abbrev tabRMRead : List (FuncId × FSpec) := [(7, sRMPar)]
set_option maxRecDepth 100000 in
theorem tabokRMRead : TabOK Try.prog (tabOf tabRMRead) := (.cons ok_RMPar .nil)
noncomputable abbrev ilRMRead : List (FuncId × Func) := []
set_option maxRecDepth 100000 in
theorem ilokRMRead : IlOK Try.prog (ilTab ilRMRead) := IlOK.nil
set_option maxRecDepth 100000 in
theorem ok_RMRead : FnOK Try.prog 11 sRMRead := by
  refine fn_flat (cx := mkcf true true tabRMRead ilRMRead []) (c := bodyOf Try.f11) Try.func11 (by kernel_rfl) (by kernel_rfl) rfl ?_
  intro ds chk v vs hF ht he hr base
  unfold sRMReadF at hF
  split at hF
  · rename_i x
    cases hF
    have hvs : vs = [vby x] := by simp only [encA, encV, encP, encL, Option.some.injEq] at he; exact he.symm
    subst hvs
    obtain ⟨hrng, _⟩ := hr
    have hmx : x.length < 9223372036854775808 := Nat.lt_of_le_of_lt hrng.1 (by decide)
    have h0 : evLS (mkcf true true tabRMRead ilRMRead []) 100 ((items (bodyOf Try.f11)).take 3) ⟨t0 Try.f11 [vby x], []⟩ (kfg 0 [0, 2, 3] [0] 1) =
        chks [okK .i64 (x.length : Nat)] (bif !decide (((x.length : Nat) : Int) = 288) then .done .ret (stR13q x 5) else .done .normal (stR13q x 0)) := by kernel_rfl
    rw [chks_true (allT1 (okI (by omega) (by omega)))] at h0
    by_cases hx : x.length = 288
    rotate_left 1
    · have e1 : decide (((x.length : Nat) : Int) = 288) = false := decide_eq_false (by omega)
      have e2 : rdOK x = false := by unfold rdOK; rw [e1]; rfl
      rw [e1, Bool.not_false, cond_true] at h0
      have e3 : ∀ i, rdN x i = 0 := fun i => by unfold rdN; rw [e2]; rfl
      have e4 : rdE x = 5 := by unfold rdE; rw [e2]; rfl
      simp only [e3, e4]
      exact Runs.items _ _ _ (RunsL.preS (mkokf (sy := true) (rw := true) tabokRMRead ilokRMRead JsOK.nil) (k := 3) h0 ⟨_, [], (by kernel_rfl), VEnt.tup2 (UEnt.of z9_ent) (UEnt.refl _), trivial⟩)
    have e1 : decide (((x.length : Nat) : Int) = 288) = true := decide_eq_true (by omega)
    rw [e1, Bool.not_true, cond_false] at h0
    refine Runs.items _ _ _ (RunsL.preS (mkokf (sy := true) (rw := true) tabokRMRead ilokRMRead JsOK.nil) (k := 3) h0 ?_)
    have hg := xq_of hx
    generalize (fun i => x.getD i []) = g at hg
    subst hg
    refine RunsL.flags (cx := mkcf false true tabRMRead ilRMRead []) (cx' := mkcf true true tabRMRead ilRMRead []) rfl rfl ?_
    have h1 : evLS (mkcf false true tabRMRead ilRMRead []) 2000 (((items (bodyOf Try.f11)).drop 3).take 3) (stR13q (xq g) 0) (kfg 0 [0, 2, 3, 4] [0, 1] 2) = (.done .normal (stR13l (xq g) (rqL (xq g)))) := by kernel_rfl
    refine RunsL.preS (mkokf (sy := false) (rw := true) tabokRMRead ilokRMRead JsOK.nil) (k := 3) h1 ?_
    refine RunsL.flags (cx := mkcf true true tabRMRead ilRMRead []) (cx' := mkcf false true tabRMRead ilRMRead []) rfl rfl ?_
    generalize xq g = x at *
    have h3 : evLS (mkcf true true tabRMRead ilRMRead []) 100 ((items (bodyOf Try.f11)).drop 6) (stR13l x (rqL x)) (kres (mkcf true true tabRMRead ilRMRead []) Try.f11 base) = bif !mprM (by32q x 0) (by32q x 1) (by32q x 2) (by32q x 3) (by32q x 4) (by32q x 5) (by32q x 6) (by32q x 7) (by32q x 8) then outV (.tup [.ag (.ps z9), .one (.int .i64 5)]) else outV (.tup [.ag (.ps (rqL x)), .one (.int .i64 0)]) := by kernel_rfl
    have e2 : rdOK x = mprM (by32q x 0) (by32q x 1) (by32q x 2) (by32q x 3) (by32q x 4) (by32q x 5) (by32q x 6) (by32q x 7) (by32q x 8) := by unfold rdOK; rw [e1, by32_q hx (k := 0) (by decide), by32_q hx (k := 1) (by decide), by32_q hx (k := 2) (by decide), by32_q hx (k := 3) (by decide), by32_q hx (k := 4) (by decide), by32_q hx (k := 5) (by decide), by32_q hx (k := 6) (by decide), by32_q hx (k := 7) (by decide), by32_q hx (k := 8) (by decide)]; rfl
    cases hm : mprM (by32q x 0) (by32q x 1) (by32q x 2) (by32q x 3) (by32q x 4) (by32q x 5) (by32q x 6) (by32q x 7) (by32q x 8) with
    | false =>
      rw [hm, Bool.not_false, cond_true] at h3
      have e3 : ∀ i, rdN x i = 0 := fun i => by unfold rdN; rw [e2, hm]; rfl
      have e4 : rdE x = 5 := by unfold rdE; rw [e2, hm]; rfl
      simp only [e3, e4]
      exact runsL_evS (mkokf (sy := true) (rw := true) tabokRMRead ilokRMRead JsOK.nil) (bs0 := []) h3 (VEnt.tup2 (UEnt.of z9_ent) (UEnt.refl _)) trivial
    | true =>
      rw [hm, Bool.not_true, cond_false] at h3
      have e3 : ∀ i, rdN x i = by32 x i := fun i => by unfold rdN; rw [e2, hm]; rfl
      have e4 : rdE x = 0 := by unfold rdE; rw [e2, hm]; rfl
      simp only [e3, e4]
      rw [by32_q hx (k := 0) (by decide), by32_q hx (k := 1) (by decide), by32_q hx (k := 2) (by decide), by32_q hx (k := 3) (by decide), by32_q hx (k := 4) (by decide), by32_q hx (k := 5) (by decide), by32_q hx (k := 6) (by decide), by32_q hx (k := 7) (by decide), by32_q hx (k := 8) (by decide)]
      exact runsL_evS (mkokf (sy := true) (rw := true) tabokRMRead ilokRMRead JsOK.nil) (bs0 := []) h3 (VEnt.tup2 (UEnt.of (VEnt.dec (t := tprm) (ds := [.n (by32q x 0), .n (by32q x 1), .n (by32q x 2), .n (by32q x 3), .n (by32q x 4), .n (by32q x 5), .n (by32q x 6), .n (by32q x 7), .n (by32q x 8)]) (by kernel_rfl) (by kernel_rfl))) (UEnt.refl _)) trivial
  · cases hF
end Go.Proofs.Yteohgdpkdbckoaa
