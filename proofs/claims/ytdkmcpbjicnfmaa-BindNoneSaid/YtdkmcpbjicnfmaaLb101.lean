/-
  The law's known transcript and draw, worked out.
-/
import Derived.Test.YtdkmcpbjicnfmaaLb100
set_option maxRecDepth 100000
namespace Go.Proofs.Ytdkmcpbjicnfmaa
open Go Vx Go.RowKit

abbrev tr10 : List (List D) := addL (newL ⟨#[97]⟩) ⟨#[98]⟩ [[.i 99]]

noncomputable def sKnown10F : List D → Option (List Bool × V)
 | [] => some ([], vbool' true)
 | _ => none
noncomputable def sKnown10 : FSpec := spec [] sKnown10F
noncomputable abbrev tabKnown10 : List (FuncId × FSpec) := [(13, sBScalar), (36, sRScal), (69, sRForm), (75, sHK), (71, sRK), (41, sAK), (70, sSK), (72, sSOf)]
theorem tabokKnown10 : TabOK Try.prog (tabOf tabKnown10) := (.cons ok_BScalar (.cons ok_RScal (.cons ok_RForm (.cons ok_HK (.cons ok_RK (.cons ok_AK (.cons ok_SK (.cons ok_SOf .nil))))))))
noncomputable abbrev ilKnown10 : List (FuncId × Func) := [(10, Try.f10), (11, Try.f11), (39, Try.f39), (40, Try.f40), (33, Try.f33), (16, Try.f16), (44, Try.f44), (34, Try.f34), (35, Try.f35), (37, Try.f37), (38, Try.f38), (73, Try.f73)]
theorem ilokKnown10 : IlOK Try.prog (ilTab ilKnown10) := (IlOK.cons Try.func10 (by kernel_rfl) (IlOK.cons Try.func11 (by kernel_rfl) (IlOK.cons Try.func39 (by kernel_rfl) (IlOK.cons Try.func40 (by kernel_rfl) (IlOK.cons Try.func33 (by kernel_rfl) (IlOK.cons Try.func16 (by kernel_rfl) (IlOK.cons Try.func44 (by kernel_rfl) (IlOK.cons Try.func34 (by kernel_rfl) (IlOK.cons Try.func35 (by kernel_rfl) (IlOK.cons Try.func37 (by kernel_rfl) (IlOK.cons Try.func38 (by kernel_rfl) (IlOK.cons Try.func73 (by kernel_rfl) IlOK.nil))))))))))))
theorem ok_Known10 : FnOK Try.prog 9 sKnown10 := by
 refine fn_flat (cx := mkcf false false tabKnown10 ilKnown10 []) (c := bodyOf Try.f9) Try.func9 (by kernel_rfl) (by kernel_rfl) rfl ?_
 intro ds chk v vs hF ht he hr base
 unfold sKnown10F at hF
 split at hF
 · cases hF
   have hvs : vs = [] := by simp only [encA, Option.some.injEq] at he; exact he.symm
   subst hvs
   have hev : evS (mkcf false false tabKnown10 ilKnown10 []) 400 (bodyOf Try.f9) ⟨t0 Try.f9 [], []⟩ (kres (mkcf false false tabKnown10 ilKnown10 []) Try.f9 base) = bif decide (restP (sha512N (askL tr10 2 (ofStr ⟨#[120]⟩))) = restP (sha512N (askL tr10 2 (ofStr ⟨#[120]⟩)))) then outV (vbool' true) else outV (vbool' false) := by kernel_rfl
   rw [decide_eq_true rfl, cond_true] at hev
   exact runs_evS (mkokf (sy := false) (rw := false) tabokKnown10 ilokKnown10 JsOK.nil) (bs0 := []) hev (VEnt.refl _) trivial
 · cases hF
end Go.Proofs.Ytdkmcpbjicnfmaa
