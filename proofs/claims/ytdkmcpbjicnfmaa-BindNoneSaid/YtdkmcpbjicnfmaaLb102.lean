/-
  The law BindNone answers true.
-/
import Derived.Test.YtdkmcpbjicnfmaaLb101
set_option maxRecDepth 100000
namespace Go.Proofs.Ytdkmcpbjicnfmaa
open Go Vx Go.RowKit

noncomputable def sBindNoneF : List D → Option (List Bool × V)
 | [.s t, .l _, .i _] => some ([decide (t.size < 9223372036854775808)], vbool' true)
 | _ => none
noncomputable def sBindNone : FSpec := spec [tstr, tby, ti64] sBindNoneF
noncomputable abbrev tabBindNone : List (FuncId × FSpec) := [(9, sKnown10)]
theorem tabokBindNone : TabOK Try.prog (tabOf tabBindNone) := (.cons ok_Known10 .nil)
noncomputable abbrev ilBindNone : List (FuncId × Func) := [(10, Try.f10), (11, Try.f11), (12, Try.f12), (13, Try.f13), (14, Try.f14), (15, Try.f15), (16, Try.f16), (17, Try.f17)]
theorem ilokBindNone : IlOK Try.prog (ilTab ilBindNone) := (IlOK.cons Try.func10 (by kernel_rfl) (IlOK.cons Try.func11 (by kernel_rfl) (IlOK.cons Try.func12 (by kernel_rfl) (IlOK.cons Try.func13 (by kernel_rfl) (IlOK.cons Try.func14 (by kernel_rfl) (IlOK.cons Try.func15 (by kernel_rfl) (IlOK.cons Try.func16 (by kernel_rfl) (IlOK.cons Try.func17 (by kernel_rfl) IlOK.nil))))))))
theorem ok_BindNone : FnOK Try.prog 4 sBindNone := by
 refine fn_flat (cx := mkcf true false tabBindNone ilBindNone []) (c := bodyOf Try.f4) Try.func4 (by kernel_rfl) (by kernel_rfl) rfl ?_
 intro ds chk v vs hF ht he hr base
 unfold sBindNoneF at hF
 split at hF
 · rename_i t b n
   cases hF
   have hvs : vs = [vstr t, vby b, vi64 n] := by simp only [encA, encV, encP, encL, Option.some.injEq] at he; exact he.symm
   subst hvs
   exact runs_evS (mkokf (sy := true) (rw := false) tabokBindNone ilokBindNone JsOK.nil) (n := 400) (bs0 := []) (by kernel_rfl) (VEnt.refl _) trivial
 · cases hF
end Go.Proofs.Ytdkmcpbjicnfmaa
