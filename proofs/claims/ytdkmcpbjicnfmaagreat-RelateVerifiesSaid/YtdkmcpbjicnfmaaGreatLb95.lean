/-
  The law RelateVerifies answers true.
-/
import Derived.Test.YtdkmcpbjicnfmaaGreatL16
set_option maxRecDepth 100000
namespace Go.Proofs.YtdkmcpbjicnfmaaGreat
open Go Vx Go.RowKit

noncomputable def sRelateVerifiesF : List D → Option (List Bool × V)
 | [.s t, .l _, .i _, .n _, .l _] => some ([decide (t.size < 9223372036854775808)], vbool' true)
 | _ => none
noncomputable def sRelateVerifies : FSpec := spec [tstr, teqs, ti64, tprf] sRelateVerifiesF
noncomputable abbrev tabRelateVerifies : List (FuncId × FSpec) := [(31, sGGreat), (36, sGVerify11), (37, sRVerify11), (32, sKnown11)]
theorem tabokRelateVerifies : TabOK Tryz.prog (tabOf tabRelateVerifies) := (.cons ok_GGreat (.cons ok_GVerify11 (.cons ok_RVerify11 (.cons ok_Known11 .nil))))
noncomputable abbrev cRelateVerifies : Cx := mkcf true false tabRelateVerifies [] []
theorem oRelateVerifies : Ok cRelateVerifies := mkokf (sy := true) (rw := false) tabokRelateVerifies IlOK.nil JsOK.nil
theorem ok_RelateVerifies : FnOK Tryz.prog 7 sRelateVerifies := by
 refine fn_flat (cx := mkcf true false tabRelateVerifies [] []) (c := bodyOf Tryz.f7) Tryz.func7 (by kernel_rfl) (by kernel_rfl) rfl ?_
 intro ds chk v vs hF ht he hr base
 unfold sRelateVerifiesF at hF
 split at hF
 · rename_i t x n c s
   cases hF
   have hvs : vs = [vstr t, veqs x, vi64 n, vprfA c s] := by simp only [encA, encV, encP, encL, Option.some.injEq] at he; exact he.symm
   subst hvs
   have hts : t.size < 9223372036854775808 := of_decide_eq_true (ht (decide (t.size < 9223372036854775808)) (by simp))
   have hd : decide (t.size < 9223372036854775808) = true := decide_eq_true hts
   obtain ⟨_, _, _, hpr, _⟩ := hr
   obtain ⟨_, hsr, _⟩ := hpr
   have hls := nat_i (max_lt hsr.1)
   have hev : evS cRelateVerifies 400 (bodyOf Tryz.f7) ⟨t0 Tryz.f7 [vstr t, veqs x, vi64 n, vprfA c s], []⟩ (kres cRelateVerifies Tryz.f7 base) =
    chks [decide (t.size < 9223372036854775808)] (bif greatB t x n then outV (vbool' true) else chks [okK .i64 (s.length : Nat)] (bif decide ((200 : Int) < (s.length : Nat)) then outV (vbool' true) else
     chks [decide (t.size < 9223372036854775808), decide (t.size < 9223372036854775808)] (bif decide (vfyE t x n c s = vfyE t x n c s) then outV (vbool' true) else outV (vbool' false)))) := by kernel_rfl
   rw [hd, hls, decide_eq_true (rfl : vfyE t x n c s = vfyE t x n c s)] at hev
   have hev : evS cRelateVerifies 400 (bodyOf Tryz.f7) ⟨t0 Tryz.f7 [vstr t, veqs x, vi64 n, vprfA c s], []⟩ (kres cRelateVerifies Tryz.f7 base) = outV (vbool' true) := by
    refine Eq.trans hev ?_
    cases greatB t x n <;> cases decide ((200 : Int) < (s.length : Nat)) <;> rfl
   exact runs_evS oRelateVerifies (bs0 := []) hev (VEnt.refl _) trivial
 · cases hF
end Go.Proofs.YtdkmcpbjicnfmaaGreat
