/-
  The contract of the document's Sum512.
-/
import Derived.Test.YtdkmcpbjicnfmaaLb65
set_option maxRecDepth 100000
namespace Go.Proofs.Ytdkmcpbjicnfmaa
open Go Vx Go.RowKit

noncomputable def sRSum512aF : List D → Option (List Bool × V)
 | [.l x] => some ([decide (x.length < 1099511627776)], vb64 (sha512N x))
 | _ => none
noncomputable def sRSum512a : FSpec := spec [tby] sRSum512aF
noncomputable abbrev tabRSum512a : List (FuncId × FSpec) := [(105, sROf512), (106, sRSum512)]
theorem tabokRSum512a : TabOK Try.prog (tabOf tabRSum512a) := (.cons ok_ROf512 (.cons ok_RSum512 .nil))
theorem ok_RSum512a : FnOK Try.prog 71 sRSum512a := by
 refine fn_flat (cx := mkcf false false tabRSum512a [] []) (c := bodyOf Try.f71) Try.func71 (by kernel_rfl) (by kernel_rfl) rfl ?_
 intro ds chk v vs hF ht he hr base
 unfold sRSum512aF at hF
 split at hF
 · rename_i x
   cases hF
   have hvs : vs = [vby x] := by simp only [encA, encV, encP, encL, Option.some.injEq] at he; exact he.symm
   subst hvs
   have hx : x.length < 1099511627776 := of_decide_eq_true (ht (decide (x.length < 1099511627776)) (by simp))
   have hg : sha512N x = outN (gN (hrestL 128 16 x (x.length : Nat)) ((hrestL 128 16 x (x.length : Nat)).length / 128)) := by unfold sha512N; rw [seal_eq]; rfl
   rw [hg]
   have hokx := mkokf (sy := false) (rw := false) tabokRSum512a IlOK.nil JsOK.nil
   have h0 : evLS (mkcf false false tabRSum512a [] []) 200 ((items (bodyOf Try.f71)).take 3) ⟨t0 Try.f71 [vby x], []⟩ (kfgN 0 [2, 3, 4] [0, 1, 3] 4 [(3, 2)] 3) =
    chks [decide (x.length < 1099511627776)] (.done .normal ⟨[.junk, .junk, .one (.ptr 0 0), .one (.ptr 1 0), .one (.row 2 1 0 64 64)] ++ List.replicate 15 .junk, [some ⟨56, .ps (List.replicate 64 (.int .u8 0))⟩, some ⟨56, .ps (List.replicate 64 (.int .u8 0))⟩, some ⟨5, .row [.int .u8] (outs512 (gN (hrestL 128 16 x (x.length : Nat)) ((hrestL 128 16 x (x.length : Nat)).length / 128)))⟩]⟩) := by kernel_rfl
   rw [chks_true (allT1 (by rw [decide_eq_true_iff]; omega))] at h0
   refine Runs.items _ _ _ (RunsL.preN hokx rfl (k := 3) h0 ?_)
   generalize gN (hrestL 128 16 x (x.length : Nat)) ((hrestL 128 16 x (x.length : Nat)).length / 128) = S
   exact runsL_evS hokx (n := 300) (bs0 := []) (v0 := .ag (.ps ((List.range 64).map fun i => .int .u8 (outI S i)))) (by kernel_rfl) (out_ent S) trivial
 · cases hF
end Go.Proofs.Ytdkmcpbjicnfmaa
