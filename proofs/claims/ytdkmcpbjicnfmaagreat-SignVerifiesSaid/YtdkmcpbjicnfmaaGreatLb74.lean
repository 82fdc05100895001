/-
  The document's transcripts: the contract of Scalar.
-/
import Derived.Test.YtdkmcpbjicnfmaaGreatLb73
namespace Go.Proofs.YtdkmcpbjicnfmaaGreat
open Go Vx Go.RowKit

abbrev tscr10 : Ty := .ptr [.str]
abbrev vscr10 (x : ByteArray) : V := .one (.rp [.str] [.s x] 0)
abbrev askS (x l : ByteArray) : ByteArray := x ++ ⟨#[2]⟩ ++ formS l
theorem askS_eq (x l : ByteArray) : ((ofStr (askS x l)).drop 0).take (askS x l).size = askL (ofStr x) 2 (ofStr l) := by
  rw [List.drop_zero, ← ofStr_len, List.take_length]
  unfold askS askL
  rw [ofStr_app, ofStr_app, ofStr_form]
  rfl
theorem askS_size (x l : ByteArray) : (askS x l).size = x.size + 1 + (4 + l.size) := by
  unfold askS
  rw [size_app, size_app, formS_size]
  rfl

noncomputable def sRScalF : List D → Option (List Bool × V)
  | [.l [[.s x]], .s l] => some ([decide (x.size + l.size < 549755813888)], vb32 (restP (sha512N (askL (ofStr x) 2 (ofStr l)))))
  | _ => none
noncomputable def sRScal : FSpec := spec [tscr10, tstr] sRScalF
noncomputable abbrev tabRScal : List (FuncId × FSpec) := [(51, sSReduce), (52, sRSum512a), (47, sRForm)]
set_option maxRecDepth 100000 in
theorem tabokRScal : TabOK Tryz.prog (tabOf tabRScal) := (.cons ok_SReduce (.cons ok_RSum512a (.cons ok_RForm .nil)))
noncomputable abbrev ilRScal : List (FuncId × Func) := []
set_option maxRecDepth 100000 in
theorem ilokRScal : IlOK Tryz.prog (ilTab ilRScal) := IlOK.nil
set_option maxRecDepth 100000 in
theorem ok_RScal : FnOK Tryz.prog 16 sRScal := by
  refine fn_flat (cx := mkcf true false tabRScal ilRScal []) (c := bodyOf Tryz.f16) Tryz.func16 (by kernel_rfl) (by kernel_rfl) rfl ?_
  intro ds chk v vs hF ht he hr base
  unfold sRScalF at hF
  split at hF
  · rename_i x l
    cases hF
    have hvs : vs = [vscr10 x, vstr l] := by simp only [encA, encV, encP, encL, Option.some.injEq] at he; exact he.symm
    subst hvs
    have hl : x.size + l.size < 549755813888 := of_decide_eq_true (ht _ (by simp))
    have hev : evS (mkcf true false tabRScal ilRScal []) 200 (bodyOf Tryz.f16) ⟨t0 Tryz.f16 [vscr10 x, vstr l], []⟩ (kres (mkcf true false tabRScal ilRScal []) Tryz.f16 base) =
        chks [decide (x.size + 1 < 9223372036854775808), decide (l.size < 1099511627776), decide ((x ++ ⟨#[2]⟩).size + (formS l).size < 9223372036854775808), decide ((askS x l).size ≤ maxLen), decide (0 + (askS x l).size ≤ (ofStr (askS x l)).length),
          decide ((((ofStr (askS x l)).drop 0).take (askS x l).size).length < 1099511627776)] (outV (vb32 (restP (sha512N (((ofStr (askS x l)).drop 0).take (askS x l).size))))) := by kernel_rfl
    have h1 : (x ++ ⟨#[2]⟩).size = x.size + 1 := size_app ..
    have h2 := askS_size x l
    have hmx : (549755813888 : Nat) + 5 ≤ maxLen := by decide
    rw [chks_true, askS_eq] at hev
    · exact runs_evS (mkokf (sy := true) (rw := false) tabokRScal ilokRScal JsOK.nil) (bs0 := []) hev (VEnt.refl _) trivial
    · rw [askS_eq, h1, formS_size, ofStr_len, h2]
      refine allTc ?_ (allTc ?_ (allTc ?_ (allTc ?_ (allTc ?_ (allT1 ?_))))) <;> rw [decide_eq_true_iff]
      · omega
      · omega
      · omega
      · omega
      · omega
      · unfold askL
        rw [List.length_append, List.length_append, fmL_len, ofStr_len, ofStr_len]
        show x.size + 1 + (4 + l.size) < _
        omega
  · cases hF
end Go.Proofs.YtdkmcpbjicnfmaaGreat
