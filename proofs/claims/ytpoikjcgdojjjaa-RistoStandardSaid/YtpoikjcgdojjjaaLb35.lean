/-
  The law RistoStandard answers true.
-/
import Derived.Test.YtpoikjcgdojjjaaLb33
namespace Go.Proofs.Ytpoikjcgdojjjaa
open Go Vx Go.RowKit

noncomputable def stdB (n : Nat) (w : ByteArray) : Bool := decide ((toStr (bytesL n 0)).toList = w.toList)
theorem stdB_of {n : Nat} {w : ByteArray} (h : toStr (bytesL n 0) = w) : stdB n w = true := decide_eq_true (congrArg ByteArray.toList h)
def treeStd (a b c d : Bool) : Out := bif !a then outV (vbool' false) else bif !b then outV (vbool' false) else bif !c then outV (vbool' false) else bif !d then outV (vbool' false) else outV (vbool' true)
def sw0 : ByteArray := ⟨#[0, 0, 0, 0, 0, 0, 0, 0, 0, 0, 0, 0, 0, 0, 0, 0, 0, 0, 0, 0, 0, 0, 0, 0, 0, 0, 0, 0, 0, 0, 0, 0]⟩
theorem enc_c0 : encC idP = 0 := by unfold idP; decide +kernel
theorem enc_s0 : rencP idP = 0 := by rw [rencP_C]; exact enc_c0
theorem std0 : stdB (rencP idP) sw0 = true := by rw [enc_s0]; exact stdB_of (by kernel_rfl)
def sw1 : ByteArray := ⟨#[226, 242, 174, 10, 106, 188, 78, 113, 168, 132, 169, 97, 197, 0, 81, 95, 88, 227, 11, 106, 165, 130, 221, 141, 182, 166, 89, 69, 224, 141, 45, 118]⟩
theorem enc_c1 : encC (add4C idP baseC) = 53453403443306840533278073560698739391446669128918427283046925944918568268514 := by decide +kernel
theorem enc_s1 : rencP (addP4 idP (baseP ())) = 53453403443306840533278073560698739391446669128918427283046925944918568268514 := by rw [rencP_C, addP4_C, baseP_C]; exact enc_c1
theorem std1 : stdB (rencP (addP4 idP (baseP ()))) sw1 = true := by rw [enc_s1]; exact stdB_of (by kernel_rfl)
def sw2 : ByteArray := ⟨#[106, 73, 50, 16, 247, 73, 156, 209, 127, 236, 181, 16, 174, 12, 234, 35, 161, 16, 232, 213, 185, 1, 248, 172, 173, 211, 9, 92, 115, 163, 185, 25]⟩
theorem enc_c2 : encC (add4C (add4C idP baseC) baseC) = 11635816016306827767395297108041383048417969937796188516319649271592942455146 := by decide +kernel
theorem enc_s2 : rencP (addP4 (addP4 idP (baseP ())) (baseP ())) = 11635816016306827767395297108041383048417969937796188516319649271592942455146 := by rw [rencP_C, addP4_C, addP4_C, baseP_C]; exact enc_c2
theorem std2 : stdB (rencP (addP4 (addP4 idP (baseP ())) (baseP ()))) sw2 = true := by rw [enc_s2]; exact stdB_of (by kernel_rfl)
def sw3 : ByteArray := ⟨#[148, 116, 31, 93, 93, 82, 117, 94, 206, 79, 35, 240, 68, 238, 39, 213, 209, 234, 30, 43, 209, 150, 180, 98, 22, 107, 22, 21, 42, 157, 2, 89]⟩
theorem enc_c3 : encC (add4C (add4C (add4C idP baseC) baseC) baseC) = 40260461926755251955718706939243089925229788613177830462037219643110335673492 := by decide +kernel
theorem enc_s3 : rencP (addP4 (addP4 (addP4 idP (baseP ())) (baseP ())) (baseP ())) = 40260461926755251955718706939243089925229788613177830462037219643110335673492 := by rw [rencP_C, addP4_C, addP4_C, addP4_C, baseP_C]; exact enc_c3
theorem std3 : stdB (rencP (addP4 (addP4 (addP4 idP (baseP ())) (baseP ())) (baseP ()))) sw3 = true := by rw [enc_s3]; exact stdB_of (by kernel_rfl)
theorem std_facts : treeStd (stdB (rencP idP) sw0) (stdB (rencP (addP4 idP (baseP ()))) sw1) (stdB (rencP (addP4 (addP4 idP (baseP ())) (baseP ()))) sw2) (stdB (rencP (addP4 (addP4 (addP4 idP (baseP ())) (baseP ())) (baseP ()))) sw3) = outV (vbool' true) := by rw [std0, std1, std2, std3]; rfl

noncomputable def sRistoStandardF : List D → Option (List Bool × V)
  | [] => some ([], vbool' true)
  | _ => none
noncomputable def sRistoStandard : FSpec := spec [] sRistoStandardF
noncomputable abbrev tabRistoStandard : List (FuncId × FSpec) := [(31, sEId), (25, sREnc), (28, sEAdd), (33, sEBase), (19, sKnown4)]
set_option maxRecDepth 100000 in
theorem tabokRistoStandard : TabOK Try.prog (tabOf tabRistoStandard) := (.cons ok_EId (.cons ok_REnc (.cons ok_EAdd (.cons ok_EBase (.cons ok_Known4 .nil)))))
set_option maxRecDepth 100000 in
theorem ok_RistoStandard : FnOK Try.prog 7 sRistoStandard := by
  refine fn_flat (cx := mkcx tabRistoStandard) (c := bodyOf Try.f7) Try.func7 (by kernel_rfl) (by kernel_rfl) rfl ?_
  intro ds chk v vs hF ht he hr base
  unfold sRistoStandardF at hF
  split at hF
  · cases hF
    have hvs : vs = [] := by simp only [encA, Option.some.injEq] at he; exact he.symm
    subst hvs
    exact runs_evS (mkok tabokRistoStandard) (n := 200) (bs0 := []) (h := Eq.trans (by kernel_rfl) std_facts) (VEnt.refl _) trivial
  · cases hF
end Go.Proofs.Ytpoikjcgdojjjaa
