/-
  The law RistoStandard: WHATEVER THE INPUT, it answers true, and its arguments are as they were. No condition.
-/
import Derived.Test.YtpoikjcgdojjjaaRows
import Derived.Test.YtpoikjcgdojjjaaJ1
import Derived.Test.YtpoikjcgdojjjaaLb35
namespace Go.Proofs.Ytpoikjcgdojjjaa
open Go Vx Go.RowKit Go.ChangeShapes Go.WideShapes Go.ChangeAt

theorem own_ristoStandard : ownKnob Try.prog.godebug = none := by kernel_rfl
theorem laid_ristoStandard : laidOutB Try.prog = true := by kernel_rfl
set_option maxRecDepth 100000 in
theorem lifted_ristoStandard (os : Os) (started : os.Started) (H : Type) (enc : TypeId × Value → H) :
    ReturnsInHanded {} Try.checked os 7 .any (Rows.ristoStandardSpec.pre6 enc Try.prog Try.f7 Rows.ristoStandardRow.domain false) (Rows.ristoStandardSpec.post enc Try.prog Try.f7 false true false false) := by
  refine returnsInHanded_of_change (C := Try.checked) own_ristoStandard started (by kernel_rfl) Try.func7
    (ChangeSpec.witness6 (enc := enc) (C := Try.checked) false ⟨#[], #[], []⟩ 8 (by kernel_rfl) (by kernel_rfl) (by kernel_rfl) (by kernel_rfl)) ?_
  intro W base args ds gs before hval hW hcnd _
  obtain ⟨p, q, hA0, hV, hb, hfz, hnd⟩ := id hW
  have hA : DataW.TrodAll enc Try.prog W 0 (fun _ => true) true Try.f7.params.toList args.toList ds p := hA0
  rw [Try.params7] at hA hval
  obtain ⟨ha, hd, hp⟩ := trodAll_none hA
  obtain rfl : args = #[] := by cases args; simp_all
  refine (calls_true (P := Try.prog) (c := bodyOf Try.f7) (args := []) Try.func7 (by kernel_rfl) (by kernel_rfl) ok_RistoStandard [] (by kernel_rfl) allT0 (fun v hv => by cases hv) (vals := []) .nil).mono fun e W2 ⟨he, hbe⟩ => ?_
  subst he
  refine ⟨_, rfl, post_true laid_ristoStandard (by kernel_rfl) (by kernel_rfl) (tb := 4) (by kernel_rfl) rfl ?_ hW hbe⟩
  subst hd; rfl

theorem ristoStandard_holds : Rows.RistoStandardSaid :=
  OpenClaim.holds_of_wide 7 Try.f7 rfl rfl rfl rfl rfl rfl rfl ⟨rfl, rfl, rfl, rfl, rfl⟩ rfl rfl rfl rfl rfl (by kernel_rfl) Try.func7 (by kernel_rfl)
    (of_decide_eq_true (by kernel_rfl)) (by unfold Func.isWrapper; first | (rw [if_pos (by decide +kernel)]; kernel_rfl) | (rw [if_neg (by decide +kernel)]; exact ⟨rfl, rfl⟩))
    (fun os started H enc _ => lifted_ristoStandard os started H enc)
#print axioms ristoStandard_holds
end Go.Proofs.Ytpoikjcgdojjjaa
