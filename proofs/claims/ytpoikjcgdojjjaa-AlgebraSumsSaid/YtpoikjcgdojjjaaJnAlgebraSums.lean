/-
  The law AlgebraSums: WHATEVER THE INPUT, it answers true, and its arguments are as they were. No condition.
-/
import Derived.Test.YtpoikjcgdojjjaaRows
import Derived.Test.YtpoikjcgdojjjaaJn3
import Derived.Test.YtpoikjcgdojjjaaLb57
namespace Go.Proofs.Ytpoikjcgdojjjaa
open Go Vx Go.RowKit Go.ChangeShapes Go.WideShapes Go.ChangeAt

theorem own_algebraSums : ownKnob Try.prog.godebug = none := by kernel_rfl
theorem laid_algebraSums : laidOutB Try.prog = true := by kernel_rfl
set_option maxRecDepth 100000 in
theorem lifted_algebraSums (os : Os) (started : os.Started) (H : Type) (enc : TypeId × Value → H) :
    ReturnsInHanded {} Try.checked os 11 .any (Rows.algebraSumsSpec.pre6 enc Try.prog Try.f11 Rows.algebraSumsRow.domain false) (Rows.algebraSumsSpec.post enc Try.prog Try.f11 false true false false) := by
  refine returnsInHanded_of_change (C := Try.checked) own_algebraSums started (by kernel_rfl) Try.func11
    (ChangeSpec.witness6 (enc := enc) (C := Try.checked) false ⟨#[], #[.slice none 0 0], []⟩ 8 (by kernel_rfl) (by kernel_rfl) (by kernel_rfl) (by kernel_rfl)) ?_
  intro W base args ds gs before hval hW hcnd _
  obtain ⟨p, q, hA0, hV, hb, hfz, hnd⟩ := id hW
  have hA : DataW.TrodAll enc Try.prog W 0 (fun _ => true) true Try.f11.params.toList args.toList ds p := hA0
  rw [Try.params11] at hA hval
  obtain ⟨v0, vs0, d0, ds0, p0, q0, hargs, hd0, hp0, h0, r0⟩ := trodAll_cons hA
  obtain ⟨e1, hd1, _⟩ := trodAll_nil r0
  subst e1
  obtain rfl : args = #[v0] := by cases args; simp_all
  obtain ⟨w0, hv0⟩ := arg_one (t := 65) (t0 := .sl [.pk .u8 8 32, .pk .u8 8 32]) (by kernel_rfl) (by kernel_rfl) (hval 0 65 v0 rfl rfl) h0
  refine (calls_true (P := Try.prog) (c := bodyOf Try.f11) (args := [.one (toL (.sl [.pk .u8 8 32, .pk .u8 8 32]) w0)]) Try.func11 (by kernel_rfl) (by kernel_rfl) ok_AlgebraSums [] (by kernel_rfl) allT0 (fun v hv => by simp only [List.mem_cons, List.not_mem_nil, or_false] at hv; subst hv; rfl) (vals := [v0]) (.cons hv0 .nil)).mono fun e W2 ⟨he, hbe⟩ => ?_
  subst he
  refine ⟨_, rfl, post_true laid_algebraSums (by kernel_rfl) (by kernel_rfl) (tb := 4) (by kernel_rfl) rfl ?_ hW hbe⟩
  subst hd0 hd1; rfl

theorem algebraSums_holds : Rows.AlgebraSumsSaid :=
  OpenClaim.holds_of_wide 11 Try.f11 rfl rfl rfl rfl rfl rfl rfl ⟨rfl, rfl, rfl, rfl, rfl⟩ rfl rfl rfl rfl rfl (by kernel_rfl) Try.func11 (by kernel_rfl)
    (of_decide_eq_true (by kernel_rfl)) (by unfold Func.isWrapper; first | (rw [if_pos (by decide +kernel)]; kernel_rfl) | (rw [if_neg (by decide +kernel)]; exact ⟨rfl, rfl⟩))
    (fun os started H enc _ => lifted_algebraSums os started H enc)
#print axioms algebraSums_holds
end Go.Proofs.Ytpoikjcgdojjjaa
