/-
  The law RistoThere: WHATEVER THE INPUT, it answers true, and its arguments are as they were. No condition.
-/
import Derived.Test.YtpoikjcgdojjjaaRows
import Derived.Test.YtpoikjcgdojjjaaJ1
import Derived.Test.YtpoikjcgdojjjaaLb20
namespace Go.Proofs.Ytpoikjcgdojjjaa
open Go Vx Go.RowKit Go.ChangeShapes Go.WideShapes Go.ChangeAt

theorem own_ristoThere : ownKnob Try.prog.godebug = none := by kernel_rfl
theorem laid_ristoThere : laidOutB Try.prog = true := by kernel_rfl
set_option maxRecDepth 100000 in
theorem lifted_ristoThere (os : Os) (started : os.Started) (H : Type) (enc : TypeId × Value → H) :
    ReturnsInHanded {} Try.checked os 8 .any (Rows.ristoThereSpec.pre6 enc Try.prog Try.f8 Rows.ristoThereRow.domain false) (Rows.ristoThereSpec.post enc Try.prog Try.f8 false true false false) := by
  refine returnsInHanded_of_change (C := Try.checked) own_ristoThere started (by kernel_rfl) Try.func8
    (ChangeSpec.witness6 (enc := enc) (C := Try.checked) false ⟨#[], #[.agg #[.int .u8 0, .int .u8 0, .int .u8 0, .int .u8 0, .int .u8 0, .int .u8 0, .int .u8 0, .int .u8 0, .int .u8 0, .int .u8 0, .int .u8 0, .int .u8 0, .int .u8 0, .int .u8 0, .int .u8 0, .int .u8 0, .int .u8 0, .int .u8 0, .int .u8 0, .int .u8 0, .int .u8 0, .int .u8 0, .int .u8 0, .int .u8 0, .int .u8 0, .int .u8 0, .int .u8 0, .int .u8 0, .int .u8 0, .int .u8 0, .int .u8 0, .int .u8 0], .agg #[.int .u64 0, .int .u64 0, .int .u64 0, .int .u64 0, .bool false]], []⟩ 8 (by kernel_rfl) (by kernel_rfl) (by kernel_rfl) (by kernel_rfl)) ?_
  intro W base args ds gs before hval hW hcnd _
  obtain ⟨p, q, hA0, hV, hb, hfz, hnd⟩ := id hW
  have hA : DataW.TrodAll enc Try.prog W 0 (fun _ => true) true Try.f8.params.toList args.toList ds p := hA0
  rw [Try.params8] at hA hval
  obtain ⟨v0, vs0, d0, ds0, p0, q0, hargs, hd0, hp0, h0, r0⟩ := trodAll_cons hA
  obtain ⟨v1, vs1, d1, ds1, p1, q1, e1, hd1, hp1, h1, r1⟩ := trodAll_cons r0
  subst e1
  obtain ⟨e2, hd2, _⟩ := trodAll_nil r1
  subst e2
  obtain rfl : args = #[v0, v1] := by cases args; simp_all
  obtain ⟨f0, hv0⟩ := ints_of_ok (u := 5) (k := .u8) (m := 32) (by kernel_rfl) (by kernel_rfl) (by kernel_rfl) (by kernel_rfl) (by decide) (hval 0 22 v0 rfl rfl)
  obtain ⟨f1, b1, hv1⟩ := seed_of_ok (23) (4) (by kernel_rfl) (by kernel_rfl) (by kernel_rfl) (by kernel_rfl) (by kernel_rfl) (hval 1 43 v1 rfl rfl)
  refine (calls_true (P := Try.prog) (c := bodyOf Try.f8) (args := [.ag (.ps ((List.range 32).map fun i => .int .u8 (f0 i))), .ag (.ps [.int .u64 (f1 0), .int .u64 (f1 1), .int .u64 (f1 2), .int .u64 (f1 3), .bool b1])]) Try.func8 (by kernel_rfl) (by kernel_rfl) ok_RistoThere [] (by kernel_rfl) allT0 (fun v hv => by simp only [List.mem_cons, List.not_mem_nil, or_false] at hv; rcases hv with rfl | rfl <;> rfl) (vals := [v0, v1]) (.cons (hv0 _) (.cons (hv1 _) .nil))).mono fun e W2 ⟨he, hbe⟩ => ?_
  subst he
  refine ⟨_, rfl, post_true laid_ristoThere (by kernel_rfl) (by kernel_rfl) (tb := 4) (by kernel_rfl) rfl ?_ hW hbe⟩
  subst hd0 hd1 hd2; rfl

theorem ristoThere_holds : Rows.RistoThereSaid :=
  OpenClaim.holds_of_wide 8 Try.f8 rfl rfl rfl rfl rfl rfl rfl ⟨rfl, rfl, rfl, rfl, rfl⟩ rfl rfl rfl rfl rfl (by kernel_rfl) Try.func8 (by kernel_rfl)
    (of_decide_eq_true (by kernel_rfl)) (by unfold Func.isWrapper; first | (rw [if_pos (by decide +kernel)]; kernel_rfl) | (rw [if_neg (by decide +kernel)]; exact ⟨rfl, rfl⟩))
    (fun os started H enc _ => lifted_ristoThere os started H enc)
#print axioms ristoThere_holds
end Go.Proofs.Ytpoikjcgdojjjaa
