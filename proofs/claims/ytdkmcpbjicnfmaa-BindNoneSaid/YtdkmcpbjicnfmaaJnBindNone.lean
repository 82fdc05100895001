/-
  The law BindNone: WHATEVER THE INPUT, it answers true, and its arguments are as they were. No condition.
-/
import Derived.Test.YtdkmcpbjicnfmaaRows
import Derived.Test.YtdkmcpbjicnfmaaJn5
import Derived.Test.YtdkmcpbjicnfmaaLb102
set_option maxRecDepth 100000
namespace Go.Proofs.Ytdkmcpbjicnfmaa
open Go Vx Go.RowKit Go.ChangeShapes Go.WideShapes Go.ChangeAt

theorem own_bindNone : ownKnob Try.prog.godebug = none := by kernel_rfl
theorem laid_bindNone : laidOutB Try.prog = true := by kernel_rfl
theorem lifted_bindNone (os : Os) (started : os.Started) (H : Type) (enc : TypeId × Value → H) :
 ReturnsInHanded {} Try.checked os 4 .any (Rows.bindNoneSpec.pre6 enc Try.prog Try.f4 Rows.bindNoneRow.domain false) (Rows.bindNoneSpec.post enc Try.prog Try.f4 false true false false) := by
 refine returnsInHanded_of_change (C := Try.checked) own_bindNone started (by kernel_rfl) Try.func4
  (ChangeSpec.witness6 (enc := enc) (C := Try.checked) false ⟨#[], #[.string ⟨#[]⟩, .slice none 0 0, .int .i64 0], []⟩ 8 (by kernel_rfl) (by kernel_rfl) (by kernel_rfl) (by kernel_rfl)) ?_
 intro W base args ds gs before hval hW hcnd _
 obtain ⟨p, q, hA0, hV, hb, hfz, hnd⟩ := id hW
 have hA : DataW.TrodAll enc Try.prog W 0 (fun _ => true) true Try.f4.params.toList args.toList ds p := hA0
 rw [Try.params4] at hA hval
 obtain ⟨v0, vs0, d0, ds0, p0, q0, hargs, hd0, hp0, h0, r0⟩ := trodAll_cons hA
 obtain ⟨v1, vs1, d1, ds1, p1, q1, e1, hd1, hp1, h1, r1⟩ := trodAll_cons r0
 subst e1
 obtain ⟨v2, vs2, d2, ds2, p2, q2, e2, hd2, hp2, h2, r2⟩ := trodAll_cons r1
 subst e2
 obtain ⟨e3, hd3, _⟩ := trodAll_nil r2
 subst e3
 obtain rfl : args = #[v0, v1, v2] := by cases args; simp_all
 obtain ⟨w0, hv0, hl0⟩ := arg_str (t := 9) (by kernel_rfl) (by kernel_rfl) (hval 0 9 v0 rfl rfl) h0
 obtain ⟨w1, hv1⟩ := arg_one (t := 22) (t0 := .sl [.int .u8]) (by kernel_rfl) (by kernel_rfl) (hval 1 22 v1 rfl rfl) h1
 obtain ⟨w2, hv2⟩ := arg_one (t := 3) (t0 := .int .i64) (by kernel_rfl) (by kernel_rfl) (hval 2 3 v2 rfl rfl) h2
 refine (calls_true (P := Try.prog) (c := bodyOf Try.f4) (args := [.one (.str w0), .one (toL (.sl [.int .u8]) w1), .one (toL (.int .i64) w2)]) Try.func4 (by kernel_rfl) (by kernel_rfl) ok_BindNone [decide (w0.size < 9223372036854775808)] (by kernel_rfl) (allTc (decide_eq_true hl0) allT0) (fun v hv => by simp only [List.mem_cons, List.not_mem_nil, or_false] at hv; rcases hv with rfl | rfl | rfl <;> rfl) (vals := [v0, v1, v2]) (.cons hv0 (.cons hv1 (.cons hv2 .nil)))).mono fun e W2 ⟨he, hbe⟩ => ?_
 subst he
 refine ⟨_, rfl, post_true laid_bindNone (by kernel_rfl) (by kernel_rfl) (tb := 4) (by kernel_rfl) rfl ?_ hW hbe⟩
 subst hd0 hd1 hd2 hd3; rfl

theorem bindNone_holds : Rows.BindNoneSaid :=
 OpenClaim.holds_of_wide 4 Try.f4 rfl rfl rfl rfl rfl rfl rfl ⟨rfl, rfl, rfl, rfl, rfl⟩ rfl rfl rfl rfl rfl (by kernel_rfl) Try.func4 (by kernel_rfl)
  (of_decide_eq_true (by kernel_rfl)) (by unfold Func.isWrapper; first | (rw [if_pos (by decide +kernel)]; kernel_rfl) | (rw [if_neg (by decide +kernel)]; exact ⟨rfl, rfl⟩))
  (fun os started H enc _ => lifted_bindNone os started H enc)
#print axioms bindNone_holds
end Go.Proofs.Ytdkmcpbjicnfmaa
