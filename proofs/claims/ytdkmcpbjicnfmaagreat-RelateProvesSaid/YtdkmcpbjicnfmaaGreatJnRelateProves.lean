/-
  The law RelateProves: WHATEVER THE INPUT, it answers true, and its arguments are as they were. No condition.
-/
import Derived.Test.YtdkmcpbjicnfmaaGreatRows
import Derived.Test.YtdkmcpbjicnfmaaGreatJn5
import Derived.Test.YtdkmcpbjicnfmaaGreatLb97
set_option maxRecDepth 100000
namespace Go.Proofs.YtdkmcpbjicnfmaaGreat
open Go Vx Go.RowKit Go.ChangeShapes Go.WideShapes Go.ChangeAt

theorem own_relateProves : ownKnob Tryz.prog.godebug = none := by kernel_rfl
theorem laid_relateProves : laidOutB Tryz.prog = true := by kernel_rfl
theorem lifted_relateProves (os : Os) (started : os.Started) (H : Type) (enc : TypeId × Value → H) :
 ReturnsInHanded {} Tryz.checked os 6 .any (Rows.relateProvesSpec.pre6 enc Tryz.prog Tryz.f6 Rows.relateProvesRow.domain false) (Rows.relateProvesSpec.post enc Tryz.prog Tryz.f6 false true false false) := by
 refine returnsInHanded_of_change (C := Tryz.checked) own_relateProves started (by kernel_rfl) Tryz.func6
  (ChangeSpec.witness6 (enc := enc) (C := Tryz.checked) false ⟨#[], #[.string ⟨#[]⟩, .slice none 0 0, .slice none 0 0, .slice none 0 0], []⟩ 8 (by kernel_rfl) (by kernel_rfl) (by kernel_rfl) (by kernel_rfl)) ?_
 intro W base args ds gs before hval hW hcnd _
 obtain ⟨p, q, hA0, hV, hb, hfz, hnd⟩ := id hW
 have hA : DataW.TrodAll enc Tryz.prog W 0 (fun _ => true) true Tryz.f6.params.toList args.toList ds p := hA0
 rw [Tryz.params6] at hA hval
 obtain ⟨v0, vs0, d0, ds0, p0, q0, hargs, hd0, hp0, h0, r0⟩ := trodAll_cons hA
 obtain ⟨v1, vs1, d1, ds1, p1, q1, e1, hd1, hp1, h1, r1⟩ := trodAll_cons r0
 subst e1
 obtain ⟨v2, vs2, d2, ds2, p2, q2, e2, hd2, hp2, h2, r2⟩ := trodAll_cons r1
 subst e2
 obtain ⟨v3, vs3, d3, ds3, p3, q3, e3, hd3, hp3, h3, r3⟩ := trodAll_cons r2
 subst e3
 obtain ⟨e4, hd4, _⟩ := trodAll_nil r3
 subst e4
 obtain rfl : args = #[v0, v1, v2, v3] := by cases args; simp_all
 obtain ⟨w0, hv0, hl0⟩ := arg_str (t := 9) (by kernel_rfl) (by kernel_rfl) (hval 0 9 v0 rfl rfl) h0
 obtain ⟨w1, hv1⟩ := arg_one (t := 54) (t0 := .sl [.pk .u8 8 32, .sl [.int .i64, .pk .u8 8 32]]) (by kernel_rfl) (by kernel_rfl) (hval 1 54 v1 rfl rfl) h1
 obtain ⟨w2, hv2⟩ := arg_one (t := 55) (t0 := .sl [.pk .u8 8 32]) (by kernel_rfl) (by kernel_rfl) (hval 2 55 v2 rfl rfl) h2
 obtain ⟨w3, hv3⟩ := arg_one (t := 55) (t0 := .sl [.pk .u8 8 32]) (by kernel_rfl) (by kernel_rfl) (hval 3 55 v3 rfl rfl) h3
 refine (calls_true (P := Tryz.prog) (c := bodyOf Tryz.f6) (args := [.one (.str w0), .one (toL (.sl [.pk .u8 8 32, .sl [.int .i64, .pk .u8 8 32]]) w1), .one (toL (.sl [.pk .u8 8 32]) w2), .one (toL (.sl [.pk .u8 8 32]) w3)]) Tryz.func6 (by kernel_rfl) (by kernel_rfl) ok_RelateProves [decide (w0.size < 9223372036854775808)] (by kernel_rfl) (allTc (decide_eq_true hl0) allT0) (fun v hv => by simp only [List.mem_cons, List.not_mem_nil, or_false] at hv; rcases hv with rfl | rfl | rfl | rfl <;> rfl) (vals := [v0, v1, v2, v3]) (.cons hv0 (.cons hv1 (.cons hv2 (.cons hv3 .nil))))).mono fun e W2 ⟨he, hbe⟩ => ?_
 subst he
 refine ⟨_, rfl, post_true laid_relateProves (by kernel_rfl) (by kernel_rfl) (tb := 4) (by kernel_rfl) rfl ?_ hW hbe⟩
 subst hd0 hd1 hd2 hd3 hd4; rfl

theorem relateProves_holds : Rows.RelateProvesSaid :=
 OpenClaim.holds_of_wide 6 Tryz.f6 rfl rfl rfl rfl rfl rfl rfl ⟨rfl, rfl, rfl, rfl, rfl⟩ rfl rfl rfl rfl rfl (by kernel_rfl) Tryz.func6 (by kernel_rfl)
  (of_decide_eq_true (by kernel_rfl)) (by unfold Func.isWrapper; first | (rw [if_pos (by decide +kernel)]; kernel_rfl) | (rw [if_neg (by decide +kernel)]; exact ⟨rfl, rfl⟩))
  (fun os started H enc _ => lifted_relateProves os started H enc)
#print axioms relateProves_holds
end Go.Proofs.YtdkmcpbjicnfmaaGreat
