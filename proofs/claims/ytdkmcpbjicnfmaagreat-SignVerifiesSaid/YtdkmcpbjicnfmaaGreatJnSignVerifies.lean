/-
  The law SignVerifies: WHATEVER THE INPUT, it answers true, and its arguments are as they were. No condition.
-/
import Derived.Test.YtdkmcpbjicnfmaaGreatRows
import Derived.Test.YtdkmcpbjicnfmaaGreatJn4
import Derived.Test.YtdkmcpbjicnfmaaGreatLb78
namespace Go.Proofs.YtdkmcpbjicnfmaaGreat
open Go Vx Go.RowKit Go.ChangeShapes Go.WideShapes Go.ChangeAt

theorem own_signVerifies : ownKnob Tryz.prog.godebug = none := by kernel_rfl
theorem laid_signVerifies : laidOutB Tryz.prog = true := by kernel_rfl
set_option maxRecDepth 100000 in
theorem lifted_signVerifies (os : Os) (started : os.Started) (H : Type) (enc : TypeId × Value → H) :
    ReturnsInHanded {} Tryz.checked os 5 .any (Rows.signVerifiesSpec.pre6 enc Tryz.prog Tryz.f5 Rows.signVerifiesRow.domain false) (Rows.signVerifiesSpec.post enc Tryz.prog Tryz.f5 false true false false) := by
  refine returnsInHanded_of_change_sized (C := Tryz.checked) own_signVerifies started (by kernel_rfl) Tryz.func5
    (ChangeSpec.witness6 (enc := enc) (C := Tryz.checked) false ⟨#[], #[.agg #[.int .u8 0, .int .u8 0, .int .u8 0, .int .u8 0, .int .u8 0, .int .u8 0, .int .u8 0, .int .u8 0, .int .u8 0, .int .u8 0, .int .u8 0, .int .u8 0, .int .u8 0, .int .u8 0, .int .u8 0, .int .u8 0, .int .u8 0, .int .u8 0, .int .u8 0, .int .u8 0, .int .u8 0, .int .u8 0, .int .u8 0, .int .u8 0, .int .u8 0, .int .u8 0, .int .u8 0, .int .u8 0, .int .u8 0, .int .u8 0, .int .u8 0, .int .u8 0], .slice none 0 0, .agg #[.int .u8 0, .int .u8 0, .int .u8 0, .int .u8 0, .int .u8 0, .int .u8 0, .int .u8 0, .int .u8 0, .int .u8 0, .int .u8 0, .int .u8 0, .int .u8 0, .int .u8 0, .int .u8 0, .int .u8 0, .int .u8 0, .int .u8 0, .int .u8 0, .int .u8 0, .int .u8 0, .int .u8 0, .int .u8 0, .int .u8 0, .int .u8 0, .int .u8 0, .int .u8 0, .int .u8 0, .int .u8 0, .int .u8 0, .int .u8 0, .int .u8 0, .int .u8 0, .int .u8 0, .int .u8 0, .int .u8 0, .int .u8 0, .int .u8 0, .int .u8 0, .int .u8 0, .int .u8 0, .int .u8 0, .int .u8 0, .int .u8 0, .int .u8 0, .int .u8 0, .int .u8 0, .int .u8 0, .int .u8 0, .int .u8 0, .int .u8 0, .int .u8 0, .int .u8 0, .int .u8 0, .int .u8 0, .int .u8 0, .int .u8 0, .int .u8 0, .int .u8 0, .int .u8 0, .int .u8 0, .int .u8 0, .int .u8 0, .int .u8 0, .int .u8 0]], []⟩ 8 (by kernel_rfl) (by kernel_rfl) (by kernel_rfl) (by kernel_rfl)) ?_
  intro W base args ds gs before hval hW hcnd hsz _
  obtain ⟨p, q, hA0, hV, hb, hfz, hnd⟩ := id hW
  have hA : DataW.TrodAll enc Tryz.prog W 0 (fun _ => true) true Tryz.f5.params.toList args.toList ds p := hA0
  rw [Tryz.params5] at hA hval
  obtain ⟨v0, vs0, d0, ds0, p0, q0, hargs, hd0, hp0, h0, r0⟩ := trodAll_cons hA
  obtain ⟨v1, vs1, d1, ds1, p1, q1, e1, hd1, hp1, h1, r1⟩ := trodAll_cons r0
  subst e1
  obtain ⟨v2, vs2, d2, ds2, p2, q2, e2, hd2, hp2, h2, r2⟩ := trodAll_cons r1
  subst e2
  obtain ⟨e3, hd3, _⟩ := trodAll_nil r2
  subst e3
  obtain rfl : args = #[v0, v1, v2] := by cases args; simp_all
  obtain ⟨f0, hv0⟩ := ints_of_ok (u := 5) (k := .u8) (m := 32) (by kernel_rfl) (by kernel_rfl) (by kernel_rfl) (by kernel_rfl) (by decide) (hval 0 37 v0 rfl rfl)
  obtain ⟨w1, hv1⟩ := arg_one (t := 29) (t0 := .sl [.int .u8]) (by kernel_rfl) (by kernel_rfl) (hval 1 29 v1 rfl rfl) h1
  have hl1 : (w1.toL).length ≤ 140737488351232 := by
    refine arg_len (P := Tryz.prog) (ts := [.int .u8]) (x := w1.toL) (e := 5) (t := 29) (by kernel_rfl) (by kernel_rfl) h1 hv1 fun n hn => ?_
    have h9 := List.all_eq_true.1 hsz n (DataW.weights_mem_each (j := 1) (t := 29) (d := d1) (by kernel_rfl) (by rw [hd0, hd1]; rfl) n hn)
    exact of_decide_eq_true h9
  obtain ⟨w2, hv2⟩ := arg_ag (t := 47) (ts := [.pk .u8 8 32, .pk .u8 8 32]) (by kernel_rfl) (by kernel_rfl) (hval 2 47 v2 rfl rfl) h2
  refine (calls_true (P := Tryz.prog) (c := bodyOf Tryz.f5) (args := [.ag (.ps ((List.range 32).map fun i => .int .u8 (f0 i))), .one (toL (.sl [.int .u8]) w1), .ag (.ps (toLs [.pk .u8 8 32, .pk .u8 8 32] w2))]) Tryz.func5 (by kernel_rfl) (by kernel_rfl) ok_SignVerifies [decide ((w1.toL).length ≤ 140737488351232)] (by kernel_rfl) (allTc (decide_eq_true hl1) allT0) (fun v hv => by simp only [List.mem_cons, List.not_mem_nil, or_false] at hv; rcases hv with rfl | rfl | rfl <;> rfl) (vals := [v0, v1, v2]) (.cons (hv0 _) (.cons hv1 (.cons hv2 .nil)))).mono fun e W2 ⟨he, hbe⟩ => ?_
  subst he
  refine ⟨_, rfl, post_true laid_signVerifies (by kernel_rfl) (by kernel_rfl) (tb := 4) (by kernel_rfl) rfl ?_ hW hbe⟩
  subst hd0 hd1 hd2 hd3; rfl

theorem signVerifies_holds : Rows.SignVerifiesSaid :=
  OpenClaim.holds_of_wide 5 Tryz.f5 rfl rfl rfl rfl rfl rfl rfl ⟨rfl, rfl, rfl, rfl, rfl⟩ rfl rfl rfl rfl rfl (by kernel_rfl) Tryz.func5 (by kernel_rfl)
    (of_decide_eq_true (by kernel_rfl)) (by unfold Func.isWrapper; first | (rw [if_pos (by decide +kernel)]; kernel_rfl) | (rw [if_neg (by decide +kernel)]; exact ⟨rfl, rfl⟩))
    (fun os started H enc _ => lifted_signVerifies os started H enc)
#print axioms signVerifies_holds
end Go.Proofs.YtdkmcpbjicnfmaaGreat
