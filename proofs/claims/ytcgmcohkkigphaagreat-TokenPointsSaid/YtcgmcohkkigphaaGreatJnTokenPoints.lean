/-
  The law TokenPoints: WHATEVER THE INPUT, it answers true, and its arguments are as they were. No condition.
-/
import Derived.Test.YtcgmcohkkigphaaGreatRows
import Derived.Test.YtcgmcohkkigphaaGreatJn3
import Derived.Test.YtcgmcohkkigphaaGreatLb115
set_option maxRecDepth 100000
namespace Go.Proofs.YtcgmcohkkigphaaGreat
open Go Vx Go.RowKit Go.ChangeShapes Go.WideShapes Go.ChangeAt

theorem CG:ownKnob Tryz.prog.godebug=none:=by kernel_rfl
theorem AY:laidOutB Tryz.prog=true:=by kernel_rfl
theorem xQ (os:Os) (started:os.Started) (H:Type) (enc:TypeId × Value→H):
 ReturnsInHanded {} Tryz.checked os 11 .any (Rows.tokenPointsSpec.pre6 enc Tryz.prog Tryz.f11 Rows.tokenPointsRow.domain false) (Rows.tokenPointsSpec.post enc Tryz.prog Tryz.f11 false true false false):=by
 refine returnsInHanded_of_change (C:=Tryz.checked) CG started (by kernel_rfl) Tryz.func11
  (ChangeSpec.witness6 (enc:=enc) (C:=Tryz.checked) false ⟨#[], #[.agg #[.int .u8 0, .int .u8 0, .int .u8 0, .int .u8 0, .int .u8 0, .int .u8 0, .int .u8 0, .int .u8 0, .int .u8 0, .int .u8 0, .int .u8 0, .int .u8 0, .int .u8 0, .int .u8 0, .int .u8 0, .int .u8 0], .agg #[.int .u8 0, .int .u8 0, .int .u8 0, .int .u8 0, .int .u8 0, .int .u8 0, .int .u8 0, .int .u8 0, .int .u8 0, .int .u8 0, .int .u8 0, .int .u8 0, .int .u8 0, .int .u8 0, .int .u8 0, .int .u8 0], .agg #[.int .u8 0, .int .u8 0, .int .u8 0, .int .u8 0, .int .u8 0, .int .u8 0, .int .u8 0, .int .u8 0, .int .u8 0, .int .u8 0, .int .u8 0, .int .u8 0, .int .u8 0, .int .u8 0, .int .u8 0, .int .u8 0, .int .u8 0, .int .u8 0, .int .u8 0, .int .u8 0, .int .u8 0, .int .u8 0, .int .u8 0, .int .u8 0, .int .u8 0, .int .u8 0, .int .u8 0, .int .u8 0, .int .u8 0, .int .u8 0, .int .u8 0, .int .u8 0]],[]⟩ 8 (by kernel_rfl) (by kernel_rfl) (by kernel_rfl) (by kernel_rfl)) ?_
 intro W base args ds gs before hval hW hcnd _
 obtain ⟨p,q,hA0,hV,hb,hfz,hnd⟩:=id hW
 have hA:DataW.TrodAll enc Tryz.prog W 0 (fun _=> true) true Tryz.f11.params.toList args.toList ds p:=hA0
 rw [Tryz.params11] at hA hval
 obtain ⟨v0,vs0,d0,ds0,p0,q0,hargs,hd0,hp0,h0,r0⟩:=trodAll_cons hA
 obtain ⟨v1,vs1,d1,ds1,p1,q1,e1,hd1,hp1,h1,r1⟩:=trodAll_cons r0
 subst e1
 obtain ⟨v2,vs2,d2,ds2,p2,q2,e2,hd2,hp2,h2,r2⟩:=trodAll_cons r1
 subst e2
 obtain ⟨e3,hd3,_⟩:=trodAll_nil r2
 subst e3
 obtain rfl:args= #[v0,v1,v2]:=by cases args; simp_all
 obtain ⟨w0,hv0⟩:=Ke (t:=23) (ts:= [.pk .u8 8 16]) (by kernel_rfl) (by kernel_rfl) (hval 0 23 v0 rfl rfl) h0
 obtain ⟨w1,hv1⟩:=Ke (t:=23) (ts:= [.pk .u8 8 16]) (by kernel_rfl) (by kernel_rfl) (hval 1 23 v1 rfl rfl) h1
 obtain ⟨f2,hv2⟩:=Sc (u:=5) (k:= .u8) (m:=32) (by kernel_rfl) (by kernel_rfl) (by kernel_rfl) (by kernel_rfl) (by decide) (hval 2 37 v2 rfl rfl)
 refine (Ea (P:=Tryz.prog) (c:=af Tryz.f11) (args:= [.ag (.ps (iX [.pk .u8 8 16] w0)), .ag (.ps (iX [.pk .u8 8 16] w1)), .ag (.ps ((List.range 32).map fun i=> .int .u8 (f2 i)))]) Tryz.func11 (by kernel_rfl) (by kernel_rfl) FM [] (by kernel_rfl) iL (fun v hv=> by simp only [List.mem_cons,List.not_mem_nil,or_false] at hv; rcases hv with rfl | rfl | rfl<;> rfl) (vals:= [v0,v1,v2]) (.cons hv0 (.cons hv1 (.cons (hv2 _) .nil)))).mono fun e W2 ⟨he,hbe⟩=> ?_
 subst he
 refine ⟨_,rfl,Ji AY (by kernel_rfl) (by kernel_rfl) (tb:=4) (by kernel_rfl) rfl ?_ hW hbe⟩
 subst hd0 hd1 hd2 hd3; rfl

theorem tokenPoints_holds:Rows.TokenPointsSaid:=
 OpenClaim.holds_of_wide 11 Tryz.f11 rfl rfl rfl rfl rfl rfl rfl ⟨rfl,rfl,rfl,rfl,rfl⟩ rfl rfl rfl rfl rfl (by kernel_rfl) Tryz.func11 (by kernel_rfl)
  (of_decide_eq_true (by kernel_rfl)) (by unfold Func.isWrapper; first | (rw [if_pos (by decide+kernel)]; kernel_rfl) | (rw [if_neg (by decide+kernel)]; exact ⟨rfl,rfl⟩))
  (fun os started H enc _=> xQ os started H enc)
#print axioms tokenPoints_holds
end Go.Proofs.YtcgmcohkkigphaaGreat
