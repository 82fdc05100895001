/-
  The law TokenNumbers: WHATEVER THE INPUT, it answers true, and its arguments are as they were. No condition.
-/
import Derived.Test.YtcgmcohkkigphaaGreatRows
import Derived.Test.YtcgmcohkkigphaaGreatJn3
import Derived.Test.YtcgmcohkkigphaaGreatLb115
set_option maxRecDepth 100000
namespace Go.Proofs.YtcgmcohkkigphaaGreat
open Go Vx Go.RowKit Go.ChangeShapes Go.WideShapes Go.ChangeAt

theorem Bj:ownKnob Tryz.prog.godebug=none:=by kernel_rfl
theorem zn:laidOutB Tryz.prog=true:=by kernel_rfl
theorem wN (os:Os) (started:os.Started) (H:Type) (enc:TypeId × Value→H):
 ReturnsInHanded {} Tryz.checked os 3 .any (Rows.tokenNumbersSpec.pre6 enc Tryz.prog Tryz.f3 Rows.tokenNumbersRow.domain false) (Rows.tokenNumbersSpec.post enc Tryz.prog Tryz.f3 false true false false):=by
 refine returnsInHanded_of_change (C:=Tryz.checked) Bj started (by kernel_rfl) Tryz.func3
  (ChangeSpec.witness6 (enc:=enc) (C:=Tryz.checked) false ⟨#[], #[.agg #[.int .u8 0, .int .u8 0, .int .u8 0, .int .u8 0, .int .u8 0, .int .u8 0, .int .u8 0, .int .u8 0, .int .u8 0, .int .u8 0, .int .u8 0, .int .u8 0, .int .u8 0, .int .u8 0, .int .u8 0, .int .u8 0, .int .u32 0], .agg #[.int .u8 0, .int .u8 0, .int .u8 0, .int .u8 0, .int .u8 0, .int .u8 0, .int .u8 0, .int .u8 0, .int .u8 0, .int .u8 0, .int .u8 0, .int .u8 0, .int .u8 0, .int .u8 0, .int .u8 0, .int .u8 0, .int .u32 0]],[]⟩ 8 (by kernel_rfl) (by kernel_rfl) (by kernel_rfl) (by kernel_rfl)) ?_
 intro W base args ds gs before hval hW hcnd _
 obtain ⟨p,q,hA0,hV,hb,hfz,hnd⟩:=id hW
 have hA:DataW.TrodAll enc Tryz.prog W 0 (fun _=> true) true Tryz.f3.params.toList args.toList ds p:=hA0
 rw [Tryz.params3] at hA hval
 obtain ⟨v0,vs0,d0,ds0,p0,q0,hargs,hd0,hp0,h0,r0⟩:=trodAll_cons hA
 obtain ⟨v1,vs1,d1,ds1,p1,q1,e1,hd1,hp1,h1,r1⟩:=trodAll_cons r0
 subst e1
 obtain ⟨e2,hd2,_⟩:=trodAll_nil r1
 subst e2
 obtain rfl:args= #[v0,v1]:=by cases args; simp_all
 obtain ⟨w0,hv0⟩:=Ke (t:=26) (ts:= [.pk .u8 8 16, .int .u32]) (by kernel_rfl) (by kernel_rfl) (hval 0 26 v0 rfl rfl) h0
 obtain ⟨w1,hv1⟩:=Ke (t:=26) (ts:= [.pk .u8 8 16, .int .u32]) (by kernel_rfl) (by kernel_rfl) (hval 1 26 v1 rfl rfl) h1
 refine (Ea (P:=Tryz.prog) (c:=af Tryz.f3) (args:= [.ag (.ps (iX [.pk .u8 8 16, .int .u32] w0)), .ag (.ps (iX [.pk .u8 8 16, .int .u32] w1))]) Tryz.func3 (by kernel_rfl) (by kernel_rfl) CE [] (by kernel_rfl) iL (fun v hv=> by simp only [List.mem_cons,List.not_mem_nil,or_false] at hv; rcases hv with rfl | rfl<;> rfl) (vals:= [v0,v1]) (.cons hv0 (.cons hv1 .nil))).mono fun e W2 ⟨he,hbe⟩=> ?_
 subst he
 refine ⟨_,rfl,Ji zn (by kernel_rfl) (by kernel_rfl) (tb:=4) (by kernel_rfl) rfl ?_ hW hbe⟩
 subst hd0 hd1 hd2; rfl

theorem tokenNumbers_holds:Rows.TokenNumbersSaid:=
 OpenClaim.holds_of_wide 3 Tryz.f3 rfl rfl rfl rfl rfl rfl rfl ⟨rfl,rfl,rfl,rfl,rfl⟩ rfl rfl rfl rfl rfl (by kernel_rfl) Tryz.func3 (by kernel_rfl)
  (of_decide_eq_true (by kernel_rfl)) (by unfold Func.isWrapper; first | (rw [if_pos (by decide+kernel)]; kernel_rfl) | (rw [if_neg (by decide+kernel)]; exact ⟨rfl,rfl⟩))
  (fun os started H enc _=> wN os started H enc)
#print axioms tokenNumbers_holds
end Go.Proofs.YtcgmcohkkigphaaGreat
