/-
  The law MintReads: WHATEVER THE INPUT, it answers true, and its arguments are as they were. No condition.
-/
import Derived.Test.YteohgdpkdbckoaaRows
import Derived.Test.YteohgdpkdbckoaaJn3
import Derived.Test.YteohgdpkdbckoaaLb109
namespace Go.Proofs.Yteohgdpkdbckoaa
open Go Vx Go.RowKit Go.ChangeShapes Go.WideShapes Go.ChangeAt

theorem own_mintReads : ownKnob Try.prog.godebug = none := by kernel_rfl
theorem laid_mintReads : laidOutB Try.prog = true := by kernel_rfl
set_option maxRecDepth 100000 in
theorem lifted_mintReads (os : Os) (started : os.Started) (H : Type) (enc : TypeId × Value → H) :
    ReturnsInHanded {} Try.checked os 4 .any (Rows.mintReadsSpec.pre6 enc Try.prog Try.f4 Rows.mintReadsRow.domain false) (Rows.mintReadsSpec.post enc Try.prog Try.f4 false true false false) := by
  refine returnsInHanded_of_change (C := Try.checked) own_mintReads started (by kernel_rfl) Try.func4
    (ChangeSpec.witness6 (enc := enc) (C := Try.checked) false ⟨#[], #[.slice none 0 0], []⟩ 8 (by kernel_rfl) (by kernel_rfl) (by kernel_rfl) (by kernel_rfl)) ?_
  intro W base args ds gs before hval hW hcnd _
  obtain ⟨p, q, hA0, hV, hb, hfz, hnd⟩ := id hW
  have hA : DataW.TrodAll enc Try.prog W 0 (fun _ => true) true Try.f4.params.toList args.toList ds p := hA0
  rw [Try.params4] at hA hval
  obtain ⟨v0, vs0, d0, ds0, p0, q0, hargs, hd0, hp0, h0, r0⟩ := trodAll_cons hA
  obtain ⟨e1, hd1, _⟩ := trodAll_nil r0
  subst e1
  obtain rfl : args = #[v0] := by cases args; simp_all
  obtain ⟨w0, hv0⟩ := arg_one (t := 26) (t0 := .sl [.int .u8]) (by kernel_rfl) (by kernel_rfl) (hval 0 26 v0 rfl rfl) h0
  refine (calls_true (P := Try.prog) (c := bodyOf Try.f4) (args := [.one (toL (.sl [.int .u8]) w0)]) Try.func4 (by kernel_rfl) (by kernel_rfl) ok_MintReads [] (by kernel_rfl) allT0 (fun v hv => by simp only [List.mem_cons, List.not_mem_nil, or_false] at hv; subst hv; rfl) (vals := [v0]) (.cons hv0 .nil)).mono fun e W2 ⟨he, hbe⟩ => ?_
  subst he
  refine ⟨_, rfl, post_true laid_mintReads (by kernel_rfl) (by kernel_rfl) (tb := 4) (by kernel_rfl) rfl ?_ hW hbe⟩
  subst hd0 hd1; rfl

theorem mintReads_holds : Rows.MintReadsSaid :=
  OpenClaim.holds_of_wide 4 Try.f4 rfl rfl rfl rfl rfl rfl rfl ⟨rfl, rfl, rfl, rfl, rfl⟩ rfl rfl rfl rfl rfl (by kernel_rfl) Try.func4 (by kernel_rfl)
    (of_decide_eq_true (by kernel_rfl)) (by unfold Func.isWrapper; first | (rw [if_pos (by decide +kernel)]; kernel_rfl) | (rw [if_neg (by decide +kernel)]; exact ⟨rfl, rfl⟩))
    (fun os started H enc _ => lifted_mintReads os started H enc)
#print axioms mintReads_holds
end Go.Proofs.Yteohgdpkdbckoaa
