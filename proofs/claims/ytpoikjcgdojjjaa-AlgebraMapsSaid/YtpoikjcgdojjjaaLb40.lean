/-
  Contracts of the program's scalars and of algebra: small ones.
-/
import Derived.Test.YtpoikjcgdojjjaaLb39
namespace Go.Proofs.Ytpoikjcgdojjjaa
open Go Vx Go.RowKit

noncomputable def sRMinusF : List D → Option (List Bool × V)
  | [.n a, .n b] => some ([], vb32 (restP (restP a + restP (minusS 7237005577332262213973186563042994240857116359379907606001950938285454250989 (restP b)))))
  | _ => none
noncomputable def sRMinus : FSpec := spec [tb32, tb32] sRMinusF
noncomputable abbrev tabRMinus : List (FuncId × FSpec) := [(142, sRCanon), (137, sOrder), (136, sLess), (140, sRScalar), (110, sRPlus)]
set_option maxRecDepth 100000 in
theorem tabokRMinus : TabOK Try.prog (tabOf tabRMinus) := (.cons ok_RCanon (.cons ok_Order (.cons ok_Less (.cons ok_RScalar (.cons ok_RPlus .nil)))))
set_option maxRecDepth 100000 in
theorem ok_RMinus : FnOK Try.prog 111 sRMinus := by
  refine fn_flat (cx := mkcx tabRMinus) (c := bodyOf Try.f111) Try.func111 (by kernel_rfl) (by kernel_rfl) rfl ?_
  intro ds chk v vs hF ht he hr base
  unfold sRMinusF at hF
  split at hF
  · rename_i a b
    cases hF
    have hvs : vs = [vb32 a, vb32 b] := by simp only [encA, encV, encP, encL, Option.some.injEq] at he; exact he.symm
    subst hvs
    exact runs_ev (mkok tabokRMinus) (n := 400) (bs0 := []) (by kernel_rfl) (VEnt.refl _) trivial
  · cases hF

noncomputable def sAIsPointF : List D → Option (List Bool × V)
  | [.n p] => some ([], vbool' (rdecBP p))
  | _ => none
noncomputable def sAIsPoint : FSpec := spec [tb32] sAIsPointF
noncomputable abbrev tabAIsPoint : List (FuncId × FSpec) := [(17, sRDec)]
set_option maxRecDepth 100000 in
theorem tabokAIsPoint : TabOK Try.prog (tabOf tabAIsPoint) := (.cons ok_RDec .nil)
set_option maxRecDepth 100000 in
theorem ok_AIsPoint : FnOK Try.prog 40 sAIsPoint := by
  refine fn_flat (cx := mkcx tabAIsPoint) (c := bodyOf Try.f40) Try.func40 (by kernel_rfl) (by kernel_rfl) rfl ?_
  intro ds chk v vs hF ht he hr base
  unfold sAIsPointF at hF
  split at hF
  · rename_i p
    cases hF
    have hvs : vs = [vb32 p] := by simp only [encA, encV, encP, encL, Option.some.injEq] at he; exact he.symm
    subst hvs
    exact runs_ev (mkok tabokAIsPoint) (n := 400) (bs0 := []) (by kernel_rfl) (VEnt.refl _) trivial
  · cases hF

noncomputable def sAIsScalarF : List D → Option (List Bool × V)
  | [.n s] => some ([], vbool' (minusB s 7237005577332262213973186563042994240857116359379907606001950938285454250989))
  | _ => none
noncomputable def sAIsScalar : FSpec := spec [tb32] sAIsScalarF
noncomputable abbrev tabAIsScalar : List (FuncId × FSpec) := [(102, sRMay)]
set_option maxRecDepth 100000 in
theorem tabokAIsScalar : TabOK Try.prog (tabOf tabAIsScalar) := (.cons ok_RMay .nil)
set_option maxRecDepth 100000 in
theorem ok_AIsScalar : FnOK Try.prog 42 sAIsScalar := by
  refine fn_flat (cx := mkcx tabAIsScalar) (c := bodyOf Try.f42) Try.func42 (by kernel_rfl) (by kernel_rfl) rfl ?_
  intro ds chk v vs hF ht he hr base
  unfold sAIsScalarF at hF
  split at hF
  · rename_i s
    cases hF
    have hvs : vs = [vb32 s] := by simp only [encA, encV, encP, encL, Option.some.injEq] at he; exact he.symm
    subst hvs
    exact runs_ev (mkok tabokAIsScalar) (n := 400) (bs0 := []) (by kernel_rfl) (VEnt.refl _) trivial
  · cases hF

noncomputable def sAOfF : List D → Option (List Bool × V)
  | [.i n] => some ([], vb32 n.toNat)
  | _ => none
noncomputable def sAOf : FSpec := spec [tu64] sAOfF
noncomputable abbrev tabAOf : List (FuncId × FSpec) := [(119, sRScOf)]
set_option maxRecDepth 100000 in
theorem tabokAOf : TabOK Try.prog (tabOf tabAOf) := (.cons ok_RScOf .nil)
set_option maxRecDepth 100000 in
theorem ok_AOf : FnOK Try.prog 56 sAOf := by
  refine fn_flat (cx := mkcx tabAOf) (c := bodyOf Try.f56) Try.func56 (by kernel_rfl) (by kernel_rfl) rfl ?_
  intro ds chk v vs hF ht he hr base
  unfold sAOfF at hF
  split at hF
  · rename_i n
    cases hF
    have hvs : vs = [vu64 n] := by simp only [encA, encV, encP, encL, Option.some.injEq] at he; exact he.symm
    subst hvs
    exact runs_ev (mkok tabokAOf) (n := 400) (bs0 := []) (by kernel_rfl) (VEnt.refl _) trivial
  · cases hF

noncomputable def sABaseF : List D → Option (List Bool × V)
  | [] => some ([], vb32 (rencP (baseP ())))
  | _ => none
noncomputable def sABase : FSpec := spec [] sABaseF
noncomputable abbrev tabABase : List (FuncId × FSpec) := [(25, sREnc), (33, sEBase)]
set_option maxRecDepth 100000 in
theorem tabokABase : TabOK Try.prog (tabOf tabABase) := (.cons ok_REnc (.cons ok_EBase .nil))
set_option maxRecDepth 100000 in
theorem ok_ABase : FnOK Try.prog 100 sABase := by
  refine fn_flat (cx := mkcx tabABase) (c := bodyOf Try.f100) Try.func100 (by kernel_rfl) (by kernel_rfl) rfl ?_
  intro ds chk v vs hF ht he hr base
  unfold sABaseF at hF
  split at hF
  · cases hF
    have hvs : vs = [] := by simp only [encA, Option.some.injEq] at he; exact he.symm
    subst hvs
    exact runs_ev (mkok tabokABase) (n := 400) (bs0 := []) (by kernel_rfl) (VEnt.refl _) trivial
  · cases hF

noncomputable def sAMapF : List D → Option (List Bool × V)
  | [.n b] => some ([], vb32 (rencP (rmapP b)))
  | _ => none
noncomputable def sAMap : FSpec := spec [tb64] sAMapF
noncomputable abbrev tabAMap : List (FuncId × FSpec) := [(25, sREnc), (35, sRMap)]
set_option maxRecDepth 100000 in
theorem tabokAMap : TabOK Try.prog (tabOf tabAMap) := (.cons ok_REnc (.cons ok_RMap .nil))
set_option maxRecDepth 100000 in
theorem ok_AMap : FnOK Try.prog 46 sAMap := by
  refine fn_flat (cx := mkcx tabAMap) (c := bodyOf Try.f46) Try.func46 (by kernel_rfl) (by kernel_rfl) rfl ?_
  intro ds chk v vs hF ht he hr base
  unfold sAMapF at hF
  split at hF
  · rename_i b
    cases hF
    have hvs : vs = [vb64 b] := by simp only [encA, encV, encP, encL, Option.some.injEq] at he; exact he.symm
    subst hvs
    exact runs_ev (mkok tabokAMap) (n := 400) (bs0 := []) (by kernel_rfl) (VEnt.refl _) trivial
  · cases hF

noncomputable def sAReduceF : List D → Option (List Bool × V)
  | [.n b] => some ([], vb32 (restP b))
  | _ => none
noncomputable def sAReduce : FSpec := spec [tb64] sAReduceF
noncomputable abbrev tabAReduce : List (FuncId × FSpec) := [(107, sRWide)]
set_option maxRecDepth 100000 in
theorem tabokAReduce : TabOK Try.prog (tabOf tabAReduce) := (.cons ok_RWide .nil)
set_option maxRecDepth 100000 in
theorem ok_AReduce : FnOK Try.prog 44 sAReduce := by
  refine fn_flat (cx := mkcx tabAReduce) (c := bodyOf Try.f44) Try.func44 (by kernel_rfl) (by kernel_rfl) rfl ?_
  intro ds chk v vs hF ht he hr base
  unfold sAReduceF at hF
  split at hF
  · rename_i b
    cases hF
    have hvs : vs = [vb64 b] := by simp only [encA, encV, encP, encL, Option.some.injEq] at he; exact he.symm
    subst hvs
    exact runs_ev (mkok tabokAReduce) (n := 400) (bs0 := []) (by kernel_rfl) (VEnt.refl _) trivial
  · cases hF

def ub0 : List L := [.int .u8 0, .int .u8 0, .int .u8 0, .int .u8 0, .int .u8 0, .int .u8 0, .int .u8 0, .int .u8 0, .int .u8 0, .int .u8 0, .int .u8 0, .int .u8 0, .int .u8 0, .int .u8 0, .int .u8 0, .int .u8 0, .int .u8 0, .int .u8 0, .int .u8 0, .int .u8 0, .int .u8 0, .int .u8 0, .int .u8 0, .int .u8 0, .int .u8 0, .int .u8 0, .int .u8 0, .int .u8 0, .int .u8 0, .int .u8 0, .int .u8 0, .int .u8 0]
theorem ub0_ent : VEnt (.ag (.ps ub0)) (vb32 0) := VEnt.dec (t := tb32) (ds := [.n 0]) rfl rfl

noncomputable def sAIdentityF : List D → Option (List Bool × V)
  | [] => some ([], vb32 0)
  | _ => none
noncomputable def sAIdentity : FSpec := spec [] sAIdentityF
noncomputable abbrev tabAIdentity : List (FuncId × FSpec) := []
set_option maxRecDepth 100000 in
theorem tabokAIdentity : TabOK Try.prog (tabOf tabAIdentity) := TabOK.nil
set_option maxRecDepth 100000 in
theorem ok_AIdentity : FnOK Try.prog 59 sAIdentity := by
  refine fn_flat (cx := mkcx tabAIdentity) (c := bodyOf Try.f59) Try.func59 (by kernel_rfl) (by kernel_rfl) rfl ?_
  intro ds chk v vs hF ht he hr base
  unfold sAIdentityF at hF
  split at hF
  · cases hF
    have hvs : vs = [] := by simp only [encA, Option.some.injEq] at he; exact he.symm
    subst hvs
    exact runs_evS (mkok tabokAIdentity) (n := 400) (bs0 := []) (v0 := .ag (.ps ub0)) (by kernel_rfl) ub0_ent trivial
  · cases hF
end Go.Proofs.Ytpoikjcgdojjjaa
