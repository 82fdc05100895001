/-
  A mint's parameters, and their form.
-/
import Derived.Test.YtcgmcohkkigphaaGreatLb103
set_option maxRecDepth 100000
namespace Go.Proofs.YtcgmcohkkigphaaGreat
open Go Vx Go.RowKit

noncomputable def Px:List D→Option (List Bool × V)
 | [.n a, .n b, .n c, .n d, .n e, .n f, .n g, .n h, .n i, .n j, .n k]=> some ([jV a b c d e f g h i j k], .dX [.ag (.ps [.pk .u8 8 32 (aI a bN), .pk .u8 8 32 (nk b c (aI a bN)), .pk .u8 8 32 (aI d (aI a bN)), .pk .u8 8 32 (aI e (aI a bN)), .pk .u8 8 32 (nk f g (aI a bN)), .pk .u8 8 32 (aI h (aI a bN)), .pk .u8 8 32 (aI i (aI a bN)), .pk .u8 8 32 (aI j (aI a bN)), .pk .u8 8 32 (aI k bN)]), .one (.int .i64 0)])
 | _=> none
noncomputable def Dq:aj:=spec [Uj] Px
noncomputable abbrev JP:List (FuncId × aj):= [(61,L6),(64,uS),(66,Pp),(65,Py)]
theorem Qy:aD Tryz.prog (aK JP):=(.cons FH (.cons oo (.cons Dk (.cons SH .nil))))
theorem Bf:bg Tryz.prog 31 Dq:=by
 refine az (cx:=bJ false false JP [] []) (c:=af Tryz.f31) Tryz.func31 (by kernel_rfl) (by kernel_rfl) rfl ?_
 intro ds chk v vs hF ht he hr base
 unfold Px at hF
 split at hF
 · rename_i a b c d e f g h i j k
   cases hF
   have hvs:vs= [G5 a b c d e f g h i j k]:=by simp only [bq,bn,bF,bD,Option.some.injEq] at he; exact he.symm
   subst hvs
   have hm:jV a b c d e f g h i j k=true:=ht _ (by simp)
   exact aB (dM (sy:=false) (rw:=false) Qy bf.nil dO.nil) (n:=400) (bs0:= []) (h:=Eq.trans (b:=bif !jV a b c d e f g h i j k then aV (.dX [.ag (.ps (nO++(nO++(nO++(nO++(nO++(nO++(nO++(nO++(nO)))))))))), .one (.int .i64 50)]) else aV (.dX [.ag (.ps [.pk .u8 8 32 (aI a bN), .pk .u8 8 32 (nk b c (aI a bN)), .pk .u8 8 32 (aI d (aI a bN)), .pk .u8 8 32 (aI e (aI a bN)), .pk .u8 8 32 (nk f g (aI a bN)), .pk .u8 8 32 (aI h (aI a bN)), .pk .u8 8 32 (aI i (aI a bN)), .pk .u8 8 32 (aI j (aI a bN)), .pk .u8 8 32 (aI k bN)]), .one (.int .i64 0)])) (by kernel_rfl) (by rw [hm]; rfl)) (aL.refl _) trivial
 · cases hF
end Go.Proofs.YtcgmcohkkigphaaGreat
