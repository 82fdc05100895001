/-
  The laws AlgebraScalars, AlgebraBack answer true.
-/
import Derived.Test.YtdkmcpbjicnfmaaGreatL8
import Derived.Test.YtdkmcpbjicnfmaaGreatM3
namespace Go.Proofs.YtdkmcpbjicnfmaaGreat
open Go Vx Go.RowKit

def treeL : List Bool → Out
  | [] => outV (vbool' true)
  | c :: l => bif c then treeL l else outV (vbool' false)
theorem treeL_t : ∀ {l : List Bool}, allT l → treeL l = outV (vbool' true)
  | [], _ => rfl
  | c :: l, h => by
    obtain ⟨h1, h2⟩ := allT_cons h
    rw [treeL, h1, cond_true, treeL_t h2]
theorem allB_d {n : Nat} : allB [decide (n = n)] = true := decide_eq_true rfl
theorem dec_self {n : Int} : decide (n = n) = true := decide_eq_true rfl

noncomputable def sAlgebraScalarsF : List D → Option (List Bool × V)
  | [.n _, .n _, .i _] => some ([], vbool' true)
  | _ => none
noncomputable def sAlgebraScalars : FSpec := spec [tb32, tb32, tu64] sAlgebraScalarsF
end Go.Proofs.YtdkmcpbjicnfmaaGreat
