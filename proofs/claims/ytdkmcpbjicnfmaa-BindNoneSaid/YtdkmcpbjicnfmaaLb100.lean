/-
  The law's known transcript and draw, worked out; BindNone answers true.
-/
import Derived.Test.YtdkmcpbjicnfmaaL13
import Derived.Test.YtdkmcpbjicnfmaaL12
import Derived.Test.YtdkmcpbjicnfmaaLb66
import Derived.Test.YtdkmcpbjicnfmaaL8
set_option maxRecDepth 100000
namespace Go.Proofs.Ytdkmcpbjicnfmaa
open Go Vx Go.RowKit

def eqI : List (List D) → List Int → Bool
 | [], [] => true
 | [.i a] :: x, b :: l => decide (a = b) && eqI x l
 | _, _ => false
theorem eqI_eq : ∀ {x : List (List D)} {l : List Int}, eqI x l = true → x = l.map fun b => [.i b]
 | [], [], _ => rfl
 | [.i a] :: x, b :: l, h => by
   simp only [eqI, Bool.and_eq_true] at h
   rw [of_decide_eq_true h.1, eqI_eq h.2]
   rfl
 | [], _ :: _, h => by simp [eqI] at h
 | [] :: _, _, h => by simp [eqI] at h
 | (.n _ :: _) :: _, _, h => by simp [eqI] at h
 | (.b _ :: _) :: _, _, h => by simp [eqI] at h
 | (.s _ :: _) :: _, _, h => by simp [eqI] at h
 | (.l _ :: _) :: _, _, h => by simp [eqI] at h
 | (.i _ :: _ :: _) :: _, _, h => by simp [eqI] at h
 | [.i _] :: _, [], h => by simp [eqI] at h
abbrev drawI : List Int := [0, 0, 0, 4, 115, 101, 101, 100, 5, 0, 0, 0, 0, 0, 0, 0, 0]
abbrev n10 : Nat := 7939777757420392942335627551391978145028939846066290945815848339036986052710963625465664532519181252764054484205850992419830007719790262753765336495840120
abbrev k10 : Nat := 334261763874351214252504923169115831605075459316900777049900464368283240712
theorem draw10C : shaC (drawI.map fun b => [.i b]) = n10 := by decide +kernel
theorem draw10 {x : List (List D)} (h : eqI x drawI = true) : sha512N x = n10 := by rw [eqI_eq h, sha_C, draw10C]
theorem red10 : restP n10 = k10 := by rw [restP_mod]; unfold lP; decide +kernel

noncomputable def sHKF : List D → Option (List Bool × V)
 | [.l x] => bif eqI x drawI then some ([decide (x.length < 1099511627776)], vb64 n10) else sHSum512F [.l x]
 | ds => sHSum512F ds
noncomputable def sHK : FSpec := spec [tby] sHKF
theorem sHKF_eq : sHKF = sHSum512F := by
 funext ds
 unfold sHKF
 split
 · rename_i x
   cases h : eqI x drawI with
   | true =>
     show some ([decide (x.length < 1099511627776)], vb64 n10) = some ([decide (x.length < 1099511627776)], vb64 (sha512N x))
     rw [draw10 h]
   | false => rfl
 · rfl
theorem ok_HK : FnOK Try.prog 75 sHK := by
 show FnOK _ _ (spec [tby] sHKF)
 rw [sHKF_eq]
 exact ok_HSum512

noncomputable def sRKF : List D → Option (List Bool × V)
 | [.l x] => bif eqI x drawI then some ([decide (x.length < 1099511627776)], vb64 n10) else sRSum512aF [.l x]
 | ds => sRSum512aF ds
noncomputable def sRK : FSpec := spec [tby] sRKF
theorem sRKF_eq : sRKF = sRSum512aF := by
 funext ds
 unfold sRKF
 split
 · rename_i x
   cases h : eqI x drawI with
   | true =>
     show some ([decide (x.length < 1099511627776)], vb64 n10) = some ([decide (x.length < 1099511627776)], vb64 (sha512N x))
     rw [draw10 h]
   | false => rfl
 · rfl
theorem ok_RK : FnOK Try.prog 71 sRK := by
 show FnOK _ _ (spec [tby] sRKF)
 rw [sRKF_eq]
 exact ok_RSum512a

noncomputable def sAKF : List D → Option (List Bool × V)
 | [.n b] => bif Nat.beq b n10 then some ([], vb32 k10) else sAReduceF [.n b]
 | ds => sAReduceF ds
noncomputable def sAK : FSpec := spec [tb64] sAKF
theorem sAKF_eq : sAKF = sAReduceF := by
 funext ds
 unfold sAKF
 split
 · rename_i b
   cases h : Nat.beq b n10 with
   | true =>
     show some ([], vb32 k10) = some ([], vb32 (restP b))
     rw [Nat.eq_of_beq_eq_true h, red10]
   | false => rfl
 · rfl
theorem ok_AK : FnOK Try.prog 41 sAK := by
 show FnOK _ _ (spec [tb64] sAKF)
 rw [sAKF_eq]
 exact ok_AReduce

noncomputable def sSKF : List D → Option (List Bool × V)
 | [.n b] => bif Nat.beq b n10 then some ([], vb32 k10) else sSReduceF [.n b]
 | ds => sSReduceF ds
noncomputable def sSK : FSpec := spec [tb64] sSKF
theorem sSKF_eq : sSKF = sSReduceF := by
 funext ds
 unfold sSKF
 split
 · rename_i b
   cases h : Nat.beq b n10 with
   | true =>
     show some ([], vb32 k10) = some ([], vb32 (restP b))
     rw [Nat.eq_of_beq_eq_true h, red10]
   | false => rfl
 · rfl
theorem ok_SK : FnOK Try.prog 70 sSK := by
 show FnOK _ _ (spec [tb64] sSKF)
 rw [sSKF_eq]
 exact ok_SReduce
end Go.Proofs.Ytdkmcpbjicnfmaa
