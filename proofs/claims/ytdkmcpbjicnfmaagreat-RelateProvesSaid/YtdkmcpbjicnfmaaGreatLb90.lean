/-
  Contracts of relations: are two proofs the same?
-/
import Derived.Test.YtdkmcpbjicnfmaaGreatLb86
import Derived.Test.YtdkmcpbjicnfmaaGreatLb85
set_option maxRecDepth 100000
namespace Go.Proofs.YtdkmcpbjicnfmaaGreat
open Go Vx Go.RowKit

def sameL : List (List D) → List (List D) → Bool
 | [], _ => true
 | a :: y, z => bif !decide (eqA a = eqA (z.headD [])) then false else sameL y z.tail
def sameB (c : Nat) (y : List (List D)) (d : Nat) (z : List (List D)) : Bool := bif !decide (c = d) then false else bif !decide (((y.length : Nat) : Int) = (z.length : Nat)) then false else sameL y z
theorem sameL_self : ∀ (y : List (List D)), sameL y y = true
 | [] => rfl
 | a :: y => by
   unfold sameL
   rw [show eqA ((a :: y).headD []) = eqA a from rfl, decide_eq_true rfl]
   exact sameL_self y
theorem sameB_self (c : Nat) (y : List (List D)) : sameB c y c y = true := by
 unfold sameB
 rw [decide_eq_true rfl, decide_eq_true rfl, sameL_self]
 rfl
abbrev prfB (c : Nat) (y : List (List D)) : Option Blk := some ⟨58, .ps [.pk .u8 8 32 c, .rd [.pk .u8 8 32] y]⟩
def stSm (c : Nat) (y : List (List D)) (d : Nat) (z : List (List D)) (i : Int) : St := ⟨jk 2 ++ [.one (.ptr 0 0), .one (.ptr 1 0), .one (.bool false), vi64 i] ++ jk 32, [prfB c y, prfB d z]⟩
def stSz1 (c : Nat) (y : List (List D)) (d : Nat) (z : List (List D)) : St := ⟨jk 2 ++ [.one (.ptr 0 0), .one (.ptr 1 0), .one (.bool false), undefV] ++ jk 32, [prfB c y, prfB d z]⟩

noncomputable def sRSameF : List D → Option (List Bool × V)
 | [.n c, .l y, .n d, .l z] => some ([], vbool' (sameB c y d z))
 | _ => none
noncomputable def sRSame : FSpec := spec [tprf, tprf] sRSameF
noncomputable abbrev tabRSame : List (FuncId × FSpec) := []
theorem tabokRSame : TabOK Tryz.prog (tabOf tabRSame) := TabOK.nil
noncomputable abbrev cRSame : Cx := mkcf true false tabRSame [] []
theorem oRSame : Ok cRSame := mkokf (sy := true) (rw := false) tabokRSame IlOK.nil JsOK.nil
theorem ok_RSame : FnOK Tryz.prog 35 sRSame := by
 refine fn_flat (cx := mkcf true false tabRSame [] []) (c := bodyOf Tryz.f35) Tryz.func35 (by kernel_rfl) (by kernel_rfl) rfl ?_
 intro ds chk v vs hF ht he hr base
 unfold sRSameF at hF
 split at hF
 · rename_i c y d z
   cases hF
   have hvs : vs = [vprfA c y, vprfA d z] := by simp only [encA, encV, encP, encL, Option.some.injEq] at he; exact he.symm
   subst hvs
   obtain ⟨hp, hq, _⟩ := hr
   obtain ⟨_, hy, _⟩ := hp
   obtain ⟨_, hz, _⟩ := hq
   have hym := max_lt hy.1
   have hzm := max_lt hz.1
   have hly := nat_i hym
   have hlz := nat_i hzm
   have h0 : evLS cRSame 100 ((items (bodyOf Tryz.f35)).take 4) ⟨t0 Tryz.f35 [vprfA c y, vprfA d z], []⟩ (kfg 0 [2, 3, 4, 5] [0, 1] 2) =
    bif !allB [decide (c = d)] then .done .ret (stSz1 c y d z) else chks [okK .i64 (y.length : Nat), okK .i64 (z.length : Nat)] (bif !decide (((y.length : Nat) : Int) = (z.length : Nat)) then .done .ret (stSz1 c y d z) else .done .normal (stSm c y d z 0)) := by kernel_rfl
   rw [chks_true (allTc hly (allT1 hlz))] at h0
   have hF : sameB c y d z = bif !allB [decide (c = d)] then false else bif !decide (((y.length : Nat) : Int) = (z.length : Nat)) then false else sameL y z := rfl
   rw [hF]
   clear hF
   cases h1 : allB [decide (c = d)] with
   | false =>
     rw [h1] at h0
     exact Runs.items _ _ _ (RunsL.preS oRSame (k := 4) h0 ⟨_, [], (by kernel_rfl), VEnt.refl _, trivial⟩)
   | true =>
   cases h2 : decide (((y.length : Nat) : Int) = (z.length : Nat)) with
   | false =>
     rw [h1, h2] at h0
     exact Runs.items _ _ _ (RunsL.preS oRSame (k := 4) h0 ⟨_, [], (by kernel_rfl), VEnt.refl _, trivial⟩)
   | true =>
   rw [h1, h2] at h0
   have hyz := of_decide_eq_true h2
   refine Runs.items _ _ _ (RunsL.preS oRSame (k := 4) h0 ?_)
   refine RunsL.loop (id := 0) (by kernel_rfl) (fun m s => ∃ j : Nat, s = stSm c y d z (j : Int) ∧ j + m = y.length ∧ sameL y z = sameL (y.drop j) (z.drop j)) y.length ⟨0, rfl, Nat.zero_add _, rfl⟩ ?_
   rintro m s ⟨j, rfl, hj, hg⟩
   have hev : ∀ i : Int, evLS cRSame 100 (items (loopAt (bodyOf Tryz.f35) 4)) (stSm c y d z i) (kfg 0 [2, 3, 4, 5] [0, 1] 2) =
    chks [okK .i64 (y.length : Nat)] (bif decide (i < (y.length : Nat)) then chks [decide (0 ≤ i), decide (i < (y.length : Nat)), decide (0 ≤ i), decide (i < (z.length : Nat))] (bif !allB [decide (eqA (y.getD i.toNat []) = eqA (z.getD i.toNat []))] then .done .ret (stSm c y d z i)
     else chks [okK .i64 (i + 1)] (.done .normal (stSm c y d z (i + 1)))) else .done (.exit 0) (stSm c y d z i)) := by intro i; kernel_rfl
   have h3 := hev (j : Int)
   rw [Int.toNat_natCast, chks_true (allT1 hly)] at h3
   cases m with
   | zero =>
     have hj : j = y.length := hj
     rw [hj, dec_self_lt, cond_false] at h3
     rw [hj, List.drop_length] at hg
     rw [hj]
     have hg : sameL y z = true := hg
     rw [hg]
     refine RunsL.allS oRSame h3 ?_
     exact runsL_evS oRSame (n := 100) (bs0 := []) (by kernel_rfl) (VEnt.refl _) trivial
   | succ m =>
     have hjl : j < y.length := by omega
     have hjz : j < z.length := by omega
     rw [dec_nn, dec_lt hjl, dec_lt hjz, show okK .i64 ((j : Int) + 1) = true from okI (by omega) (by omega)] at h3
     rw [drop_cons hjl, drop_cons hjz, sameL] at hg
     cases hb : decide (eqA (y.getD j []) = eqA (z.getD j [])) with
     | false =>
       rw [hb] at h3
       have hg : sameL y z = bif !decide (eqA (y.getD j []) = eqA (z.getD j [])) then false else sameL (y.drop (j + 1)) (z.drop (j + 1)) := hg
       rw [hb] at hg
       rw [hg]
       exact RunsL.allS oRSame h3 ⟨_, [], (by kernel_rfl), VEnt.refl _, trivial⟩
     | true =>
       rw [hb] at h3
       have hg : sameL y z = bif !decide (eqA (y.getD j []) = eqA (z.getD j [])) then false else sameL (y.drop (j + 1)) (z.drop (j + 1)) := hg
       rw [hb] at hg
       exact RunsL.allS oRSame h3 ⟨m, Nat.lt_succ_self m, j + 1, rfl, by omega, hg⟩
 · cases hF
end Go.Proofs.YtdkmcpbjicnfmaaGreat
