/-
  The law MintPublic answers true.
-/
import Derived.Test.YteohgdpkdbckoaaGreatLb106
namespace Go.Proofs.YteohgdpkdbckoaaGreat
open Go Vx Go.RowKit

noncomputable def outT13 : Out := outV (vbool' true)
noncomputable def outF13 : Out := outV (vbool' false)
noncomputable def pubTree (M P c4 c5 c6 c7 : Bool) : Out := chks [M] (bif !(M == M) then outF13 else bif !M then outF13 else chks [P] (treeL [c4, P, c5, c6, c7]))
theorem pk_by {n : Nat} (hn : n < 2 ^ 256) : packL 8 ((List.range 32).map fun i => ((digit 8 n i : Nat) : Int).toNat) = n := by
  have h : ((List.range 32).map fun i => ((digit 8 n i : Nat) : Int).toNat) = (List.range' 0 32).map (digit 8 n) := by rw [← List.range_eq_range']; exact List.map_congr_left fun i _ => Int.toNat_natCast _
  rw [h, packL_digits, Nat.mul_zero, Nat.pow_zero, Nat.div_one]
  exact Nat.mod_eq_of_lt hn
theorem frm_take (n0 n1 n2 n3 n4 n5 n6 n7 n8 : Nat) : List.take 288 (List.drop 0 (frmL n0 n1 n2 n3 n4 n5 n6 n7 n8)) = frmL n0 n1 n2 n3 n4 n5 n6 n7 n8 := List.take_of_length_le (Nat.le_of_eq (show (frmL n0 n1 n2 n3 n4 n5 n6 n7 n8).length = 288 by kernel_rfl))
theorem frm_rd {n0 n1 n2 n3 n4 n5 n6 n7 n8 : Nat} (hl : ∀ n ∈ [n0, n1, n2, n3, n4, n5, n6, n7, n8], n < 2 ^ 256) (hm : mprM n0 n1 n2 n3 n4 n5 n6 n7 n8 = true) : rdE (frmL n0 n1 n2 n3 n4 n5 n6 n7 n8) = 0 ∧ (rdN (frmL n0 n1 n2 n3 n4 n5 n6 n7 n8) 0 = n0 ∧ rdN (frmL n0 n1 n2 n3 n4 n5 n6 n7 n8) 1 = n1 ∧ rdN (frmL n0 n1 n2 n3 n4 n5 n6 n7 n8) 2 = n2 ∧ rdN (frmL n0 n1 n2 n3 n4 n5 n6 n7 n8) 3 = n3 ∧ rdN (frmL n0 n1 n2 n3 n4 n5 n6 n7 n8) 4 = n4 ∧ rdN (frmL n0 n1 n2 n3 n4 n5 n6 n7 n8) 5 = n5 ∧ rdN (frmL n0 n1 n2 n3 n4 n5 n6 n7 n8) 6 = n6 ∧ rdN (frmL n0 n1 n2 n3 n4 n5 n6 n7 n8) 7 = n7 ∧ rdN (frmL n0 n1 n2 n3 n4 n5 n6 n7 n8) 8 = n8) := by
  have b0 : by32 (frmL n0 n1 n2 n3 n4 n5 n6 n7 n8) 0 = n0 := (show _ = packL 8 ((List.range 32).map fun i => ((digit 8 n0 i : Nat) : Int).toNat) by kernel_rfl).trans (pk_by (hl n0 (by simp)))
  have b1 : by32 (frmL n0 n1 n2 n3 n4 n5 n6 n7 n8) 1 = n1 := (show _ = packL 8 ((List.range 32).map fun i => ((digit 8 n1 i : Nat) : Int).toNat) by kernel_rfl).trans (pk_by (hl n1 (by simp)))
  have b2 : by32 (frmL n0 n1 n2 n3 n4 n5 n6 n7 n8) 2 = n2 := (show _ = packL 8 ((List.range 32).map fun i => ((digit 8 n2 i : Nat) : Int).toNat) by kernel_rfl).trans (pk_by (hl n2 (by simp)))
  have b3 : by32 (frmL n0 n1 n2 n3 n4 n5 n6 n7 n8) 3 = n3 := (show _ = packL 8 ((List.range 32).map fun i => ((digit 8 n3 i : Nat) : Int).toNat) by kernel_rfl).trans (pk_by (hl n3 (by simp)))
  have b4 : by32 (frmL n0 n1 n2 n3 n4 n5 n6 n7 n8) 4 = n4 := (show _ = packL 8 ((List.range 32).map fun i => ((digit 8 n4 i : Nat) : Int).toNat) by kernel_rfl).trans (pk_by (hl n4 (by simp)))
  have b5 : by32 (frmL n0 n1 n2 n3 n4 n5 n6 n7 n8) 5 = n5 := (show _ = packL 8 ((List.range 32).map fun i => ((digit 8 n5 i : Nat) : Int).toNat) by kernel_rfl).trans (pk_by (hl n5 (by simp)))
  have b6 : by32 (frmL n0 n1 n2 n3 n4 n5 n6 n7 n8) 6 = n6 := (show _ = packL 8 ((List.range 32).map fun i => ((digit 8 n6 i : Nat) : Int).toNat) by kernel_rfl).trans (pk_by (hl n6 (by simp)))
  have b7 : by32 (frmL n0 n1 n2 n3 n4 n5 n6 n7 n8) 7 = n7 := (show _ = packL 8 ((List.range 32).map fun i => ((digit 8 n7 i : Nat) : Int).toNat) by kernel_rfl).trans (pk_by (hl n7 (by simp)))
  have b8 : by32 (frmL n0 n1 n2 n3 n4 n5 n6 n7 n8) 8 = n8 := (show _ = packL 8 ((List.range 32).map fun i => ((digit 8 n8 i : Nat) : Int).toNat) by kernel_rfl).trans (pk_by (hl n8 (by simp)))
  have e : rdOK (frmL n0 n1 n2 n3 n4 n5 n6 n7 n8) = true := by
    have h0 : rdOK (frmL n0 n1 n2 n3 n4 n5 n6 n7 n8) = bif true then mprM (by32 (frmL n0 n1 n2 n3 n4 n5 n6 n7 n8) 0) (by32 (frmL n0 n1 n2 n3 n4 n5 n6 n7 n8) 1) (by32 (frmL n0 n1 n2 n3 n4 n5 n6 n7 n8) 2) (by32 (frmL n0 n1 n2 n3 n4 n5 n6 n7 n8) 3) (by32 (frmL n0 n1 n2 n3 n4 n5 n6 n7 n8) 4) (by32 (frmL n0 n1 n2 n3 n4 n5 n6 n7 n8) 5) (by32 (frmL n0 n1 n2 n3 n4 n5 n6 n7 n8) 6) (by32 (frmL n0 n1 n2 n3 n4 n5 n6 n7 n8) 7) (by32 (frmL n0 n1 n2 n3 n4 n5 n6 n7 n8) 8) else false := by kernel_rfl
    rw [h0, b0, b1, b2, b3, b4, b5, b6, b7, b8, cond_true, hm]
  unfold rdE rdN
  rw [e]
  exact ⟨rfl, b0, b1, b2, b3, b4, b5, b6, b7, b8⟩
theorem pt_lt {n : Nat} {P : E} (h : Pt n P) : n < 2 ^ 256 := Nat.lt_trans h.lt (by unfold pP; decide)
theorem pub_eqs {a b c d e f g h i j k : Nat} (hm : mayM a b c d e f g h i j k = true) : (∀ n ∈ [mp1 a bN, mp2 b c (mp1 a bN), mp1 d (mp1 a bN), mp1 e (mp1 a bN), mp2 f g (mp1 a bN), mp1 h (mp1 a bN), mp1 i (mp1 a bN), mp1 j (mp1 a bN), mp1 k bN], n < 2 ^ 256) ∧ mprM (mp1 a bN) (mp2 b c (mp1 a bN)) (mp1 d (mp1 a bN)) (mp1 e (mp1 a bN)) (mp2 f g (mp1 a bN)) (mp1 h (mp1 a bN)) (mp1 i (mp1 a bN)) (mp1 j (mp1 a bN)) (mp1 k bN) = true ∧ ad2 (mp1 b bN) (mp1 c (mp1 a bN)) = mp2 b c (mp1 a bN) ∧ ad2 (mp1 f bN) (mp1 g (mp1 a bN)) = mp2 f g (mp1 a bN) := by
  obtain ⟨⟨ha, hb, hc, hd, he, hf, hg, hh, hi, hj, hk⟩, h0, h1⟩ := mayM_t hm
  have p0 := mp1_pt ha bE_pt
  have p1 := mp2_pt hb hc p0
  have p2 := mp1_pt hd p0
  have p3 := mp1_pt he p0
  have p4 := mp2_pt hf hg p0
  have p5 := mp1_pt hh p0
  have p6 := mp1_pt hi p0
  have p7 := mp1_pt hj p0
  have p8 := mp1_pt hk bE_pt
  refine ⟨fun n hn => ?_, mprM_of (fun n hn => ?_) (mp1_bN ha h0) (mp1_bN hk h1), mp2_ad hb hc p0, mp2_ad hf hg p0⟩
  all_goals simp only [List.mem_cons, List.not_mem_nil, or_false] at hn
  · rcases hn with rfl | rfl | rfl | rfl | rfl | rfl | rfl | rfl | rfl
    · exact pt_lt p0
    · exact pt_lt p1
    · exact pt_lt p2
    · exact pt_lt p3
    · exact pt_lt p4
    · exact pt_lt p5
    · exact pt_lt p6
    · exact pt_lt p7
    · exact pt_lt p8
  · rcases hn with rfl | rfl | rfl | rfl | rfl | rfl | rfl | rfl | rfl
    · exact p0.dec.1
    · exact p1.dec.1
    · exact p2.dec.1
    · exact p3.dec.1
    · exact p4.dec.1
    · exact p5.dec.1
    · exact p6.dec.1
    · exact p7.dec.1
    · exact p8.dec.1

noncomputable def sMintPublicTF : List D → Option (List Bool × V)
  | [.n a, .n b, .n c, .n d, .n e, .n f, .n g, .n h, .n i, .n j, .n k] => some ([mayM a b c d e f g h i j k], vbool' true)
  | _ => none
noncomputable def sMintPublicT : FSpec := spec [tmnt] sMintPublicTF
noncomputable abbrev tabMintPublicT : List (FuncId × FSpec) := [(4, sHMPubT), (5, sHMMay), (6, sRMMay), (8, sHMBytT), (9, sHMRead), (10, sRMPub), (11, sHMPar), (12, sRMForm), (7, sKnown13)]
set_option maxRecDepth 100000 in
theorem tabokMintPublicT : TabOK Tryz.prog (tabOf tabMintPublicT) := (.cons ok_HMPubT (.cons ok_HMMay (.cons ok_RMMay (.cons ok_HMBytT (.cons ok_HMRead (.cons ok_RMPub (.cons ok_HMPar (.cons ok_RMForm (.cons ok_Known13 .nil)))))))))
noncomputable abbrev ilMintPublicT : List (FuncId × Func) := []
set_option maxRecDepth 100000 in
theorem ilokMintPublicT : IlOK Tryz.prog (ilTab ilMintPublicT) := IlOK.nil
set_option maxRecDepth 100000 in
theorem ok_MintPublicT : FnOK Tryz.prog 3 sMintPublicT := by
  refine fn_flat (cx := mkcf false false tabMintPublicT ilMintPublicT []) (c := bodyOf Tryz.f3) Tryz.func3 (by kernel_rfl) (by kernel_rfl) rfl ?_
  intro ds chk v vs hF ht he hr base
  unfold sMintPublicTF at hF
  split at hF
  · rename_i a b c d e f g h i j k
    cases hF
    have hvs : vs = [vmnt a b c d e f g h i j k] := by simp only [encA, encV, encP, encL, Option.some.injEq] at he; exact he.symm
    subst hvs
    have hm : mayM a b c d e f g h i j k = true := ht _ (by simp)
    have hev : evS (mkcf false false tabMintPublicT ilMintPublicT []) 400 (bodyOf Tryz.f3) ⟨t0 Tryz.f3 [vmnt a b c d e f g h i j k], []⟩ (kres (mkcf false false tabMintPublicT ilMintPublicT []) Tryz.f3 base) = pubTree (mayM a b c d e f g h i j k) (mprM (mp1 a bN) (mp2 b c (mp1 a bN)) (mp1 d (mp1 a bN)) (mp1 e (mp1 a bN)) (mp2 f g (mp1 a bN)) (mp1 h (mp1 a bN)) (mp1 i (mp1 a bN)) (mp1 j (mp1 a bN)) (mp1 k bN)) (allB [decide (mp1 a bN = mp1 a bN), decide (mp2 b c (mp1 a bN) = ad2 (mp1 b bN) (mp1 c (mp1 a bN))), decide (mp1 d (mp1 a bN) = mp1 d (mp1 a bN)), decide (mp1 e (mp1 a bN) = mp1 e (mp1 a bN)), decide (mp2 f g (mp1 a bN) = ad2 (mp1 f bN) (mp1 g (mp1 a bN))), decide (mp1 h (mp1 a bN) = mp1 h (mp1 a bN)), decide (mp1 i (mp1 a bN) = mp1 i (mp1 a bN)), decide (mp1 j (mp1 a bN) = mp1 j (mp1 a bN)), decide (mp1 k bN = mp1 k bN)]) (decide (rdE (List.take 288 (List.drop 0 (frmL (mp1 a bN) (mp2 b c (mp1 a bN)) (mp1 d (mp1 a bN)) (mp1 e (mp1 a bN)) (mp2 f g (mp1 a bN)) (mp1 h (mp1 a bN)) (mp1 i (mp1 a bN)) (mp1 j (mp1 a bN)) (mp1 k bN)))) = 0)) (allB [decide (mp1 a bN = rdN (List.take 288 (List.drop 0 (frmL (mp1 a bN) (mp2 b c (mp1 a bN)) (mp1 d (mp1 a bN)) (mp1 e (mp1 a bN)) (mp2 f g (mp1 a bN)) (mp1 h (mp1 a bN)) (mp1 i (mp1 a bN)) (mp1 j (mp1 a bN)) (mp1 k bN)))) 0), decide (mp2 b c (mp1 a bN) = rdN (List.take 288 (List.drop 0 (frmL (mp1 a bN) (mp2 b c (mp1 a bN)) (mp1 d (mp1 a bN)) (mp1 e (mp1 a bN)) (mp2 f g (mp1 a bN)) (mp1 h (mp1 a bN)) (mp1 i (mp1 a bN)) (mp1 j (mp1 a bN)) (mp1 k bN)))) 1), decide (mp1 d (mp1 a bN) = rdN (List.take 288 (List.drop 0 (frmL (mp1 a bN) (mp2 b c (mp1 a bN)) (mp1 d (mp1 a bN)) (mp1 e (mp1 a bN)) (mp2 f g (mp1 a bN)) (mp1 h (mp1 a bN)) (mp1 i (mp1 a bN)) (mp1 j (mp1 a bN)) (mp1 k bN)))) 2), decide (mp1 e (mp1 a bN) = rdN (List.take 288 (List.drop 0 (frmL (mp1 a bN) (mp2 b c (mp1 a bN)) (mp1 d (mp1 a bN)) (mp1 e (mp1 a bN)) (mp2 f g (mp1 a bN)) (mp1 h (mp1 a bN)) (mp1 i (mp1 a bN)) (mp1 j (mp1 a bN)) (mp1 k bN)))) 3), decide (mp2 f g (mp1 a bN) = rdN (List.take 288 (List.drop 0 (frmL (mp1 a bN) (mp2 b c (mp1 a bN)) (mp1 d (mp1 a bN)) (mp1 e (mp1 a bN)) (mp2 f g (mp1 a bN)) (mp1 h (mp1 a bN)) (mp1 i (mp1 a bN)) (mp1 j (mp1 a bN)) (mp1 k bN)))) 4), decide (mp1 h (mp1 a bN) = rdN (List.take 288 (List.drop 0 (frmL (mp1 a bN) (mp2 b c (mp1 a bN)) (mp1 d (mp1 a bN)) (mp1 e (mp1 a bN)) (mp2 f g (mp1 a bN)) (mp1 h (mp1 a bN)) (mp1 i (mp1 a bN)) (mp1 j (mp1 a bN)) (mp1 k bN)))) 5), decide (mp1 i (mp1 a bN) = rdN (List.take 288 (List.drop 0 (frmL (mp1 a bN) (mp2 b c (mp1 a bN)) (mp1 d (mp1 a bN)) (mp1 e (mp1 a bN)) (mp2 f g (mp1 a bN)) (mp1 h (mp1 a bN)) (mp1 i (mp1 a bN)) (mp1 j (mp1 a bN)) (mp1 k bN)))) 6), decide (mp1 j (mp1 a bN) = rdN (List.take 288 (List.drop 0 (frmL (mp1 a bN) (mp2 b c (mp1 a bN)) (mp1 d (mp1 a bN)) (mp1 e (mp1 a bN)) (mp2 f g (mp1 a bN)) (mp1 h (mp1 a bN)) (mp1 i (mp1 a bN)) (mp1 j (mp1 a bN)) (mp1 k bN)))) 7), decide (mp1 k bN = rdN (List.take 288 (List.drop 0 (frmL (mp1 a bN) (mp2 b c (mp1 a bN)) (mp1 d (mp1 a bN)) (mp1 e (mp1 a bN)) (mp2 f g (mp1 a bN)) (mp1 h (mp1 a bN)) (mp1 i (mp1 a bN)) (mp1 j (mp1 a bN)) (mp1 k bN)))) 8)]) (decide ((toStr (List.take 288 (List.drop 0 (frmL (mp1 a bN) (mp2 b c (mp1 a bN)) (mp1 d (mp1 a bN)) (mp1 e (mp1 a bN)) (mp2 f g (mp1 a bN)) (mp1 h (mp1 a bN)) (mp1 i (mp1 a bN)) (mp1 j (mp1 a bN)) (mp1 k bN))))).toList = (toStr (List.take 288 (List.drop 0 (frmL (mp1 a bN) (mp2 b c (mp1 a bN)) (mp1 d (mp1 a bN)) (mp1 e (mp1 a bN)) (mp2 f g (mp1 a bN)) (mp1 h (mp1 a bN)) (mp1 i (mp1 a bN)) (mp1 j (mp1 a bN)) (mp1 k bN))))).toList)) := by kernel_rfl
    obtain ⟨hl, hp, h1, h2⟩ := pub_eqs hm
    obtain ⟨r, r0, r1, r2, r3, r4, r5, r6, r7, r8⟩ := frm_rd hl hp
    rw [frm_take, h1, h2, r, r0, r1, r2, r3, r4, r5, r6, r7, r8, hm, hp] at hev
    exact runs_evS (mkokf (sy := false) (rw := false) tabokMintPublicT ilokMintPublicT JsOK.nil) (n := 400) (bs0 := []) (hev.trans (by simp only [eq_self, decide_true]; rfl)) (VEnt.refl _) trivial
  · cases hF

noncomputable def sMintPublicFF : List D → Option (List Bool × V)
  | [.n a, .n b, .n c, .n d, .n e, .n f, .n g, .n h, .n i, .n j, .n k] => some ([!mayM a b c d e f g h i j k], vbool' true)
  | _ => none
noncomputable def sMintPublicF : FSpec := spec [tmnt] sMintPublicFF
noncomputable abbrev tabMintPublicF : List (FuncId × FSpec) := [(4, sHMPubF), (5, sHMMay), (6, sRMMay), (7, sKnown13)]
set_option maxRecDepth 100000 in
theorem tabokMintPublicF : TabOK Tryz.prog (tabOf tabMintPublicF) := (.cons ok_HMPubF (.cons ok_HMMay (.cons ok_RMMay (.cons ok_Known13 .nil))))
noncomputable abbrev ilMintPublicF : List (FuncId × Func) := []
set_option maxRecDepth 100000 in
theorem ilokMintPublicF : IlOK Tryz.prog (ilTab ilMintPublicF) := IlOK.nil
set_option maxRecDepth 100000 in
theorem ok_MintPublicF : FnOK Tryz.prog 3 sMintPublicF := by
  refine fn_flat (cx := mkcf false false tabMintPublicF ilMintPublicF []) (c := bodyOf Tryz.f3) Tryz.func3 (by kernel_rfl) (by kernel_rfl) rfl ?_
  intro ds chk v vs hF ht he hr base
  unfold sMintPublicFF at hF
  split at hF
  · rename_i a b c d e f g h i j k
    cases hF
    have hvs : vs = [vmnt a b c d e f g h i j k] := by simp only [encA, encV, encP, encL, Option.some.injEq] at he; exact he.symm
    subst hvs
    have hm : mayM a b c d e f g h i j k = false := not_f (ht _ (by simp))
    have hev : evS (mkcf false false tabMintPublicF ilMintPublicF []) 400 (bodyOf Tryz.f3) ⟨t0 Tryz.f3 [vmnt a b c d e f g h i j k], []⟩ (kres (mkcf false false tabMintPublicF ilMintPublicF []) Tryz.f3 base) = chks [!mayM a b c d e f g h i j k] (bif !(mayM a b c d e f g h i j k == mayM a b c d e f g h i j k) then outF13 else bif !mayM a b c d e f g h i j k then outT13 else .fail 2) := by kernel_rfl
    rw [hm] at hev
    exact runs_evS (mkokf (sy := false) (rw := false) tabokMintPublicF ilokMintPublicF JsOK.nil) (n := 400) (bs0 := []) hev (VEnt.refl _) trivial
  · cases hF

noncomputable def sMintPublicAF : List D → Option (List Bool × V)
  | [.n _, .n _, .n _, .n _, .n _, .n _, .n _, .n _, .n _, .n _, .n _] => some ([], vbool' true)
  | _ => none
set_option maxRecDepth 100000 in
theorem ok_MintPublic : FnOK Tryz.prog 3 (spec [tmnt] sMintPublicAF) := by
  refine spec_or ok_MintPublicT ok_MintPublicF fun ds c v h _ => ?_
  unfold sMintPublicAF at h
  split at h
  · rename_i a b c d e f g h i j k
    cases h
    cases hm : mayM a b c d e f g h i j k with
    | true => exact .inl ⟨_, rfl, allT1 hm⟩
    | false => exact .inr ⟨_, rfl, allT1 (by rw [hm]; rfl)⟩
  · cases h
end Go.Proofs.YteohgdpkdbckoaaGreat
