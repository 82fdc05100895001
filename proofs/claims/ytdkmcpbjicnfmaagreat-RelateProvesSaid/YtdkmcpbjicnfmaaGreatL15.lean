/-
  Contracts of relations: are numbers, scalars, points right?
-/
import Derived.Test.YtdkmcpbjicnfmaaGreatL14
set_option maxRecDepth 100000
namespace Go.Proofs.YtdkmcpbjicnfmaaGreat
open Go Vx Go.RowKit

theorem nat_i {n : Nat} (h : n < 9223372036854775808) : okK .i64 ((n : Nat) : Int) = true := okI (by omega) (by omega)
theorem dec_nn (j : Nat) : decide ((0 : Int) ≤ (j : Int)) = true := by rw [decide_eq_true_iff]; omega
theorem dec_lt {j n : Nat} (h : j < n) : decide (((j : Nat) : Int) < ((n : Nat) : Int)) = true := by rw [decide_eq_true_iff]; omega
theorem dec_self_lt (n : Nat) : decide (((n : Nat) : Int) < ((n : Nat) : Int)) = false := decide_eq_false (by omega)
theorem max_lt {n : Nat} (h : n ≤ maxLen) : n < 9223372036854775808 := Nat.lt_of_le_of_lt h (by decide)
theorem eqs_len {x : List (List D)} (h : ∀ (i : Nat) (e : List D), x[i]? = some e → rngTs [.pk .u8 8 32, .sl [.int .i64, .pk .u8 8 32]] e) (j : Nat) : (eqP (x.getD j [])).length < 9223372036854775808 := by
 rw [List.getD_eq_getElem?_getD]
 cases hj : x[j]? with
 | none => exact Nat.zero_lt_succ _
 | some e => exact max_lt (h j e hj).2.1.1
def jk (n : Nat) : List V := List.replicate n .junk
def stS1 (x : List (List D)) (i : Int) : St := ⟨jk 2 ++ [.one (.bool false), .junk, .junk, vscs x, vi64 (x.length : Nat), vi64 i] ++ jk 7, []⟩
def stS2 (x : List (List D)) (i : Int) : St := ⟨[vscs x, .junk, .one (.bool false), vi64 i] ++ jk 12, []⟩
def stRz (n : Int) : St := ⟨jk 2 ++ [vi64 n] ++ jk 3 ++ [.one (.bool false)] ++ jk 25 ++ [undefV, undefV, undefV] ++ jk 25, []⟩
def stRo (x : List (List D)) (n i : Int) : St := ⟨jk 2 ++ [vi64 n] ++ jk 3 ++ [.one (.bool false)] ++ jk 25 ++ [veqs x, vi64 (x.length : Nat), vi64 i] ++ jk 25, []⟩
def stRi (x : List (List D)) (n i : Int) (p : List (List D)) (j : Int) : St := ⟨jk 2 ++ [vi64 n] ++ jk 3 ++ [.one (.bool false)] ++ jk 25 ++ [veqs x, vi64 (x.length : Nat), vi64 i] ++ jk 8 ++ [.one (.rd [.int .i64, .pk .u8 8 32] p), vi64 (p.length : Nat), vi64 j] ++ jk 14, []⟩
def stSz (x : List (List D)) (n : Int) : St := ⟨[.junk, veqs x, vi64 n] ++ jk 3 ++ [.one (.bool false), undefV] ++ jk 68, []⟩
def stSo (x : List (List D)) (n i : Int) : St := ⟨[.junk, veqs x, vi64 n] ++ jk 3 ++ [.one (.bool false), vi64 i] ++ jk 68, []⟩
def stSi (x : List (List D)) (n i j : Int) : St := ⟨[.junk, veqs x, vi64 n] ++ jk 3 ++ [.one (.bool false), vi64 i, vi64 j] ++ jk 67, []⟩
def stPo (x : List (List D)) (i : Int) : St := ⟨jk 2 ++ [.one (.bool false)] ++ jk 4 ++ [veqs x, vi64 (x.length : Nat), vi64 i] ++ jk 20, []⟩
def stPi (x : List (List D)) (i : Int) (p : List (List D)) (j : Int) : St := ⟨jk 2 ++ [.one (.bool false)] ++ jk 4 ++ [veqs x, vi64 (x.length : Nat), vi64 i] ++ jk 8 ++ [.one (.rd [.int .i64, .pk .u8 8 32] p), vi64 (p.length : Nat), vi64 j] ++ jk 9, []⟩
def stQo (x : List (List D)) (i : Int) : St := ⟨[veqs x, .junk, .one (.bool false), vi64 i] ++ jk 35, []⟩
def stQi (x : List (List D)) (i j : Int) : St := ⟨[veqs x, .junk, .one (.bool false), vi64 i, vi64 j] ++ jk 34, []⟩

noncomputable def sGScalarsF : List D → Option (List Bool × V)
 | [.l x] => some ([], vbool' (allSc x))
 | _ => none
noncomputable def sGScalars : FSpec := spec [tscs] sGScalarsF
noncomputable abbrev tabGScalars : List (FuncId × FSpec) := [(58, sAIsScalar)]
theorem tabokGScalars : TabOK Tryz.prog (tabOf tabGScalars) := (.cons ok_AIsScalar .nil)
noncomputable abbrev cGScalars : Cx := mkcf true false tabGScalars [] []
theorem oGScalars : Ok cGScalars := mkokf (sy := true) (rw := false) tabokGScalars IlOK.nil JsOK.nil
theorem ok_GScalars : FnOK Tryz.prog 78 sGScalars := by
 refine fn_flat (cx := mkcf true false tabGScalars [] []) (c := bodyOf Tryz.f78) Tryz.func78 (by kernel_rfl) (by kernel_rfl) rfl ?_
 intro ds chk v vs hF ht he hr base
 unfold sGScalarsF at hF
 split at hF
 · rename_i x
   cases hF
   have hvs : vs = [vscs x] := by simp only [encA, encV, encP, encL, Option.some.injEq] at he; exact he.symm
   subst hvs
   obtain ⟨hrng, _⟩ := hr
   have hlx := nat_i (max_lt hrng.1)
   have h0 : evLS cGScalars 100 ((items (bodyOf Tryz.f78)).take 2) ⟨t0 Tryz.f78 [vscs x], []⟩ (kfg 0 [2, 5, 6, 7] [] 0) = chks [okK .i64 (x.length : Nat)] (.done .normal (stS1 x 0)) := by kernel_rfl
   rw [chks_true (by first | exact allT0 | exact allT1 hlx)] at h0
   refine Runs.items _ _ _ (RunsL.preS oGScalars (k := 2) h0 ?_)
   refine RunsL.loop (id := 0) (by kernel_rfl) (fun m s => ∃ j : Nat, s = stS1 x (j : Int) ∧ j + m = x.length ∧ allSc x = allSc (x.drop j)) x.length ⟨0, rfl, Nat.zero_add _, rfl⟩ ?_
   rintro m s ⟨j, rfl, hj, hg⟩
   have hev : ∀ i : Int, evLS cGScalars 100 (items (loopAt (bodyOf Tryz.f78) 2)) (stS1 x i) (kfg 0 [2, 5, 6, 7] [] 0) =
    chks [] (bif decide (i < (x.length : Nat)) then chks [decide (0 ≤ i), decide (i < (x.length : Nat))] (bif !okS (eqA (x.getD i.toNat [])) then .done .ret (stS1 x i)
     else chks [okK .i64 (i + 1)] (.done .normal (stS1 x (i + 1)))) else .done (.exit 0) (stS1 x i)) := by intro i; kernel_rfl
   have h1 := hev (j : Int)
   rw [Int.toNat_natCast, chks_true (by first | exact allT0 | exact allT1 hlx)] at h1
   cases m with
   | zero =>
     have hj : j = x.length := hj
     subst hj
     rw [dec_self_lt, cond_false] at h1
     rw [List.drop_length] at hg
     rw [hg]
     refine RunsL.allS oGScalars h1 ?_
     exact runsL_evS oGScalars (n := 100) (bs0 := []) (by kernel_rfl) (VEnt.refl _) trivial
   | succ m =>
     have hjl : j < x.length := by omega
     have hx := max_lt hrng.1
     rw [dec_nn, dec_lt hjl, cond_true, chks_true (allTc rfl (allT1 rfl)), chks_true (allT1 (show okK .i64 ((j : Int) + 1) = true from okI (by omega) (by omega)))] at h1
     rw [drop_cons hjl, allSc] at hg
     cases hb : (!okS (eqA (x.getD j []))) with
     | true =>
       rw [hb, cond_true] at h1 hg
       rw [hg]
       exact RunsL.allS oGScalars h1 ⟨_, [], (by kernel_rfl), VEnt.refl _, trivial⟩
     | false =>
       rw [hb, cond_false] at h1 hg
       exact RunsL.allS oGScalars h1 ⟨m, Nat.lt_succ_self m, j + 1, rfl, by omega, hg⟩
 · cases hF

noncomputable def sRScalarsF : List D → Option (List Bool × V)
 | [.l x] => some ([], vbool' (allSc x))
 | _ => none
noncomputable def sRScalars : FSpec := spec [tscs] sRScalarsF
noncomputable abbrev tabRScalars : List (FuncId × FSpec) := [(65, sSIsScalar)]
theorem tabokRScalars : TabOK Tryz.prog (tabOf tabRScalars) := (.cons ok_SIsScalar .nil)
noncomputable abbrev cRScalars : Cx := mkcf true false tabRScalars [] []
theorem oRScalars : Ok cRScalars := mkokf (sy := true) (rw := false) tabokRScalars IlOK.nil JsOK.nil
theorem ok_RScalars : FnOK Tryz.prog 38 sRScalars := by
 refine fn_flat (cx := mkcf true false tabRScalars [] []) (c := bodyOf Tryz.f38) Tryz.func38 (by kernel_rfl) (by kernel_rfl) rfl ?_
 intro ds chk v vs hF ht he hr base
 unfold sRScalarsF at hF
 split at hF
 · rename_i x
   cases hF
   have hvs : vs = [vscs x] := by simp only [encA, encV, encP, encL, Option.some.injEq] at he; exact he.symm
   subst hvs
   obtain ⟨hrng, _⟩ := hr
   have hlx := nat_i (max_lt hrng.1)
   have h0 : evLS cRScalars 100 ((items (bodyOf Tryz.f38)).take 2) ⟨t0 Tryz.f38 [vscs x], []⟩ (kfg 0 [0, 2, 3] [] 0) = chks [] (.done .normal (stS2 x 0)) := by kernel_rfl
   rw [chks_true (by first | exact allT0 | exact allT1 hlx)] at h0
   refine Runs.items _ _ _ (RunsL.preS oRScalars (k := 2) h0 ?_)
   refine RunsL.loop (id := 0) (by kernel_rfl) (fun m s => ∃ j : Nat, s = stS2 x (j : Int) ∧ j + m = x.length ∧ allSc x = allSc (x.drop j)) x.length ⟨0, rfl, Nat.zero_add _, rfl⟩ ?_
   rintro m s ⟨j, rfl, hj, hg⟩
   have hev : ∀ i : Int, evLS cRScalars 100 (items (loopAt (bodyOf Tryz.f38) 2)) (stS2 x i) (kfg 0 [0, 2, 3] [] 0) =
    chks [okK .i64 (x.length : Nat)] (bif decide (i < (x.length : Nat)) then chks [decide (0 ≤ i), decide (i < (x.length : Nat))] (bif !okS (eqA (x.getD i.toNat [])) then .done .ret (stS2 x i)
     else chks [okK .i64 (i + 1)] (.done .normal (stS2 x (i + 1)))) else .done (.exit 0) (stS2 x i)) := by intro i; kernel_rfl
   have h1 := hev (j : Int)
   rw [Int.toNat_natCast, chks_true (by first | exact allT0 | exact allT1 hlx)] at h1
   cases m with
   | zero =>
     have hj : j = x.length := hj
     subst hj
     rw [dec_self_lt, cond_false] at h1
     rw [List.drop_length] at hg
     rw [hg]
     refine RunsL.allS oRScalars h1 ?_
     exact runsL_evS oRScalars (n := 100) (bs0 := []) (by kernel_rfl) (VEnt.refl _) trivial
   | succ m =>
     have hjl : j < x.length := by omega
     have hx := max_lt hrng.1
     rw [dec_nn, dec_lt hjl, cond_true, chks_true (allTc rfl (allT1 rfl)), chks_true (allT1 (show okK .i64 ((j : Int) + 1) = true from okI (by omega) (by omega)))] at h1
     rw [drop_cons hjl, allSc] at hg
     cases hb : (!okS (eqA (x.getD j []))) with
     | true =>
       rw [hb, cond_true] at h1 hg
       rw [hg]
       exact RunsL.allS oRScalars h1 ⟨_, [], (by kernel_rfl), VEnt.refl _, trivial⟩
     | false =>
       rw [hb, cond_false] at h1 hg
       exact RunsL.allS oRScalars h1 ⟨m, Nat.lt_succ_self m, j + 1, rfl, by omega, hg⟩
 · cases hF

noncomputable def sGRightF : List D → Option (List Bool × V)
 | [.s s, .l x, .i n] => some ([decide (s.size < 9223372036854775808)], vbool' (rgtB s.size x n))
 | _ => none
noncomputable def sGRight : FSpec := spec [tstr, teqs, ti64] sGRightF
noncomputable abbrev tabGRight : List (FuncId × FSpec) := []
theorem tabokGRight : TabOK Tryz.prog (tabOf tabGRight) := TabOK.nil
noncomputable abbrev cGRight : Cx := mkcf true false tabGRight [] []
theorem oGRight : Ok cGRight := mkokf (sy := true) (rw := false) tabokGRight IlOK.nil JsOK.nil
theorem ok_GRight : FnOK Tryz.prog 77 sGRight := by
 refine fn_flat (cx := mkcf true false tabGRight [] []) (c := bodyOf Tryz.f77) Tryz.func77 (by kernel_rfl) (by kernel_rfl) rfl ?_
 intro ds chk v vs hF ht he hr base
 unfold sGRightF at hF
 split at hF
 · rename_i s x n
   cases hF
   have hvs : vs = [vstr s, veqs x, vi64 n] := by simp only [encA, encV, encP, encL, Option.some.injEq] at he; exact he.symm
   subst hvs
   obtain ⟨_, hrng, _⟩ := hr
   have hs : s.size < 9223372036854775808 := of_decide_eq_true (ht _ (by simp))
   have hx := max_lt hrng.1
   have hlx := nat_i hx
   have hpl := eqs_len hrng.2
   have ct : ∀ {j : Nat}, j < x.length → okK .i64 ((j : Int) + 1) = true := fun {j} h => okI (by omega) (by omega)
   have h0 : evLS cGRight 100 ((items (bodyOf Tryz.f77)).take 4) ⟨t0 Tryz.f77 [vstr s, veqs x, vi64 n], []⟩ (kfg 0 [2, 6, 32, 33, 34] [] 0) = chks [okK .i64 (s.size : Nat)] (bif decide ((1000 : Int) < (s.size : Nat)) then .done .ret (stRz n) else chks [okK .i64 (x.length : Nat)] (bif decide (((x.length : Nat) : Int) < 1) then .done .ret (stRz n) else chks [okK .i64 (x.length : Nat)] (bif decide ((16 : Int) < (x.length : Nat)) then .done .ret (stRz n) else bif decide (n < 1) then .done .ret (stRz n) else bif decide ((32 : Int) < n) then .done .ret (stRz n) else chks [okK .i64 (x.length : Nat)] (.done .normal (stRo x n 0))))) := by kernel_rfl
   rw [chks_true (allT1 (nat_i hs)), chks_true (allT1 hlx), chks_true (allT1 hlx)] at h0
   try rw [chks_true (allT1 hlx)] at h0
   have c3 : decide (((x.length : Nat) : Int) < 1) = decide (((x.length : Nat) : Int) < 1) := by first | rfl | (rw [decide_eq_decide]; omega)
   have c5 : decide (n < 1) = decide (n < 1) := by first | rfl | (rw [decide_eq_decide]; omega)
   rw [c3, c5] at h0
   clear c3 c5
   have hF : rgtB s.size x n = bif decide ((1000 : Int) < (s.size : Nat)) then false else bif decide (((x.length : Nat) : Int) < 1) then false else bif decide ((16 : Int) < (x.length : Nat)) then false else bif decide (n < 1) then false else
    bif decide ((32 : Int) < n) then false else goodEq n x := rfl
   rw [hF]
   clear hF
   cases k0 : decide ((1000 : Int) < (s.size : Nat)) with
   | true =>
     rw [k0] at h0
     exact Runs.items _ _ _ (RunsL.preS oGRight (k := 4) h0 ⟨_, [], (by kernel_rfl), VEnt.refl _, trivial⟩)
   | false =>
   rw [k0] at h0
   cases k1 : decide (((x.length : Nat) : Int) < 1) with
   | true =>
     rw [k1] at h0
     exact Runs.items _ _ _ (RunsL.preS oGRight (k := 4) h0 ⟨_, [], (by kernel_rfl), VEnt.refl _, trivial⟩)
   | false =>
   rw [k1] at h0
   cases k2 : decide ((16 : Int) < (x.length : Nat)) with
   | true =>
     rw [k2] at h0
     exact Runs.items _ _ _ (RunsL.preS oGRight (k := 4) h0 ⟨_, [], (by kernel_rfl), VEnt.refl _, trivial⟩)
   | false =>
   rw [k2] at h0
   cases k3 : decide (n < 1) with
   | true =>
     rw [k3] at h0
     exact Runs.items _ _ _ (RunsL.preS oGRight (k := 4) h0 ⟨_, [], (by kernel_rfl), VEnt.refl _, trivial⟩)
   | false =>
   rw [k3] at h0
   cases k4 : decide ((32 : Int) < n) with
   | true =>
     rw [k4] at h0
     exact Runs.items _ _ _ (RunsL.preS oGRight (k := 4) h0 ⟨_, [], (by kernel_rfl), VEnt.refl _, trivial⟩)
   | false =>
   rw [k4] at h0
   refine Runs.items _ _ _ (RunsL.preS oGRight (k := 4) h0 ?_)
   refine RunsL.loop (id := 0) (by kernel_rfl) (fun m s => ∃ j : Nat, s = (stRo x n (j : Int)) ∧ j + m = x.length ∧ goodEq n x = goodEq n (x.drop j)) x.length ⟨0, rfl, Nat.zero_add _, rfl⟩ ?_
   rintro m s ⟨j, rfl, hj, hg⟩
   have hhd : ∀ i : Int, evLS cGRight 100 ((items (loopAt (bodyOf Tryz.f77) 4)).take 2) (stRo x n i) (kfg 0 [2, 6, 32, 33, 34] [] 0) = chks [] (bif decide (i < (x.length : Nat)) then .done .normal (stRo x n i) else .done (.exit 0) (stRo x n i)) := by intro i; kernel_rfl
   have h1 := hhd (j : Int)
   rw [chks_true (by first | exact allT0 | exact allT1 hlx)] at h1
   cases m with
   | zero =>
     have hj : j = x.length := hj
     subst hj
     rw [dec_self_lt, cond_false] at h1
     rw [List.drop_length] at hg
     rw [hg]
     refine RunsL.preS oGRight (k := 2) h1 ?_
     exact runsL_evS oGRight (n := 100) (bs0 := []) (by kernel_rfl) (VEnt.refl _) trivial
   | succ m =>
     have hjl : j < x.length := by omega
     rw [dec_lt hjl, cond_true] at h1
     have hlp := nat_i (hpl j)
     have hp := hpl j
     have d0 := dec_nn j
     have d1 := dec_lt hjl
     refine RunsL.preS oGRight (k := 2) h1 (RunsL.blkAt (id := 1) (by kernel_rfl) ?_)
     have hbk : ∀ i : Int, evLS cGRight 100 ((items (blkAt (loopAt (bodyOf Tryz.f77) 4) 2)).take 4) (stRo x n i) (kfg 0 [2, 6, 32, 33, 34, 43, 44, 45] [] 0) = chks [decide (0 ≤ i), decide (i < (x.length : Nat)), okK .i64 ((eqP (x.getD i.toNat [])).length : Nat)] (bif decide ((16 : Int) < ((eqP (x.getD i.toNat [])).length : Nat)) then .done .ret (stRo x n i) else chks [okK .i64 ((eqP (x.getD i.toNat [])).length : Nat)] (.done .normal (stRi x n i (eqP (x.getD i.toNat [])) 0))) := by intro i; kernel_rfl
     have h2 := hbk (j : Int)
     rw [Int.toNat_natCast, d0, d1] at h2
     try rw [hlp] at h2
     rw [drop_cons hjl, goodEq] at hg
     cases hb : (decide ((16 : Int) < ((eqP (x.getD j [])).length : Nat))) with
     | true =>
       rw [hb] at h2 hg
       rw [hg]
       exact RunsL.preS oGRight (k := 4) h2 ⟨_, [], (by kernel_rfl), VEnt.refl _, trivial⟩
     | false =>
       rw [hb] at h2 hg
       refine RunsL.preS oGRight (k := 4) h2 ?_
       refine RunsL.loop (id := 2) (by kernel_rfl) (fun m' s => ∃ q : Nat, s = (stRi x n (j : Int) ((eqP (x.getD j []))) (q : Int)) ∧ q + m' = ((eqP (x.getD j []))).length ∧ goodPa n ((eqP (x.getD j []))) = goodPa n (((eqP (x.getD j []))).drop q)) ((eqP (x.getD j []))).length ⟨0, rfl, Nat.zero_add _, rfl⟩ ?_
       rintro m' s ⟨q, rfl, hq, hg2⟩
       have hin : ∀ (i : Int) (p : List (List D)) (q : Int), evLS cGRight 100 (items (loopAt (blkAt (loopAt (bodyOf Tryz.f77) 4) 2) 4)) (stRi x n i p q) (kfg 0 [2, 6, 32, 33, 34, 43, 44, 45] [] 0) = chks [] (bif decide (q < ((p).length : Nat)) then chks [decide (0 ≤ q), decide (q < ((p).length : Nat))] (bif decide (paS ((p).getD q.toNat []) < 0) then .done .ret (stRi x n i p q) else chks [] (bif decide (n ≤ paS ((p).getD q.toNat [])) then .done .ret (stRi x n i p q) else chks [okK .i64 (q + 1)] (.done .normal (stRi x n i p (q + 1))))) else .done (.exit 2) (stRi x n i p q)) := by intro i p q; kernel_rfl
       have h3 := hin (j : Int) ((eqP (x.getD j []))) (q : Int)
       try rw [Int.toNat_natCast] at h3
       try rw [Int.toNat_natCast] at h3
       try rw [d0] at h3
       try rw [d1] at h3
       try rw [hlp] at h3
       cases m' with
       | zero =>
         have hq : q = ((eqP (x.getD j []))).length := hq
         subst hq
         rw [dec_self_lt] at h3
         rw [List.drop_length] at hg2
         have hg2 : goodPa n ((eqP (x.getD j []))) = true := hg2
         rw [hg2] at hg
         have hout : ∀ (i : Int) (p : List (List D)) (q : Int), evLS cGRight 100 ((items (blkAt (loopAt (bodyOf Tryz.f77) 4) 2)).drop 5) (stRi x n i p q) (kfg 0 [2, 6, 32, 33, 34] [] 0) = .done .normal (stRo x n i) := by intro i p q; kernel_rfl
         have htl : ∀ i : Int, evLS cGRight 100 ((items (loopAt (bodyOf Tryz.f77) 4)).drop 3) (stRo x n i) (kfg 0 [2, 6, 32, 33, 34] [] 0) = chks [okK .i64 (i + 1)] (.done .normal (stRo x n (i + 1))) := by intro i; kernel_rfl
         refine RunsL.allS oGRight h3 ?_
         refine RunsL.allS oGRight (hout (j : Int) ((eqP (x.getD j []))) _) ?_
         have h4 := htl (j : Int)
         rw [chks_true (allT1 (ct hjl))] at h4
         exact RunsL.allS oGRight h4 ⟨m, Nat.lt_succ_self m, j + 1, rfl, by omega, hg⟩
       | succ m' =>
         have hql : q < ((eqP (x.getD j []))).length := by omega
         rw [dec_lt hql, dec_nn q, show okK .i64 ((q : Int) + 1) = true from okI (by omega) (by omega)] at h3
         rw [drop_cons hql, goodPa] at hg2
         cases hc0 : (decide (paS (((eqP (x.getD j []))).getD q []) < 0)) with
         | true =>
           rw [hc0, cond_true] at h3 hg2
           rw [hg2, Bool.not_false, cond_true] at hg
           rw [hg]
           exact RunsL.allS oGRight h3 ⟨_, [], (by kernel_rfl), VEnt.refl _, trivial⟩
         | false =>
           rw [hc0, cond_false] at h3 hg2
           cases hc1 : (decide (n ≤ paS (((eqP (x.getD j []))).getD q []))) with
           | true =>
             rw [hc1, cond_true] at h3 hg2
             rw [hg2, Bool.not_false, cond_true] at hg
             rw [hg]
             exact RunsL.allS oGRight h3 ⟨_, [], (by kernel_rfl), VEnt.refl _, trivial⟩
           | false =>
             rw [hc1, cond_false] at h3 hg2
             exact RunsL.allS oGRight h3 ⟨m', Nat.lt_succ_self m', q + 1, rfl, by omega, hg2⟩
 · cases hF

noncomputable def sRRightF : List D → Option (List Bool × V)
 | [.s s, .l x, .i n] => some ([decide (s.size < 9223372036854775808)], vbool' (rgtB s.size x n))
 | _ => none
noncomputable def sRRight : FSpec := spec [tstr, teqs, ti64] sRRightF
noncomputable abbrev tabRRight : List (FuncId × FSpec) := []
theorem tabokRRight : TabOK Tryz.prog (tabOf tabRRight) := TabOK.nil
noncomputable abbrev cRRight : Cx := mkcf true false tabRRight [] []
theorem oRRight : Ok cRRight := mkokf (sy := true) (rw := false) tabokRRight IlOK.nil JsOK.nil
theorem ok_RRight : FnOK Tryz.prog 76 sRRight := by
 refine fn_flat (cx := mkcf true false tabRRight [] []) (c := bodyOf Tryz.f76) Tryz.func76 (by kernel_rfl) (by kernel_rfl) rfl ?_
 intro ds chk v vs hF ht he hr base
 unfold sRRightF at hF
 split at hF
 · rename_i s x n
   cases hF
   have hvs : vs = [vstr s, veqs x, vi64 n] := by simp only [encA, encV, encP, encL, Option.some.injEq] at he; exact he.symm
   subst hvs
   obtain ⟨_, hrng, _⟩ := hr
   have hs : s.size < 9223372036854775808 := of_decide_eq_true (ht _ (by simp))
   have hx := max_lt hrng.1
   have hlx := nat_i hx
   have hpl := eqs_len hrng.2
   have ct : ∀ {j : Nat}, j < x.length → okK .i64 ((j : Int) + 1) = true := fun {j} h => okI (by omega) (by omega)
   have h0 : evLS cRRight 100 ((items (bodyOf Tryz.f76)).take 4) ⟨t0 Tryz.f76 [vstr s, veqs x, vi64 n], []⟩ (kfg 0 [1, 2, 6, 7] [] 0) = chks [okK .i64 (s.size : Nat)] (bif decide ((1000 : Int) < (s.size : Nat)) then .done .ret (stSz x n) else chks [okK .i64 (x.length : Nat)] (bif decide (((x.length : Nat) : Int) = 0) then .done .ret (stSz x n) else chks [okK .i64 (x.length : Nat)] (bif decide ((16 : Int) < (x.length : Nat)) then .done .ret (stSz x n) else bif decide (n ≤ 0) then .done .ret (stSz x n) else bif decide ((32 : Int) < n) then .done .ret (stSz x n) else .done .normal (stSo x n 0)))) := by kernel_rfl
   rw [chks_true (allT1 (nat_i hs)), chks_true (allT1 hlx), chks_true (allT1 hlx)] at h0
   try rw [chks_true (allT1 hlx)] at h0
   have c3 : decide (((x.length : Nat) : Int) = 0) = decide (((x.length : Nat) : Int) < 1) := by first | rfl | (rw [decide_eq_decide]; omega)
   have c5 : decide (n ≤ 0) = decide (n < 1) := by first | rfl | (rw [decide_eq_decide]; omega)
   rw [c3, c5] at h0
   clear c3 c5
   have hF : rgtB s.size x n = bif decide ((1000 : Int) < (s.size : Nat)) then false else bif decide (((x.length : Nat) : Int) < 1) then false else bif decide ((16 : Int) < (x.length : Nat)) then false else bif decide (n < 1) then false else
    bif decide ((32 : Int) < n) then false else goodEq n x := rfl
   rw [hF]
   clear hF
   cases k0 : decide ((1000 : Int) < (s.size : Nat)) with
   | true =>
     rw [k0] at h0
     exact Runs.items _ _ _ (RunsL.preS oRRight (k := 4) h0 ⟨_, [], (by kernel_rfl), VEnt.refl _, trivial⟩)
   | false =>
   rw [k0] at h0
   cases k1 : decide (((x.length : Nat) : Int) < 1) with
   | true =>
     rw [k1] at h0
     exact Runs.items _ _ _ (RunsL.preS oRRight (k := 4) h0 ⟨_, [], (by kernel_rfl), VEnt.refl _, trivial⟩)
   | false =>
   rw [k1] at h0
   cases k2 : decide ((16 : Int) < (x.length : Nat)) with
   | true =>
     rw [k2] at h0
     exact Runs.items _ _ _ (RunsL.preS oRRight (k := 4) h0 ⟨_, [], (by kernel_rfl), VEnt.refl _, trivial⟩)
   | false =>
   rw [k2] at h0
   cases k3 : decide (n < 1) with
   | true =>
     rw [k3] at h0
     exact Runs.items _ _ _ (RunsL.preS oRRight (k := 4) h0 ⟨_, [], (by kernel_rfl), VEnt.refl _, trivial⟩)
   | false =>
   rw [k3] at h0
   cases k4 : decide ((32 : Int) < n) with
   | true =>
     rw [k4] at h0
     exact Runs.items _ _ _ (RunsL.preS oRRight (k := 4) h0 ⟨_, [], (by kernel_rfl), VEnt.refl _, trivial⟩)
   | false =>
   rw [k4] at h0
   refine Runs.items _ _ _ (RunsL.preS oRRight (k := 4) h0 ?_)
   refine RunsL.loop (id := 0) (by kernel_rfl) (fun m s => ∃ j : Nat, s = (stSo x n (j : Int)) ∧ j + m = x.length ∧ goodEq n x = goodEq n (x.drop j)) x.length ⟨0, rfl, Nat.zero_add _, rfl⟩ ?_
   rintro m s ⟨j, rfl, hj, hg⟩
   have hhd : ∀ i : Int, evLS cRRight 100 ((items (loopAt (bodyOf Tryz.f76) 4)).take 2) (stSo x n i) (kfg 0 [1, 2, 6, 7] [] 0) = chks [okK .i64 (x.length : Nat)] (bif decide (i < (x.length : Nat)) then .done .normal (stSo x n i) else .done (.exit 0) (stSo x n i)) := by intro i; kernel_rfl
   have h1 := hhd (j : Int)
   rw [chks_true (by first | exact allT0 | exact allT1 hlx)] at h1
   cases m with
   | zero =>
     have hj : j = x.length := hj
     subst hj
     rw [dec_self_lt, cond_false] at h1
     rw [List.drop_length] at hg
     rw [hg]
     refine RunsL.preS oRRight (k := 2) h1 ?_
     exact runsL_evS oRRight (n := 100) (bs0 := []) (by kernel_rfl) (VEnt.refl _) trivial
   | succ m =>
     have hjl : j < x.length := by omega
     rw [dec_lt hjl, cond_true] at h1
     have hlp := nat_i (hpl j)
     have hp := hpl j
     have d0 := dec_nn j
     have d1 := dec_lt hjl
     refine RunsL.preS oRRight (k := 2) h1 (RunsL.blkAt (id := 1) (by kernel_rfl) ?_)
     have hbk : ∀ i : Int, evLS cRRight 100 ((items (blkAt (loopAt (bodyOf Tryz.f76) 4) 2)).take 3) (stSo x n i) (kfg 0 [1, 2, 6, 7, 8] [] 0) = chks [decide (0 ≤ i), decide (i < (x.length : Nat)), okK .i64 ((eqP (x.getD i.toNat [])).length : Nat)] (bif decide ((16 : Int) < ((eqP (x.getD i.toNat [])).length : Nat)) then .done .ret (stSo x n i) else chks [] (.done .normal (stSi x n i 0))) := by intro i; kernel_rfl
     have h2 := hbk (j : Int)
     rw [Int.toNat_natCast, d0, d1] at h2
     try rw [hlp] at h2
     rw [drop_cons hjl, goodEq] at hg
     cases hb : (decide ((16 : Int) < ((eqP (x.getD j [])).length : Nat))) with
     | true =>
       rw [hb] at h2 hg
       rw [hg]
       exact RunsL.preS oRRight (k := 3) h2 ⟨_, [], (by kernel_rfl), VEnt.refl _, trivial⟩
     | false =>
       rw [hb] at h2 hg
       refine RunsL.preS oRRight (k := 3) h2 ?_
       refine RunsL.loop (id := 2) (by kernel_rfl) (fun m' s => ∃ q : Nat, s = (stSi x n (j : Int) (q : Int)) ∧ q + m' = ((eqP (x.getD j []))).length ∧ goodPa n ((eqP (x.getD j []))) = goodPa n (((eqP (x.getD j []))).drop q)) ((eqP (x.getD j []))).length ⟨0, rfl, Nat.zero_add _, rfl⟩ ?_
       rintro m' s ⟨q, rfl, hq, hg2⟩
       have hin : ∀ (i q : Int), evLS cRRight 100 (items (loopAt (blkAt (loopAt (bodyOf Tryz.f76) 4) 2) 3)) (stSi x n i q) (kfg 0 [1, 2, 6, 7, 8] [] 0) = chks [decide (0 ≤ i), decide (i < (x.length : Nat)), okK .i64 ((eqP (x.getD i.toNat [])).length : Nat)] (bif decide (q < (((eqP (x.getD i.toNat []))).length : Nat)) then chks [decide (0 ≤ i), decide (i < (x.length : Nat)), decide (0 ≤ q), decide (q < (((eqP (x.getD i.toNat []))).length : Nat))] (bif decide (paS (((eqP (x.getD i.toNat []))).getD q.toNat []) < 0) then .done .ret (stSi x n i q) else chks [decide (0 ≤ i), decide (i < (x.length : Nat)), decide (0 ≤ q), decide (q < (((eqP (x.getD i.toNat []))).length : Nat))] (bif decide (n ≤ paS (((eqP (x.getD i.toNat []))).getD q.toNat [])) then .done .ret (stSi x n i q) else chks [okK .i64 (q + 1)] (.done .normal (stSi x n i (q + 1))))) else .done (.exit 2) (stSi x n i q)) := by intro i q; kernel_rfl
       have h3 := hin (j : Int) (q : Int)
       try rw [Int.toNat_natCast] at h3
       try rw [Int.toNat_natCast] at h3
       try rw [d0] at h3
       try rw [d1] at h3
       try rw [hlp] at h3
       cases m' with
       | zero =>
         have hq : q = ((eqP (x.getD j []))).length := hq
         subst hq
         rw [dec_self_lt] at h3
         rw [List.drop_length] at hg2
         have hg2 : goodPa n ((eqP (x.getD j []))) = true := hg2
         rw [hg2] at hg
         have hout : ∀ (i q : Int), evLS cRRight 100 ((items (blkAt (loopAt (bodyOf Tryz.f76) 4) 2)).drop 4) (stSi x n i q) (kfg 0 [1, 2, 6, 7] [] 0) = .done .normal (stSo x n i) := by intro i q; kernel_rfl
         have htl : ∀ i : Int, evLS cRRight 100 ((items (loopAt (bodyOf Tryz.f76) 4)).drop 3) (stSo x n i) (kfg 0 [1, 2, 6, 7] [] 0) = chks [okK .i64 (i + 1)] (.done .normal (stSo x n (i + 1))) := by intro i; kernel_rfl
         refine RunsL.allS oRRight h3 ?_
         refine RunsL.allS oRRight (hout (j : Int) _) ?_
         have h4 := htl (j : Int)
         rw [chks_true (allT1 (ct hjl))] at h4
         exact RunsL.allS oRRight h4 ⟨m, Nat.lt_succ_self m, j + 1, rfl, by omega, hg⟩
       | succ m' =>
         have hql : q < ((eqP (x.getD j []))).length := by omega
         rw [dec_lt hql, dec_nn q, show okK .i64 ((q : Int) + 1) = true from okI (by omega) (by omega)] at h3
         rw [drop_cons hql, goodPa] at hg2
         cases hc0 : (decide (paS (((eqP (x.getD j []))).getD q []) < 0)) with
         | true =>
           rw [hc0, cond_true] at h3 hg2
           rw [hg2, Bool.not_false, cond_true] at hg
           rw [hg]
           exact RunsL.allS oRRight h3 ⟨_, [], (by kernel_rfl), VEnt.refl _, trivial⟩
         | false =>
           rw [hc0, cond_false] at h3 hg2
           cases hc1 : (decide (n ≤ paS (((eqP (x.getD j []))).getD q []))) with
           | true =>
             rw [hc1, cond_true] at h3 hg2
             rw [hg2, Bool.not_false, cond_true] at hg
             rw [hg]
             exact RunsL.allS oRRight h3 ⟨_, [], (by kernel_rfl), VEnt.refl _, trivial⟩
           | false =>
             rw [hc1, cond_false] at h3 hg2
             exact RunsL.allS oRRight h3 ⟨m', Nat.lt_succ_self m', q + 1, rfl, by omega, hg2⟩
 · cases hF

noncomputable def sGPointsF : List D → Option (List Bool × V)
 | [.l x] => some ([], vbool' (ptEq x))
 | _ => none
noncomputable def sGPoints : FSpec := spec [teqs] sGPointsF
noncomputable abbrev tabGPoints : List (FuncId × FSpec) := [(73, sAIsPoint)]
theorem tabokGPoints : TabOK Tryz.prog (tabOf tabGPoints) := (.cons ok_AIsPoint .nil)
noncomputable abbrev cGPoints : Cx := mkcf true false tabGPoints [] []
theorem oGPoints : Ok cGPoints := mkokf (sy := true) (rw := false) tabokGPoints IlOK.nil JsOK.nil
theorem ok_GPoints : FnOK Tryz.prog 79 sGPoints := by
 refine fn_flat (cx := mkcf true false tabGPoints [] []) (c := bodyOf Tryz.f79) Tryz.func79 (by kernel_rfl) (by kernel_rfl) rfl ?_
 intro ds chk v vs hF ht he hr base
 unfold sGPointsF at hF
 split at hF
 · rename_i x
   cases hF
   have hvs : vs = [veqs x] := by simp only [encA, encV, encP, encL, Option.some.injEq] at he; exact he.symm
   subst hvs
   obtain ⟨hrng, _⟩ := hr
   have hx := max_lt hrng.1
   have hlx := nat_i hx
   have hpl := eqs_len hrng.2
   have ct : ∀ {j : Nat}, j < x.length → okK .i64 ((j : Int) + 1) = true := fun {j} h => okI (by omega) (by omega)
   have h0 : evLS cGPoints 100 ((items (bodyOf Tryz.f79)).take 2) ⟨t0 Tryz.f79 [veqs x], []⟩ (kfg 0 [2, 7, 8, 9] [] 0) = chks [okK .i64 (x.length : Nat)] (.done .normal (stPo x 0)) := by kernel_rfl
   rw [chks_true (allT1 hlx)] at h0
   refine Runs.items _ _ _ (RunsL.preS oGPoints (k := 2) h0 ?_)
   refine RunsL.loop (id := 0) (by kernel_rfl) (fun m s => ∃ j : Nat, s = (stPo x (j : Int)) ∧ j + m = x.length ∧ ptEq x = ptEq (x.drop j)) x.length ⟨0, rfl, Nat.zero_add _, rfl⟩ ?_
   rintro m s ⟨j, rfl, hj, hg⟩
   have hhd : ∀ i : Int, evLS cGPoints 100 ((items (loopAt (bodyOf Tryz.f79) 2)).take 2) (stPo x i) (kfg 0 [2, 7, 8, 9] [] 0) = chks [] (bif decide (i < (x.length : Nat)) then .done .normal (stPo x i) else .done (.exit 0) (stPo x i)) := by intro i; kernel_rfl
   have h1 := hhd (j : Int)
   rw [chks_true (by first | exact allT0 | exact allT1 hlx)] at h1
   cases m with
   | zero =>
     have hj : j = x.length := hj
     subst hj
     rw [dec_self_lt, cond_false] at h1
     rw [List.drop_length] at hg
     rw [hg]
     refine RunsL.preS oGPoints (k := 2) h1 ?_
     exact runsL_evS oGPoints (n := 100) (bs0 := []) (by kernel_rfl) (VEnt.refl _) trivial
   | succ m =>
     have hjl : j < x.length := by omega
     rw [dec_lt hjl, cond_true] at h1
     have hlp := nat_i (hpl j)
     have hp := hpl j
     have d0 := dec_nn j
     have d1 := dec_lt hjl
     refine RunsL.preS oGPoints (k := 2) h1 (RunsL.blkAt (id := 1) (by kernel_rfl) ?_)
     have hbk : ∀ i : Int, evLS cGPoints 100 ((items (blkAt (loopAt (bodyOf Tryz.f79) 2) 2)).take 4) (stPo x i) (kfg 0 [2, 7, 8, 9, 18, 19, 20] [] 0) = chks [decide (0 ≤ i), decide (i < (x.length : Nat))] (bif !rdecBP (eqA (x.getD i.toNat [])) then .done .ret (stPo x i) else chks [okK .i64 ((eqP (x.getD i.toNat [])).length : Nat)] (.done .normal (stPi x i (eqP (x.getD i.toNat [])) 0))) := by intro i; kernel_rfl
     have h2 := hbk (j : Int)
     rw [Int.toNat_natCast, d0, d1] at h2
     try rw [hlp] at h2
     rw [drop_cons hjl, ptEq] at hg
     cases hb : (!rdecBP (eqA (x.getD j []))) with
     | true =>
       rw [hb] at h2 hg
       rw [hg]
       exact RunsL.preS oGPoints (k := 4) h2 ⟨_, [], (by kernel_rfl), VEnt.refl _, trivial⟩
     | false =>
       rw [hb] at h2 hg
       refine RunsL.preS oGPoints (k := 4) h2 ?_
       refine RunsL.loop (id := 2) (by kernel_rfl) (fun m' s => ∃ q : Nat, s = (stPi x (j : Int) ((eqP (x.getD j []))) (q : Int)) ∧ q + m' = ((eqP (x.getD j []))).length ∧ ptPa ((eqP (x.getD j []))) = ptPa (((eqP (x.getD j []))).drop q)) ((eqP (x.getD j []))).length ⟨0, rfl, Nat.zero_add _, rfl⟩ ?_
       rintro m' s ⟨q, rfl, hq, hg2⟩
       have hin : ∀ (i : Int) (p : List (List D)) (q : Int), evLS cGPoints 100 (items (loopAt (blkAt (loopAt (bodyOf Tryz.f79) 2) 2) 4)) (stPi x i p q) (kfg 0 [2, 7, 8, 9, 18, 19, 20] [] 0) = chks [] (bif decide (q < ((p).length : Nat)) then chks [decide (0 ≤ q), decide (q < ((p).length : Nat))] (bif !rdecBP (paB ((p).getD q.toNat [])) then .done .ret (stPi x i p q) else chks [okK .i64 (q + 1)] (.done .normal (stPi x i p (q + 1)))) else .done (.exit 2) (stPi x i p q)) := by intro i p q; kernel_rfl
       have h3 := hin (j : Int) ((eqP (x.getD j []))) (q : Int)
       try rw [Int.toNat_natCast] at h3
       try rw [Int.toNat_natCast] at h3
       try rw [d0] at h3
       try rw [d1] at h3
       try rw [hlp] at h3
       cases m' with
       | zero =>
         have hq : q = ((eqP (x.getD j []))).length := hq
         subst hq
         rw [dec_self_lt] at h3
         rw [List.drop_length] at hg2
         have hg2 : ptPa ((eqP (x.getD j []))) = true := hg2
         rw [hg2] at hg
         have hout : ∀ (i : Int) (p : List (List D)) (q : Int), evLS cGPoints 100 ((items (blkAt (loopAt (bodyOf Tryz.f79) 2) 2)).drop 5) (stPi x i p q) (kfg 0 [2, 7, 8, 9] [] 0) = .done .normal (stPo x i) := by intro i p q; kernel_rfl
         have htl : ∀ i : Int, evLS cGPoints 100 ((items (loopAt (bodyOf Tryz.f79) 2)).drop 3) (stPo x i) (kfg 0 [2, 7, 8, 9] [] 0) = chks [okK .i64 (i + 1)] (.done .normal (stPo x (i + 1))) := by intro i; kernel_rfl
         refine RunsL.allS oGPoints h3 ?_
         refine RunsL.allS oGPoints (hout (j : Int) ((eqP (x.getD j []))) _) ?_
         have h4 := htl (j : Int)
         rw [chks_true (allT1 (ct hjl))] at h4
         exact RunsL.allS oGPoints h4 ⟨m, Nat.lt_succ_self m, j + 1, rfl, by omega, hg⟩
       | succ m' =>
         have hql : q < ((eqP (x.getD j []))).length := by omega
         rw [dec_lt hql, dec_nn q, show okK .i64 ((q : Int) + 1) = true from okI (by omega) (by omega)] at h3
         rw [drop_cons hql, ptPa] at hg2
         cases hc0 : (!rdecBP (paB (((eqP (x.getD j []))).getD q []))) with
         | true =>
           rw [hc0, cond_true] at h3 hg2
           rw [hg2, Bool.not_false, cond_true] at hg
           rw [hg]
           exact RunsL.allS oGPoints h3 ⟨_, [], (by kernel_rfl), VEnt.refl _, trivial⟩
         | false =>
           rw [hc0, cond_false] at h3 hg2
           exact RunsL.allS oGPoints h3 ⟨m', Nat.lt_succ_self m', q + 1, rfl, by omega, hg2⟩
 · cases hF

noncomputable def sRPointsF : List D → Option (List Bool × V)
 | [.l x] => some ([], vbool' (ptEq x))
 | _ => none
noncomputable def sRPoints : FSpec := spec [teqs] sRPointsF
noncomputable abbrev tabRPoints : List (FuncId × FSpec) := [(74, sSIsPoint)]
theorem tabokRPoints : TabOK Tryz.prog (tabOf tabRPoints) := (.cons ok_SIsPoint .nil)
noncomputable abbrev cRPoints : Cx := mkcf true false tabRPoints [] []
theorem oRPoints : Ok cRPoints := mkokf (sy := true) (rw := false) tabokRPoints IlOK.nil JsOK.nil
theorem ok_RPoints : FnOK Tryz.prog 83 sRPoints := by
 refine fn_flat (cx := mkcf true false tabRPoints [] []) (c := bodyOf Tryz.f83) Tryz.func83 (by kernel_rfl) (by kernel_rfl) rfl ?_
 intro ds chk v vs hF ht he hr base
 unfold sRPointsF at hF
 split at hF
 · rename_i x
   cases hF
   have hvs : vs = [veqs x] := by simp only [encA, encV, encP, encL, Option.some.injEq] at he; exact he.symm
   subst hvs
   obtain ⟨hrng, _⟩ := hr
   have hx := max_lt hrng.1
   have hlx := nat_i hx
   have hpl := eqs_len hrng.2
   have ct : ∀ {j : Nat}, j < x.length → okK .i64 ((j : Int) + 1) = true := fun {j} h => okI (by omega) (by omega)
   have h0 : evLS cRPoints 100 ((items (bodyOf Tryz.f83)).take 2) ⟨t0 Tryz.f83 [veqs x], []⟩ (kfg 0 [0, 2, 3] [] 0) = .done .normal (stQo x 0) := by kernel_rfl

   refine Runs.items _ _ _ (RunsL.preS oRPoints (k := 2) h0 ?_)
   refine RunsL.loop (id := 0) (by kernel_rfl) (fun m s => ∃ j : Nat, s = (stQo x (j : Int)) ∧ j + m = x.length ∧ ptEq x = ptEq (x.drop j)) x.length ⟨0, rfl, Nat.zero_add _, rfl⟩ ?_
   rintro m s ⟨j, rfl, hj, hg⟩
   have hhd : ∀ i : Int, evLS cRPoints 100 ((items (loopAt (bodyOf Tryz.f83) 2)).take 2) (stQo x i) (kfg 0 [0, 2, 3] [] 0) = chks [okK .i64 (x.length : Nat)] (bif decide (i < (x.length : Nat)) then .done .normal (stQo x i) else .done (.exit 0) (stQo x i)) := by intro i; kernel_rfl
   have h1 := hhd (j : Int)
   rw [chks_true (by first | exact allT0 | exact allT1 hlx)] at h1
   cases m with
   | zero =>
     have hj : j = x.length := hj
     subst hj
     rw [dec_self_lt, cond_false] at h1
     rw [List.drop_length] at hg
     rw [hg]
     refine RunsL.preS oRPoints (k := 2) h1 ?_
     exact runsL_evS oRPoints (n := 100) (bs0 := []) (by kernel_rfl) (VEnt.refl _) trivial
   | succ m =>
     have hjl : j < x.length := by omega
     rw [dec_lt hjl, cond_true] at h1
     have hlp := nat_i (hpl j)
     have hp := hpl j
     have d0 := dec_nn j
     have d1 := dec_lt hjl
     refine RunsL.preS oRPoints (k := 2) h1 (RunsL.blkAt (id := 1) (by kernel_rfl) ?_)
     have hbk : ∀ i : Int, evLS cRPoints 100 ((items (blkAt (loopAt (bodyOf Tryz.f83) 2) 2)).take 3) (stQo x i) (kfg 0 [0, 2, 3, 4] [] 0) = chks [decide (0 ≤ i), decide (i < (x.length : Nat))] (bif !rdecBP (eqA (x.getD i.toNat [])) then .done .ret (stQo x i) else chks [] (.done .normal (stQi x i 0))) := by intro i; kernel_rfl
     have h2 := hbk (j : Int)
     rw [Int.toNat_natCast, d0, d1] at h2
     try rw [hlp] at h2
     rw [drop_cons hjl, ptEq] at hg
     cases hb : (!rdecBP (eqA (x.getD j []))) with
     | true =>
       rw [hb] at h2 hg
       rw [hg]
       exact RunsL.preS oRPoints (k := 3) h2 ⟨_, [], (by kernel_rfl), VEnt.refl _, trivial⟩
     | false =>
       rw [hb] at h2 hg
       refine RunsL.preS oRPoints (k := 3) h2 ?_
       refine RunsL.loop (id := 2) (by kernel_rfl) (fun m' s => ∃ q : Nat, s = (stQi x (j : Int) (q : Int)) ∧ q + m' = ((eqP (x.getD j []))).length ∧ ptPa ((eqP (x.getD j []))) = ptPa (((eqP (x.getD j []))).drop q)) ((eqP (x.getD j []))).length ⟨0, rfl, Nat.zero_add _, rfl⟩ ?_
       rintro m' s ⟨q, rfl, hq, hg2⟩
       have hin : ∀ (i q : Int), evLS cRPoints 100 (items (loopAt (blkAt (loopAt (bodyOf Tryz.f83) 2) 2) 3)) (stQi x i q) (kfg 0 [0, 2, 3, 4] [] 0) = chks [decide (0 ≤ i), decide (i < (x.length : Nat)), okK .i64 ((eqP (x.getD i.toNat [])).length : Nat)] (bif decide (q < (((eqP (x.getD i.toNat []))).length : Nat)) then chks [decide (0 ≤ i), decide (i < (x.length : Nat)), decide (0 ≤ q), decide (q < (((eqP (x.getD i.toNat []))).length : Nat))] (bif !rdecBP (paB (((eqP (x.getD i.toNat []))).getD q.toNat [])) then .done .ret (stQi x i q) else chks [okK .i64 (q + 1)] (.done .normal (stQi x i (q + 1)))) else .done (.exit 2) (stQi x i q)) := by intro i q; kernel_rfl
       have h3 := hin (j : Int) (q : Int)
       try rw [Int.toNat_natCast] at h3
       try rw [Int.toNat_natCast] at h3
       try rw [d0] at h3
       try rw [d1] at h3
       try rw [hlp] at h3
       cases m' with
       | zero =>
         have hq : q = ((eqP (x.getD j []))).length := hq
         subst hq
         rw [dec_self_lt] at h3
         rw [List.drop_length] at hg2
         have hg2 : ptPa ((eqP (x.getD j []))) = true := hg2
         rw [hg2] at hg
         have hout : ∀ (i q : Int), evLS cRPoints 100 ((items (blkAt (loopAt (bodyOf Tryz.f83) 2) 2)).drop 4) (stQi x i q) (kfg 0 [0, 2, 3] [] 0) = .done .normal (stQo x i) := by intro i q; kernel_rfl
         have htl : ∀ i : Int, evLS cRPoints 100 ((items (loopAt (bodyOf Tryz.f83) 2)).drop 3) (stQo x i) (kfg 0 [0, 2, 3] [] 0) = chks [okK .i64 (i + 1)] (.done .normal (stQo x (i + 1))) := by intro i; kernel_rfl
         refine RunsL.allS oRPoints h3 ?_
         refine RunsL.allS oRPoints (hout (j : Int) _) ?_
         have h4 := htl (j : Int)
         rw [chks_true (allT1 (ct hjl))] at h4
         exact RunsL.allS oRPoints h4 ⟨m, Nat.lt_succ_self m, j + 1, rfl, by omega, hg⟩
       | succ m' =>
         have hql : q < ((eqP (x.getD j []))).length := by omega
         rw [dec_lt hql, dec_nn q, show okK .i64 ((q : Int) + 1) = true from okI (by omega) (by omega)] at h3
         rw [drop_cons hql, ptPa] at hg2
         cases hc0 : (!rdecBP (paB (((eqP (x.getD j []))).getD q []))) with
         | true =>
           rw [hc0, cond_true] at h3 hg2
           rw [hg2, Bool.not_false, cond_true] at hg
           rw [hg]
           exact RunsL.allS oRPoints h3 ⟨_, [], (by kernel_rfl), VEnt.refl _, trivial⟩
         | false =>
           rw [hc0, cond_false] at h3 hg2
           exact RunsL.allS oRPoints h3 ⟨m', Nat.lt_succ_self m', q + 1, rfl, by omega, hg2⟩
 · cases hF
end Go.Proofs.YtdkmcpbjicnfmaaGreat

/-
  Contracts of relations: commitments.
-/
namespace Go.Proofs.YtdkmcpbjicnfmaaGreat
open Go Vx Go.RowKit

theorem goodPa_at {n : Int} : ∀ {p : List (List D)}, goodPa n p = true → ∀ {q : Nat}, q < p.length → 0 ≤ paS (p.getD q []) ∧ paS (p.getD q []) < n
 | [], _, q, h => absurd h (Nat.not_lt_zero q)
 | a :: p, h, q, hq => by
   obtain ⟨h1, h2, h3⟩ := goodPa_cons h
   cases q with
   | zero => exact ⟨h1, h2⟩
   | succ q => exact goodPa_at (p := p) h3 (Nat.lt_of_succ_lt_succ hq)
theorem comT_cons (l : List (List D)) {p : List (List D)} {j : Nat} (h : j < p.length) : comT l (p.drop j) = [.n (scAt l (paS (p.getD j [])).toNat), .n (paB (p.getD j []))] :: comT l (p.drop (j + 1)) := by
 rw [drop_cons h]; rfl
abbrev vprt (p : List (List D)) : V := .one (.rd [.int .i64, .pk .u8 8 32] p)
abbrev trow (y : List (List D)) : Option Blk := some ⟨97, .row [.pk .u8 8 32, .pk .u8 8 32] y⟩
def hC0 : Hp := [none, some ⟨37, .ps ub0⟩]
def hC1 (y : List (List D)) : Hp := [none, some ⟨37, .ps ub0⟩, trow y]
def stCm (l p : List (List D)) (v : V) (h : Hp) (i : Int) : St := ⟨[.junk, vscs l, v] ++ jk 3 ++ [.one (.ptr 1 0)] ++ jk 5 ++ [vprt p, vi64 (p.length : Nat), vi64 i] ++ jk 21, h⟩
abbrev rowC (k : Nat) : V := .one (.row 2 64 0 k k)
def hD0 (a : Nat) (p : List (List D)) : Hp := [some ⟨105, .ps [.pk .u8 8 32 a, .rd [.int .i64, .pk .u8 8 32] p]⟩, some ⟨37, .ps ub0⟩]
def hD1 (a : Nat) (p : List (List D)) (y : List (List D)) : Hp := [some ⟨105, .ps [.pk .u8 8 32 a, .rd [.int .i64, .pk .u8 8 32] p]⟩, some ⟨37, .ps ub0⟩, trow y]
def stDm (l : List (List D)) (v : V) (h : Hp) (i : Int) : St := ⟨[.junk, vscs l, .one (.ptr 0 0), .junk, .one (.ptr 1 0), v, vi64 i] ++ jk 34, h⟩

def stCa (l p : List (List D)) (i : Int) : St := stCm l p vnil hC0 i
def stCb (l p : List (List D)) (y : List (List D)) (k : Nat) (i : Int) : St := stCm l p (rowC k) (hC1 y) i
def stDa (a : Nat) (l p : List (List D)) (i : Int) : St := stDm l vnil (hD0 a p) i
def stDb (a : Nat) (l p : List (List D)) (y : List (List D)) (k : Nat) (i : Int) : St := stDm l (rowC k) (hD1 a p y) i

noncomputable def sGCommitF : List D → Option (List Bool × V)
 | [.n _, .l p, .l l] => some ([goodPa (l.length : Nat) p, decide (p.length < 1099511627776)], vb32 (comN l p))
 | _ => none
noncomputable def sGCommit : FSpec := spec [teqn, tscs, .nils] sGCommitF
noncomputable abbrev tabGCommit : List (FuncId × FSpec) := [(59, sASum)]
theorem tabokGCommit : TabOK Tryz.prog (tabOf tabGCommit) := (.cons ok_ASum .nil)
noncomputable abbrev cGCommit : Cx := mkcf true false tabGCommit [] []
theorem oGCommit : Ok cGCommit := mkokf (sy := true) (rw := false) tabokGCommit IlOK.nil JsOK.nil
theorem ok_GCommit : FnOK Tryz.prog 80 sGCommit := by
 refine fn_flat (cx := mkcf true false tabGCommit [] []) (c := bodyOf Tryz.f80) Tryz.func80 (by kernel_rfl) (by kernel_rfl) rfl ?_
 intro ds chk v vs hF ht he hr base
 unfold sGCommitF at hF
 split at hF
 · rename_i a p l
   cases hF
   have hvs : vs = [veqn a p, vscs l, vnil] := by simp only [encA, encV, encP, encL, Option.some.injEq] at he; exact he.symm
   subst hvs
   have hgp : goodPa (l.length : Nat) p = true := ht _ (by simp)
   have hpb : p.length < 1099511627776 := of_decide_eq_true (ht (decide (p.length < 1099511627776)) (by simp))
   have hlp := nat_i (show p.length < 9223372036854775808 by omega)
   have h0 : evLS cGCommit 100 ((items (bodyOf Tryz.f80)).take 2) ⟨t0 Tryz.f80 [veqn a p, vscs l, vnil], []⟩ (kfg 0 [1, 2, 6, 12, 13, 14] [1] 2) = chks [okK .i64 (p.length : Nat)] (.done .normal (stCa l p  0)) := by kernel_rfl
   rw [chks_true (by first | exact allT0 | exact allT1 hlp)] at h0
   refine Runs.items _ _ _ (RunsL.preS oGCommit (k := 2) h0 ?_)
   refine RunsL.loop (id := 0) (by kernel_rfl) (fun m s => ∃ j : Nat, j + m = p.length ∧ ((j = 0 ∧ s = stCa l p  0) ∨ ∃ y, s = stCb l p  y y.length (j : Int) ∧ y.length = j ∧ comT l p = y ++ comT l (p.drop j))) p.length ⟨0, Nat.zero_add _, .inl ⟨rfl, rfl⟩⟩ ?_
   rintro m s ⟨j, hj, hs⟩
   have hl0 : ∀ i : Int, evLS cGCommit 100 (items (loopAt (bodyOf Tryz.f80) 2)) (stCa l p  i) (kfgB 0 [1, 2, 6, 12, 13, 14] [0, 1, 4] 5 [(4, 2)] 3 [1, 2, 6, 12, 13, 14] [1] 2) =
    chks [] (bif decide (i < (p.length : Nat)) then chks [decide (0 ≤ i), decide (i < (p.length : Nat))] (chks [decide (0 ≤ paS (p.getD i.toNat [])), decide (paS (p.getD i.toNat []) < (l.length : Nat))] (chks [] (chks [okK .i64 (i + 1)]
     (.done .normal (stCb l p  [[.n (scAt l (paS (p.getD i.toNat [])).toNat), .n (paB (p.getD i.toNat []))]] 1 (i + 1)))))) else .done (.exit 0) (stCa l p  i)) := by intro i; kernel_rfl
   have hl1 : ∀ (y : List (List D)) (k : Nat) (i : Int), evLS cGCommit 100 (items (loopAt (bodyOf Tryz.f80) 2)) (stCb l p  y k i) (kfgB 0 [1, 2, 6, 12, 13, 14] [0, 1, 5] 6 [(5, 2)] 3 [1, 2, 6, 12, 13, 14] [1, 2] 3) =
    chks [] (bif decide (i < (p.length : Nat)) then chks [decide (0 ≤ i), decide (i < (p.length : Nat))] (chks [decide (0 ≤ paS (p.getD i.toNat [])), decide (paS (p.getD i.toNat []) < (l.length : Nat))] (chks [] (chks [decide (k ≤ y.length), decide (k ≤ k), decide ((k + 1) * 64 ≤ 140737488355328), decide (k + 1 < 4611686018427387904), okK .i64 (i + 1)]
     (.done .normal (stCb l p  (y.take k ++ [[.n (scAt l (paS (p.getD i.toNat [])).toNat), .n (paB (p.getD i.toNat []))]]) (k + 1) (i + 1)))))) else .done (.exit 0) (stCb l p  y k i)) := by intro y k i; kernel_rfl
   have he0 : ∀ i : Int, evLS cGCommit 100 ((items (bodyOf Tryz.f80)).drop 3) (stCa l p  i) (kres cGCommit Tryz.f80 base) = outV (vb32 (sumN [])) := by intro i; kernel_rfl
   have he1 : ∀ (y : List (List D)) (k : Nat) (i : Int), evLS cGCommit 100 ((items (bodyOf Tryz.f80)).drop 3) (stCb l p  y k i) (kres cGCommit Tryz.f80 base) = chks [decide (0 + k ≤ y.length), decide ((List.take k (List.drop 0 y)).length < 9223372036854775808)] (outV (vb32 (sumN (List.take k (List.drop 0 y))))) := by intro y k i; kernel_rfl
   rcases Nat.eq_zero_or_pos m with hm | hm
   · subst hm
     have hj : j = p.length := hj
     rcases hs with ⟨h0, rfl⟩ | ⟨y, rfl, hy, hc⟩
     · have h1 := hl0 0
       have hp : p = [] := List.eq_nil_of_length_eq_zero (by omega)
       subst hp
       rw [chks_true (by first | exact allT0 | exact allT1 hlp)] at h1
       refine RunsL.allB oGCommit rfl h1 ?_
       exact runsL_evS oGCommit (n := 100) (bs0 := []) (he0 0) (VEnt.refl _) trivial
     · have h1 := hl1 y y.length (j : Int)
       rw [chks_true (by first | exact allT0 | exact allT1 hlp), hj, dec_self_lt, cond_false] at h1
       rw [hj, List.drop_length, show comT l [] = [] from rfl, List.append_nil] at hc
       have h2 := he1 y y.length ((p.length : Nat) : Int)
       rw [List.drop_zero, List.take_length, chks_true (allTc (by rw [decide_eq_true_iff]; omega) (allT1 (by rw [decide_eq_true_iff]; omega)))] at h2
       have hcs : comN l p = sumN y := congrArg sumN hc
       rw [hcs]
       rw [hj]
       refine RunsL.allB oGCommit rfl h1 ?_
       exact runsL_evS oGCommit (n := 100) (bs0 := []) h2 (VEnt.refl _) trivial
   · obtain ⟨m, rfl⟩ : ∃ n, m = n + 1 := ⟨m - 1, by omega⟩
     have hjl : j < p.length := by omega
     obtain ⟨g1, g2⟩ := goodPa_at hgp hjl
     have hd3 : okK .i64 ((j : Int) + 1) = true := okI (by omega) (by omega)
     have d0 := dec_nn j
     have d1 := dec_lt hjl
     have e1 : decide (0 ≤ paS (p.getD j [])) = true := decide_eq_true g1
     have e2 : decide (paS (p.getD j []) < (l.length : Nat)) = true := decide_eq_true g2
     rcases hs with ⟨h0, rfl⟩ | ⟨y, rfl, hy, hc⟩
     · subst h0
       have h1 := hl0 ((0 : Nat) : Int)
       rw [Int.toNat_natCast, d0, d1, e1, e2, hd3] at h1
       try rw [hlp] at h1
       refine RunsL.allB oGCommit rfl h1 ⟨m, Nat.lt_succ_self m, 1, by omega, .inr ⟨_, rfl, rfl, ?_⟩⟩
       have := comT_cons l hjl
       rw [List.drop_zero] at this
       exact this
     · have h1 := hl1 y y.length (j : Int)
       rw [Int.toNat_natCast, d0, d1, e1, e2, hd3] at h1
       try rw [hlp] at h1
       rw [cond_true, chks_true (l := [decide (y.length ≤ y.length), decide (y.length ≤ y.length), decide ((y.length + 1) * 64 ≤ 140737488355328), decide (y.length + 1 < 4611686018427387904), true]), List.take_length] at h1
       · refine RunsL.allB oGCommit rfl h1 ⟨m, Nat.lt_succ_self m, j + 1, by omega, .inr ⟨y ++ [[.n (scAt l (paS (p.getD j [])).toNat), .n (paB (p.getD j []))]], ?_, ?_, ?_⟩⟩
         · rw [List.length_append]; rfl
         · rw [List.length_append, hy]; rfl
         · rw [hc, comT_cons l hjl, List.append_assoc]; rfl
       · refine allTc ?_ (allTc ?_ (allTc ?_ (allTc ?_ (allT1 rfl)))) <;> (rw [decide_eq_true_iff]; omega)
 · cases hF

noncomputable def sRCommitF : List D → Option (List Bool × V)
 | [.n _, .l p, .l l] => some ([goodPa (l.length : Nat) p, decide (p.length < 1099511627776)], vb32 (comN l p))
 | _ => none
noncomputable def sRCommit : FSpec := spec [teqn, tscs] sRCommitF
noncomputable abbrev tabRCommit : List (FuncId × FSpec) := [(67, sSSum)]
theorem tabokRCommit : TabOK Tryz.prog (tabOf tabRCommit) := (.cons ok_SSum .nil)
noncomputable abbrev cRCommit : Cx := mkcf true false tabRCommit [] []
theorem oRCommit : Ok cRCommit := mkokf (sy := true) (rw := false) tabokRCommit IlOK.nil JsOK.nil
theorem ok_RCommit : FnOK Tryz.prog 84 sRCommit := by
 refine fn_flat (cx := mkcf true false tabRCommit [] []) (c := bodyOf Tryz.f84) Tryz.func84 (by kernel_rfl) (by kernel_rfl) rfl ?_
 intro ds chk v vs hF ht he hr base
 unfold sRCommitF at hF
 split at hF
 · rename_i a p l
   cases hF
   have hvs : vs = [veqn a p, vscs l] := by simp only [encA, encV, encP, encL, Option.some.injEq] at he; exact he.symm
   subst hvs
   have hgp : goodPa (l.length : Nat) p = true := ht _ (by simp)
   have hpb : p.length < 1099511627776 := of_decide_eq_true (ht (decide (p.length < 1099511627776)) (by simp))
   have hlp := nat_i (show p.length < 9223372036854775808 by omega)
   have h0 : evLS cRCommit 100 ((items (bodyOf Tryz.f84)).take 3) ⟨t0 Tryz.f84 [veqn a p, vscs l], []⟩ (kfg 0 [1, 2, 4, 5, 6] [0, 1] 2) = chks [] (.done .normal (stDa a l p  0)) := by kernel_rfl
   rw [chks_true (by first | exact allT0 | exact allT1 hlp)] at h0
   refine Runs.items _ _ _ (RunsL.preS oRCommit (k := 3) h0 ?_)
   refine RunsL.loop (id := 0) (by kernel_rfl) (fun m s => ∃ j : Nat, j + m = p.length ∧ ((j = 0 ∧ s = stDa a l p  0) ∨ ∃ y, s = stDb a l p  y y.length (j : Int) ∧ y.length = j ∧ comT l p = y ++ comT l (p.drop j))) p.length ⟨0, Nat.zero_add _, .inl ⟨rfl, rfl⟩⟩ ?_
   rintro m s ⟨j, hj, hs⟩
   have hl0 : ∀ i : Int, evLS cRCommit 100 (items (loopAt (bodyOf Tryz.f84) 3)) (stDa a l p  i) (kfgB 0 [1, 2, 4, 5, 6] [0, 1, 3] 4 [(3, 2)] 3 [1, 2, 4, 5, 6] [0, 1] 2) =
    chks [okK .i64 (p.length : Nat)] (bif decide (i < (p.length : Nat)) then chks [decide (0 ≤ i), decide (i < (p.length : Nat))] (chks [decide (0 ≤ paS (p.getD i.toNat [])), decide (paS (p.getD i.toNat []) < (l.length : Nat))] (chks [decide (0 ≤ i), decide (i < (p.length : Nat))] (chks [okK .i64 (i + 1)]
     (.done .normal (stDb a l p  [[.n (scAt l (paS (p.getD i.toNat [])).toNat), .n (paB (p.getD i.toNat []))]] 1 (i + 1)))))) else .done (.exit 0) (stDa a l p  i)) := by intro i; kernel_rfl
   have hl1 : ∀ (y : List (List D)) (k : Nat) (i : Int), evLS cRCommit 100 (items (loopAt (bodyOf Tryz.f84) 3)) (stDb a l p  y k i) (kfgB 0 [1, 2, 4, 5, 6] [0, 1, 4] 5 [(4, 2)] 3 [1, 2, 4, 5, 6] [0, 1, 2] 3) =
    chks [okK .i64 (p.length : Nat)] (bif decide (i < (p.length : Nat)) then chks [decide (0 ≤ i), decide (i < (p.length : Nat))] (chks [decide (0 ≤ paS (p.getD i.toNat [])), decide (paS (p.getD i.toNat []) < (l.length : Nat))] (chks [decide (0 ≤ i), decide (i < (p.length : Nat))] (chks [decide (k ≤ y.length), decide (k ≤ k), decide ((k + 1) * 64 ≤ 140737488355328), decide (k + 1 < 4611686018427387904), okK .i64 (i + 1)]
     (.done .normal (stDb a l p  (y.take k ++ [[.n (scAt l (paS (p.getD i.toNat [])).toNat), .n (paB (p.getD i.toNat []))]]) (k + 1) (i + 1)))))) else .done (.exit 0) (stDb a l p  y k i)) := by intro y k i; kernel_rfl
   have he0 : ∀ i : Int, evLS cRCommit 100 ((items (bodyOf Tryz.f84)).drop 4) (stDa a l p  i) (kres cRCommit Tryz.f84 base) = outV (vb32 (sumN [])) := by intro i; kernel_rfl
   have he1 : ∀ (y : List (List D)) (k : Nat) (i : Int), evLS cRCommit 100 ((items (bodyOf Tryz.f84)).drop 4) (stDb a l p  y k i) (kres cRCommit Tryz.f84 base) = chks [decide (0 + k ≤ y.length), decide ((List.take k (List.drop 0 y)).length < 9223372036854775808)] (outV (vb32 (sumN (List.take k (List.drop 0 y))))) := by intro y k i; kernel_rfl
   rcases Nat.eq_zero_or_pos m with hm | hm
   · subst hm
     have hj : j = p.length := hj
     rcases hs with ⟨h0, rfl⟩ | ⟨y, rfl, hy, hc⟩
     · have h1 := hl0 0
       have hp : p = [] := List.eq_nil_of_length_eq_zero (by omega)
       subst hp
       rw [chks_true (by first | exact allT0 | exact allT1 hlp)] at h1
       refine RunsL.allB oRCommit rfl h1 ?_
       exact runsL_evS oRCommit (n := 100) (bs0 := []) (he0 0) (VEnt.refl _) trivial
     · have h1 := hl1 y y.length (j : Int)
       rw [chks_true (by first | exact allT0 | exact allT1 hlp), hj, dec_self_lt, cond_false] at h1
       rw [hj, List.drop_length, show comT l [] = [] from rfl, List.append_nil] at hc
       have h2 := he1 y y.length ((p.length : Nat) : Int)
       rw [List.drop_zero, List.take_length, chks_true (allTc (by rw [decide_eq_true_iff]; omega) (allT1 (by rw [decide_eq_true_iff]; omega)))] at h2
       have hcs : comN l p = sumN y := congrArg sumN hc
       rw [hcs]
       rw [hj]
       refine RunsL.allB oRCommit rfl h1 ?_
       exact runsL_evS oRCommit (n := 100) (bs0 := []) h2 (VEnt.refl _) trivial
   · obtain ⟨m, rfl⟩ : ∃ n, m = n + 1 := ⟨m - 1, by omega⟩
     have hjl : j < p.length := by omega
     obtain ⟨g1, g2⟩ := goodPa_at hgp hjl
     have hd3 : okK .i64 ((j : Int) + 1) = true := okI (by omega) (by omega)
     have d0 := dec_nn j
     have d1 := dec_lt hjl
     have e1 : decide (0 ≤ paS (p.getD j [])) = true := decide_eq_true g1
     have e2 : decide (paS (p.getD j []) < (l.length : Nat)) = true := decide_eq_true g2
     rcases hs with ⟨h0, rfl⟩ | ⟨y, rfl, hy, hc⟩
     · subst h0
       have h1 := hl0 ((0 : Nat) : Int)
       rw [Int.toNat_natCast, d0, d1, e1, e2, hd3] at h1
       try rw [hlp] at h1
       refine RunsL.allB oRCommit rfl h1 ⟨m, Nat.lt_succ_self m, 1, by omega, .inr ⟨_, rfl, rfl, ?_⟩⟩
       have := comT_cons l hjl
       rw [List.drop_zero] at this
       exact this
     · have h1 := hl1 y y.length (j : Int)
       rw [Int.toNat_natCast, d0, d1, e1, e2, hd3] at h1
       try rw [hlp] at h1
       rw [cond_true, chks_true (l := [decide (y.length ≤ y.length), decide (y.length ≤ y.length), decide ((y.length + 1) * 64 ≤ 140737488355328), decide (y.length + 1 < 4611686018427387904), true]), List.take_length] at h1
       · refine RunsL.allB oRCommit rfl h1 ⟨m, Nat.lt_succ_self m, j + 1, by omega, .inr ⟨y ++ [[.n (scAt l (paS (p.getD j [])).toNat), .n (paB (p.getD j []))]], ?_, ?_, ?_⟩⟩
         · rw [List.length_append]; rfl
         · rw [List.length_append, hy]; rfl
         · rw [hc, comT_cons l hjl, List.append_assoc]; rfl
       · refine allTc ?_ (allTc ?_ (allTc ?_ (allTc ?_ (allT1 rfl)))) <;> (rw [decide_eq_true_iff]; omega)
 · cases hF
end Go.Proofs.YtdkmcpbjicnfmaaGreat
