/-
  Contracts of relations: are numbers, scalars, points right?
-/
import Derived.Test.YtdkmcpbjicnfmaaLb80
namespace Go.Proofs.Ytdkmcpbjicnfmaa
open Go Vx Go.RowKit

theorem nat_i {n : Nat} (h : n < 9223372036854775808) : okK .i64 ((n : Nat) : Int) = true := okI (by omega) (by omega)
theorem dec_nn (j : Nat) : decide ((0 : Int) ≤ (j : Int)) = true := by rw [decide_eq_true_iff]; omega
theorem dec_lt {j n : Nat} (h : j < n) : decide (((j : Nat) : Int) < ((n : Nat) : Int)) = true := by rw [decide_eq_true_iff]; omega
theorem dec_self_lt (n : Nat) : decide (((n : Nat) : Int) < ((n : Nat) : Int)) = false := decide_eq_false (by omega)
theorem max_lt {n : Nat} (h : n ≤ maxLen) : n < 9223372036854775808 := Nat.lt_of_le_of_lt h (by decide)
theorem eqs_len {x : List (List D)} (h : ∀ (i : Nat) (e : List D), x[i]? = some e → rngTs [.pk .u8 8 32, .sl [.int .i64, .pk .u8 8 32]] e) (j : Nat) : (eqP (x.getD j [])).length < 9223372036854775808 := by
  rw [List.getD_eq_getElem?_getD]
  cases hj : x[j]? with
  | none => exact Nat.zero_lt_succ _
  | some e => exact max_lt (h j e hj).2.1.1
def jk (n : Nat) : List V := List.replicate n .junk
def stS1 (x : List (List D)) (i : Int) : St := ⟨jk 2 ++ [.one (.bool false), .junk, .junk, vscs x, vi64 (x.length : Nat), vi64 i] ++ jk 7, []⟩
def stRz (n : Int) : St := ⟨jk 2 ++ [vi64 n] ++ jk 3 ++ [.one (.bool false)] ++ jk 25 ++ [undefV, undefV, undefV] ++ jk 25, []⟩
def stRo (x : List (List D)) (n i : Int) : St := ⟨jk 2 ++ [vi64 n] ++ jk 3 ++ [.one (.bool false)] ++ jk 25 ++ [veqs x, vi64 (x.length : Nat), vi64 i] ++ jk 25, []⟩
def stRi (x : List (List D)) (n i : Int) (p : List (List D)) (j : Int) : St := ⟨jk 2 ++ [vi64 n] ++ jk 3 ++ [.one (.bool false)] ++ jk 25 ++ [veqs x, vi64 (x.length : Nat), vi64 i] ++ jk 8 ++ [.one (.rd [.int .i64, .pk .u8 8 32] p), vi64 (p.length : Nat), vi64 j] ++ jk 14, []⟩
def stPo (x : List (List D)) (i : Int) : St := ⟨jk 2 ++ [.one (.bool false)] ++ jk 4 ++ [veqs x, vi64 (x.length : Nat), vi64 i] ++ jk 20, []⟩
def stPi (x : List (List D)) (i : Int) (p : List (List D)) (j : Int) : St := ⟨jk 2 ++ [.one (.bool false)] ++ jk 4 ++ [veqs x, vi64 (x.length : Nat), vi64 i] ++ jk 8 ++ [.one (.rd [.int .i64, .pk .u8 8 32] p), vi64 (p.length : Nat), vi64 j] ++ jk 9, []⟩

noncomputable def sGScalarsF : List D → Option (List Bool × V)
  | [.l x] => some ([], vbool' (allSc x))
  | _ => none
noncomputable def sGScalars : FSpec := spec [tscs] sGScalarsF
noncomputable abbrev tabGScalars : List (FuncId × FSpec) := [(23, sAIsScalar)]
set_option maxRecDepth 100000 in
theorem tabokGScalars : TabOK Try.prog (tabOf tabGScalars) := (.cons ok_AIsScalar .nil)
noncomputable abbrev ilGScalars : List (FuncId × Func) := []
set_option maxRecDepth 100000 in
theorem ilokGScalars : IlOK Try.prog (ilTab ilGScalars) := IlOK.nil
set_option maxRecDepth 100000 in
theorem ok_GScalars : FnOK Try.prog 61 sGScalars := by
  refine fn_flat (cx := mkcf true false tabGScalars ilGScalars []) (c := bodyOf Try.f61) Try.func61 (by kernel_rfl) (by kernel_rfl) rfl ?_
  intro ds chk v vs hF ht he hr base
  unfold sGScalarsF at hF
  split at hF
  · rename_i x
    cases hF
    have hvs : vs = [vscs x] := by simp only [encA, encV, encP, encL, Option.some.injEq] at he; exact he.symm
    subst hvs
    obtain ⟨hrng, _⟩ := hr
    have hlx := nat_i (max_lt hrng.1)
    have h0 : evLS (mkcf true false tabGScalars ilGScalars []) 100 ((items (bodyOf Try.f61)).take 2) ⟨t0 Try.f61 [vscs x], []⟩ (kfg 0 [2, 5, 6, 7] [] 0) = chks [okK .i64 (x.length : Nat)] (.done .normal (stS1 x 0)) := by kernel_rfl
    rw [chks_true (by first | exact allT0 | exact allT1 hlx)] at h0
    refine Runs.items _ _ _ (RunsL.preS (mkokf (sy := true) (rw := false) tabokGScalars ilokGScalars JsOK.nil) (k := 2) h0 ?_)
    refine RunsL.loop (id := 0) (by kernel_rfl) (fun m s => ∃ j : Nat, s = stS1 x (j : Int) ∧ j + m = x.length ∧ allSc x = allSc (x.drop j)) x.length ⟨0, rfl, Nat.zero_add _, rfl⟩ ?_
    rintro m s ⟨j, rfl, hj, hg⟩
    have hev : ∀ i : Int, evLS (mkcf true false tabGScalars ilGScalars []) 100 (items (loopAt (bodyOf Try.f61) 2)) (stS1 x i) (kfg 0 [2, 5, 6, 7] [] 0) =
        chks [] (bif decide (i < (x.length : Nat)) then chks [decide (0 ≤ i), decide (i < (x.length : Nat))] (bif !okS (eqA (x.getD i.toNat [])) then .done .ret (stS1 x i)
          else chks [okK .i64 (i + 1)] (.done .normal (stS1 x (i + 1)))) else .done (.exit 0) (stS1 x i)) := by intro i; kernel_rfl
    have h1 := hev (j : Int)
    rw [Int.toNat_natCast, chks_true (by first | exact allT0 | exact allT1 hlx)] at h1
    cases m with
    | zero =>
      have hj : j = x.length := hj
      subst hj
      rw [dec_self_lt, cond_false] at h1
      rw [List.drop_length] at hg
      rw [hg]
      refine RunsL.allS (mkokf (sy := true) (rw := false) tabokGScalars ilokGScalars JsOK.nil) h1 ?_
      exact runsL_evS (mkokf (sy := true) (rw := false) tabokGScalars ilokGScalars JsOK.nil) (n := 100) (bs0 := []) (by kernel_rfl) (VEnt.refl _) trivial
    | succ m =>
      have hjl : j < x.length := by omega
      have hx := max_lt hrng.1
      rw [dec_nn, dec_lt hjl, cond_true, chks_true (allTc rfl (allT1 rfl)), chks_true (allT1 (show okK .i64 ((j : Int) + 1) = true from okI (by omega) (by omega)))] at h1
      rw [drop_cons hjl, allSc] at hg
      cases hb : (!okS (eqA (x.getD j []))) with
      | true =>
        rw [hb, cond_true] at h1 hg
        rw [hg]
        exact RunsL.allS (mkokf (sy := true) (rw := false) tabokGScalars ilokGScalars JsOK.nil) h1 ⟨_, [], (by kernel_rfl), VEnt.refl _, trivial⟩
      | false =>
        rw [hb, cond_false] at h1 hg
        exact RunsL.allS (mkokf (sy := true) (rw := false) tabokGScalars ilokGScalars JsOK.nil) h1 ⟨m, Nat.lt_succ_self m, j + 1, rfl, by omega, hg⟩
  · cases hF

noncomputable def sGRightF : List D → Option (List Bool × V)
  | [.s s, .l x, .i n] => some ([decide (s.size < 9223372036854775808)], vbool' (rgtB s.size x n))
  | _ => none
noncomputable def sGRight : FSpec := spec [tstr, teqs, ti64] sGRightF
noncomputable abbrev tabGRight : List (FuncId × FSpec) := []
set_option maxRecDepth 100000 in
theorem tabokGRight : TabOK Try.prog (tabOf tabGRight) := TabOK.nil
noncomputable abbrev ilGRight : List (FuncId × Func) := []
set_option maxRecDepth 100000 in
theorem ilokGRight : IlOK Try.prog (ilTab ilGRight) := IlOK.nil
set_option maxRecDepth 100000 in
theorem ok_GRight : FnOK Try.prog 60 sGRight := by
  refine fn_flat (cx := mkcf true false tabGRight ilGRight []) (c := bodyOf Try.f60) Try.func60 (by kernel_rfl) (by kernel_rfl) rfl ?_
  intro ds chk v vs hF ht he hr base
  unfold sGRightF at hF
  split at hF
  · rename_i s x n
    cases hF
    have hvs : vs = [vstr s, veqs x, vi64 n] := by simp only [encA, encV, encP, encL, Option.some.injEq] at he; exact he.symm
    subst hvs
    obtain ⟨_, hrng, _⟩ := hr
    have hs : s.size < 9223372036854775808 := of_decide_eq_true (ht _ (by simp))
    have hx := max_lt hrng.1
    have hlx := nat_i hx
    have hpl := eqs_len hrng.2
    have ct : ∀ {j : Nat}, j < x.length → okK .i64 ((j : Int) + 1) = true := fun {j} h => okI (by omega) (by omega)
    have h0 : evLS (mkcf true false tabGRight ilGRight []) 100 ((items (bodyOf Try.f60)).take 4) ⟨t0 Try.f60 [vstr s, veqs x, vi64 n], []⟩ (kfg 0 [2, 6, 32, 33, 34] [] 0) = chks [okK .i64 (s.size : Nat)] (bif decide ((1000 : Int) < (s.size : Nat)) then .done .ret (stRz n) else chks [okK .i64 (x.length : Nat)] (bif decide (((x.length : Nat) : Int) < 1) then .done .ret (stRz n) else chks [okK .i64 (x.length : Nat)] (bif decide ((16 : Int) < (x.length : Nat)) then .done .ret (stRz n) else bif decide (n < 1) then .done .ret (stRz n) else bif decide ((32 : Int) < n) then .done .ret (stRz n) else chks [okK .i64 (x.length : Nat)] (.done .normal (stRo x n 0))))) := by kernel_rfl
    rw [chks_true (allT1 (nat_i hs)), chks_true (allT1 hlx), chks_true (allT1 hlx)] at h0
    try rw [chks_true (allT1 hlx)] at h0
    have c3 : decide (((x.length : Nat) : Int) < 1) = decide (((x.length : Nat) : Int) < 1) := by first | rfl | (rw [decide_eq_decide]; omega)
    have c5 : decide (n < 1) = decide (n < 1) := by first | rfl | (rw [decide_eq_decide]; omega)
    rw [c3, c5] at h0
    clear c3 c5
    have hF : rgtB s.size x n = bif decide ((1000 : Int) < (s.size : Nat)) then false else bif decide (((x.length : Nat) : Int) < 1) then false else bif decide ((16 : Int) < (x.length : Nat)) then false else bif decide (n < 1) then false else
      bif decide ((32 : Int) < n) then false else goodEq n x := rfl
    rw [hF]
    clear hF
    cases k0 : decide ((1000 : Int) < (s.size : Nat)) with
    | true =>
      rw [k0] at h0
      exact Runs.items _ _ _ (RunsL.preS (mkokf (sy := true) (rw := false) tabokGRight ilokGRight JsOK.nil) (k := 4) h0 ⟨_, [], (by kernel_rfl), VEnt.refl _, trivial⟩)
    | false =>
    rw [k0] at h0
    cases k1 : decide (((x.length : Nat) : Int) < 1) with
    | true =>
      rw [k1] at h0
      exact Runs.items _ _ _ (RunsL.preS (mkokf (sy := true) (rw := false) tabokGRight ilokGRight JsOK.nil) (k := 4) h0 ⟨_, [], (by kernel_rfl), VEnt.refl _, trivial⟩)
    | false =>
    rw [k1] at h0
    cases k2 : decide ((16 : Int) < (x.length : Nat)) with
    | true =>
      rw [k2] at h0
      exact Runs.items _ _ _ (RunsL.preS (mkokf (sy := true) (rw := false) tabokGRight ilokGRight JsOK.nil) (k := 4) h0 ⟨_, [], (by kernel_rfl), VEnt.refl _, trivial⟩)
    | false =>
    rw [k2] at h0
    cases k3 : decide (n < 1) with
    | true =>
      rw [k3] at h0
      exact Runs.items _ _ _ (RunsL.preS (mkokf (sy := true) (rw := false) tabokGRight ilokGRight JsOK.nil) (k := 4) h0 ⟨_, [], (by kernel_rfl), VEnt.refl _, trivial⟩)
    | false =>
    rw [k3] at h0
    cases k4 : decide ((32 : Int) < n) with
    | true =>
      rw [k4] at h0
      exact Runs.items _ _ _ (RunsL.preS (mkokf (sy := true) (rw := false) tabokGRight ilokGRight JsOK.nil) (k := 4) h0 ⟨_, [], (by kernel_rfl), VEnt.refl _, trivial⟩)
    | false =>
    rw [k4] at h0
    refine Runs.items _ _ _ (RunsL.preS (mkokf (sy := true) (rw := false) tabokGRight ilokGRight JsOK.nil) (k := 4) h0 ?_)
    refine RunsL.loop (id := 0) (by kernel_rfl) (fun m s => ∃ j : Nat, s = (stRo x n (j : Int)) ∧ j + m = x.length ∧ goodEq n x = goodEq n (x.drop j)) x.length ⟨0, rfl, Nat.zero_add _, rfl⟩ ?_
    rintro m s ⟨j, rfl, hj, hg⟩
    have hhd : ∀ i : Int, evLS (mkcf true false tabGRight ilGRight []) 100 ((items (loopAt (bodyOf Try.f60) 4)).take 2) (stRo x n i) (kfg 0 [2, 6, 32, 33, 34] [] 0) = chks [] (bif decide (i < (x.length : Nat)) then .done .normal (stRo x n i) else .done (.exit 0) (stRo x n i)) := by intro i; kernel_rfl
    have h1 := hhd (j : Int)
    rw [chks_true (by first | exact allT0 | exact allT1 hlx)] at h1
    cases m with
    | zero =>
      have hj : j = x.length := hj
      subst hj
      rw [dec_self_lt, cond_false] at h1
      rw [List.drop_length] at hg
      rw [hg]
      refine RunsL.preS (mkokf (sy := true) (rw := false) tabokGRight ilokGRight JsOK.nil) (k := 2) h1 ?_
      exact runsL_evS (mkokf (sy := true) (rw := false) tabokGRight ilokGRight JsOK.nil) (n := 100) (bs0 := []) (by kernel_rfl) (VEnt.refl _) trivial
    | succ m =>
      have hjl : j < x.length := by omega
      rw [dec_lt hjl, cond_true] at h1
      have hlp := nat_i (hpl j)
      have hp := hpl j
      have d0 := dec_nn j
      have d1 := dec_lt hjl
      refine RunsL.preS (mkokf (sy := true) (rw := false) tabokGRight ilokGRight JsOK.nil) (k := 2) h1 (RunsL.blkAt (id := 1) (by kernel_rfl) ?_)
      have hbk : ∀ i : Int, evLS (mkcf true false tabGRight ilGRight []) 100 ((items (blkAt (loopAt (bodyOf Try.f60) 4) 2)).take 4) (stRo x n i) (kfg 0 [2, 6, 32, 33, 34, 43, 44, 45] [] 0) = chks [decide (0 ≤ i), decide (i < (x.length : Nat)), okK .i64 ((eqP (x.getD i.toNat [])).length : Nat)] (bif decide ((16 : Int) < ((eqP (x.getD i.toNat [])).length : Nat)) then .done .ret (stRo x n i) else chks [okK .i64 ((eqP (x.getD i.toNat [])).length : Nat)] (.done .normal (stRi x n i (eqP (x.getD i.toNat [])) 0))) := by intro i; kernel_rfl
      have h2 := hbk (j : Int)
      rw [Int.toNat_natCast, d0, d1] at h2
      try rw [hlp] at h2
      rw [drop_cons hjl, goodEq] at hg
      cases hb : (decide ((16 : Int) < ((eqP (x.getD j [])).length : Nat))) with
      | true =>
        rw [hb] at h2 hg
        rw [hg]
        exact RunsL.preS (mkokf (sy := true) (rw := false) tabokGRight ilokGRight JsOK.nil) (k := 4) h2 ⟨_, [], (by kernel_rfl), VEnt.refl _, trivial⟩
      | false =>
        rw [hb] at h2 hg
        refine RunsL.preS (mkokf (sy := true) (rw := false) tabokGRight ilokGRight JsOK.nil) (k := 4) h2 ?_
        refine RunsL.loop (id := 2) (by kernel_rfl) (fun m' s => ∃ q : Nat, s = (stRi x n (j : Int) ((eqP (x.getD j []))) (q : Int)) ∧ q + m' = ((eqP (x.getD j []))).length ∧ goodPa n ((eqP (x.getD j []))) = goodPa n (((eqP (x.getD j []))).drop q)) ((eqP (x.getD j []))).length ⟨0, rfl, Nat.zero_add _, rfl⟩ ?_
        rintro m' s ⟨q, rfl, hq, hg2⟩
        have hin : ∀ (i : Int) (p : List (List D)) (q : Int), evLS (mkcf true false tabGRight ilGRight []) 100 (items (loopAt (blkAt (loopAt (bodyOf Try.f60) 4) 2) 4)) (stRi x n i p q) (kfg 0 [2, 6, 32, 33, 34, 43, 44, 45] [] 0) = chks [] (bif decide (q < ((p).length : Nat)) then chks [decide (0 ≤ q), decide (q < ((p).length : Nat))] (bif decide (paS ((p).getD q.toNat []) < 0) then .done .ret (stRi x n i p q) else chks [] (bif decide (n ≤ paS ((p).getD q.toNat [])) then .done .ret (stRi x n i p q) else chks [okK .i64 (q + 1)] (.done .normal (stRi x n i p (q + 1))))) else .done (.exit 2) (stRi x n i p q)) := by intro i p q; kernel_rfl
        have h3 := hin (j : Int) ((eqP (x.getD j []))) (q : Int)
        try rw [Int.toNat_natCast] at h3
        try rw [Int.toNat_natCast] at h3
        try rw [d0] at h3
        try rw [d1] at h3
        try rw [hlp] at h3
        cases m' with
        | zero =>
          have hq : q = ((eqP (x.getD j []))).length := hq
          subst hq
          rw [dec_self_lt] at h3
          rw [List.drop_length] at hg2
          have hg2 : goodPa n ((eqP (x.getD j []))) = true := hg2
          rw [hg2] at hg
          have hout : ∀ (i : Int) (p : List (List D)) (q : Int), evLS (mkcf true false tabGRight ilGRight []) 100 ((items (blkAt (loopAt (bodyOf Try.f60) 4) 2)).drop 5) (stRi x n i p q) (kfg 0 [2, 6, 32, 33, 34] [] 0) = .done .normal (stRo x n i) := by intro i p q; kernel_rfl
          have htl : ∀ i : Int, evLS (mkcf true false tabGRight ilGRight []) 100 ((items (loopAt (bodyOf Try.f60) 4)).drop 3) (stRo x n i) (kfg 0 [2, 6, 32, 33, 34] [] 0) = chks [okK .i64 (i + 1)] (.done .normal (stRo x n (i + 1))) := by intro i; kernel_rfl
          refine RunsL.allS (mkokf (sy := true) (rw := false) tabokGRight ilokGRight JsOK.nil) h3 ?_
          refine RunsL.allS (mkokf (sy := true) (rw := false) tabokGRight ilokGRight JsOK.nil) (hout (j : Int) ((eqP (x.getD j []))) _) ?_
          have h4 := htl (j : Int)
          rw [chks_true (allT1 (ct hjl))] at h4
          exact RunsL.allS (mkokf (sy := true) (rw := false) tabokGRight ilokGRight JsOK.nil) h4 ⟨m, Nat.lt_succ_self m, j + 1, rfl, by omega, hg⟩
        | succ m' =>
          have hql : q < ((eqP (x.getD j []))).length := by omega
          rw [dec_lt hql, dec_nn q, show okK .i64 ((q : Int) + 1) = true from okI (by omega) (by omega)] at h3
          rw [drop_cons hql, goodPa] at hg2
          cases hc0 : (decide (paS (((eqP (x.getD j []))).getD q []) < 0)) with
          | true =>
            rw [hc0, cond_true] at h3 hg2
            rw [hg2, Bool.not_false, cond_true] at hg
            rw [hg]
            exact RunsL.allS (mkokf (sy := true) (rw := false) tabokGRight ilokGRight JsOK.nil) h3 ⟨_, [], (by kernel_rfl), VEnt.refl _, trivial⟩
          | false =>
            rw [hc0, cond_false] at h3 hg2
            cases hc1 : (decide (n ≤ paS (((eqP (x.getD j []))).getD q []))) with
            | true =>
              rw [hc1, cond_true] at h3 hg2
              rw [hg2, Bool.not_false, cond_true] at hg
              rw [hg]
              exact RunsL.allS (mkokf (sy := true) (rw := false) tabokGRight ilokGRight JsOK.nil) h3 ⟨_, [], (by kernel_rfl), VEnt.refl _, trivial⟩
            | false =>
              rw [hc1, cond_false] at h3 hg2
              exact RunsL.allS (mkokf (sy := true) (rw := false) tabokGRight ilokGRight JsOK.nil) h3 ⟨m', Nat.lt_succ_self m', q + 1, rfl, by omega, hg2⟩
  · cases hF

noncomputable def sGPointsF : List D → Option (List Bool × V)
  | [.l x] => some ([], vbool' (ptEq x))
  | _ => none
noncomputable def sGPoints : FSpec := spec [teqs] sGPointsF
noncomputable abbrev tabGPoints : List (FuncId × FSpec) := [(48, sAIsPoint)]
set_option maxRecDepth 100000 in
theorem tabokGPoints : TabOK Try.prog (tabOf tabGPoints) := (.cons ok_AIsPoint .nil)
noncomputable abbrev ilGPoints : List (FuncId × Func) := []
set_option maxRecDepth 100000 in
theorem ilokGPoints : IlOK Try.prog (ilTab ilGPoints) := IlOK.nil
set_option maxRecDepth 100000 in
theorem ok_GPoints : FnOK Try.prog 62 sGPoints := by
  refine fn_flat (cx := mkcf true false tabGPoints ilGPoints []) (c := bodyOf Try.f62) Try.func62 (by kernel_rfl) (by kernel_rfl) rfl ?_
  intro ds chk v vs hF ht he hr base
  unfold sGPointsF at hF
  split at hF
  · rename_i x
    cases hF
    have hvs : vs = [veqs x] := by simp only [encA, encV, encP, encL, Option.some.injEq] at he; exact he.symm
    subst hvs
    obtain ⟨hrng, _⟩ := hr
    have hx := max_lt hrng.1
    have hlx := nat_i hx
    have hpl := eqs_len hrng.2
    have ct : ∀ {j : Nat}, j < x.length → okK .i64 ((j : Int) + 1) = true := fun {j} h => okI (by omega) (by omega)
    have h0 : evLS (mkcf true false tabGPoints ilGPoints []) 100 ((items (bodyOf Try.f62)).take 2) ⟨t0 Try.f62 [veqs x], []⟩ (kfg 0 [2, 7, 8, 9] [] 0) = chks [okK .i64 (x.length : Nat)] (.done .normal (stPo x 0)) := by kernel_rfl
    rw [chks_true (allT1 hlx)] at h0
    refine Runs.items _ _ _ (RunsL.preS (mkokf (sy := true) (rw := false) tabokGPoints ilokGPoints JsOK.nil) (k := 2) h0 ?_)
    refine RunsL.loop (id := 0) (by kernel_rfl) (fun m s => ∃ j : Nat, s = (stPo x (j : Int)) ∧ j + m = x.length ∧ ptEq x = ptEq (x.drop j)) x.length ⟨0, rfl, Nat.zero_add _, rfl⟩ ?_
    rintro m s ⟨j, rfl, hj, hg⟩
    have hhd : ∀ i : Int, evLS (mkcf true false tabGPoints ilGPoints []) 100 ((items (loopAt (bodyOf Try.f62) 2)).take 2) (stPo x i) (kfg 0 [2, 7, 8, 9] [] 0) = chks [] (bif decide (i < (x.length : Nat)) then .done .normal (stPo x i) else .done (.exit 0) (stPo x i)) := by intro i; kernel_rfl
    have h1 := hhd (j : Int)
    rw [chks_true (by first | exact allT0 | exact allT1 hlx)] at h1
    cases m with
    | zero =>
      have hj : j = x.length := hj
      subst hj
      rw [dec_self_lt, cond_false] at h1
      rw [List.drop_length] at hg
      rw [hg]
      refine RunsL.preS (mkokf (sy := true) (rw := false) tabokGPoints ilokGPoints JsOK.nil) (k := 2) h1 ?_
      exact runsL_evS (mkokf (sy := true) (rw := false) tabokGPoints ilokGPoints JsOK.nil) (n := 100) (bs0 := []) (by kernel_rfl) (VEnt.refl _) trivial
    | succ m =>
      have hjl : j < x.length := by omega
      rw [dec_lt hjl, cond_true] at h1
      have hlp := nat_i (hpl j)
      have hp := hpl j
      have d0 := dec_nn j
      have d1 := dec_lt hjl
      refine RunsL.preS (mkokf (sy := true) (rw := false) tabokGPoints ilokGPoints JsOK.nil) (k := 2) h1 (RunsL.blkAt (id := 1) (by kernel_rfl) ?_)
      have hbk : ∀ i : Int, evLS (mkcf true false tabGPoints ilGPoints []) 100 ((items (blkAt (loopAt (bodyOf Try.f62) 2) 2)).take 4) (stPo x i) (kfg 0 [2, 7, 8, 9, 18, 19, 20] [] 0) = chks [decide (0 ≤ i), decide (i < (x.length : Nat))] (bif !rdecBP (eqA (x.getD i.toNat [])) then .done .ret (stPo x i) else chks [okK .i64 ((eqP (x.getD i.toNat [])).length : Nat)] (.done .normal (stPi x i (eqP (x.getD i.toNat [])) 0))) := by intro i; kernel_rfl
      have h2 := hbk (j : Int)
      rw [Int.toNat_natCast, d0, d1] at h2
      try rw [hlp] at h2
      rw [drop_cons hjl, ptEq] at hg
      cases hb : (!rdecBP (eqA (x.getD j []))) with
      | true =>
        rw [hb] at h2 hg
        rw [hg]
        exact RunsL.preS (mkokf (sy := true) (rw := false) tabokGPoints ilokGPoints JsOK.nil) (k := 4) h2 ⟨_, [], (by kernel_rfl), VEnt.refl _, trivial⟩
      | false =>
        rw [hb] at h2 hg
        refine RunsL.preS (mkokf (sy := true) (rw := false) tabokGPoints ilokGPoints JsOK.nil) (k := 4) h2 ?_
        refine RunsL.loop (id := 2) (by kernel_rfl) (fun m' s => ∃ q : Nat, s = (stPi x (j : Int) ((eqP (x.getD j []))) (q : Int)) ∧ q + m' = ((eqP (x.getD j []))).length ∧ ptPa ((eqP (x.getD j []))) = ptPa (((eqP (x.getD j []))).drop q)) ((eqP (x.getD j []))).length ⟨0, rfl, Nat.zero_add _, rfl⟩ ?_
        rintro m' s ⟨q, rfl, hq, hg2⟩
        have hin : ∀ (i : Int) (p : List (List D)) (q : Int), evLS (mkcf true false tabGPoints ilGPoints []) 100 (items (loopAt (blkAt (loopAt (bodyOf Try.f62) 2) 2) 4)) (stPi x i p q) (kfg 0 [2, 7, 8, 9, 18, 19, 20] [] 0) = chks [] (bif decide (q < ((p).length : Nat)) then chks [decide (0 ≤ q), decide (q < ((p).length : Nat))] (bif !rdecBP (paB ((p).getD q.toNat [])) then .done .ret (stPi x i p q) else chks [okK .i64 (q + 1)] (.done .normal (stPi x i p (q + 1)))) else .done (.exit 2) (stPi x i p q)) := by intro i p q; kernel_rfl
        have h3 := hin (j : Int) ((eqP (x.getD j []))) (q : Int)
        try rw [Int.toNat_natCast] at h3
        try rw [Int.toNat_natCast] at h3
        try rw [d0] at h3
        try rw [d1] at h3
        try rw [hlp] at h3
        cases m' with
        | zero =>
          have hq : q = ((eqP (x.getD j []))).length := hq
          subst hq
          rw [dec_self_lt] at h3
          rw [List.drop_length] at hg2
          have hg2 : ptPa ((eqP (x.getD j []))) = true := hg2
          rw [hg2] at hg
          have hout : ∀ (i : Int) (p : List (List D)) (q : Int), evLS (mkcf true false tabGPoints ilGPoints []) 100 ((items (blkAt (loopAt (bodyOf Try.f62) 2) 2)).drop 5) (stPi x i p q) (kfg 0 [2, 7, 8, 9] [] 0) = .done .normal (stPo x i) := by intro i p q; kernel_rfl
          have htl : ∀ i : Int, evLS (mkcf true false tabGPoints ilGPoints []) 100 ((items (loopAt (bodyOf Try.f62) 2)).drop 3) (stPo x i) (kfg 0 [2, 7, 8, 9] [] 0) = chks [okK .i64 (i + 1)] (.done .normal (stPo x (i + 1))) := by intro i; kernel_rfl
          refine RunsL.allS (mkokf (sy := true) (rw := false) tabokGPoints ilokGPoints JsOK.nil) h3 ?_
          refine RunsL.allS (mkokf (sy := true) (rw := false) tabokGPoints ilokGPoints JsOK.nil) (hout (j : Int) ((eqP (x.getD j []))) _) ?_
          have h4 := htl (j : Int)
          rw [chks_true (allT1 (ct hjl))] at h4
          exact RunsL.allS (mkokf (sy := true) (rw := false) tabokGPoints ilokGPoints JsOK.nil) h4 ⟨m, Nat.lt_succ_self m, j + 1, rfl, by omega, hg⟩
        | succ m' =>
          have hql : q < ((eqP (x.getD j []))).length := by omega
          rw [dec_lt hql, dec_nn q, show okK .i64 ((q : Int) + 1) = true from okI (by omega) (by omega)] at h3
          rw [drop_cons hql, ptPa] at hg2
          cases hc0 : (!rdecBP (paB (((eqP (x.getD j []))).getD q []))) with
          | true =>
            rw [hc0, cond_true] at h3 hg2
            rw [hg2, Bool.not_false, cond_true] at hg
            rw [hg]
            exact RunsL.allS (mkokf (sy := true) (rw := false) tabokGPoints ilokGPoints JsOK.nil) h3 ⟨_, [], (by kernel_rfl), VEnt.refl _, trivial⟩
          | false =>
            rw [hc0, cond_false] at h3 hg2
            exact RunsL.allS (mkokf (sy := true) (rw := false) tabokGPoints ilokGPoints JsOK.nil) h3 ⟨m', Nat.lt_succ_self m', q + 1, rfl, by omega, hg2⟩
  · cases hF
end Go.Proofs.Ytdkmcpbjicnfmaa
