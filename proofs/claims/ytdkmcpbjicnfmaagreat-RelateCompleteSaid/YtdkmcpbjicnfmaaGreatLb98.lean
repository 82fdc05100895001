/-
  A system that scalars meet: the law's 'made', a call in its midst.
-/
import Derived.Test.YtdkmcpbjicnfmaaGreatL16
set_option maxRecDepth 100000
namespace Go.Proofs.YtdkmcpbjicnfmaaGreat
open Go Vx Go.RowKit

noncomputable def kfgR (n0 : Nat) (kt kh : List Nat) (m : Nat) (mv : List (Nat × Nat)) (m' : Nat) (kt2 kh2 : List Nat) (m2 : Nat) (kt3 kh3 : List Nat) (m3 : Nat) : Ex → St → Out := fun e s =>
 match e with
 | .normal => kfgN n0 kt kh m mv m' .normal s
 | .exit i => kfg n0 kt2 kh2 m2 (.exit i) s
 | .ret => kfg n0 kt3 kh3 m3 .ret s
theorem kfg_end {cx : Cx} {n0 : Nat} {kt kh : List Nat} {m : Nat} {st st' : St} {e e2 : Ex} {R : Ex → St → Prop} (hκ : kfg n0 kt kh m e2 st = .done e st') (hR : R e st') : e = e2 ∧ RunsL cx n0 [] st (fun _ s' => R e s') := by
 unfold kfg at hκ
 split at hκ
 · rename_i s' hf
   cases hκ
   refine ⟨rfl, ?_⟩
   intro w0 W σ0 σ a w q hn hs hr hq
   obtain ⟨σ', h1, h2⟩ := Rep.forget hf hn hs hr
   exact hq st' σ' hR h1 h2
 · cases hκ
theorem kfgR_sound {cx : Cx} (hro : cx.ro = 0) {n0 : Nat} {kt kh : List Nat} {m m' : Nat} {mv : List (Nat × Nat)} {kt2 kh2 : List Nat} {m2 : Nat} {kt3 kh3 : List Nat} {m3 : Nat} {st st' : St} {e e2 : Ex} {R : Ex → St → Prop}
 (hκ : kfgR n0 kt kh m mv m' kt2 kh2 m2 kt3 kh3 m3 e2 st = .done e st') (hR : R e st') : e = e2 ∧ RunsL cx n0 [] st (fun _ s' => R e s') := by
 cases e2 with
 | normal => exact kfgN_sound hro hκ hR
 | exit i => exact kfg_end hκ hR
 | ret => exact kfg_end hκ hR
theorem RunsL.allR {cx : Cx} (hk : Ok cx) (hro : cx.ro = 0) {n0 n : Nat} {kt kh : List Nat} {m m' : Nat} {mv : List (Nat × Nat)} {kt2 kh2 : List Nat} {m2 : Nat} {kt3 kh3 : List Nat} {m3 : Nat} {l : List Code} {st st' : St} {e : Ex} {R : Ex → St → Prop}
 (h : evLS cx n l st (kfgR n0 kt kh m mv m' kt2 kh2 m2 kt3 kh3 m3) = .done e st') (hR : R e st') : RunsL cx n0 l st R := by
 refine evL_sound hk (out := .done e st') trivial (by rw [← evLS_eq]; exact h) ?_
 intro e2 s hκ
 obtain ⟨h1, h2⟩ := kfgR_sound (R := R) hro hκ hR
 subst h1
 exact h2
theorem RunsL.preR {cx : Cx} (hk : Ok cx) (hro : cx.ro = 0) {n0 n k : Nat} {kt kh : List Nat} {m m' : Nat} {mv : List (Nat × Nat)} {kt2 kh2 : List Nat} {m2 : Nat} {kt3 kh3 : List Nat} {m3 : Nat} {l : List Code} {st st' : St} {e : Ex} {R : Ex → St → Prop}
 (h : evLS cx n (l.take k) st (kfgR n0 kt kh m mv m' kt2 kh2 m2 kt3 kh3 m3) = .done e st') (hR : andThen (fun s => RunsL cx n0 (l.drop k) s R) R e st') : RunsL cx n0 l st R := by
 rw [← List.take_append_drop k l]
 refine RunsL.append (RunsL.allR hk hro h hR)
noncomputable def ptsB : List (List D) → Bool
 | [] => true
 | e :: l => bif !ptPa (eqP e) then false else ptsB l
noncomputable def madeB (x s : List (List D)) : Bool := bif !rgtB 0 x (s.length : Nat) then false else bif !allSc s then false else ptsB x
noncomputable def mdX (s x : List (List D)) : List (List D) := x.map fun e => [.n (comN s (eqP e)), .l (eqP e)]
theorem mdX_cons (s : List (List D)) {x : List (List D)} {j : Nat} (h : j < x.length) : mdX s (x.drop j) = [.n (comN s (eqP (x.getD j []))), .l (eqP (x.getD j []))] :: mdX s (x.drop (j + 1)) := by
 rw [drop_cons h]; rfl
theorem mdX_len (s x : List (List D)) : (mdX s x).length = x.length := by unfold mdX; rw [List.length_map]
def rowE (y : List (List D)) : Hp := [some ⟨105, .row [.pk .u8 8 32, .sl [.int .i64, .pk .u8 8 32]] y⟩]
abbrev rwE (n : Nat) : V := .one (.row 1 33 0 n n)
def stMg (x s : List (List D)) (v : V) (h : Hp) (i : Int) : St := ⟨[veqs x, vscs s] ++ jk 2 ++ [vnil, .one (.bool false), v] ++ jk 13 ++ [vi64 (x.length : Nat), vi64 i] ++ jk 40, [none] ++ h⟩
def stMh (x s : List (List D)) (v : V) (h : Hp) (i : Int) (p : List (List D)) (j : Int) : St := ⟨[veqs x, vscs s] ++ jk 2 ++ [vnil, .one (.bool false), v, vi64 i] ++ jk 12 ++ [vi64 (x.length : Nat), vi64 i] ++ jk 6 ++ [vprt p, vi64 (p.length : Nat), vi64 j] ++ jk 31, [none] ++ h⟩
def stNo : St := ⟨jk 4 ++ [vnil, .one (.bool false)] ++ jk 56, [none]⟩
def stYes (y : List (List D)) (n : Nat) : St := ⟨jk 4 ++ [rwE n, .one (.bool true)] ++ jk 56, [none] ++ rowE y⟩
def madeR (x s : List (List D)) : Ex → St → Prop := fun e st => e = .ret ∧ ((madeB x s = true ∧ st = stYes (mdX s x) x.length) ∨ (madeB x s = false ∧ st = stNo))
noncomputable abbrev tabMd : List (FuncId × FSpec) := [(76, sRRight), (38, sRScalars), (73, sAIsPoint), (84, sRCommit)]
theorem tabokMd : TabOK Tryz.prog (tabOf tabMd) := .cons ok_RRight (.cons ok_RScalars (.cons ok_AIsPoint (.cons ok_RCommit .nil)))
noncomputable abbrev ilMd : List (FuncId × Func) := []
noncomputable abbrev cMd : Cx := mkcf true false tabMd ilMd []
theorem oMd : Ok cMd := mkokf (sy := true) (rw := false) tabokMd IlOK.nil JsOK.nil

theorem run_made (x s : List (List D)) (hrng : rngV (veqs x)) (hsr : rngV (vscs s)) : Runs cMd 1 (bodyOf Tryz.f39) ⟨t0 Tryz.f39 [veqs x, vscs s], [none]⟩ (madeR x s) := by
 have hx := max_lt hrng.1
 have hlx := nat_i hx
 have hls := nat_i (max_lt hsr.1)
 have hpl := eqs_len hrng.2
 have hA : evLS cMd 100 ((items (bodyOf Tryz.f39)).take 5) ⟨t0 Tryz.f39 [veqs x, vscs s], [none]⟩ (kfgR 1 [0, 1, 4, 5, 6, 20, 21] [] 1 [] 1 [0, 1, 4, 5, 6, 20, 21] [] 1 [4, 5] [] 1) =
  chks [okK .i64 (s.length : Nat)] (bif !rgtB 0 x (s.length : Nat) then .done .ret stNo else bif !allSc s then .done .ret stNo else chks [okK .i64 (x.length : Nat)] (.done .normal (stMg x s vnil [] 0))) := by kernel_rfl
 rw [chks_true (allT1 hls), chks_true (allT1 hlx)] at hA
 cases h1 : rgtB 0 x (s.length : Nat) with
 | false =>
   rw [h1] at hA
   exact Runs.items _ _ _ (RunsL.preR oMd rfl (k := 5) hA ⟨rfl, .inr ⟨by unfold madeB; rw [h1]; rfl, rfl⟩⟩)
 | true =>
 cases h2 : allSc s with
 | false =>
   rw [h1, h2] at hA
   exact Runs.items _ _ _ (RunsL.preR oMd rfl (k := 5) hA ⟨rfl, .inr ⟨by unfold madeB; rw [h1, h2]; rfl, rfl⟩⟩)
 | true =>
 rw [h1, h2] at hA
 have hB : madeB x s = ptsB x := by unfold madeB; rw [h1, h2]; rfl
 obtain ⟨g1, g2, g3, g4, g5, g6⟩ := rgtB_t h1
 have hhd0 : ∀ (i : Int), evLS cMd 100 ((items (loopAt (bodyOf Tryz.f39) 5)).take 2) (stMg x s vnil [] i) (kfg 1 [0, 1, 4, 5, 6, 20, 21] [] 1) = bif decide (i < (x.length : Nat)) then .done .normal (stMg x s vnil [] i) else .done (.exit 0) (stMg x s vnil [] i) := by intro i; kernel_rfl
 have hhd1 : ∀ (i : Int) (y : List (List D)) (n : Nat), evLS cMd 100 ((items (loopAt (bodyOf Tryz.f39) 5)).take 2) (stMg x s (rwE n) (rowE y) i) (kfg 1 [0, 1, 4, 5, 6, 20, 21] [1] 2) = bif decide (i < (x.length : Nat)) then .done .normal (stMg x s (rwE n) (rowE y) i) else .done (.exit 0) (stMg x s (rwE n) (rowE y) i) := by intro i y n; kernel_rfl
 have hbk0 : ∀ (i : Int), evLS cMd 100 ((items (blkAt (loopAt (bodyOf Tryz.f39) 5) 2)).take 2) (stMg x s vnil [] i) (kfg 1 [0, 1, 4, 5, 6, 7, 20, 21, 28, 29, 30] [] 1) = chks [decide (0 ≤ i), decide (i < (x.length : Nat)), okK .i64 ((eqP (x.getD i.toNat [])).length : Nat)] (.done .normal (stMh x s vnil [] i (eqP (x.getD i.toNat [])) 0)) := by intro i; kernel_rfl
 have hbk1 : ∀ (i : Int) (y : List (List D)) (n : Nat), evLS cMd 100 ((items (blkAt (loopAt (bodyOf Tryz.f39) 5) 2)).take 2) (stMg x s (rwE n) (rowE y) i) (kfg 1 [0, 1, 4, 5, 6, 7, 20, 21, 28, 29, 30] [1] 2) = chks [decide (0 ≤ i), decide (i < (x.length : Nat)), okK .i64 ((eqP (x.getD i.toNat [])).length : Nat)] (.done .normal (stMh x s (rwE n) (rowE y) i (eqP (x.getD i.toNat [])) 0)) := by intro i y n; kernel_rfl
 have hin0 : ∀ (i : Int) (p : List (List D)) (q : Int), evLS cMd 100 (items (loopAt (blkAt (loopAt (bodyOf Tryz.f39) 5) 2) 2)) (stMh x s vnil [] i p q) (kfgR 1 [0, 1, 4, 5, 6, 7, 20, 21, 28, 29, 30] [] 1 [] 1 [0, 1, 4, 5, 6, 7, 20, 21, 28, 29, 30] [] 1 [4, 5] [] 1) = bif decide (q < (p.length : Nat)) then chks [decide (0 ≤ i), decide (i < (x.length : Nat)), decide (0 ≤ q), decide (q < ((eqP (x.getD i.toNat [])).length : Nat))] (bif !rdecBP (paB ((eqP (x.getD i.toNat [])).getD q.toNat [])) then .done .ret stNo else chks [okK .i64 (q + 1)] (.done .normal (stMh x s vnil [] i p (q + 1)))) else .done (.exit 2) (stMh x s vnil [] i p q) := by intro i p q; kernel_rfl
 have hin1 : ∀ (i : Int) (p : List (List D)) (q : Int) (y : List (List D)) (n : Nat), evLS cMd 100 (items (loopAt (blkAt (loopAt (bodyOf Tryz.f39) 5) 2) 2)) (stMh x s (rwE n) (rowE y) i p q) (kfgR 1 [0, 1, 4, 5, 6, 7, 20, 21, 28, 29, 30] [1] 2 [] 2 [0, 1, 4, 5, 6, 7, 20, 21, 28, 29, 30] [1] 2 [4, 5] [] 1) = bif decide (q < (p.length : Nat)) then chks [decide (0 ≤ i), decide (i < (x.length : Nat)), decide (0 ≤ q), decide (q < ((eqP (x.getD i.toNat [])).length : Nat))] (bif !rdecBP (paB ((eqP (x.getD i.toNat [])).getD q.toNat [])) then .done .ret stNo else chks [okK .i64 (q + 1)] (.done .normal (stMh x s (rwE n) (rowE y) i p (q + 1)))) else .done (.exit 2) (stMh x s (rwE n) (rowE y) i p q) := by intro i p q y n; kernel_rfl
 have hfin0 : ∀ (i : Int) (p : List (List D)) (q : Int), evLS cMd 100 ((items (blkAt (loopAt (bodyOf Tryz.f39) 5) 2)).drop 3) (stMh x s vnil [] i p q) (kfgN 1 [0, 1, 4, 5, 6, 20, 21] [3] 4 [(3, 1)] 2) = chks [decide (0 ≤ i), decide (i < (x.length : Nat)), goodPa (s.length : Nat) (eqP (x.getD i.toNat [])), decide ((eqP (x.getD i.toNat [])).length < 1099511627776), decide (0 ≤ i), decide (i < (x.length : Nat))] (.done .normal (stMg x s (rwE 1) (rowE [[.n (comN s (eqP (x.getD i.toNat []))), .l (eqP (x.getD i.toNat []))]]) i)) := by intro i p q; kernel_rfl
 have hfin1 : ∀ (i : Int) (p : List (List D)) (q : Int) (y : List (List D)) (n : Nat), evLS cMd 100 ((items (blkAt (loopAt (bodyOf Tryz.f39) 5) 2)).drop 3) (stMh x s (rwE n) (rowE y) i p q) (kfgN 1 [0, 1, 4, 5, 6, 20, 21] [4] 5 [(4, 1)] 2) = chks [decide (0 ≤ i), decide (i < (x.length : Nat)), goodPa (s.length : Nat) (eqP (x.getD i.toNat [])), decide ((eqP (x.getD i.toNat [])).length < 1099511627776), decide (0 ≤ i), decide (i < (x.length : Nat)), decide (n ≤ y.length), decide (n ≤ n), decide ((n + 1) * 56 ≤ 140737488355328), decide (n + 1 < 4611686018427387904)] (.done .normal (stMg x s (rwE (n + 1)) (rowE (y.take n ++ [[.n (comN s (eqP (x.getD i.toNat []))), .l (eqP (x.getD i.toNat []))]])) i)) := by intro i p q y n; kernel_rfl
 have htl1 : ∀ (i : Int) (y : List (List D)) (n : Nat), evLS cMd 100 ((items (loopAt (bodyOf Tryz.f39) 5)).drop 3) (stMg x s (rwE n) (rowE y) i) (kfg 1 [0, 1, 4, 5, 6, 20, 21] [1] 2) = chks [okK .i64 (i + 1)] (.done .normal (stMg x s (rwE n) (rowE y) (i + 1))) := by intro i y n; kernel_rfl
 have hend1 : ∀ (i : Int) (y : List (List D)) (n : Nat), evLS cMd 100 ((items (bodyOf Tryz.f39)).drop 6) (stMg x s (rwE n) (rowE y) i) (kfg 1 [4, 5] [1] 2) = .done .ret (stYes y n) := by intro i y n; kernel_rfl
 refine Runs.items _ _ _ (RunsL.preR oMd rfl (k := 5) hA ?_)
 refine RunsL.loop (id := 0) (by kernel_rfl) (fun m st => ∃ j : Nat, j + m = x.length ∧ ptsB x = ptsB (x.drop j) ∧ ((j = 0 ∧ st = stMg x s vnil [] 0) ∨ (1 ≤ j ∧ ∃ y, st = stMg x s (rwE y.length) (rowE y) (j : Int) ∧ y.length = j ∧ mdX s x = y ++ mdX s (x.drop j)))) x.length ⟨0, Nat.zero_add _, rfl, .inl ⟨rfl, rfl⟩⟩ ?_
 rintro m st ⟨j, hj, hg, hs⟩
 cases m with
 | zero =>
   have hj : j = x.length := hj
   rcases hs with ⟨h0, _⟩ | ⟨_, y, rfl, hy, hc⟩
   · omega
   · have h7 := hhd1 (j : Int) y y.length
     rw [hj, dec_self_lt, cond_false] at h7
     rw [hj, List.drop_length] at hg
     rw [hj, List.drop_length, show mdX s [] = [] from rfl, List.append_nil] at hc
     rw [hj]
     refine RunsL.preS oMd (k := 2) h7 ?_
     refine RunsL.allS oMd (hend1 _ y y.length) ⟨rfl, .inl ⟨hB.trans hg, ?_⟩⟩
     rw [hc, hy, hj]
 | succ m =>
   have hjl : j < x.length := by omega
   obtain ⟨p1, p2⟩ := goodEq_at g6 hjl
   have hlp := nat_i (hpl j)
   have d0 := dec_nn j
   have d1 := dec_lt hjl
   have d4 : decide ((eqP (x.getD j [])).length < 1099511627776) = true := by rw [decide_eq_true_iff]; omega
   rw [drop_cons hjl, ptsB] at hg
   rcases hs with ⟨hj1, rfl⟩ | ⟨_, y, rfl, hy, hc⟩
   · have e0 : stMg x s vnil [] 0 = stMg x s vnil [] (j : Int) := by rw [hj1]; rfl
     rw [e0]
     have h1 := hhd0 (j : Int)
     rw [dec_lt hjl, cond_true] at h1
     refine RunsL.preS oMd (k := 2) h1 (RunsL.blkAt (id := 1) (by kernel_rfl) ?_)
     have h2 := hbk0 (j : Int)
     rw [Int.toNat_natCast, chks_true (allTc d0 (allTc d1 (allT1 hlp)))] at h2
     refine RunsL.preS oMd (k := 2) h2 ?_
     refine RunsL.loop (id := 2) (by kernel_rfl) (fun m' st => ∃ q : Nat, st = stMh x s vnil [] (j : Int) (eqP (x.getD j [])) (q : Int) ∧ q + m' = (eqP (x.getD j [])).length ∧ ptPa (eqP (x.getD j [])) = ptPa ((eqP (x.getD j [])).drop q)) (eqP (x.getD j [])).length ⟨0, rfl, Nat.zero_add _, rfl⟩ ?_
     rintro m' st ⟨q, rfl, hq, hg2⟩
     have h3 := hin0 (j : Int) (eqP (x.getD j [])) (q : Int)
     rw [Int.toNat_natCast] at h3
     cases m' with
     | zero =>
       have hq : q = (eqP (x.getD j [])).length := hq
       rw [hq, dec_self_lt, cond_false] at h3
       rw [hq, List.drop_length] at hg2
       have hg2 : ptPa (eqP (x.getD j [])) = true := hg2
       rw [hg2] at hg
       rw [hq]
       refine RunsL.allR oMd rfl h3 ?_
       have h4 := hfin0 (j : Int) (eqP (x.getD j [])) ((eqP (x.getD j [])).length : Nat)
       rw [Int.toNat_natCast, chks_true (allTc d0 (allTc d1 (allTc p2 (allTc d4 (allTc d0 (allT1 d1))))))] at h4
       refine RunsL.allN oMd rfl h4 ?_
       have h5 := htl1 (j : Int) [[.n (comN s (eqP (x.getD j []))), .l (eqP (x.getD j []))]] 1
       rw [chks_true (allT1 (okI (by omega) (by omega)))] at h5
       refine RunsL.allS oMd h5 ⟨m, Nat.lt_succ_self m, j + 1, by omega, hg, .inr ⟨by omega, [[.n (comN s (eqP (x.getD j []))), .l (eqP (x.getD j []))]], rfl, by rw [hj1]; rfl, ?_⟩⟩
       have := mdX_cons s hjl
       rw [hj1, List.drop_zero] at this
       rw [hj1]
       exact this
     | succ m' =>
       have hql : q < (eqP (x.getD j [])).length := by omega
       rw [Int.toNat_natCast, dec_lt hql, d0, d1, dec_nn q, show okK .i64 ((q : Int) + 1) = true from okI (by omega) (by omega)] at h3
       rw [drop_cons hql, ptPa] at hg2
       cases hc0 : (!rdecBP (paB ((eqP (x.getD j [])).getD q []))) with
       | true =>
         rw [hc0, cond_true] at hg2
         rw [hc0] at h3
         rw [hg2] at hg
         exact RunsL.allR oMd rfl h3 ⟨rfl, .inr ⟨hB.trans hg, rfl⟩⟩
       | false =>
         rw [hc0, cond_false] at hg2
         rw [hc0] at h3
         exact RunsL.allR oMd rfl h3 ⟨m', Nat.lt_succ_self m', q + 1, rfl, by omega, hg2⟩
   · skip
     have h1 := hhd1 (j : Int) y y.length
     rw [dec_lt hjl, cond_true] at h1
     refine RunsL.preS oMd (k := 2) h1 (RunsL.blkAt (id := 1) (by kernel_rfl) ?_)
     have h2 := hbk1 (j : Int) y y.length
     rw [Int.toNat_natCast, chks_true (allTc d0 (allTc d1 (allT1 hlp)))] at h2
     refine RunsL.preS oMd (k := 2) h2 ?_
     refine RunsL.loop (id := 2) (by kernel_rfl) (fun m' st => ∃ q : Nat, st = stMh x s (rwE y.length) (rowE y) (j : Int) (eqP (x.getD j [])) (q : Int) ∧ q + m' = (eqP (x.getD j [])).length ∧ ptPa (eqP (x.getD j [])) = ptPa ((eqP (x.getD j [])).drop q)) (eqP (x.getD j [])).length ⟨0, rfl, Nat.zero_add _, rfl⟩ ?_
     rintro m' st ⟨q, rfl, hq, hg2⟩
     have h3 := hin1 (j : Int) (eqP (x.getD j [])) (q : Int) y y.length
     rw [Int.toNat_natCast] at h3
     cases m' with
     | zero =>
       have hq : q = (eqP (x.getD j [])).length := hq
       rw [hq, dec_self_lt, cond_false] at h3
       rw [hq, List.drop_length] at hg2
       have hg2 : ptPa (eqP (x.getD j [])) = true := hg2
       rw [hg2] at hg
       rw [hq]
       refine RunsL.allR oMd rfl h3 ?_
       have h4 := hfin1 (j : Int) (eqP (x.getD j [])) ((eqP (x.getD j [])).length : Nat) y y.length
       rw [Int.toNat_natCast, chks_true (allTc d0 (allTc d1 (allTc p2 (allTc d4 (allTc d0 (allTc d1 (allTc (by rw [decide_eq_true_iff]; omega) (allTc (by rw [decide_eq_true_iff]; omega) (allTc (by rw [decide_eq_true_iff]; omega) (allT1 (by rw [decide_eq_true_iff]; omega)))))))))))] at h4
       rw [List.take_length] at h4
       refine RunsL.allN oMd rfl h4 ?_
       have h5 := htl1 (j : Int) (y ++ [[.n (comN s (eqP (x.getD j []))), .l (eqP (x.getD j []))]]) (y.length + 1)
       rw [chks_true (allT1 (okI (by omega) (by omega)))] at h5
       refine RunsL.allS oMd h5 ⟨m, Nat.lt_succ_self m, j + 1, by omega, hg, .inr ⟨by omega, y ++ [[.n (comN s (eqP (x.getD j []))), .l (eqP (x.getD j []))]], by rw [List.length_append]; rfl, by rw [List.length_append, hy]; rfl, ?_⟩⟩
       rw [hc, mdX_cons s hjl, List.append_assoc]
       rfl
     | succ m' =>
       have hql : q < (eqP (x.getD j [])).length := by omega
       rw [Int.toNat_natCast, dec_lt hql, d0, d1, dec_nn q, show okK .i64 ((q : Int) + 1) = true from okI (by omega) (by omega)] at h3
       rw [drop_cons hql, ptPa] at hg2
       cases hc0 : (!rdecBP (paB ((eqP (x.getD j [])).getD q []))) with
       | true =>
         rw [hc0, cond_true] at hg2
         rw [hc0] at h3
         rw [hg2] at hg
         exact RunsL.allR oMd rfl h3 ⟨rfl, .inr ⟨hB.trans hg, rfl⟩⟩
       | false =>
         rw [hc0, cond_false] at hg2
         rw [hc0] at h3
         exact RunsL.allR oMd rfl h3 ⟨m', Nat.lt_succ_self m', q + 1, rfl, by omega, hg2⟩

theorem call_madeT {x s : List (List D)} (hrng : rngV (veqs x)) (hsr : rngV (vscs s)) (h : madeB x s = true) : CallOK Tryz.prog 0 39 [veqs x, vscs s] [none] (.tup [.one (.row 1 33 0 x.length x.length), .one (.bool true)]) ([none] ++ rowE (mdX s x)) := by
 refine CallOK.of_runs (cx := cMd) (fn := Tryz.f39) (c := (bodyOf Tryz.f39)) Tryz.func39 (by kernel_rfl) (by kernel_rfl) ?_
 refine Runs.mono (run_made x s hrng hsr) fun e st hR => ?_
 obtain ⟨rfl, ⟨_, rfl⟩ | ⟨h2, _⟩⟩ := hR
 · exact ⟨.inr rfl, by kernel_rfl, rfl⟩
 · rw [h] at h2; cases h2
theorem call_madeF {x s : List (List D)} (hrng : rngV (veqs x)) (hsr : rngV (vscs s)) (h : madeB x s = false) : CallOK Tryz.prog 0 39 [veqs x, vscs s] [none] (.tup [.one .nilsl, .one (.bool false)]) [none] := by
 refine CallOK.of_runs (cx := cMd) (fn := Tryz.f39) (c := (bodyOf Tryz.f39)) Tryz.func39 (by kernel_rfl) (by kernel_rfl) ?_
 refine Runs.mono (run_made x s hrng hsr) fun e st hR => ?_
 obtain ⟨rfl, ⟨h2, _⟩ | ⟨_, rfl⟩⟩ := hR
 · rw [h] at h2; cases h2
 · exact ⟨.inr rfl, by kernel_rfl, rfl⟩
end Go.Proofs.YtdkmcpbjicnfmaaGreat
