/-
  The law RelateProves answers true.
-/
import Derived.Test.YtdkmcpbjicnfmaaGreatL16
import Derived.Test.YtdkmcpbjicnfmaaGreatLb96
set_option maxRecDepth 100000
namespace Go.Proofs.YtdkmcpbjicnfmaaGreat
open Go Vx Go.RowKit

theorem greatB_f {l : ByteArray} {x : List (List D)} {n : Int} (h : greatB l x n = false) : l.size ≤ 4000 ∧ x.length ≤ 40 ∧ n ≤ 200 := by
 unfold greatB at h
 by_cases h1 : (4000 : Int) < (l.size : Nat)
 · rw [decide_eq_true h1] at h; cases h
 rw [decide_eq_false h1] at h
 by_cases h2 : (40 : Int) < (x.length : Nat)
 · rw [decide_eq_true h2] at h; cases h
 rw [decide_eq_false h2] at h
 by_cases h3 : (200 : Int) < n
 · rw [decide_eq_true h3] at h; cases h
 exact ⟨by omega, by omega, by omega⟩
theorem tk_all (x : List (List D)) : List.take (0 + x.length) (List.drop 0 ([] ++ x)) = x := by rw [Nat.zero_add, List.nil_append, List.drop_zero, List.take_length]
def rowS (y : List (List D)) : Option Blk := some ⟨35, .row [.pk .u8 8 32] y⟩
def hpT (s k : List (List D)) (C : Nat) (y : List (List D)) (n : Nat) (C' : Nat) (y' : List (List D)) (n' : Nat) : Hp := [none, rowS s, none, rowS k, rowS y, prB C (.row 4 32 0 n n), rowS y', prB C' (.row 6 32 0 n' n')]
def hpF (s k : List (List D)) : Hp := [none, rowS s, none, rowS k, none, celB, none, celB]
def hpTb (k : List (List D)) (C : Nat) (y : List (List D)) (n : Nat) (C' : Nat) (y' : List (List D)) (n' : Nat) : Hp := [none, none, none, rowS k, rowS y, prB C (.row 4 32 0 n n), rowS y', prB C' (.row 6 32 0 n' n')]
def hpFb (k : List (List D)) : Hp := [none, none, none, rowS k, none, celB, none, celB]
def stL0 (t : ByteArray) (x s k : List (List D)) (b : Bool) : St := ⟨[vstr t, veqs x, vscs s, vscs k] ++ jk 4 ++ [.one (.bool b)] ++ jk 82, []⟩
def stLa (s k : List (List D)) (n m : Nat) (e e' : Int) (h : Hp) (i : Int) : St := ⟨jk 2 ++ [vscs s, vscs k] ++ jk 4 ++ [.one (.bool false), .one (.row 1 32 0 n n), .one (.row 3 32 0 m m), .one (.ptr 5 0), vi64 e, .one (.ptr 7 0), vi64 e'] ++ jk 36 ++ [vi64 (n : Nat), vi64 i] ++ jk 38, h⟩
def stLb (k : List (List D)) (m : Nat) (e e' : Int) (h : Hp) (i : Int) : St := ⟨jk 3 ++ [vscs k] ++ jk 4 ++ [.one (.bool false), .junk, .one (.row 3 32 0 m m), .one (.ptr 5 0), vi64 e, .one (.ptr 7 0), vi64 e'] ++ jk 51 ++ [vi64 (m : Nat), vi64 i] ++ jk 23, h⟩
noncomputable abbrev tabRpF : List (FuncId × FSpec) := [(33, sGProveF), (34, sRProveF)]
theorem tabokRpF : TabOK Tryz.prog (tabOf tabRpF) := .cons ok_GProveF (.cons ok_RProveF .nil)
noncomputable abbrev cRpF : Cx := mkcf true false tabRpF [] []
theorem oRpF : Ok cRpF := mkokf (sy := true) (rw := false) tabokRpF IlOK.nil JsOK.nil

noncomputable def sRelateProvesF : List D → Option (List Bool × V)
 | [.s t, .l _, .l _, .l _] => some ([decide (t.size < 9223372036854775808)], vbool' true)
 | _ => none
noncomputable def sRelateProves : FSpec := spec [tstr, teqs, tscs, tscs] sRelateProvesF
noncomputable abbrev tabRelateProves : List (FuncId × FSpec) := [(31, sGGreat), (32, sKnown11), (35, sRSame), (33, sGProveT), (34, sRProveT)]
theorem tabokRelateProves : TabOK Tryz.prog (tabOf tabRelateProves) := (.cons ok_GGreat (.cons ok_Known11 (.cons ok_RSame (.cons ok_GProveT (.cons ok_RProveT .nil)))))
noncomputable abbrev cRelateProves : Cx := mkcf true false tabRelateProves [] []
theorem oRelateProves : Ok cRelateProves := mkokf (sy := true) (rw := false) tabokRelateProves IlOK.nil JsOK.nil
theorem ok_RelateProves : FnOK Tryz.prog 6 sRelateProves := by
 refine fn_flat (cx := mkcf true false tabRelateProves [] []) (c := bodyOf Tryz.f6) Tryz.func6 (by kernel_rfl) (by kernel_rfl) rfl ?_
 intro ds chk v vs hF ht he hr base
 unfold sRelateProvesF at hF
 split at hF
 · rename_i t x s k
   cases hF
   have hvs : vs = [vstr t, veqs x, vscs s, vscs k] := by simp only [encA, encV, encP, encL, Option.some.injEq] at he; exact he.symm
   subst hvs
   have hts : t.size < 9223372036854775808 := of_decide_eq_true (ht (decide (t.size < 9223372036854775808)) (by simp))
   have hd : decide (t.size < 9223372036854775808) = true := decide_eq_true hts
   obtain ⟨_, _, hsr, hkr, _⟩ := hr
   have hls := nat_i (max_lt hsr.1)
   have hlk := nat_i (max_lt hkr.1)
   have h1 : evLS cRelateProves 100 ((items (bodyOf Tryz.f6)).take 3) ⟨t0 Tryz.f6 [vstr t, veqs x, vscs s, vscs k], []⟩ (kfg 0 [0, 1, 2, 3, 8] [] 0) =
    chks [okK .i64 (s.length : Nat), decide (t.size < 9223372036854775808)] (bif greatB t x (s.length : Nat) then .done .ret (stL0 t x s k true) else chks [okK .i64 (k.length : Nat)] (bif decide ((200 : Int) < (k.length : Nat)) then .done .ret (stL0 t x s k true) else .done .normal (stL0 t x s k false))) := by kernel_rfl
   rw [chks_true (allTc hls (allT1 hd)), chks_true (allT1 hlk)] at h1
   cases hgb : greatB t x (s.length : Nat) with
   | true =>
     rw [hgb] at h1
     exact Runs.items _ _ _ (RunsL.preS oRelateProves (k := 3) h1 ⟨_, [], (by kernel_rfl), VEnt.refl _, trivial⟩)
   | false =>
   cases hkb : decide ((200 : Int) < (k.length : Nat)) with
   | true =>
     rw [hgb, hkb] at h1
     exact Runs.items _ _ _ (RunsL.preS oRelateProves (k := 3) h1 ⟨_, [], (by kernel_rfl), VEnt.refl _, trivial⟩)
   | false =>
   rw [hgb, hkb] at h1
   obtain ⟨_, _, hs200⟩ := greatB_f hgb
   have hk200 := of_decide_eq_false hkb
   refine Runs.items _ _ _ (RunsL.preS oRelateProves (k := 3) h1 ?_)
   by_cases hz : prvE t x s k = 0
   · have h2 : evLS cRelateProves 100 (((items (bodyOf Tryz.f6)).drop 3).take 4) (stL0 t x s k false) (kfg 0 [2, 3, 8, 9, 10, 11, 12, 13, 14, 51, 52] [1, 3, 4, 5, 6, 7] 8) =
      chks [decide ((0 + s.length) * 32 ≤ 140737488355328), decide (0 + s.length < 4611686018427387904), decide ((0 + k.length) * 32 ≤ 140737488355328), decide (0 + k.length < 4611686018427387904), decide (0 + (0 + s.length) ≤ ([] ++ s).length), decide (0 + (0 + k.length) ≤ ([] ++ k).length), decide (t.size < 9223372036854775808), decide (prvE t x (List.take (0 + s.length) (List.drop 0 ([] ++ s))) (List.take (0 + k.length) (List.drop 0 ([] ++ k))) = 0), decide (t.size < 9223372036854775808), decide (prvE t x s k = 0), okK .i64 ((0 + s.length : Nat) : Int)] (.done .normal (stLa s k (0 + s.length) (0 + k.length) 0 0 (hpT s k (prvC t x (List.take (0 + s.length) (List.drop 0 ([] ++ s))) (List.take (0 + k.length) (List.drop 0 ([] ++ k)))) (prvS (prvC t x (List.take (0 + s.length) (List.drop 0 ([] ++ s))) (List.take (0 + k.length) (List.drop 0 ([] ++ k)))) (List.take (0 + s.length) (List.drop 0 ([] ++ s))) (List.take (0 + k.length) (List.drop 0 ([] ++ k))) (List.take (0 + s.length) (List.drop 0 ([] ++ s))).length) (List.take (0 + s.length) (List.drop 0 ([] ++ s))).length (prvC t x s k) (prvS (prvC t x s k) s k s.length) s.length) 0)) := by kernel_rfl
     rw [tk_all, tk_all, Nat.zero_add, Nat.zero_add, chks_true] at h2
     rotate_left 1
     · refine allTc ?_ (allTc ?_ (allTc ?_ (allTc ?_ (allTc ?_ (allTc ?_ (allTc hd (allTc (decide_eq_true hz) (allTc hd (allTc (decide_eq_true hz) (allT1 hls)))))))))) <;> (rw [decide_eq_true_iff]; first | omega | (rw [List.nil_append]; omega))

     refine RunsL.preS oRelateProves (k := 4) h2 ?_
     show RunsL cRelateProves 0 (((items (bodyOf Tryz.f6)).drop 3).drop 4) _ _
     rw [List.drop_drop]
     have hyl := prvS_len (prvC t x s k) s k s.length
     generalize prvS (prvC t x s k) s k s.length = y at *
     generalize prvC t x s k = C at *
     obtain ⟨n, hn⟩ : ∃ n, n = s.length := ⟨_, rfl⟩
     have hHp : hpT s k C y s.length C y s.length = hpT s k C y n C y n := by rw [hn]
     rw [hHp]
     rw [← hn] at hyl
     have hLa : ∀ i : Int, evLS cRelateProves 100 (items (loopAt (bodyOf Tryz.f6) 7)) (stLa s k s.length k.length 0 0 (hpT s k C y n C y n) i) (kfg 0 [2, 3, 8, 9, 10, 11, 12, 13, 14, 51, 52] [1, 3, 4, 5, 6, 7] 8) =
      bif decide (i < (s.length : Nat)) then chks [decide (0 ≤ i), decide (i < (s.length : Nat)), decide (0 + i.toNat < s.length), decide (0 ≤ i), decide (i < (s.length : Nat))]
       (bif !allB [decide (eqA (s.getD (0 + i.toNat) []) = eqA (s.getD i.toNat []))] then .done .ret (stLa s k s.length k.length 0 0 (hpT s k C y n C y n) i) else chks [okK .i64 (i + 1)] (.done .normal (stLa s k s.length k.length 0 0 (hpT s k C y n C y n) (i + 1))))
      else .done (.exit 0) (stLa s k s.length k.length 0 0 (hpT s k C y n C y n) i) := by intro i; kernel_rfl
     have hM : ∀ i : Int, evLS cRelateProves 100 (((items (bodyOf Tryz.f6)).drop 8).take 1) (stLa s k s.length k.length 0 0 (hpT s k C y n C y n) i) (kfg 0 [3, 8, 10, 11, 12, 13, 14, 66, 67] [3, 4, 5, 6, 7] 8) = chks [okK .i64 (k.length : Nat)] (.done .normal (stLb k k.length 0 0 (hpTb k C y n C y n) 0)) := by intro i; kernel_rfl
     have hLb : ∀ i : Int, evLS cRelateProves 100 (items (loopAt (bodyOf Tryz.f6) 9)) (stLb k k.length 0 0 (hpTb k C y n C y n) i) (kfg 0 [3, 8, 10, 11, 12, 13, 14, 66, 67] [3, 4, 5, 6, 7] 8) =
      bif decide (i < (k.length : Nat)) then chks [decide (0 ≤ i), decide (i < (k.length : Nat)), decide (0 + i.toNat < k.length), decide (0 ≤ i), decide (i < (k.length : Nat))]
       (bif !allB [decide (eqA (k.getD (0 + i.toNat) []) = eqA (k.getD i.toNat []))] then .done .ret (stLb k k.length 0 0 (hpTb k C y n C y n) i) else chks [okK .i64 (i + 1)] (.done .normal (stLb k k.length 0 0 (hpTb k C y n C y n) (i + 1))))
      else .done (.exit 2) (stLb k k.length 0 0 (hpTb k C y n C y n) i) := by intro i; kernel_rfl
     refine RunsL.loop (id := 0) (by kernel_rfl) (fun m st => ∃ j : Nat, st = stLa s k s.length k.length 0 0 (hpT s k C y n C y n) (j : Int) ∧ j + m = s.length) s.length ⟨0, rfl, Nat.zero_add _⟩ ?_
     rintro m st ⟨j, rfl, hj⟩
     have h7 := hLa (j : Int)
     rw [Int.toNat_natCast, Nat.zero_add, decide_eq_true (rfl : eqA (s.getD j []) = eqA (s.getD j []))] at h7
     cases m with
     | succ m =>
       have hjl : j < s.length := by omega
       rw [dec_nn, dec_lt hjl, decide_eq_true hjl, show okK .i64 ((j : Int) + 1) = true from okI (by omega) (by omega)] at h7
       exact RunsL.allS oRelateProves h7 ⟨m, Nat.lt_succ_self m, j + 1, rfl, by omega⟩
     | zero =>
     have hj : j = s.length := hj
     rw [hj, dec_self_lt, cond_false] at h7
     rw [hj]
     refine RunsL.allS oRelateProves h7 ?_
     show RunsL cRelateProves 0 ((items (bodyOf Tryz.f6)).drop 8) (stLa s k s.length k.length 0 0 (hpT s k C y n C y n) (s.length : Nat)) _
     have h8 := hM ((s.length : Nat) : Int)
     rw [chks_true (allT1 hlk)] at h8
     refine RunsL.preS oRelateProves (k := 1) h8 ?_
     show RunsL cRelateProves 0 (((items (bodyOf Tryz.f6)).drop 8).drop 1) _ _
     rw [List.drop_drop]
     refine RunsL.loop (id := 2) (by kernel_rfl) (fun m st => ∃ j : Nat, st = stLb k k.length 0 0 (hpTb k C y n C y n) (j : Int) ∧ j + m = k.length) k.length ⟨0, rfl, Nat.zero_add _⟩ ?_
     rintro m st ⟨j, rfl, hj⟩
     have h9 := hLb (j : Int)
     rw [Int.toNat_natCast, Nat.zero_add, decide_eq_true (rfl : eqA (k.getD j []) = eqA (k.getD j []))] at h9
     cases m with
     | succ m =>
       have hjl : j < k.length := by omega
       rw [dec_nn, dec_lt hjl, decide_eq_true hjl, show okK .i64 ((j : Int) + 1) = true from okI (by omega) (by omega)] at h9
       exact RunsL.allS oRelateProves h9 ⟨m, Nat.lt_succ_self m, j + 1, rfl, by omega⟩
     | zero =>
     have hj : j = k.length := hj
     rw [hj, dec_self_lt, cond_false] at h9
     rw [hj]
     refine RunsL.allS oRelateProves h9 ?_
     have hE : ∀ i : Int, evLS cRelateProves 100 ((items (bodyOf Tryz.f6)).drop 10) (stLb k k.length 0 0 (hpTb k C y n C y n) i) (kres cRelateProves Tryz.f6 base) = chks [decide (0 + n ≤ y.length), decide (0 + n ≤ y.length)] (bif sameB C ((y.drop 0).take n) C ((y.drop 0).take n) then outV (vbool' true) else outV (vbool' false)) := by intro i; kernel_rfl
     have h10 := hE ((k.length : Nat) : Int)
     rw [sameB_self, cond_true, chks_true (allTc (by rw [decide_eq_true_iff]; omega) (allT1 (by rw [decide_eq_true_iff]; omega)))] at h10
     exact runsL_evS oRelateProves (n := 100) (bs0 := []) h10 (VEnt.refl _) trivial
   · have h2 : evLS cRpF 100 (((items (bodyOf Tryz.f6)).drop 3).take 4) (stL0 t x s k false) (kfg 0 [2, 3, 8, 9, 10, 11, 12, 13, 14, 51, 52] [1, 3, 5, 7] 8) =
      chks [decide ((0 + s.length) * 32 ≤ 140737488355328), decide (0 + s.length < 4611686018427387904), decide ((0 + k.length) * 32 ≤ 140737488355328), decide (0 + k.length < 4611686018427387904), decide (0 + (0 + s.length) ≤ ([] ++ s).length), decide (0 + (0 + k.length) ≤ ([] ++ k).length), decide (t.size < 9223372036854775808), decide (prvE t x (List.take (0 + s.length) (List.drop 0 ([] ++ s))) (List.take (0 + k.length) (List.drop 0 ([] ++ k))) ≠ 0), decide (t.size < 9223372036854775808), decide (prvE t x s k ≠ 0), okK .i64 ((0 + s.length : Nat) : Int)] (.done .normal (stLa s k (0 + s.length) (0 + k.length) (prvE t x (List.take (0 + s.length) (List.drop 0 ([] ++ s))) (List.take (0 + k.length) (List.drop 0 ([] ++ k)))) (prvE t x s k) (hpF s k) 0)) := by kernel_rfl
     rw [tk_all, tk_all, Nat.zero_add, Nat.zero_add, chks_true] at h2
     rotate_left 1
     · refine allTc ?_ (allTc ?_ (allTc ?_ (allTc ?_ (allTc ?_ (allTc ?_ (allTc hd (allTc (decide_eq_true hz) (allTc hd (allTc (decide_eq_true hz) (allT1 hls)))))))))) <;> (rw [decide_eq_true_iff]; first | omega | (rw [List.nil_append]; omega))

     show RunsL cRelateProves 0 ((items (bodyOf Tryz.f6)).drop 3) (stL0 t x s k false) _
     refine RunsL.flags (cx := cRpF) (cx' := mkcf true false tabRelateProves [] []) rfl rfl ?_
     refine RunsL.preS oRpF (k := 4) h2 ?_
     show RunsL cRpF 0 (((items (bodyOf Tryz.f6)).drop 3).drop 4) _ _
     rw [List.drop_drop]
     refine RunsL.flags (cx := mkcf true false tabRelateProves [] []) (cx' := cRpF) rfl rfl ?_
     generalize prvE t x s k = e at *
     have hLa : ∀ i : Int, evLS cRelateProves 100 (items (loopAt (bodyOf Tryz.f6) 7)) (stLa s k s.length k.length e e (hpF s k) i) (kfg 0 [2, 3, 8, 9, 10, 11, 12, 13, 14, 51, 52] [1, 3, 5, 7] 8) =
      bif decide (i < (s.length : Nat)) then chks [decide (0 ≤ i), decide (i < (s.length : Nat)), decide (0 + i.toNat < s.length), decide (0 ≤ i), decide (i < (s.length : Nat))]
       (bif !allB [decide (eqA (s.getD (0 + i.toNat) []) = eqA (s.getD i.toNat []))] then .done .ret (stLa s k s.length k.length e e (hpF s k) i) else chks [okK .i64 (i + 1)] (.done .normal (stLa s k s.length k.length e e (hpF s k) (i + 1))))
      else .done (.exit 0) (stLa s k s.length k.length e e (hpF s k) i) := by intro i; kernel_rfl
     have hM : ∀ i : Int, evLS cRelateProves 100 (((items (bodyOf Tryz.f6)).drop 8).take 1) (stLa s k s.length k.length e e (hpF s k) i) (kfg 0 [3, 8, 10, 11, 12, 13, 14, 66, 67] [3, 5, 7] 8) = chks [okK .i64 (k.length : Nat)] (.done .normal (stLb k k.length e e (hpFb k) 0)) := by intro i; kernel_rfl
     have hLb : ∀ i : Int, evLS cRelateProves 100 (items (loopAt (bodyOf Tryz.f6) 9)) (stLb k k.length e e (hpFb k) i) (kfg 0 [3, 8, 10, 11, 12, 13, 14, 66, 67] [3, 5, 7] 8) =
      bif decide (i < (k.length : Nat)) then chks [decide (0 ≤ i), decide (i < (k.length : Nat)), decide (0 + i.toNat < k.length), decide (0 ≤ i), decide (i < (k.length : Nat))]
       (bif !allB [decide (eqA (k.getD (0 + i.toNat) []) = eqA (k.getD i.toNat []))] then .done .ret (stLb k k.length e e (hpFb k) i) else chks [okK .i64 (i + 1)] (.done .normal (stLb k k.length e e (hpFb k) (i + 1))))
      else .done (.exit 2) (stLb k k.length e e (hpFb k) i) := by intro i; kernel_rfl
     refine RunsL.loop (id := 0) (by kernel_rfl) (fun m st => ∃ j : Nat, st = stLa s k s.length k.length e e (hpF s k) (j : Int) ∧ j + m = s.length) s.length ⟨0, rfl, Nat.zero_add _⟩ ?_
     rintro m st ⟨j, rfl, hj⟩
     have h7 := hLa (j : Int)
     rw [Int.toNat_natCast, Nat.zero_add, decide_eq_true (rfl : eqA (s.getD j []) = eqA (s.getD j []))] at h7
     cases m with
     | succ m =>
       have hjl : j < s.length := by omega
       rw [dec_nn, dec_lt hjl, decide_eq_true hjl, show okK .i64 ((j : Int) + 1) = true from okI (by omega) (by omega)] at h7
       exact RunsL.allS oRelateProves h7 ⟨m, Nat.lt_succ_self m, j + 1, rfl, by omega⟩
     | zero =>
     have hj : j = s.length := hj
     rw [hj, dec_self_lt, cond_false] at h7
     rw [hj]
     refine RunsL.allS oRelateProves h7 ?_
     show RunsL cRelateProves 0 ((items (bodyOf Tryz.f6)).drop 8) (stLa s k s.length k.length e e (hpF s k) (s.length : Nat)) _
     have h8 := hM ((s.length : Nat) : Int)
     rw [chks_true (allT1 hlk)] at h8
     refine RunsL.preS oRelateProves (k := 1) h8 ?_
     show RunsL cRelateProves 0 (((items (bodyOf Tryz.f6)).drop 8).drop 1) _ _
     rw [List.drop_drop]
     refine RunsL.loop (id := 2) (by kernel_rfl) (fun m st => ∃ j : Nat, st = stLb k k.length e e (hpFb k) (j : Int) ∧ j + m = k.length) k.length ⟨0, rfl, Nat.zero_add _⟩ ?_
     rintro m st ⟨j, rfl, hj⟩
     have h9 := hLb (j : Int)
     rw [Int.toNat_natCast, Nat.zero_add, decide_eq_true (rfl : eqA (k.getD j []) = eqA (k.getD j []))] at h9
     cases m with
     | succ m =>
       have hjl : j < k.length := by omega
       rw [dec_nn, dec_lt hjl, decide_eq_true hjl, show okK .i64 ((j : Int) + 1) = true from okI (by omega) (by omega)] at h9
       exact RunsL.allS oRelateProves h9 ⟨m, Nat.lt_succ_self m, j + 1, rfl, by omega⟩
     | zero =>
     have hj : j = k.length := hj
     rw [hj, dec_self_lt, cond_false] at h9
     rw [hj]
     refine RunsL.allS oRelateProves h9 ?_
     have hE : ∀ i : Int, evLS cRelateProves 100 ((items (bodyOf Tryz.f6)).drop 10) (stLb k k.length e e (hpFb k) i) (kres cRelateProves Tryz.f6 base) = bif decide (e = e) then outV (vbool' true) else outV (vbool' false) := by intro i; kernel_rfl
     have h10 := hE ((k.length : Nat) : Int)
     rw [decide_eq_true rfl, cond_true] at h10
     exact runsL_evS oRelateProves (n := 100) (bs0 := []) h10 (VEnt.refl _) trivial
 · cases hF
end Go.Proofs.YtdkmcpbjicnfmaaGreat
