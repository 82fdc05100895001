/-
  The contract of Verify of relations.
-/
import Derived.Test.YtdkmcpbjicnfmaaGreatLb84
import Derived.Test.YtdkmcpbjicnfmaaGreatL8
set_option maxRecDepth 100000
namespace Go.Proofs.YtdkmcpbjicnfmaaGreat
open Go Vx Go.RowKit

def hV (c : Nat) (s : List (List D)) (m : Nat) : Hp := [some ⟨58, .ps [.pk .u8 8 32 c, .rd [.pk .u8 8 32] s]⟩, some ⟨35, .ps [.pk .u8 8 32 m]⟩, none, none]
def cloV : V := .one (.clo 86 [(0, 0), (1, 0)])
def trC (m a : Nat) : C := .ps [.pk .u8 8 32 m, .pk .u8 8 32 a]
def hWc (c : Nat) (s : List (List D)) (m : Nat) (e : List D) (X : List (List D)) (n : Nat) (t : C) : Hp := hV c s m ++ scrH X n ++ [qbl e, none, none, qbl e, some ⟨37, .ps ub0⟩, some ⟨97, t⟩, none]
def stWc (s : List (List D)) (e : List D) (v : V) (h : Hp) (i : Int) : St := ⟨[.junk, vscs s, v] ++ jk 3 ++ [.one (.ptr 15 0)] ++ jk 5 ++ [vprt (eqP e), vi64 ((eqP e).length : Nat), vi64 i] ++ jk 21, h⟩
def sl12 : V := .one (.sl 12 0 1 1)
def stWa (c : Nat) (s : List (List D)) (m : Nat) (e : List D) (X : List (List D)) (n : Nat) (i : Int) : St := stWc s e sl12 (hWc c s m e X n (trC m (eqA e)) ++ [none, some ⟨37, .ps ub0⟩]) i
def stWb (c : Nat) (s : List (List D)) (m : Nat) (e : List D) (X : List (List D)) (n : Nat) (y : List (List D)) (k : Nat) (i : Int) : St := stWc s e (.one (.row 16 64 0 k k)) (hWc c s m e X n .dead ++ [none, some ⟨37, .ps ub0⟩, trow y]) i
def stWe (c : Nat) (s : List (List D)) (m : Nat) (e : List D) (X : List (List D)) (n : Nat) (t : C) (r : Nat) : St := ⟨jk 6 ++ [.one (.ptr 15 0)] ++ jk 29, hWc c s m e X n t ++ [none, some ⟨37, .ps [.pk .u8 8 32 r]⟩]⟩
theorem stWe_ent (c : Nat) (s : List (List D)) (m : Nat) (e : List D) (X : List (List D)) (n : Nat) (t : List L) (r : Nat) : StEntG (stWe c s m e X n (.ps t) r) (stWe c s m e X n .dead r) := by
 refine ⟨rfl, fun _ => .inl rfl, fun j => ?_⟩
 match j with
 | 0 | 1 | 2 | 3 | 4 | 5 | 6 | 7 | 8 | 9 | 10 | 11 => exact .inl rfl
 | 12 => exact .inr ⟨_, _, _, rfl, rfl, fun _ _ _ => trivial, fun _ => rfl, fun ts h => by cases h⟩
 | j + 13 => exact .inl rfl
noncomputable abbrev tabCV : List (FuncId × FSpec) := [(59, sASum)]
theorem tabokCV : TabOK Tryz.prog (tabOf tabCV) := .cons ok_ASum .nil
noncomputable abbrev ilCV : List (FuncId × Func) := []
noncomputable abbrev cCV : Cx := mkcf true false tabCV ilCV []
theorem oCV : Ok cCV := mkokf (sy := true) (rw := false) tabokCV IlOK.nil JsOK.nil
theorem call_CV (c : Nat) (s : List (List D)) (m : Nat) (e : List D) (X : List (List D)) (n : Nat) (hgp : goodPa (s.length : Nat) (eqP e) = true) (hpl : (eqP e).length ≤ 16) :
 CallOK Tryz.prog 0 80 [veqn (eqA e) (eqP e), vscs s, sl12] (hWc c s m e X n (trC m (eqA e))) (vb32 (sumN ([.n m, .n (eqA e)] :: comT s (eqP e))))
  (hWc c s m e X n .dead ++ [none, some ⟨37, .ps [.pk .u8 8 32 (sumN ([.n m, .n (eqA e)] :: comT s (eqP e)))]⟩]) := by
 refine CallOK.of_runs (cx := cCV) (fn := Tryz.f80) (c := (bodyOf Tryz.f80)) Tryz.func80 (by kernel_rfl) (by kernel_rfl) ?_
 show Runs cCV 14 (bodyOf Tryz.f80) ⟨t0 Tryz.f80 [veqn (eqA e) (eqP e), vscs s, sl12], hWc c s m e X n (trC m (eqA e))⟩ _
 have hlp := nat_i (show (eqP e).length < 9223372036854775808 by omega)
 have h0 : evLS cCV 100 ((items (bodyOf Tryz.f80)).take 2) ⟨t0 Tryz.f80 [veqn (eqA e) (eqP e), vscs s, sl12], hWc c s m e X n (trC m (eqA e))⟩ (kfg 14 [1, 2, 6, 12, 13, 14] [0, 1, 4, 5, 6, 7, 10, 11, 12, 15] 16) = chks [okK .i64 ((eqP e).length : Nat)] (.done .normal (stWa c s m e X n 0)) := by kernel_rfl
 rw [chks_true (allT1 hlp)] at h0
 have hl0 : ∀ i : Int, evLS cCV 100 (items (loopAt (bodyOf Tryz.f80) 2)) (stWa c s m e X n i) (kfgB 14 [1, 2, 6, 12, 13, 14] [0, 1, 4, 5, 6, 7, 10, 11, 12, 15, 18] 19 [(18, 16)] 17 [1, 2, 6, 12, 13, 14] [0, 1, 4, 5, 6, 7, 10, 11, 12, 15] 16) =
  bif decide (i < ((eqP e).length : Nat)) then chks [decide (0 ≤ i), decide (i < ((eqP e).length : Nat)), decide (0 ≤ paS ((eqP e).getD i.toNat [])), decide (paS ((eqP e).getD i.toNat []) < (s.length : Nat)), okK .i64 (i + 1)]
   (.done .normal (stWb c s m e X n [[.n m, .n (eqA e)], [.n (scAt s (paS ((eqP e).getD i.toNat [])).toNat), .n (paB ((eqP e).getD i.toNat []))]] 2 (i + 1))) else .done (.exit 0) (stWa c s m e X n i) := by intro i; kernel_rfl
 have hl1 : ∀ (y : List (List D)) (k : Nat) (i : Int), evLS cCV 100 (items (loopAt (bodyOf Tryz.f80) 2)) (stWb c s m e X n y k i) (kfgB 14 [1, 2, 6, 12, 13, 14] [0, 1, 4, 5, 6, 7, 10, 11, 12, 15, 19] 20 [(19, 16)] 17 [1, 2, 6, 12, 13, 14] [0, 1, 4, 5, 6, 7, 10, 11, 12, 15, 16] 17) =
  bif decide (i < ((eqP e).length : Nat)) then chks [decide (0 ≤ i), decide (i < ((eqP e).length : Nat)), decide (0 ≤ paS ((eqP e).getD i.toNat [])), decide (paS ((eqP e).getD i.toNat []) < (s.length : Nat)), decide (k ≤ y.length), decide (k ≤ k), decide ((k + 1) * 64 ≤ 140737488355328), decide (k + 1 < 4611686018427387904), okK .i64 (i + 1)]
   (.done .normal (stWb c s m e X n (y.take k ++ [[.n (scAt s (paS ((eqP e).getD i.toNat [])).toNat), .n (paB ((eqP e).getD i.toNat []))]]) (k + 1) (i + 1))) else .done (.exit 0) (stWb c s m e X n y k i) := by intro y k i; kernel_rfl
 have he0 : ∀ i : Int, evLS cCV 100 ((items (bodyOf Tryz.f80)).drop 3) (stWa c s m e X n i) (kfg 14 [6] [0, 1, 4, 5, 6, 7, 10, 11, 12, 15] 16) = .done .ret (stWe c s m e X n (trC m (eqA e)) (sumN [[.n m, .n (eqA e)]])) := by intro i; kernel_rfl
 have he1 : ∀ (y : List (List D)) (k : Nat) (i : Int), evLS cCV 100 ((items (bodyOf Tryz.f80)).drop 3) (stWb c s m e X n y k i) (kfg 14 [6] [0, 1, 4, 5, 6, 7, 10, 11, 12, 15] 16) = chks [decide (0 + k ≤ y.length), decide ((List.take k (List.drop 0 y)).length < 9223372036854775808)] (.done .ret (stWe c s m e X n .dead (sumN (List.take k (List.drop 0 y))))) := by intro y k i; kernel_rfl
 refine Runs.items _ _ _ (RunsL.preS oCV (k := 2) h0 ?_)
 refine RunsL.loop (id := 0) (by kernel_rfl) (fun m' s' => ∃ j : Nat, j + m' = (eqP e).length ∧ ((j = 0 ∧ s' = stWa c s m e X n 0) ∨ (1 ≤ j ∧ ∃ y, s' = stWb c s m e X n y y.length (j : Int) ∧ y.length = j + 1 ∧ [.n m, .n (eqA e)] :: comT s (eqP e) = y ++ comT s ((eqP e).drop j)))) (eqP e).length ⟨0, Nat.zero_add _, .inl ⟨rfl, rfl⟩⟩ ?_
 rintro m' s' ⟨j, hj, hs⟩
 rcases Nat.eq_zero_or_pos m' with hm | hm
 · subst hm
   have hj : j = (eqP e).length := hj
   rcases hs with ⟨h0, rfl⟩ | ⟨_, y, rfl, hy, hc⟩
   · have h1 := hl0 0
     have hp : eqP e = [] := List.eq_nil_of_length_eq_zero (by omega)
     have h2 : sumN ([.n m, .n (eqA e)] :: comT s (eqP e)) = sumN [[.n m, .n (eqA e)]] := by rw [hp]; rfl
     rw [decide_eq_false (show ¬ ((0 : Int) < ((eqP e).length : Nat)) by omega), cond_false] at h1
     rw [h2]
     refine RunsL.allB oCV rfl h1 ?_
     exact RunsL.allG oCV (he0 0) (stWe_ent c s m e X n _ _) ⟨.inr rfl, by kernel_rfl, rfl⟩
   · have h1 := hl1 y y.length (j : Int)
     rw [hj, dec_self_lt, cond_false] at h1
     rw [hj, List.drop_length, show comT s [] = [] from rfl, List.append_nil] at hc
     have h2 := he1 y y.length (((eqP e).length : Nat) : Int)
     rw [List.drop_zero, List.take_length, chks_true (allTc (by rw [decide_eq_true_iff]; omega) (allT1 (by rw [decide_eq_true_iff]; omega)))] at h2
     rw [hj, hc]
     refine RunsL.allB oCV rfl h1 ?_
     exact RunsL.allS oCV h2 ⟨.inr rfl, by kernel_rfl, rfl⟩
 · obtain ⟨m', rfl⟩ : ∃ n, m' = n + 1 := ⟨m' - 1, by omega⟩
   have hjl : j < (eqP e).length := by omega
   obtain ⟨g1, g2⟩ := goodPa_at hgp hjl
   have hd3 : okK .i64 ((j : Int) + 1) = true := okI (by omega) (by omega)
   have d0 := dec_nn j
   have d1 := dec_lt hjl
   have e1 : decide (0 ≤ paS ((eqP e).getD j [])) = true := decide_eq_true g1
   have e2 : decide (paS ((eqP e).getD j []) < (s.length : Nat)) = true := decide_eq_true g2
   rcases hs with ⟨h0, rfl⟩ | ⟨hj1, y, rfl, hy, hc⟩
   · subst h0
     have h1 := hl0 ((0 : Nat) : Int)
     rw [Int.toNat_natCast, d0, d1, e1, e2, hd3] at h1
     refine RunsL.allB oCV rfl h1 ⟨m', Nat.lt_succ_self m', 1, by omega, .inr ⟨Nat.le_refl _, _, rfl, rfl, ?_⟩⟩
     have := comT_cons s hjl
     rw [List.drop_zero] at this
     rw [this]
     rfl
   · have h1 := hl1 y y.length (j : Int)
     rw [Int.toNat_natCast, d0, d1, e1, e2, hd3, cond_true, chks_true (l := [true, true, true, true, decide (y.length ≤ y.length), decide (y.length ≤ y.length), decide ((y.length + 1) * 64 ≤ 140737488355328), decide (y.length + 1 < 4611686018427387904), true]), List.take_length] at h1
     · refine RunsL.allB oCV rfl h1 ⟨m', Nat.lt_succ_self m', j + 1, by omega, .inr ⟨by omega, y ++ [[.n (scAt s (paS ((eqP e).getD j [])).toNat), .n (paB ((eqP e).getD j []))]], ?_, ?_, ?_⟩⟩
       · rw [List.length_append]; rfl
       · rw [List.length_append, hy]; rfl
       · rw [hc, comT_cons s hjl, List.append_assoc]; rfl
     · refine allTc rfl (allTc rfl (allTc rfl (allTc rfl (allTc ?_ (allTc ?_ (allTc ?_ (allTc ?_ (allT1 rfl)))))))) <;> (rw [decide_eq_true_iff]; omega)

noncomputable abbrev tabChV : List (FuncId × FSpec) := [(15, sBScalar)]
theorem tabokChV : TabOK Tryz.prog (tabOf tabChV) := (.cons ok_BScalar .nil)
noncomputable abbrev ilChV : List (FuncId × Func) := [(11, Tryz.f11), (13, Tryz.f13), (46, Tryz.f46), (48, Tryz.f48), (123, Tryz.f123), (86, Tryz.f86), (80, Tryz.f80)]
theorem ilokChV : IlOK Tryz.prog (ilTab ilChV) := (IlOK.cons Tryz.func11 (by kernel_rfl) (IlOK.cons Tryz.func13 (by kernel_rfl) (IlOK.cons Tryz.func46 (by kernel_rfl) (IlOK.cons Tryz.func48 (by kernel_rfl) (IlOK.cons Tryz.func123 (by kernel_rfl) (IlOK.cons Tryz.func86 (by kernel_rfl) (IlOK.cons Tryz.func80 (by kernel_rfl) IlOK.nil)))))))
noncomputable abbrev cChV : Cx := mkcf true false tabChV ilChV []
theorem oChV : Ok cChV := mkokf (sy := true) (rw := false) tabokChV ilokChV JsOK.nil
theorem call_ChV (t : ByteArray) (x : List (List D)) (s : List (List D)) (c m : Nat) (n : Int) (hr : rgtB t.size x ((s.length : Nat)) = true) (hn : 0 ≤ n ∧ n ≤ 1000) (hrng : ∀ (i : Nat) (e : List D), x[i]? = some e → rngTs [.pk .u8 8 32, .sl [.int .i64, .pk .u8 8 32]] e)  :
 CallOK Tryz.prog 0 81 [vstr t, veqs x, vi64 n, cloV] (hV c s m) (vb32 (relN t x n.toNat fun j => (fun e => (sumN ([.n m, .n (eqA e)] :: comT s (eqP e)))) (x.getD j [])))
  ((hV c s m) ++ [some ⟨35, .ps [.pk .u8 8 32 (relN t x n.toNat fun j => (fun e => (sumN ([.n m, .n (eqA e)] :: comT s (eqP e)))) (x.getD j []))]⟩]) := by
 refine CallOK.of_runs (cx := cChV) (fn := Tryz.f81) (c := (bodyOf Tryz.f81)) Tryz.func81 (by kernel_rfl) (by kernel_rfl) ?_
 show Runs cChV 4 (bodyOf Tryz.f81) ⟨t0 Tryz.f81 [vstr t, veqs x, vi64 n, cloV], (hV c s m)⟩ _
 have h0 : evLS cChV 100 ((items (bodyOf Tryz.f81)).take 3) ⟨t0 Tryz.f81 [vstr t, veqs x, vi64 n, cloV], (hV c s m)⟩ (kfgN 4 [3, 8, 9, 22, 23, 24] [0, 1, 4, 11, 35] 36 [(11, 5), (35, 6)] 7) =
  chks (ckNew sRelate ++ (decide (t.size ≤ maxLen) :: (ckAddC (newR sRelate) sLabel (t.size : Nat) (((ofStr t).drop 0).take t.size) [decide (0 + t.size ≤ (ofStr t).length)] ++
   (ckAdd (addR (newR sRelate) sLabel (t.size : Nat) (((ofStr t).drop 0).take t.size)) sSecrets 4 (b4J n) ++ [okK .i64 (x.length : Nat)]))))
   (.done .normal (stKo (cloV) (hV c s m) x 0 (addR (addR (newR sRelate) sLabel (t.size : Nat) (((ofStr t).drop 0).take t.size)) sSecrets 4 (b4J n)).1 (addR (addR (newR sRelate) sLabel (t.size : Nat) (((ofStr t).drop 0).take t.size)) sSecrets 4 (b4J n)).2)) := by kernel_rfl
 have hhd : ∀ (i : Int) (X : List (List D)) (n : Nat), evLS cChV 100 ((items (loopAt (bodyOf Tryz.f81) 3)).take 2) (stKo (cloV) (hV c s m) x i X n) (kfg 4 [3, 8, 9, 22, 23, 24] [0, 1, 4, 5, 6] 7) = bif decide (i < (x.length : Nat)) then .done .normal (stKo (cloV) (hV c s m) x i X n) else .done (.exit 0) (stKo (cloV) (hV c s m) x i X n) := by intro i X n; kernel_rfl
 have hbk : ∀ (i : Int) (X : List (List D)) (n : Nat), evLS cChV 100 ((items (blkAt (loopAt (bodyOf Tryz.f81) 3) 2)).take 3) (stKo (cloV) (hV c s m) x i X n) (kfgN 4 [3, 8, 9, 11, 22, 23, 24, 33, 34, 35] [0, 1, 4, 5, 7, 18] 19 [(18, 6)] 8) =
  chks ([decide (0 ≤ i), decide (i < (x.length : Nat))] ++ (ckAdd (X, n) sLeft 32 (pkL 32 (eqA (x.getD i.toNat []))) ++ [okK .i64 ((eqP (x.getD i.toNat [])).length : Nat)]))
   (.done .normal (stKi (cloV) (hV c s m) x i (x.getD i.toNat []) 0 (addR (X, n) sLeft 32 (pkL 32 (eqA (x.getD i.toNat [])))).1 (addR (X, n) sLeft 32 (pkL 32 (eqA (x.getD i.toNat [])))).2)) := by intro i X n; kernel_rfl
 have hin : ∀ (i : Int) (e : List D) (q : Int) (X : List (List D)) (n : Nat), evLS cChV 100 (items (loopAt (blkAt (loopAt (bodyOf Tryz.f81) 3) 2) 3)) (stKi (cloV) (hV c s m) x i e q X n) (kfgB 4 [3, 8, 9, 11, 22, 23, 24, 33, 34, 35] [0, 1, 4, 5, 7, 22] 23 [(22, 6)] 8 [3, 8, 9, 11, 22, 23, 24, 33, 34, 35] [0, 1, 4, 5, 6, 7] 8) =
  bif decide (q < ((eqP e).length : Nat)) then chks ([decide (0 ≤ q), decide (q < ((eqP e).length : Nat))] ++ (ckAdd (X, n) sPart 36 (b4J (paS ((eqP e).getD q.toNat [])) ++ pkL 32 (paB ((eqP e).getD q.toNat []))) ++ [okK .i64 (q + 1)]))
   (.done .normal (stKi (cloV) (hV c s m) x i e (q + 1) (addR (X, n) sPart 36 (b4J (paS ((eqP e).getD q.toNat [])) ++ pkL 32 (paB ((eqP e).getD q.toNat [])))).1 (addR (X, n) sPart 36 (b4J (paS ((eqP e).getD q.toNat [])) ++ pkL 32 (paB ((eqP e).getD q.toNat [])))).2))
  else .done (.exit 2) (stKi (cloV) (hV c s m) x i e q X n) := by intro i e q X n; kernel_rfl
 have htl : ∀ (i : Int) (X : List (List D)) (n : Nat), evLS cChV 100 ((items (loopAt (bodyOf Tryz.f81) 3)).drop 3) (stKo (cloV) (hV c s m) x i X n) (kfg 4 [3, 8, 9, 22, 23, 24] [0, 1, 4, 5, 6] 7) = chks [okK .i64 (i + 1)] (.done .normal (stKo (cloV) (hV c s m) x (i + 1) X n)) := by intro i X n; kernel_rfl
 have hend : ∀ (i : Int) (X : List (List D)) (n : Nat), evLS cChV 100 ((items (bodyOf Tryz.f81)).drop 4) (stKo (cloV) (hV c s m) x i X n) (kfg 4 [8] [0, 1, 4] 5) = chks [decide (0 + n ≤ X.length), decide (((X.drop 0).take n).length + sChallenge.size < 549755813888)]
  (.done .ret ⟨jk 8 ++ [.one (.ptr 4 0)] ++ jk 48, (hV c s m) ++ [some ⟨35, .ps [.pk .u8 8 32 (restP (sha512N (askL ((X.drop 0).take n) 2 (ofStr sChallenge))))]⟩]⟩) := by intro i X n; kernel_rfl
 obtain ⟨g1, g2, g3, g4, g5, g6⟩ := rgtB_t hr
 have hlx := nat_i (show x.length < 9223372036854775808 by omega)
 have hos := ofStr_len t
 have hY : ((ofStr t).drop 0).take t.size = ofStr t := by rw [List.drop_zero, ← hos, List.take_length]
 have hnn : b4J n = b4L n.toNat := by rw [← b4J_eq, Int.toNat_of_nonneg hn.1]
 rw [hY, hnn] at h0
 have o1 := newR_ok sRelate
 have o2 := addR_ok o1 sLabel (ofStr t) (n := (t.size : Nat)) (by rw [hos])
 have o3 : okR _ (relS t n.toNat) := addR_ok o2 sSecrets (b4L n.toNat) (n := 4) rfl
 have l1 : (newL sRelate).length = 10 := newL_len _
 have l2 : (addL (newL sRelate) sLabel (ofStr t)).length = 24 + t.size := by rw [addL_len, l1, hos]; show 10 + 1 + (4 + 5) + (4 + t.size) = _; omega
 have l3 : (relS t n.toNat).length = 44 + t.size := by
  unfold relS
  rw [addL_len, l2]
  show 24 + t.size + 1 + (4 + 7) + (4 + 4) = _
  omega
 have hml : (1000 : Nat) ≤ maxLen := by decide
 rw [chks_true, o3.1, o3.2] at h0
 rotate_left 1
 · refine allT_app (ckNew_ok _ (by decide)) (allTc (by rw [decide_eq_true_iff]; omega) (allT_app (ckAddC_ok o1 _ _ (by rw [hos]) (by rw [l1, hos]; show 10 + 5 + t.size < _; omega) (allT1 (by rw [decide_eq_true_iff]; omega))) (allT_app (ckAdd_ok o2 _ _ rfl (by rw [l2]; show 24 + t.size + 7 + 4 < _; omega)) (allT1 hlx))))
 refine Runs.items _ _ _ (RunsL.preN oChV rfl (k := 3) h0 ?_)
 refine RunsL.loop (id := 0) (by kernel_rfl) (fun mz sz => ∃ (j : Nat) (X : List (List D)), sz = stKo (cloV) (hV c s m) x (j : Int) X X.length ∧ j + mz = x.length ∧ X.length ≤ 2000 + 1000 * j ∧ relX (fun j => (fun e => (sumN ([.n m, .n (eqA e)] :: comT s (eqP e)))) (x.getD j [])) (relS t n.toNat) 0 x = relX (fun j => (fun e => (sumN ([.n m, .n (eqA e)] :: comT s (eqP e)))) (x.getD j [])) X j (x.drop j)) x.length
  ⟨0, relS t n.toNat, rfl, Nat.zero_add _, by omega, rfl⟩ ?_
 rintro mz sz ⟨j, X, rfl, hj, hX, hg⟩
 have h1 := hhd (j : Int) X X.length
 cases mz with
 | zero =>
   have hj : j = x.length := hj
   rw [hj, dec_self_lt, cond_false] at h1
   rw [hj, List.drop_length, relX] at hg
   rw [hj]
   refine RunsL.preS oChV (k := 2) h1 ?_
   have h2 := hend ((x.length : Nat) : Int) X X.length
   rw [List.drop_zero, List.take_length, chks_true] at h2
   · rw [relN_eq, hg]
     exact RunsL.allS oChV h2 ⟨.inr rfl, by kernel_rfl, rfl⟩
   · refine allTc (by rw [decide_eq_true_iff]; omega) (allT1 ?_)
     rw [decide_eq_true_iff]
     show X.length + 9 < _
     omega
 | succ mz =>
   have hjl : j < x.length := by omega
   rw [dec_lt hjl, cond_true] at h1
   have hlp := nat_i (eqs_len hrng j)
   obtain ⟨p1, p2⟩ := goodEq_at g6 hjl
   refine RunsL.preS oChV (k := 2) h1 (RunsL.blkAt (id := 1) (by kernel_rfl) ?_)
   have h2 := hbk (j : Int) X X.length
   rw [Int.toNat_natCast] at h2
   rw [drop_cons hjl, relX] at hg
   generalize he : x.getD j [] = e at *
   have oX : okR (X, X.length) X := ⟨rfl, rfl⟩
   have oL := addR_ok oX sLeft (pkL 32 (eqA e)) (n := 32) (by rw [pkL_len]; rfl)
   rw [chks_true, oL.1, oL.2] at h2
   rotate_left 1
   · exact allT_app (allTc (dec_nn j) (allT1 (dec_lt hjl))) (allT_app (ckAdd_ok oX _ _ (by rw [pkL_len]; rfl) (by rw [pkL_len]; show X.length + 4 + 32 < _; omega)) (allT1 hlp))
   have lL : (addL X sLeft (pkL 32 (eqA e))).length = X.length + 45 := by rw [addL_len, pkL_len]; show X.length + 1 + (4 + 4) + (4 + 32) = _; omega
   refine RunsL.preN oChV rfl (k := 3) h2 ?_
   refine RunsL.loop (id := 2) (by kernel_rfl) (fun my sz => ∃ (q : Nat) (Z : List (List D)), sz = stKi (cloV) (hV c s m) x (j : Int) e (q : Int) Z Z.length ∧ q + my = (eqP e).length ∧ Z.length ≤ X.length + 45 + 49 * q ∧ partsX (addL X sLeft (pkL 32 (eqA e))) (eqP e) = partsX Z ((eqP e).drop q)) (eqP e).length
    ⟨0, _, rfl, Nat.zero_add _, by omega, rfl⟩ ?_
   rintro my sz ⟨q, Z, rfl, hq, hZ, hg2⟩
   have oZ : okR (Z, Z.length) Z := ⟨rfl, rfl⟩
   have h3 := hin (j : Int) e (q : Int) Z Z.length
   cases my with
   | zero =>
     have hq : q = (eqP e).length := hq
     rw [hq, dec_self_lt, cond_false] at h3
     rw [hq, List.drop_length, partsX] at hg2
     rw [hq]
     refine RunsL.allB oChV rfl h3 ?_
     have hfin : ∀ (i : Int) (q : Int) (X : List (List D)) (n : Nat), evLS (mkcf true false tabChV ilChV [(80, [veqn (eqA e) (eqP e), vscs s, sl12], hWc c s m e X n (trC m (eqA e)), vb32 (sumN ([.n m, .n (eqA e)] :: comT s (eqP e))), hWc c s m e X n .dead ++ [none, some ⟨37, .ps [.pk .u8 8 32 (sumN ([.n m, .n (eqA e)] :: comT s (eqP e)))]⟩])]) 100 ((items (blkAt (loopAt (bodyOf Tryz.f81) 3) 2)).drop 4) (stKi (cloV) (hV c s m) x i e q X n) (kfgN 4 [3, 8, 9, 22, 23, 24] [0, 1, 4, 5, 26] 27 [(26, 6)] 7) =
      chks ([eqS [veqn (eqA e) (eqP e), vscs s, sl12] (hWc c s m e X n (trC m (eqA e))) [veqn (eqA e) (eqP e), vscs s, sl12] (hWc c s m e X n (trC m (eqA e)))] ++ ckAdd (X, n) sCommit 32 (pkL 32 (sumN ([.n m, .n (eqA e)] :: comT s (eqP e))))) (.done .normal (stKo (cloV) (hV c s m) x i (addR (X, n) sCommit 32 (pkL 32 (sumN ([.n m, .n (eqA e)] :: comT s (eqP e))))).1 (addR (X, n) sCommit 32 (pkL 32 (sumN ([.n m, .n (eqA e)] :: comT s (eqP e))))).2)) := by intro i q X n; kernel_rfl
     have h4 := hfin (j : Int) ((eqP e).length : Nat) Z Z.length
     have oF := addR_ok oZ sCommit (pkL 32 (sumN ([.n m, .n (eqA e)] :: comT s (eqP e)))) (n := 32) (by rw [pkL_len]; rfl)
     rw [chks_true, oF.1, oF.2] at h4
     rotate_left 1
     · exact allT_app (allT1 (eqS_self _ _)) (ckAdd_ok oZ _ _ (by rw [pkL_len]; rfl) (by rw [pkL_len]; show Z.length + 6 + 32 < _; omega))
     have lF : (addL Z sCommit (pkL 32 (sumN ([.n m, .n (eqA e)] :: comT s (eqP e))))).length = Z.length + 47 := by rw [addL_len, pkL_len]; show Z.length + 1 + (4 + 6) + (4 + 32) = _; omega
     show RunsL cChV 4 ((items (blkAt (loopAt (bodyOf Tryz.f81) 3) 2)).drop 4) (stKi (cloV) (hV c s m) x (j : Int) e ((eqP e).length : Nat) Z Z.length) _
     refine RunsL.flags (cx := (mkcf true false tabChV ilChV [(80, [veqn (eqA e) (eqP e), vscs s, sl12], hWc c s m e Z Z.length (trC m (eqA e)), vb32 (sumN ([.n m, .n (eqA e)] :: comT s (eqP e))), hWc c s m e Z Z.length .dead ++ [none, some ⟨37, .ps [.pk .u8 8 32 (sumN ([.n m, .n (eqA e)] :: comT s (eqP e)))]⟩])])) (cx' := cChV) rfl rfl ?_
     refine RunsL.allN (mkokf (sy := true) (rw := false) tabokChV ilokChV (JsOK.cons (call_CV c s m e Z Z.length p2 p1) JsOK.nil)) rfl h4 ?_
     have h5 := htl (j : Int) (addL Z sCommit (pkL 32 (sumN ([.n m, .n (eqA e)] :: comT s (eqP e))))) (addL Z sCommit (pkL 32 (sumN ([.n m, .n (eqA e)] :: comT s (eqP e))))).length
     rw [chks_true (allT1 (okI (by omega) (by omega)))] at h5
     refine RunsL.allS oChV h5 ⟨mz, Nat.lt_succ_self mz, j + 1, _, rfl, by omega, by rw [lF]; omega, ?_⟩
     rw [hg]
     unfold eqX
     rw [hg2]
   | succ my =>
     have hql : q < (eqP e).length := by omega
     obtain ⟨q1, q2⟩ := goodPa_at p2 hql
     rw [dec_lt hql, cond_true, Int.toNat_natCast, partX_y _ q1] at h3
     have oP := addR_ok oZ sPart (b4L (paS ((eqP e).getD q [])).toNat ++ pkL 32 (paB ((eqP e).getD q []))) (n := 36) (by rw [y36]; rfl)
     rw [chks_true, oP.1, oP.2] at h3
     rotate_left 1
     · exact allT_app (allTc (dec_nn q) (allT1 rfl)) (allT_app (ckAdd_ok oZ _ _ (by rw [y36]; rfl) (by rw [y36]; show Z.length + 4 + 36 < _; omega)) (allT1 (okI (by omega) (by omega))))
     refine RunsL.allB oChV rfl h3 ⟨my, Nat.lt_succ_self my, q + 1, _, rfl, by omega, ?_, ?_⟩
     · rw [addL_len, y36]
       show Z.length + 1 + (4 + 4) + (4 + 36) ≤ _
       omega
     · rw [hg2, drop_cons hql, partsX]
       rfl

abbrev tprf : Ty := .ag [.pk .u8 8 32, .sl [.pk .u8 8 32]]
abbrev vprfA (c : Nat) (s : List (List D)) : V := .ag (.ps [.pk .u8 8 32 c, .rd [.pk .u8 8 32] s])
def stVz (t : ByteArray) (x : List (List D)) (n : Int) (c : Nat) (s : List (List D)) (e : Int) : St := ⟨[vstr t, veqs x, vi64 n] ++ jk 4 ++ [.one (.ptr 0 0), vi64 e] ++ jk 48, [some ⟨58, .ps [.pk .u8 8 32 c, .rd [.pk .u8 8 32] s]⟩]⟩
def stVy (t : ByteArray) (x : List (List D)) (n : Int) (c : Nat) (s : List (List D)) (m : Nat) : St := ⟨[vstr t, veqs x, vi64 n] ++ jk 4 ++ [.one (.ptr 0 0), vi64 0, .one (.ptr 1 0)] ++ jk 47, [some ⟨58, .ps [.pk .u8 8 32 c, .rd [.pk .u8 8 32] s]⟩, some ⟨35, .ps [.pk .u8 8 32 m]⟩]⟩
noncomputable abbrev ilVf : List (FuncId × Func) := [(81, Tryz.f81)]
theorem ilokVf : IlOK Tryz.prog (ilTab ilVf) := IlOK.cons Tryz.func81 (by kernel_rfl) IlOK.nil

noncomputable def sGVerify11F : List D → Option (List Bool × V)
 | [.s t, .l x, .i n, .n c, .l s] => some ([decide (t.size < 9223372036854775808)], vi64 (vfyE t x n c s))
 | _ => none
noncomputable def sGVerify11 : FSpec := spec [tstr, teqs, ti64, tprf] sGVerify11F
noncomputable abbrev tabGVerify11 : List (FuncId × FSpec) := [(77, sGRight), (78, sGScalars), (79, sGPoints), (57, sAOf), (85, sAMinus)]
theorem tabokGVerify11 : TabOK Tryz.prog (tabOf tabGVerify11) := (.cons ok_GRight (.cons ok_GScalars (.cons ok_GPoints (.cons ok_AOf (.cons ok_AMinus .nil)))))
noncomputable abbrev cGVerify11 : Cx := mkcf true false tabGVerify11 [] []
theorem oGVerify11 : Ok cGVerify11 := mkokf (sy := true) (rw := false) tabokGVerify11 IlOK.nil JsOK.nil
theorem ok_GVerify11 : FnOK Tryz.prog 36 sGVerify11 := by
 refine fn_flat (cx := mkcf true false tabGVerify11 [] []) (c := bodyOf Tryz.f36) Tryz.func36 (by kernel_rfl) (by kernel_rfl) rfl ?_
 intro ds chk v vs hF ht he hr base
 unfold sGVerify11F at hF
 split at hF
 · rename_i t x n c s
   cases hF
   have hvs : vs = [vstr t, veqs x, vi64 n, vprfA c s] := by simp only [encA, encV, encP, encL, Option.some.injEq] at he; exact he.symm
   subst hvs
   have hts : t.size < 9223372036854775808 := of_decide_eq_true (ht (decide (t.size < 9223372036854775808)) (by simp))
   obtain ⟨_, hxr, _, hpr, _⟩ := hr
   obtain ⟨_, hsr, _⟩ := hpr
   have hlx := nat_i (max_lt hxr.1)
   have hls := nat_i (max_lt hsr.1)
   have hA : evLS cGVerify11 100 ((items (bodyOf Tryz.f36)).take 2) ⟨t0 Tryz.f36 [vstr t, veqs x, vi64 n, vprfA c s], []⟩ (kfg 0 [0, 1, 2, 7, 8] [0] 1) =
    chks [decide (t.size < 9223372036854775808)] (bif !rgtB t.size x n then .done .ret (stVz t x n c s 2) else chks [okK .i64 (s.length : Nat)]
     (bif !decide (((s.length : Nat) : Int) = n) then .done .ret (stVz t x n c s 2) else bif !allSc [[.n c]] then .done .ret (stVz t x n c s 50) else bif !allSc s then .done .ret (stVz t x n c s 50) else bif !ptEq x then .done .ret (stVz t x n c s 51) else .done .normal (stVz t x n c s 0))) := by kernel_rfl
   have hc1 : allSc [[.n c]] = okS c := by
    show (bif !okS c then false else true) = okS c
    cases okS c <;> rfl
   rw [chks_true (allT1 (by rw [decide_eq_true_iff]; exact hts)), chks_true (allT1 hls), hc1] at hA
   cases h1 : rgtB t.size x n with
   | false =>
     rw [h1] at hA
     rw [show vfyE t x n c s = 2 by unfold vfyE; rw [h1]; rfl]
     exact Runs.items _ _ _ (RunsL.preS oGVerify11 (k := 2) hA ⟨_, [], (by kernel_rfl), VEnt.refl _, trivial⟩)
   | true =>
   cases h2 : decide (((s.length : Nat) : Int) = n) with
   | false =>
     rw [h1, h2] at hA
     rw [show vfyE t x n c s = 2 by unfold vfyE; rw [h1, h2]; rfl]
     exact Runs.items _ _ _ (RunsL.preS oGVerify11 (k := 2) hA ⟨_, [], (by kernel_rfl), VEnt.refl _, trivial⟩)
   | true =>
   cases h3 : okS c with
   | false =>
     rw [h1, h2, h3] at hA
     rw [show vfyE t x n c s = 50 by unfold vfyE; rw [h1, h2, h3]; rfl]
     exact Runs.items _ _ _ (RunsL.preS oGVerify11 (k := 2) hA ⟨_, [], (by kernel_rfl), VEnt.refl _, trivial⟩)
   | true =>
   cases h4 : allSc s with
   | false =>
     rw [h1, h2, h3, h4] at hA
     rw [show vfyE t x n c s = 50 by unfold vfyE; rw [h1, h2, h3, h4]; rfl]
     exact Runs.items _ _ _ (RunsL.preS oGVerify11 (k := 2) hA ⟨_, [], (by kernel_rfl), VEnt.refl _, trivial⟩)
   | true =>
   cases h5 : ptEq x with
   | false =>
     rw [h1, h2, h3, h4, h5] at hA
     rw [show vfyE t x n c s = 51 by unfold vfyE; rw [h1, h2, h3, h4, h5]; rfl]
     exact Runs.items _ _ _ (RunsL.preS oGVerify11 (k := 2) hA ⟨_, [], (by kernel_rfl), VEnt.refl _, trivial⟩)
   | true =>
   rw [h1, h2, h3, h4, h5] at hA
   have hn : ((s.length : Nat) : Int) = n := of_decide_eq_true h2
   obtain ⟨g1, g2, g3, g4, g5, g6⟩ := rgtB_t h1
   have hE : vfyE t x n c s = bif !decide (vfyC t x n.toNat c s = c) then 110 else 0 := by unfold vfyE; rw [h1, h2, h3, h4, h5]; rfl
   rw [hE]
   have hcall : CallOK Tryz.prog 0 81 [vstr t, veqs x, vi64 n, cloV] (hV c s (negS c)) (vb32 (vfyC t x n.toNat c s)) (hV c s (negS c) ++ [some ⟨35, .ps [.pk .u8 8 32 (vfyC t x n.toNat c s)]⟩]) :=
    call_ChV t x s c (negS c) n (by rw [hn]; exact h1) (by omega) hxr.2
   generalize vfyC t x n.toNat c s = C at *
   have hB : evLS cGVerify11 100 (((items (bodyOf Tryz.f36)).drop 2).take 1) (stVz t x n c s 0) (kfgN 0 [0, 1, 2, 7, 8, 9] [0, 3] 4 [(3, 1)] 2) = .done .normal (stVy t x n c s (negS c)) := by kernel_rfl
   have hC : evLS (mkcf true false tabGVerify11 ilVf [(81, [vstr t, veqs x, vi64 n, cloV], hV c s (negS c), vb32 C, hV c s (negS c) ++ [some ⟨35, .ps [.pk .u8 8 32 C]⟩])]) 100 ((items (bodyOf Tryz.f36)).drop 3) (stVy t x n c s (negS c)) (kres (mkcf true false tabGVerify11 ilVf [(81, [vstr t, veqs x, vi64 n, cloV], hV c s (negS c), vb32 C, hV c s (negS c) ++ [some ⟨35, .ps [.pk .u8 8 32 C]⟩])]) Tryz.f36 base) =
    chks [eqS [vstr t, veqs x, vi64 n, cloV] (hV c s (negS c)) [vstr t, veqs x, vi64 n, cloV] (hV c s (negS c))] (bif !decide (C = c) then outV (vi64 110) else outV (vi64 0)) := by kernel_rfl
   have hC : evLS (mkcf true false tabGVerify11 ilVf [(81, [vstr t, veqs x, vi64 n, cloV], hV c s (negS c), vb32 C, hV c s (negS c) ++ [some ⟨35, .ps [.pk .u8 8 32 C]⟩])]) 100 ((items (bodyOf Tryz.f36)).drop 3) (stVy t x n c s (negS c)) (kres (mkcf true false tabGVerify11 ilVf [(81, [vstr t, veqs x, vi64 n, cloV], hV c s (negS c), vb32 C, hV c s (negS c) ++ [some ⟨35, .ps [.pk .u8 8 32 C]⟩])]) Tryz.f36 base) = outV (vi64 (bif !decide (C = c) then 110 else 0)) := by
    rw [hC, chks_true (allT1 (eqS_self _ _))]
    cases decide (C = c) <;> rfl
   refine Runs.items _ _ _ (RunsL.preS oGVerify11 (k := 2) hA ?_)
   refine RunsL.preN oGVerify11 rfl (k := 1) hB ?_
   show RunsL cGVerify11 0 (((items (bodyOf Tryz.f36)).drop 2).drop 1) _ _
   rw [List.drop_drop]
   refine RunsL.flags (cx := mkcf true false tabGVerify11 ilVf [(81, [vstr t, veqs x, vi64 n, cloV], hV c s (negS c), vb32 C, hV c s (negS c) ++ [some ⟨35, .ps [.pk .u8 8 32 C]⟩])]) (cx' := mkcf true false tabGVerify11 [] []) rfl rfl ?_
   exact runsL_evS (mkokf (sy := true) (rw := false) tabokGVerify11 ilokVf (JsOK.cons hcall JsOK.nil)) (n := 100) (bs0 := []) hC (VEnt.refl _) trivial
 · cases hF
end Go.Proofs.YtdkmcpbjicnfmaaGreat
