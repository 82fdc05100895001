/-
  Challenges of relations: calls in the midst of a proof.
-/
import Derived.Test.YtdkmcpbjicnfmaaGreatL15
set_option maxRecDepth 100000
namespace Go.Proofs.YtdkmcpbjicnfmaaGreat
open Go Vx Go.RowKit

noncomputable def ckAddC (p : SC) (l : ByteArray) (n : Int) (y : List (List D)) (c : List Bool) : List Bool := ckA p [[.i 1]] ++ (ckF (apR p [[.i 1]]) (l.size : Nat) (ofStr l) ++ (okK .i64 n :: (ckA (fmR (apR p [[.i 1]]) (l.size : Nat) (ofStr l)) (b4I n) ++ (c ++ ckA (apR (fmR (apR p [[.i 1]]) (l.size : Nat) (ofStr l)) (b4I n)) y))))
theorem ckAddC_ok {p : SC} {x : List (List D)} (h : okR p x) (l : ByteArray) (y : List (List D)) {n : Int} (hn : n = (y.length : Nat)) (hl : x.length + l.size + y.length < 35184372088832) {c : List Bool} (hc : allT c) : allT (ckAddC p l n y c) := by
 have h0 := ckAdd_ok h l y hn hl
 unfold ckAdd ckF at h0
 unfold ckAddC
 intro b hb
 rcases List.mem_append.1 hb with hb | hb
 · exact h0 b (List.mem_append.2 (.inl hb))
 rcases List.mem_append.1 hb with hb | hb
 · exact h0 b (List.mem_append.2 (.inr (List.mem_append.2 (.inl hb))))
 rcases List.mem_cons.1 hb with hb | hb
 · exact h0 b (List.mem_append.2 (.inr (List.mem_append.2 (.inr (List.mem_cons.2 (.inl hb))))))
 rcases List.mem_append.1 hb with hb | hb
 · exact h0 b (List.mem_append.2 (.inr (List.mem_append.2 (.inr (List.mem_cons.2 (.inr (List.mem_append.2 (.inl hb))))))))
 rcases List.mem_append.1 hb with hb | hb
 · exact hc b hb
 · exact h0 b (List.mem_append.2 (.inr (List.mem_append.2 (.inr (List.mem_cons.2 (.inr (List.mem_append.2 (.inr hb))))))))
def b4J (n : Int) : List (List D) := [[.i (wrapK .u8 (n / ((2 ^ min (24 : Int).toNat 64 : Nat) : Int)))], [.i (wrapK .u8 (n / ((2 ^ min (16 : Int).toNat 64 : Nat) : Int)))], [.i (wrapK .u8 (n / ((2 ^ min (8 : Int).toNat 64 : Nat) : Int)))], [.i (wrapK .u8 n)]]
theorem b4J_eq {n : Nat} : b4J (n : Int) = b4L n := by
 have e1 : wrapK .u8 ((n : Int) / ((2 ^ min (24 : Int).toNat 64 : Nat) : Int)) = ((n / 16777216 % 256 : Nat) : Int) := by
  rw [show ((2 ^ min (24 : Int).toNat 64 : Nat) : Int) = 16777216 from rfl]; simp only [wrapK]; omega
 have e2 : wrapK .u8 ((n : Int) / ((2 ^ min (16 : Int).toNat 64 : Nat) : Int)) = ((n / 65536 % 256 : Nat) : Int) := by
  rw [show ((2 ^ min (16 : Int).toNat 64 : Nat) : Int) = 65536 from rfl]; simp only [wrapK]; omega
 have e3 : wrapK .u8 ((n : Int) / ((2 ^ min (8 : Int).toNat 64 : Nat) : Int)) = ((n / 256 % 256 : Nat) : Int) := by
  rw [show ((2 ^ min (8 : Int).toNat 64 : Nat) : Int) = 256 from rfl]; simp only [wrapK]; omega
 have e4 : wrapK .u8 (n : Int) = ((n % 256 : Nat) : Int) := by simp only [wrapK]; omega
 unfold b4J b4L
 rw [e1, e2, e3, e4]
theorem partX_y (p : List D) (h : 0 ≤ paS p) : b4J (paS p) ++ pkL 32 (paB p) = b4L (paS p).toNat ++ pkL 32 (paB p) := by
 rw [← b4J_eq, Int.toNat_of_nonneg h]
theorem y36 (n b : Nat) : (b4L n ++ pkL 32 b).length = 36 := by rw [List.length_append, pkL_len]; rfl
def scrH (X : List (List D)) (n : Nat) : Hp := [some ⟨35, .ps ub0⟩, some ⟨79, .ps [.row 6 1 0 n n]⟩, some ⟨5, .row [.int .u8] X⟩]
def stKo (clo : V) (H : Hp) (x : List (List D)) (i : Int) (X : List (List D)) (n : Nat) : St := ⟨jk 3 ++ [clo] ++ jk 4 ++ [.one (.ptr 4 0), .one (.ptr 5 0)] ++ jk 12 ++ [veqs x, vi64 (x.length : Nat), vi64 i] ++ jk 32, H ++ scrH X n⟩
def qbl (e : List D) : Option Blk := some ⟨105, .ps [.pk .u8 8 32 (eqA e), .rd [.int .i64, .pk .u8 8 32] (eqP e)]⟩
def stKi (clo : V) (H : Hp) (x : List (List D)) (i : Int) (e : List D) (j : Int) (X : List (List D)) (n : Nat) : St := ⟨jk 3 ++ [clo] ++ jk 4 ++ [.one (.ptr 4 0), .one (.ptr 5 0), .junk, .one (.ptr 7 0)] ++ jk 10 ++ [veqs x, vi64 (x.length : Nat), vi64 i] ++ jk 8 ++ [vprt (eqP e), vi64 ((eqP e).length : Nat), vi64 j] ++ jk 21, H ++ scrH X n ++ [qbl e]⟩
def hP (k : List (List D)) : Hp := [some ⟨55, .ps [.rd [.pk .u8 8 32] k]⟩, some ⟨58, .ps (ub0 ++ [.nilsl])⟩, none, none]
def cloP : V := .one (.clo 82 [(0, 0)])
theorem goodEq_at {n : Int} : ∀ {x : List (List D)}, goodEq n x = true → ∀ {j : Nat}, j < x.length → (eqP (x.getD j [])).length ≤ 16 ∧ goodPa n (eqP (x.getD j [])) = true
 | [], _, j, h => absurd h (Nat.not_lt_zero j)
 | e :: x, h, j, hj => by
   obtain ⟨h1, h2, h3⟩ := goodEq_cons h
   cases j with
   | zero => exact ⟨h1, h2⟩
   | succ j => exact goodEq_at (x := x) h3 (Nat.lt_of_succ_lt_succ hj)

noncomputable abbrev tabChP : List (FuncId × FSpec) := [(15, sBScalar), (80, sGCommit)]
theorem tabokChP : TabOK Tryz.prog (tabOf tabChP) := (.cons ok_BScalar (.cons ok_GCommit .nil))
noncomputable abbrev ilChP : List (FuncId × Func) := [(11, Tryz.f11), (13, Tryz.f13), (46, Tryz.f46), (48, Tryz.f48), (123, Tryz.f123), (82, Tryz.f82)]
theorem ilokChP : IlOK Tryz.prog (ilTab ilChP) := (IlOK.cons Tryz.func11 (by kernel_rfl) (IlOK.cons Tryz.func13 (by kernel_rfl) (IlOK.cons Tryz.func46 (by kernel_rfl) (IlOK.cons Tryz.func48 (by kernel_rfl) (IlOK.cons Tryz.func123 (by kernel_rfl) (IlOK.cons Tryz.func82 (by kernel_rfl) IlOK.nil))))))
noncomputable abbrev cChP : Cx := mkcf true false tabChP ilChP []
theorem oChP : Ok cChP := mkokf (sy := true) (rw := false) tabokChP ilokChP JsOK.nil
theorem call_ChP (t : ByteArray) (x : List (List D)) (k : List (List D)) (n : Int) (hr : rgtB t.size x ((k.length : Nat)) = true) (hn : 0 ≤ n ∧ n ≤ 1000) (hrng : ∀ (i : Nat) (e : List D), x[i]? = some e → rngTs [.pk .u8 8 32, .sl [.int .i64, .pk .u8 8 32]] e)  :
 CallOK Tryz.prog 0 81 [vstr t, veqs x, vi64 n, cloP] (hP k) (vb32 (relN t x n.toNat fun j => (fun e => (comN k (eqP e))) (x.getD j [])))
  ((hP k) ++ [some ⟨35, .ps [.pk .u8 8 32 (relN t x n.toNat fun j => (fun e => (comN k (eqP e))) (x.getD j []))]⟩]) := by
 refine CallOK.of_runs (cx := cChP) (fn := Tryz.f81) (c := (bodyOf Tryz.f81)) Tryz.func81 (by kernel_rfl) (by kernel_rfl) ?_
 show Runs cChP 4 (bodyOf Tryz.f81) ⟨t0 Tryz.f81 [vstr t, veqs x, vi64 n, cloP], (hP k)⟩ _
 have h0 : evLS cChP 100 ((items (bodyOf Tryz.f81)).take 3) ⟨t0 Tryz.f81 [vstr t, veqs x, vi64 n, cloP], (hP k)⟩ (kfgN 4 [3, 8, 9, 22, 23, 24] [0, 1, 4, 11, 35] 36 [(11, 5), (35, 6)] 7) =
  chks (ckNew sRelate ++ (decide (t.size ≤ maxLen) :: (ckAddC (newR sRelate) sLabel (t.size : Nat) (((ofStr t).drop 0).take t.size) [decide (0 + t.size ≤ (ofStr t).length)] ++
   (ckAdd (addR (newR sRelate) sLabel (t.size : Nat) (((ofStr t).drop 0).take t.size)) sSecrets 4 (b4J n) ++ [okK .i64 (x.length : Nat)]))))
   (.done .normal (stKo (cloP) (hP k) x 0 (addR (addR (newR sRelate) sLabel (t.size : Nat) (((ofStr t).drop 0).take t.size)) sSecrets 4 (b4J n)).1 (addR (addR (newR sRelate) sLabel (t.size : Nat) (((ofStr t).drop 0).take t.size)) sSecrets 4 (b4J n)).2)) := by kernel_rfl
 have hhd : ∀ (i : Int) (X : List (List D)) (n : Nat), evLS cChP 100 ((items (loopAt (bodyOf Tryz.f81) 3)).take 2) (stKo (cloP) (hP k) x i X n) (kfg 4 [3, 8, 9, 22, 23, 24] [0, 1, 4, 5, 6] 7) = bif decide (i < (x.length : Nat)) then .done .normal (stKo (cloP) (hP k) x i X n) else .done (.exit 0) (stKo (cloP) (hP k) x i X n) := by intro i X n; kernel_rfl
 have hbk : ∀ (i : Int) (X : List (List D)) (n : Nat), evLS cChP 100 ((items (blkAt (loopAt (bodyOf Tryz.f81) 3) 2)).take 3) (stKo (cloP) (hP k) x i X n) (kfgN 4 [3, 8, 9, 11, 22, 23, 24, 33, 34, 35] [0, 1, 4, 5, 7, 18] 19 [(18, 6)] 8) =
  chks ([decide (0 ≤ i), decide (i < (x.length : Nat))] ++ (ckAdd (X, n) sLeft 32 (pkL 32 (eqA (x.getD i.toNat []))) ++ [okK .i64 ((eqP (x.getD i.toNat [])).length : Nat)]))
   (.done .normal (stKi (cloP) (hP k) x i (x.getD i.toNat []) 0 (addR (X, n) sLeft 32 (pkL 32 (eqA (x.getD i.toNat [])))).1 (addR (X, n) sLeft 32 (pkL 32 (eqA (x.getD i.toNat [])))).2)) := by intro i X n; kernel_rfl
 have hin : ∀ (i : Int) (e : List D) (q : Int) (X : List (List D)) (n : Nat), evLS cChP 100 (items (loopAt (blkAt (loopAt (bodyOf Tryz.f81) 3) 2) 3)) (stKi (cloP) (hP k) x i e q X n) (kfgB 4 [3, 8, 9, 11, 22, 23, 24, 33, 34, 35] [0, 1, 4, 5, 7, 22] 23 [(22, 6)] 8 [3, 8, 9, 11, 22, 23, 24, 33, 34, 35] [0, 1, 4, 5, 6, 7] 8) =
  bif decide (q < ((eqP e).length : Nat)) then chks ([decide (0 ≤ q), decide (q < ((eqP e).length : Nat))] ++ (ckAdd (X, n) sPart 36 (b4J (paS ((eqP e).getD q.toNat [])) ++ pkL 32 (paB ((eqP e).getD q.toNat []))) ++ [okK .i64 (q + 1)]))
   (.done .normal (stKi (cloP) (hP k) x i e (q + 1) (addR (X, n) sPart 36 (b4J (paS ((eqP e).getD q.toNat [])) ++ pkL 32 (paB ((eqP e).getD q.toNat [])))).1 (addR (X, n) sPart 36 (b4J (paS ((eqP e).getD q.toNat [])) ++ pkL 32 (paB ((eqP e).getD q.toNat [])))).2))
  else .done (.exit 2) (stKi (cloP) (hP k) x i e q X n) := by intro i e q X n; kernel_rfl
 have htl : ∀ (i : Int) (X : List (List D)) (n : Nat), evLS cChP 100 ((items (loopAt (bodyOf Tryz.f81) 3)).drop 3) (stKo (cloP) (hP k) x i X n) (kfg 4 [3, 8, 9, 22, 23, 24] [0, 1, 4, 5, 6] 7) = chks [okK .i64 (i + 1)] (.done .normal (stKo (cloP) (hP k) x (i + 1) X n)) := by intro i X n; kernel_rfl
 have hend : ∀ (i : Int) (X : List (List D)) (n : Nat), evLS cChP 100 ((items (bodyOf Tryz.f81)).drop 4) (stKo (cloP) (hP k) x i X n) (kfg 4 [8] [0, 1, 4] 5) = chks [decide (0 + n ≤ X.length), decide (((X.drop 0).take n).length + sChallenge.size < 549755813888)]
  (.done .ret ⟨jk 8 ++ [.one (.ptr 4 0)] ++ jk 48, (hP k) ++ [some ⟨35, .ps [.pk .u8 8 32 (restP (sha512N (askL ((X.drop 0).take n) 2 (ofStr sChallenge))))]⟩]⟩) := by intro i X n; kernel_rfl
 obtain ⟨g1, g2, g3, g4, g5, g6⟩ := rgtB_t hr
 have hlx := nat_i (show x.length < 9223372036854775808 by omega)
 have hos := ofStr_len t
 have hY : ((ofStr t).drop 0).take t.size = ofStr t := by rw [List.drop_zero, ← hos, List.take_length]
 have hnn : b4J n = b4L n.toNat := by rw [← b4J_eq, Int.toNat_of_nonneg hn.1]
 rw [hY, hnn] at h0
 have o1 := newR_ok sRelate
 have o2 := addR_ok o1 sLabel (ofStr t) (n := (t.size : Nat)) (by rw [hos])
 have o3 : okR _ (relS t n.toNat) := addR_ok o2 sSecrets (b4L n.toNat) (n := 4) rfl
 have l1 : (newL sRelate).length = 10 := newL_len _
 have l2 : (addL (newL sRelate) sLabel (ofStr t)).length = 24 + t.size := by rw [addL_len, l1, hos]; show 10 + 1 + (4 + 5) + (4 + t.size) = _; omega
 have l3 : (relS t n.toNat).length = 44 + t.size := by
  unfold relS
  rw [addL_len, l2]
  show 24 + t.size + 1 + (4 + 7) + (4 + 4) = _
  omega
 have hml : (1000 : Nat) ≤ maxLen := by decide
 rw [chks_true, o3.1, o3.2] at h0
 rotate_left 1
 · refine allT_app (ckNew_ok _ (by decide)) (allTc (by rw [decide_eq_true_iff]; omega) (allT_app (ckAddC_ok o1 _ _ (by rw [hos]) (by rw [l1, hos]; show 10 + 5 + t.size < _; omega) (allT1 (by rw [decide_eq_true_iff]; omega))) (allT_app (ckAdd_ok o2 _ _ rfl (by rw [l2]; show 24 + t.size + 7 + 4 < _; omega)) (allT1 hlx))))
 refine Runs.items _ _ _ (RunsL.preN oChP rfl (k := 3) h0 ?_)
 refine RunsL.loop (id := 0) (by kernel_rfl) (fun mz sz => ∃ (j : Nat) (X : List (List D)), sz = stKo (cloP) (hP k) x (j : Int) X X.length ∧ j + mz = x.length ∧ X.length ≤ 2000 + 1000 * j ∧ relX (fun j => (fun e => (comN k (eqP e))) (x.getD j [])) (relS t n.toNat) 0 x = relX (fun j => (fun e => (comN k (eqP e))) (x.getD j [])) X j (x.drop j)) x.length
  ⟨0, relS t n.toNat, rfl, Nat.zero_add _, by omega, rfl⟩ ?_
 rintro mz sz ⟨j, X, rfl, hj, hX, hg⟩
 have h1 := hhd (j : Int) X X.length
 cases mz with
 | zero =>
   have hj : j = x.length := hj
   rw [hj, dec_self_lt, cond_false] at h1
   rw [hj, List.drop_length, relX] at hg
   rw [hj]
   refine RunsL.preS oChP (k := 2) h1 ?_
   have h2 := hend ((x.length : Nat) : Int) X X.length
   rw [List.drop_zero, List.take_length, chks_true] at h2
   · rw [relN_eq, hg]
     exact RunsL.allS oChP h2 ⟨.inr rfl, by kernel_rfl, rfl⟩
   · refine allTc (by rw [decide_eq_true_iff]; omega) (allT1 ?_)
     rw [decide_eq_true_iff]
     show X.length + 9 < _
     omega
 | succ mz =>
   have hjl : j < x.length := by omega
   rw [dec_lt hjl, cond_true] at h1
   have hlp := nat_i (eqs_len hrng j)
   obtain ⟨p1, p2⟩ := goodEq_at g6 hjl
   refine RunsL.preS oChP (k := 2) h1 (RunsL.blkAt (id := 1) (by kernel_rfl) ?_)
   have h2 := hbk (j : Int) X X.length
   rw [Int.toNat_natCast] at h2
   rw [drop_cons hjl, relX] at hg
   generalize he : x.getD j [] = e at *
   have oX : okR (X, X.length) X := ⟨rfl, rfl⟩
   have oL := addR_ok oX sLeft (pkL 32 (eqA e)) (n := 32) (by rw [pkL_len]; rfl)
   rw [chks_true, oL.1, oL.2] at h2
   rotate_left 1
   · exact allT_app (allTc (dec_nn j) (allT1 (dec_lt hjl))) (allT_app (ckAdd_ok oX _ _ (by rw [pkL_len]; rfl) (by rw [pkL_len]; show X.length + 4 + 32 < _; omega)) (allT1 hlp))
   have lL : (addL X sLeft (pkL 32 (eqA e))).length = X.length + 45 := by rw [addL_len, pkL_len]; show X.length + 1 + (4 + 4) + (4 + 32) = _; omega
   refine RunsL.preN oChP rfl (k := 3) h2 ?_
   refine RunsL.loop (id := 2) (by kernel_rfl) (fun my sz => ∃ (q : Nat) (Z : List (List D)), sz = stKi (cloP) (hP k) x (j : Int) e (q : Int) Z Z.length ∧ q + my = (eqP e).length ∧ Z.length ≤ X.length + 45 + 49 * q ∧ partsX (addL X sLeft (pkL 32 (eqA e))) (eqP e) = partsX Z ((eqP e).drop q)) (eqP e).length
    ⟨0, _, rfl, Nat.zero_add _, by omega, rfl⟩ ?_
   rintro my sz ⟨q, Z, rfl, hq, hZ, hg2⟩
   have oZ : okR (Z, Z.length) Z := ⟨rfl, rfl⟩
   have h3 := hin (j : Int) e (q : Int) Z Z.length
   cases my with
   | zero =>
     have hq : q = (eqP e).length := hq
     rw [hq, dec_self_lt, cond_false] at h3
     rw [hq, List.drop_length, partsX] at hg2
     rw [hq]
     refine RunsL.allB oChP rfl h3 ?_
     have hfin : ∀ (i : Int) (q : Int) (X : List (List D)) (n : Nat), evLS cChP 100 ((items (blkAt (loopAt (bodyOf Tryz.f81) 3) 2)).drop 4) (stKi (cloP) (hP k) x i e q X n) (kfgN 4 [3, 8, 9, 22, 23, 24] [0, 1, 4, 5, 23] 24 [(23, 6)] 7) =
      chks ([goodPa (k.length : Nat) (eqP e), decide ((eqP e).length < 1099511627776)] ++ ckAdd (X, n) sCommit 32 (pkL 32 (comN k (eqP e)))) (.done .normal (stKo (cloP) (hP k) x i (addR (X, n) sCommit 32 (pkL 32 (comN k (eqP e)))).1 (addR (X, n) sCommit 32 (pkL 32 (comN k (eqP e)))).2)) := by intro i q X n; kernel_rfl
     have h4 := hfin (j : Int) ((eqP e).length : Nat) Z Z.length
     have oF := addR_ok oZ sCommit (pkL 32 (comN k (eqP e))) (n := 32) (by rw [pkL_len]; rfl)
     rw [chks_true, oF.1, oF.2] at h4
     rotate_left 1
     · exact allT_app (allTc p2 (allT1 (by rw [decide_eq_true_iff]; omega))) (ckAdd_ok oZ _ _ (by rw [pkL_len]; rfl) (by rw [pkL_len]; show Z.length + 6 + 32 < _; omega))
     have lF : (addL Z sCommit (pkL 32 (comN k (eqP e)))).length = Z.length + 47 := by rw [addL_len, pkL_len]; show Z.length + 1 + (4 + 6) + (4 + 32) = _; omega
     refine RunsL.allN oChP rfl h4 ?_
     have h5 := htl (j : Int) (addL Z sCommit (pkL 32 (comN k (eqP e)))) (addL Z sCommit (pkL 32 (comN k (eqP e)))).length
     rw [chks_true (allT1 (okI (by omega) (by omega)))] at h5
     refine RunsL.allS oChP h5 ⟨mz, Nat.lt_succ_self mz, j + 1, _, rfl, by omega, by rw [lF]; omega, ?_⟩
     rw [hg]
     unfold eqX
     rw [hg2]
   | succ my =>
     have hql : q < (eqP e).length := by omega
     obtain ⟨q1, q2⟩ := goodPa_at p2 hql
     rw [dec_lt hql, cond_true, Int.toNat_natCast, partX_y _ q1] at h3
     have oP := addR_ok oZ sPart (b4L (paS ((eqP e).getD q [])).toNat ++ pkL 32 (paB ((eqP e).getD q []))) (n := 36) (by rw [y36]; rfl)
     rw [chks_true, oP.1, oP.2] at h3
     rotate_left 1
     · exact allT_app (allTc (dec_nn q) (allT1 rfl)) (allT_app (ckAdd_ok oZ _ _ (by rw [y36]; rfl) (by rw [y36]; show Z.length + 4 + 36 < _; omega)) (allT1 (okI (by omega) (by omega))))
     refine RunsL.allB oChP rfl h3 ⟨my, Nat.lt_succ_self my, q + 1, _, rfl, by omega, ?_, ?_⟩
     · rw [addL_len, y36]
       show Z.length + 1 + (4 + 4) + (4 + 36) ≤ _
       omega
     · rw [hg2, drop_cons hql, partsX]
       rfl
end Go.Proofs.YtdkmcpbjicnfmaaGreat
