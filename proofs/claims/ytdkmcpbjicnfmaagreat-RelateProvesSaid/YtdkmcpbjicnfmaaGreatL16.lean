/-
  The document's relations: what a proof says of the commitments.
-/
import Derived.Test.YtdkmcpbjicnfmaaGreatLb90
import Derived.Test.YtdkmcpbjicnfmaaGreatLb87
import Derived.Test.YtdkmcpbjicnfmaaGreatLb76
import Derived.Test.YtdkmcpbjicnfmaaGreatL14
set_option maxRecDepth 100000
namespace Go.Proofs.YtdkmcpbjicnfmaaGreat
open Go Vx Go.RowKit

def rowQ (y : List (List D)) : Hp := [some ⟨37, .row [.pk .u8 8 32] y⟩]
end Go.Proofs.YtdkmcpbjicnfmaaGreat

/-
  The document's relations: the challenge.
-/
namespace Go.Proofs.YtdkmcpbjicnfmaaGreat
open Go Vx Go.RowKit

theorem isB_ofStr (s : ByteArray) : isB (ofStr s) := by
 intro d hd
 unfold ofStr at hd
 rw [List.mem_map] at hd
 obtain ⟨b, _, rfl⟩ := hd
 exact ⟨b.toNat, b.toNat_lt, rfl⟩
def b4U (n : Int) : List (List D) := [[.i (wrapK .u8 (n.tdiv 16777216))], [.i (wrapK .u8 ((n.tdiv 65536).tmod 256))], [.i (wrapK .u8 ((n.tdiv 256).tmod 256))], [.i (wrapK .u8 (n.tmod 256))]]
theorem b4U_eq (n : Nat) : b4U (n : Nat) = b4L n := by
 unfold b4U b4L
 rw [show (((n : Nat) : Int).tdiv 16777216) = ((n / 16777216 : Nat) : Int) from rfl, show (((n : Nat) : Int).tdiv 65536) = ((n / 65536 : Nat) : Int) from rfl, show (((n : Nat) : Int).tdiv 256) = ((n / 256 : Nat) : Int) from rfl,
  show ((n / 65536 : Nat) : Int).tmod 256 = ((n / 65536 % 256 : Nat) : Int) from rfl, show ((n / 256 : Nat) : Int).tmod 256 = ((n / 256 % 256 : Nat) : Int) from rfl,
  show ((n : Nat) : Int).tmod 256 = ((n % 256 : Nat) : Int) from rfl, wrap8_nat _ (Nat.mod_lt _ (by decide)), wrap8_nat _ (Nat.mod_lt _ (by decide)), wrap8_nat _ (Nat.mod_lt _ (by decide)),
  show wrapK .u8 ((n / 16777216 : Nat) : Int) = ((n / 16777216 % 256 : Nat) : Int) by simp only [wrapK]; omega]
def ckT (T l y : ByteArray) : List Bool := [decide (T.size + 1 < 9223372036854775808), decide ((T ++ ⟨#[1]⟩).size + (formS l).size < 9223372036854775808), decide ((T ++ ⟨#[1]⟩ ++ formS l).size + (formS y).size < 9223372036854775808)]
theorem one_size : (⟨#[1]⟩ : ByteArray).size = 1 := rfl
theorem ckT_ok {T l y : ByteArray} (h : T.size + l.size + y.size < 1099511627776) : allT (ckT T l y) := by
 unfold ckT
 rw [size_app, size_app, size_app, formS_size, formS_size, one_size]
 refine allTc ?_ (allTc ?_ (allT1 ?_)) <;> (rw [decide_eq_true_iff]; omega)
def scrB (T : ByteArray) : Hp := [some ⟨35, .ps ub0⟩, some ⟨82, .ps [.str T]⟩]
def stRc (x y : List (List D)) (i : Int) (T : ByteArray) : St := ⟨[.junk, veqs x, .junk, vscs y] ++ jk 4 ++ [.one (.ptr 0 0), .one (.ptr 1 0), vi64 i] ++ jk 64, scrB T⟩
def stRd (x y : List (List D)) (i j : Int) (T : ByteArray) : St := ⟨[.junk, veqs x, .junk, vscs y] ++ jk 4 ++ [.one (.ptr 0 0), .one (.ptr 1 0), vi64 i, vi64 j] ++ jk 63, scrB T⟩
theorem tdiv_i {n : Int} (h0 : 0 ≤ n) (h1 : n < 9223372036854775808) (m : Nat) : okK .i64 (n.tdiv m) = true := by
 obtain ⟨k, rfl⟩ := Int.eq_ofNat_of_zero_le h0
 rw [tdiv_nat]
 have := Nat.div_le_self k m
 generalize k / m = q at *
 exact okI (by omega) (by omega)

noncomputable def sRChal11F : List D → Option (List Bool × V)
 | [.s t, .l x, .i n, .l y] => some ([rgtB t.size x n, decide (x.length ≤ y.length)], vb32 (relN t x n.toNat fun j => scAt y j))
 | _ => none
noncomputable def sRChal11 : FSpec := spec [tstr, teqs, ti64, tscs] sRChal11F
noncomputable abbrev tabRChal11 : List (FuncId × FSpec) := [(16, sRScal), (47, sRForm)]
theorem tabokRChal11 : TabOK Tryz.prog (tabOf tabRChal11) := (.cons ok_RScal (.cons ok_RForm .nil))
noncomputable abbrev ilRChal11 : List (FuncId × Func) := [(12, Tryz.f12), (14, Tryz.f14), (87, Tryz.f87)]
theorem ilokRChal11 : IlOK Tryz.prog (ilTab ilRChal11) := (IlOK.cons Tryz.func12 (by kernel_rfl) (IlOK.cons Tryz.func14 (by kernel_rfl) (IlOK.cons Tryz.func87 (by kernel_rfl) IlOK.nil)))
noncomputable abbrev cRChal11 : Cx := mkcf true false tabRChal11 ilRChal11 []
theorem oRChal11 : Ok cRChal11 := mkokf (sy := true) (rw := false) tabokRChal11 ilokRChal11 JsOK.nil
theorem ok_RChal11 : FnOK Tryz.prog 40 sRChal11 := by
 refine fn_flat (cx := mkcf true false tabRChal11 ilRChal11 []) (c := bodyOf Tryz.f40) Tryz.func40 (by kernel_rfl) (by kernel_rfl) rfl ?_
 intro ds chk v vs hF ht he hr base
 unfold sRChal11F at hF
 split at hF
 · rename_i t x n y
   cases hF
   have hvs : vs = [vstr t, veqs x, vi64 n, vscs y] := by simp only [encA, encV, encP, encL, Option.some.injEq] at he; exact he.symm
   subst hvs
   have hr1 : rgtB t.size x n = true := ht _ (by simp)
   have hyx : x.length ≤ y.length := of_decide_eq_true (ht (decide (x.length ≤ y.length)) (by simp))
   obtain ⟨_, hrng, _⟩ := hr
   have hrng := hrng.2
   obtain ⟨g1, g2, g3, g4, g5, g6⟩ := rgtB_t hr1
   have hlx := nat_i (show x.length < 9223372036854775808 by omega)
   have h0 : evLS cRChal11 100 ((items (bodyOf Tryz.f40)).take 3) ⟨t0 Tryz.f40 [vstr t, veqs x, vi64 n, vscs y], []⟩ (kfgN 0 [1, 3, 8, 9, 10] [0, 7] 8 [(7, 1)] 2) =
    chks ([decide (t.size ≤ maxLen), decide (0 + t.size ≤ (ofStr t).length), decide ((toStr (((ofStr t).drop 0).take t.size)).size < 1099511627776), decide ((formS sRelate ++ ⟨#[1]⟩ ++ formS sLabel).size + (formS (toStr (((ofStr t).drop 0).take t.size))).size < 9223372036854775808),
     okK .i64 (n.tdiv 16777216), okK .i64 (n.tdiv 65536), okK .i64 (n.tdiv 256)] ++ ckT (addT (formS sRelate) sLabel (toStr (((ofStr t).drop 0).take t.size))) sSecrets (toStr (b4U n)))
     (.done .normal (stRc x y 0 (addT (addT (formS sRelate) sLabel (toStr (((ofStr t).drop 0).take t.size))) sSecrets (toStr (b4U n))))) := by kernel_rfl
   have hhd : ∀ (i : Int) (T : ByteArray), evLS cRChal11 100 ((items (loopAt (bodyOf Tryz.f40) 3)).take 2) (stRc x y i T) (kfg 0 [1, 3, 8, 9, 10] [0, 1] 2) = chks [okK .i64 (x.length : Nat)] (bif decide (i < (x.length : Nat)) then .done .normal (stRc x y i T) else .done (.exit 0) (stRc x y i T)) := by intro i T; kernel_rfl
   have hbk : ∀ (i : Int) (T : ByteArray), evLS cRChal11 100 ((items (blkAt (loopAt (bodyOf Tryz.f40) 3) 2)).take 2) (stRc x y i T) (kfg 0 [1, 3, 8, 9, 10, 11] [0, 1] 2) =
    chks ([decide (0 ≤ i), decide (i < (x.length : Nat))] ++ ckT T sLeft (toStr (pkL 32 (eqA (x.getD i.toNat []))))) (.done .normal (stRd x y i 0 (addT T sLeft (toStr (pkL 32 (eqA (x.getD i.toNat []))))))) := by intro i T; kernel_rfl
   have hin : ∀ (i q : Int) (T : ByteArray), evLS cRChal11 100 (items (loopAt (blkAt (loopAt (bodyOf Tryz.f40) 3) 2) 2)) (stRd x y i q T) (kfg 0 [1, 3, 8, 9, 10, 11] [0, 1] 2) =
    chks [decide (0 ≤ i), decide (i < (x.length : Nat)), okK .i64 ((eqP (x.getD i.toNat [])).length : Nat)] (bif decide (q < ((eqP (x.getD i.toNat [])).length : Nat)) then chks ([decide (0 ≤ i), decide (i < (x.length : Nat)), decide (0 ≤ q), decide (q < ((eqP (x.getD i.toNat [])).length : Nat)),
     okK .i64 ((paS ((eqP (x.getD i.toNat [])).getD q.toNat [])).tdiv 16777216), okK .i64 ((paS ((eqP (x.getD i.toNat [])).getD q.toNat [])).tdiv 65536), okK .i64 ((paS ((eqP (x.getD i.toNat [])).getD q.toNat [])).tdiv 256), decide (0 ≤ i), decide (i < (x.length : Nat)), decide (0 ≤ q), decide (q < ((eqP (x.getD i.toNat [])).length : Nat))] ++
     (ckT T sPart (toStr (b4U (paS ((eqP (x.getD i.toNat [])).getD q.toNat [])) ++ pkL 32 (paB ((eqP (x.getD i.toNat [])).getD q.toNat [])))) ++ [okK .i64 (q + 1)]))
     (.done .normal (stRd x y i (q + 1) (addT T sPart (toStr (b4U (paS ((eqP (x.getD i.toNat [])).getD q.toNat [])) ++ pkL 32 (paB ((eqP (x.getD i.toNat [])).getD q.toNat []))))))) else .done (.exit 2) (stRd x y i q T)) := by intro i q T; kernel_rfl
   have hfin : ∀ (i q : Int) (T : ByteArray), evLS cRChal11 100 ((items (blkAt (loopAt (bodyOf Tryz.f40) 3) 2)).drop 3) (stRd x y i q T) (kfg 0 [1, 3, 8, 9, 10] [0, 1] 2) =
    chks ([decide (0 ≤ i), decide (i < (y.length : Nat))] ++ ckT T sCommit (toStr (pkL 32 (scAt y i.toNat)))) (.done .normal (stRc x y i (addT T sCommit (toStr (pkL 32 (scAt y i.toNat)))))) := by intro i q T; kernel_rfl
   have htl : ∀ (i : Int) (T : ByteArray), evLS cRChal11 100 ((items (loopAt (bodyOf Tryz.f40) 3)).drop 3) (stRc x y i T) (kfg 0 [1, 3, 8, 9, 10] [0, 1] 2) = chks [okK .i64 (i + 1)] (.done .normal (stRc x y (i + 1) T)) := by intro i T; kernel_rfl
   have hend : ∀ (i : Int) (T : ByteArray), evLS cRChal11 100 ((items (bodyOf Tryz.f40)).drop 4) (stRc x y i T) (kres cRChal11 Tryz.f40 base) = chks [decide (T.size + sChallenge.size < 549755813888)] (outV (vb32 (restP (sha512N (askL (ofStr T) 2 (ofStr sChallenge)))))) := by intro i T; kernel_rfl
   have hos := ofStr_len t
   have hY : ((ofStr t).drop 0).take t.size = ofStr t := by rw [List.drop_zero, ← hos, List.take_length]
   have hn : n = ((n.toNat : Nat) : Int) := (Int.toNat_of_nonneg (by omega)).symm
   have hnn : b4U n = b4L n.toNat := by rw [← b4U_eq, ← hn]
   rw [hY, hnn] at h0
   have hX0 : ofStr (addT (addT (formS sRelate) sLabel (toStr (ofStr t))) sSecrets (toStr (b4L n.toNat))) = relS t n.toNat := by
    rw [ofStr_addT, ofStr_addT, ofStr_to (isB_ofStr t), ofStr_to (isB_b4L _), ofStr_form]
    rfl
   have hml : (1000 : Nat) ≤ maxLen := by decide
   have hts : (toStr (ofStr t)).size = t.size := by rw [toStr_size, hos]
   have hs0 : (addT (formS sRelate) sLabel (toStr (ofStr t))).size = 24 + t.size := by
    rw [addT_size, formS_size, hts]
    show 4 + 6 + 1 + (4 + 5) + (4 + t.size) = _
    omega
   have hs1 : (addT (addT (formS sRelate) sLabel (toStr (ofStr t))) sSecrets (toStr (b4L n.toNat))).size = 44 + t.size := by
    rw [addT_size, hs0, toStr_size]
    show 24 + t.size + 1 + (4 + 7) + (4 + 4) = _
    omega
   rw [chks_true] at h0
   rotate_left 1
   · refine allT_app (allTc (by rw [decide_eq_true_iff]; omega) (allTc (by rw [decide_eq_true_iff]; omega) (allTc (by rw [decide_eq_true_iff, hts]; omega) (allTc ?_ (allTc (tdiv_i (by omega) (by omega) 16777216) (allTc (tdiv_i (by omega) (by omega) 65536) (allT1 (tdiv_i (by omega) (by omega) 256)))))))) (ckT_ok (by rw [hs0, toStr_size]; show 24 + t.size + 7 + 4 < _; omega))
     rw [decide_eq_true_iff, size_app, size_app, formS_size, formS_size, formS_size, hts]
     show 4 + 6 + 1 + (4 + 5) + (4 + t.size) < _
     omega
   refine Runs.items _ _ _ (RunsL.preN oRChal11 rfl (k := 3) h0 ?_)
   refine RunsL.loop (id := 0) (by kernel_rfl) (fun m s => ∃ (j : Nat) (T : ByteArray), s = stRc x y (j : Int) T ∧ j + m = x.length ∧ T.size ≤ 2000 + 1000 * j ∧ relX (fun j => scAt y j) (relS t n.toNat) 0 x = relX (fun j => scAt y j) (ofStr T) j (x.drop j)) x.length
    ⟨0, _, rfl, Nat.zero_add _, by omega, by rw [hX0]; rfl⟩ ?_
   rintro m s ⟨j, T, rfl, hj, hT, hg⟩
   have h1 := hhd (j : Int) T
   rw [chks_true (allT1 hlx)] at h1
   cases m with
   | zero =>
     have hj : j = x.length := hj
     rw [hj, dec_self_lt, cond_false] at h1
     rw [hj, List.drop_length, relX] at hg
     rw [hj]
     refine RunsL.preS oRChal11 (k := 2) h1 ?_
     have h2 := hend ((x.length : Nat) : Int) T
     rw [chks_true (allT1 (by rw [decide_eq_true_iff]; show T.size + 9 < _; omega)), ← hg, ← relN_eq] at h2
     exact runsL_evS oRChal11 (n := 100) (bs0 := []) h2 (VEnt.refl _) trivial
   | succ m =>
     have hjl : j < x.length := by omega
     have hjy : j < y.length := by omega
     rw [dec_lt hjl, cond_true] at h1
     have hlp := nat_i (eqs_len hrng j)
     obtain ⟨p1, p2⟩ := goodEq_at g6 hjl
     have d0 := dec_nn j
     have d1 := dec_lt hjl
     refine RunsL.preS oRChal11 (k := 2) h1 (RunsL.blkAt (id := 1) (by kernel_rfl) ?_)
     have h2 := hbk (j : Int) T
     rw [Int.toNat_natCast] at h2
     rw [drop_cons hjl, relX] at hg
     have hl32 : ∀ a, (toStr (pkL 32 a)).size = 32 := fun a => by rw [toStr_size, pkL_len]
     rw [chks_true (allT_app (allTc d0 (allT1 d1)) (ckT_ok (by rw [hl32]; show T.size + 4 + 32 < _; omega)))] at h2
     have lL : (addT T sLeft (toStr (pkL 32 (eqA (x.getD j []))))).size = T.size + 45 := by rw [addT_size, hl32]; show T.size + 1 + (4 + 4) + (4 + 32) = _; omega
     have oL : ofStr (addT T sLeft (toStr (pkL 32 (eqA (x.getD j []))))) = addL (ofStr T) sLeft (pkL 32 (eqA (x.getD j []))) := by rw [ofStr_addT, ofStr_to (isB_pkL _ _)]
     refine RunsL.preS oRChal11 (k := 2) h2 ?_
     refine RunsL.loop (id := 2) (by kernel_rfl) (fun m' s => ∃ (q : Nat) (Z : ByteArray), s = stRd x y (j : Int) (q : Int) Z ∧ q + m' = (eqP (x.getD j [])).length ∧ Z.size ≤ T.size + 45 + 49 * q ∧
      partsX (addL (ofStr T) sLeft (pkL 32 (eqA (x.getD j [])))) (eqP (x.getD j [])) = partsX (ofStr Z) ((eqP (x.getD j [])).drop q)) (eqP (x.getD j [])).length ⟨0, _, rfl, Nat.zero_add _, by omega, by rw [oL]; rfl⟩ ?_
     rintro m' s ⟨q, Z, rfl, hq, hZ, hg2⟩
     have h3 := hin (j : Int) (q : Int) Z
     rw [Int.toNat_natCast, chks_true (allTc d0 (allTc d1 (allT1 hlp)))] at h3
     cases m' with
     | zero =>
       have hq : q = (eqP (x.getD j [])).length := hq
       rw [hq, dec_self_lt, cond_false] at h3
       rw [hq, List.drop_length, partsX] at hg2
       rw [hq]
       refine RunsL.allS oRChal11 h3 ?_
       have h4 := hfin (j : Int) ((eqP (x.getD j [])).length : Nat) Z
       rw [Int.toNat_natCast, chks_true (allT_app (allTc d0 (allT1 (dec_lt hjy))) (ckT_ok (by rw [hl32]; show Z.size + 6 + 32 < _; omega)))] at h4
       have lF : (addT Z sCommit (toStr (pkL 32 (scAt y j)))).size = Z.size + 47 := by rw [addT_size, hl32]; show Z.size + 1 + (4 + 6) + (4 + 32) = _; omega
       refine RunsL.allS oRChal11 h4 ?_
       have h5 := htl (j : Int) (addT Z sCommit (toStr (pkL 32 (scAt y j))))
       rw [chks_true (allT1 (okI (by omega) (by omega)))] at h5
       refine RunsL.allS oRChal11 h5 ⟨m, Nat.lt_succ_self m, j + 1, _, rfl, by omega, by rw [lF]; omega, ?_⟩
       rw [hg, ofStr_addT, ofStr_to (isB_pkL _ _), ← hg2]
       rfl
     | succ m' =>
       have hql : q < (eqP (x.getD j [])).length := by omega
       obtain ⟨q1, q2⟩ := goodPa_at p2 hql
       have hsn : b4U (paS ((eqP (x.getD j [])).getD q [])) = b4L (paS ((eqP (x.getD j [])).getD q [])).toNat := by rw [← b4U_eq, Int.toNat_of_nonneg q1]
       rw [dec_lt hql, cond_true, Int.toNat_natCast, hsn, chks_true] at h3
       rotate_left 1
       · refine allT_app (allTc d0 (allTc d1 (allTc (dec_nn q) (allTc rfl (allTc (tdiv_i q1 (by omega) 16777216) (allTc (tdiv_i q1 (by omega) 65536) (allTc (tdiv_i q1 (by omega) 256) (allTc d0 (allTc d1 (allTc (dec_nn q) (allT1 rfl))))))))))) (allT_app (ckT_ok (by rw [toStr_size, y36]; show Z.size + 4 + 36 < _; omega)) (allT1 (okI (by omega) (by omega))))
       refine RunsL.allS oRChal11 h3 ⟨m', Nat.lt_succ_self m', q + 1, _, rfl, by omega, ?_, ?_⟩
       · rw [addT_size, toStr_size, y36]
         show Z.size + 1 + (4 + 4) + (4 + 36) ≤ _
         omega
       · rw [hg2, drop_cons hql, partsX, ofStr_addT, ofStr_to (isB_app (isB_b4L _) (isB_pkL _ _))]
         rfl
 · cases hF
end Go.Proofs.YtdkmcpbjicnfmaaGreat

/-
  The document's relations: Verify; is a system greater than is played?
-/
namespace Go.Proofs.YtdkmcpbjicnfmaaGreat
open Go Vx Go.RowKit

def gtAny : List (List D) → Bool
 | [] => false
 | e :: l => bif decide ((100 : Int) < ((eqP e).length : Nat)) then true else gtAny l
def gtSum : List (List D) → Nat
 | [] => 0
 | e :: l => 1 + (eqP e).length + gtSum l
def greatB (l : ByteArray) (x : List (List D)) (n : Int) : Bool := bif decide ((4000 : Int) < (l.size : Nat)) then true else bif decide ((40 : Int) < (x.length : Nat)) then true else bif decide ((200 : Int) < n) then true else
 bif gtAny x then true else bif decide ((24 : Int) < (gtSum x : Nat)) then rgtB l.size x (bif decide (1 > n) then 1 else n) else false
def stGw (l : ByteArray) (x : List (List D)) (n a i : Int) : St := ⟨[vstr l, veqs x, vi64 n] ++ jk 3 ++ [.one (.bool false), vi64 a] ++ jk 14 ++ [vi64 (x.length : Nat), vi64 i] ++ jk 28, []⟩
def stGt (l : ByteArray) (x : List (List D)) (n : Int) : St := ⟨[vstr l, veqs x, vi64 n] ++ jk 3 ++ [.one (.bool true), undefV] ++ jk 14 ++ [undefV, undefV] ++ jk 28, []⟩
def stGu (l : ByteArray) (x : List (List D)) (n a i : Int) : St := ⟨[vstr l, veqs x, vi64 n] ++ jk 3 ++ [.one (.bool true), vi64 a] ++ jk 14 ++ [vi64 (x.length : Nat), vi64 i] ++ jk 28, []⟩

noncomputable def sGGreatF : List D → Option (List Bool × V)
 | [.s l, .l x, .i n] => some ([decide (l.size < 9223372036854775808)], vbool' (greatB l x n))
 | _ => none
noncomputable def sGGreat : FSpec := spec [tstr, teqs, ti64] sGGreatF
noncomputable abbrev tabGGreat : List (FuncId × FSpec) := [(76, sRRight)]
theorem tabokGGreat : TabOK Tryz.prog (tabOf tabGGreat) := (.cons ok_RRight .nil)
noncomputable abbrev cGGreat : Cx := mkcf true false tabGGreat [] []
theorem oGGreat : Ok cGGreat := mkokf (sy := true) (rw := false) tabokGGreat IlOK.nil JsOK.nil
theorem ok_GGreat : FnOK Tryz.prog 31 sGGreat := by
 refine fn_flat (cx := mkcf true false tabGGreat [] []) (c := bodyOf Tryz.f31) Tryz.func31 (by kernel_rfl) (by kernel_rfl) rfl ?_
 intro ds chk v vs hF ht he hr base
 unfold sGGreatF at hF
 split at hF
 · rename_i l x n
   cases hF
   have hvs : vs = [vstr l, veqs x, vi64 n] := by simp only [encA, encV, encP, encL, Option.some.injEq] at he; exact he.symm
   subst hvs
   have hs : l.size < 9223372036854775808 := of_decide_eq_true (ht _ (by simp))
   obtain ⟨_, hrng, _⟩ := hr
   have hx := max_lt hrng.1
   have hlx := nat_i hx
   have hpl := eqs_len hrng.2
   have h0 : evLS cGGreat 100 ((items (bodyOf Tryz.f31)).take 5) ⟨t0 Tryz.f31 [vstr l, veqs x, vi64 n], []⟩ (kfg 0 [0, 1, 2, 6, 7, 22, 23] [] 0) =
    chks [okK .i64 (l.size : Nat)] (bif decide ((4000 : Int) < (l.size : Nat)) then .done .ret (stGt l x n) else chks [okK .i64 (x.length : Nat)] (bif decide ((40 : Int) < (x.length : Nat)) then .done .ret (stGt l x n) else bif decide ((200 : Int) < n) then .done .ret (stGt l x n) else
     chks [okK .i64 (x.length : Nat)] (.done .normal (stGw l x n 0 0)))) := by kernel_rfl
   rw [chks_true (allT1 (nat_i hs)), chks_true (allT1 hlx), chks_true (allT1 hlx)] at h0
   have hF : greatB l x n = bif decide ((4000 : Int) < (l.size : Nat)) then true else bif decide ((40 : Int) < (x.length : Nat)) then true else bif decide ((200 : Int) < n) then true else
    bif gtAny x then true else bif decide ((24 : Int) < (gtSum x : Nat)) then rgtB l.size x (bif decide (1 > n) then 1 else n) else false := rfl
   rw [hF]
   clear hF
   cases k1 : decide ((4000 : Int) < (l.size : Nat)) with
   | true =>
     rw [k1] at h0
     exact Runs.items _ _ _ (RunsL.preS oGGreat (k := 5) h0 ⟨_, [], (by kernel_rfl), VEnt.refl _, trivial⟩)
   | false =>
   cases k2 : decide ((40 : Int) < (x.length : Nat)) with
   | true =>
     rw [k1, k2] at h0
     exact Runs.items _ _ _ (RunsL.preS oGGreat (k := 5) h0 ⟨_, [], (by kernel_rfl), VEnt.refl _, trivial⟩)
   | false =>
   cases k3 : decide ((200 : Int) < n) with
   | true =>
     rw [k1, k2, k3] at h0
     exact Runs.items _ _ _ (RunsL.preS oGGreat (k := 5) h0 ⟨_, [], (by kernel_rfl), VEnt.refl _, trivial⟩)
   | false =>
   rw [k1, k2, k3] at h0
   have hx40 := of_decide_eq_false k2
   refine Runs.items _ _ _ (RunsL.preS oGGreat (k := 5) h0 ?_)
   refine RunsL.loop (id := 0) (by kernel_rfl) (fun m s => ∃ j a : Nat, s = stGw l x n (a : Int) (j : Int) ∧ j + m = x.length ∧ a ≤ 101 * j ∧ gtAny x = gtAny (x.drop j) ∧ gtSum x = a + gtSum (x.drop j)) x.length ⟨0, 0, rfl, Nat.zero_add _, Nat.le_refl _, rfl, (Nat.zero_add _).symm⟩ ?_
   rintro m s ⟨j, a, rfl, hj, ha, hg, hsum⟩
   have hev : ∀ a i : Int, evLS cGGreat 100 (items (loopAt (bodyOf Tryz.f31) 5)) (stGw l x n a i) (kfg 0 [0, 1, 2, 6, 7, 22, 23] [] 0) =
    bif decide (i < (x.length : Nat)) then chks [decide (0 ≤ i), decide (i < (x.length : Nat)), okK .i64 ((eqP (x.getD i.toNat [])).length : Nat)] (bif decide ((100 : Int) < ((eqP (x.getD i.toNat [])).length : Nat)) then .done .ret (stGu l x n a i)
     else chks [decide (0 ≤ i), decide (i < (x.length : Nat)), okK .i64 ((eqP (x.getD i.toNat [])).length : Nat), okK .i64 (1 + ((eqP (x.getD i.toNat [])).length : Nat)), okK .i64 (a + (1 + ((eqP (x.getD i.toNat [])).length : Nat))), okK .i64 (i + 1)] (.done .normal (stGw l x n (a + (1 + ((eqP (x.getD i.toNat [])).length : Nat))) (i + 1))))
    else .done (.exit 0) (stGw l x n a i) := by intro a i; kernel_rfl
   have h1 := hev (a : Int) (j : Int)
   rw [Int.toNat_natCast] at h1
   cases m with
   | zero =>
     have hj : j = x.length := hj
     rw [hj, dec_self_lt, cond_false] at h1
     rw [hj, List.drop_length] at hg hsum
     have hg : gtAny x = false := hg
     have hsum : gtSum x = a := hsum
     rw [hj, hg, hsum]
     refine RunsL.allS oGGreat h1 ?_
     have he : ∀ a i : Int, evLS cGGreat 100 ((items (bodyOf Tryz.f31)).drop 6) (stGw l x n a i) (kres cGGreat Tryz.f31 base) = bif decide ((24 : Int) < a) then chks [decide (l.size < 9223372036854775808)] (outV (vbool' (rgtB l.size x (bif decide (1 > n) then 1 else n)))) else outV (vbool' false) := by intro a i; kernel_rfl
     have h2 := he (a : Int) ((x.length : Nat) : Int)
     rw [chks_true (allT1 (by rw [decide_eq_true_iff]; exact hs))] at h2
     cases k4 : decide ((24 : Int) < (a : Int)) with
     | true =>
       rw [k4] at h2
       exact runsL_evS oGGreat (n := 100) (bs0 := []) h2 (VEnt.refl _) trivial
     | false =>
       rw [k4] at h2
       exact runsL_evS oGGreat (n := 100) (bs0 := []) h2 (VEnt.refl _) trivial
   | succ m =>
     have hjl : j < x.length := by omega
     have hlp := nat_i (hpl j)
     rw [dec_lt hjl, dec_nn j, hlp] at h1
     rw [drop_cons hjl, gtAny] at hg
     rw [drop_cons hjl, gtSum] at hsum
     cases hb : decide ((100 : Int) < ((eqP (x.getD j [])).length : Nat)) with
     | true =>
       rw [hb] at h1 hg
       rw [hg]
       exact RunsL.allS oGGreat h1 ⟨_, [], (by kernel_rfl), VEnt.refl _, trivial⟩
     | false =>
       rw [hb] at h1 hg
       have hb2 := of_decide_eq_false hb
       rw [show okK .i64 (1 + ((eqP (x.getD j [])).length : Nat) : Int) = true from okI (by omega) (by omega), show okK .i64 ((a : Int) + (1 + ((eqP (x.getD j [])).length : Nat))) = true from okI (by omega) (by omega), show okK .i64 ((j : Int) + 1) = true from okI (by omega) (by omega)] at h1
       refine RunsL.allS oGGreat h1 ⟨m, Nat.lt_succ_self m, j + 1, a + (1 + (eqP (x.getD j [])).length), ?_, by omega, by omega, hg, by omega⟩
       rw [Int.natCast_add, Int.natCast_add]
       rfl
 · cases hF
end Go.Proofs.YtdkmcpbjicnfmaaGreat
