/-
  The contract of a proof of relations.
-/
import Derived.Test.YtdkmcpbjicnfmaaGreatLb84
import Derived.Test.YtdkmcpbjicnfmaaGreatL14
import Derived.Test.YtdkmcpbjicnfmaaGreatL8
set_option maxRecDepth 100000
namespace Go.Proofs.YtdkmcpbjicnfmaaGreat
open Go Vx Go.RowKit

def hQ (k : List (List D)) : Hp := [some ⟨55, .ps [.rd [.pk .u8 8 32] k]⟩, some ⟨58, .ps (ub0 ++ [.nilsl])⟩]
def stPz (t : ByteArray) (x s k : List (List D)) (e : Int) : St := ⟨[vstr t, veqs x, vscs s] ++ jk 4 ++ [.one (.ptr 0 0), .one (.ptr 1 0), vi64 e] ++ jk 39 ++ [undefV, undefV, undefV] ++ jk 49, hQ k⟩
def stPw (t : ByteArray) (x s k : List (List D)) (e i : Int) : St := ⟨[vstr t, veqs x, vscs s] ++ jk 4 ++ [.one (.ptr 0 0), .one (.ptr 1 0), vi64 e] ++ jk 39 ++ [veqs x, vi64 (x.length : Nat), vi64 i] ++ jk 49, hQ k⟩
def prB (C : Nat) (v : L) : Option Blk := some ⟨58, .ps [.pk .u8 8 32 C, v]⟩
def stPx (s k : List (List D)) (C : Nat) (v : L) (h : Hp) (i : Int) : St := ⟨jk 7 ++ [.one (.ptr 0 0), .one (.ptr 1 0), vi64 0] ++ jk 2 ++ [.one (.ptr 2 0)] ++ jk 57 ++ [vscs s, vi64 (s.length : Nat), vi64 i] ++ jk 28, [some ⟨55, .ps [.rd [.pk .u8 8 32] k]⟩, some ⟨58, .ps (ub0 ++ [.nilsl])⟩, prB C v] ++ h⟩
def rowP (y : List (List D)) : Hp := [some ⟨35, .row [.pk .u8 8 32] y⟩]
abbrev vprf0 (e : Int) : V := .tup [.ag (.ps (ub0 ++ [.nilsl])), .one (.int .i64 e)]
abbrev vprf (b C n : Nat) : V := .tup [.ag (.ps [.pk .u8 8 32 C, .row b 32 0 n n]), .one (.int .i64 0)]
theorem prvS_succ (c : Nat) (s k : List (List D)) (n : Nat) : prvS c s k (n + 1) = prvS c s k n ++ [[.n (rspN c (scAt s n) (scAt k n))]] := by
 unfold prvS
 rw [List.range_succ, List.map_append]
 rfl
theorem prvE_ok {t : ByteArray} {x s k : List (List D)} (h : prvE t x s k = 0) : rgtB t.size x (s.length : Nat) = true ∧ k.length = s.length ∧ allSc s = true ∧ allSc k = true ∧ ptEq x = true ∧ metB s x = true := by
 unfold prvE at h
 cases h1 : rgtB t.size x (s.length : Nat) with
 | false => rw [h1] at h; cases h
 | true =>
 cases h2 : decide (((k.length : Nat) : Int) = (s.length : Nat)) with
 | false => rw [h1, h2] at h; cases h
 | true =>
 cases h3 : allSc s with
 | false => rw [h1, h2, h3] at h; cases h
 | true =>
 cases h4 : allSc k with
 | false => rw [h1, h2, h3, h4] at h; cases h
 | true =>
 cases h5 : ptEq x with
 | false => rw [h1, h2, h3, h4, h5] at h; cases h
 | true =>
 cases h6 : metB s x with
 | false => rw [h1, h2, h3, h4, h5, h6] at h; cases h
 | true =>
 have := of_decide_eq_true h2
 exact ⟨rfl, by omega, rfl, rfl, rfl, rfl⟩
theorem prvE_of {t : ByteArray} {x s k : List (List D)} (h1 : rgtB t.size x (s.length : Nat) = true) (h2 : k.length = s.length) (h3 : allSc s = true) (h4 : allSc k = true) (h5 : ptEq x = true) : prvE t x s k = bif !metB s x then 110 else 0 := by
 unfold prvE
 rw [h1, h3, h4, h5, decide_eq_true (show ((k.length : Nat) : Int) = (s.length : Nat) by omega)]
 rfl

noncomputable def sGProveFF : List D → Option (List Bool × V)
 | [.s t, .l x, .l s, .l k] => some ([decide (t.size < 9223372036854775808), decide (prvE t x s k ≠ 0)], vprf0 (prvE t x s k))
 | _ => none
noncomputable def sGProveF : FSpec := spec [tstr, teqs, tscs, tscs] sGProveFF
noncomputable abbrev tabGProveF : List (FuncId × FSpec) := [(77, sGRight), (78, sGScalars), (79, sGPoints), (80, sGCommit)]
theorem tabokGProveF : TabOK Tryz.prog (tabOf tabGProveF) := (.cons ok_GRight (.cons ok_GScalars (.cons ok_GPoints (.cons ok_GCommit .nil))))
noncomputable abbrev cGProveF : Cx := mkcf true false tabGProveF [] []
theorem oGProveF : Ok cGProveF := mkokf (sy := true) (rw := false) tabokGProveF IlOK.nil JsOK.nil
theorem ok_GProveF : FnOK Tryz.prog 33 sGProveF := by
 refine fn_flat (cx := mkcf true false tabGProveF [] []) (c := bodyOf Tryz.f33) Tryz.func33 (by kernel_rfl) (by kernel_rfl) rfl ?_
 intro ds chk v vs hF ht he hr base
 unfold sGProveFF at hF
 split at hF
 · rename_i t x s k
   cases hF
   have hvs : vs = [vstr t, veqs x, vscs s, vscs k] := by simp only [encA, encV, encP, encL, Option.some.injEq] at he; exact he.symm
   subst hvs
   have hts : t.size < 9223372036854775808 := of_decide_eq_true (ht (decide (t.size < 9223372036854775808)) (by simp))
   obtain ⟨_, hxr, hsr, hkr, _⟩ := hr
   have hxm := max_lt hxr.1
   have hlx := nat_i (max_lt hxr.1)
   have hls := nat_i (max_lt hsr.1)
   have hlk := nat_i (max_lt hkr.1)
   have hA : evLS cGProveF 100 ((items (bodyOf Tryz.f33)).take 3) ⟨t0 Tryz.f33 [vstr t, veqs x, vscs s, vscs k], []⟩ (kfg 0 [0, 1, 2, 7, 8, 9, 49, 50, 51] [0, 1] 2) =
    chks [okK .i64 (s.length : Nat), decide (t.size < 9223372036854775808)] (bif !rgtB t.size x (s.length : Nat) then .done .ret (stPz t x s k 2) else chks [okK .i64 (k.length : Nat), okK .i64 (s.length : Nat)]
     (bif !decide (((k.length : Nat) : Int) = (s.length : Nat)) then .done .ret (stPz t x s k 2) else bif !allSc s then .done .ret (stPz t x s k 50) else bif !allSc k then .done .ret (stPz t x s k 50) else bif !ptEq x then .done .ret (stPz t x s k 51) else chks [okK .i64 (x.length : Nat)] (.done .normal (stPw t x s k 0 0)))) := by kernel_rfl
   rw [chks_true (allTc hls (allT1 (by rw [decide_eq_true_iff]; exact hts))), chks_true (allTc hlk (allT1 hls)), chks_true (allT1 hlx)] at hA
   have hL : ∀ i : Int, evLS cGProveF 100 (items (loopAt (bodyOf Tryz.f33) 3)) (stPw t x s k 0 i) (kfg 0 [0, 1, 2, 7, 8, 9, 49, 50, 51] [0, 1] 2) =
    bif decide (i < (x.length : Nat)) then chks [decide (0 ≤ i), decide (i < (x.length : Nat)), goodPa (s.length : Nat) (eqP (x.getD i.toNat [])), decide ((eqP (x.getD i.toNat [])).length < 1099511627776)]
     (bif !allB [decide (comN s (eqP (x.getD i.toNat [])) = eqA (x.getD i.toNat []))] then .done .ret (stPw t x s k 110 i) else chks [okK .i64 (i + 1)] (.done .normal (stPw t x s k 0 (i + 1))))
    else .done (.exit 1) (stPw t x s k 0 i) := by intro i; kernel_rfl
   have hne : prvE t x s k ≠ 0 := of_decide_eq_true (ht (decide (prvE t x s k ≠ 0)) (by simp))

   by_cases h1 : rgtB t.size x (s.length : Nat) = true
   rotate_left 1
   · have h1 : rgtB t.size x (s.length : Nat) = false := by simpa using h1
     rw [h1] at hA
     rw [show prvE t x s k = 2 by unfold prvE; rw [h1]; rfl]
     exact Runs.items _ _ _ (RunsL.preS oGProveF (k := 3) hA ⟨_, [], (by kernel_rfl), VEnt.refl _, trivial⟩)
   by_cases h2 : k.length = s.length
   rotate_left 1
   · have h2 : decide (((k.length : Nat) : Int) = (s.length : Nat)) = false := decide_eq_false (by omega)
     rw [h1, h2] at hA
     rw [show prvE t x s k = 2 by unfold prvE; rw [h1, h2]; rfl]
     exact Runs.items _ _ _ (RunsL.preS oGProveF (k := 3) hA ⟨_, [], (by kernel_rfl), VEnt.refl _, trivial⟩)
   have h2' : decide (((k.length : Nat) : Int) = (s.length : Nat)) = true := decide_eq_true (by omega)
   by_cases h3 : allSc s = true
   rotate_left 1
   · have h3 : allSc s = false := by simpa using h3
     rw [h1, h2', h3] at hA
     rw [show prvE t x s k = 50 by unfold prvE; rw [h1, h2', h3]; rfl]
     exact Runs.items _ _ _ (RunsL.preS oGProveF (k := 3) hA ⟨_, [], (by kernel_rfl), VEnt.refl _, trivial⟩)
   by_cases h4 : allSc k = true
   rotate_left 1
   · have h4 : allSc k = false := by simpa using h4
     rw [h1, h2', h3, h4] at hA
     rw [show prvE t x s k = 50 by unfold prvE; rw [h1, h2', h3, h4]; rfl]
     exact Runs.items _ _ _ (RunsL.preS oGProveF (k := 3) hA ⟨_, [], (by kernel_rfl), VEnt.refl _, trivial⟩)
   by_cases h5 : ptEq x = true
   rotate_left 1
   · have h5 : ptEq x = false := by simpa using h5
     rw [h1, h2', h3, h4, h5] at hA
     rw [show prvE t x s k = 51 by unfold prvE; rw [h1, h2', h3, h4, h5]; rfl]
     exact Runs.items _ _ _ (RunsL.preS oGProveF (k := 3) hA ⟨_, [], (by kernel_rfl), VEnt.refl _, trivial⟩)
   have hE := prvE_of h1 h2 h3 h4 h5
   rw [h1, h2', h3, h4, h5] at hA
   obtain ⟨g1, g2, g3, g4, g5, g6⟩ := rgtB_t h1
   refine Runs.items _ _ _ (RunsL.preS oGProveF (k := 3) hA ?_)

   refine RunsL.loop (id := 1) (by kernel_rfl) (fun m s' => ∃ j : Nat, s' = stPw t x s k 0 (j : Int) ∧ j + m = x.length ∧ metB s x = metB s (x.drop j)) x.length ⟨0, rfl, Nat.zero_add _, rfl⟩ ?_
   rintro m s' ⟨j, rfl, hj, hg⟩
   have h1 := hL (j : Int)
   rw [Int.toNat_natCast] at h1
   cases m with
   | zero =>
     have hj : j = x.length := hj
     rw [hj, dec_self_lt, cond_false] at h1
     rw [hj, List.drop_length] at hg
     rw [hj]
     exfalso
     exact hne (by rw [hE, hg]; rfl)
   | succ m =>
     have hjl : j < x.length := by omega
     obtain ⟨p1, p2⟩ := goodEq_at g6 hjl
     rw [dec_lt hjl, cond_true, chks_true (allTc (dec_nn j) (allTc rfl (allTc p2 (allT1 (by rw [decide_eq_true_iff]; omega))))), chks_true (allT1 (okI (by omega) (by omega)))] at h1
     rw [drop_cons hjl, metB] at hg
     cases hb : decide (comN s (eqP (x.getD j [])) = eqA (x.getD j [])) with
     | false =>
       rw [hb] at h1 hg
       rw [hE, hg]
       exact RunsL.allS oGProveF h1 ⟨_, [], (by kernel_rfl), VEnt.refl _, trivial⟩
     | true =>
       rw [hb] at h1 hg
       exact RunsL.allS oGProveF h1 ⟨m, Nat.lt_succ_self m, j + 1, rfl, by omega, hg⟩
 · cases hF

noncomputable abbrev ilPr : List (FuncId × Func) := [(81, Tryz.f81)]
theorem ilokPr : IlOK Tryz.prog (ilTab ilPr) := IlOK.cons Tryz.func81 (by kernel_rfl) IlOK.nil

noncomputable def sGProveTF : Nat → List D → Option (List Bool × V × List Blk)
 | base, [.s t, .l x, .l s, .l k] => some ([decide (t.size < 9223372036854775808), decide (prvE t x s k = 0)], vprf base (prvC t x s k) s.length, [⟨35, .row [.pk .u8 8 32] (prvS (prvC t x s k) s k s.length)⟩])
 | _, _ => none
noncomputable def sGProveT : FSpec := specB [tstr, teqs, tscs, tscs] sGProveTF
noncomputable abbrev tabGProveT : List (FuncId × FSpec) := [(62, sATimes), (64, sAPlus), (77, sGRight), (78, sGScalars), (79, sGPoints), (80, sGCommit)]
theorem tabokGProveT : TabOK Tryz.prog (tabOf tabGProveT) := (.cons ok_ATimes (.cons ok_APlus (.cons ok_GRight (.cons ok_GScalars (.cons ok_GPoints (.cons ok_GCommit .nil))))))
noncomputable abbrev cGProveT : Cx := mkcf true false tabGProveT [] []
theorem oGProveT : Ok cGProveT := mkokf (sy := true) (rw := false) tabokGProveT IlOK.nil JsOK.nil
theorem ok_GProveT : FnOK Tryz.prog 33 sGProveT := by
 refine fn_blk (cx := mkcf true false tabGProveT [] []) (c := bodyOf Tryz.f33) Tryz.func33 (by kernel_rfl) (by kernel_rfl) ?_
 intro base ds chk v bs vs hF ht he hr
 unfold sGProveTF at hF
 split at hF
 · rename_i t x s k
   cases hF
   have hvs : vs = [vstr t, veqs x, vscs s, vscs k] := by simp only [encA, encV, encP, encL, Option.some.injEq] at he; exact he.symm
   subst hvs
   have hts : t.size < 9223372036854775808 := of_decide_eq_true (ht (decide (t.size < 9223372036854775808)) (by simp))
   obtain ⟨_, hxr, hsr, hkr, _⟩ := hr
   have hxm := max_lt hxr.1
   have hlx := nat_i (max_lt hxr.1)
   have hls := nat_i (max_lt hsr.1)
   have hlk := nat_i (max_lt hkr.1)
   have hA : evLS cGProveT 100 ((items (bodyOf Tryz.f33)).take 3) ⟨t0 Tryz.f33 [vstr t, veqs x, vscs s, vscs k], []⟩ (kfg 0 [0, 1, 2, 7, 8, 9, 49, 50, 51] [0, 1] 2) =
    chks [okK .i64 (s.length : Nat), decide (t.size < 9223372036854775808)] (bif !rgtB t.size x (s.length : Nat) then .done .ret (stPz t x s k 2) else chks [okK .i64 (k.length : Nat), okK .i64 (s.length : Nat)]
     (bif !decide (((k.length : Nat) : Int) = (s.length : Nat)) then .done .ret (stPz t x s k 2) else bif !allSc s then .done .ret (stPz t x s k 50) else bif !allSc k then .done .ret (stPz t x s k 50) else bif !ptEq x then .done .ret (stPz t x s k 51) else chks [okK .i64 (x.length : Nat)] (.done .normal (stPw t x s k 0 0)))) := by kernel_rfl
   rw [chks_true (allTc hls (allT1 (by rw [decide_eq_true_iff]; exact hts))), chks_true (allTc hlk (allT1 hls)), chks_true (allT1 hlx)] at hA
   have hL : ∀ i : Int, evLS cGProveT 100 (items (loopAt (bodyOf Tryz.f33) 3)) (stPw t x s k 0 i) (kfg 0 [0, 1, 2, 7, 8, 9, 49, 50, 51] [0, 1] 2) =
    bif decide (i < (x.length : Nat)) then chks [decide (0 ≤ i), decide (i < (x.length : Nat)), goodPa (s.length : Nat) (eqP (x.getD i.toNat [])), decide ((eqP (x.getD i.toNat [])).length < 1099511627776)]
     (bif !allB [decide (comN s (eqP (x.getD i.toNat [])) = eqA (x.getD i.toNat []))] then .done .ret (stPw t x s k 110 i) else chks [okK .i64 (i + 1)] (.done .normal (stPw t x s k 0 (i + 1))))
    else .done (.exit 1) (stPw t x s k 0 i) := by intro i; kernel_rfl

   have hz : prvE t x s k = 0 := of_decide_eq_true (ht (decide (prvE t x s k = 0)) (by simp))
   obtain ⟨h1, h2, h3, h4, h5, h6⟩ := prvE_ok hz
   have h2' : decide (((k.length : Nat) : Int) = (s.length : Nat)) = true := decide_eq_true (by omega)
   rw [h1, h2', h3, h4, h5] at hA
   obtain ⟨g1, g2, g3, g4, g5, g6⟩ := rgtB_t h1
   have hcall : CallOK Tryz.prog 0 81 [vstr t, veqs x, vi64 (s.length : Nat), cloP] (hP k) (vb32 (prvC t x s k)) (hP k ++ [some ⟨35, .ps [.pk .u8 8 32 (prvC t x s k)]⟩]) :=
    call_ChP t x k (s.length : Nat) (by rw [h2]; exact h1) (by omega) hxr.2
   have hsl : s.length ≤ 32 := by omega
   generalize prvC t x s k = C at *
   have hD : evLS (mkcf true false tabGProveT ilPr [(81, [vstr t, veqs x, vi64 (s.length : Nat), cloP], hP k, vb32 C, hP k ++ [some ⟨35, .ps [.pk .u8 8 32 C]⟩])]) 100 (((items (bodyOf Tryz.f33)).drop 4).take 2) (stPw t x s k 0 (x.length : Nat)) (kfgN 0 [7, 8, 9, 12, 70, 71, 72] [0, 1, 3] 4 [(3, 2)] 3) =
    chks [okK .i64 (s.length : Nat), eqS [vstr t, veqs x, vi64 (s.length : Nat), cloP] (hP k) [vstr t, veqs x, vi64 (s.length : Nat), cloP] (hP k), okK .i64 (s.length : Nat)] (.done .normal (stPx s k C .nilsl [] 0)) := by kernel_rfl
   rw [chks_true (allTc hls (allTc (eqS_self _ _) (allT1 hls)))] at hD
   have hM0 : ∀ i : Int, evLS cGProveT 100 (items (loopAt (bodyOf Tryz.f33) 6)) (stPx s k C .nilsl [] i) (kfgB 0 [7, 8, 9, 12, 70, 71, 72] [0, 1, 2, 9] 10 [(9, 3)] 4 [7, 8, 9, 12, 70, 71, 72] [0, 1, 2] 3) =
    bif decide (i < (s.length : Nat)) then chks [decide (0 ≤ i), decide (i < (s.length : Nat)), decide (0 ≤ i), decide (i < (k.length : Nat)), okK .i64 (i + 1)] (.done .normal (stPx s k C (.row 3 32 0 1 1) (rowP [[.n (rspN C (scAt s i.toNat) (scAt k i.toNat))]]) (i + 1)))
    else .done (.exit 3) (stPx s k C .nilsl [] i) := by intro i; kernel_rfl
   have hM1 : ∀ (i : Int) (y : List (List D)) (n : Nat), evLS cGProveT 100 (items (loopAt (bodyOf Tryz.f33) 6)) (stPx s k C (.row 3 32 0 n n) (rowP y) i) (kfgB 0 [7, 8, 9, 12, 70, 71, 72] [0, 1, 2, 10] 11 [(10, 3)] 4 [7, 8, 9, 12, 70, 71, 72] [0, 1, 2, 3] 4) =
    bif decide (i < (s.length : Nat)) then chks [decide (0 ≤ i), decide (i < (s.length : Nat)), decide (0 ≤ i), decide (i < (k.length : Nat)), decide (n ≤ y.length), decide (n ≤ n), decide ((n + 1) * 32 ≤ 140737488355328), decide (n + 1 < 4611686018427387904), okK .i64 (i + 1)] (.done .normal (stPx s k C (.row 3 32 0 (n + 1) (n + 1)) (rowP (y.take n ++ [[.n (rspN C (scAt s i.toNat) (scAt k i.toNat))]])) (i + 1)))
    else .done (.exit 3) (stPx s k C (.row 3 32 0 n n) (rowP y) i) := by intro i y n; kernel_rfl
   have hE1 : ∀ (i : Int) (y : List (List D)) (n : Nat), evLS cGProveT 100 ((items (bodyOf Tryz.f33)).drop 7) (stPx s k C (.row 3 32 0 n n) (rowP y) i) (kres cGProveT Tryz.f33 base) = .done .ret ⟨[vprf base C n], [some ⟨35, .row [.pk .u8 8 32] y⟩]⟩ := by intro i y n; kernel_rfl
   refine Runs.items _ _ _ (RunsL.preS oGProveT (k := 3) hA ?_)

   refine RunsL.loop (id := 1) (by kernel_rfl) (fun m s' => ∃ j : Nat, s' = stPw t x s k 0 (j : Int) ∧ j + m = x.length ∧ metB s x = metB s (x.drop j)) x.length ⟨0, rfl, Nat.zero_add _, rfl⟩ ?_
   rintro m s' ⟨j, rfl, hj, hg⟩
   have h1 := hL (j : Int)
   rw [Int.toNat_natCast] at h1
   cases m with
   | zero =>
     have hj : j = x.length := hj
     rw [hj, dec_self_lt, cond_false] at h1
     rw [hj, List.drop_length] at hg
     rw [hj]
     refine RunsL.allS oGProveT h1 ?_
     show RunsL cGProveT 0 ((items (bodyOf Tryz.f33)).drop 4) (stPw t x s k 0 (x.length : Nat)) _
     refine RunsL.flags (cx := mkcf true false tabGProveT ilPr [(81, [vstr t, veqs x, vi64 (s.length : Nat), cloP], hP k, vb32 C, hP k ++ [some ⟨35, .ps [.pk .u8 8 32 C]⟩])]) (cx' := mkcf true false tabGProveT [] []) rfl rfl ?_
     refine RunsL.preN (mkokf (sy := true) (rw := false) tabokGProveT ilokPr (JsOK.cons hcall JsOK.nil)) rfl (k := 2) hD ?_
     show RunsL (mkcf true false tabGProveT ilPr [(81, [vstr t, veqs x, vi64 (s.length : Nat), cloP], hP k, vb32 C, hP k ++ [some ⟨35, .ps [.pk .u8 8 32 C]⟩])]) 0 ((items (bodyOf Tryz.f33)).drop 6) (stPx s k C .nilsl [] 0) _
     refine RunsL.flags (cx := mkcf true false tabGProveT [] []) (cx' := mkcf true false tabGProveT ilPr [(81, [vstr t, veqs x, vi64 (s.length : Nat), cloP], hP k, vb32 C, hP k ++ [some ⟨35, .ps [.pk .u8 8 32 C]⟩])]) rfl rfl ?_
     refine RunsL.loop (id := 3) (by kernel_rfl) (fun m s' => ∃ j : Nat, j + m = s.length ∧ ((j = 0 ∧ s' = stPx s k C .nilsl [] 0) ∨ (1 ≤ j ∧ s' = stPx s k C (.row 3 32 0 j j) (rowP (prvS C s k j)) (j : Int)))) s.length ⟨0, Nat.zero_add _, .inl ⟨rfl, rfl⟩⟩ ?_
     rintro m s' ⟨j, hj, hs⟩
     cases m with
     | zero =>
       have hj : j = s.length := hj
       rcases hs with ⟨h0, _⟩ | ⟨_, rfl⟩
       · omega
       · have h7 := hM1 (j : Int) (prvS C s k j) j
         rw [hj, dec_self_lt, cond_false] at h7
         rw [hj]
         refine RunsL.allB oGProveT rfl h7 ?_
         exact runsL_evS oGProveT (n := 100) (bs0 := [⟨35, .row [.pk .u8 8 32] (prvS C s k s.length)⟩]) (hE1 _ _ _) (VEnt.refl _) ⟨rfl, CEnt.refl _, fun ts h => ⟨ts, h⟩⟩
     | succ m =>
       have hjl : j < s.length := by omega
       have hjk : j < k.length := by omega
       have d3 : okK .i64 ((j : Int) + 1) = true := okI (by omega) (by omega)
       rcases hs with ⟨h0, rfl⟩ | ⟨hj1, rfl⟩
       · have h7 := hM0 (j : Int)
         rw [Int.toNat_natCast, dec_lt hjl, dec_lt hjk, dec_nn, d3] at h7
         subst h0
         exact RunsL.allB oGProveT rfl h7 ⟨m, Nat.lt_succ_self m, 1, by omega, .inr ⟨Nat.le_refl _, rfl⟩⟩
       · have h7 := hM1 (j : Int) (prvS C s k j) j
         have hl := prvS_len C s k j
         rw [Int.toNat_natCast, dec_lt hjl, dec_lt hjk, dec_nn, d3, cond_true, chks_true, List.take_of_length_le (by omega), ← prvS_succ] at h7
         · exact RunsL.allB oGProveT rfl h7 ⟨m, Nat.lt_succ_self m, j + 1, by omega, .inr ⟨by omega, rfl⟩⟩
         · refine allTc rfl (allTc rfl (allTc rfl (allTc rfl (allTc ?_ (allTc ?_ (allTc ?_ (allTc ?_ (allT1 rfl)))))))) <;> (rw [decide_eq_true_iff]; omega)
   | succ m =>
     have hjl : j < x.length := by omega
     obtain ⟨p1, p2⟩ := goodEq_at g6 hjl
     rw [dec_lt hjl, cond_true, chks_true (allTc (dec_nn j) (allTc rfl (allTc p2 (allT1 (by rw [decide_eq_true_iff]; omega))))), chks_true (allT1 (okI (by omega) (by omega)))] at h1
     rw [drop_cons hjl, metB] at hg
     cases hb : decide (comN s (eqP (x.getD j [])) = eqA (x.getD j [])) with
     | false =>
       rw [hb] at h1 hg
       exfalso
       rw [h6] at hg
       cases hg
     | true =>
       rw [hb] at h1 hg
       exact RunsL.allS oGProveT h1 ⟨m, Nat.lt_succ_self m, j + 1, rfl, by omega, hg⟩
 · cases hF

def selSp (sel : List (V × List (Nat × Blk)) → Bool) (a b : FSpec) : FSpec := fun base l => match sel l with
 | true => a base l
 | false => b base l
theorem selSp_ok {P : Program} {f : FuncId} {sel : List (V × List (Nat × Blk)) → Bool} {a b : FSpec} (ha : FnOK P f a) (hb : FnOK P f b) : FnOK P f (selSp sel a b) := by
 intro base args chk v bs h
 unfold selSp at h
 split at h
 · exact ha base args chk v bs h
 · exact hb base args chk v bs h
end Go.Proofs.YtdkmcpbjicnfmaaGreat
