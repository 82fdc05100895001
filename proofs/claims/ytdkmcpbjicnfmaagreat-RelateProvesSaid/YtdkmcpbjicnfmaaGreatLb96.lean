/-
  The document's relations: Prove.
-/
import Derived.Test.YtdkmcpbjicnfmaaGreatL16
import Derived.Test.YtdkmcpbjicnfmaaGreatLb85
import Derived.Test.YtdkmcpbjicnfmaaGreatL8
set_option maxRecDepth 100000
namespace Go.Proofs.YtdkmcpbjicnfmaaGreat
open Go Vx Go.RowKit

noncomputable def comsK (k x : List (List D)) : List (List D) := x.map fun e => [.n (comN k (eqP e))]
theorem comsK_cons (k : List (List D)) {x : List (List D)} {j : Nat} (h : j < x.length) : comsK k (x.drop j) = [.n (comN k (eqP (x.getD j [])))] :: comsK k (x.drop (j + 1)) := by
 rw [drop_cons h]; rfl
theorem comsK_len (k x : List (List D)) : (comsK k x).length = x.length := by unfold comsK; rw [List.length_map]
theorem comsK_at (k : List (List D)) {x : List (List D)} {j : Nat} (h : j < x.length) : scAt (comsK k x) j = comN k (eqP (x.getD j [])) := by
 unfold comsK scAt
 rw [List.getD_eq_getElem?_getD, List.getElem?_map, List.getD_eq_getElem?_getD, List.getElem?_eq_getElem h]
 rfl
def celB : Option Blk := some ⟨58, .ps (ub0 ++ [.nilsl])⟩
def stRz' (t : ByteArray) (x s k : List (List D)) (e : Int) : St := ⟨[vstr t, veqs x, vscs s, vscs k] ++ jk 4 ++ [.one (.ptr 0 0), vi64 e, undefV, undefV] ++ jk 100, [celB]⟩
def stRp (t : ByteArray) (x s k : List (List D)) (e : Int) (v : V) (h : Hp) (i : Int) : St := ⟨[vstr t, veqs x, vscs s, vscs k] ++ jk 4 ++ [.one (.ptr 0 0), vi64 e, v, vi64 i] ++ jk 100, [celB] ++ h⟩
def stRr (t : ByteArray) (x s k : List (List D)) (e : Int) (y : List (List D)) (n : Nat) (i : Int) : St := stRp t x s k e (.one (.row 1 32 0 n n)) (rowQ y) i
def stRq (s k : List (List D)) (C : Nat) (v : L) (h : Hp) (i : Int) : St := ⟨jk 2 ++ [vscs s, vscs k] ++ jk 4 ++ [.one (.ptr 0 0), vi64 0] ++ jk 2 ++ [.one (.ptr 1 0), vi64 i] ++ jk 98, [celB, prB C v] ++ h⟩

noncomputable def sRProveFF : List D → Option (List Bool × V)
 | [.s t, .l x, .l s, .l k] => some ([decide (t.size < 9223372036854775808), decide (prvE t x s k ≠ 0)], vprf0 (prvE t x s k))
 | _ => none
noncomputable def sRProveF : FSpec := spec [tstr, teqs, tscs, tscs] sRProveFF
noncomputable abbrev tabRProveF : List (FuncId × FSpec) := [(76, sRRight), (38, sRScalars), (83, sRPoints), (84, sRCommit), (40, sRChal11), (70, sSaTimes), (72, sSaPlus)]
theorem tabokRProveF : TabOK Tryz.prog (tabOf tabRProveF) := (.cons ok_RRight (.cons ok_RScalars (.cons ok_RPoints (.cons ok_RCommit (.cons ok_RChal11 (.cons ok_SaTimes (.cons ok_SaPlus .nil)))))))
noncomputable abbrev cRProveF : Cx := mkcf true false tabRProveF [] []
theorem oRProveF : Ok cRProveF := mkokf (sy := true) (rw := false) tabokRProveF IlOK.nil JsOK.nil
theorem ok_RProveF : FnOK Tryz.prog 34 sRProveF := by
 refine fn_flat (cx := mkcf true false tabRProveF [] []) (c := bodyOf Tryz.f34) Tryz.func34 (by kernel_rfl) (by kernel_rfl) rfl ?_
 intro ds chk v vs hF ht he hr base
 unfold sRProveFF at hF
 split at hF
 · rename_i t x s k
   cases hF
   have hvs : vs = [vstr t, veqs x, vscs s, vscs k] := by simp only [encA, encV, encP, encL, Option.some.injEq] at he; exact he.symm
   subst hvs
   have hts : t.size < 9223372036854775808 := of_decide_eq_true (ht (decide (t.size < 9223372036854775808)) (by simp))
   obtain ⟨_, hxr, hsr, hkr, _⟩ := hr
   have hlx := nat_i (max_lt hxr.1)
   have hls := nat_i (max_lt hsr.1)
   have hlk := nat_i (max_lt hkr.1)
   have hA : evLS cRProveF 100 ((items (bodyOf Tryz.f34)).take 9) ⟨t0 Tryz.f34 [vstr t, veqs x, vscs s, vscs k], []⟩ (kfg 0 [0, 1, 2, 3, 8, 9, 10, 11] [0] 1) =
    chks [okK .i64 (s.length : Nat), decide (t.size < 9223372036854775808)] (bif !rgtB t.size x (s.length : Nat) then .done .ret (stRz' t x s k 2) else chks [okK .i64 (k.length : Nat), okK .i64 (s.length : Nat)]
     (bif !decide (((k.length : Nat) : Int) = (s.length : Nat)) then .done .ret (stRz' t x s k 2) else bif !allSc s then .done .ret (stRz' t x s k 50) else bif !allSc k then .done .ret (stRz' t x s k 50) else bif !ptEq x then .done .ret (stRz' t x s k 51) else .done .normal (stRp t x s k 0 vnil [] 0))) := by kernel_rfl
   rw [chks_true (allTc hls (allT1 (by rw [decide_eq_true_iff]; exact hts))), chks_true (allTc hlk (allT1 hls))] at hA
   have hL0 : ∀ i : Int, evLS cRProveF 100 (items (loopAt (bodyOf Tryz.f34) 9)) (stRp t x s k 0 vnil [] i) (kfgB 0 [0, 1, 2, 3, 8, 9, 10, 11] [0, 4] 5 [(4, 1)] 2 [0, 1, 2, 3, 8, 9, 10, 11] [0] 1) =
    chks [okK .i64 (x.length : Nat)] (bif decide (i < (x.length : Nat)) then chks [decide (0 ≤ i), decide (i < (x.length : Nat)), goodPa (s.length : Nat) (eqP (x.getD i.toNat [])), decide ((eqP (x.getD i.toNat [])).length < 1099511627776), decide (0 ≤ i), decide (i < (x.length : Nat))]
     (bif !allB [decide (comN s (eqP (x.getD i.toNat [])) = eqA (x.getD i.toNat []))] then .done .ret (stRp t x s k 110 vnil [] i) else chks [decide (0 ≤ i), decide (i < (x.length : Nat)), goodPa (k.length : Nat) (eqP (x.getD i.toNat [])), decide ((eqP (x.getD i.toNat [])).length < 1099511627776), okK .i64 (i + 1)] (.done .normal (stRr t x s k 0 [[.n (comN k (eqP (x.getD i.toNat [])))]] 1 (i + 1))))
    else .done (.exit 0) (stRp t x s k 0 vnil [] i)) := by intro i; kernel_rfl
   have hL1 : ∀ (i : Int) (y : List (List D)) (n : Nat), evLS cRProveF 100 (items (loopAt (bodyOf Tryz.f34) 9)) (stRr t x s k 0 y n i) (kfgB 0 [0, 1, 2, 3, 8, 9, 10, 11] [0, 5] 6 [(5, 1)] 2 [0, 1, 2, 3, 8, 9, 10, 11] [0, 1] 2) =
    chks [okK .i64 (x.length : Nat)] (bif decide (i < (x.length : Nat)) then chks [decide (0 ≤ i), decide (i < (x.length : Nat)), goodPa (s.length : Nat) (eqP (x.getD i.toNat [])), decide ((eqP (x.getD i.toNat [])).length < 1099511627776), decide (0 ≤ i), decide (i < (x.length : Nat))]
     (bif !allB [decide (comN s (eqP (x.getD i.toNat [])) = eqA (x.getD i.toNat []))] then .done .ret (stRr t x s k 110 y n i) else chks [decide (0 ≤ i), decide (i < (x.length : Nat)), goodPa (k.length : Nat) (eqP (x.getD i.toNat [])), decide ((eqP (x.getD i.toNat [])).length < 1099511627776),
      decide (n ≤ y.length), decide (n ≤ n), decide ((n + 1) * 32 ≤ 140737488355328), decide (n + 1 < 4611686018427387904), okK .i64 (i + 1)] (.done .normal (stRr t x s k 0 (y.take n ++ [[.n (comN k (eqP (x.getD i.toNat [])))]]) (n + 1) (i + 1))))
    else .done (.exit 0) (stRr t x s k 0 y n i)) := by intro i y n; kernel_rfl
   have hne : prvE t x s k ≠ 0 := of_decide_eq_true (ht (decide (prvE t x s k ≠ 0)) (by simp))

   by_cases h1 : rgtB t.size x (s.length : Nat) = true
   rotate_left 1
   · have h1 : rgtB t.size x (s.length : Nat) = false := by simpa using h1
     rw [h1] at hA
     rw [show prvE t x s k = 2 by unfold prvE; rw [h1]; rfl]
     exact Runs.items _ _ _ (RunsL.preS oRProveF (k := 9) hA ⟨_, [], (by kernel_rfl), VEnt.refl _, trivial⟩)
   by_cases h2 : k.length = s.length
   rotate_left 1
   · have h2 : decide (((k.length : Nat) : Int) = (s.length : Nat)) = false := decide_eq_false (by omega)
     rw [h1, h2] at hA
     rw [show prvE t x s k = 2 by unfold prvE; rw [h1, h2]; rfl]
     exact Runs.items _ _ _ (RunsL.preS oRProveF (k := 9) hA ⟨_, [], (by kernel_rfl), VEnt.refl _, trivial⟩)
   have h2' : decide (((k.length : Nat) : Int) = (s.length : Nat)) = true := decide_eq_true (by omega)
   by_cases h3 : allSc s = true
   rotate_left 1
   · have h3 : allSc s = false := by simpa using h3
     rw [h1, h2', h3] at hA
     rw [show prvE t x s k = 50 by unfold prvE; rw [h1, h2', h3]; rfl]
     exact Runs.items _ _ _ (RunsL.preS oRProveF (k := 9) hA ⟨_, [], (by kernel_rfl), VEnt.refl _, trivial⟩)
   by_cases h4 : allSc k = true
   rotate_left 1
   · have h4 : allSc k = false := by simpa using h4
     rw [h1, h2', h3, h4] at hA
     rw [show prvE t x s k = 50 by unfold prvE; rw [h1, h2', h3, h4]; rfl]
     exact Runs.items _ _ _ (RunsL.preS oRProveF (k := 9) hA ⟨_, [], (by kernel_rfl), VEnt.refl _, trivial⟩)
   by_cases h5 : ptEq x = true
   rotate_left 1
   · have h5 : ptEq x = false := by simpa using h5
     rw [h1, h2', h3, h4, h5] at hA
     rw [show prvE t x s k = 51 by unfold prvE; rw [h1, h2', h3, h4, h5]; rfl]
     exact Runs.items _ _ _ (RunsL.preS oRProveF (k := 9) hA ⟨_, [], (by kernel_rfl), VEnt.refl _, trivial⟩)
   have hE := prvE_of h1 h2 h3 h4 h5
   rw [h1, h2', h3, h4, h5] at hA
   obtain ⟨g1, g2, g3, g4, g5, g6⟩ := rgtB_t h1
   refine Runs.items _ _ _ (RunsL.preS oRProveF (k := 9) hA ?_)

   refine RunsL.loop (id := 0) (by kernel_rfl) (fun m s' => ∃ j : Nat, j + m = x.length ∧ metB s x = metB s (x.drop j) ∧ ((j = 0 ∧ s' = stRp t x s k 0 vnil [] 0) ∨ (1 ≤ j ∧ ∃ y, s' = stRr t x s k 0 y y.length (j : Int) ∧ y.length = j ∧ comsK k x = y ++ comsK k (x.drop j)))) x.length ⟨0, Nat.zero_add _, rfl, .inl ⟨rfl, rfl⟩⟩ ?_
   rintro m s' ⟨j, hj, hg, hs⟩
   cases m with
   | zero =>
     have hj : j = x.length := hj
     rw [hj, List.drop_length] at hg
     have hg : metB s x = true := hg
     rcases hs with ⟨h0, _⟩ | ⟨_, y, rfl, hy, hc⟩
     · omega
     · have h7 := hL1 (j : Int) y y.length
       rw [chks_true (allT1 hlx), hj, dec_self_lt, cond_false] at h7
       rw [hj, List.drop_length, show comsK k [] = [] from rfl, List.append_nil] at hc
       rw [hj]
       exfalso
       exact hne (by rw [hE, hg]; rfl)
   | succ m =>
     have hjl : j < x.length := by omega
     obtain ⟨p1, p2⟩ := goodEq_at g6 hjl
     have d3 : okK .i64 ((j : Int) + 1) = true := okI (by omega) (by omega)
     have d4 : decide ((eqP (x.getD j [])).length < 1099511627776) = true := by rw [decide_eq_true_iff]; omega
     have p2k : goodPa (k.length : Nat) (eqP (x.getD j [])) = true := by rw [h2]; exact p2
     have d0 := dec_nn j
     have d1 := dec_lt hjl
     rw [drop_cons hjl, metB] at hg
     rcases hs with ⟨h0, rfl⟩ | ⟨hj1, y, rfl, hy, hc⟩
     · subst h0
       have h7 := hL0 ((0 : Nat) : Int)
       rw [Int.toNat_natCast, hlx, d1, d0, d3, p2, p2k, d4] at h7
       cases hb : decide (comN s (eqP (x.getD 0 [])) = eqA (x.getD 0 [])) with
       | false =>
         rw [hb] at h7 hg
         rw [hE, hg]
         exact RunsL.allB oRProveF rfl h7 ⟨_, [], (by kernel_rfl), VEnt.refl _, trivial⟩
       | true =>
         rw [hb] at h7 hg
         refine RunsL.allB oRProveF rfl h7 ⟨m, Nat.lt_succ_self m, 1, by omega, hg, .inr ⟨Nat.le_refl _, _, rfl, rfl, ?_⟩⟩
         have := comsK_cons k hjl
         rw [List.drop_zero] at this
         exact this
     · have h7 := hL1 (j : Int) y y.length
       rw [Int.toNat_natCast, hlx, d1, d0, d3, p2, p2k, d4] at h7
       cases hb : decide (comN s (eqP (x.getD j [])) = eqA (x.getD j [])) with
       | false =>
         rw [hb] at h7 hg
         rw [hE, hg]
         exact RunsL.allB oRProveF rfl h7 ⟨_, [], (by kernel_rfl), VEnt.refl _, trivial⟩
       | true =>
         rw [hb] at h7 hg
         rw [chks_true (l := [true]) (allT1 rfl), cond_true, chks_true (l := [true, true, true, true, true, true]) (allTc rfl (allTc rfl (allTc rfl (allTc rfl (allTc rfl (allT1 rfl)))))), show (!allB [true]) = false from rfl, cond_false,
          chks_true (l := [true, true, true, true, decide (y.length ≤ y.length), decide (y.length ≤ y.length), decide ((y.length + 1) * 32 ≤ 140737488355328), decide (y.length + 1 < 4611686018427387904), true]), List.take_length] at h7
         · refine RunsL.allB oRProveF rfl h7 ⟨m, Nat.lt_succ_self m, j + 1, by omega, hg, .inr ⟨by omega, y ++ [[.n (comN k (eqP (x.getD j [])))]], ?_, ?_, ?_⟩⟩
           · rw [List.length_append]; rfl
           · rw [List.length_append, hy]; rfl
           · rw [hc, comsK_cons k hjl, List.append_assoc]; rfl
         · refine allTc rfl (allTc rfl (allTc rfl (allTc rfl (allTc ?_ (allTc ?_ (allTc ?_ (allTc ?_ (allT1 rfl)))))))) <;> (rw [decide_eq_true_iff]; omega)
 · cases hF

noncomputable def sRProveTF : Nat → List D → Option (List Bool × V × List Blk)
 | base, [.s t, .l x, .l s, .l k] => some ([decide (t.size < 9223372036854775808), decide (prvE t x s k = 0)], vprf base (prvC t x s k) s.length, [⟨35, .row [.pk .u8 8 32] (prvS (prvC t x s k) s k s.length)⟩])
 | _, _ => none
noncomputable def sRProveT : FSpec := specB [tstr, teqs, tscs, tscs] sRProveTF
noncomputable abbrev tabRProveT : List (FuncId × FSpec) := [(76, sRRight), (38, sRScalars), (83, sRPoints), (84, sRCommit), (40, sRChal11), (70, sSaTimes), (72, sSaPlus)]
theorem tabokRProveT : TabOK Tryz.prog (tabOf tabRProveT) := (.cons ok_RRight (.cons ok_RScalars (.cons ok_RPoints (.cons ok_RCommit (.cons ok_RChal11 (.cons ok_SaTimes (.cons ok_SaPlus .nil)))))))
noncomputable abbrev cRProveT : Cx := mkcf true false tabRProveT [] []
theorem oRProveT : Ok cRProveT := mkokf (sy := true) (rw := false) tabokRProveT IlOK.nil JsOK.nil
theorem take_all2 (y : List (List D)) {n : Nat} (h : y.length = n) : (y.drop 0).take n = y := by rw [List.drop_zero, ← h, List.take_length]
theorem ok_RProveT : FnOK Tryz.prog 34 sRProveT := by
 refine fn_blk (cx := mkcf true false tabRProveT [] []) (c := bodyOf Tryz.f34) Tryz.func34 (by kernel_rfl) (by kernel_rfl) ?_
 intro base ds chk v bs vs hF ht he hr
 unfold sRProveTF at hF
 split at hF
 · rename_i t x s k
   cases hF
   have hvs : vs = [vstr t, veqs x, vscs s, vscs k] := by simp only [encA, encV, encP, encL, Option.some.injEq] at he; exact he.symm
   subst hvs
   have hts : t.size < 9223372036854775808 := of_decide_eq_true (ht (decide (t.size < 9223372036854775808)) (by simp))
   obtain ⟨_, hxr, hsr, hkr, _⟩ := hr
   have hlx := nat_i (max_lt hxr.1)
   have hls := nat_i (max_lt hsr.1)
   have hlk := nat_i (max_lt hkr.1)
   have hA : evLS cRProveT 100 ((items (bodyOf Tryz.f34)).take 9) ⟨t0 Tryz.f34 [vstr t, veqs x, vscs s, vscs k], []⟩ (kfg 0 [0, 1, 2, 3, 8, 9, 10, 11] [0] 1) =
    chks [okK .i64 (s.length : Nat), decide (t.size < 9223372036854775808)] (bif !rgtB t.size x (s.length : Nat) then .done .ret (stRz' t x s k 2) else chks [okK .i64 (k.length : Nat), okK .i64 (s.length : Nat)]
     (bif !decide (((k.length : Nat) : Int) = (s.length : Nat)) then .done .ret (stRz' t x s k 2) else bif !allSc s then .done .ret (stRz' t x s k 50) else bif !allSc k then .done .ret (stRz' t x s k 50) else bif !ptEq x then .done .ret (stRz' t x s k 51) else .done .normal (stRp t x s k 0 vnil [] 0))) := by kernel_rfl
   rw [chks_true (allTc hls (allT1 (by rw [decide_eq_true_iff]; exact hts))), chks_true (allTc hlk (allT1 hls))] at hA
   have hL0 : ∀ i : Int, evLS cRProveT 100 (items (loopAt (bodyOf Tryz.f34) 9)) (stRp t x s k 0 vnil [] i) (kfgB 0 [0, 1, 2, 3, 8, 9, 10, 11] [0, 4] 5 [(4, 1)] 2 [0, 1, 2, 3, 8, 9, 10, 11] [0] 1) =
    chks [okK .i64 (x.length : Nat)] (bif decide (i < (x.length : Nat)) then chks [decide (0 ≤ i), decide (i < (x.length : Nat)), goodPa (s.length : Nat) (eqP (x.getD i.toNat [])), decide ((eqP (x.getD i.toNat [])).length < 1099511627776), decide (0 ≤ i), decide (i < (x.length : Nat))]
     (bif !allB [decide (comN s (eqP (x.getD i.toNat [])) = eqA (x.getD i.toNat []))] then .done .ret (stRp t x s k 110 vnil [] i) else chks [decide (0 ≤ i), decide (i < (x.length : Nat)), goodPa (k.length : Nat) (eqP (x.getD i.toNat [])), decide ((eqP (x.getD i.toNat [])).length < 1099511627776), okK .i64 (i + 1)] (.done .normal (stRr t x s k 0 [[.n (comN k (eqP (x.getD i.toNat [])))]] 1 (i + 1))))
    else .done (.exit 0) (stRp t x s k 0 vnil [] i)) := by intro i; kernel_rfl
   have hL1 : ∀ (i : Int) (y : List (List D)) (n : Nat), evLS cRProveT 100 (items (loopAt (bodyOf Tryz.f34) 9)) (stRr t x s k 0 y n i) (kfgB 0 [0, 1, 2, 3, 8, 9, 10, 11] [0, 5] 6 [(5, 1)] 2 [0, 1, 2, 3, 8, 9, 10, 11] [0, 1] 2) =
    chks [okK .i64 (x.length : Nat)] (bif decide (i < (x.length : Nat)) then chks [decide (0 ≤ i), decide (i < (x.length : Nat)), goodPa (s.length : Nat) (eqP (x.getD i.toNat [])), decide ((eqP (x.getD i.toNat [])).length < 1099511627776), decide (0 ≤ i), decide (i < (x.length : Nat))]
     (bif !allB [decide (comN s (eqP (x.getD i.toNat [])) = eqA (x.getD i.toNat []))] then .done .ret (stRr t x s k 110 y n i) else chks [decide (0 ≤ i), decide (i < (x.length : Nat)), goodPa (k.length : Nat) (eqP (x.getD i.toNat [])), decide ((eqP (x.getD i.toNat [])).length < 1099511627776),
      decide (n ≤ y.length), decide (n ≤ n), decide ((n + 1) * 32 ≤ 140737488355328), decide (n + 1 < 4611686018427387904), okK .i64 (i + 1)] (.done .normal (stRr t x s k 0 (y.take n ++ [[.n (comN k (eqP (x.getD i.toNat [])))]]) (n + 1) (i + 1))))
    else .done (.exit 0) (stRr t x s k 0 y n i)) := by intro i y n; kernel_rfl

   have hz : prvE t x s k = 0 := of_decide_eq_true (ht (decide (prvE t x s k = 0)) (by simp))
   obtain ⟨h1, h2, h3, h4, h5, h6⟩ := prvE_ok hz
   have h2' : decide (((k.length : Nat) : Int) = (s.length : Nat)) = true := decide_eq_true (by omega)
   rw [h1, h2', h3, h4, h5] at hA
   obtain ⟨g1, g2, g3, g4, g5, g6⟩ := rgtB_t h1
   have hsl : s.length ≤ 32 := by omega
   have hCC : relN t x s.length (fun j => scAt (comsK k x) j) = prvC t x s k := relN_congr fun i hi => comsK_at k hi
   have hD : ∀ (y : List (List D)) (n : Nat) (i : Int), evLS cRProveT 100 (((items (bodyOf Tryz.f34)).drop 10).take 2) (stRr t x s k 0 y n i) (kfgN 0 [2, 3, 8, 9, 12, 13] [0, 3] 4 [(3, 1)] 2) =
    chks [okK .i64 (s.length : Nat), decide (0 + n ≤ y.length), rgtB t.size x (s.length : Nat), decide (x.length ≤ ((y.drop 0).take n).length)] (.done .normal (stRq s k (relN t x s.length fun j => scAt ((y.drop 0).take n) j) .nilsl [] 0)) := by intro y n i; kernel_rfl
   have hM0 : ∀ (C : Nat) (i : Int), evLS cRProveT 100 (items (loopAt (bodyOf Tryz.f34) 12)) (stRq s k C .nilsl [] i) (kfgB 0 [2, 3, 8, 9, 12, 13] [0, 1, 7] 8 [(7, 2)] 3 [2, 3, 8, 9, 12, 13] [0, 1] 2) =
    chks [okK .i64 (s.length : Nat)] (bif decide (i < (s.length : Nat)) then chks [decide (0 ≤ i), decide (i < (s.length : Nat)), decide (0 ≤ i), decide (i < (k.length : Nat)), okK .i64 (i + 1)] (.done .normal (stRq s k C (.row 2 32 0 1 1) (rowP [[.n (rspN C (scAt s i.toNat) (scAt k i.toNat))]]) (i + 1)))
    else .done (.exit 2) (stRq s k C .nilsl [] i)) := by intro C i; kernel_rfl
   have hM1 : ∀ (C : Nat) (i : Int) (y : List (List D)) (n : Nat), evLS cRProveT 100 (items (loopAt (bodyOf Tryz.f34) 12)) (stRq s k C (.row 2 32 0 n n) (rowP y) i) (kfgB 0 [2, 3, 8, 9, 12, 13] [0, 1, 8] 9 [(8, 2)] 3 [2, 3, 8, 9, 12, 13] [0, 1, 2] 3) =
    chks [okK .i64 (s.length : Nat)] (bif decide (i < (s.length : Nat)) then chks [decide (0 ≤ i), decide (i < (s.length : Nat)), decide (0 ≤ i), decide (i < (k.length : Nat)), decide (n ≤ y.length), decide (n ≤ n), decide ((n + 1) * 32 ≤ 140737488355328), decide (n + 1 < 4611686018427387904), okK .i64 (i + 1)] (.done .normal (stRq s k C (.row 2 32 0 (n + 1) (n + 1)) (rowP (y.take n ++ [[.n (rspN C (scAt s i.toNat) (scAt k i.toNat))]])) (i + 1)))
    else .done (.exit 2) (stRq s k C (.row 2 32 0 n n) (rowP y) i)) := by intro C i y n; kernel_rfl
   have hE1 : ∀ (C : Nat) (i : Int) (y : List (List D)) (n : Nat), evLS cRProveT 100 ((items (bodyOf Tryz.f34)).drop 13) (stRq s k C (.row 2 32 0 n n) (rowP y) i) (kres cRProveT Tryz.f34 base) = .done .ret ⟨[vprf base C n], [some ⟨35, .row [.pk .u8 8 32] y⟩]⟩ := by intro C i y n; kernel_rfl
   refine Runs.items _ _ _ (RunsL.preS oRProveT (k := 9) hA ?_)

   refine RunsL.loop (id := 0) (by kernel_rfl) (fun m s' => ∃ j : Nat, j + m = x.length ∧ metB s x = metB s (x.drop j) ∧ ((j = 0 ∧ s' = stRp t x s k 0 vnil [] 0) ∨ (1 ≤ j ∧ ∃ y, s' = stRr t x s k 0 y y.length (j : Int) ∧ y.length = j ∧ comsK k x = y ++ comsK k (x.drop j)))) x.length ⟨0, Nat.zero_add _, rfl, .inl ⟨rfl, rfl⟩⟩ ?_
   rintro m s' ⟨j, hj, hg, hs⟩
   cases m with
   | zero =>
     have hj : j = x.length := hj
     rw [hj, List.drop_length] at hg
     have hg : metB s x = true := hg
     rcases hs with ⟨h0, _⟩ | ⟨_, y, rfl, hy, hc⟩
     · omega
     · have h7 := hL1 (j : Int) y y.length
       rw [chks_true (allT1 hlx), hj, dec_self_lt, cond_false] at h7
       rw [hj, List.drop_length, show comsK k [] = [] from rfl, List.append_nil] at hc
       rw [hj]
       obtain rfl : y = comsK k x := hc.symm
       have hD := hD (comsK k x) (comsK k x).length ((x.length : Nat) : Int)
       rw [take_all2 (comsK k x) rfl, hCC, chks_true] at hD
       rotate_left 1
       · rw [comsK_len]
         refine allTc hls (allTc ?_ (allTc h1 (allT1 ?_))) <;> (rw [decide_eq_true_iff]; omega)
       generalize prvC t x s k = C at *
       refine RunsL.allB oRProveT rfl h7 ?_
       show RunsL cRProveT 0 ((items (bodyOf Tryz.f34)).drop 10) (stRr t x s k 0 (comsK k x) (comsK k x).length (x.length : Nat)) _
       refine RunsL.preN oRProveT rfl (k := 2) hD ?_
       show RunsL cRProveT 0 (((items (bodyOf Tryz.f34)).drop 10).drop 2) _ _
       rw [List.drop_drop]
       refine RunsL.loop (id := 2) (by kernel_rfl) (fun m s' => ∃ j : Nat, j + m = s.length ∧ ((j = 0 ∧ s' = stRq s k C .nilsl [] 0) ∨ (1 ≤ j ∧ s' = stRq s k C (.row 2 32 0 j j) (rowP (prvS C s k j)) (j : Int)))) s.length ⟨0, Nat.zero_add _, .inl ⟨rfl, rfl⟩⟩ ?_
       rintro m s' ⟨j, hj, hs⟩
       cases m with
       | zero =>
         have hj : j = s.length := hj
         rcases hs with ⟨h0, _⟩ | ⟨_, rfl⟩
         · omega
         · have h8 := hM1 C (j : Int) (prvS C s k j) j
           rw [chks_true (allT1 hls), hj, dec_self_lt, cond_false] at h8
           rw [hj]
           refine RunsL.allB oRProveT rfl h8 ?_
           exact runsL_evS oRProveT (n := 100) (bs0 := [⟨35, .row [.pk .u8 8 32] (prvS C s k s.length)⟩]) (hE1 _ _ _ _) (VEnt.refl _) ⟨rfl, CEnt.refl _, fun ts h => ⟨ts, h⟩⟩
       | succ m =>
         have hjl : j < s.length := by omega
         have hjk : j < k.length := by omega
         have d3 : okK .i64 ((j : Int) + 1) = true := okI (by omega) (by omega)
         rcases hs with ⟨h0, rfl⟩ | ⟨hj1, rfl⟩
         · have h8 := hM0 C (j : Int)
           rw [chks_true (allT1 hls), Int.toNat_natCast, dec_lt hjl, dec_lt hjk, dec_nn, d3] at h8
           subst h0
           exact RunsL.allB oRProveT rfl h8 ⟨m, Nat.lt_succ_self m, 1, by omega, .inr ⟨Nat.le_refl _, rfl⟩⟩
         · have h8 := hM1 C (j : Int) (prvS C s k j) j
           have hl := prvS_len C s k j
           rw [chks_true (allT1 hls), Int.toNat_natCast, dec_lt hjl, dec_lt hjk, dec_nn, d3, cond_true, chks_true, List.take_of_length_le (by omega), ← prvS_succ] at h8
           · exact RunsL.allB oRProveT rfl h8 ⟨m, Nat.lt_succ_self m, j + 1, by omega, .inr ⟨by omega, rfl⟩⟩
           · refine allTc rfl (allTc rfl (allTc rfl (allTc rfl (allTc ?_ (allTc ?_ (allTc ?_ (allTc ?_ (allT1 rfl)))))))) <;> (rw [decide_eq_true_iff]; omega)
   | succ m =>
     have hjl : j < x.length := by omega
     obtain ⟨p1, p2⟩ := goodEq_at g6 hjl
     have d3 : okK .i64 ((j : Int) + 1) = true := okI (by omega) (by omega)
     have d4 : decide ((eqP (x.getD j [])).length < 1099511627776) = true := by rw [decide_eq_true_iff]; omega
     have p2k : goodPa (k.length : Nat) (eqP (x.getD j [])) = true := by rw [h2]; exact p2
     have d0 := dec_nn j
     have d1 := dec_lt hjl
     rw [drop_cons hjl, metB] at hg
     rcases hs with ⟨h0, rfl⟩ | ⟨hj1, y, rfl, hy, hc⟩
     · subst h0
       have h7 := hL0 ((0 : Nat) : Int)
       rw [Int.toNat_natCast, hlx, d1, d0, d3, p2, p2k, d4] at h7
       cases hb : decide (comN s (eqP (x.getD 0 [])) = eqA (x.getD 0 [])) with
       | false =>
         rw [hb] at h7 hg
         exfalso
         rw [h6] at hg
         cases hg
       | true =>
         rw [hb] at h7 hg
         refine RunsL.allB oRProveT rfl h7 ⟨m, Nat.lt_succ_self m, 1, by omega, hg, .inr ⟨Nat.le_refl _, _, rfl, rfl, ?_⟩⟩
         have := comsK_cons k hjl
         rw [List.drop_zero] at this
         exact this
     · have h7 := hL1 (j : Int) y y.length
       rw [Int.toNat_natCast, hlx, d1, d0, d3, p2, p2k, d4] at h7
       cases hb : decide (comN s (eqP (x.getD j [])) = eqA (x.getD j [])) with
       | false =>
         rw [hb] at h7 hg
         exfalso
         rw [h6] at hg
         cases hg
       | true =>
         rw [hb] at h7 hg
         rw [chks_true (l := [true]) (allT1 rfl), cond_true, chks_true (l := [true, true, true, true, true, true]) (allTc rfl (allTc rfl (allTc rfl (allTc rfl (allTc rfl (allT1 rfl)))))), show (!allB [true]) = false from rfl, cond_false,
          chks_true (l := [true, true, true, true, decide (y.length ≤ y.length), decide (y.length ≤ y.length), decide ((y.length + 1) * 32 ≤ 140737488355328), decide (y.length + 1 < 4611686018427387904), true]), List.take_length] at h7
         · refine RunsL.allB oRProveT rfl h7 ⟨m, Nat.lt_succ_self m, j + 1, by omega, hg, .inr ⟨by omega, y ++ [[.n (comN k (eqP (x.getD j [])))]], ?_, ?_, ?_⟩⟩
           · rw [List.length_append]; rfl
           · rw [List.length_append, hy]; rfl
           · rw [hc, comsK_cons k hjl, List.append_assoc]; rfl
         · refine allTc rfl (allTc rfl (allTc rfl (allTc rfl (allTc ?_ (allTc ?_ (allTc ?_ (allTc ?_ (allT1 rfl)))))))) <;> (rw [decide_eq_true_iff]; omega)
 · cases hF
end Go.Proofs.YtdkmcpbjicnfmaaGreat
