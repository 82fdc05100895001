/-
  The law RelateComplete answers true.
-/
import Derived.Test.YtdkmcpbjicnfmaaGreatLb98
import Derived.Test.YtdkmcpbjicnfmaaGreatLb85
import Derived.Test.YtdkmcpbjicnfmaaGreatLb86
set_option maxRecDepth 100000
namespace Go.Proofs.YtdkmcpbjicnfmaaGreat
open Go Vx Go.RowKit

theorem goodEq_md (n : Int) (s : List (List D)) : ∀ (x : List (List D)), goodEq n (mdX s x) = goodEq n x
 | [] => rfl
 | e :: x => by
   show (bif decide ((16 : Int) < ((eqP e).length : Nat)) then false else bif !goodPa n (eqP e) then false else goodEq n (mdX s x)) = _
   rw [goodEq_md n s x]
   rfl
theorem metB_md (s : List (List D)) : ∀ (x : List (List D)), metB s (mdX s x) = true
 | [] => rfl
 | e :: x => by
   show (bif !decide (comN s (eqP e) = comN s (eqP e)) then false else metB s (mdX s x)) = true
   rw [decide_eq_true rfl, metB_md s x]
   rfl
theorem ptEq_md {s : List (List D)} (hs : allSc s = true) : ∀ {x : List (List D)}, goodEq (s.length : Nat) x = true → ptsB x = true → ptEq (mdX s x) = true
 | [], _, _ => rfl
 | e :: x, hg, hp => by
   obtain ⟨h1, h2, h3⟩ := goodEq_cons hg
   unfold ptsB at hp
   cases hq : ptPa (eqP e) with
   | false => rw [hq] at hp; cases hp
   | true =>
     rw [hq] at hp
     obtain ⟨P, hP⟩ := com_ex hs h2 hq
     have hd := (sum_pt hP (by rw [comT_len]; omega)).2.dec.1
     show (bif !rdecBP (sumN (comT s (eqP e))) then false else bif !ptPa (eqP e) then false else ptEq (mdX s x)) = true
     rw [hd, hq, ptEq_md hs h3 hp]
     rfl
theorem rgtB_md {l : Nat} {n : Int} {s x : List (List D)} (hl : l ≤ 1000) (h : rgtB 0 x n = true) : rgtB l (mdX s x) n = true := by
 obtain ⟨_, h2, h3, h4, h5, h6⟩ := rgtB_t h
 unfold rgtB
 rw [decide_eq_false (show ¬ (1000 : Int) < (l : Nat) by omega), mdX_len, decide_eq_false (show ¬ ((x.length : Nat) : Int) < 1 by omega), decide_eq_false (show ¬ (16 : Int) < (x.length : Nat) by omega),
  decide_eq_false (show ¬ n < 1 by omega), decide_eq_false (show ¬ (32 : Int) < n by omega), goodEq_md, h6]
 rfl
theorem madeB_t {x s : List (List D)} (h : madeB x s = true) : rgtB 0 x (s.length : Nat) = true ∧ allSc s = true ∧ ptsB x = true := by
 unfold madeB at h
 cases h1 : rgtB 0 x (s.length : Nat) with
 | false => rw [h1] at h; cases h
 | true =>
 cases h2 : allSc s with
 | false => rw [h1, h2] at h; cases h
 | true => rw [h1, h2] at h; exact ⟨rfl, rfl, h⟩
theorem prv_made {t : ByteArray} {x s k : List (List D)} (ht : t.size ≤ 1000) (h : madeB x s = true) (hk : k.length = s.length) (hks : allSc k = true) : prvE t (mdX s x) s k = 0 := by
 obtain ⟨h1, h2, h3⟩ := madeB_t h
 obtain ⟨_, _, _, _, _, g6⟩ := rgtB_t h1
 rw [prvE_of (rgtB_md ht h1) hk h2 hks (ptEq_md h2 g6 h3), metB_md]
 rfl
def stK0 (t o : ByteArray) (x s k : List (List D)) (b : Bool) : St := ⟨[vstr t, vstr o, veqs x, vscs s, vscs k] ++ jk 5 ++ [.one (.bool b)] ++ jk 94, []⟩
noncomputable abbrev tabCl : List (FuncId × FSpec) := [(32, sKnown11), (33, sGProveT), (36, sGVerify11), (41, sRCommits), (40, sRChal11)]
theorem tabokCl : TabOK Tryz.prog (tabOf tabCl) := .cons ok_Known11 (.cons ok_GProveT (.cons ok_GVerify11 (.cons ok_RCommits (.cons ok_RChal11 .nil))))
noncomputable abbrev ilCl : List (FuncId × Func) := [(39, Tryz.f39)]
theorem ilokCl : IlOK Tryz.prog (ilTab ilCl) := IlOK.cons Tryz.func39 (by kernel_rfl) IlOK.nil
theorem tk0 (x : List (List D)) {n : Nat} (h : x.length = n) : (x.drop 0).take n = x := by rw [List.drop_zero, ← h, List.take_length]

noncomputable def sRelateCompleteF : List D → Option (List Bool × V)
 | [.s t, .s o, .l _, .l _, .l _] => some ([decide (t.size < 9223372036854775808), decide (o.size < 9223372036854775808)], vbool' true)
 | _ => none
noncomputable def sRelateComplete : FSpec := spec [tstr, tstr, teqs, tscs, tscs] sRelateCompleteF
noncomputable abbrev tabRelateComplete : List (FuncId × FSpec) := [(31, sGGreat), (38, sRScalars), (32, sKnown11)]
theorem tabokRelateComplete : TabOK Tryz.prog (tabOf tabRelateComplete) := (.cons ok_GGreat (.cons ok_RScalars (.cons ok_Known11 .nil)))
noncomputable abbrev cRelateComplete : Cx := mkcf true false tabRelateComplete [] []
theorem oRelateComplete : Ok cRelateComplete := mkokf (sy := true) (rw := false) tabokRelateComplete IlOK.nil JsOK.nil
theorem ok_RelateComplete : FnOK Tryz.prog 8 sRelateComplete := by
 refine fn_flat (cx := mkcf true false tabRelateComplete [] []) (c := bodyOf Tryz.f8) Tryz.func8 (by kernel_rfl) (by kernel_rfl) rfl ?_
 intro ds chk v vs hF ht he hr base
 unfold sRelateCompleteF at hF
 split at hF
 · rename_i t o x s k
   cases hF
   have hvs : vs = [vstr t, vstr o, veqs x, vscs s, vscs k] := by simp only [encA, encV, encP, encL, Option.some.injEq] at he; exact he.symm
   subst hvs
   have hts : t.size < 9223372036854775808 := of_decide_eq_true (ht (decide (t.size < 9223372036854775808)) (by simp))
   have hos : o.size < 9223372036854775808 := of_decide_eq_true (ht (decide (o.size < 9223372036854775808)) (by simp))
   have hd : decide (t.size < 9223372036854775808) = true := decide_eq_true hts
   have hdo : decide (o.size < 9223372036854775808) = true := decide_eq_true hos
   obtain ⟨_, _, hxr, hsr, hkr, _⟩ := hr
   have hls := nat_i (max_lt hsr.1)
   have hlk := nat_i (max_lt hkr.1)
   have h1 : evLS cRelateComplete 100 ((items (bodyOf Tryz.f8)).take 3) ⟨t0 Tryz.f8 [vstr t, vstr o, veqs x, vscs s, vscs k], []⟩ (kfg 0 [0, 1, 2, 3, 4, 10] [] 0) =
    chks [okK .i64 (s.length : Nat), decide (t.size < 9223372036854775808)] (bif greatB t x (s.length : Nat) then .done .ret (stK0 t o x s k true) else chks [okK .i64 (t.size : Nat)] (bif decide ((1000 : Int) < (t.size : Nat)) then .done .ret (stK0 t o x s k true) else
     chks [okK .i64 (o.size : Nat)] (bif decide ((1000 : Int) < (o.size : Nat)) then .done .ret (stK0 t o x s k true) else chks [okK .i64 (k.length : Nat), okK .i64 (s.length : Nat)] (bif !decide (((k.length : Nat) : Int) = (s.length : Nat)) then .done .ret (stK0 t o x s k true) else
      bif !allSc k then .done .ret (stK0 t o x s k true) else .done .normal (stK0 t o x s k false))))) := by kernel_rfl
   rw [chks_true (allTc hls (allT1 hd)), chks_true (allT1 (nat_i hts)), chks_true (allT1 (nat_i hos)), chks_true (allTc hlk (allT1 hls))] at h1
   cases hgb : greatB t x (s.length : Nat) with
   | true =>
     rw [hgb] at h1
     exact Runs.items _ _ _ (RunsL.preS oRelateComplete (k := 3) h1 ⟨_, [], (by kernel_rfl), VEnt.refl _, trivial⟩)
   | false =>
   cases h4 : decide ((1000 : Int) < (t.size : Nat)) with
   | true =>
     rw [hgb, h4] at h1
     exact Runs.items _ _ _ (RunsL.preS oRelateComplete (k := 3) h1 ⟨_, [], (by kernel_rfl), VEnt.refl _, trivial⟩)
   | false =>
   cases h6 : decide ((1000 : Int) < (o.size : Nat)) with
   | true =>
     rw [hgb, h4, h6] at h1
     exact Runs.items _ _ _ (RunsL.preS oRelateComplete (k := 3) h1 ⟨_, [], (by kernel_rfl), VEnt.refl _, trivial⟩)
   | false =>
   cases h8 : decide (((k.length : Nat) : Int) = (s.length : Nat)) with
   | false =>
     rw [hgb, h4, h6, h8] at h1
     exact Runs.items _ _ _ (RunsL.preS oRelateComplete (k := 3) h1 ⟨_, [], (by kernel_rfl), VEnt.refl _, trivial⟩)
   | true =>
   cases h9 : allSc k with
   | false =>
     rw [hgb, h4, h6, h8, h9] at h1
     exact Runs.items _ _ _ (RunsL.preS oRelateComplete (k := 3) h1 ⟨_, [], (by kernel_rfl), VEnt.refl _, trivial⟩)
   | true =>
   rw [hgb, h4, h6, h8, h9] at h1
   have hk : k.length = s.length := by have := of_decide_eq_true h8; omega
   have ht1 := of_decide_eq_false h4
   have ho1 := of_decide_eq_false h6
   refine Runs.items _ _ _ (RunsL.preS oRelateComplete (k := 3) h1 ?_)
   show RunsL cRelateComplete 0 ((items (bodyOf Tryz.f8)).drop 3) (stK0 t o x s k false) _
   cases hm : madeB x s with
   | false =>
     have h2 : evLS (mkcf true false tabCl ilCl [(39, [veqs x, vscs s], [none], .tup [.one .nilsl, .one (.bool false)], [none])]) 400 ((items (bodyOf Tryz.f8)).drop 3) (stK0 t o x s k false) (kres (mkcf true false tabCl ilCl [(39, [veqs x, vscs s], [none], .tup [.one .nilsl, .one (.bool false)], [none])]) Tryz.f8 base) = chks [eqS [veqs x, vscs s] [none] [veqs x, vscs s] [none]] (outV (vbool' true)) := by kernel_rfl
     rw [chks_true (allT1 (eqS_self _ _))] at h2
     refine RunsL.flags (cx := (mkcf true false tabCl ilCl [(39, [veqs x, vscs s], [none], .tup [.one .nilsl, .one (.bool false)], [none])])) (cx' := mkcf true false tabRelateComplete [] []) rfl rfl ?_
     exact runsL_evS (mkokf (sy := true) (rw := false) tabokCl ilokCl (JsOK.cons (call_madeF hxr hsr hm) JsOK.nil)) (n := 400) (bs0 := []) h2 (VEnt.refl _) trivial
   | true =>
     have h2 : evLS (mkcf true false tabCl ilCl [(39, [veqs x, vscs s], [none], .tup [.one (.row 1 33 0 x.length x.length), .one (.bool true)], [none] ++ rowE (mdX s x))]) 400 ((items (bodyOf Tryz.f8)).drop 3) (stK0 t o x s k false) (kres (mkcf true false tabCl ilCl [(39, [veqs x, vscs s], [none], .tup [.one (.row 1 33 0 x.length x.length), .one (.bool true)], [none] ++ rowE (mdX s x))]) Tryz.f8 base) = chks [eqS [veqs x, vscs s] [none] [veqs x, vscs s] [none], decide (0 + x.length ≤ (mdX s x).length), decide (t.size < 9223372036854775808), decide (prvE t (((mdX s x).drop 0).take x.length) s k = 0), okK .i64 (s.length : Nat), okK .i64 (s.length : Nat)] (bif !decide (((s.length : Nat) : Int) = (s.length : Nat)) then outV (vbool' false) else chks [okK .i64 (s.length : Nat), decide (0 + x.length ≤ (mdX s x).length), decide (0 + s.length ≤ (prvS (prvC t (((mdX s x).drop 0).take x.length) s k) s k s.length).length), decide (t.size < 9223372036854775808)] (bif !decide (vfyE t (((mdX s x).drop 0).take x.length) (s.length : Nat) (prvC t (((mdX s x).drop 0).take x.length) s k) (((prvS (prvC t (((mdX s x).drop 0).take x.length) s k) s k s.length).drop 0).take s.length) = 0) then outV (vbool' false) else
      chks [okK .i64 (s.length : Nat), decide (0 + x.length ≤ (mdX s x).length), decide (0 + s.length ≤ (prvS (prvC t (((mdX s x).drop 0).take x.length) s k) s k s.length).length), decide (o.size < 9223372036854775808), okK .i64 (s.length : Nat), decide (0 + x.length ≤ (mdX s x).length), decide (0 + s.length ≤ (prvS (prvC t (((mdX s x).drop 0).take x.length) s k) s k s.length).length), goodEq ((((prvS (prvC t (((mdX s x).drop 0).take x.length) s k) s k s.length).drop 0).take s.length).length : Nat) (((mdX s x).drop 0).take x.length), decide (1 ≤ (((mdX s x).drop 0).take x.length).length), decide ((((mdX s x).drop 0).take x.length).length < 1099511627776), decide (0 + x.length ≤ (mdX s x).length), decide (0 + (((mdX s x).drop 0).take x.length).length ≤ (comsR (prvC t (((mdX s x).drop 0).take x.length) s k) (((prvS (prvC t (((mdX s x).drop 0).take x.length) s k) s k s.length).drop 0).take s.length) (((mdX s x).drop 0).take x.length)).length), rgtB o.size (((mdX s x).drop 0).take x.length) (s.length : Nat), decide ((((mdX s x).drop 0).take x.length).length ≤ (((comsR (prvC t (((mdX s x).drop 0).take x.length) s k) (((prvS (prvC t (((mdX s x).drop 0).take x.length) s k) s k s.length).drop 0).take s.length) (((mdX s x).drop 0).take x.length)).drop 0).take (((mdX s x).drop 0).take x.length).length).length)]
       (bif (allB [decide (relN o (((mdX s x).drop 0).take x.length) s.length (fun j => scAt (((comsR (prvC t (((mdX s x).drop 0).take x.length) s k) (((prvS (prvC t (((mdX s x).drop 0).take x.length) s k) s k s.length).drop 0).take s.length) (((mdX s x).drop 0).take x.length)).drop 0).take (((mdX s x).drop 0).take x.length).length) j) = (prvC t (((mdX s x).drop 0).take x.length) s k))] == decide (vfyE o (((mdX s x).drop 0).take x.length) (s.length : Nat) (prvC t (((mdX s x).drop 0).take x.length) s k) (((prvS (prvC t (((mdX s x).drop 0).take x.length) s k) s k s.length).drop 0).take s.length) = 0)) then outV (vbool' true) else outV (vbool' false)))) := by kernel_rfl
     obtain ⟨m1, m2, m3⟩ := madeB_t hm
     obtain ⟨g1, g2, g3, g4, g5, g6⟩ := rgtB_t m1
     have hz := prv_made (t := t) (by omega) hm hk h9
     have hv := prv_taken hz
     have hg : goodEq (s.length : Nat) (mdX s x) = true := by rw [goodEq_md]; exact g6
     have ro : rgtB o.size (mdX s x) (s.length : Nat) = true := rgtB_md (by omega) m1
     have hpt := ptEq_md m2 g6 m3
     have hC : okS (prvC t (mdX s x) s k) = true := relN_ok _ _ _ _
     have hS := prvS_ok (prvC t (mdX s x) s k) s k s.length
     have hSl := prvS_len (prvC t (mdX s x) s k) s k s.length
     have hvo := vfyE_of (c := prvC t (mdX s x) s k) ro hSl hC hS hpt
     have hg' : goodEq ((prvS (prvC t (mdX s x) s k) s k s.length).length : Nat) (mdX s x) = true := by rw [hSl]; exact hg
     have hrel := vfyC_ref (t := o) (n := s.length) hC hS hg' hpt
     rw [tk0 (mdX s x) (mdX_len s x), tk0 _ hSl, tk0 _ (comsR_len _ _ _), hv, hvo, hrel, hz] at h2
     generalize vfyC o (mdX s x) s.length (prvC t (mdX s x) s k) (prvS (prvC t (mdX s x) s k) s k s.length) = V at *
     generalize prvS (prvC t (mdX s x) s k) s k s.length = S at *
     generalize prvC t (mdX s x) s k = C at *
     rw [comsR_len, mdX_len] at h2
     have e1 : decide (0 + x.length ≤ x.length) = true := by rw [decide_eq_true_iff]; omega
     have e2 : decide (0 + s.length ≤ S.length) = true := by rw [decide_eq_true_iff]; omega
     have e3 : decide (1 ≤ x.length) = true := by rw [decide_eq_true_iff]; omega
     have e4 : decide (x.length < 1099511627776) = true := by rw [decide_eq_true_iff]; omega
     have e5 : decide (x.length ≤ x.length) = true := by rw [decide_eq_true_iff]; omega
     have e6 : (allB [decide (V = C)] == decide ((bif !decide (V = C) then (110 : Int) else 0) = 0)) = true := by
      show (decide (V = C) == _) = true
      cases decide (V = C) <;> rfl
     rw [e6, e1, e2, e3, e4, e5, hls, hd, hdo, ro, hg', eqS_self, decide_eq_true (rfl : ((s.length : Nat) : Int) = (s.length : Nat)), decide_eq_true (rfl : (0 : Int) = 0)] at h2
     refine RunsL.flags (cx := (mkcf true false tabCl ilCl [(39, [veqs x, vscs s], [none], .tup [.one (.row 1 33 0 x.length x.length), .one (.bool true)], [none] ++ rowE (mdX s x))])) (cx' := mkcf true false tabRelateComplete [] []) rfl rfl ?_
     exact runsL_evS (mkokf (sy := true) (rw := false) tabokCl ilokCl (JsOK.cons (call_madeT hxr hsr hm) JsOK.nil)) (n := 400) (bs0 := []) h2 (VEnt.refl _) trivial
 · cases hF
end Go.Proofs.YtdkmcpbjicnfmaaGreat
