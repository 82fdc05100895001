/-
  What is proved is taken; the law's known relation.
-/
import Derived.Test.YtdkmcpbjicnfmaaGreatLb85
import Derived.Test.YtdkmcpbjicnfmaaGreatLb86
set_option maxRecDepth 100000
namespace Go.Proofs.YtdkmcpbjicnfmaaGreat
open Go Vx Go.RowKit

theorem ptEq_at : ∀ {x : List (List D)}, ptEq x = true → ∀ {j : Nat}, j < x.length → rdecBP (eqA (x.getD j [])) = true ∧ ptPa (eqP (x.getD j [])) = true
 | [], _, j, h => absurd h (Nat.not_lt_zero j)
 | e :: x, h, j, hj => by
   obtain ⟨h1, h2, h3⟩ := ptEq_cons h
   cases j with
   | zero => exact ⟨h1, h2⟩
   | succ j => exact ptEq_at (x := x) h3 (Nat.lt_of_succ_lt_succ hj)
theorem metB_at {s : List (List D)} : ∀ {x : List (List D)}, metB s x = true → ∀ {j : Nat}, j < x.length → eqA (x.getD j []) = comN s (eqP (x.getD j []))
 | [], _, j, h => absurd h (Nat.not_lt_zero j)
 | e :: x, h, j, hj => by
   unfold metB at h
   by_cases h1 : comN s (eqP e) = eqA e
   · rw [decide_eq_true h1] at h
     cases j with
     | zero => exact h1.symm
     | succ j => exact metB_at (x := x) h (Nat.lt_of_succ_lt_succ hj)
   · rw [decide_eq_false h1] at h
     cases h
theorem relN_ok (t : ByteArray) (x : List (List D)) (n : Nat) (com : Nat → Nat) : okS (relN t x n com) = true := by rw [relN_eq]; exact okS_rest _
theorem vfyE_of {t : ByteArray} {x s : List (List D)} {n : Nat} {c : Nat} (h1 : rgtB t.size x (n : Nat) = true) (h2 : s.length = n) (h3 : okS c = true) (h4 : allSc s = true) (h5 : ptEq x = true) : vfyE t x (n : Nat) c s = bif !decide (vfyC t x n c s = c) then 110 else 0 := by
 unfold vfyE
 rw [h1, h3, h4, h5, decide_eq_true (show ((s.length : Nat) : Int) = (n : Nat) by omega), Int.toNat_natCast]
 rfl
theorem vfyC_prv {t : ByteArray} {x s k : List (List D)} (c : Nat) (hc : okS c = true) (h : prvE t x s k = 0) (t' : ByteArray) : vfyC t' x s.length c (prvS c s k s.length) = relN t' x s.length fun j => comN k (eqP (x.getD j [])) := by
 obtain ⟨h1, h2, h3, h4, h5, h6⟩ := prvE_ok h
 obtain ⟨_, _, _, _, _, g6⟩ := rgtB_t h1
 exact relN_congr fun i hi => vfy_com hc h3 h4 h2 (goodEq_at g6 hi).2 (goodEq_at g6 hi).1 (ptEq_at h5 hi).2 (metB_at h6 hi)
theorem prv_taken {t : ByteArray} {x s k : List (List D)} (h : prvE t x s k = 0) : vfyE t x (s.length : Nat) (prvC t x s k) (prvS (prvC t x s k) s k s.length) = 0 := by
 obtain ⟨h1, h2, h3, h4, h5, h6⟩ := prvE_ok h
 have hc : okS (prvC t x s k) = true := relN_ok _ _ _ _
 rw [vfyE_of h1 (prvS_len _ _ _ _) hc (prvS_ok _ _ _ _) h5, decide_eq_true (show vfyC t x s.length (prvC t x s k) (prvS (prvC t x s k) s k s.length) = prvC t x s k from vfyC_prv _ hc h t)]
 rfl
abbrev sKnown : ByteArray := ⟨#[107, 110, 111, 119, 110]⟩
noncomputable abbrev eq11 : List (List D) := [[.n (sumN [[.n 5, .n bN]]), .l [[.i 0, .n bN]]]]
theorem ok_small {a : Nat} (h : a < 100) : okS a = true := okS_iff.2 (Nat.lt_trans h (by unfold lP; decide))
theorem com11 (a : Nat) : comN [[.n a]] [[.i 0, .n bN]] = sumN [[.n a, .n bN]] := rfl
theorem prv11 {a : Nat} (ha : okS a = true) : prvE sKnown eq11 [[.n a]] [[.n 9]] = bif !decide (sumN [[.n a, .n bN]] = sumN [[.n 5, .n bN]]) then 110 else 0 := by
 have hA := (sum_pt1 (ok_small (show 5 < 100 by decide)) bE_pt).2.dec.1
 have hB := bE_pt.dec.1
 have h3 : allSc [[.n a]] = true := by show (bif !okS a then false else true) = true; rw [ha]; rfl
 have h4 : allSc [[.n 9]] = true := by show (bif !okS 9 then false else true) = true; rw [ok_small (show 9 < 100 by decide)]; rfl
 have h5 : ptEq eq11 = true := by
  show (bif !rdecBP (sumN [[.n 5, .n bN]]) then false else bif !(bif !rdecBP bN then false else true) then false else true) = true
  rw [hA, hB]; rfl
 rw [prvE_of (t := sKnown) (x := eq11) (s := [[.n a]]) (k := [[.n 9]]) (show rgtB sKnown.size eq11 (([[.n a]] : List (List D)).length : Nat) = true from rfl) rfl h3 h4 h5]
 show (bif !(bif !decide (comN [[.n a]] [[.i 0, .n bN]] = sumN [[.n 5, .n bN]]) then false else true) then (110 : Int) else 0) = _
 rw [com11]
 cases decide (sumN [[.n a, .n bN]] = sumN [[.n 5, .n bN]]) <;> rfl
theorem five_six : sumN [[.n 6, .n bN]] ≠ sumN [[.n 5, .n bN]] := fun h => by
 have h5 := (sum_pt1 (ok_small (show 5 < 100 by decide)) bE_pt).2
 have h6 := (sum_pt1 (ok_small (show 6 < 100 by decide)) bE_pt).2
 have hc := (h6.eq_iff h5).1 h
 rw [show (6 : Nat) = 5 + 1 from rfl, E.add_mul] at hc
 have := bE_ord.1 (co_cancel hc)
 rw [Nat.mod_eq_of_lt (by unfold lP; decide)] at this
 cases this
def sel11 : List (V × List (Nat × Blk)) → Bool
 | [_, _, (_, (_, b) :: _), _] => match b.c with
   | .ps [.pk _ _ _ n] => Nat.beq n 5
   | _ => false
 | _ => false
noncomputable def sKProve : FSpec := selSp sel11 sGProveT sGProveF
theorem ok_KProve : FnOK Tryz.prog 33 sKProve := selSp_ok ok_GProveT ok_GProveF
def known11O (v e g : Bool) : Out := bif e then (bif g then outV (vbool' v) else outV (vbool' false)) else outV (vbool' false)

noncomputable def sKnown11F : List D → Option (List Bool × V)
 | [] => some ([], vbool' true)
 | _ => none
noncomputable def sKnown11 : FSpec := spec [] sKnown11F
noncomputable abbrev tabKnown11 : List (FuncId × FSpec) := [(57, sAOf), (60, sABase), (59, sASum), (33, sKProve), (36, sGVerify11)]
theorem tabokKnown11 : TabOK Tryz.prog (tabOf tabKnown11) := (.cons ok_AOf (.cons ok_ABase (.cons ok_ASum (.cons ok_KProve (.cons ok_GVerify11 .nil)))))
theorem ok_Known11 : FnOK Tryz.prog 32 sKnown11 := by
 refine fn_flat (cx := mkcf true false tabKnown11 [] []) (c := bodyOf Tryz.f32) Tryz.func32 (by kernel_rfl) (by kernel_rfl) rfl ?_
 intro ds chk v vs hF ht he hr base
 unfold sKnown11F at hF
 split at hF
 · cases hF
   have hvs : vs = [] := by simp only [encA, Option.some.injEq] at he; exact he.symm
   subst hvs
   have hev : evS (mkcf true false tabKnown11 [] []) 400 (bodyOf Tryz.f32) ⟨t0 Tryz.f32 [], []⟩ (kres (mkcf true false tabKnown11 [] []) Tryz.f32 base) = chks [decide (prvE sKnown eq11 [[.n 5]] [[.n 9]] = 0), decide (prvE sKnown eq11 [[.n 6]] [[.n 9]] ≠ 0)]
    (known11O (decide (vfyE sKnown eq11 1 (prvC sKnown eq11 [[.n 5]] [[.n 9]]) (((prvS (prvC sKnown eq11 [[.n 5]] [[.n 9]]) [[.n 5]] [[.n 9]] 1).drop 0).take 1) = 0)) (decide (sumE [[.n 5, .n bN]] = 0)) (decide (prvE sKnown eq11 [[.n 6]] [[.n 9]] = 110))) := by kernel_rfl
   have p5 : prvE sKnown eq11 [[.n 5]] [[.n 9]] = 0 := by rw [prv11 (ok_small (by decide)), decide_eq_true rfl]; rfl
   have p6 : prvE sKnown eq11 [[.n 6]] [[.n 9]] = 110 := by rw [prv11 (ok_small (by decide)), decide_eq_false five_six]; rfl
   have hv := prv_taken p5
   rw [List.drop_zero, List.take_of_length_le (by rw [prvS_len]; exact Nat.le_refl _), show vfyE sKnown eq11 1 (prvC sKnown eq11 [[.n 5]] [[.n 9]]) (prvS (prvC sKnown eq11 [[.n 5]] [[.n 9]]) [[.n 5]] [[.n 9]] 1) = 0 from hv, p6,
    (sum_pt1 (ok_small (show 5 < 100 by decide)) bE_pt).1, chks_true (l := [decide (prvE sKnown eq11 [[.n 5]] [[.n 9]] = 0), decide ((110 : Int) ≠ 0)]) (allTc (decide_eq_true p5) (allT1 (by decide)))] at hev
   exact runs_evS (mkokf (sy := true) (rw := false) tabokKnown11 IlOK.nil JsOK.nil) (bs0 := []) (hev.trans rfl) (VEnt.refl _) trivial
 · cases hF
end Go.Proofs.YtdkmcpbjicnfmaaGreat
