/-
  The law RelateTellsNothing answers true.
-/
import Derived.Test.YtdkmcpbjicnfmaaLb88
import Derived.Test.YtdkmcpbjicnfmaaLb90
import Derived.Test.YtdkmcpbjicnfmaaL8
namespace Go.Proofs.Ytdkmcpbjicnfmaa
open Go Vx Go.RowKit

noncomputable abbrev adL (a b : Nat) : Nat := bif okS a && okS b then restP (restP a + restP b) else 0
theorem adL_eq {a b : Nat} (ha : okS a = true) (hb : okS b = true) : adL a b = (a + b) % lP := by unfold adL; rw [ha, hb, restP_self ha, restP_self hb, restP_mod]; rfl
theorem adL_ok {a b : Nat} (ha : okS a = true) (hb : okS b = true) : okS (adL a b) = true := by rw [adL_eq ha hb]; exact okS_mod _
theorem mod_l {a b n : Nat} (h : a % n = b % n) (c : Nat) : (a + c) % n = (b + c) % n := by rw [Nat.add_mod, h, ← Nat.add_mod]
abbrev tnQ (left p : Nat) : List (List D) := [[.n left, .l [[.i 0, .n p], [.i 1, .n p]]]]
theorem tn_two {u v w : Nat} (hu : okS u = true) (hv : okS v = true) (hw : okS w = true) (h : (u + v) % lP = w % lP) {p : Nat} {P : E} (hp : Pt p P) : sumN [[.n u, .n p], [.n v, .n p]] = sumN [[.n w, .n p]] := by
  refine (sum_pt2 hu hp hv hp).2.eq (sum_pt1 hw hp).2 ?_
  rw [← E.add_mul]
  exact co_mod hp.1 h
theorem tn_prv {t : ByteArray} (htl : t.size ≤ 1000) {u v k l w : Nat} (hu : okS u = true) (hv : okS v = true) (hk : okS k = true) (hl : okS l = true) (hw : okS w = true) (h : (u + v) % lP = w % lP) {p : Nat} {P : E} (hp : Pt p P) :
    prvE t (tnQ (sumN [[.n w, .n p]]) p) [[.n u], [.n v]] [[.n k], [.n l]] = 0 := by
  have hA := (sum_pt1 hw hp).2.dec.1
  have hB := hp.dec.1
  have h1 : rgtB t.size (tnQ (sumN [[.n w, .n p]]) p) (([[.n u], [.n v]] : List (List D)).length : Nat) = true := by
    unfold rgtB
    rw [decide_eq_false (show ¬ (1000 : Int) < (t.size : Nat) by omega)]
    rfl
  have h3 : allSc [[.n u], [.n v]] = true := by show (bif !okS u then false else bif !okS v then false else true) = true; rw [hu, hv]; rfl
  have h4 : allSc [[.n k], [.n l]] = true := by show (bif !okS k then false else bif !okS l then false else true) = true; rw [hk, hl]; rfl
  have h5 : ptEq (tnQ (sumN [[.n w, .n p]]) p) = true := by
    show (bif !rdecBP (sumN [[.n w, .n p]]) then false else bif !(bif !rdecBP p then false else bif !rdecBP p then false else true) then false else true) = true
    rw [hA, hB]; rfl
  rw [prvE_of (t := t) (x := tnQ (sumN [[.n w, .n p]]) p) (s := [[.n u], [.n v]]) (k := [[.n k], [.n l]]) h1 rfl h3 h4 h5]
  show (bif !(bif !decide (sumN [[.n u, .n p], [.n v, .n p]] = sumN [[.n w, .n p]]) then false else true) then (110 : Int) else 0) = 0
  rw [decide_eq_true (tn_two hu hv hw h hp)]
  rfl
def treeTn (c1 k1 k2 k3 k4 : Bool) (o : Out) : Out := bif c1 then outV (vbool' true) else bif !k1 then outV (vbool' true) else bif !k2 then outV (vbool' true) else bif !k3 then outV (vbool' true) else bif !k4 then outV (vbool' true) else o
theorem treeTn_t {c1 k1 k2 k3 k4 : Bool} {o : Out} (h : c1 = false → k1 = true → k2 = true → k3 = true → k4 = true → o = outV (vbool' true)) : treeTn c1 k1 k2 k3 k4 o = outV (vbool' true) := by
  cases c1 <;> cases k1 <;> cases k2 <;> cases k3 <;> cases k4 <;> first | rfl | exact h rfl rfl rfl rfl rfl
noncomputable abbrev tnC (t : ByteArray) (x y k l p : Nat) : Nat := prvC t (tnQ (sumN [[.n (adL x y), .n p]]) p) [[.n x], [.n y]] [[.n k], [.n l]]
noncomputable abbrev tnE (t : ByteArray) (x y k l p : Nat) : Nat := wwL (tnC t x y k l p) (mnL x y)
noncomputable def tnO (t : ByteArray) (x y k l p : Nat) : Out := chks [decide (t.size < 9223372036854775808), decide (prvE t (tnQ (sumN [[.n (adL x y), .n p]]) p) [[.n x], [.n y]] [[.n k], [.n l]] = 0)]
  (bif !decide (erL x y = 0) then outV (vbool' false) else bif !decide (sumE [[.n (adL x y), .n p]] = 0) then outV (vbool' false) else
   chks [decide (t.size < 9223372036854775808), decide (prvE t (tnQ (sumN [[.n (adL x y), .n p]]) p) [[.n y], [.n x]] [[.n (adL k (tnE t x y k l p))], [.n (mnL l (tnE t x y k l p))]] = 0)]
    (bif !decide (erL x y = 0) then outV (vbool' false) else bif !decide (erL (tnC t x y k l p) (mnL x y) = 0) then outV (vbool' false) else bif !decide (erL k (tnE t x y k l p) = 0) then outV (vbool' false) else bif !decide (erL l (tnE t x y k l p) = 0) then outV (vbool' false) else
     bif sameB (tnC t x y k l p) (((prvS (tnC t x y k l p) [[.n x], [.n y]] [[.n k], [.n l]] 2).drop 0).take 2)
      (prvC t (tnQ (sumN [[.n (adL x y), .n p]]) p) [[.n y], [.n x]] [[.n (adL k (tnE t x y k l p))], [.n (mnL l (tnE t x y k l p))]])
      (((prvS (prvC t (tnQ (sumN [[.n (adL x y), .n p]]) p) [[.n y], [.n x]] [[.n (adL k (tnE t x y k l p))], [.n (mnL l (tnE t x y k l p))]]) [[.n y], [.n x]] [[.n (adL k (tnE t x y k l p))], [.n (mnL l (tnE t x y k l p))]] 2).drop 0).take 2)
     then outV (vbool' true) else outV (vbool' false)))
theorem tnO_t {t : ByteArray} (htl : t.size ≤ 1000) {x y k l : Nat} (hx : okS x = true) (hy : okS y = true) (hk : okS k = true) (hl : okS l = true) {p : Nat} {P : E} (hp : Pt p P) : tnO t x y k l p = outV (vbool' true) := by
  have hw := adL_ok hx hy
  have hc : okS (tnC t x y k l p) = true := relN_ok _ _ _ _
  have hd : okS (mnL x y) = true := by rw [mnL_eq hx hy]; exact subN_ok _ _
  have he : okS (tnE t x y k l p) = true := by unfold tnE; rw [wwL_eq hc hd]; exact okS_rest _
  have hm1 : (x + y) % lP = adL x y % lP := by rw [adL_eq hx hy, Nat.mod_mod]
  have hm2 : (y + x) % lP = adL x y % lP := by rw [Nat.add_comm]; exact hm1
  have hk2 := adL_ok hk he
  have hl2 : okS (mnL l (tnE t x y k l p)) = true := by rw [mnL_eq hl he]; exact subN_ok _ _
  have p1 := tn_prv htl hx hy hk hl hw hm1 hp
  have p2 := tn_prv htl hy hx hk2 hl2 hw hm2 hp
  have hs := (sum_pt1 hw hp).1
  have he2 : tnE t x y k l p = tnC t x y k l p * mnL x y % lP := by
    show wwL (tnC t x y k l p) (mnL x y) = _
    rw [wwL_eq hc hd, restP_self hc, restP_self hd, restP_mod]
  have hd2 : (mnL x y + y) % lP = x % lP := by
    have := okS_lt hy
    rw [mnL_eq hx hy, subN_eq hx hy, Nat.mod_add_mod, show x + (lP - y) + y = x + lP by omega, Nat.add_mod_right]
  have hce : (tnE t x y k l p + tnC t x y k l p * y) % lP = tnC t x y k l p * x % lP := by
    rw [he2, Nat.mod_add_mod, ← Nat.mul_add, Nat.mul_mod, hd2, ← Nat.mul_mod]
  have hel := okS_lt he
  have hak : adL k (tnE t x y k l p) = (k + tnE t x y k l p) % lP := adL_eq hk he
  have hml : mnL l (tnE t x y k l p) = (l + (lP - tnE t x y k l p)) % lP := by rw [mnL_eq hl he, subN_eq hl he]
  have hCC : prvC t (tnQ (sumN [[.n (adL x y), .n p]]) p) [[.n y], [.n x]] [[.n (adL k (tnE t x y k l p))], [.n (mnL l (tnE t x y k l p))]] = tnC t x y k l p := by
    refine relN_congr fun i hi => ?_
    have hi : i = 0 := Nat.lt_one_iff.1 hi
    subst hi
    show sumN [[.n (adL k (tnE t x y k l p)), .n p], [.n (mnL l (tnE t x y k l p)), .n p]] = sumN [[.n k, .n p], [.n l, .n p]]
    refine (sum_pt2 hk2 hp hl2 hp).2.eq (sum_pt2 hk hp hl hp).2 ?_
    rw [← E.add_mul, ← E.add_mul]
    refine co_mod hp.1 ?_
    rw [hak, hml, Nat.mod_add_mod, Nat.add_mod_mod]
    generalize tnE t x y k l p = e at *
    rw [show k + e + (l + (lP - e)) = k + l + lP by omega, Nat.add_mod_right]
  unfold tnO
  rw [p1, p2, hs, erL_eq hx hy, erL_eq hc hd, erL_eq hk he, erL_eq hl he, hCC, chks_true (l := [decide (t.size < 9223372036854775808), decide ((0 : Int) = 0)]) (allTc (by rw [decide_eq_true_iff]; omega) (allT1 rfl)), chks_true (l := [decide (t.size < 9223372036854775808), decide ((0 : Int) = 0)]) (allTc (by rw [decide_eq_true_iff]; omega) (allT1 rfl))]
  have hr : ∀ (C a b k l : Nat), ((prvS C [[.n a], [.n b]] [[.n k], [.n l]] 2).drop 0).take 2 = [[.n (rspN C a k)], [.n (rspN C b l)]] := fun _ _ _ _ _ => rfl
  rw [hr, hr]
  have r1 : rspN (tnC t x y k l p) y (adL k (tnE t x y k l p)) = rspN (tnC t x y k l p) x k := by
    rw [rsp_eq hc hy hk2, rsp_eq hc hx hk, hak, Nat.mod_add_mod, Nat.add_assoc, Nat.add_comm k, mod_l hce, Nat.add_comm]
  have r2 : rspN (tnC t x y k l p) x (mnL l (tnE t x y k l p)) = rspN (tnC t x y k l p) y l := by
    rw [rsp_eq hc hx hl2, rsp_eq hc hy hl, hml, Nat.mod_add_mod, Nat.add_comm, mod_l hce.symm]
    generalize tnE t x y k l p = e at *
    rw [show e + tnC t x y k l p * y + (l + (lP - e)) = l + tnC t x y k l p * y + lP by omega, Nat.add_mod_right]
  rw [r1, r2, sameB_self]
  rfl

noncomputable def sRelateTellsNothingF : List D → Option (List Bool × V)
  | [.s t, .n _, .n _, .n _, .n _, .n _] => some ([decide (t.size < 9223372036854775808)], vbool' true)
  | _ => none
noncomputable def sRelateTellsNothing : FSpec := spec [tstr, tb32, tb32, tb32, tb32, tb64] sRelateTellsNothingF
noncomputable abbrev tabRelateTellsNothing : List (FuncId × FSpec) := [(27, sAMap), (23, sAIsScalar), (22, sAPlus), (29, sAMinus), (24, sASum), (30, sATimes), (28, sGProveT), (31, sRSame), (26, sKnown11)]
set_option maxRecDepth 100000 in
theorem tabokRelateTellsNothing : TabOK Try.prog (tabOf tabRelateTellsNothing) := (.cons ok_AMap (.cons ok_AIsScalar (.cons ok_APlus (.cons ok_AMinus (.cons ok_ASum (.cons ok_ATimes (.cons ok_GProveT (.cons ok_RSame (.cons ok_Known11 .nil)))))))))
noncomputable abbrev ilRelateTellsNothing : List (FuncId × Func) := []
set_option maxRecDepth 100000 in
theorem ilokRelateTellsNothing : IlOK Try.prog (ilTab ilRelateTellsNothing) := IlOK.nil
set_option maxRecDepth 100000 in
theorem ok_RelateTellsNothing : FnOK Try.prog 7 sRelateTellsNothing := by
  refine fn_flat (cx := mkcf true false tabRelateTellsNothing ilRelateTellsNothing []) (c := bodyOf Try.f7) Try.func7 (by kernel_rfl) (by kernel_rfl) rfl ?_
  intro ds chk v vs hF ht he hr base
  unfold sRelateTellsNothingF at hF
  split at hF
  · rename_i t x y k l b
    cases hF
    have hvs : vs = [vstr t, vb32 x, vb32 y, vb32 k, vb32 l, vb64 b] := by simp only [encA, encV, encP, encL, Option.some.injEq] at he; exact he.symm
    subst hvs
    have hts : t.size < 9223372036854775808 := of_decide_eq_true (ht _ (by simp))
    have hev : evS (mkcf true false tabRelateTellsNothing ilRelateTellsNothing []) 400 (bodyOf Try.f7) ⟨t0 Try.f7 [vstr t, vb32 x, vb32 y, vb32 k, vb32 l, vb64 b], []⟩ (kres (mkcf true false tabRelateTellsNothing ilRelateTellsNothing []) Try.f7 base) = chks [okK .i64 (t.size : Nat)] (treeTn (decide ((1000 : Int) < (t.size : Nat))) (okS x) (okS y) (okS k) (okS l) (tnO t x y k l (rencP (rmapP b)))) := by kernel_rfl
    rw [chks_true (allT1 (nat_i hts)), treeTn_t] at hev
    · exact runs_evS (mkokf (sy := true) (rw := false) tabokRelateTellsNothing ilokRelateTellsNothing JsOK.nil) (bs0 := []) hev (VEnt.refl _) trivial
    · intro h1 hx hy hk hl
      obtain ⟨P, hP⟩ := Pt.map b
      have := of_decide_eq_false h1
      exact tnO_t (by omega) hx hy hk hl hP
  · cases hF
end Go.Proofs.Ytdkmcpbjicnfmaa
