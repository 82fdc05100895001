/-
  The parameters of a small mint.
-/
import Derived.Test.YteohgdpkdbckoaaLb105
namespace Go.Proofs.Yteohgdpkdbckoaa
open Go Vx Go.RowKit

theorem mayM_t {a b c d e f g h i j k : Nat} (hm : mayM a b c d e f g h i j k = true) : (okS a = true ∧ okS b = true ∧ okS c = true ∧ okS d = true ∧ okS e = true ∧ okS f = true ∧ okS g = true ∧ okS h = true ∧ okS i = true ∧ okS j = true ∧ okS k = true) ∧ a ≠ 0 ∧ k ≠ 0 := by
  rw [mayM_eq] at hm
  obtain ⟨h1, h2⟩ := noneN_t hm
  have hn : ∀ n, (!okS n) = false → okS n = true := fun n hn => by cases ho : okS n; rw [ho] at hn; cases hn; rfl
  have hz : ∀ n, (!zB n) = true → n ≠ 0 := fun n hn e => by rw [zB_iff.2 e] at hn; cases hn
  cases ha : (!zB a) with
  | false => rw [ha] at h2; cases h2
  | true =>
    rw [ha] at h2
    exact ⟨⟨hn _ (h1 _ (by simp)), hn _ (h1 _ (by simp)), hn _ (h1 _ (by simp)), hn _ (h1 _ (by simp)), hn _ (h1 _ (by simp)), hn _ (h1 _ (by simp)), hn _ (h1 _ (by simp)), hn _ (h1 _ (by simp)), hn _ (h1 _ (by simp)), hn _ (h1 _ (by simp)), hn _ (h1 _ (by simp))⟩, hz _ ha, hz _ h2⟩
theorem mayM_of {a b c d e f g h i j k : Nat} (ho : ∀ n ∈ [a, b, c, d, e, f, g, h, i, j, k], okS n = true) (ha : a ≠ 0) (hk : k ≠ 0) : mayM a b c d e f g h i j k = true := by
  rw [mayM_eq]
  have hz : ∀ n, n ≠ 0 → (!zB n) = true := fun n hn => by cases hb : zB n; rfl; exact absurd (zB_iff.1 hb) hn
  refine noneN_of (fun c hc => ?_) (by rw [hz _ ha, hz _ hk]; rfl)
  simp only [List.mem_cons, List.not_mem_nil, or_false] at hc
  rcases hc with rfl | rfl | rfl | rfl | rfl | rfl | rfl | rfl | rfl | rfl | rfl <;> (rw [ho _ (by simp)]; rfl)
theorem mprM_t {a b c d e f g h i : Nat} (hm : mprM a b c d e f g h i = true) : (rdecBP a = true ∧ rdecBP b = true ∧ rdecBP c = true ∧ rdecBP d = true ∧ rdecBP e = true ∧ rdecBP f = true ∧ rdecBP g = true ∧ rdecBP h = true ∧ rdecBP i = true) ∧ a ≠ 0 ∧ i ≠ 0 := by
  rw [mprM_eq] at hm
  obtain ⟨h1, h2⟩ := noneN_t hm
  have hn : ∀ n, (!rdecBP n) = false → rdecBP n = true := fun n hn => by cases ho : rdecBP n; rw [ho] at hn; cases hn; rfl
  have hz : ∀ n, (!zB n) = true → n ≠ 0 := fun n hn e => by rw [zB_iff.2 e] at hn; cases hn
  cases ha : (!zB a) with
  | false => rw [ha] at h2; cases h2
  | true =>
    rw [ha] at h2
    exact ⟨⟨hn _ (h1 _ (by simp)), hn _ (h1 _ (by simp)), hn _ (h1 _ (by simp)), hn _ (h1 _ (by simp)), hn _ (h1 _ (by simp)), hn _ (h1 _ (by simp)), hn _ (h1 _ (by simp)), hn _ (h1 _ (by simp)), hn _ (h1 _ (by simp))⟩, hz _ ha, hz _ h2⟩
theorem mprM_of {a b c d e f g h i : Nat} (ho : ∀ n ∈ [a, b, c, d, e, f, g, h, i], rdecBP n = true) (ha : a ≠ 0) (hk : i ≠ 0) : mprM a b c d e f g h i = true := by
  rw [mprM_eq]
  have hz : ∀ n, n ≠ 0 → (!zB n) = true := fun n hn => by cases hb : zB n; rfl; exact absurd (zB_iff.1 hb) hn
  refine noneN_of (fun c hc => ?_) (by rw [hz _ ha, hz _ hk]; rfl)
  simp only [List.mem_cons, List.not_mem_nil, or_false] at hc
  rcases hc with rfl | rfl | rfl | rfl | rfl | rfl | rfl | rfl | rfl <;> (rw [ho _ (by simp)]; rfl)
theorem mp1_pt {a n : Nat} {P : E} (ha : okS a = true) (h : Pt n P) : Pt (mp1 a n) (E.mul a P) := (sum_pt1 ha h).2
theorem mp2_pt {a b n : Nat} {P : E} (ha : okS a = true) (hb : okS b = true) (h : Pt n P) : Pt (mp2 a b n) (E.mul a bE + E.mul b P) := (sum_pt2 ha bE_pt hb h).2
theorem ad2_pt {x y : Nat} {P Q : E} (hx : Pt x P) (hy : Pt y Q) : Pt (ad2 x y) (P + Q) := by
  have := (sum_pt2 okS_one hx okS_one hy).2
  rw [E.mul_one, E.mul_one] at this
  exact this
theorem mp2_ad {a b n : Nat} {P : E} (ha : okS a = true) (hb : okS b = true) (h : Pt n P) : ad2 (mp1 a bN) (mp1 b n) = mp2 a b n :=
  (ad2_pt (mp1_pt ha bE_pt) (mp1_pt hb h)).eq (mp2_pt ha hb h) (co_refl _)
theorem okS_lit {n : Nat} (h : n < 1000) : okS n = true := okS_iff.2 (Nat.lt_trans h (by unfold lP; decide))
theorem mp1_bN {a : Nat} (ha : okS a = true) (h0 : a ≠ 0) : mp1 a bN ≠ 0 := fun e => by
  have h1 := (mp1_pt ha bE_pt).zero_iff.1 e
  have h2 := bE_ord.1 h1
  rw [Nat.mod_eq_of_lt (okS_lt ha)] at h2
  exact h0 h2
theorem may_small : mayM 1 0 0 0 0 0 0 0 0 0 2 = true := mayM_of (fun n hn => okS_lit (by
  simp only [List.mem_cons, List.not_mem_nil, or_false] at hn
  omega)) (by decide) (by decide)
theorem small_h : mp1 1 bN = bN := (sum_one bE_pt.dec.1).2
theorem small_x : mp2 0 0 (mp1 1 bN) = 0 := by
  have h := mp2_pt (okS_lit (n := 0) (by decide)) (okS_lit (n := 0) (by decide)) (mp1_pt okS_one bE_pt)
  refine h.zero_iff.2 ?_
  have e : ∀ P : E, E.mul 0 P = 0 := fun _ => rfl
  rw [e, e, E.add_zero]
  exact co_refl _

/-- Of a function one thing is said of some arguments, another of others: together. -/
theorem spec_or {P : Program} {f : FuncId} {ts : List Ty} {F F1 F2 : List D → Option (List Bool × V)} (h1 : FnOK P f (spec ts F1)) (h2 : FnOK P f (spec ts F2))
    (h : ∀ ds c v, F ds = some (c, v) → allT c → (∃ c', F1 ds = some (c', v) ∧ allT c') ∨ ∃ c', F2 ds = some (c', v) ∧ allT c') : FnOK P f (spec ts F) := by
  intro base args chk v bs hsp ht
  unfold spec at hsp
  split at hsp
  · rename_i c0 ds hds
    split at hsp
    · rename_i chk' v' hF
      cases hsp
      obtain ⟨t1, t2⟩ := allT_append ht
      rcases h ds chk' _ hF t2 with ⟨c', e, t⟩ | ⟨c', e, t⟩
      · exact h1 base args (c0 ++ c') _ [] (by unfold spec; rw [hds]; simp only [e]) (allT_app t1 t)
      · exact h2 base args (c0 ++ c') _ [] (by unfold spec; rw [hds]; simp only [e]) (allT_app t1 t)
    · cases hsp
  · cases hsp

noncomputable def sKnown13F : List D → Option (List Bool × V)
  | [] => some ([], vbool' true)
  | _ => none
noncomputable def sKnown13 : FSpec := spec [] sKnown13F
noncomputable abbrev tabKnown13 : List (FuncId × FSpec) := [(18, sHMPubT), (20, sABase)]
set_option maxRecDepth 100000 in
theorem tabokKnown13 : TabOK Try.prog (tabOf tabKnown13) := (.cons ok_HMPubT (.cons ok_ABase .nil))
noncomputable abbrev ilKnown13 : List (FuncId × Func) := [(19, Try.f19)]
set_option maxRecDepth 100000 in
theorem ilokKnown13 : IlOK Try.prog (ilTab ilKnown13) := (IlOK.cons Try.func19 (by kernel_rfl) IlOK.nil)
set_option maxRecDepth 100000 in
theorem ok_Known13 : FnOK Try.prog 8 sKnown13 := by
  refine fn_flat (cx := mkcf false false tabKnown13 ilKnown13 []) (c := bodyOf Try.f8) Try.func8 (by kernel_rfl) (by kernel_rfl) rfl ?_
  intro ds chk v vs hF ht he hr base
  unfold sKnown13F at hF
  split at hF
  · cases hF
    have hvs : vs = [] := by simp only [encA, Option.some.injEq] at he; exact he.symm
    subst hvs
    have hev : evS (mkcf false false tabKnown13 ilKnown13 []) 400 (bodyOf Try.f8) ⟨t0 Try.f8 [], []⟩ (kres (mkcf false false tabKnown13 ilKnown13 []) Try.f8 base) = chks [mayM 1 0 0 0 0 0 0 0 0 0 2] (treeL [allB [decide (mp1 1 bN = bN)], zB (mp2 0 0 (mp1 1 bN))]) := by kernel_rfl
    rw [chks_true (allT1 may_small), treeL_t (allTc (show allB [decide (mp1 1 bN = bN)] = true from decide_eq_true small_h) (allT1 (zB_iff.2 small_x)))] at hev
    exact runs_evS (mkokf (sy := false) (rw := false) tabokKnown13 ilokKnown13 JsOK.nil) (n := 400) (bs0 := []) hev (VEnt.refl _) trivial
  · cases hF
end Go.Proofs.Yteohgdpkdbckoaa
