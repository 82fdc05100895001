/-
  The law AlgebraModule answers true.
-/
import Derived.Test.YtpoikjcgdojjjaaLb55
namespace Go.Proofs.Ytpoikjcgdojjjaa
open Go Vx Go.RowKit

def bad0 : List L := [.int .u8 0, .int .u8 0, .int .u8 0, .int .u8 0, .int .u8 0, .int .u8 0, .int .u8 0, .int .u8 0, .int .u8 0, .int .u8 0, .int .u8 0, .int .u8 0, .int .u8 0, .int .u8 0, .int .u8 0, .int .u8 0, .int .u8 0, .int .u8 0, .int .u8 0, .int .u8 0, .int .u8 0, .int .u8 0, .int .u8 0, .int .u8 0, .int .u8 0, .int .u8 0, .int .u8 0, .int .u8 0, .int .u8 0, .int .u8 0, .int .u8 0, .int .u8 255]
theorem bad0_ent : VEnt (.ag (.ps bad0)) (vb32 (115339776388732929035197660848497720713218148788040405586178452820382218977280)) := VEnt.dec (t := tb32) (ds := [.n (115339776388732929035197660848497720713218148788040405586178452820382218977280)]) (by kernel_rfl) (by kernel_rfl)
noncomputable def smN : List (List D) → Nat := hidden' fun x => bif decide (sumE x = 0) then sumN x else 115339776388732929035197660848497720713218148788040405586178452820382218977280
theorem smN_eq (x : List (List D)) : smN x = bif decide (sumE x = 0) then sumN x else 115339776388732929035197660848497720713218148788040405586178452820382218977280 := by unfold smN; rw [seal_eq]
theorem smN_tree (x : List (List D)) : ∃ v0, (bif !decide (sumE x = 0) then outV (.ag (.ps bad0)) else outV (vb32 (sumN x)) : Out) = outV v0 ∧ VEnt v0 (vb32 (smN x)) := by
  rw [smN_eq]
  cases decide (sumE x = 0)
  · exact ⟨_, rfl, bad0_ent⟩
  · exact ⟨_, rfl, VEnt.refl _⟩

noncomputable def sSm1F : List D → Option (List Bool × V)
  | [.l x] => some ([decide (x.length < 9223372036854775808)], vb32 (smN x))
  | _ => none
noncomputable def sSm1 : FSpec := spec [ttrm] sSm1F
noncomputable abbrev tabSm1 : List (FuncId × FSpec) := [(38, sASum)]
set_option maxRecDepth 100000 in
theorem tabokSm1 : TabOK Try.prog (tabOf tabSm1) := (.cons ok_ASum .nil)
set_option maxRecDepth 100000 in
theorem ok_Sm1 : FnOK Try.prog 58 sSm1 := by
  refine fn_flat (cx := mkcx tabSm1) (c := bodyOf Try.f58) Try.func58 (by kernel_rfl) (by kernel_rfl) rfl ?_
  intro ds chk v vs hF ht he hr base
  unfold sSm1F at hF
  split at hF
  · rename_i x
    cases hF
    have hvs : vs = [vtrm x] := by simp only [encA, encV, encP, encL, Option.some.injEq] at he; exact he.symm
    subst hvs
    obtain ⟨v0, h1, h2⟩ := smN_tree x
    have hc : allT [decide (x.length < 9223372036854775808)] := ht
    exact runs_evS (mkok tabokSm1) (n := 400) (bs0 := []) (h := Eq.trans (b := chks [decide (x.length < 9223372036854775808)] (bif !decide (sumE x = 0) then outV (.ag (.ps bad0)) else outV (vb32 (sumN x)))) (by kernel_rfl) ((chks_true hc).trans h1)) h2 trivial
  · cases hF

theorem smN_pt {l : List (List D)} {S : E} (h : Terms l S) (hl : l.length ≤ 64) : Pt (smN l) S := by
  obtain ⟨h1, h2⟩ := sum_pt h hl
  rw [smN_eq, decide_eq_true h1, cond_true]
  exact h2
theorem sm1_pt {a n : Nat} {P : E} (ha : okS a = true) (h : Pt n P) : Pt (smN [[.n a, .n n]]) (E.mul a P) := by
  have := smN_pt (.cons ha h .nil) (show 1 ≤ 64 by decide)
  rw [E.add_zero] at this
  exact this
theorem sm2_pt {a n b m : Nat} {P Q : E} (ha : okS a = true) (h : Pt n P) (hb : okS b = true) (h' : Pt m Q) : Pt (smN [[.n a, .n n], [.n b, .n m]]) (E.mul a P + E.mul b Q) := by
  have := smN_pt (.cons ha h (.cons hb h' .nil)) (show 2 ≤ 64 by decide)
  rw [E.add_zero] at this
  exact this
noncomputable def addL (a b : Nat) : Nat := restP (restP a + restP b)
theorem addL_eq (a b : Nat) : addL a b = (a + b) % lP := by unfold addL; rw [restP_eq, restP_eq, restP_eq, ← Nat.add_mod]; rfl
theorem restP_l (a : Nat) : restP a = a % lP := restP_eq a
noncomputable def subL (a b : Nat) : Nat := restP (restP a + restP (minusS 7237005577332262213973186563042994240857116359379907606001950938285454250989 (restP b)))
theorem subL_eq (a : Nat) : subL a a = 0 := by
  unfold subL
  have h := Nat.mod_lt a (show 0 < lP by unfold lP; decide)
  rw [restP_l, restP_l a, restP_l (minusS _ _), minusS_eq]
  show (a % lP + (lP + 2 ^ 256 - a % lP) % 2 ^ 256 % lP) % lP = 0
  have h2 := lP_small
  generalize a % lP = x at *
  generalize lP = l at *
  generalize (2 : Nat) ^ 256 = t at *
  rw [show l + t - x = t + (l - x) by omega, Nat.add_mod_left, Nat.mod_eq_of_lt (show l - x < t by omega), Nat.add_mod_mod, show x + (l - x) = l by omega, Nat.mod_self]
def treeMd (c0 c1 c2 c3 c4 c5 : Bool) (l : List Bool) : Out := bif c0 then outV (vbool' true) else bif c1 then outV (vbool' true) else bif c2 then outV (vbool' false) else bif c2 then outV (vbool' false) else bif c3 then outV (vbool' false) else
  bif c4 then outV (vbool' false) else bif c5 then outV (vbool' false) else treeL l
noncomputable abbrev mdC (a b p q : Nat) : List Bool := [allB [decide (smN [[.n a, .n p], [.n b, .n q]] = smN [[.n b, .n q], [.n a, .n p]])],
  allB [decide (smN [[.n a, .n (smN [[.n (Int.toNat 1), .n p], [.n (Int.toNat 1), .n q]])]] = smN [[.n a, .n p], [.n a, .n q]])],
  allB [decide (smN [[.n (bif okS a && okS b then addL a b else 0), .n p]] = smN [[.n a, .n p], [.n b, .n p]])],
  allB [decide (smN [[.n (bif okS a && okS b then mulL a b else 0), .n p]] = smN [[.n a, .n (smN [[.n b, .n p]])]])],
  allB [decide (smN [[.n (bif okS a && okS a then subL a a else 0), .n p]] = 0)],
  allB [decide (smN [[.n (Int.toNat 1), .n p]] = p)]]
theorem ok1 : okS 1 = true := okS_iff.2 (by unfold lP; decide)
theorem okm (n : Nat) : okS (n % lP) = true := okS_iff.2 (Nat.mod_lt _ (by unfold lP; decide))
theorem allB_e {n m : Nat} (h : n = m) : allB [decide (n = m)] = true := decide_eq_true h
theorem mdC_t {a b p q : Nat} {P Q : E} (ha : okS a = true) (hb : okS b = true) (hp : Pt p P) (hq : Pt q Q) : allT (mdC a b p q) := by
  have h1 : Pt (smN [[.n (Int.toNat 1), .n p], [.n (Int.toNat 1), .n q]]) (P + Q) := by
    have := sm2_pt ok1 hp ok1 hq
    rw [E.mul_one, E.mul_one] at this
    exact this
  unfold mdC
  rw [ha, hb, Bool.and_self, cond_true, cond_true, cond_true]
  refine allTc (allB_e ?_) (allTc (allB_e ?_) (allTc (allB_e ?_) (allTc (allB_e ?_) (allTc (allB_e ?_) (allTc (allB_e ?_) allT0)))))
  · have := sm2_pt hb hq ha hp
    rw [E.add_comm] at this
    exact (sm2_pt ha hp hb hq).eq this (co_refl _)
  · have := sm1_pt ha h1
    rw [E.mul_add] at this
    exact this.eq (sm2_pt ha hp ha hq) (co_refl _)
  · rw [addL_eq]
    refine (sm1_pt (okm _) hp).eq (sm2_pt ha hp hb hp) ?_
    rw [← E.add_mul]
    exact co_mod hp.1 (Nat.mod_mod _ _)
  · rw [show mulL a b = a * b % lP from mulL_eq a b]
    have := sm1_pt ha (sm1_pt hb hp)
    rw [← E.mul_mul] at this
    refine (sm1_pt (okm _) hp).eq this ?_
    rw [Nat.mul_comm b a]
    exact co_mod hp.1 (Nat.mod_mod _ _)
  · rw [subL_eq]
    have := sm1_pt (a := 0) (okS_iff.2 (by unfold lP; decide)) hp
    exact this.eq Pt.zero (co_refl _)
  · have := sm1_pt ok1 hp
    rw [E.mul_one] at this
    exact this.eq hp (co_refl _)
theorem mod_t (a b x y : Nat) : treeMd (!okS a) (!okS b) (!decide ((bif okS a && okS b then 0 else 50 : Int) = 0)) (!decide ((bif okS a && okS a then 0 else 50 : Int) = 0)) (!rdecBP (rencP (rmapP x)))
    (!rdecBP (smN [[.n (Int.toNat 1), .n (rencP (rmapP x))], [.n (Int.toNat 1), .n (rencP (rmapP y))]])) (mdC a b (rencP (rmapP x)) (rencP (rmapP y))) = outV (vbool' true) := by
  cases ha : okS a with
  | false => rfl
  | true =>
    cases hb : okS b with
    | false => rfl
    | true =>
      obtain ⟨P, hP⟩ := Pt.map x
      obtain ⟨Q, hQ⟩ := Pt.map y
      obtain ⟨d1, _⟩ := hP.dec
      obtain ⟨d2, _⟩ := (sm2_pt ok1 hP ok1 hQ).dec
      have d2 : rdecBP (smN [[.n (Int.toNat 1), .n (rencP (rmapP x))], [.n (Int.toNat 1), .n (rencP (rmapP y))]]) = true := d2
      rw [d1, d2]
      exact treeL_t (mdC_t ha hb hP hQ)

def stMa (a b x y : Nat) (r : Bool) : St := ⟨[.junk, .junk, .junk, .junk, .one (.ptr 0 0), .one (.ptr 1 0), .one (.ptr 2 0), .one (.ptr 3 0), .one (.bool r)] ++ List.replicate 170 .junk,
  [some ⟨70, .ps [.pk .u8 8 32 a]⟩, some ⟨70, .ps [.pk .u8 8 32 b]⟩, some ⟨61, .ps [.pk .u8 8 64 x]⟩, some ⟨61, .ps [.pk .u8 8 64 y]⟩]⟩
noncomputable def stMb (a b p q pq ab bt ls : Nat) : St := ⟨[.junk, .junk, .junk, .junk, .one (.ptr 0 0), .one (.ptr 1 0), .junk, .junk, .one (.bool false), .one (.ptr 6 0), .one (.ptr 7 0), .one (.ptr 9 0), .one (.fn 58), .one (.ptr 12 0), .one (.ptr 14 0), .junk, .one (.ptr 16 0), .junk, .one (.ptr 18 0)] ++ List.replicate 160 .junk,
  [some ⟨70, .ps [.pk .u8 8 32 a]⟩, some ⟨70, .ps [.pk .u8 8 32 b]⟩, none, none, none, none, some ⟨66, .ps [.pk .u8 8 32 p]⟩, some ⟨66, .ps [.pk .u8 8 32 q]⟩, none, some ⟨70, .ps [.pk .u8 8 32 (1 : Int).toNat]⟩, none, none,
   some ⟨66, .ps [.pk .u8 8 32 pq]⟩, none, some ⟨70, .ps [.pk .u8 8 32 ab]⟩, none, some ⟨70, .ps [.pk .u8 8 32 bt]⟩, none, some ⟨70, .ps [.pk .u8 8 32 ls]⟩]⟩
noncomputable abbrev mdD (a b p q pq ab bt ls : Nat) : List Bool := [allB [decide (smN [[.n a, .n p], [.n b, .n q]] = smN [[.n b, .n q], [.n a, .n p]])],
  allB [decide (smN [[.n a, .n pq]] = smN [[.n a, .n p], [.n a, .n q]])],
  allB [decide (smN [[.n ab, .n p]] = smN [[.n a, .n p], [.n b, .n p]])],
  allB [decide (smN [[.n bt, .n p]] = smN [[.n a, .n (smN [[.n b, .n p]])]])],
  allB [decide (smN [[.n ls, .n p]] = 0)],
  allB [decide (smN [[.n (Int.toNat 1), .n p]] = p)]]

noncomputable def sAlgebraModuleF : List D → Option (List Bool × V)
  | [.n _, .n _, .n _, .n _] => some ([], vbool' true)
  | _ => none
noncomputable def sAlgebraModule : FSpec := spec [tb32, tb32, tb64, tb64] sAlgebraModuleF
noncomputable abbrev tabAlgebraModule : List (FuncId × FSpec) := [(48, sAPlus), (49, sAMinus), (50, sATimes), (42, sAIsScalar), (40, sAIsPoint), (59, sAIdentity), (46, sAMap), (56, sAOf), (37, sKnown5), (58, sSm1)]
set_option maxRecDepth 100000 in
theorem tabokAlgebraModule : TabOK Try.prog (tabOf tabAlgebraModule) := (.cons ok_APlus (.cons ok_AMinus (.cons ok_ATimes (.cons ok_AIsScalar (.cons ok_AIsPoint (.cons ok_AIdentity (.cons ok_AMap (.cons ok_AOf (.cons ok_Known5 (.cons ok_Sm1 .nil))))))))))
set_option maxRecDepth 100000 in
theorem ok_AlgebraModule : FnOK Try.prog 16 sAlgebraModule := by
  refine fn_flat (cx := mkcx tabAlgebraModule) (c := bodyOf Try.f16) Try.func16 (by kernel_rfl) (by kernel_rfl) rfl ?_
  intro ds chk v vs hF ht he hr base
  unfold sAlgebraModuleF at hF
  split at hF
  · rename_i a b x y
    cases hF
    have hvs : vs = [vb32 a, vb32 b, vb64 x, vb64 y] := by simp only [encA, encV, encP, encL, Option.some.injEq] at he; exact he.symm
    subst hvs
    have h0 : evLS (mkcx tabAlgebraModule) 100 ((items (bodyOf Try.f16)).take 3) ⟨t0 Try.f16 [vb32 a, vb32 b, vb64 x, vb64 y], []⟩ (kfg 0 [4, 5, 6, 7, 8] [0, 1, 2, 3] 4) =
      bif !okS a then .done .ret (stMa a b x y true) else bif !okS b then .done .ret (stMa a b x y true) else .done .normal (stMa a b x y false) := by kernel_rfl
    cases ha : okS a with
    | false =>
      rw [ha] at h0
      exact Runs.items _ _ _ (RunsL.preS (mkok tabokAlgebraModule) (k := 3) h0 ⟨_, [], (by kernel_rfl), VEnt.refl _, trivial⟩)
    | true =>
      rw [ha] at h0
      cases hb : okS b with
      | false =>
        rw [hb] at h0
        exact Runs.items _ _ _ (RunsL.preS (mkok tabokAlgebraModule) (k := 3) h0 ⟨_, [], (by kernel_rfl), VEnt.refl _, trivial⟩)
      | true =>
        rw [hb] at h0
        refine Runs.items _ _ _ (RunsL.preS (mkok tabokAlgebraModule) (k := 3) h0 ?_)
        have h1 : evLS (mkcx tabAlgebraModule) 100 (((items (bodyOf Try.f16)).drop 3).take 9) (stMa a b x y false) (kfg 0 [4, 5, 8, 9, 10, 11, 12, 13, 14, 16, 18] [0, 1, 6, 7, 9, 12, 14, 16, 18] 19) =
          bif !decide ((bif okS a && okS b then 0 else 50 : Int) = 0) then .done .ret (stMb a b (rencP (rmapP x)) (rencP (rmapP y)) (smN [[.n (Int.toNat 1), .n (rencP (rmapP x))], [.n (Int.toNat 1), .n (rencP (rmapP y))]]) (bif okS a && okS b then addL a b else 0) (bif okS a && okS b then mulL a b else 0) (bif okS a && okS a then subL a a else 0)) else bif !decide ((bif okS a && okS b then 0 else 50 : Int) = 0) then .done .ret (stMb a b (rencP (rmapP x)) (rencP (rmapP y)) (smN [[.n (Int.toNat 1), .n (rencP (rmapP x))], [.n (Int.toNat 1), .n (rencP (rmapP y))]]) (bif okS a && okS b then addL a b else 0) (bif okS a && okS b then mulL a b else 0) (bif okS a && okS a then subL a a else 0)) else bif !decide ((bif okS a && okS a then 0 else 50 : Int) = 0) then .done .ret (stMb a b (rencP (rmapP x)) (rencP (rmapP y)) (smN [[.n (Int.toNat 1), .n (rencP (rmapP x))], [.n (Int.toNat 1), .n (rencP (rmapP y))]]) (bif okS a && okS b then addL a b else 0) (bif okS a && okS b then mulL a b else 0) (bif okS a && okS a then subL a a else 0)) else bif !rdecBP (rencP (rmapP x)) then .done .ret (stMb a b (rencP (rmapP x)) (rencP (rmapP y)) (smN [[.n (Int.toNat 1), .n (rencP (rmapP x))], [.n (Int.toNat 1), .n (rencP (rmapP y))]]) (bif okS a && okS b then addL a b else 0) (bif okS a && okS b then mulL a b else 0) (bif okS a && okS a then subL a a else 0)) else bif !rdecBP (smN [[.n (Int.toNat 1), .n (rencP (rmapP x))], [.n (Int.toNat 1), .n (rencP (rmapP y))]]) then .done .ret (stMb a b (rencP (rmapP x)) (rencP (rmapP y)) (smN [[.n (Int.toNat 1), .n (rencP (rmapP x))], [.n (Int.toNat 1), .n (rencP (rmapP y))]]) (bif okS a && okS b then addL a b else 0) (bif okS a && okS b then mulL a b else 0) (bif okS a && okS a then subL a a else 0)) else .done .normal (stMb a b (rencP (rmapP x)) (rencP (rmapP y)) (smN [[.n (Int.toNat 1), .n (rencP (rmapP x))], [.n (Int.toNat 1), .n (rencP (rmapP y))]]) (bif okS a && okS b then addL a b else 0) (bif okS a && okS b then mulL a b else 0) (bif okS a && okS a then subL a a else 0)) := by kernel_rfl
        obtain ⟨P, hP⟩ := Pt.map x
        obtain ⟨Q, hQ⟩ := Pt.map y
        have hl := mdC_t ha hb hP hQ
        obtain ⟨d1, _⟩ := hP.dec
        obtain ⟨d2, _⟩ := (sm2_pt ok1 hP ok1 hQ).dec
        have d2 : rdecBP (smN [[.n (Int.toNat 1), .n (rencP (rmapP x))], [.n (Int.toNat 1), .n (rencP (rmapP y))]]) = true := d2
        rw [d1, d2, ha, hb] at h1
        refine RunsL.preS (mkok tabokAlgebraModule) (k := 9) (e := .normal) h1 ?_
        unfold mdC at hl
        rw [ha, hb] at hl
        generalize (rencP (rmapP x)) = p at *
        generalize (rencP (rmapP y)) = q at *
        generalize smN [[.n (Int.toNat 1), .n p], [.n (Int.toNat 1), .n q]] = pq at *
        try dsimp only [Bool.and_self, cond_true] at hl
        try dsimp only [Bool.and_self, cond_true]
        generalize addL a b = ab at *
        generalize mulL a b = bt at *
        generalize subL a a = ls at *
        exact runsL_evS (mkok tabokAlgebraModule) (n := 400) (bs0 := []) (h := Eq.trans (b := treeL (mdD a b p q pq ab bt ls)) (by kernel_rfl) (treeL_t hl)) (VEnt.refl _) trivial
  · cases hF
end Go.Proofs.Ytpoikjcgdojjjaa
