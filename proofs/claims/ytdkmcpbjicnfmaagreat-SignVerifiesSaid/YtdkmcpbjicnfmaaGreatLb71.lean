/-
  The law's known signature, worked out.
-/
import Derived.Test.YtdkmcpbjicnfmaaGreatLb70
namespace Go.Proofs.YtdkmcpbjicnfmaaGreat
open Go Vx Go.RowKit

def greatC (s : Nat) (x : List (List D)) : Nat := hpackW (blkN k512 (blw x) (w8of s)).toL
def greatsC (s : Nat) (p : List (List D)) : Nat → Nat
  | 0 => s
  | i + 1 => greatC (greatsC s p i) ((p.drop (128 * i)).take 128)
def shaC (x : List (List D)) : Nat := outN (greatsC (hpackW k512.h) (hrestL 128 16 x (x.length : Nat)) ((hrestL 128 16 x (x.length : Nat)).length / 128))
theorem greatN_C (s : Nat) (x : List (List D)) : greatN s x = greatC s x := by unfold greatN; rw [seal_eq]; rfl
theorem greatsN_C (s : Nat) (p : List (List D)) : ∀ i, greatsN s p i = greatsC s p i
  | 0 => rfl
  | i + 1 => by rw [greatsN, greatsC, greatsN_C s p i, greatN_C]
theorem sha_C (x : List (List D)) : sha512N x = shaC x := by unfold sha512N; rw [seal_eq, greatsN_C]; rfl
abbrev abcL : List (List D) := [[.i 97], [.i 98], [.i 99]]
abbrev abdL : List (List D) := [[.i 97], [.i 98], [.i 100]]
theorem pt_mul {n c : Nat} (h : Pt n (E.mul c bE)) : n = encC (mulC4 c baseC) := by
  obtain ⟨P, h1, h2, _⟩ := base_rep
  have hb : Pt bN P := Pt.of h1 h2
  have hc : Co P bE := (hb.eq_iff bE_pt).1 rfl
  have h3 : Pt (rencP (mulC4 c (baseP ()))) (E.mul c P) := Pt.of (mulC4_rep c h1) (ev_mulE h2 _)
  have h4 := h.eq h3 (co_symm (co_mul hc c))
  rw [h4, rencP_C, baseP_C]
abbrev pb5 : Nat := 35711617013263642786200824652404949926957298723655034617396250384949589410536
abbrev k5 : Nat := 6435900126731163509797400637586497588703353019878708609095365614219859618364
abbrev r5 : Nat := 57508903943393600895749509425442319287243818866879131272463261763848326966948
theorem ok5 : okS 5 = true := okS_iff.2 (by unfold lP; decide)
theorem pub5C : encC (mulC4 5 baseC) = pb5 := by decide +kernel
theorem non5C : shaC (nonceL 5 abcL) % lP = k5 := by decide +kernel
theorem com5C : encC (mulC4 k5 baseC) = r5 := by decide +kernel
theorem cha5C : shaC (askL (chalL pb5 r5 abdL) 2 (ofStr sChallenge)) % lP ≠ shaC (askL (chalL pb5 r5 abcL) 2 (ofStr sChallenge)) % lP := by decide +kernel
theorem pub5 : pubN 5 = pb5 := by rw [pt_mul (pub_pt ok5 (by decide)).2, pub5C]
theorem non5 : nonceN 5 abcL = k5 := by
  have h : nonceK 5 abcL = k5 := by unfold nonceK; rw [restP_mod, sha_C, non5C]
  unfold nonceN
  rw [h]
  exact congrArg (fun b => bif b then 1 else k5) (decide_eq_false (by decide))
theorem com5 : sgR 5 abcL = r5 := by
  have h := sgR_pt 5 abcL
  rw [non5] at h
  rw [pt_mul h, com5C]
theorem cha5 : chalN (pubN 5) (sgR 5 abcL) abdL ≠ sgC 5 abcL := by
  unfold sgC
  rw [pub5, com5, chalN_eq, chalN_eq, restP_mod, restP_mod, sha_C, sha_C]
  exact cha5C
def known12O (e f v w : Int) : Out := bif decide (e = 0) then bif decide (f = 0) then bif decide (v = 0) then outV (vbool' (decide (w = 120))) else outV (vbool' false) else outV (vbool' false) else outV (vbool' false)
theorem known12_t (e f v w : Int) (h1 : e = 0) (h2 : f = 0) (h3 : v = 0) (h4 : w = 120) : known12O e f v w = outV (vbool' true) := by subst h1; subst h2; subst h3; subst h4; rfl

noncomputable def sKnown12F : List D → Option (List Bool × V)
  | [] => some ([], vbool' true)
  | _ => none
noncomputable def sKnown12 : FSpec := spec [] sKnown12F
noncomputable abbrev tabKnown12 : List (FuncId × FSpec) := [(57, sAOf), (24, sGPublic), (25, sGSign), (29, sGVerify)]
set_option maxRecDepth 100000 in
theorem tabokKnown12 : TabOK Tryz.prog (tabOf tabKnown12) := (.cons ok_AOf (.cons ok_GPublic (.cons ok_GSign (.cons ok_GVerify .nil))))
noncomputable abbrev ilKnown12 : List (FuncId × Func) := []
set_option maxRecDepth 100000 in
theorem ilokKnown12 : IlOK Tryz.prog (ilTab ilKnown12) := IlOK.nil
set_option maxRecDepth 100000 in
theorem ok_Known12 : FnOK Tryz.prog 22 sKnown12 := by
  refine fn_flat (cx := mkcf true false tabKnown12 ilKnown12 []) (c := bodyOf Tryz.f22) Tryz.func22 (by kernel_rfl) (by kernel_rfl) rfl ?_
  intro ds chk v vs hF ht he hr base
  unfold sKnown12F at hF
  split at hF
  · cases hF
    have hvs : vs = [] := by simp only [encA, Option.some.injEq] at he; exact he.symm
    subst hvs
    have hev : evS (mkcf true false tabKnown12 ilKnown12 []) 400 (bodyOf Tryz.f22) ⟨t0 Tryz.f22 [], []⟩ (kres (mkcf true false tabKnown12 ilKnown12 []) Tryz.f22 base) = known12O (pubE 5) (bif decide (sgBad 5 abcL = 0) then sgF 5 abcL else sgBad 5 abcL) (verE (pubN 5) abcL (bif decide (sgBad 5 abcL = 0) then sgR 5 abcL else 0) (bif decide (sgBad 5 abcL = 0) then sgS 5 abcL else 0)) (verE (pubN 5) abdL (bif decide (sgBad 5 abcL = 0) then sgR 5 abcL else 0) (bif decide (sgBad 5 abcL = 0) then sgS 5 abcL else 0)) := by kernel_rfl
    have h0 : (5 : Nat) ≠ 0 := by decide
    have hb : sgBad 5 abcL = 0 := sgBad_ok ok5 h0 (by decide)
    have h1 := (pub_pt ok5 h0).1
    have h3 : verE (pubN 5) abcL (sgR 5 abcL) (sgS 5 abcL) = 0 := sg_taken ok5 h0 (by decide)
    have h4 : verE (pubN 5) abdL (sgR 5 abcL) (sgS 5 abcL) = 120 := sg_unlike ok5 h0 (by decide) cha5
    rw [hb, decide_eq_true (rfl : (0 : Int) = 0), cond_true, cond_true, cond_true, known12_t _ _ _ _ h1 (sgS_eq ok5 abcL).2 h3 h4] at hev
    exact runs_evS (mkokf (sy := true) (rw := false) tabokKnown12 ilokKnown12 JsOK.nil) (bs0 := []) hev (VEnt.refl _) trivial
  · cases hF
end Go.Proofs.YtdkmcpbjicnfmaaGreat
