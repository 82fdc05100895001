/-
  The law RelateExtracts answers true.
-/
import Derived.Test.YtdkmcpbjicnfmaaLb88
import Derived.Test.YtdkmcpbjicnfmaaL8
namespace Go.Proofs.Ytdkmcpbjicnfmaa
open Go Vx Go.RowKit

noncomputable abbrev ivL (v : Nat) : Nat := bif okS v && !allB [decide (v = 0)] then powL v 7237005577332262213973186563042994240857116359379907606001950938285454250987 else 0
noncomputable abbrev exC (c d s t p x : Nat) : List Bool := [decide (erL 0 c = 0), decide (erL 0 d = 0), decide (sumE [[.n s, .n p], [.n (mnL 0 c), .n x]] = 0), decide (sumE [[.n t, .n p], [.n (mnL 0 d), .n x]] = 0), decide (erL s t = 0), decide (erL c d = 0),
  decide ((bif okS (mnL c d) && !allB [decide (mnL c d = 0)] then 0 else 50 : Int) = 0), decide (erL (mnL s t) (ivL (mnL c d)) = 0), decide (sumE [[.n (wwL (mnL s t) (ivL (mnL c d))), .n p]] = 0)]
theorem ivL_eq {v : Nat} (hv : okS v = true) (h : v ≠ 0) : ivL v = powL v 7237005577332262213973186563042994240857116359379907606001950938285454250987 := by unfold ivL; rw [hv, show allB [decide (v = 0)] = false from decide_eq_false h]; rfl
theorem ex_t {c d s t : Nat} (hc : okS c = true) (hd : okS d = true) (hs : okS s = true) (ht : okS t = true) (hne : c ≠ d) {p x : Nat} {P X : E} (hp : Pt p P) (hx : Pt x X) :
    chF (exC c d s t p x) (allB [decide (sumN [[.n s, .n p], [.n (mnL 0 c), .n x]] = sumN [[.n t, .n p], [.n (mnL 0 d), .n x]])] == allB [decide (sumN [[.n (wwL (mnL s t) (ivL (mnL c d))), .n p]] = x)]) = outV (vbool' true) := by
  obtain ⟨h1, h2, h3, h4, h5⟩ := extr hc hd hs ht hne hp hx
  have hio : okS (powL (subN c d) 7237005577332262213973186563042994240857116359379907606001950938285454250987) = true := okS_iff.2 (powL_lt _ _)
  have e1 := mnL_eq ok_zero hc
  have e2 := mnL_eq ok_zero hd
  have e3 := mnL_eq hs ht
  have e4 := mnL_eq hc hd
  have e5 : ivL (mnL c d) = powL (subN c d) 7237005577332262213973186563042994240857116359379907606001950938285454250987 := by rw [e4, ivL_eq (subN_ok c d) h3]
  have e6 : wwL (mnL s t) (ivL (mnL c d)) = restP (restP (subN s t) * restP (powL (subN c d) 7237005577332262213973186563042994240857116359379907606001950938285454250987)) := by rw [e3, e5, wwL_eq (subN_ok s t) hio]
  refine chF_t ?_ ?_
  · unfold exC
    rw [e6, e5, e4, e3, e2, e1, h1, h2, h4, erL_eq ok_zero hc, erL_eq ok_zero hd, erL_eq hs ht, erL_eq hc hd, erL_eq (subN_ok s t) hio, subN_ok, show allB [decide (subN c d = 0)] = false from decide_eq_false h3]
    exact allTc rfl (allTc rfl (allTc dec_self (allTc dec_self (allTc rfl (allTc rfl (allTc rfl (allTc rfl (allTc dec_self allT0))))))))
  · rw [e6, e1, e2]
    show (decide (sumN [[.n s, .n p], [.n (subN 0 c), .n x]] = sumN [[.n t, .n p], [.n (subN 0 d), .n x]]) == decide (sumN [[.n (restP (restP (subN s t) * restP (powL (subN c d) 7237005577332262213973186563042994240857116359379907606001950938285454250987))), .n p]] = x)) = true
    rw [h5]
    exact beq_self_eq_true _
def treeEx (k1 k2 k3 k4 q : Bool) (o : Out) : Out := bif !k1 then outV (vbool' true) else bif !k2 then outV (vbool' true) else bif !k3 then outV (vbool' true) else bif !k4 then outV (vbool' true) else bif q then outV (vbool' true) else o
theorem treeEx_t {k1 k2 k3 k4 q : Bool} {o : Out} (h : k1 = true → k2 = true → k3 = true → k4 = true → q = false → o = outV (vbool' true)) : treeEx k1 k2 k3 k4 q o = outV (vbool' true) := by
  cases k1 <;> cases k2 <;> cases k3 <;> cases k4 <;> cases q <;> first | rfl | exact h rfl rfl rfl rfl rfl

noncomputable def sRelateExtractsF : List D → Option (List Bool × V)
  | [.n _, .n _, .n _, .n _, .n _, .n _] => some ([], vbool' true)
  | _ => none
noncomputable def sRelateExtracts : FSpec := spec [tb64, tb64, tb32, tb32, tb32, tb32] sRelateExtractsF
noncomputable abbrev tabRelateExtracts : List (FuncId × FSpec) := [(25, sAOf), (27, sAMap), (23, sAIsScalar), (29, sAMinus), (24, sASum), (32, sAInverse), (30, sATimes), (26, sKnown11)]
set_option maxRecDepth 100000 in
theorem tabokRelateExtracts : TabOK Try.prog (tabOf tabRelateExtracts) := (.cons ok_AOf (.cons ok_AMap (.cons ok_AIsScalar (.cons ok_AMinus (.cons ok_ASum (.cons ok_AInverse (.cons ok_ATimes (.cons ok_Known11 .nil))))))))
noncomputable abbrev ilRelateExtracts : List (FuncId × Func) := []
set_option maxRecDepth 100000 in
theorem ilokRelateExtracts : IlOK Try.prog (ilTab ilRelateExtracts) := IlOK.nil
set_option maxRecDepth 100000 in
theorem ok_RelateExtracts : FnOK Try.prog 8 sRelateExtracts := by
  refine fn_flat (cx := mkcf true false tabRelateExtracts ilRelateExtracts []) (c := bodyOf Try.f8) Try.func8 (by kernel_rfl) (by kernel_rfl) rfl ?_
  intro ds chk v vs hF ht he hr base
  unfold sRelateExtractsF at hF
  split at hF
  · rename_i b l c d s t
    cases hF
    have hvs : vs = [vb64 b, vb64 l, vb32 c, vb32 d, vb32 s, vb32 t] := by simp only [encA, encV, encP, encL, Option.some.injEq] at he; exact he.symm
    subst hvs
    have hev : evS (mkcf true false tabRelateExtracts ilRelateExtracts []) 400 (bodyOf Try.f8) ⟨t0 Try.f8 [vb64 b, vb64 l, vb32 c, vb32 d, vb32 s, vb32 t], []⟩ (kres (mkcf true false tabRelateExtracts ilRelateExtracts []) Try.f8 base) = treeEx (okS c) (okS d) (okS s) (okS t) (allB [decide (c = d)]) (chF (exC c d s t (rencP (rmapP b)) (rencP (rmapP l)))
      (allB [decide (sumN [[.n s, .n (rencP (rmapP b))], [.n (mnL 0 c), .n (rencP (rmapP l))]] = sumN [[.n t, .n (rencP (rmapP b))], [.n (mnL 0 d), .n (rencP (rmapP l))]])] == allB [decide (sumN [[.n (wwL (mnL s t) (ivL (mnL c d))), .n (rencP (rmapP b))]] = rencP (rmapP l))])) := by kernel_rfl
    rw [treeEx_t] at hev
    · exact runs_evS (mkokf (sy := true) (rw := false) tabokRelateExtracts ilokRelateExtracts JsOK.nil) (bs0 := []) hev (VEnt.refl _) trivial
    · intro hc hd hs ht hq
      obtain ⟨P, hP⟩ := Pt.map b
      obtain ⟨X, hX⟩ := Pt.map l
      exact ex_t hc hd hs ht (fun h => by rw [h] at hq; rw [show allB [decide (d = d)] = true from decide_eq_true rfl] at hq; cases hq) hP hX
  · cases hF
end Go.Proofs.Ytdkmcpbjicnfmaa
