/-
  The law MintReads answers true.
-/
import Derived.Test.YteohgdpkdbckoaaLb108
namespace Go.Proofs.Yteohgdpkdbckoaa
open Go Vx Go.RowKit

/-- What a law lends: the same elements (of s bytes), with one behind them; what stays of it. -/
abbrev jz : Nat := (0 : Int).toNat
abbrev jtL (e : List D) (m : List (List D)) : List (List D) := List.take (0 + m.length) ([] ++ m) ++ [e]
abbrev jiL (e : List D) (m : List (List D)) : List (List D) := List.take (((m.length : Nat) : Int).toNat - jz) (List.drop (0 + jz) (jtL e m))
theorem jtL_eq (e : List D) (m : List (List D)) : jtL e m = m ++ [e] := by
  unfold jtL
  rw [List.nil_append, Nat.zero_add, List.take_length]
theorem jiL_eq (e : List D) (m : List (List D)) : jiL e m = m := by
  unfold jiL
  rw [jtL_eq, Int.toNat_natCast]
  show List.take m.length (m ++ [e]) = m
  exact List.take_left' rfl
noncomputable abbrev jiC (e : List D) (m : List (List D)) : Bool := decide (0 + jz + (((m.length : Nat) : Int).toNat - jz) ≤ (jtL e m).length)
noncomputable abbrev jlC (s : Nat) (e : List D) (m : List (List D)) : List Bool := [decide ((0 + m.length) * s ≤ 140737488355328), decide (0 + m.length < 4611686018427387904), decide (0 + m.length ≤ ([] ++ m : List (List D)).length), decide (0 + m.length ≤ 0 + m.length),
  decide ((0 + m.length + [e].length) * s ≤ 140737488355328), decide (0 + m.length + [e].length < 4611686018427387904), okK .i64 (m.length : Nat), decide (((m.length : Nat) : Int) ≤ ((0 + m.length + [e].length : Nat) : Int))]
noncomputable abbrev jkC (e : List D) (m : List (List D)) : List Bool := [okK .i64 (m.length : Nat), okK .i64 (((m.length : Nat) : Int) + 1), decide (((m.length : Nat) : Int) + 1 ≤ ((0 + m.length + [e].length - jz : Nat) : Int)), okK .i64 (m.length : Nat),
  decide (((m.length : Nat) : Int) < (((((m.length : Nat) : Int) + 1).toNat - jz : Nat) : Int)), decide (0 + jz + jz + ((m.length : Nat) : Int).toNat < (jtL e m).length)]
abbrev jlast (e : List D) (m : List (List D)) : List D := (jtL e m).getD (0 + jz + jz + ((m.length : Nat) : Int).toNat) []
theorem jlast_eq (e : List D) (m : List (List D)) : jlast e m = e := by
  unfold jlast
  rw [jtL_eq, Int.toNat_natCast]
  show (m ++ [e]).getD (0 + 0 + 0 + m.length) [] = e
  rw [show 0 + 0 + 0 + m.length = m.length by omega, List.getD_eq_getElem?_getD, List.getElem?_append_right (Nat.le_refl _), Nat.sub_self]
  rfl
theorem jtL_len (e : List D) (m : List (List D)) : (jtL e m).length = m.length + 1 := by rw [jtL_eq]; simp
theorem jiC_t (e : List D) (m : List (List D)) : jiC e m = true := by
  rw [decide_eq_true_iff, jtL_len, Int.toNat_natCast]
  show 0 + 0 + (m.length - 0) ≤ _
  omega
theorem jlC_t {s : Nat} {e : List D} {m : List (List D)} (hm : (m.length + 1) * s ≤ 140737488355328) (h2 : m.length + 1 < 4611686018427387904) : allT (jlC s e m) := by
  refine allTc ?_ (allTc ?_ (allTc ?_ (allTc ?_ (allTc ?_ (allTc ?_ (allTc (okI (by omega) (by omega)) (allT1 ?_)))))))  <;> rw [decide_eq_true_iff]
  · rw [Nat.zero_add]; exact Nat.le_trans (Nat.mul_le_mul_right s (Nat.le_succ _)) hm
  · omega
  · rw [List.nil_append]; omega
  · omega
  · show (0 + m.length + 1) * s ≤ _
    rw [Nat.zero_add]; exact hm
  · show 0 + m.length + 1 < _
    omega
  · show ((m.length : Nat) : Int) ≤ ((0 + m.length + 1 : Nat) : Int)
    omega
theorem jkC_t {e : List D} {m : List (List D)} (h2 : m.length + 1 < 4611686018427387904) : allT (jkC e m) := by
  have hi : okK .i64 (m.length : Nat) = true := okI (by omega) (by omega)
  refine allTc hi (allTc (okI (by omega) (by omega)) (allTc ?_ (allTc hi (allTc ?_ (allT1 ?_))))) <;> rw [decide_eq_true_iff]
  · show ((m.length : Nat) : Int) + 1 ≤ ((0 + m.length + 1 - 0 : Nat) : Int)
    omega
  · show ((m.length : Nat) : Int) < (((((m.length : Nat) : Int) + 1).toNat - 0 : Nat) : Int)
    omega
  · rw [jtL_len, Int.toNat_natCast]
    show 0 + 0 + 0 + m.length < _
    omega
noncomputable abbrev oT13 : Out := outV (vbool' true)
noncomputable abbrev oF13 : Out := outV (vbool' false)

noncomputable def sMintReadsF : List D → Option (List Bool × V)
  | [.l _] => some ([], vbool' true)
  | _ => none
noncomputable def sMintReads : FSpec := spec [tby] sMintReadsF
noncomputable abbrev tabMintReads : List (FuncId × FSpec) := [(10, sHMRead), (11, sRMRead), (8, sKnown13)]
set_option maxRecDepth 100000 in
theorem tabokMintReads : TabOK Try.prog (tabOf tabMintReads) := (.cons ok_HMRead (.cons ok_RMRead (.cons ok_Known13 .nil)))
noncomputable abbrev ilMintReads : List (FuncId × Func) := []
set_option maxRecDepth 100000 in
theorem ilokMintReads : IlOK Try.prog (ilTab ilMintReads) := IlOK.nil
set_option maxRecDepth 100000 in
theorem ok_MintReads : FnOK Try.prog 4 sMintReads := by
  refine fn_flat (cx := mkcf true true tabMintReads ilMintReads []) (c := bodyOf Try.f4) Try.func4 (by kernel_rfl) (by kernel_rfl) rfl ?_
  intro ds chk v vs hF ht he hr base
  unfold sMintReadsF at hF
  split at hF
  · rename_i x
    cases hF
    have hvs : vs = [vby x] := by simp only [encA, encV, encP, encL, Option.some.injEq] at he; exact he.symm
    subst hvs
    obtain ⟨hrng, _⟩ := hr
    have hmx : x.length < 9223372036854775808 := Nat.lt_of_le_of_lt hrng.1 (by decide)
    have hev : evS (mkcf true true tabMintReads ilMintReads []) 400 (bodyOf Try.f4) ⟨t0 Try.f4 [vby x], []⟩ (kres (mkcf true true tabMintReads ilMintReads []) Try.f4 base) = chks [okK .i64 (x.length : Nat)] (bif decide ((1000 : Int) < (x.length : Nat)) then oT13 else chks (jlC 1 [.i 77] x ++ [jiC [.i 77] x])
      (bif allB [decide (rdN (jiL [.i 77] x) 0 = rdN x 0), decide (rdN (jiL [.i 77] x) 1 = rdN x 1), decide (rdN (jiL [.i 77] x) 2 = rdN x 2), decide (rdN (jiL [.i 77] x) 3 = rdN x 3), decide (rdN (jiL [.i 77] x) 4 = rdN x 4), decide (rdN (jiL [.i 77] x) 5 = rdN x 5), decide (rdN (jiL [.i 77] x) 6 = rdN x 6), decide (rdN (jiL [.i 77] x) 7 = rdN x 7), decide (rdN (jiL [.i 77] x) 8 = rdN x 8)] then (bif decide (rdE (jiL [.i 77] x) = rdE x) then chks [jiC [.i 77] x] (bif decide ((toStr (jiL [.i 77] x)).toList = (toStr x).toList) then chks (jkC [.i 77] x) (bif decide (((jlast [.i 77] x).headD (.n 0)).toI = 77) then oT13 else oF13) else oF13) else oF13) else oF13)) := by kernel_rfl
    have hi : okK .i64 (x.length : Nat) = true := okI (by omega) (by omega)
    rw [chks_true (allT1 hi)] at hev
    by_cases h : x.length ≤ 1000
    · rw [decide_eq_false (by omega), cond_false, chks_true (allT_app (jlC_t (by omega) (by omega)) (allT1 (jiC_t _ _))), chks_true (allT1 (jiC_t _ _)), chks_true (jkC_t (by omega)), jiL_eq, jlast_eq] at hev
      exact runs_evS (mkokf (sy := true) (rw := true) tabokMintReads ilokMintReads JsOK.nil) (n := 400) (bs0 := []) (hev.trans (by simp only [eq_self, decide_true]; rfl)) (VEnt.refl _) trivial
    · rw [decide_eq_true (by omega), cond_true] at hev
      exact runs_evS (mkokf (sy := true) (rw := true) tabokMintReads ilokMintReads JsOK.nil) (n := 400) (bs0 := []) hev (VEnt.refl _) trivial
  · cases hF
end Go.Proofs.Yteohgdpkdbckoaa
