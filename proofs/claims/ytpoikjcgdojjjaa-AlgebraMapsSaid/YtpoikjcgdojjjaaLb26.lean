/-
  Contracts of the document's numbers: the root of a quotient; its numbers are the program's.
-/
import Derived.Test.YtpoikjcgdojjjaaLb25
namespace Go.Proofs.Ytpoikjcgdojjjaa
open Go Vx Go.RowKit

abbrev tqt : Ty := .ag [.pk .u64 32 8, .pk .u64 32 8, .pk .u64 32 8]
abbrev vqt (x y z : Nat) : V := .u (.ag (.ps [.pk .u64 32 8 x, .pk .u64 32 8 y, .pk .u64 32 8 z]))
abbrev uqt (x y z : Nat) : U := .ag (.ps [.pk .u64 32 8 x, .pk .u64 32 8 y, .pk .u64 32 8 z])
def unm0 : U := .ag (.ps [z0, z0, z0, z0, z0, z0, z0, z0])
theorem unm0_ent : UEnt unm0 (unm 0) := UEnt.of (ent_dl (e := fun _ => 0) (n := 0) (fun _ => ⟨by decide, by decide⟩) (by simp [psum]))
noncomputable def nr0 (u v : Nat) : Nat × Bool := bif decide (u = 0) then (0, true) else bif decide (v = 0) then (0, false) else bif rtB (mulP u (invP v)) then (absN (rtX (mulP u (invP v))), true) else (absN (rtX (mulP (mulP u (invP v)) iP)), false)
noncomputable def nrR : Nat → Nat → Nat := hidden' fun u v => (nr0 u v).1
noncomputable def nrB : Nat → Nat → Bool := hidden' fun u v => (nr0 u v).2
theorem nrR_eq (u v : Nat) : nrR u v = (nr0 u v).1 := by unfold nrR; rw [seal_eq]
theorem nrB_eq (u v : Nat) : nrB u v = (nr0 u v).2 := by unfold nrB; rw [seal_eq]
def treeNRoot (a b c : Bool) (x y : Nat) : Out := bif a then outV (.tup [unm0, ubool true]) else bif b then outV (.tup [unm0, ubool false]) else bif c then outV (.tup [unm x, ubool true]) else outV (.tup [unm y, ubool false])
def valNRoot (a b c : Bool) (x y : Nat) : V := bif a then (.tup [unm0, ubool true]) else bif b then (.tup [unm0, ubool false]) else bif c then (.tup [unm x, ubool true]) else (.tup [unm y, ubool false])
theorem treeNRoot_eq (a b c : Bool) (x y : Nat) : treeNRoot a b c x y = outV (valNRoot a b c x y) := by cases a <;> cases b <;> cases c <;> rfl
theorem nroot_ent (u v : Nat) : VEnt (valNRoot (allB [decide (u = 0)]) (allB [decide (v = 0)]) (rtB (mulP u (invP v))) (absN (rtX (mulP u (invP v)))) (absN (rtX (mulP (mulP u (invP v)) iP)))) (.tup [unm (nrR u v), ubool (nrB u v)]) := by
  rw [nrR_eq, nrB_eq]
  unfold nr0
  simp only [allB]
  generalize absN (rtX (mulP u (invP v))) = x
  generalize absN (rtX (mulP (mulP u (invP v)) iP)) = y
  generalize rtB (mulP u (invP v)) = c
  cases decide (u = 0) with
  | true => exact VEnt.tup2 unm0_ent (UEnt.refl _)
  | false =>
    cases decide (v = 0) with
    | true => exact VEnt.tup2 unm0_ent (UEnt.refl _)
    | false => cases c <;> exact VEnt.refl _

noncomputable def sNRootF : List D → Option (List Bool × V)
  | [.n u, .n v] => some ([], .tup [unm (nrR u v), ubool (nrB u v)])
  | _ => none
noncomputable def sNRoot : FSpec := spec [tnm, tnm] sNRootF
noncomputable abbrev tabNRoot : List (FuncId × FSpec) := [(78, sNZero), (21, sNMul), (126, sNInv), (127, sNRt), (88, sNI)]
set_option maxRecDepth 100000 in
theorem tabokNRoot : TabOK Try.prog (tabOf tabNRoot) := (.cons ok_NZero (.cons ok_NMul (.cons ok_NInv (.cons ok_NRt (.cons ok_NI .nil)))))
set_option maxRecDepth 100000 in
theorem ok_NRoot : FnOK Try.prog 76 sNRoot := by
  refine fn_flat (cx := mkcx tabNRoot) (c := bodyOf Try.f76) Try.func76 (by kernel_rfl) (by kernel_rfl) rfl ?_
  intro ds chk v vs hF ht he hr base
  unfold sNRootF at hF
  split at hF
  · rename_i u v
    cases hF
    have hvs : vs = [vnm u, vnm v] := by simp only [encA, encV, encP, encL, Option.some.injEq] at he; exact he.symm
    subst hvs
    exact runs_evS (mkok tabokNRoot) (n := 200) (bs0 := []) (h := Eq.trans (b := treeNRoot (allB [decide (u = 0)]) (allB [decide (v = 0)]) (rtB (mulP u (invP v))) (absN (rtX (mulP u (invP v)))) (absN (rtX (mulP (mulP u (invP v)) iP)))) (by kernel_rfl) (treeNRoot_eq _ _ _ _ _)) (nroot_ent u v) trivial
  · cases hF

theorem zero_lt : 0 < pP := by decide
theorem negN_of {a : Nat} (h : a < pP) : negN a = negP a := by
  rw [negN_eq, negP_eq, if_pos (Nat.le_of_lt h), Nat.mod_eq_of_lt h]
theorem negN_lt (a : Nat) : negN a < pP := by
  rw [negN_eq]; split <;> exact Nat.mod_lt _ (by decide)
theorem oddN_of {a : Nat} (h : a < pP) : oddN a = oddP a := by rw [oddN_eq, oddP_eq, Nat.mod_eq_of_lt h]
theorem absN_of {a : Nat} (h : a < pP) : absN a = absP a := by
  unfold absN
  rw [oddN_of h, negN_of h, absP_eq, oddP_eq, negP_eq, Nat.mod_eq_of_lt h]
  by_cases ho : a % 2 = 1
  · rw [if_pos ho, decide_eq_true ho, cond_true]
  · rw [if_neg ho, decide_eq_false ho, cond_false]
theorem subN_of {a b : Nat} (h : b < pP) : addP a (negN b) = subP a b := by rw [negN_of h, subP_add]
theorem e3_K : e3 = e3K := rfl
theorem k_rtX {w : Nat} (h : w < pP) : k (rtX w) = rx (k w) ∧ rtX w < pP := by
  rw [rtX_eq]
  unfold rtX0 rx rxE
  have h1 : k (powP w e3) = k w ^ e3K := by rw [k_pow, e3_K]
  have h2 : powP w e3 < pP := powP_lt _ _
  rw [← h1]
  generalize powP w e3 = x at *
  have hd : decide (mulP x x = w) = decide (k x * k x = k w) := by
    refine decide_eq_decide.2 ?_
    rw [← k_mul]
    exact ⟨fun e => by rw [e], fun e => k_inj (mulP_lt _ _) h e⟩
  rw [hd]
  cases decide (k x * k x = k w) with
  | true => exact ⟨rfl, h2⟩
  | false => exact ⟨by simp only [cond_false, k_mul, k_iP], mulP_lt _ _⟩
theorem k_rtB {w : Nat} (h : w < pP) : rtB w = decide (rx (k w) * rx (k w) = k w) := by
  rw [rtB_eq]
  refine decide_eq_decide.2 ?_
  rw [← (k_rtX h).1, ← k_mul]
  exact ⟨fun e => by rw [e], fun e => k_inj (mulP_lt _ _) h e⟩
theorem k_eq0 {a : Nat} (h : a < pP) : decide (a = 0) = decide (k a = 0) := by
  refine decide_eq_decide.2 ⟨fun e => by rw [e]; rfl, fun e => k_inj h (by decide) e⟩
theorem bif3 (a b c : Bool) (x y : Nat) : k (bif a then ((0 : Nat), true) else bif b then (0, false) else bif c then (x, true) else (y, false)).1 = (bif a then 0 else bif b then 0 else bif c then k x else k y) ∧
    (bif a then ((0 : Nat), true) else bif b then (0, false) else bif c then (x, true) else (y, false)).2 = (bif a then true else bif b then false else c) ∧
    (x < pP → y < pP → (bif a then ((0 : Nat), true) else bif b then (0, false) else bif c then (x, true) else (y, false)).1 < pP) := by
  cases a <;> cases b <;> cases c <;> simp only [cond_true, cond_false, k_zero] <;> exact ⟨trivial, trivial, fun h1 h2 => by first | exact zero_lt | exact h1 | exact h2⟩
theorem nr_key {u v : Nat} (hu : u < pP) (hv : v < pP) : k (nrR u v) = nR rx (k u) (k v) ∧ nrB u v = nB rx (k u) (k v) ∧ nrR u v < pP := by
  have hx : k (rtX (mulP u (invP v))) = rx (k u * kinv (k v)) := by rw [(k_rtX (mulP_lt u (invP v))).1, k_mul, k_inv]
  have hy : k (rtX (mulP (mulP u (invP v)) iP)) = rx (k u * kinv (k v) * kI) := by rw [(k_rtX (mulP_lt (mulP u (invP v)) iP)).1, k_mul, k_mul, k_inv, k_iP]
  have hb : rtB (mulP u (invP v)) = decide (rx (k u * kinv (k v)) * rx (k u * kinv (k v)) = k u * kinv (k v)) := by rw [k_rtB (mulP_lt _ _), k_mul, k_inv]
  have hx' : k (absN (rtX (mulP u (invP v)))) = (rx (k u * kinv (k v))).abs := by rw [absN_of (k_rtX (mulP_lt u (invP v))).2, k_abs, hx]
  have hy' : k (absN (rtX (mulP (mulP u (invP v)) iP))) = (rx (k u * kinv (k v) * kI)).abs := by rw [absN_of (k_rtX (mulP_lt (mulP u (invP v)) iP)).2, k_abs, hy]
  have lx : absN (rtX (mulP u (invP v))) < pP := by rw [absN_of (k_rtX (mulP_lt u (invP v))).2]; exact absP_lt _
  have ly : absN (rtX (mulP (mulP u (invP v)) iP)) < pP := by rw [absN_of (k_rtX (mulP_lt (mulP u (invP v)) iP)).2]; exact absP_lt _
  obtain ⟨b1, b2, b3⟩ := bif3 (decide (u = 0)) (decide (v = 0)) (rtB (mulP u (invP v))) (absN (rtX (mulP u (invP v)))) (absN (rtX (mulP (mulP u (invP v)) iP)))
  rw [nrR_eq, nrB_eq]
  unfold nr0
  refine ⟨b1.trans ?_, b2.trans ?_, b3 lx ly⟩
  · rw [hx', hy', hb, k_eq0 hu, k_eq0 hv]
    unfold nR
    rfl
  · rw [hb, k_eq0 hu, k_eq0 hv]
    unfold nB
    rfl
theorem nroot_eq {u v : Nat} (hu : u < pP) (hv : v < pP) : nrR u v = rootR u v ∧ nrB u v = rootB u v := by
  obtain ⟨h2, h3⟩ := root_is u v
  obtain ⟨h4, h5⟩ := (nroot_is rx_sq (k u) (k v)).unique h2
  obtain ⟨k1, k2, k3⟩ := nr_key hu hv
  exact ⟨k_inj k3 h3 (k1.trans h4), k2.trans h5⟩
theorem nrR_of {u v : Nat} (hu : u < pP) (hv : v < pP) : nrR u v = rootR u v := (nroot_eq hu hv).1
theorem nrB_of {u v : Nat} (hu : u < pP) (hv : v < pP) : nrB u v = rootB u v := (nroot_eq hu hv).2
theorem rootR_lt (u v : Nat) : rootR u v < pP := (root_is u v).2
theorem iP_lt : iP < pP := by rw [iP_eq]; exact powP_lt _ _
theorem can1 : canP 1 = 1 := by rw [canP_eq]; decide
theorem can2 : canP 2 = 2 := by rw [canP_eq]; decide
theorem one_lt : 1 < pP := by decide
theorem two_lt : 2 < pP := by decide
end Go.Proofs.Ytpoikjcgdojjjaa
