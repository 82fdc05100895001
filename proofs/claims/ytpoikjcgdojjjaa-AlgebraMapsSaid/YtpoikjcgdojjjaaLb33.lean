/-
  Contracts of the document's map.
-/
import Derived.Test.YtpoikjcgdojjjaaLb32
namespace Go.Proofs.Ytpoikjcgdojjjaa
open Go Vx Go.RowKit

abbrev tbytes : Ty := .one (.sl [.int .u8])
abbrev vbytes (x : List (List D)) : V := .one (.rd [.int .u8] x)
def bt (x : List (List D)) (i : Nat) : Int := ((x.getD i []).headD (.n 0)).toI
def numH0 (x : List (List D)) : Nat := packL 8 ((List.range' 0 31).map (fun i => (bt x i).toNat) ++ [(bt x 31 % 128).toNat])
noncomputable def numH : List (List D) → Nat := hidden' numH0
theorem numH_eq (x : List (List D)) : numH x = numH0 x := by unfold numH; rw [seal_eq]
noncomputable def rH (t : Nat) : Nat := mulP iP (mulP t t)
noncomputable def uH (t : Nat) : Nat := mulP (addP (rH t) (canP 1)) (addP (canP 1) (negN (mulP dP dP)))
noncomputable def vH (t : Nat) : Nat := mulP (addP (negN (canP 1)) (negN (mulP (rH t) dP))) (addP (rH t) dP)
noncomputable def nH (t c : Nat) : Nat := addP (mulP (mulP c (addP (rH t) (negN (canP 1)))) (mulP (addP dP (negN (canP 1))) (addP dP (negN (canP 1))))) (negN (vH t))
noncomputable def xH (t s : Nat) : Nat := mulP (mulP (canP 2) (mulP s (vH t))) (addP (canP 1) (mulP s s))
noncomputable def yH (t s c : Nat) : Nat := mulP (addP (canP 1) (negN (mulP s s))) (mulP (nH t c) fitMP)
noncomputable def zH (t s c : Nat) : Nat := mulP (mulP (nH t c) fitMP) (addP (canP 1) (mulP s s))
noncomputable def s1H (t : Nat) : Nat := nrR (uH t) (vH t)
noncomputable def s2H (t : Nat) : Nat := negN (absN (mulP (nrR (uH t) (vH t)) t))
noncomputable def treeH (t : Nat) (b : Bool) : Out := bif !b then outV (vqt (xH t (s2H t)) (yH t (s2H t) (rH t)) (zH t (s2H t) (rH t))) else outV (vqt (xH t (s1H t)) (yH t (s1H t) (negN (canP 1))) (zH t (s1H t) (negN (canP 1))))

theorem treeH_eq (t : Nat) : treeH t (nrB (uH t) (vH t)) = outV (vqt (halfP 1 iP dP fitMP fitAP fitBP t).x (halfP 1 iP dP fitMP fitAP fitBP t).y (halfP 1 iP dP fitMP fitAP fitBP t).z) := by
  have hu : uH t = mulP (addP (rH t) 1) fitAP := by unfold uH; rw [can1, subN_of (mulP_lt _ _), fitAP_eq]
  have hv : vH t = mulP (negP (addP 1 (mulP (rH t) dP))) (addP (rH t) dP) := by
    unfold vH
    rw [can1, negN_of one_lt, subN_of (mulP_lt _ _)]
    congr 1
    refine k_inj (subP_lt _ _) (negP_lt _) ?_
    simp only [k_sub, k_neg, k_add, k_mul, k_one]
    grind
  have hv' : vH t < pP := mulP_lt _ _
  have hu' : uH t < pP := mulP_lt _ _
  have hn : ∀ c, nH t c = subP (mulP (mulP c (subP (rH t) 1)) fitBP) (vH t) := fun c => by unfold nH; rw [can1, subN_of one_lt, subN_of one_lt, subN_of hv', fitBP_eq]
  have hx : ∀ s, xH t s = mulP (mulP (addP s s) (vH t)) (addP 1 (mulP s s)) := fun s => by
    unfold xH
    rw [can1, can2]
    congr 1
    refine k_inj (mulP_lt _ _) (mulP_lt _ _) ?_
    simp only [k_mul, k_add, k_two]
    grind
  have hy : ∀ s c, yH t s c = mulP (subP 1 (mulP s s)) (mulP (nH t c) fitMP) := fun s c => by unfold yH; rw [can1, subN_of (mulP_lt _ _)]
  have hz : ∀ s c, zH t s c = mulP (mulP (nH t c) fitMP) (addP 1 (mulP s s)) := fun s c => by unfold zH; rw [can1]
  have h1 : s1H t = rootR (uH t) (vH t) := nrR_of hu' hv'
  have h2 : s2H t = negP (absP (mulP (rootR (uH t) (vH t)) t)) := by unfold s2H; rw [nrR_of hu' hv', absN_of (mulP_lt _ _), negN_of (absP_lt _)]
  rw [nrB_of hu' hv', halfP_eq]
  unfold half0 treeH
  simp only []
  rw [hx, hx, hy, hy, hz, hz, hn, hn, h1, h2, can1, negN_of one_lt]
  have hr : rH t = mulP iP (mulP t t) := rfl
  rw [hv, hu, ← hr]
  cases rootB (mulP (addP (rH t) 1) fitAP) (mulP (negP (addP 1 (mulP (rH t) dP))) (addP (rH t) dP)) <;> rfl

noncomputable def sQHalfF : List D → Option (List Bool × V)
  | [.l x] => some ([decide (32 ≤ x.length)], vqt (halfP 1 iP dP fitMP fitAP fitBP (canP (numH x))).x (halfP 1 iP dP fitMP fitAP fitBP (canP (numH x))).y (halfP 1 iP dP fitMP fitAP fitBP (canP (numH x))).z)
  | _ => none
noncomputable def sQHalf : FSpec := spec [tbytes] sQHalfF
noncomputable abbrev tabQHalf : List (FuncId × FSpec) := [(69, sNRead), (71, sNOf), (75, sQD), (21, sNMul), (88, sNI), (73, sNAdd), (72, sNSub), (74, sNNeg), (76, sNRoot), (77, sNAbs), (133, sQM)]
set_option maxRecDepth 100000 in
theorem tabokQHalf : TabOK Try.prog (tabOf tabQHalf) := (.cons ok_NRead (.cons ok_NOf (.cons ok_QD (.cons ok_NMul (.cons ok_NI (.cons ok_NAdd (.cons ok_NSub (.cons ok_NNeg (.cons ok_NRoot (.cons ok_NAbs (.cons ok_QM .nil)))))))))))
set_option maxRecDepth 100000 in
theorem ok_QHalf : FnOK Try.prog 99 sQHalf := by
  refine fn_flat (cx := mkcx tabQHalf) (c := bodyOf Try.f99) Try.func99 (by kernel_rfl) (by kernel_rfl) rfl ?_
  intro ds chk v vs hF ht he hr base
  unfold sQHalfF at hF
  split at hF
  · rename_i x
    cases hF
    have hvs : vs = [vbytes x] := by simp only [encA, encV, encP, encL, Option.some.injEq] at he; exact he.symm
    subst hvs
    have hx : 32 ≤ x.length := of_decide_eq_true (ht _ (by simp))
    have hck : allT ((List.range' 0 32).map fun i => decide (((i : Nat) : Int) < (x.length : Int))) := by
      intro c hc
      obtain ⟨i, hi, rfl⟩ := List.mem_map.1 hc
      rw [List.mem_range'] at hi
      obtain ⟨j, hj, rfl⟩ := hi
      rw [decide_eq_true_iff]
      omega
    rw [numH_eq]
    exact runs_evS (mkok tabokQHalf) (n := 400) (bs0 := []) (h := Eq.trans (b := chks ((List.range' 0 32).map fun i => decide (((i : Nat) : Int) < (x.length : Int))) (treeH (canP (numH0 x)) (nrB (uH (canP (numH0 x))) (vH (canP (numH0 x)))))) (by kernel_rfl) ((chks_true hck).trans (treeH_eq _))) (VEnt.refl _) trivial
  · cases hF

theorem packL_snoc (b : Nat) : ∀ (l : List Nat) (d : Nat), packL b (l ++ [d]) = packL b l + 2 ^ (b * l.length) * d
  | [], d => by simp [packL]
  | e :: l, d => by
    simp only [List.cons_append, packL, packL_snoc b l d, List.length_cons]
    rw [Nat.mul_succ, Nat.pow_add, Nat.mul_add, Nat.mul_comm (2 ^ (b * l.length)) (2 ^ b), Nat.mul_assoc]
    omega
def bytesL (n k : Nat) : List (List D) := (List.range' k 32).map fun i => [.i ((digit 8 n i : Nat) : Int)]
theorem bt_bytes (n k i : Nat) (h : i < 32) : bt (bytesL n k) i = ((digit 8 n (k + i) : Nat) : Int) := by
  unfold bt bytesL
  rw [List.getD_eq_getElem?_getD, List.getElem?_map, List.getElem?_range' h]
  simp [D.toI]
theorem dig_shift (n k i : Nat) : digit 8 n (k + i) = digit 8 (n / 2 ^ (8 * k)) i := by
  unfold digit
  rw [Nat.div_div_eq_div_mul, ← Nat.pow_add]
  congr 3
  omega
theorem numH_bytes (n k : Nat) : numH (bytesL n k) = n / 2 ^ (8 * k) % 2 ^ 255 := by
  rw [numH_eq]
  unfold numH0
  have e1 : ((List.range' 0 31).map fun i => (bt (bytesL n k) i).toNat) = (List.range' 0 31).map (digit 8 (n / 2 ^ (8 * k))) := List.map_congr_left fun i hi => by
    rw [List.mem_range'] at hi
    obtain ⟨j, hj, rfl⟩ := hi
    rw [bt_bytes n k _ (by omega), Int.toNat_natCast, dig_shift]
  have e2 : (bt (bytesL n k) 31 % 128).toNat = digit 8 (n / 2 ^ (8 * k)) 31 % 128 := by
    rw [bt_bytes n k 31 (by decide), dig_shift]
    omega
  rw [e1, e2, packL_snoc, packL_digits]
  generalize n / 2 ^ (8 * k) = m
  simp only [List.length_map, List.length_range', Nat.mul_zero, Nat.pow_zero, Nat.div_one]
  unfold digit
  rw [show (255 : Nat) = 8 * 31 + 7 from rfl, Nat.pow_add, Nat.mod_mul]
  congr 2
  rw [show (2 : Nat) ^ 8 = 128 * 2 from by decide, Nat.mod_mul_right_mod]
theorem numH_lo (n : Nat) : numH (bytesL n 0) = maskP (lo256P n) := by
  rw [numH_bytes, maskP_eq, lo256P_eq, Nat.mul_zero, Nat.pow_zero, Nat.div_one, Nat.mod_mod_of_dvd]
  exact Nat.pow_dvd_pow 2 (by decide)
theorem numH_hi (n : Nat) : numH (bytesL n 32) = maskP (hi256P n) := by
  rw [numH_bytes, maskP_eq, hi256P_eq]
noncomputable abbrev hLo (b : Nat) : P4 := halfP 1 iP dP fitMP fitAP fitBP (canP (maskP (lo256P b)))
noncomputable abbrev hHi (b : Nat) : P4 := halfP 1 iP dP fitMP fitAP fitBP (canP (maskP (hi256P b)))
noncomputable def mqX : Nat → Nat := hidden' fun b => aqX (hLo b).x (hLo b).y (hLo b).z (hHi b).x (hHi b).y (hHi b).z dP
noncomputable def mqY : Nat → Nat := hidden' fun b => aqY (hLo b).x (hLo b).y (hLo b).z (hHi b).x (hHi b).y (hHi b).z dP
noncomputable def mqZ : Nat → Nat := hidden' fun b => aqZ (hLo b).x (hLo b).y (hLo b).z (hHi b).x (hHi b).y (hHi b).z dP
theorem mqX_eq (b : Nat) : mqX b = aqX (hLo b).x (hLo b).y (hLo b).z (hHi b).x (hHi b).y (hHi b).z dP := by unfold mqX; rw [seal_eq]
theorem mqY_eq (b : Nat) : mqY b = aqY (hLo b).x (hLo b).y (hLo b).z (hHi b).x (hHi b).y (hHi b).z dP := by unfold mqY; rw [seal_eq]
theorem mqZ_eq (b : Nat) : mqZ b = aqZ (hLo b).x (hLo b).y (hLo b).z (hHi b).x (hHi b).y (hHi b).z dP := by unfold mqZ; rw [seal_eq]

noncomputable def sQMapF : List D → Option (List Bool × V)
  | [.n b] => some ([], vqt (mqX b) (mqY b) (mqZ b))
  | _ => none
noncomputable def sQMap : FSpec := spec [tb64] sQMapF
noncomputable abbrev tabQMap : List (FuncId × FSpec) := [(99, sQHalf), (84, sQAdd)]
set_option maxRecDepth 100000 in
theorem tabokQMap : TabOK Try.prog (tabOf tabQMap) := (.cons ok_QHalf (.cons ok_QAdd .nil))
set_option maxRecDepth 100000 in
theorem ok_QMap : FnOK Try.prog 36 sQMap := by
  refine fn_flat (cx := mkcx tabQMap) (c := bodyOf Try.f36) Try.func36 (by kernel_rfl) (by kernel_rfl) rfl ?_
  intro ds chk v vs hF ht he hr base
  unfold sQMapF at hF
  split at hF
  · rename_i b
    cases hF
    have hvs : vs = [vb64 b] := by simp only [encA, encV, encP, encL, Option.some.injEq] at he; exact he.symm
    subst hvs
    rw [mqX_eq, mqY_eq, mqZ_eq]
    unfold hLo hHi
    rw [← numH_lo, ← numH_hi]
    exact runs_evS (mkok tabokQMap) (n := 400) (bs0 := []) (by kernel_rfl) (VEnt.refl _) trivial
  · cases hF
end Go.Proofs.Ytpoikjcgdojjjaa
