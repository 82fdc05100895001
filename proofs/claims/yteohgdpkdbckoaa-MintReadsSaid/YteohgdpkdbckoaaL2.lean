/-
  Contracts of the program's field of 2^255 - 19: bytes.
-/
import Derived.Test.YteohgdpkdbckoaaL1
import Derived.Test.YteohgdpkdbckoaaU1
namespace Go.Proofs.Yteohgdpkdbckoaa
open Go Vx Go.RowKit

/-- Word q of 32 bytes, r of its bytes so far. -/
def orw (b q : Nat) : Nat → Int
  | 0 => 0
  | r + 1 => (((orw b q r).toNat ||| (wrapK .u64 (wrapK .u64 ((digit 8 b (8 * q + r) : Nat) : Int) * ((2 ^ (8 * r) : Nat) : Int))).toNat : Nat) : Int)

theorem orw_eq (b q : Nat) : ∀ r, r ≤ 8 → orw b q r = ((b / 2 ^ (64 * q) % 2 ^ (8 * r) : Nat) : Int)
  | 0, _ => by simp [orw, Nat.mod_one]
  | r + 1, h => by
    have ih := orw_eq b q r (by omega)
    unfold orw
    rw [ih, Int.toNat_natCast]
    have hd : digit 8 b (8 * q + r) = b / 2 ^ (64 * q) / 2 ^ (8 * r) % 256 := by
      unfold digit
      rw [Nat.div_div_eq_div_mul, ← Nat.pow_add]
      congr 3
      omega
    rw [hd]
    generalize b / 2 ^ (64 * q) = c
    have e1 : wrapK .u64 ((c / 2 ^ (8 * r) % 256 : Nat) : Int) = ((c / 2 ^ (8 * r) % 256 : Nat) : Int) := by
      simp only [wrapK]
      have := Nat.mod_lt (c / 2 ^ (8 * r)) (show 256 > 0 by decide)
      omega
    have e2 : wrapK .u64 (((c / 2 ^ (8 * r) % 256 : Nat) : Int) * ((2 ^ (8 * r) : Nat) : Int)) = ((2 ^ (8 * r) * (c / 2 ^ (8 * r) % 256) : Nat) : Int) := by
      simp only [wrapK]
      have h1 : c / 2 ^ (8 * r) % 256 < 256 := Nat.mod_lt _ (by decide)
      have h2 : 2 ^ (8 * r) * (c / 2 ^ (8 * r) % 256) < 2 ^ 64 := by
        have : (2 : Nat) ^ 64 = 2 ^ (8 * r) * 2 ^ (64 - 8 * r) := by rw [← Nat.pow_add]; congr 1; omega
        rw [this]
        refine Nat.mul_lt_mul_of_pos_left (Nat.lt_of_lt_of_le h1 ?_) (Nat.two_pow_pos _)
        exact (Nat.pow_le_pow_right (by decide) (by omega) : (2 : Nat) ^ 8 ≤ 2 ^ (64 - 8 * r))
      rw [← Int.natCast_mul, Nat.mul_comm]
      have : ((2 : Nat) ^ 64 : Nat) = 18446744073709551616 := by decide
      omega
    rw [e1, e2, Int.toNat_natCast, or_add (Nat.mod_lt _ (Nat.two_pow_pos _))]
    congr 1
    rw [show 8 * (r + 1) = 8 * r + 8 from by omega, Nat.pow_add, Nat.mod_mul]

theorem orw_digit (b q : Nat) : orw b q 8 = ((digit 64 b q : Nat) : Int) := by
  rw [orw_eq b q 8 (Nat.le_refl _)]
  rfl

noncomputable def readV (e0 e1 e2 e3 : Int) : V :=
  .tup [ufe (canP (e0.toNat + 2 ^ 64 * (e1.toNat + 2 ^ 64 * (e2.toNat + 2 ^ 64 * (e3.toNat + 2 ^ 64 * 0))))),
    ubool (allB ((eqL 5 [.pk .u64 64 4 (canP (e0.toNat + 2 ^ 64 * (e1.toNat + 2 ^ 64 * (e2.toNat + 2 ^ 64 * (e3.toNat + 2 ^ 64 * 0)))))] [.int .u64 e0, .int .u64 e1, .int .u64 e2, .int .u64 e3]).getD []))]

theorem readV_eq {b : Nat} (hb : b < 115792089237316195423570985008687907853269984665640564039457584007913129639936) : readV (orw b 0 8) (orw b 1 8) (orw b 2 8) (orw b 3 8) = .tup [ufe (canP b), ubool (lowP b)] := by
  rw [orw_digit, orw_digit, orw_digit, orw_digit]
  obtain ⟨eb, h0, h1, h2, h3⟩ := digits4 hb
  have en : digit 64 b 0 + 2 ^ 64 * (digit 64 b 1 + 2 ^ 64 * (digit 64 b 2 + 2 ^ 64 * (digit 64 b 3 + 2 ^ 64 * 0))) = b := by
    simp only [Nat.reducePow]; omega
  unfold readV
  simp only [Int.toNat_natCast]
  rw [en]
  have hev : (eqL 5 [.pk .u64 64 4 (canP b)] [.int .u64 ((digit 64 b 0 : Nat) : Int), .int .u64 ((digit 64 b 1 : Nat) : Int), .int .u64 ((digit 64 b 2 : Nat) : Int), .int .u64 ((digit 64 b 3 : Nat) : Int)]).getD [] =
      [(decide (((digit 64 b 0 : Nat) : Int) < ((2 ^ 64 : Nat) : Int)) && (decide (((digit 64 b 1 : Nat) : Int) < ((2 ^ 64 : Nat) : Int)) && (decide (((digit 64 b 2 : Nat) : Int) < ((2 ^ 64 : Nat) : Int)) && (decide (((digit 64 b 3 : Nat) : Int) < ((2 ^ 64 : Nat) : Int)) && true)))) && decide (canP b = digit 64 b 0 + 2 ^ 64 * (digit 64 b 1 + 2 ^ 64 * (digit 64 b 2 + 2 ^ 64 * (digit 64 b 3 + 2 ^ 64 * 0))))] := by rfl
  rw [hev, en]
  have p64 : ((2 : Nat) ^ 64 : Nat) = 18446744073709551616 := by decide
  rw [p64, decide_eq_true (show ((digit 64 b 0 : Nat) : Int) < ((18446744073709551616 : Nat) : Int) by omega), decide_eq_true (show ((digit 64 b 1 : Nat) : Int) < ((18446744073709551616 : Nat) : Int) by omega), decide_eq_true (show ((digit 64 b 2 : Nat) : Int) < ((18446744073709551616 : Nat) : Int) by omega), decide_eq_true (show ((digit 64 b 3 : Nat) : Int) < ((18446744073709551616 : Nat) : Int) by omega)]
  simp only [Bool.true_and, allB, Bool.and_true]
  have : decide (canP b = b) = lowP b := by
    rw [canP_eq, lowP_eq]
    congr 1
    refine propext ⟨fun h => ?_, Nat.mod_eq_of_lt⟩
    rw [← h]
    exact Nat.mod_lt _ (by decide)
  rw [this]

def packL (bits : Nat) : List Nat → Nat
  | [] => 0
  | d :: l => d + 2 ^ bits * packL bits l

theorem packL_digits (bits n : Nat) : ∀ cnt k, packL bits ((List.range' k cnt).map (digit bits n)) = n / 2 ^ (bits * k) % 2 ^ (bits * cnt)
  | 0, k => by simp [packL, Nat.mod_one]
  | cnt + 1, k => by
    rw [List.range'_succ, List.map_cons, packL, packL_digits bits n cnt (k + 1)]
    unfold digit
    rw [show bits * (k + 1) = bits * k + bits from by rw [Nat.mul_succ], Nat.pow_add, ← Nat.div_div_eq_div_mul, show bits * (cnt + 1) = bits + bits * cnt from by rw [Nat.mul_succ, Nat.add_comm], Nat.pow_add, Nat.mod_mul]

theorem ent_b32 {f : Nat → Int} {n : Nat} (hn : n < 115792089237316195423570985008687907853269984665640564039457584007913129639936) (h : ∀ i, i < 32 → (f i).toNat = digit 8 n i) :
    VEnt (.ag (.ps ((List.range' 0 32).map fun i => .int .u8 (f i)))) (vb32 n) := by
  refine VEnt.dec (t := tb32) (ds := [.n n]) ?_ rfl
  have e : decV tb32 (.ag (.ps ((List.range' 0 32).map fun i => .int .u8 (f i)))) = some [.n (packL 8 ((List.range' 0 32).map fun i => (f i).toNat))] := rfl
  rw [e]
  have e2 : ((List.range' 0 32).map fun i => (f i).toNat) = (List.range' 0 32).map (digit 8 n) := List.map_congr_left fun i hi => h i (by
    rw [List.mem_range'] at hi
    obtain ⟨j, hj, rfl⟩ := hi
    omega)
  rw [e2, packL_digits, Nat.mul_zero, Nat.pow_zero, Nat.div_one, show (2 : Nat) ^ (8 * 32) = 115792089237316195423570985008687907853269984665640564039457584007913129639936 from by decide +kernel, Nat.mod_eq_of_lt hn]

theorem rng_b32 {n : Nat} (h : rngV (vb32 n)) : n < 115792089237316195423570985008687907853269984665640564039457584007913129639936 := by
  have : n < 2 ^ (8 * 32) := h.1
  exact this

theorem can_lt (a : Nat) : canP a < pP := by rw [canP_eq]; exact Nat.mod_lt _ (by decide)
theorem p_lt : pP < 115792089237316195423570985008687907853269984665640564039457584007913129639936 := by decide

theorem byte_eq (n i : Nat) : (wrapK .u8 (((digit 64 n (i / 8) : Nat) : Int) / ((2 ^ (8 * (i % 8)) : Nat) : Int))).toNat = digit 8 n i := by
  simp only [wrapK]
  rw [← Int.natCast_ediv]
  have : ((digit 64 n (i / 8) / 2 ^ (8 * (i % 8)) : Nat) : Int) % 256 = ((digit 64 n (i / 8) / 2 ^ (8 * (i % 8)) % 256 : Nat) : Int) := by omega
  rw [this, Int.toNat_natCast]
  unfold digit
  have hlt : i % 8 < 8 := Nat.mod_lt _ (by decide)
  have e2 : (2 : Nat) ^ 64 = 2 ^ (8 * (i % 8)) * 2 ^ (64 - 8 * (i % 8)) := by rw [← Nat.pow_add]; congr 1; omega
  rw [e2, Nat.mod_mul_right_div_self, Nat.div_div_eq_div_mul, ← Nat.pow_add]
  have e3 : (2 : Nat) ^ (64 - 8 * (i % 8)) = 256 * 2 ^ (56 - 8 * (i % 8)) := by
    rw [show (256 : Nat) = 2 ^ 8 from rfl, ← Nat.pow_add]; congr 1; omega
  rw [e3, Nat.mod_mul_right_mod]
  congr 3
  omega

noncomputable def sLBytesF : List D → Option (List Bool × V)
  | [.n a] => some ([], vb32 (canP a))
  | _ => none
noncomputable def sLBytes : FSpec := spec [tfe] sLBytesF
noncomputable abbrev tabLBytes : List (FuncId × FSpec) := [(64, sCanon)]
set_option maxRecDepth 100000 in
theorem tabokLBytes : TabOK Try.prog (tabOf tabLBytes) := (.cons ok_Canon .nil)
set_option maxRecDepth 100000 in
theorem ok_LBytes : FnOK Try.prog 61 sLBytes := by
  refine fn_flat (cx := mkcx tabLBytes) (c := bodyOf Try.f61) Try.func61 (by kernel_rfl) (by kernel_rfl) rfl ?_
  intro ds chk v vs hF ht he hr base
  unfold sLBytesF at hF
  split at hF
  · rename_i a
    cases hF
    have hvs : vs = [vfe a] := by simp only [encA, encV, encP, encL, Option.some.injEq] at he; exact he.symm
    subst hvs
    exact runs_evS (mkok tabokLBytes) (n := 400) (bs0 := []) (v0 := .ag (.ps ((List.range' 0 32).map fun i => .int .u8 (wrapK .u8 (((digit 64 (canP a) (i / 8) : Nat) : Int) / ((2 ^ (8 * (i % 8)) : Nat) : Int)))))) (by kernel_rfl) (ent_b32 (f := fun i => wrapK .u8 (((digit 64 (canP a) (i / 8) : Nat) : Int) / ((2 ^ (8 * (i % 8)) : Nat) : Int))) (Nat.lt_trans (can_lt a) p_lt) fun i _ => byte_eq _ i) trivial
  · cases hF

noncomputable def sLReadF : List D → Option (List Bool × V)
  | [.n b] => some ([], .tup [ufe (canP b), ubool (lowP b)])
  | _ => none
noncomputable def sLRead : FSpec := spec [tb32] sLReadF
noncomputable abbrev tabLRead : List (FuncId × FSpec) := [(64, sCanon)]
set_option maxRecDepth 100000 in
theorem tabokLRead : TabOK Try.prog (tabOf tabLRead) := (.cons ok_Canon .nil)
set_option maxRecDepth 100000 in
theorem ok_LRead : FnOK Try.prog 31 sLRead := by
  refine fn_flat (cx := mkcx tabLRead) (c := bodyOf Try.f31) Try.func31 (by kernel_rfl) (by kernel_rfl) rfl ?_
  intro ds chk v vs hF ht he hr base
  unfold sLReadF at hF
  split at hF
  · rename_i b
    cases hF
    have hvs : vs = [vb32 b] := by simp only [encA, encV, encP, encL, Option.some.injEq] at he; exact he.symm
    subst hvs
    obtain ⟨h1, _⟩ := hr
    rw [← readV_eq (rng_b32 h1)]
    exact runs_evS (mkok tabokLRead) (n := 400) (bs0 := []) (by kernel_rfl) (VEnt.refl _) trivial
  · cases hF
end Go.Proofs.Yteohgdpkdbckoaa

/-
  Contracts of the program's curve.
-/
namespace Go.Proofs.Yteohgdpkdbckoaa
open Go Vx Go.RowKit

abbrev tpt : Ty := .ag [.pk .u64 64 4, .pk .u64 64 4, .pk .u64 64 4, .pk .u64 64 4]
abbrev vpt (x y z t : Nat) : V := .u (.ag (.ps [.pk .u64 64 4 x, .pk .u64 64 4 y, .pk .u64 64 4 z, .pk .u64 64 4 t]))
abbrev upP (p : P4) : U := .ag (.ps [.pk .u64 64 4 p.x, .pk .u64 64 4 p.y, .pk .u64 64 4 p.z, .pk .u64 64 4 p.t])
abbrev vpP (p : P4) : V := .u (upP p)

abbrev z0 : L := .int .u64 0

noncomputable def sEDF : List D → Option (List Bool × V)
  | [] => some ([], vfe dP)
  | _ => none
noncomputable def sED : FSpec := spec [] sEDF
noncomputable abbrev tabED : List (FuncId × FSpec) := [(34, sLMul), (37, sLNeg), (63, sLInv), (33, sLOf)]
set_option maxRecDepth 100000 in
theorem tabokED : TabOK Try.prog (tabOf tabED) := (.cons ok_LMul (.cons ok_LNeg (.cons ok_LInv (.cons ok_LOf .nil))))
set_option maxRecDepth 100000 in
theorem ok_ED : FnOK Try.prog 38 sED := by
  refine fn_flat (cx := mkcx tabED) (c := bodyOf Try.f38) Try.func38 (by kernel_rfl) (by kernel_rfl) rfl ?_
  intro ds chk v vs hF ht he hr base
  unfold sEDF at hF
  split at hF
  · cases hF
    have hvs : vs = [] := by simp only [encA, Option.some.injEq] at he; exact he.symm
    subst hvs
    rw [dP_eq]
    exact runs_evS (mkok tabokED) (n := 200) (bs0 := []) (by kernel_rfl) (VEnt.refl _) trivial
  · cases hF

noncomputable def sEIdF : List D → Option (List Bool × V)
  | [] => some ([], vpP idP)
  | _ => none
noncomputable def sEId : FSpec := spec [] sEIdF
noncomputable abbrev tabEId : List (FuncId × FSpec) := [(33, sLOf)]
set_option maxRecDepth 100000 in
theorem tabokEId : TabOK Try.prog (tabOf tabEId) := (.cons ok_LOf .nil)
set_option maxRecDepth 100000 in
theorem ok_EId : FnOK Try.prog 54 sEId := by
  refine fn_flat (cx := mkcx tabEId) (c := bodyOf Try.f54) Try.func54 (by kernel_rfl) (by kernel_rfl) rfl ?_
  intro ds chk v vs hF ht he hr base
  unfold sEIdF at hF
  split at hF
  · cases hF
    have hvs : vs = [] := by simp only [encA, Option.some.injEq] at he; exact he.symm
    subst hvs
    exact runs_evS (mkok tabokEId) (n := 200) (bs0 := []) (v0 := .u (.ag (.ps [z0, z0, z0, z0, .pk .u64 64 4 1, .pk .u64 64 4 1, z0, z0, z0, z0]))) (by kernel_rfl) (VEnt.dec (t := tpt) (ds := [.n 0, .n 1, .n 1, .n 0]) rfl rfl) trivial
  · cases hF

noncomputable def sEsumF : List D → Option (List Bool × V)
  | [.n x, .n y, .n z, .n t, .n x1, .n y1, .n z1, .n t1, .n tw] => some ([], vpP (sumP ⟨x, y, z, t⟩ ⟨x1, y1, z1, t1⟩ tw))
  | _ => none
noncomputable def sEsum : FSpec := spec [tpt, tpt, tfe] sEsumF
noncomputable abbrev tabEsum : List (FuncId × FSpec) := [(34, sLMul), (36, sLAdd), (35, sLSub)]
set_option maxRecDepth 100000 in
theorem tabokEsum : TabOK Try.prog (tabOf tabEsum) := (.cons ok_LMul (.cons ok_LAdd (.cons ok_LSub .nil)))
set_option maxRecDepth 100000 in
theorem ok_Esum : FnOK Try.prog 84 sEsum := by
  refine fn_flat (cx := mkcx tabEsum) (c := bodyOf Try.f84) Try.func84 (by kernel_rfl) (by kernel_rfl) rfl ?_
  intro ds chk v vs hF ht he hr base
  unfold sEsumF at hF
  split at hF
  · rename_i x y z t x1 y1 z1 t1 tw
    cases hF
    have hvs : vs = [vpt x y z t, vpt x1 y1 z1 t1, vfe tw] := by simp only [encA, encV, encP, encL, Option.some.injEq] at he; exact he.symm
    subst hvs
    rw [sumP_eq]
    exact runs_evS (mkok tabokEsum) (n := 200) (bs0 := []) (by kernel_rfl) (VEnt.refl _) trivial
  · cases hF

noncomputable def sEAddF : List D → Option (List Bool × V)
  | [.n x, .n y, .n z, .n t, .n x1, .n y1, .n z1, .n t1] => some ([], vpP (addP4 ⟨x, y, z, t⟩ ⟨x1, y1, z1, t1⟩))
  | _ => none
noncomputable def sEAdd : FSpec := spec [tpt, tpt] sEAddF
noncomputable abbrev tabEAdd : List (FuncId × FSpec) := [(84, sEsum), (38, sED), (36, sLAdd)]
set_option maxRecDepth 100000 in
theorem tabokEAdd : TabOK Try.prog (tabOf tabEAdd) := (.cons ok_Esum (.cons ok_ED (.cons ok_LAdd .nil)))
set_option maxRecDepth 100000 in
theorem ok_EAdd : FnOK Try.prog 56 sEAdd := by
  refine fn_flat (cx := mkcx tabEAdd) (c := bodyOf Try.f56) Try.func56 (by kernel_rfl) (by kernel_rfl) rfl ?_
  intro ds chk v vs hF ht he hr base
  unfold sEAddF at hF
  split at hF
  · rename_i x y z t x1 y1 z1 t1
    cases hF
    have hvs : vs = [vpt x y z t, vpt x1 y1 z1 t1] := by simp only [encA, encV, encP, encL, Option.some.injEq] at he; exact he.symm
    subst hvs
    rw [addP4_eq]
    exact runs_evS (mkok tabokEAdd) (n := 200) (bs0 := []) (by kernel_rfl) (VEnt.refl _) trivial
  · cases hF

def treeOn (b1 b2 b3 : Bool) : Out := bif b1 then outV (vbool' false) else bif !b2 then outV (vbool' false) else outV (vbool' b3)
theorem treeOn_eq (b1 b2 b3 : Bool) : treeOn b1 b2 b3 = outV (vbool' (!b1 && b2 && b3)) := by cases b1 <;> cases b2 <;> rfl
def upt (x y z t : Nat) : U := .ag (.ps [.pk .u64 64 4 x, .pk .u64 64 4 y, .pk .u64 64 4 z, .pk .u64 64 4 t])
def upt0 : U := .ag (.ps [z0, z0, z0, z0, z0, z0, z0, z0, z0, z0, z0, z0, z0, z0, z0, z0])
theorem upt0_ent : UEnt upt0 (upt 0 0 0 0) := UEnt.of (VEnt.dec (t := tpt) (ds := [.n 0, .n 0, .n 0, .n 0]) rfl rfl)
def treeAt (b1 odd b2 : Bool) (r n y t1 t2 : Nat) : Out :=
  bif !b1 then outV (.tup [upt0, ubool false])
  else bif odd then (bif b2 then outV (.tup [upt0, ubool false]) else (bif odd then outV (.tup [upt n y 1 t2, ubool true]) else outV (.tup [upt r y 1 t1, ubool true])))
  else (bif odd then outV (.tup [upt n y 1 t2, ubool true]) else outV (.tup [upt r y 1 t1, ubool true]))
def treeAtV (b1 odd b2 : Bool) (r n y t1 t2 : Nat) : V :=
  bif !b1 || (odd && b2) then .tup [upt0, ubool false] else .tup [upt (bif odd then n else r) y 1 (bif odd then t2 else t1), ubool true]
theorem treeAt_eq (b1 odd b2 : Bool) (r n y t1 t2 : Nat) : treeAt b1 odd b2 r n y t1 t2 = outV (treeAtV b1 odd b2 r n y t1 t2) := by
  cases b1 <;> cases odd <;> cases b2 <;> rfl
theorem treeAt_ent (y : Nat) (odd : Bool) : VEnt (treeAtV (rootB (subP (mulP y y) 1) (addP (mulP dP (mulP y y)) 1)) odd (allB [decide (rootR (subP (mulP y y) 1) (addP (mulP dP (mulP y y)) 1) = 0)])
    (rootR (subP (mulP y y) 1) (addP (mulP dP (mulP y y)) 1)) (negP (rootR (subP (mulP y y) 1) (addP (mulP dP (mulP y y)) 1))) (canP y)
    (mulP (rootR (subP (mulP y y) 1) (addP (mulP dP (mulP y y)) 1)) y) (mulP (negP (rootR (subP (mulP y y) 1) (addP (mulP dP (mulP y y)) 1))) y)) (.tup [upP (atP y odd), ubool (atB y odd)]) := by
  rw [atP_eq]
  unfold at0
  rw [atB_eq]
  generalize rootR (subP (mulP y y) 1) (addP (mulP dP (mulP y y)) 1) = r
  generalize rootB (subP (mulP y y) 1) (addP (mulP dP (mulP y y)) 1) = b1
  simp only [allB]
  generalize decide (r = 0) = b2
  cases b1
  · exact VEnt.tup2 upt0_ent (UEnt.refl _)
  · cases odd
    · exact VEnt.refl _
    · cases b2
      · exact VEnt.refl _
      · exact VEnt.tup2 upt0_ent (UEnt.refl _)

noncomputable def sEOnF : List D → Option (List Bool × V)
  | [.n x, .n y, .n z, .n t] => some ([], vbool' (onPt ⟨x, y, z, t⟩))
  | _ => none
noncomputable def sEOn : FSpec := spec [tpt] sEOnF
noncomputable abbrev tabEOn : List (FuncId × FSpec) := [(34, sLMul), (36, sLAdd), (35, sLSub), (41, sSame), (33, sLOf), (38, sED)]
set_option maxRecDepth 100000 in
theorem tabokEOn : TabOK Try.prog (tabOf tabEOn) := (.cons ok_LMul (.cons ok_LAdd (.cons ok_LSub (.cons ok_Same (.cons ok_LOf (.cons ok_ED .nil))))))

noncomputable def sEAtF : List D → Option (List Bool × V)
  | [.n y, .b odd] => some ([], .tup [upP (atP y odd), ubool (atB y odd)])
  | _ => none
noncomputable def sEAt : FSpec := spec [tfe, tbool] sEAtF
noncomputable abbrev tabEAt : List (FuncId × FSpec) := [(34, sLMul), (36, sLAdd), (35, sLSub), (39, sLRoot), (37, sLNeg), (64, sCanon), (33, sLOf), (38, sED)]
set_option maxRecDepth 100000 in
theorem tabokEAt : TabOK Try.prog (tabOf tabEAt) := (.cons ok_LMul (.cons ok_LAdd (.cons ok_LSub (.cons ok_LRoot (.cons ok_LNeg (.cons ok_Canon (.cons ok_LOf (.cons ok_ED .nil))))))))
set_option maxRecDepth 100000 in
theorem ok_EAt : FnOK Try.prog 62 sEAt := by
  refine fn_flat (cx := mkcx tabEAt) (c := bodyOf Try.f62) Try.func62 (by kernel_rfl) (by kernel_rfl) rfl ?_
  intro ds chk v vs hF ht he hr base
  unfold sEAtF at hF
  split at hF
  · rename_i y odd
    cases hF
    have hvs : vs = [vfe y, vbool' odd] := by simp only [encA, encV, encP, encL, Option.some.injEq] at he; exact he.symm
    subst hvs
    exact runs_evS (mkok tabokEAt) (n := 200) (bs0 := []) (h := Eq.trans (b := (fun r => treeAt (rootB (subP (mulP y y) 1) (addP (mulP dP (mulP y y)) 1)) odd (allB [decide (r = 0)]) r (negP r) (canP y) (mulP r y) (mulP (negP r) y)) (rootR (subP (mulP y y) 1) (addP (mulP dP (mulP y y)) 1))) (by kernel_rfl) (treeAt_eq _ _ _ _ _ _ _ _)) (treeAt_ent y odd) trivial
  · cases hF

noncomputable def sEBaseF : List D → Option (List Bool × V)
  | [] => some ([], vpP (baseP ()))
  | _ => none
noncomputable def sEBase : FSpec := spec [] sEBaseF
noncomputable abbrev tabEBase : List (FuncId × FSpec) := [(62, sEAt), (34, sLMul), (63, sLInv), (33, sLOf)]
set_option maxRecDepth 100000 in
theorem tabokEBase : TabOK Try.prog (tabOf tabEBase) := (.cons ok_EAt (.cons ok_LMul (.cons ok_LInv (.cons ok_LOf .nil))))
set_option maxRecDepth 100000 in
theorem ok_EBase : FnOK Try.prog 30 sEBase := by
  refine fn_flat (cx := mkcx tabEBase) (c := bodyOf Try.f30) Try.func30 (by kernel_rfl) (by kernel_rfl) rfl ?_
  intro ds chk v vs hF ht he hr base
  unfold sEBaseF at hF
  split at hF
  · cases hF
    have hvs : vs = [] := by simp only [encA, Option.some.injEq] at he; exact he.symm
    subst hvs
    rw [baseP_eq]
    exact runs_evS (mkok tabokEBase) (n := 200) (bs0 := []) (by kernel_rfl) (VEnt.refl _) trivial
  · cases hF
end Go.Proofs.Yteohgdpkdbckoaa

/-
  Contracts of the program's group: bytes and points.
-/
namespace Go.Proofs.Yteohgdpkdbckoaa
open Go Vx Go.RowKit

abbrev tb64 : Ty := .ag [.pk .u8 8 64]
abbrev vb64 (n : Nat) : V := .pk .u8 8 64 n
abbrev tfit : Ty := .ag [.pk .u64 64 4, .pk .u64 64 4, .pk .u64 64 4, .pk .u64 64 4, .pk .u64 64 4, .pk .u64 64 4, .pk .u64 64 4]
abbrev vfit (a b c d e f g : Nat) : V := .u (.ag (.ps [.pk .u64 64 4 a, .pk .u64 64 4 b, .pk .u64 64 4 c, .pk .u64 64 4 d, .pk .u64 64 4 e, .pk .u64 64 4 f, .pk .u64 64 4 g]))

def treeEnc (o1 o2 o3 : Bool) (a b c d : Nat) : Out :=
  bif o1 then (bif o2 then outV (vb32 a) else outV (vb32 b)) else (bif o3 then outV (vb32 c) else outV (vb32 d))

noncomputable def treeEncOf (x y z t r : Nat) : Out :=
  (fun a b => (fun c => treeEnc (oddP (mulP t c)) (oddP (mulP (mulP y iP) c)) (oddP (mulP x c))
    (canP (absP (mulP (mulP a fitNP) (subP z (negP (mulP x iP)))))) (canP (absP (mulP (mulP a fitNP) (subP z (mulP x iP)))))
    (canP (absP (mulP b (subP z (negP y))))) (canP (absP (mulP b (subP z y))))) (mulP (mulP a b) t)) (mulP r (mulP (addP z y) (subP z y))) (mulP r (mulP x y))

theorem treeEnc_eq (x y z t : Nat) : treeEncOf x y z t (rootR 1 (mulP (mulP (addP z y) (subP z y)) (mulP (mulP x y) (mulP x y)))) = outV (vb32 (rencP ⟨x, y, z, t⟩)) := by
  rw [rencP_eq]
  unfold renc0 treeEncOf
  dsimp only
  generalize rootR 1 (mulP (mulP (addP z y) (subP z y)) (mulP (mulP x y) (mulP x y))) = r
  generalize mulP (mulP (mulP r (mulP (addP z y) (subP z y))) (mulP r (mulP x y))) t = c
  cases oddP (mulP t c) <;> simp only [treeEnc, cond_true, cond_false]
  · cases oddP (mulP x c) <;> rfl
  · cases oddP (mulP (mulP y iP) c) <;> rfl

def treeDec (b1 b2 b3 b4 b5 : Bool) (x y t : Nat) : Out :=
  bif !b1 then outV (.tup [upt0, ubool false]) else bif b2 then outV (.tup [upt0, ubool false]) else bif !b3 then outV (.tup [upt0, ubool false])
  else bif b4 then outV (.tup [upt0, ubool false]) else bif b5 then outV (.tup [upt0, ubool false]) else outV (.tup [upt x y 1 t, ubool true])
def treeDecV (b1 b2 b3 b4 b5 : Bool) (x y t : Nat) : V :=
  bif b1 && !b2 && (b3 && !b4 && !b5) then .tup [upt x y 1 t, ubool true] else .tup [upt0, ubool false]
theorem treeDec_eq (b1 b2 b3 b4 b5 : Bool) (x y t : Nat) : treeDec b1 b2 b3 b4 b5 x y t = outV (treeDecV b1 b2 b3 b4 b5 x y t) := by
  cases b1 <;> cases b2 <;> cases b3 <;> cases b4 <;> cases b5 <;> rfl

noncomputable def decOf {α : Type} (n : Nat) (f : Bool → Bool → Bool → Bool → Bool → Nat → Nat → Nat → α) : α :=
  (fun s => (fun u1 u2 => (fun v => (fun r => (fun x y => f (lowP n) (oddP s) (rootB 1 (mulP v (mulP u2 u2))) (oddP (mulP x y)) (sameP y 0) x y (mulP x y))
    (absP (mulP (addP s s) (mulP r u2))) (mulP u1 (mulP (mulP r (mulP r u2)) v))) (rootR 1 (mulP v (mulP u2 u2)))) (subP (negP (mulP dP (mulP u1 u1))) (mulP u2 u2))) (subP 1 (mulP s s)) (addP 1 (mulP s s))) (canP n)

theorem decOf_eq (n : Nat) : decOf n treeDec = outV (decOf n treeDecV) := by
  unfold decOf
  exact treeDec_eq _ _ _ _ _ _ _ _

theorem treeDec_ent (n : Nat) : VEnt (decOf n treeDecV) (.tup [upP (rdecP n), ubool (rdecBP n)]) := by
  rw [rdecP_eq]
  unfold rdec0
  dsimp only
  rw [rdecBP_eq]
  unfold rdecB0 decOf treeDecV
  dsimp only
  generalize rootR 1 (mulP (subP (negP (mulP dP (mulP (subP 1 (mulP (canP n) (canP n))) (subP 1 (mulP (canP n) (canP n)))))) (mulP (addP 1 (mulP (canP n) (canP n))) (addP 1 (mulP (canP n) (canP n))))) (mulP (addP 1 (mulP (canP n) (canP n))) (addP 1 (mulP (canP n) (canP n))))) = r
  generalize (lowP n && !oddP (canP n) && _ : Bool) = b
  cases b
  · exact VEnt.tup2 upt0_ent (UEnt.refl _)
  · exact VEnt.refl _

def treeOr (b1 b2 : Bool) : Out := bif b1 then outV (vbool' true) else outV (vbool' b2)
theorem treeOr_eq (b1 b2 : Bool) : treeOr b1 b2 = outV (vbool' (b1 || b2)) := by cases b1 <;> rfl

noncomputable def sRFitsF : List D → Option (List Bool × V)
  | [] => some ([], vfit 1 iP dP fitNP fitMP fitAP fitBP)
  | _ => none
noncomputable def sRFits : FSpec := spec [] sRFitsF
noncomputable abbrev tabRFits : List (FuncId × FSpec) := [(34, sLMul), (36, sLAdd), (35, sLSub), (39, sLRoot), (37, sLNeg), (33, sLOf), (73, sLI), (38, sED)]
set_option maxRecDepth 100000 in
theorem tabokRFits : TabOK Try.prog (tabOf tabRFits) := (.cons ok_LMul (.cons ok_LAdd (.cons ok_LSub (.cons ok_LRoot (.cons ok_LNeg (.cons ok_LOf (.cons ok_LI (.cons ok_ED .nil))))))))
set_option maxRecDepth 100000 in
theorem ok_RFits : FnOK Try.prog 60 sRFits := by
  refine fn_flat (cx := mkcx tabRFits) (c := bodyOf Try.f60) Try.func60 (by kernel_rfl) (by kernel_rfl) rfl ?_
  intro ds chk v vs hF ht he hr base
  unfold sRFitsF at hF
  split at hF
  · cases hF
    have hvs : vs = [] := by simp only [encA, Option.some.injEq] at he; exact he.symm
    subst hvs
    rw [fitNP_eq, fitMP_eq, fitAP_eq, fitBP_eq, lessP_eq]
    exact runs_evS (mkok tabokRFits) (n := 200) (bs0 := []) (by kernel_rfl) (VEnt.refl _) trivial
  · cases hF

noncomputable def sREncF : List D → Option (List Bool × V)
  | [.n x, .n y, .n z, .n t] => some ([], vb32 (rencP ⟨x, y, z, t⟩))
  | _ => none
noncomputable def sREnc : FSpec := spec [tpt] sREncF
noncomputable abbrev tabREnc : List (FuncId × FSpec) := [(34, sLMul), (36, sLAdd), (35, sLSub), (39, sLRoot), (37, sLNeg), (32, sLOdd), (40, sLAbs), (61, sLBytes), (60, sRFits)]
set_option maxRecDepth 100000 in
theorem tabokREnc : TabOK Try.prog (tabOf tabREnc) := (.cons ok_LMul (.cons ok_LAdd (.cons ok_LSub (.cons ok_LRoot (.cons ok_LNeg (.cons ok_LOdd (.cons ok_LAbs (.cons ok_LBytes (.cons ok_RFits .nil)))))))))
set_option maxRecDepth 100000 in
theorem ok_REnc : FnOK Try.prog 29 sREnc := by
  refine fn_flat (cx := mkcx tabREnc) (c := bodyOf Try.f29) Try.func29 (by kernel_rfl) (by kernel_rfl) rfl ?_
  intro ds chk v vs hF ht he hr base
  unfold sREncF at hF
  split at hF
  · rename_i x y z t
    cases hF
    have hvs : vs = [vpt x y z t] := by simp only [encA, encV, encP, encL, Option.some.injEq] at he; exact he.symm
    subst hvs
    exact runs_evS (mkok tabokREnc) (n := 200) (bs0 := []) (h := Eq.trans (b := treeEncOf x y z t (rootR 1 (mulP (mulP (addP z y) (subP z y)) (mulP (mulP x y) (mulP x y))))) (by kernel_rfl) (treeEnc_eq x y z t)) (VEnt.refl _) trivial
  · cases hF

noncomputable def sRDecF : List D → Option (List Bool × V)
  | [.n n] => some ([], .tup [upP (rdecP n), ubool (rdecBP n)])
  | _ => none
noncomputable def sRDec : FSpec := spec [tb32] sRDecF
noncomputable abbrev tabRDec : List (FuncId × FSpec) := [(34, sLMul), (36, sLAdd), (35, sLSub), (39, sLRoot), (37, sLNeg), (32, sLOdd), (40, sLAbs), (31, sLRead), (33, sLOf), (41, sSame), (38, sED)]
set_option maxRecDepth 100000 in
theorem tabokRDec : TabOK Try.prog (tabOf tabRDec) := (.cons ok_LMul (.cons ok_LAdd (.cons ok_LSub (.cons ok_LRoot (.cons ok_LNeg (.cons ok_LOdd (.cons ok_LAbs (.cons ok_LRead (.cons ok_LOf (.cons ok_Same (.cons ok_ED .nil)))))))))))
set_option maxRecDepth 100000 in
theorem ok_RDec : FnOK Try.prog 22 sRDec := by
  refine fn_flat (cx := mkcx tabRDec) (c := bodyOf Try.f22) Try.func22 (by kernel_rfl) (by kernel_rfl) rfl ?_
  intro ds chk v vs hF ht he hr base
  unfold sRDecF at hF
  split at hF
  · rename_i n
    cases hF
    have hvs : vs = [vb32 n] := by simp only [encA, encV, encP, encL, Option.some.injEq] at he; exact he.symm
    subst hvs
    exact runs_evS (mkok tabokRDec) (n := 200) (bs0 := []) (h := Eq.trans (b := decOf n treeDec) (by kernel_rfl) (decOf_eq n)) (treeDec_ent n) trivial
  · cases hF

noncomputable def sREquF : List D → Option (List Bool × V)
  | [.n x, .n y, .n z, .n t, .n x1, .n y1, .n z1, .n t1] => some ([], vbool' (equP ⟨x, y, z, t⟩ ⟨x1, y1, z1, t1⟩))
  | _ => none
noncomputable def sREqu : FSpec := spec [tpt, tpt] sREquF
noncomputable abbrev tabREqu : List (FuncId × FSpec) := [(34, sLMul), (41, sSame)]
set_option maxRecDepth 100000 in
theorem tabokREqu : TabOK Try.prog (tabOf tabREqu) := (.cons ok_LMul (.cons ok_Same .nil))
end Go.Proofs.Yteohgdpkdbckoaa

/-
  Contracts of the program's group: maps.
-/
namespace Go.Proofs.Yteohgdpkdbckoaa
open Go Vx Go.RowKit

noncomputable def maskN (q : Nat) : Nat := packL 8 ((List.range' 0 32).map fun i => (bif Nat.beq i 31 then ((((digit 8 q 31 : Nat) : Int).toNat &&& 127 : Nat) : Int) else ((digit 8 q i : Nat) : Int)).toNat)

theorem digit_mod {b q m i : Nat} (h : b * i + b ≤ m) : digit b (q % 2 ^ m) i = digit b q i := by
  unfold digit
  have e1 : (2 : Nat) ^ m = 2 ^ (b * i) * 2 ^ (m - b * i) := by rw [← Nat.pow_add]; congr 1; omega
  rw [e1, Nat.mod_mul_right_div_self]
  have e2 : (2 : Nat) ^ (m - b * i) = 2 ^ b * 2 ^ (m - b * i - b) := by rw [← Nat.pow_add]; congr 1; omega
  rw [e2, Nat.mod_mul_right_mod]

theorem maskN_eq {q : Nat} (hq : q < 115792089237316195423570985008687907853269984665640564039457584007913129639936) : maskN q = maskP q := by
  have h : ((List.range' 0 32).map fun i => (bif Nat.beq i 31 then ((((digit 8 q 31 : Nat) : Int).toNat &&& 127 : Nat) : Int) else ((digit 8 q i : Nat) : Int)).toNat) = (List.range' 0 32).map (digit 8 (maskP q)) := by
    refine List.map_congr_left fun i hi => ?_
    rw [List.mem_range'] at hi
    obtain ⟨j, hj, rfl⟩ := hi
    rw [Nat.zero_add, Nat.one_mul, maskP_eq]
    by_cases h31 : j = 31
    · subst h31
      simp only [Nat.beq_refl, cond_true, Int.toNat_natCast]
      rw [show (127 : Nat) = 2 ^ 7 - 1 from rfl, Nat.and_two_pow_sub_one_eq_mod]
      unfold digit
      have e1 : (2 : Nat) ^ 255 = 2 ^ (8 * 31) * 2 ^ 7 := by rw [← Nat.pow_add]
      rw [e1, Nat.mod_mul_right_div_self]
      generalize q / 2 ^ (8 * 31) = c
      simp only [Nat.reducePow]
      omega
    · have : Nat.beq j 31 = false := by
        cases h : Nat.beq j 31
        · rfl
        · exact absurd (Nat.eq_of_beq_eq_true h) h31
      rw [this, cond_false, Int.toNat_natCast, digit_mod (by omega)]
  have hm : maskP q < 2 ^ (8 * 32) := by
    rw [maskP_eq]
    exact Nat.lt_of_lt_of_le (Nat.mod_lt _ (Nat.two_pow_pos _)) (Nat.pow_le_pow_right (by decide) (by decide))
  have _ := hq
  unfold maskN
  rw [h, packL_digits, Nat.mul_zero, Nat.pow_zero, Nat.div_one, Nat.mod_eq_of_lt hm]

noncomputable def halfV (o m b r v s c : Nat) : V :=
  (fun n' w0 w2 w3 => vpP ⟨mulP w0 w3, mulP w2 (mulP n' m), mulP (mulP n' m) w3, mulP w0 w2⟩) (subP (mulP (mulP c (subP r o)) b) v) (mulP (addP s s) v) (subP o (mulP s s)) (addP o (mulP s s))

noncomputable def treeHalf (o i d m a b t : Nat) : Out :=
  (fun r => (fun u v => bif !rootB u v then outV (halfV o m b r v (negP (absP (mulP (rootR u v) t))) r) else outV (halfV o m b r v (rootR u v) (negP o)))
    (mulP (addP r o) a) (mulP (negP (addP o (mulP r d))) (addP r d))) (mulP i (mulP t t))

theorem treeHalf_eq (o i d m a b t : Nat) : treeHalf o i d m a b t = outV (vpP (halfP o i d m a b t)) := by
  rw [halfP_eq]
  unfold half0 treeHalf
  dsimp only
  cases rootB (mulP (addP (mulP i (mulP t t)) o) a) (mulP (negP (addP o (mulP (mulP i (mulP t t)) d))) (addP (mulP i (mulP t t)) d)) <;> rfl

theorem lo_eq (q : Nat) : packL 8 ((List.range' 0 32).map fun i => ((digit 8 q i : Nat) : Int).toNat) = lo256P q := by
  have h : ((List.range' 0 32).map fun i => ((digit 8 q i : Nat) : Int).toNat) = (List.range' 0 32).map (digit 8 q) := List.map_congr_left fun i _ => Int.toNat_natCast _
  rw [h, packL_digits, Nat.mul_zero, Nat.pow_zero, Nat.div_one, lo256P_eq]
theorem div_lt_pow {q a b c : Nat} (hc : c = a + b) (hq : q < 2 ^ c) : q / 2 ^ a < 2 ^ b := by
  refine Nat.div_lt_of_lt_mul ?_
  rw [← Nat.pow_add, ← hc]
  exact hq
theorem div_lt256 {q : Nat} (hq : q < 2 ^ (8 * 64)) : q / 2 ^ 256 < 2 ^ (8 * 32) := div_lt_pow (c := 8 * 64) (a := 256) (b := 8 * 32) (by decide) hq
theorem hi_eq {q : Nat} (hq : q < 2 ^ (8 * 64)) : packL 8 ((List.range' 32 32).map fun i => ((digit 8 q i : Nat) : Int).toNat) = hi256P q := by
  have h : ((List.range' 32 32).map fun i => ((digit 8 q i : Nat) : Int).toNat) = (List.range' 32 32).map (digit 8 q) := List.map_congr_left fun i _ => Int.toNat_natCast _
  rw [h, packL_digits, hi256P_eq]
  exact Nat.mod_eq_of_lt (div_lt256 hq)
theorem rng_b64 {n : Nat} (h : rngV (vb64 n)) : n < 2 ^ (8 * 64) := h.1

noncomputable def sRHalfF : List D → Option (List Bool × V)
  | [.n o, .n i, .n d, .n _, .n m, .n a, .n b, .n q] => some ([], vpP (halfP o i d m a b (canP (maskP q))))
  | _ => none
noncomputable def sRHalf : FSpec := spec [tfit, tb32] sRHalfF
noncomputable abbrev tabRHalf : List (FuncId × FSpec) := [(34, sLMul), (36, sLAdd), (35, sLSub), (39, sLRoot), (37, sLNeg), (40, sLAbs), (31, sLRead)]
set_option maxRecDepth 100000 in
theorem tabokRHalf : TabOK Try.prog (tabOf tabRHalf) := (.cons ok_LMul (.cons ok_LAdd (.cons ok_LSub (.cons ok_LRoot (.cons ok_LNeg (.cons ok_LAbs (.cons ok_LRead .nil)))))))

noncomputable def sRMapF : List D → Option (List Bool × V)
  | [.n q] => some ([], vpP (rmapP q))
  | _ => none
noncomputable def sRMap : FSpec := spec [tb64] sRMapF
end Go.Proofs.Yteohgdpkdbckoaa

/-
  Contracts of the laws of layer 4: what all ask first.
-/
namespace Go.Proofs.Yteohgdpkdbckoaa
open Go Vx Go.RowKit

noncomputable def treeKnown (b0 b1 b2 b3 b4 : Bool) : Out :=
  bif b0 then bif b1 then bif b2 then bif b3 then outV (vbool' b4) else outV (vbool' false) else outV (vbool' false) else outV (vbool' false) else outV (vbool' false)
theorem byte_base (i : Nat) (n : Int) (h : decide (((digit 8 53453403443306840533278073560698739391446669128918427283046925944918568268514 i : Nat) : Int) = n) = true) : decide (((digit 8 (rencP (baseP ())) i : Nat) : Int) = n) = true := by
  rw [renc_base]; exact h
theorem treeKnown_eq : treeKnown (decide (((digit 8 (rencP (baseP ())) 0 : Nat) : Int) = 226)) (decide (((digit 8 (rencP (baseP ())) 1 : Nat) : Int) = 242)) (decide (((digit 8 (rencP (baseP ())) 31 : Nat) : Int) = 118))
    (rdecBP (rencP (baseP ()))) (equP (rdecP (rencP (baseP ()))) (baseP ())) = outV (vbool' true) := by
  rw [byte_base 0 226 (by decide +kernel), byte_base 1 242 (by decide +kernel), byte_base 31 118 (by decide +kernel), known_dec, known_equ]
  rfl

noncomputable def sKnown4F : List D → Option (List Bool × V)
  | [] => some ([], vbool' true)
  | _ => none
noncomputable def sKnown4 : FSpec := spec [] sKnown4F
end Go.Proofs.Yteohgdpkdbckoaa

/-
  Digits that lie one by one are the digits of their number.
-/
namespace Go.Proofs.Yteohgdpkdbckoaa
open Go Vx Go.RowKit

abbrev tnm : Ty := .ag [.pk .u64 32 8]
abbrev vnm (n : Nat) : V := .pk .u64 32 8 n
abbrev unm (n : Nat) : U := .ag (.ps [.pk .u64 32 8 n])
abbrev tdig8 : Ty := .ag [.int .u64, .int .u64, .int .u64, .int .u64, .int .u64, .int .u64, .int .u64, .int .u64]
abbrev vdig8 (a b c d e f g h : Int) : V := .u (.ag (.ps [.int .u64 a, .int .u64 b, .int .u64 c, .int .u64 d, .int .u64 e, .int .u64 f, .int .u64 g, .int .u64 h]))

theorem prel_ints {σ : Sg} {k : IntKind} {f : Nat → Int} : ∀ {l : List Nat} {xs : List Value}, PRel σ (l.map fun i => .int k (f i)) xs → xs = l.map fun i => Value.int k (f i)
  | [], xs, h => h
  | i :: l, xs, h => by
    obtain ⟨ys, zs, e, h1, h2⟩ := h
    rw [e, h1.1, prel_ints h2]
    rfl

theorem ent_pk {k : IntKind} {b cnt n : Nat} {f : Nat → Int} (hn : n < 2 ^ (b * cnt)) (hu : k.signed = false) (hb : b ≤ k.bits) (h : ∀ i, i < cnt → f i = (digit b n i : Nat)) :
    VEnt (.ag (.ps ((List.range cnt).map fun i => .int k (f i)))) (.pk k b cnt n) := by
  rintro σ x ⟨xs, e, hp⟩
  refine ⟨xs, e, xs, [], by simp, ⟨?_, hn, hu, hb⟩, rfl⟩
  rw [prel_ints hp]
  refine List.map_congr_left fun i hi => ?_
  rw [h i (List.mem_range.1 hi)]

end Go.Proofs.Yteohgdpkdbckoaa
