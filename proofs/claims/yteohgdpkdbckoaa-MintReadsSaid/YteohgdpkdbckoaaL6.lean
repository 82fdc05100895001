/-
  Contracts of the program's scalars: small ones.
-/
import Derived.Test.YteohgdpkdbckoaaL2
import Derived.Test.YteohgdpkdbckoaaX4
namespace Go.Proofs.Yteohgdpkdbckoaa
open Go Vx Go.RowKit

noncomputable def sLessF : List D → Option (List Bool × V)
  | [.n a, .n b] => some ([], .tup [.ag (.ps [.pk .u64 64 4 (minusS a b)]), .one (.int .u64 (bif minusB a b then 1 else 0))])
  | _ => none
noncomputable def sLess : FSpec := spec [tfe, tfe] sLessF
noncomputable abbrev tabLess : List (FuncId × FSpec) := [(88, sSub64)]
set_option maxRecDepth 100000 in
theorem tabokLess : TabOK Try.prog (tabOf tabLess) := (.cons ok_Sub64 .nil)
set_option maxRecDepth 100000 in
theorem ok_Less : FnOK Try.prog 82 sLess := by
  refine fn_flat (cx := mkcx tabLess) (c := bodyOf Try.f82) Try.func82 (by kernel_rfl) (by kernel_rfl) rfl ?_
  intro ds chk v vs hF ht he hr base
  unfold sLessF at hF
  split at hF
  · rename_i a b
    cases hF
    have hvs : vs = [vfe a, vfe b] := by simp only [encA, encV, encP, encL, Option.some.injEq] at he; exact he.symm
    subst hvs
    obtain ⟨h1, h2, _⟩ := hr
    obtain ⟨ea, a0, a1, a2, a3⟩ := digits4 (rng_fe h1)
    obtain ⟨eb, b0, b1, b2, b3⟩ := digits4 (rng_fe h2)
    obtain ⟨c1, hc1⟩ : ∃ c : Int, c = if (digit 64 a 0 : Int) < (digit 64 b 0 : Int) + 0 then 1 else 0 := ⟨_, rfl⟩
    obtain ⟨c2, hc2⟩ : ∃ c : Int, c = if (digit 64 a 1 : Int) < (digit 64 b 1 : Int) + c1 then 1 else 0 := ⟨_, rfl⟩
    obtain ⟨c3, hc3⟩ : ∃ c : Int, c = if (digit 64 a 2 : Int) < (digit 64 b 2 : Int) + c2 then 1 else 0 := ⟨_, rfl⟩
    obtain ⟨c4, hc4⟩ : ∃ c : Int, c = if (digit 64 a 3 : Int) < (digit 64 b 3 : Int) + c3 then 1 else 0 := ⟨_, rfl⟩
    have hc : allT [decide (c1 ≤ 1), decide (c2 ≤ 1), decide (c3 ≤ 1)] := by
      intro b hb
      simp only [List.mem_cons, List.not_mem_nil, or_false] at hb
      rcases hb with rfl | rfl | rfl <;> rw [decide_eq_true_iff]
      · rw [hc1]; split <;> omega
      · rw [hc2]; split <;> omega
      · rw [hc3]; split <;> omega
    obtain ⟨m1, m2⟩ := borrow4 ea eb ⟨a0, a1, a2, a3⟩ ⟨b0, b1, b2, b3⟩ hc1 hc2 hc3 hc4
    have hent := VEnt.tup2 (UEnt.of (ent_fe m1)) (UEnt.refl (.one (.int .u64 c4)))
    rw [m2, ← minusS_eq, ← minusB_eq] at hent
    refine runs_ev (mkok tabokLess) (n := 200) (bs0 := []) (v0 := .tup [.ag (.ps [.int .u64 (((digit 64 a 0 : Int) - digit 64 b 0 - 0) % 18446744073709551616), .int .u64 (((digit 64 a 1 : Int) - digit 64 b 1 - c1) % 18446744073709551616),
        .int .u64 (((digit 64 a 2 : Int) - digit 64 b 2 - c2) % 18446744073709551616), .int .u64 (((digit 64 a 3 : Int) - digit 64 b 3 - c3) % 18446744073709551616)]), .one (.int .u64 c4)])
      (.trans (?_ : _ = chks [decide (c1 ≤ 1), decide (c2 ≤ 1), decide (c3 ≤ 1)] _) (chks_true hc)) (by rw [m2, ← minusB_eq]; exact hent) trivial
    subst hc4 hc3 hc2 hc1
    kernel_rfl
  · cases hF

noncomputable def sOrderF : List D → Option (List Bool × V)
  | [] => some ([], vfe 7237005577332262213973186563042994240857116359379907606001950938285454250989)
  | _ => none
noncomputable def sOrder : FSpec := spec [] sOrderF
noncomputable abbrev tabOrder : List (FuncId × FSpec) := []
set_option maxRecDepth 100000 in
theorem tabokOrder : TabOK Try.prog (tabOf tabOrder) := TabOK.nil
set_option maxRecDepth 100000 in
theorem ok_Order : FnOK Try.prog 83 sOrder := by
  refine fn_flat (cx := mkcx tabOrder) (c := bodyOf Try.f83) Try.func83 (by kernel_rfl) (by kernel_rfl) rfl ?_
  intro ds chk v vs hF ht he hr base
  unfold sOrderF at hF
  split at hF
  · cases hF
    have hvs : vs = [] := by simp only [encA, Option.some.injEq] at he; exact he.symm
    subst hvs
    refine runs_ev (mkok tabokOrder) (n := 200) (bs0 := []) (v0 := .ag (.ps [.int .u64 6346243789798364141, .int .u64 1503914060200516822, .int .u64 0, .int .u64 1152921504606846976])) (by kernel_rfl) (ent_fe ?_) trivial
    decide +kernel
  · cases hF

theorem of_ent {b : Nat} (hb : b < 115792089237316195423570985008687907853269984665640564039457584007913129639936) : VEnt (.ag (.ps [.int .u64 (orw b 0 8), .int .u64 (orw b 1 8), .int .u64 (orw b 2 8), .int .u64 (orw b 3 8)])) (vfe b) := by
  refine ent_fe ?_
  rw [orw_digit, orw_digit, orw_digit, orw_digit]
  obtain ⟨eb, h0, h1, h2, h3⟩ := digits4 hb
  simp only [Int.toNat_natCast, Nat.reducePow]
  omega

noncomputable def sROfF : List D → Option (List Bool × V)
  | [.n a] => some ([], vfe a)
  | _ => none
noncomputable def sROf : FSpec := spec [tb32] sROfF
noncomputable abbrev tabROf : List (FuncId × FSpec) := []
set_option maxRecDepth 100000 in
theorem tabokROf : TabOK Try.prog (tabOf tabROf) := TabOK.nil
set_option maxRecDepth 100000 in
theorem ok_ROf : FnOK Try.prog 81 sROf := by
  refine fn_flat (cx := mkcx tabROf) (c := bodyOf Try.f81) Try.func81 (by kernel_rfl) (by kernel_rfl) rfl ?_
  intro ds chk v vs hF ht he hr base
  unfold sROfF at hF
  split at hF
  · rename_i a
    cases hF
    have hvs : vs = [vb32 a] := by simp only [encA, encV, encP, encL, Option.some.injEq] at he; exact he.symm
    subst hvs
    obtain ⟨h1, _⟩ := hr
    exact runs_evS (mkok tabokROf) (n := 400) (bs0 := []) (v0 := .ag (.ps [.int .u64 (orw a 0 8), .int .u64 (orw a 1 8), .int .u64 (orw a 2 8), .int .u64 (orw a 3 8)])) (by kernel_rfl) (of_ent (rng_b32 h1)) trivial
  · cases hF

noncomputable def sRScalarF : List D → Option (List Bool × V)
  | [.n a] => some ([], vb32 a)
  | _ => none
noncomputable def sRScalar : FSpec := spec [tfe] sRScalarF
noncomputable abbrev tabRScalar : List (FuncId × FSpec) := []
set_option maxRecDepth 100000 in
theorem tabokRScalar : TabOK Try.prog (tabOf tabRScalar) := TabOK.nil
set_option maxRecDepth 100000 in
theorem ok_RScalar : FnOK Try.prog 92 sRScalar := by
  refine fn_flat (cx := mkcx tabRScalar) (c := bodyOf Try.f92) Try.func92 (by kernel_rfl) (by kernel_rfl) rfl ?_
  intro ds chk v vs hF ht he hr base
  unfold sRScalarF at hF
  split at hF
  · rename_i a
    cases hF
    have hvs : vs = [vfe a] := by simp only [encA, encV, encP, encL, Option.some.injEq] at he; exact he.symm
    subst hvs
    obtain ⟨h1, _⟩ := hr
    exact runs_evS (mkok tabokRScalar) (n := 400) (bs0 := []) (v0 := .ag (.ps ((List.range' 0 32).map fun i => .int .u8 (wrapK .u8 (((digit 64 a (i / 8) : Nat) : Int) / ((2 ^ (8 * (i % 8)) : Nat) : Int)))))) (by kernel_rfl) (ent_b32 (f := fun i => wrapK .u8 (((digit 64 a (i / 8) : Nat) : Int) / ((2 ^ (8 * (i % 8)) : Nat) : Int))) (rng_fe h1) fun i _ => byte_eq _ i) trivial
  · cases hF

theorem may_bool (b : Bool) : decide ((bif b then (1 : Int) else 0) = 1) = b := by cases b <;> rfl

noncomputable def sRMayF : List D → Option (List Bool × V)
  | [.n a] => some ([], vbool' (minusB a 7237005577332262213973186563042994240857116359379907606001950938285454250989))
  | _ => none
noncomputable def sRMay : FSpec := spec [tb32] sRMayF
noncomputable abbrev tabRMay : List (FuncId × FSpec) := [(82, sLess), (83, sOrder), (81, sROf)]
set_option maxRecDepth 100000 in
theorem tabokRMay : TabOK Try.prog (tabOf tabRMay) := (.cons ok_Less (.cons ok_Order (.cons ok_ROf .nil)))
set_option maxRecDepth 100000 in
theorem ok_RMay : FnOK Try.prog 55 sRMay := by
  refine fn_flat (cx := mkcx tabRMay) (c := bodyOf Try.f55) Try.func55 (by kernel_rfl) (by kernel_rfl) rfl ?_
  intro ds chk v vs hF ht he hr base
  unfold sRMayF at hF
  split at hF
  · rename_i a
    cases hF
    have hvs : vs = [vb32 a] := by simp only [encA, encV, encP, encL, Option.some.injEq] at he; exact he.symm
    subst hvs
    rw [← may_bool (minusB a 7237005577332262213973186563042994240857116359379907606001950938285454250989)]
    exact runs_evS (mkok tabokRMay) (n := 400) (bs0 := []) (by kernel_rfl) (VEnt.refl _) trivial
  · cases hF

noncomputable def sRScOfF : List D → Option (List Bool × V)
  | [.i n] => some ([], vb32 n.toNat)
  | _ => none
noncomputable def sRScOf : FSpec := spec [tu64] sRScOfF
noncomputable abbrev tabRScOf : List (FuncId × FSpec) := [(92, sRScalar)]
set_option maxRecDepth 100000 in
theorem tabokRScOf : TabOK Try.prog (tabOf tabRScOf) := (.cons ok_RScalar .nil)
end Go.Proofs.Yteohgdpkdbckoaa

/-
  Contracts of the program's scalars: rest.
-/
namespace Go.Proofs.Yteohgdpkdbckoaa
open Go Vx Go.RowKit

abbrev twds : Ty := .one (.sl [.int .u64])
abbrev vwds (x : List (List D)) : V := .one (.rd [.int .u64] x)
def limbD (d : List D) : Nat := ((d.headD (.n 0)).toI).toNat
def limbs (x : List (List D)) : Nat := packL 64 (x.map limbD)
noncomputable def restP : Nat → Nat := hidden' fun n => n % 7237005577332262213973186563042994240857116359379907606001950938285454250989
theorem restP_eq (n : Nat) : restP n = n % 7237005577332262213973186563042994240857116359379907606001950938285454250989 := by unfold restP; rw [seal_eq]
def bitI (x : List (List D)) (i : Int) : Int := (((((x.getD (i.tdiv 64).toNat []).headD (.n 0)).toI / ((2 ^ min (i.tmod 64).toNat IntKind.u64.bits : Nat) : Int)).toNat &&& 1 : Nat) : Int)
def sh0 (w : Nat) (b : Int) : Int := (((wrapK .u64 (((digit 64 w 0 : Nat) : Int) * ((2 ^ min 1 64 : Nat) : Int))).toNat ||| b.toNat : Nat) : Int)
def shI (w i : Nat) : Int := (((wrapK .u64 (((digit 64 w (i + 1) : Nat) : Int) * ((2 ^ min 1 64 : Nat) : Int))).toNat ||| (((digit 64 w i : Nat) : Int) / ((2 ^ min 63 64 : Nat) : Int)).toNat : Nat) : Int)
def packW (w : Nat) (b : Int) : Nat := (sh0 w b).toNat + 2 ^ 64 * ((shI w 0).toNat + 2 ^ 64 * ((shI w 1).toNat + 2 ^ 64 * ((shI w 2).toNat + 2 ^ 64 * 0)))
theorem or_bit {a b : Nat} (hb : b < 2) : 2 * a ||| b = 2 * a + b := by
  have := Nat.two_pow_add_eq_or_of_lt (i := 1) (b := b) (by simpa using hb) a
  rw [Nat.pow_one] at this
  exact this.symm
theorem dbl_mod (d : Nat) : (wrapK .u64 ((d : Int) * ((2 ^ min 1 64 : Nat) : Int))).toNat = 2 * (d % 9223372036854775808) := by
  simp only [wrapK]
  have : ((2 ^ min 1 64 : Nat) : Int) = 2 := by decide
  rw [this]
  omega
theorem sh0_eq (w : Nat) {b : Nat} (hb : b < 2) : sh0 w b = ((2 * (digit 64 w 0 % 9223372036854775808) + b : Nat) : Int) := by
  unfold sh0
  rw [dbl_mod, Int.toNat_natCast, or_bit hb]
theorem shI_eq (w i : Nat) : shI w i = ((2 * (digit 64 w (i + 1) % 9223372036854775808) + digit 64 w i / 9223372036854775808 : Nat) : Int) := by
  unfold shI
  have h1 : (((digit 64 w i : Nat) : Int) / ((2 ^ min 63 64 : Nat) : Int)).toNat = digit 64 w i / 9223372036854775808 := by
    have : ((2 ^ min 63 64 : Nat) : Int) = ((9223372036854775808 : Nat) : Int) := by decide
    rw [this, ← Int.natCast_ediv, Int.toNat_natCast]
  have h2 : digit 64 w i < 18446744073709551616 := Nat.mod_lt _ (by decide)
  rw [dbl_mod, h1, or_bit (by omega)]
theorem packW_eq {w b : Nat} (hw : w < 7237005577332262213973186563042994240857116359379907606001950938285454250989) (hb : b < 2) : packW w b = 2 * w + b := by
  obtain ⟨ew, h0, h1, h2, h3⟩ := digits4 (show w < 115792089237316195423570985008687907853269984665640564039457584007913129639936 from Nat.lt_trans hw (by decide))
  unfold packW
  rw [sh0_eq w hb, shI_eq, shI_eq, shI_eq]
  simp only [Int.toNat_natCast, Nat.reducePow, Nat.zero_add, Nat.reduceAdd]
  have : digit 64 w 3 < 9223372036854775808 := by
    rcases Nat.lt_or_ge (digit 64 w 3) 9223372036854775808 with h | h
    · exact h
    · omega
  omega
theorem CEnt.of {c c' : C} (h : VEnt (.ag c) (.ag c')) : CEnt c c' := by
  intro σ xs hx
  obtain ⟨ys, e, hy⟩ := h σ (.agg xs.toArray) ⟨xs, rfl, hx⟩
  have : xs = ys := by simpa using e
  rw [this]; exact hy
theorem sh_ent {w b : Nat} (hw : w < 7237005577332262213973186563042994240857116359379907606001950938285454250989) (hb : b < 2) : CEnt (.ps [.int .u64 (sh0 w b), .int .u64 (shI w 0), .int .u64 (shI w 1), .int .u64 (shI w 2)]) (.ps [.pk .u64 64 4 (2 * w + b)]) := by
  refine CEnt.of (ent_fe ?_)
  exact packW_eq hw hb
theorem packL_bit : ∀ (l : List Nat) (q r : Nat), r < 64 → (∀ d ∈ l, d < 18446744073709551616) → packL 64 l / 2 ^ (64 * q + r) % 2 = l.getD q 0 / 2 ^ r % 2
  | [], q, r, _, _ => by simp [packL]
  | d :: l, 0, r, hr, _ => by
    simp only [packL, List.getD_cons_zero, Nat.mul_zero, Nat.zero_add]
    have e : (2 : Nat) ^ 64 = 2 ^ r * (2 * 2 ^ (63 - r)) := by
      rw [← Nat.pow_succ', ← Nat.pow_add]; congr 1; omega
    rw [e, Nat.mul_assoc, Nat.add_mul_div_left _ _ (Nat.pow_pos (by decide)), Nat.mul_assoc, Nat.add_mul_mod_self_left]
  | d :: l, q + 1, r, hr, h => by
    have hd := h d (by simp)
    have e : (2 : Nat) ^ (64 * (q + 1) + r) = 2 ^ 64 * 2 ^ (64 * q + r) := by rw [← Nat.pow_add]; congr 1; omega
    have e2 : packL 64 (d :: l) / 2 ^ 64 = packL 64 l := by
      simp only [packL]
      rw [Nat.add_mul_div_left _ _ (Nat.pow_pos (by decide)), Nat.div_eq_of_lt (by simpa using hd), Nat.zero_add]
    rw [e, ← Nat.div_div_eq_div_mul, e2, List.getD_cons_succ]
    exact packL_bit l q r hr (fun d hd => h d (by simp [hd]))
theorem limbs_lt {x : List (List D)} (hx : ∀ (i : Nat) (e : List D), x[i]? = some e → rngTs [.int .u64] e) : limbs x < 2 ^ (64 * x.length) := by
  unfold limbs
  induction x with
  | nil => simp [packL]
  | cons d x ih =>
    have ih := ih (fun i e h => hx (i + 1) e (by simpa using h))
    have h0 := hx 0 d rfl
    simp only [rngTs, rngT] at h0
    have h2 := (inK_unsigned rfl).1 h0.1
    have hd : limbD d < 18446744073709551616 := by
      unfold limbD
      have : ((2 ^ IntKind.u64.bits : Nat) : Int) = 18446744073709551616 := by decide
      omega
    simp only [List.map_cons, packL, List.length_cons]
    rw [Nat.mul_succ, Nat.pow_add, Nat.mul_comm (2 ^ (64 * x.length))]
    have e : (2 : Nat) ^ 64 = 18446744073709551616 := by decide
    rw [e]
    generalize (2 : Nat) ^ (64 * x.length) = m at *
    have : 18446744073709551616 * (packL 64 (x.map limbD) + 1) ≤ 18446744073709551616 * m := Nat.mul_le_mul_left _ ih
    omega
theorem bitI_eq {x : List (List D)} (hx : ∀ (i : Nat) (e : List D), x[i]? = some e → rngTs [.int .u64] e) {j : Nat} (hj : j < 64 * x.length) : bitI x (j : Int) = ((limbs x / 2 ^ j % 2 : Nat) : Int) := by
  have hq : ((j : Int).tdiv 64).toNat = j / 64 := by rw [Int.tdiv_eq_ediv_of_nonneg (by omega)]; omega
  have hr : ((j : Int).tmod 64).toNat = j % 64 := by rw [Int.tmod_eq_emod_of_nonneg (by omega)]; omega
  have hlt : j % 64 < 64 := Nat.mod_lt _ (by decide)
  have hmin : min (j % 64) IntKind.u64.bits = j % 64 := Nat.min_eq_left (Nat.le_of_lt hlt)
  have hql : j / 64 < x.length := by omega
  have hall : ∀ d ∈ x.map limbD, d < 18446744073709551616 := by
    intro d hd
    obtain ⟨e, he, rfl⟩ := List.mem_map.1 hd
    obtain ⟨i, hi⟩ := List.mem_iff_getElem?.1 he
    have := hx i e hi
    simp only [rngTs, rngT] at this
    have h2 := (inK_unsigned rfl).1 this.1
    unfold limbD
    have : ((2 ^ IntKind.u64.bits : Nat) : Int) = 18446744073709551616 := by decide
    omega
  have hb := packL_bit (x.map limbD) (j / 64) (j % 64) hlt hall
  rw [Nat.div_add_mod] at hb
  unfold bitI limbs
  rw [hq, hr, hmin, hb]
  have hge : 0 ≤ ((x.getD (j / 64) []).headD (.n 0)).toI := by
    rw [List.getD_eq_getElem?_getD, List.getElem?_eq_getElem hql, Option.getD_some]
    have := hx (j / 64) _ (List.getElem?_eq_getElem hql)
    simp only [rngTs, rngT] at this
    exact ((inK_unsigned rfl).1 this.1).1
  have hl : (x.map limbD).getD (j / 64) 0 = ((x.getD (j / 64) []).headD (.n 0)).toI.toNat := by
    rw [List.getD_eq_getElem?_getD, List.getElem?_map, List.getElem?_eq_getElem hql, List.getD_eq_getElem?_getD, List.getElem?_eq_getElem hql]
    rfl
  rw [hl]
  generalize ((x.getD (j / 64) []).headD (.n 0)).toI = z at *
  obtain ⟨n, rfl⟩ := Int.eq_ofNat_of_zero_le hge
  rw [← Int.natCast_ediv, Int.toNat_natCast, Int.toNat_natCast, Nat.and_one_is_mod]

def zq4 : List L := [.int .u64 0, .int .u64 0, .int .u64 0, .int .u64 0]
def stQ (x : List (List D)) (i : Int) (c : List L) : St := ⟨[vwds x, .junk, .one (.ptr 0 0), .one (.ptr 1 0), vi64 i] ++ List.replicate 47 .junk, [some ⟨123, .ps zq4⟩, some ⟨123, .ps c⟩]⟩
theorem stQ_ent {x : List (List D)} {i : Int} {c c' : List L} (h : CEnt (.ps c) (.ps c')) : StEnt (stQ x i c) (stQ x i c') := by
  refine ⟨rfl, fun _ => .inl rfl, fun j => ?_⟩
  match j with
  | 0 => exact .inl rfl
  | 1 => exact .inr ⟨_, _, _, rfl, rfl, h⟩
  | j + 2 => exact .inl rfl
theorem rest_step {n j w b : Nat} (hw : w = n / 2 ^ (j + 1) % 7237005577332262213973186563042994240857116359379907606001950938285454250989) (hb : b = n / 2 ^ j % 2) : (2 * w + b) % 7237005577332262213973186563042994240857116359379907606001950938285454250989 = n / 2 ^ j % 7237005577332262213973186563042994240857116359379907606001950938285454250989 := by
  have e : n / 2 ^ j = 2 * (n / 2 ^ (j + 1)) + b := by
    rw [Nat.pow_succ, ← Nat.div_div_eq_div_mul, hb]
    omega
  rw [e, hw]
  generalize n / 2 ^ (j + 1) = m
  clear e hw hb
  omega
theorem less_bool (c : Bool) : decide ((bif c then (1 : Int) else 0) = 0) = !c := by cases c <;> rfl

noncomputable def sRestF : List D → Option (List Bool × V)
  | [.l x] => some ([decide (x.length < 1099511627776)], vfe (restP (limbs x)))
  | _ => none
noncomputable def sRest : FSpec := spec [twds] sRestF
noncomputable abbrev tabRest : List (FuncId × FSpec) := [(82, sLess), (83, sOrder)]
set_option maxRecDepth 100000 in
theorem tabokRest : TabOK Try.prog (tabOf tabRest) := (.cons ok_Less (.cons ok_Order .nil))
set_option maxRecDepth 100000 in
theorem ok_Rest : FnOK Try.prog 91 sRest := by
  refine fn_flat (cx := mkcs tabRest) (c := bodyOf Try.f91) Try.func91 (by kernel_rfl) (by kernel_rfl) rfl ?_
  intro ds chk v vs hF ht he hr base
  unfold sRestF at hF
  split at hF
  · rename_i x
    cases hF
    have hvs : vs = [vwds x] := by simp only [encA, encV, encP, encL, Option.some.injEq] at he; exact he.symm
    subst hvs
    have hx : x.length < 1099511627776 := of_decide_eq_true (ht _ (by simp))
    obtain ⟨hrng, _⟩ := hr
    have hrng : ∀ (i : Nat) (e : List D), x[i]? = some e → rngTs [.int .u64] e := hrng.2
    have h0 : evLS (mkcs tabRest) 100 ((items (bodyOf Try.f91)).take 3) ⟨t0 Try.f91 [vwds x], []⟩ (kfg 0 [0, 2, 3, 4] [0, 1] 2) =
        chks [okK .i64 (x.length : Nat), okK .i64 (64 * (x.length : Nat)), okK .i64 (64 * (x.length : Nat) - 1)] (.done .normal (stQ x (64 * (x.length : Nat) - 1) zq4)) := by kernel_rfl
    rw [chks_true (allTc (okI (by omega) (by omega)) (allTc (okI (by omega) (by omega)) (allT1 (okI (by omega) (by omega)))))] at h0
    refine Runs.items _ _ _ (RunsL.preE (mkoks tabokRest) (k := 3) (st' := stQ x (((64 * x.length : Nat) : Int) - 1) [.pk .u64 64 4 0]) h0 ?_ ?_)
    · have e : ((64 * x.length : Nat) : Int) - 1 = 64 * (x.length : Nat) - 1 := by omega
      rw [e]
      exact stQ_ent (CEnt.of (ent_fe rfl))
    refine RunsL.loop (id := 0) (by kernel_rfl) (fun m s => ∃ w, s = stQ x ((m : Int) - 1) [.pk .u64 64 4 w] ∧ m ≤ 64 * x.length ∧ w = limbs x / 2 ^ m % 7237005577332262213973186563042994240857116359379907606001950938285454250989) (64 * x.length) ⟨0, rfl, Nat.le_refl _, ?_⟩ ?_
    · rw [Nat.div_eq_of_lt (limbs_lt hrng)]
    rintro m s ⟨w, rfl, hm, hw⟩
    cases m with
    | zero =>
      refine RunsL.allS (mkoks tabokRest) (n := 100) (kt := [0, 2, 3, 4]) (kh := [0, 1]) (m := 2) (e := .exit 0) (st' := stQ x (-1) [.pk .u64 64 4 w]) (by kernel_rfl) ?_
      have : restP (limbs x) = w := by rw [restP_eq, hw, Nat.pow_zero, Nat.div_one]
      rw [this]
      exact runsL_evS (mkoks tabokRest) (n := 100) (bs0 := []) (by kernel_rfl) (VEnt.refl _) trivial
    | succ j =>
      have hj : j < 64 * x.length := hm
      have hi : ((j + 1 : Nat) : Int) - 1 = (j : Int) := by omega
      rw [hi]
      have hwl : w < 7237005577332262213973186563042994240857116359379907606001950938285454250989 := by rw [hw]; exact Nat.mod_lt _ (by decide)
      have hev : ∀ i : Int, evLS (mkcs tabRest) 100 (items (loopAt (bodyOf Try.f91) 3)) (stQ x i [.pk .u64 64 4 w]) (kfg 0 [0, 2, 3, 4] [0, 1] 2) =
          bif decide ((0 : Int) ≤ i) then
          chks [okK .i64 (i.tdiv 64), decide ((0 : Int) ≤ i.tdiv 64), decide (i.tdiv 64 < (x.length : Nat)), decide ((0 : Int) ≤ i.tmod 64), okK .i64 1, okK .i64 2, okK .i64 3, okK .i64 4]
            (bif decide ((bif minusB (packW w (bitI x i)) 7237005577332262213973186563042994240857116359379907606001950938285454250989 then (1 : Int) else 0) = 0) then
              chks [okK .i64 (i - 1)] (.done .normal (stQ x (i - 1) [.pk .u64 64 4 (minusS (packW w (bitI x i)) 7237005577332262213973186563042994240857116359379907606001950938285454250989)]))
            else chks [okK .i64 (i - 1)] (.done .normal (stQ x (i - 1) [.int .u64 (sh0 w (bitI x i)), .int .u64 (shI w 0), .int .u64 (shI w 1), .int .u64 (shI w 2)])))
          else .done (.exit 0) (stQ x i [.pk .u64 64 4 w]) := by intro i; kernel_rfl
      have hev := hev (j : Int)
      have hq : (j : Int).tdiv 64 = ((j / 64 : Nat) : Int) := by rw [Int.tdiv_eq_ediv_of_nonneg (by omega)]; simp
      have hm' : (j : Int).tmod 64 = ((j % 64 : Nat) : Int) := by rw [Int.tmod_eq_emod_of_nonneg (by omega)]; simp
      have hc1 : allT [okK .i64 ((j : Int).tdiv 64), decide ((0 : Int) ≤ (j : Int).tdiv 64), decide ((j : Int).tdiv 64 < (x.length : Nat)), decide ((0 : Int) ≤ (j : Int).tmod 64), okK .i64 1, okK .i64 2, okK .i64 3, okK .i64 4] := by
        rw [hq, hm']
        refine allTc (okI (by omega) (by omega)) (allTc ?_ (allTc ?_ (allTc ?_ (allTc (okI (by omega) (by omega)) (allTc (okI (by omega) (by omega)) (allTc (okI (by omega) (by omega)) (allT1 (okI (by omega) (by omega)))))))))
        · rw [decide_eq_true_iff]; omega
        · rw [decide_eq_true_iff]; omega
        · rw [decide_eq_true_iff]; omega
      have hc2 : allT [okK .i64 ((j : Int) - 1)] := allT1 (okI (by omega) (by omega))
      have h00 : decide ((0 : Int) ≤ (j : Int)) = true := by rw [decide_eq_true_iff]; omega
      have hb2 : limbs x / 2 ^ j % 2 < 2 := Nat.mod_lt _ (by decide)
      rw [h00, cond_true, chks_true hc1, chks_true hc2, chks_true hc2, less_bool, bitI_eq hrng hj, packW_eq hwl hb2] at hev
      have hst := rest_step hw (b := limbs x / 2 ^ j % 2) rfl
      generalize limbs x / 2 ^ j % 2 = b at *
      rw [minusB_eq, minusS_eq] at hev
      by_cases hlt : 2 * w + b < 7237005577332262213973186563042994240857116359379907606001950938285454250989
      · rw [decide_eq_true hlt, Bool.not_true, cond_false] at hev
        exact RunsL.allE (mkoks tabokRest) hev (stQ_ent (sh_ent hwl hb2)) ⟨j, Nat.lt_succ_self j, _, rfl, Nat.le_of_lt hj, by rw [← hst, Nat.mod_eq_of_lt hlt]⟩
      · rw [decide_eq_false hlt, Bool.not_false, cond_true] at hev
        refine RunsL.allS (mkoks tabokRest) hev ⟨j, Nat.lt_succ_self j, _, rfl, Nat.le_of_lt hj, ?_⟩
        rw [← hst]
        clear hev hst hw
        omega
  · cases hF
end Go.Proofs.Yteohgdpkdbckoaa

/-
  Contracts of the program's scalars: out of bytes.
-/
namespace Go.Proofs.Yteohgdpkdbckoaa
open Go Vx Go.RowKit

def wordsL (n : Nat) : List (List D) := [[.i ((digit 64 n 0 : Nat) : Int)], [.i ((digit 64 n 1 : Nat) : Int)], [.i ((digit 64 n 2 : Nat) : Int)], [.i ((digit 64 n 3 : Nat) : Int)]]
theorem limbs_words {n : Nat} (h : n < 115792089237316195423570985008687907853269984665640564039457584007913129639936) : limbs (wordsL n) = n := by
  obtain ⟨en, _⟩ := digits4 h
  unfold limbs wordsL limbD
  simp only [List.map_cons, List.map_nil, List.headD_cons, D.toI, Int.toNat_natCast, packL, Nat.reducePow]
  omega
def orL (n : Nat) : List (List D) := [[.i (orw n 0 8)], [.i (orw n 1 8)], [.i (orw n 2 8)], [.i (orw n 3 8)], [.i (orw n 4 8)], [.i (orw n 5 8)], [.i (orw n 6 8)], [.i (orw n 7 8)]]
theorem limbs_or {n : Nat} (h : n < 2 ^ (8 * 64)) : limbs (orL n) = n := by
  unfold limbs orL limbD
  simp only [List.map_cons, List.map_nil, List.headD_cons, D.toI, orw_digit, Int.toNat_natCast]
  have := packL_digits 64 n 8 0
  rw [Nat.mul_zero, Nat.pow_zero, Nat.div_one, show 64 * 8 = 8 * 64 from rfl, Nat.mod_eq_of_lt h] at this
  exact this
theorem restP_lt (n : Nat) : restP n < 7237005577332262213973186563042994240857116359379907606001950938285454250989 := by rw [restP_eq]; exact Nat.mod_lt _ (by decide)

noncomputable def sRCanonF : List D → Option (List Bool × V)
  | [.n a] => some ([], vfe (restP a))
  | _ => none
noncomputable def sRCanon : FSpec := spec [tb32] sRCanonF
noncomputable abbrev tabRCanon : List (FuncId × FSpec) := [(81, sROf), (91, sRest)]
set_option maxRecDepth 100000 in
theorem tabokRCanon : TabOK Try.prog (tabOf tabRCanon) := (.cons ok_ROf (.cons ok_Rest .nil))

noncomputable def sRWideF : List D → Option (List Bool × V)
  | [.n b] => some ([], vb32 (restP b))
  | _ => none
noncomputable def sRWide : FSpec := spec [tb64] sRWideF
noncomputable abbrev tabRWide : List (FuncId × FSpec) := [(92, sRScalar), (91, sRest)]
set_option maxRecDepth 100000 in
theorem tabokRWide : TabOK Try.prog (tabOf tabRWide) := (.cons ok_RScalar (.cons ok_Rest .nil))
set_option maxRecDepth 100000 in
theorem ok_RWide : FnOK Try.prog 85 sRWide := by
  refine fn_flat (cx := mkcx tabRWide) (c := bodyOf Try.f85) Try.func85 (by kernel_rfl) (by kernel_rfl) rfl ?_
  intro ds chk v vs hF ht he hr base
  unfold sRWideF at hF
  split at hF
  · rename_i b
    cases hF
    have hvs : vs = [vb64 b] := by simp only [encA, encV, encP, encL, Option.some.injEq] at he; exact he.symm
    subst hvs
    obtain ⟨h1, _⟩ := hr
    have e := limbs_or (rng_b64 h1)
    have hw : restP b = restP (limbs (orL b)) := by rw [e]
    rw [hw]
    exact runs_evS (mkok tabokRWide) (n := 600) (bs0 := []) (by kernel_rfl) (VEnt.refl _) trivial
  · cases hF

noncomputable def sRPlusF : List D → Option (List Bool × V)
  | [.n a, .n b] => some ([], vb32 (restP (restP a + restP b)))
  | _ => none
noncomputable def sRPlus : FSpec := spec [tb32, tb32] sRPlusF
end Go.Proofs.Yteohgdpkdbckoaa

/-
  Contracts of the program's scalars and of algebra: small ones.
-/
namespace Go.Proofs.Yteohgdpkdbckoaa
open Go Vx Go.RowKit

noncomputable def sRMinusF : List D → Option (List Bool × V)
  | [.n a, .n b] => some ([], vb32 (restP (restP a + restP (minusS 7237005577332262213973186563042994240857116359379907606001950938285454250989 (restP b)))))
  | _ => none
noncomputable def sRMinus : FSpec := spec [tb32, tb32] sRMinusF

noncomputable def sAIsPointF : List D → Option (List Bool × V)
  | [.n p] => some ([], vbool' (rdecBP p))
  | _ => none
noncomputable def sAIsPoint : FSpec := spec [tb32] sAIsPointF
noncomputable abbrev tabAIsPoint : List (FuncId × FSpec) := [(22, sRDec)]
set_option maxRecDepth 100000 in
theorem tabokAIsPoint : TabOK Try.prog (tabOf tabAIsPoint) := (.cons ok_RDec .nil)
set_option maxRecDepth 100000 in
theorem ok_AIsPoint : FnOK Try.prog 15 sAIsPoint := by
  refine fn_flat (cx := mkcx tabAIsPoint) (c := bodyOf Try.f15) Try.func15 (by kernel_rfl) (by kernel_rfl) rfl ?_
  intro ds chk v vs hF ht he hr base
  unfold sAIsPointF at hF
  split at hF
  · rename_i p
    cases hF
    have hvs : vs = [vb32 p] := by simp only [encA, encV, encP, encL, Option.some.injEq] at he; exact he.symm
    subst hvs
    exact runs_evS (mkok tabokAIsPoint) (n := 400) (bs0 := []) (by kernel_rfl) (VEnt.refl _) trivial
  · cases hF

noncomputable def sAIsScalarF : List D → Option (List Bool × V)
  | [.n s] => some ([], vbool' (minusB s 7237005577332262213973186563042994240857116359379907606001950938285454250989))
  | _ => none
noncomputable def sAIsScalar : FSpec := spec [tb32] sAIsScalarF
noncomputable abbrev tabAIsScalar : List (FuncId × FSpec) := [(55, sRMay)]
set_option maxRecDepth 100000 in
theorem tabokAIsScalar : TabOK Try.prog (tabOf tabAIsScalar) := (.cons ok_RMay .nil)
set_option maxRecDepth 100000 in
theorem ok_AIsScalar : FnOK Try.prog 53 sAIsScalar := by
  refine fn_flat (cx := mkcx tabAIsScalar) (c := bodyOf Try.f53) Try.func53 (by kernel_rfl) (by kernel_rfl) rfl ?_
  intro ds chk v vs hF ht he hr base
  unfold sAIsScalarF at hF
  split at hF
  · rename_i s
    cases hF
    have hvs : vs = [vb32 s] := by simp only [encA, encV, encP, encL, Option.some.injEq] at he; exact he.symm
    subst hvs
    exact runs_evS (mkok tabokAIsScalar) (n := 400) (bs0 := []) (by kernel_rfl) (VEnt.refl _) trivial
  · cases hF

noncomputable def sAOfF : List D → Option (List Bool × V)
  | [.i n] => some ([], vb32 n.toNat)
  | _ => none
noncomputable def sAOf : FSpec := spec [tu64] sAOfF

noncomputable def sABaseF : List D → Option (List Bool × V)
  | [] => some ([], vb32 (rencP (baseP ())))
  | _ => none
noncomputable def sABase : FSpec := spec [] sABaseF
noncomputable abbrev tabABase : List (FuncId × FSpec) := [(29, sREnc), (30, sEBase)]
set_option maxRecDepth 100000 in
theorem tabokABase : TabOK Try.prog (tabOf tabABase) := (.cons ok_REnc (.cons ok_EBase .nil))
set_option maxRecDepth 100000 in
theorem ok_ABase : FnOK Try.prog 20 sABase := by
  refine fn_flat (cx := mkcx tabABase) (c := bodyOf Try.f20) Try.func20 (by kernel_rfl) (by kernel_rfl) rfl ?_
  intro ds chk v vs hF ht he hr base
  unfold sABaseF at hF
  split at hF
  · cases hF
    have hvs : vs = [] := by simp only [encA, Option.some.injEq] at he; exact he.symm
    subst hvs
    exact runs_evS (mkok tabokABase) (n := 400) (bs0 := []) (by kernel_rfl) (VEnt.refl _) trivial
  · cases hF

noncomputable def sAMapF : List D → Option (List Bool × V)
  | [.n b] => some ([], vb32 (rencP (rmapP b)))
  | _ => none
noncomputable def sAMap : FSpec := spec [tb64] sAMapF

noncomputable def sAReduceF : List D → Option (List Bool × V)
  | [.n b] => some ([], vb32 (restP b))
  | _ => none
noncomputable def sAReduce : FSpec := spec [tb64] sAReduceF
noncomputable abbrev tabAReduce : List (FuncId × FSpec) := [(85, sRWide)]
set_option maxRecDepth 100000 in
theorem tabokAReduce : TabOK Try.prog (tabOf tabAReduce) := (.cons ok_RWide .nil)
set_option maxRecDepth 100000 in
theorem ok_AReduce : FnOK Try.prog 58 sAReduce := by
  refine fn_flat (cx := mkcx tabAReduce) (c := bodyOf Try.f58) Try.func58 (by kernel_rfl) (by kernel_rfl) rfl ?_
  intro ds chk v vs hF ht he hr base
  unfold sAReduceF at hF
  split at hF
  · rename_i b
    cases hF
    have hvs : vs = [vb64 b] := by simp only [encA, encV, encP, encL, Option.some.injEq] at he; exact he.symm
    subst hvs
    exact runs_evS (mkok tabokAReduce) (n := 400) (bs0 := []) (by kernel_rfl) (VEnt.refl _) trivial
  · cases hF

def ub0 : List L := [.int .u8 0, .int .u8 0, .int .u8 0, .int .u8 0, .int .u8 0, .int .u8 0, .int .u8 0, .int .u8 0, .int .u8 0, .int .u8 0, .int .u8 0, .int .u8 0, .int .u8 0, .int .u8 0, .int .u8 0, .int .u8 0, .int .u8 0, .int .u8 0, .int .u8 0, .int .u8 0, .int .u8 0, .int .u8 0, .int .u8 0, .int .u8 0, .int .u8 0, .int .u8 0, .int .u8 0, .int .u8 0, .int .u8 0, .int .u8 0, .int .u8 0, .int .u8 0]
theorem ub0_ent : VEnt (.ag (.ps ub0)) (vb32 0) := VEnt.dec (t := tb32) (ds := [.n 0]) rfl rfl

noncomputable def sAIdentityF : List D → Option (List Bool × V)
  | [] => some ([], vb32 0)
  | _ => none
noncomputable def sAIdentity : FSpec := spec [] sAIdentityF
noncomputable abbrev tabAIdentity : List (FuncId × FSpec) := []
set_option maxRecDepth 100000 in
theorem tabokAIdentity : TabOK Try.prog (tabOf tabAIdentity) := TabOK.nil
end Go.Proofs.Yteohgdpkdbckoaa

/-
  Contracts of the document's scalars: small ones.
-/
namespace Go.Proofs.Yteohgdpkdbckoaa
open Go Vx Go.RowKit

noncomputable def sSOrderF : List D → Option (List Bool × V)
  | [] => some ([], vb32 7237005577332262213973186563042994240857116359379907606001950938285454250989)
  | _ => none
noncomputable def sSOrder : FSpec := spec [] sSOrderF
noncomputable abbrev tabSOrder : List (FuncId × FSpec) := []
set_option maxRecDepth 100000 in
theorem tabokSOrder : TabOK Try.prog (tabOf tabSOrder) := TabOK.nil

noncomputable def treeC (a l : Nat) : Nat → Out
  | 0 => outV (vbool' false)
  | i + 1 => bif !decide (((digit 8 a i : Nat) : Int) = ((digit 8 l i : Nat) : Int)) then outV (vbool' (decide (((digit 8 a i : Nat) : Int) < ((digit 8 l i : Nat) : Int)))) else treeC a l i
theorem mod8 (a m : Nat) : a % 2 ^ (8 * (m + 1)) = a % 2 ^ (8 * m) + 2 ^ (8 * m) * digit 8 a m := by
  rw [show 8 * (m + 1) = 8 * m + 8 from rfl, Nat.pow_add, Nat.mod_mul]
  rfl
theorem treeC_eq (a l : Nat) : ∀ m, treeC a l m = outV (vbool' (decide (a % 2 ^ (8 * m) < l % 2 ^ (8 * m))))
  | 0 => by simp [treeC, Nat.mod_one]
  | m + 1 => by
    have h1 : a % 2 ^ (8 * m) < 2 ^ (8 * m) := Nat.mod_lt _ (Nat.pow_pos (by decide))
    have h2 : l % 2 ^ (8 * m) < 2 ^ (8 * m) := Nat.mod_lt _ (Nat.pow_pos (by decide))
    unfold treeC
    rw [treeC_eq a l m, mod8 a m, mod8 l m]
    generalize a % 2 ^ (8 * m) = x at *
    generalize l % 2 ^ (8 * m) = y at *
    generalize digit 8 a m = d at *
    generalize digit 8 l m = e at *
    generalize 2 ^ (8 * m) = M at *
    cases hd : decide (((d : Nat) : Int) = ((e : Nat) : Int)) with
    | true =>
      have : d = e := by have := of_decide_eq_true hd; omega
      subst this
      simp only [Bool.not_true, cond_false]
      congr 2
      refine decide_eq_decide.2 ⟨fun h => by omega, fun h => by omega⟩
    | false =>
      have hne : d ≠ e := by have := of_decide_eq_false hd; omega
      simp only [Bool.not_false, cond_true]
      congr 2
      refine decide_eq_decide.2 ⟨fun h => ?_, fun h => ?_⟩
      · have h3 : d + 1 ≤ e := by omega
        have h4 : M * (d + 1) ≤ M * e := Nat.mul_le_mul_left _ h3
        rw [Nat.mul_succ] at h4
        omega
      · rcases Nat.lt_or_ge d e with h3 | h3
        · omega
        · exfalso
          have h3 : e + 1 ≤ d := by omega
          have h4 : M * (e + 1) ≤ M * d := Nat.mul_le_mul_left _ h3
          rw [Nat.mul_succ] at h4
          omega
theorem may_eq {a : Nat} (h : a < 115792089237316195423570985008687907853269984665640564039457584007913129639936) : decide (a % 2 ^ (8 * 32) < 7237005577332262213973186563042994240857116359379907606001950938285454250989 % 2 ^ (8 * 32)) = minusB a 7237005577332262213973186563042994240857116359379907606001950938285454250989 := by
  rw [minusB_eq, show (2 : Nat) ^ (8 * 32) = 115792089237316195423570985008687907853269984665640564039457584007913129639936 from by decide +kernel, Nat.mod_eq_of_lt h, Nat.mod_eq_of_lt (show 7237005577332262213973186563042994240857116359379907606001950938285454250989 < 115792089237316195423570985008687907853269984665640564039457584007913129639936 from by decide)]

noncomputable def sSMayF : List D → Option (List Bool × V)
  | [.n a] => some ([], vbool' (minusB a 7237005577332262213973186563042994240857116359379907606001950938285454250989))
  | _ => none
noncomputable def sSMay : FSpec := spec [tb32] sSMayF

noncomputable def sSIsScalarF : List D → Option (List Bool × V)
  | [.n s] => some ([], vbool' (minusB s 7237005577332262213973186563042994240857116359379907606001950938285454250989))
  | _ => none
noncomputable def sSIsScalar : FSpec := spec [tb32] sSIsScalarF
end Go.Proofs.Yteohgdpkdbckoaa
