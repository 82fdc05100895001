/-
  The law RistoMapped answers true.
-/
import Derived.Test.YtpoikjcgdojjjaaL2
import Derived.Test.YtpoikjcgdojjjaaM2
namespace Go.Proofs.Ytpoikjcgdojjjaa
open Go Vx Go.RowKit

theorem packL_app (b : Nat) : ∀ (l m : List Nat), packL b (l ++ m) = packL b l + 2 ^ (b * l.length) * packL b m
  | [], m => by simp [packL]
  | e :: l, m => by
    simp only [List.cons_append, packL, packL_app b l m, List.length_cons]
    rw [Nat.mul_succ, Nat.pow_add, Nat.mul_add, Nat.mul_comm (2 ^ (b * l.length)) (2 ^ b), Nat.mul_assoc]
    omega
theorem packL_lt8 : ∀ (l : List Nat), (∀ d ∈ l, d < 256) → packL 8 l < 2 ^ (8 * l.length)
  | [], _ => by simp [packL]
  | e :: l, h => by
    have h1 := h e (by simp)
    have h2 := packL_lt8 l (fun d hd => h d (by simp [hd]))
    simp only [packL, List.length_cons]
    rw [Nat.mul_succ, Nat.pow_add, Nat.mul_comm (2 ^ (8 * l.length))]
    have e8 : (2 : Nat) ^ 8 = 256 := by decide
    rw [e8]
    generalize (2 : Nat) ^ (8 * l.length) = m at *
    have : 256 * (packL 8 l + 1) ≤ 256 * m := Nat.mul_le_mul_left _ h2
    omega
theorem dig8_lt (n i : Nat) : digit 8 n i < 256 := Nat.mod_lt _ (by decide)
theorem lo_pack {l m : List Nat} (hl : l.length = 32) (h : ∀ d ∈ l, d < 256) : lo256P (packL 8 (l ++ m)) = packL 8 l ∧ hi256P (packL 8 (l ++ m)) = packL 8 m := by
  have h1 := packL_lt8 l h
  rw [hl] at h1
  rw [packL_app, hl, lo256P_eq, hi256P_eq]
  have e : 8 * 32 = 256 := rfl
  rw [e] at *
  generalize packL 8 l = a at *
  generalize packL 8 m = b
  have hp : 0 < 2 ^ 256 := Nat.pow_pos (by decide)
  refine ⟨?_, ?_⟩
  · rw [Nat.add_mul_mod_self_left, Nat.mod_eq_of_lt h1]
  · rw [Nat.add_mul_div_left _ _ hp, Nat.div_eq_of_lt h1, Nat.zero_add]
/-- The highest bit is nothing. -/
theorem mask_top {n x : Nat} (hx : x % 128 = digit 8 n 31 % 128) : maskP (packL 8 ((List.range' 0 31).map (digit 8 n) ++ [x])) = n % 2 ^ 255 := by
  rw [maskP_eq, packL_app, packL_digits]
  simp only [List.length_map, List.length_range', packL, Nat.mul_zero, Nat.add_zero, Nat.pow_zero, Nat.div_one]
  have e : (255 : Nat) = 8 * 31 + 7 := rfl
  have e2 : n % 2 ^ 255 = n % 2 ^ (8 * 31) + 2 ^ (8 * 31) * (digit 8 n 31 % 128) := by
    rw [e, Nat.pow_add, Nat.mod_mul]
    unfold digit
    congr 2
    rw [show (2 : Nat) ^ 8 = 128 * 2 from by decide, Nat.mod_mul_right_mod]
  rw [e2, ← hx, e, Nat.pow_add]
  have h1 : n % 2 ^ (8 * 31) < 2 ^ (8 * 31) := Nat.mod_lt _ (Nat.pow_pos (by decide))
  generalize n % 2 ^ (8 * 31) = a at *
  generalize (2 : Nat) ^ (8 * 31) = m at *
  have hm : 0 < m := by omega
  rw [Nat.mod_mul, Nat.add_mul_mod_self_left, Nat.mod_eq_of_lt h1, Nat.add_mul_div_left _ _ hm, Nat.div_eq_of_lt h1, Nat.zero_add]
theorem xor_top (n : Nat) : (n ^^^ 128) % 128 = n % 128 := by
  have := Nat.xor_mod_two_pow (a := n) (b := 128) (n := 7)
  rw [show (2 : Nat) ^ 7 = 128 from by decide] at this
  rw [this]
  simp
theorem mask_lo (n : Nat) : maskP (lo256P n) = n % 2 ^ 255 := by
  rw [maskP_eq, lo256P_eq, Nat.mod_mod_of_dvd]
  exact Nat.pow_dvd_pow 2 (by decide)
theorem mask_hi (n : Nat) : maskP (hi256P n) = n / 2 ^ 256 % 2 ^ 255 := by rw [maskP_eq, hi256P_eq]
theorem map_congr {b c : Nat} (h1 : maskP (lo256P c) = maskP (lo256P b)) (h2 : maskP (hi256P c) = maskP (hi256P b)) : rmapP c = rmapP b := by
  rw [rmapP_eq, rmapP_eq]
  unfold rmap0
  rw [h1, h2]
theorem map_swap {b d : Nat} (h1 : maskP (lo256P d) = maskP (hi256P b)) (h2 : maskP (hi256P d) = maskP (lo256P b)) : equP (rmapP d) (rmapP b) = true := by
  obtain ⟨P, Q, e1, e2, r1, r2, r3⟩ := map_rep b
  have r4 : RepP (rmapP d) (Q + P) := by
    rw [rmapP_eq]
    unfold rmap0
    rw [h1, h2]
    exact add_rep r2 r1
  refine (equ_co r4 r3).2 ?_
  rw [E.add_comm]
  exact co_refl _
theorem map_there (b : Nat) : onPt (rmapP b) = true ∧ rdecBP (rencP (rmapP b)) = true ∧ equP (rmapP b) (rdecP (rencP (rmapP b))) = true ∧ equP (rmapP b) (rmapP b) = true := by
  obtain ⟨P, Q, e1, e2, r1, r2, r3⟩ := map_rep b
  obtain ⟨h4, R, hR, cR, _⟩ := dec_enc r3 (ev_add e1 e2)
  exact ⟨onPt_iff.2 ⟨_, r3⟩, h4, (equ_co r3 hR).2 cR, (equ_co r3 r3).2 (co_refl _)⟩

def flipN (b i : Nat) : Nat := (((((digit 8 b i : Nat) : Int)).toNat ^^^ (128 : Int).toNat : Nat) : Int).toNat
def dgN (b i : Nat) : Nat := (((digit 8 b i : Nat) : Int)).toNat
def l1 (b k : Nat) : List Nat := (List.range' k 31).map (dgN b) ++ [flipN b (k + 31)]
def l2 (b k : Nat) : List Nat := (List.range' k 32).map (dgN b)
theorem dgN_eq (b i : Nat) : dgN b i = digit 8 b i := by unfold dgN; exact Int.toNat_natCast _
theorem flipN_eq (b i : Nat) : flipN b i = digit 8 b i ^^^ 128 := by unfold flipN; rw [Int.toNat_natCast, Int.toNat_natCast]; rfl
theorem l1_eq (b k : Nat) : l1 b k = (List.range' 0 31).map (digit 8 (b / 2 ^ (8 * k))) ++ [digit 8 (b / 2 ^ (8 * k)) 31 ^^^ 128] := by
  unfold l1
  rw [flipN_eq]
  have e : ∀ i, digit 8 b (k + i) = digit 8 (b / 2 ^ (8 * k)) i := by
    intro i
    unfold digit
    rw [Nat.div_div_eq_div_mul, ← Nat.pow_add]
    congr 3
    omega
  rw [e, List.range'_eq_map_range, List.map_map, List.range'_eq_map_range, List.map_map]
  congr 1
  refine List.map_congr_left fun i _ => ?_
  simp only [Function.comp, dgN_eq]
  rw [← e]
  congr 1
  omega
theorem l2_eq (b k : Nat) : packL 8 (l2 b k) = b / 2 ^ (8 * k) % 2 ^ 256 := by
  unfold l2
  rw [List.map_congr_left (g := digit 8 b) (fun i _ => dgN_eq b i), packL_digits]
theorem l1_len (b k : Nat) : (l1 b k).length = 32 := by simp [l1]
theorem l2_len (b k : Nat) : (l2 b k).length = 32 := by simp [l2]
theorem l2_lt (b k : Nat) : ∀ d ∈ l2 b k, d < 256 := by
  intro d hd
  obtain ⟨i, _, rfl⟩ := List.mem_map.1 hd
  rw [dgN_eq]; exact dig8_lt _ _
theorem l1_lt (b k : Nat) : ∀ d ∈ l1 b k, d < 256 := by
  intro d hd
  rcases List.mem_append.1 hd with hd | hd
  · obtain ⟨i, _, rfl⟩ := List.mem_map.1 hd
    rw [dgN_eq]; exact dig8_lt _ _
  · rw [List.mem_singleton.1 hd, flipN_eq]
    exact Nat.xor_lt_two_pow (n := 8) (dig8_lt _ _) (by decide)
theorem l1_mask (b k : Nat) : maskP (packL 8 (l1 b k)) = b / 2 ^ (8 * k) % 2 ^ 255 := by
  rw [l1_eq]
  exact mask_top (xor_top _)
theorem l2_mask (b k : Nat) : maskP (packL 8 (l2 b k)) = b / 2 ^ (8 * k) % 2 ^ 255 := by
  rw [l2_eq, maskP_eq, Nat.mod_mod_of_dvd]
  exact Nat.pow_dvd_pow 2 (by decide)
theorem d0 (b : Nat) : b / 2 ^ (8 * 0) = b := by rw [Nat.mul_zero, Nat.pow_zero, Nat.div_one]
theorem flip_same (b : Nat) : rmapP (packL 8 (l1 b 0 ++ l1 b 32)) = rmapP b := by
  obtain ⟨h1, h2⟩ := lo_pack (m := l1 b 32) (l1_len b 0) (l1_lt b 0)
  refine map_congr ?_ ?_
  · rw [h1, l1_mask, mask_lo, d0]
  · rw [h2, l1_mask, mask_hi]
theorem swap_same (b : Nat) : equP (rmapP (packL 8 (l2 b 32 ++ l2 b 0))) (rmapP b) = true := by
  obtain ⟨h1, h2⟩ := lo_pack (m := l2 b 0) (l2_len b 32) (l2_lt b 32)
  refine map_swap ?_ ?_
  · rw [h1, l2_mask, mask_hi]
  · rw [h2, l2_mask, mask_lo, d0]
def treeMp (a b c d e : Bool) : Out := bif a then (bif b then (bif c then (bif d then (bif e then outV (vbool' true) else outV (vbool' false)) else outV (vbool' false)) else outV (vbool' false)) else outV (vbool' false)) else outV (vbool' false)
theorem mp_facts (b : Nat) : treeMp (onPt (rmapP b)) (rdecBP (rencP (rmapP b))) (equP (rmapP b) (rdecP (rencP (rmapP b)))) (equP (rmapP (packL 8 (l1 b 0 ++ l1 b 32))) (rmapP b)) (equP (rmapP (packL 8 (l2 b 32 ++ l2 b 0))) (rmapP b)) = outV (vbool' true) := by
  obtain ⟨h1, h2, h3, h4⟩ := map_there b
  rw [h1, h2, h3, flip_same, h4, swap_same]
  rfl

noncomputable def sRistoMappedF : List D → Option (List Bool × V)
  | [.n _] => some ([], vbool' true)
  | _ => none
noncomputable def sRistoMapped : FSpec := spec [tb64] sRistoMappedF
noncomputable abbrev tabRistoMapped : List (FuncId × FSpec) := [(35, sRMap), (25, sREnc), (17, sRDec), (34, sEOn), (23, sREqu), (19, sKnown4)]
set_option maxRecDepth 100000 in
theorem tabokRistoMapped : TabOK Try.prog (tabOf tabRistoMapped) := (.cons ok_RMap (.cons ok_REnc (.cons ok_RDec (.cons ok_EOn (.cons ok_REqu (.cons ok_Known4 .nil))))))
set_option maxRecDepth 100000 in
theorem ok_RistoMapped : FnOK Try.prog 10 sRistoMapped := by
  refine fn_flat (cx := mkcx tabRistoMapped) (c := bodyOf Try.f10) Try.func10 (by kernel_rfl) (by kernel_rfl) rfl ?_
  intro ds chk v vs hF ht he hr base
  unfold sRistoMappedF at hF
  split at hF
  · rename_i b
    cases hF
    have hvs : vs = [vb64 b] := by simp only [encA, encV, encP, encL, Option.some.injEq] at he; exact he.symm
    subst hvs
    exact runs_evS (mkok tabokRistoMapped) (n := 200) (bs0 := []) (h := Eq.trans (by kernel_rfl) (mp_facts b)) (VEnt.refl _) trivial
  · cases hF
end Go.Proofs.Ytpoikjcgdojjjaa
