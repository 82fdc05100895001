/-
  Contracts of the program's group: Times.
-/
import Derived.Test.YtpoikjcgdojjjaaLb43
import Derived.Test.YtpoikjcgdojjjaaPu3
import Derived.Test.YtpoikjcgdojjjaaVx27
namespace Go.Proofs.Ytpoikjcgdojjjaa
open Go Vx Go.RowKit

def ptL (q : P4) : List L := [.pk .u64 64 4 q.x, .pk .u64 64 4 q.y, .pk .u64 64 4 q.z, .pk .u64 64 4 q.t]
noncomputable def stE (k : Nat) (tb : C) (i : V) (o : P4) : St := ⟨[.junk, .junk, .one (.ptr 0 0), .junk, .one (.ptr 2 0), .junk, .one (.ptr 6 0), .one (.ptr 8 0), .junk, .one (.ptr 25 0), i] ++ List.replicate 46 .junk,
  [some ⟨70, .ps [.pk .u8 8 32 k]⟩, none, some ⟨27, .ps [.int .u64 0, .int .u64 0, .int .u64 0, .int .u64 0, .int .u64 0, .int .u64 0, .int .u64 0, .int .u64 0, .int .u64 0, .int .u64 0, .int .u64 0, .int .u64 0, .int .u64 0, .int .u64 0, .int .u64 0, .int .u64 0]⟩, none, none, none, some ⟨25, .ps [.pk .u64 64 4 (addP dP dP)]⟩, none, some ⟨142, tb⟩] ++ List.replicate 16 none ++ [some ⟨27, .ps (ptL o)⟩]⟩
theorem stE_ent {k : Nat} {i : V} {o : P4} {s s' : C} (h : CEnt s s') (h1 : s = .dead → s' = .dead) (h2 : ∀ ts, s = .row ts [] → ∃ ts', s' = .row ts' []) : StEntG (stE k s i o) (stE k s' i o) := by
  refine ⟨rfl, fun _ => .inl rfl, fun j => ?_⟩
  match j with
  | 0 | 1 | 2 | 3 | 4 | 5 | 6 | 7 => exact .inl rfl
  | 8 => exact .inr ⟨_, _, _, rfl, rfl, h, h1, h2⟩
  | j + 9 => exact .inl rfl
/-- Four bits of a scalar. -/
theorem nib_eq {k j : Nat} : ((((digit 8 k (0 + ((j : Int).tdiv 2).toNat) : Nat) : Int) / ((2 ^ min (4 * (j : Int).tmod 2).toNat IntKind.u8.bits : Nat) : Int)).toNat &&& 15 : Nat) = k / 2 ^ (4 * j) % 16 := by
  have h1 : ((j : Int).tdiv 2).toNat = j / 2 := by
    rw [Int.tdiv_eq_ediv_of_nonneg (by omega)]; omega
  have h2 : min (4 * (j : Int).tmod 2).toNat IntKind.u8.bits = 4 * (j % 2) := by
    rw [Int.tmod_eq_emod_of_nonneg (by omega)]
    show min (4 * ((j : Int) % 2)).toNat 8 = 4 * (j % 2)
    omega
  have h3 : ∀ n : Nat, n &&& 15 = n % 16 := fun n => Nat.and_two_pow_sub_one_eq_mod n 4
  rw [h1, h2, h3, ← Int.natCast_ediv, Int.toNat_natCast, Nat.zero_add]
  unfold digit
  have hlt : j % 2 < 2 := Nat.mod_lt _ (by decide)
  have e2 : (2 : Nat) ^ 8 = 2 ^ (4 * (j % 2)) * 2 ^ (8 - 4 * (j % 2)) := by rw [← Nat.pow_add]; congr 1; omega
  rw [e2, Nat.mod_mul_right_div_self, Nat.div_div_eq_div_mul, ← Nat.pow_add]
  have e3 : (2 : Nat) ^ (8 - 4 * (j % 2)) = 16 * 2 ^ (4 - 4 * (j % 2)) := by
    rw [show (16 : Nat) = 2 ^ 4 from rfl, ← Nat.pow_add]; congr 1; omega
  rw [e3, Nat.mod_mul_right_mod]
  congr 3
  omega
theorem tmR_step (k : Nat) (p : P4) {j : Nat} (hj : j < 64) : sumP (dbl4 (tmR k p (64 - (j + 1)))) (tbl p (k / 2 ^ (4 * j) % 16)) (addP dP dP) = tmR k p (64 - j) := by
  have : 64 - j = (64 - (j + 1)) + 1 := by omega
  rw [this, tmR, show 63 - (64 - (j + 1)) = j by omega]

noncomputable def sETimesF : List D → Option (List Bool × V)
  | [.n k, .n x, .n y, .n z, .n t] => some ([], vpP (tmP k ⟨x, y, z, t⟩))
  | _ => none
noncomputable def sETimes : FSpec := spec [tb32, tpt] sETimesF
noncomputable abbrev tabETimes : List (FuncId × FSpec) := [(92, sEsum), (65, sED), (64, sLAdd), (31, sEId)]
set_option maxRecDepth 100000 in
theorem tabokETimes : TabOK Try.prog (tabOf tabETimes) := (.cons ok_Esum (.cons ok_ED (.cons ok_LAdd (.cons ok_EId .nil))))
set_option maxRecDepth 100000 in
theorem ok_ETimes : FnOK Try.prog 103 sETimes := by
  refine fn_flat (cx := mkcx tabETimes) (c := bodyOf Try.f103) Try.func103 (by kernel_rfl) (by kernel_rfl) rfl ?_
  intro ds chk v vs hF ht he hr base
  unfold sETimesF at hF
  split at hF
  · rename_i k x y z t
    cases hF
    have hvs : vs = [vb32 k, vpt x y z t] := by simp only [encA, encV, encP, encL, Option.some.injEq] at he; exact he.symm
    subst hvs
    rw [tmP_eq]
    generalize hp : (⟨x, y, z, t⟩ : P4) = p
    have hx : x = p.x := by rw [← hp]
    have hy : y = p.y := by rw [← hp]
    have hz : z = p.z := by rw [← hp]
    have ht' : t = p.t := by rw [← hp]
    subst hx hy hz ht'
    clear hp
    refine Runs.items _ _ _ (RunsL.preG (mkok tabokETimes) (n := 100) (k := 8) (kt := [2, 4, 6, 7, 9, 10]) (kh := [0, 2, 6, 8, 25]) (m := 26) (e := .normal) (st1 := stE k (.ps ((List.range 16).flatMap fun j => ptL (tbl p j))) (vi64 63) idP) (st' := stE k (.big 16 16 fun j => ptL (tbl p j)) (vi64 63) idP) (by kernel_rfl)
      (stE_ent (fl_bg (fun _ => rfl) (fun _ => rfl)) (fun h => by cases h) (fun _ h => by cases h)) ?_)
    refine RunsL.flags (cx := mkcs tabETimes) (cx' := mkcx tabETimes) (l := (items (bodyOf Try.f103)).drop 8) rfl rfl ?_
    refine RunsL.loop (id := 2) (by kernel_rfl) (fun m s => s = stE k (.big 16 16 fun j => ptL (tbl p j)) (vi64 ((m : Int) - 1)) (tmR k p (64 - m)) ∧ m ≤ 64) 64 ⟨rfl, Nat.le_refl _⟩ ?_
    rintro m s ⟨rfl, hm⟩
    have hev : ∀ (i : Int) (o : P4), evLS (mkcs tabETimes) 100 (items (loopAt (bodyOf Try.f103) 8)) (stE k (.big 16 16 fun j => ptL (tbl p j)) (vi64 i) o) (kfg 0 [2, 4, 6, 7, 9, 10] [0, 2, 6, 8, 25] 26) =
        bif decide ((0 : Int) ≤ i) then chks [okK .i64 1, okK .i64 2, okK .i64 3, okK .i64 4, okK .i64 (i.tdiv 2), decide (0 ≤ i.tdiv 2), decide (i.tdiv 2 < 32), decide (0 + (i.tdiv 2).toNat < 32), okK .i64 (4 * i.tmod 2), decide (0 ≤ 4 * i.tmod 2),
            decide (((((((digit 8 k (0 + (i.tdiv 2).toNat) : Nat) : Int) / ((2 ^ min (4 * i.tmod 2).toNat IntKind.u8.bits : Nat) : Int)).toNat &&& (15 : Int).toNat : Nat) : Nat) : Int) < 16), decide (((((((digit 8 k (0 + (i.tdiv 2).toNat) : Nat) : Int) / ((2 ^ min (4 * i.tmod 2).toNat IntKind.u8.bits : Nat) : Int)).toNat &&& (15 : Int).toNat : Nat) : Nat) : Int).toNat < 16), okK .i64 (i - 1)]
          (.done .normal (stE k (.big 16 16 fun j => ptL (tbl p j)) (vi64 (i - 1)) (sumP (dbl4 o) (tbl p (((((((digit 8 k (0 + (i.tdiv 2).toNat) : Nat) : Int) / ((2 ^ min (4 * i.tmod 2).toNat IntKind.u8.bits : Nat) : Int)).toNat &&& (15 : Int).toNat : Nat) : Nat) : Int).toNat)) (addP dP dP))))
        else .done (.exit 2) (stE k (.big 16 16 fun j => ptL (tbl p j)) (vi64 i) o) := by intro i o; kernel_rfl
    cases m with
    | zero =>
      have hev := hev (((0 : Nat) : Int) - 1) (tmR k p (64 - 0))
      rw [show decide ((0 : Int) ≤ ((0 : Nat) : Int) - 1) = false from rfl, cond_false] at hev
      refine RunsL.allS (mkoks tabokETimes) hev ?_
      exact runsL_evS (mkoks tabokETimes) (n := 100) (bs0 := []) (by kernel_rfl) (VEnt.refl _) trivial
    | succ j =>
      have hev := hev (j : Int) (tmR k p (64 - (j + 1)))
      have hi : ((j + 1 : Nat) : Int) - 1 = (j : Int) := by omega
      rw [hi]
      have hn := nib_eq (k := k) (j := j)
      have h15 : (15 : Int).toNat = 15 := rfl
      have hnl : k / 2 ^ (4 * j) % 16 < 16 := Nat.mod_lt _ (by decide)
      rw [h15, hn, Int.toNat_natCast, tmR_step k p (by omega), decide_eq_true (show (0 : Int) ≤ (j : Int) by omega), cond_true, chks_true] at hev
      rotate_left 1
      · clear hev hn
        have hd : (j : Int).tdiv 2 = ((j / 2 : Nat) : Int) := by rw [Int.tdiv_eq_ediv_of_nonneg (by omega)]; omega
        have hm' : (j : Int).tmod 2 = ((j % 2 : Nat) : Int) := by rw [Int.tmod_eq_emod_of_nonneg (by omega)]; omega
        rw [hd, hm']
        generalize k / 2 ^ (4 * j) % 16 = q at *
        repeat' (first | exact allT0 | refine allTc ?_ ?_)
        all_goals first | (rw [decide_eq_true_iff]; omega) | exact okI (by omega) (by omega) | rfl
      exact RunsL.allS (mkoks tabokETimes) hev ⟨j, Nat.lt_succ_self j, rfl, by omega⟩
  · cases hF
end Go.Proofs.Ytpoikjcgdojjjaa
