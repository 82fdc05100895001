/-
  Contracts of the program's group: Times.
-/
import Derived.Test.YteohgdpkdbckoaaL7
import Derived.Test.YteohgdpkdbckoaaU2
import Derived.Test.YteohgdpkdbckoaaX4
import Derived.Test.YteohgdpkdbckoaaL5
import Derived.Test.YteohgdpkdbckoaaM3
import Derived.Test.YteohgdpkdbckoaaL6
namespace Go.Proofs.Yteohgdpkdbckoaa
open Go Vx Go.RowKit

def ptL (q : P4) : List L := [.pk .u64 64 4 q.x, .pk .u64 64 4 q.y, .pk .u64 64 4 q.z, .pk .u64 64 4 q.t]
noncomputable def stE (k : Nat) (tb : C) (i : V) (o : P4) : St := ⟨[.junk, .junk, .one (.ptr 0 0), .junk, .one (.ptr 2 0), .junk, .one (.ptr 6 0), .one (.ptr 8 0), .junk, .one (.ptr 25 0), i] ++ List.replicate 46 .junk,
  [some ⟨46, .ps [.pk .u8 8 32 k]⟩, none, some ⟨58, .ps [.int .u64 0, .int .u64 0, .int .u64 0, .int .u64 0, .int .u64 0, .int .u64 0, .int .u64 0, .int .u64 0, .int .u64 0, .int .u64 0, .int .u64 0, .int .u64 0, .int .u64 0, .int .u64 0, .int .u64 0, .int .u64 0]⟩, none, none, none, some ⟨56, .ps [.pk .u64 64 4 (addP dP dP)]⟩, none, some ⟨129, tb⟩] ++ List.replicate 16 none ++ [some ⟨58, .ps (ptL o)⟩]⟩
theorem stE_ent {k : Nat} {i : V} {o : P4} {s s' : C} (h : CEnt s s') (h1 : s = .dead → s' = .dead) (h2 : ∀ ts, s = .row ts [] → ∃ ts', s' = .row ts' []) : StEntG (stE k s i o) (stE k s' i o) := by
  refine ⟨rfl, fun _ => .inl rfl, fun j => ?_⟩
  match j with
  | 0 | 1 | 2 | 3 | 4 | 5 | 6 | 7 => exact .inl rfl
  | 8 => exact .inr ⟨_, _, _, rfl, rfl, h, h1, h2⟩
  | j + 9 => exact .inl rfl
/-- Four bits of a scalar. -/
theorem nib_eq {k j : Nat} : ((((digit 8 k (0 + ((j : Int).tdiv 2).toNat) : Nat) : Int) / ((2 ^ min (4 * (j : Int).tmod 2).toNat IntKind.u8.bits : Nat) : Int)).toNat &&& 15 : Nat) = k / 2 ^ (4 * j) % 16 := by
  have h1 : ((j : Int).tdiv 2).toNat = j / 2 := by
    rw [Int.tdiv_eq_ediv_of_nonneg (by omega)]; omega
  have h2 : min (4 * (j : Int).tmod 2).toNat IntKind.u8.bits = 4 * (j % 2) := by
    rw [Int.tmod_eq_emod_of_nonneg (by omega)]
    show min (4 * ((j : Int) % 2)).toNat 8 = 4 * (j % 2)
    omega
  have h3 : ∀ n : Nat, n &&& 15 = n % 16 := fun n => Nat.and_two_pow_sub_one_eq_mod n 4
  rw [h1, h2, h3, ← Int.natCast_ediv, Int.toNat_natCast, Nat.zero_add]
  unfold digit
  have hlt : j % 2 < 2 := Nat.mod_lt _ (by decide)
  have e2 : (2 : Nat) ^ 8 = 2 ^ (4 * (j % 2)) * 2 ^ (8 - 4 * (j % 2)) := by rw [← Nat.pow_add]; congr 1; omega
  rw [e2, Nat.mod_mul_right_div_self, Nat.div_div_eq_div_mul, ← Nat.pow_add]
  have e3 : (2 : Nat) ^ (8 - 4 * (j % 2)) = 16 * 2 ^ (4 - 4 * (j % 2)) := by
    rw [show (16 : Nat) = 2 ^ 4 from rfl, ← Nat.pow_add]; congr 1; omega
  rw [e3, Nat.mod_mul_right_mod]
  congr 3
  omega
theorem tmR_step (k : Nat) (p : P4) {j : Nat} (hj : j < 64) : sumP (dbl4 (tmR k p (64 - (j + 1)))) (tbl p (k / 2 ^ (4 * j) % 16)) (addP dP dP) = tmR k p (64 - j) := by
  have : 64 - j = (64 - (j + 1)) + 1 := by omega
  rw [this, tmR, show 63 - (64 - (j + 1)) = j by omega]

noncomputable def sETimesF : List D → Option (List Bool × V)
  | [.n k, .n x, .n y, .n z, .n t] => some ([], vpP (tmP k ⟨x, y, z, t⟩))
  | _ => none
noncomputable def sETimes : FSpec := spec [tb32, tpt] sETimesF
noncomputable abbrev tabETimes : List (FuncId × FSpec) := [(84, sEsum), (38, sED), (36, sLAdd), (54, sEId)]
set_option maxRecDepth 100000 in
theorem tabokETimes : TabOK Try.prog (tabOf tabETimes) := (.cons ok_Esum (.cons ok_ED (.cons ok_LAdd (.cons ok_EId .nil))))
set_option maxRecDepth 100000 in
theorem ok_ETimes : FnOK Try.prog 57 sETimes := by
  refine fn_flat (cx := mkcx tabETimes) (c := bodyOf Try.f57) Try.func57 (by kernel_rfl) (by kernel_rfl) rfl ?_
  intro ds chk v vs hF ht he hr base
  unfold sETimesF at hF
  split at hF
  · rename_i k x y z t
    cases hF
    have hvs : vs = [vb32 k, vpt x y z t] := by simp only [encA, encV, encP, encL, Option.some.injEq] at he; exact he.symm
    subst hvs
    rw [tmP_eq]
    generalize hp : (⟨x, y, z, t⟩ : P4) = p
    have hx : x = p.x := by rw [← hp]
    have hy : y = p.y := by rw [← hp]
    have hz : z = p.z := by rw [← hp]
    have ht' : t = p.t := by rw [← hp]
    subst hx hy hz ht'
    clear hp
    refine Runs.items _ _ _ (RunsL.preG (mkok tabokETimes) (n := 100) (k := 8) (kt := [2, 4, 6, 7, 9, 10]) (kh := [0, 2, 6, 8, 25]) (m := 26) (e := .normal) (st1 := stE k (.ps ((List.range 16).flatMap fun j => ptL (tbl p j))) (vi64 63) idP) (st' := stE k (.big 16 16 fun j => ptL (tbl p j)) (vi64 63) idP) (by kernel_rfl)
      (stE_ent (fl_bg (fun _ => rfl) (fun _ => rfl)) (fun h => by cases h) (fun _ h => by cases h)) ?_)
    refine RunsL.flags (cx := mkcs tabETimes) (cx' := mkcx tabETimes) (l := (items (bodyOf Try.f57)).drop 8) rfl rfl ?_
    refine RunsL.loop (id := 2) (by kernel_rfl) (fun m s => s = stE k (.big 16 16 fun j => ptL (tbl p j)) (vi64 ((m : Int) - 1)) (tmR k p (64 - m)) ∧ m ≤ 64) 64 ⟨rfl, Nat.le_refl _⟩ ?_
    rintro m s ⟨rfl, hm⟩
    have hev : ∀ (i : Int) (o : P4), evLS (mkcs tabETimes) 100 (items (loopAt (bodyOf Try.f57) 8)) (stE k (.big 16 16 fun j => ptL (tbl p j)) (vi64 i) o) (kfg 0 [2, 4, 6, 7, 9, 10] [0, 2, 6, 8, 25] 26) =
        bif decide ((0 : Int) ≤ i) then chks [okK .i64 1, okK .i64 2, okK .i64 3, okK .i64 4, okK .i64 (i.tdiv 2), decide (0 ≤ i.tdiv 2), decide (i.tdiv 2 < 32), decide (0 + (i.tdiv 2).toNat < 32), okK .i64 (4 * i.tmod 2), decide (0 ≤ 4 * i.tmod 2),
            decide (((((((digit 8 k (0 + (i.tdiv 2).toNat) : Nat) : Int) / ((2 ^ min (4 * i.tmod 2).toNat IntKind.u8.bits : Nat) : Int)).toNat &&& (15 : Int).toNat : Nat) : Nat) : Int) < 16), decide (((((((digit 8 k (0 + (i.tdiv 2).toNat) : Nat) : Int) / ((2 ^ min (4 * i.tmod 2).toNat IntKind.u8.bits : Nat) : Int)).toNat &&& (15 : Int).toNat : Nat) : Nat) : Int).toNat < 16), okK .i64 (i - 1)]
          (.done .normal (stE k (.big 16 16 fun j => ptL (tbl p j)) (vi64 (i - 1)) (sumP (dbl4 o) (tbl p (((((((digit 8 k (0 + (i.tdiv 2).toNat) : Nat) : Int) / ((2 ^ min (4 * i.tmod 2).toNat IntKind.u8.bits : Nat) : Int)).toNat &&& (15 : Int).toNat : Nat) : Nat) : Int).toNat)) (addP dP dP))))
        else .done (.exit 2) (stE k (.big 16 16 fun j => ptL (tbl p j)) (vi64 i) o) := by intro i o; kernel_rfl
    cases m with
    | zero =>
      have hev := hev (((0 : Nat) : Int) - 1) (tmR k p (64 - 0))
      rw [show decide ((0 : Int) ≤ ((0 : Nat) : Int) - 1) = false from rfl, cond_false] at hev
      refine RunsL.allS (mkoks tabokETimes) hev ?_
      exact runsL_evS (mkoks tabokETimes) (n := 100) (bs0 := []) (by kernel_rfl) (VEnt.refl _) trivial
    | succ j =>
      have hev := hev (j : Int) (tmR k p (64 - (j + 1)))
      have hi : ((j + 1 : Nat) : Int) - 1 = (j : Int) := by omega
      rw [hi]
      have hn := nib_eq (k := k) (j := j)
      have h15 : (15 : Int).toNat = 15 := rfl
      have hnl : k / 2 ^ (4 * j) % 16 < 16 := Nat.mod_lt _ (by decide)
      rw [h15, hn, Int.toNat_natCast, tmR_step k p (by omega), decide_eq_true (show (0 : Int) ≤ (j : Int) by omega), cond_true, chks_true] at hev
      rotate_left 1
      · clear hev hn
        have hd : (j : Int).tdiv 2 = ((j / 2 : Nat) : Int) := by rw [Int.tdiv_eq_ediv_of_nonneg (by omega)]; omega
        have hm' : (j : Int).tmod 2 = ((j % 2 : Nat) : Int) := by rw [Int.tmod_eq_emod_of_nonneg (by omega)]; omega
        rw [hd, hm']
        generalize k / 2 ^ (4 * j) % 16 = q at *
        repeat' (first | exact allT0 | refine allTc ?_ ?_)
        all_goals first | (rw [decide_eq_true_iff]; omega) | exact okI (by omega) (by omega) | rfl
      exact RunsL.allS (mkoks tabokETimes) hev ⟨j, Nat.lt_succ_self j, rfl, by omega⟩
  · cases hF
end Go.Proofs.Yteohgdpkdbckoaa

/-
  Contracts of the document's group: Identity, Base, Times.
-/
namespace Go.Proofs.Yteohgdpkdbckoaa
open Go Vx Go.RowKit

structure Q3 where
  x : Nat
  y : Nat
  z : Nat
noncomputable def idQ : Q3 := ⟨0, canP 1, canP 1⟩
noncomputable def aq3 (p q : Q3) : Q3 := ⟨aqX p.x p.y p.z q.x q.y q.z dP, aqY p.x p.y p.z q.x q.y q.z dP, aqZ p.x p.y p.z q.x q.y q.z dP⟩
noncomputable def tqR (k : Nat) (p : Q3) : Nat → Q3
  | 0 => idQ
  | m + 1 => bif decide (k / 2 ^ (255 - m) % 2 = 1) then aq3 (aq3 (tqR k p m) (tqR k p m)) p else aq3 (tqR k p m) (tqR k p m)
noncomputable def tqX : Nat → Q3 → Nat := hidden' fun k p => (tqR k p 256).x
noncomputable def tqY : Nat → Q3 → Nat := hidden' fun k p => (tqR k p 256).y
noncomputable def tqZ : Nat → Q3 → Nat := hidden' fun k p => (tqR k p 256).z
noncomputable def tqP (k : Nat) (p : Q3) : Q3 := ⟨tqX k p, tqY k p, tqZ k p⟩
theorem tqP_eq (k : Nat) (p : Q3) : tqP k p = tqR k p 256 := by
  unfold tqP tqX tqY tqZ
  simp only [seal_eq]
abbrev Rep3 (q : Q3) (P : E) : Prop := RepQ q.x q.y q.z P
theorem idQ_rep : Rep3 idQ 0 := by
  refine ⟨?_, ?_, ?_⟩
  · show k (canP 1) ≠ 0
    rw [k_can, k_one]; exact K.one_ne
  · show k 0 = 0 * k (canP 1)
    rw [k_zero]; generalize k (canP 1) = z; grind
  · show k (canP 1) = 1 * k (canP 1)
    generalize k (canP 1) = z; grind
theorem aq3_rep {p q : Q3} {P Q : E} (h1 : Rep3 p P) (h2 : Rep3 q Q) : Rep3 (aq3 p q) (P + Q) := addQ_rep h1 h2
theorem tqR_rep {k : Nat} {p : Q3} {P : E} (h : Rep3 p P) (hk : k < 2 ^ 256) : ∀ m, m ≤ 256 → Rep3 (tqR k p m) (E.mul (k / 2 ^ (256 - m)) P)
  | 0, _ => by
    have : k / 2 ^ (256 - 0) = 0 := Nat.div_eq_of_lt hk
    rw [this]
    exact idQ_rep
  | m + 1, hm => by
    have ih := tqR_rep h hk m (by omega)
    have h1 := aq3_rep ih ih
    rw [E.mul_two] at h1
    have e1 : 256 - m = (255 - m) + 1 := by omega
    have e2 : 256 - (m + 1) = 255 - m := by omega
    rw [e1, Nat.pow_succ, ← Nat.div_div_eq_div_mul] at h1
    rw [tqR, e2]
    generalize k / 2 ^ (255 - m) = q at *
    have hb : q % 2 = 0 ∨ q % 2 = 1 := by omega
    rcases hb with hb | hb
    · rw [decide_eq_false (by omega), cond_false]
      have e : 2 * (q / 2) = q := by omega
      rw [e] at h1
      exact h1
    · rw [decide_eq_true hb, cond_true]
      have h2 := aq3_rep h1 h
      rw [← E.mul_succ] at h2
      have e : 2 * (q / 2) + 1 = q := by omega
      rw [e] at h2
      exact h2
theorem tq_rep {k : Nat} {p : Q3} {P : E} (h : Rep3 p P) (hk : k < 2 ^ 256) : Rep3 (tqP k p) (E.mul k P) := by
  have := tqR_rep h hk 256 (Nat.le_refl _)
  rw [tqP_eq]
  rw [Nat.sub_self, Nat.pow_zero, Nat.div_one] at this
  exact this
theorem CEnt.app {a b r : List L} (h : CEnt (.ps a) (.ps b)) : CEnt (.ps (a ++ r)) (.ps (b ++ r)) := by
  intro σ xs hx
  obtain ⟨ys, zs, rfl, h1, h2⟩ := prel_append (show PRel σ (a ++ r) xs from hx)
  exact PRel.append (h σ ys h1) h2
theorem nm0_ent : CEnt (.ps [z0, z0, z0, z0, z0, z0, z0, z0]) (.ps [.pk .u64 32 8 0]) := by
  intro σ xs hx
  obtain ⟨zs, e, g⟩ := unm0_ent σ (.agg xs.toArray) ⟨xs, rfl, hx⟩
  have : xs = zs := by simpa using e
  subst this
  exact g
theorem CEnt.ag {c c' : C} (h : CEnt c c') : VEnt (.ag c) (.ag c') := by
  rintro σ x ⟨xs, e, hc⟩
  exact ⟨xs, e, h σ xs hc⟩

noncomputable def sQIdF : List D → Option (List Bool × V)
  | [] => some ([], vqt 0 (canP 1) (canP 1))
  | _ => none
noncomputable def sQId : FSpec := spec [] sQIdF
noncomputable abbrev tabQId : List (FuncId × FSpec) := [(44, sNOf)]
set_option maxRecDepth 100000 in
theorem tabokQId : TabOK Try.prog (tabOf tabQId) := (.cons ok_NOf .nil)

noncomputable def sQBaseF : List D → Option (List Bool × V)
  | [] => some ([], vqt (atQX (mulP (canP 4) (invP (canP 5))) false) (atQY (mulP (canP 4) (invP (canP 5))) false) (atQZ (mulP (canP 4) (invP (canP 5))) false))
  | _ => none
noncomputable def sQBase : FSpec := spec [] sQBaseF

noncomputable def stQT (k : Nat) (p : Q3) (i : V) (o : Q3) : St := ⟨[.junk, .junk, .one (.ptr 0 0), .one (.ptr 1 0), .one (.ptr 2 0), .one (.ptr 4 0), .one (.ptr 6 0), i] ++ List.replicate 24 .junk,
  [some ⟨46, .ps [.pk .u8 8 32 k]⟩, some ⟨64, .ps [.pk .u64 32 8 p.x, .pk .u64 32 8 p.y, .pk .u64 32 8 p.z]⟩, some ⟨64, .ps [z0, z0, z0, z0, z0, z0, z0, z0, z0, z0, z0, z0, z0, z0, z0, z0, z0, z0, z0, z0, z0, z0, z0, z0]⟩, none,
   some ⟨62, .ps [.pk .u64 32 8 dP]⟩, none, some ⟨64, .ps [.pk .u64 32 8 o.x, .pk .u64 32 8 o.y, .pk .u64 32 8 o.z]⟩]⟩
theorem tqR_step (k : Nat) (p : Q3) {j : Nat} (hj : j < 256) : (bif decide (k / 2 ^ j % 2 = 1) then aq3 (aq3 (tqR k p (256 - (j + 1))) (tqR k p (256 - (j + 1)))) p else aq3 (tqR k p (256 - (j + 1))) (tqR k p (256 - (j + 1)))) = tqR k p (256 - j) := by
  have : 256 - j = (256 - (j + 1)) + 1 := by omega
  rw [this, tqR, show 255 - (256 - (j + 1)) = j by omega]

noncomputable def sQTimesF : List D → Option (List Bool × V)
  | [.n k, .n x, .n y, .n z] => some ([], vqt (tqP k ⟨x, y, z⟩).x (tqP k ⟨x, y, z⟩).y (tqP k ⟨x, y, z⟩).z)
  | _ => none
noncomputable def sQTimes : FSpec := spec [tb32, tqt] sQTimesF
end Go.Proofs.Yteohgdpkdbckoaa

/-
  Contracts of sums of terms.
-/
namespace Go.Proofs.Yteohgdpkdbckoaa
open Go Vx Go.RowKit

abbrev ttrm : Ty := .one (.sl [.pk .u8 8 32, .pk .u8 8 32])
abbrev vtrm (x : List (List D)) : V := .one (.rd [.pk .u8 8 32, .pk .u8 8 32] x)
def trK (d : List D) : Nat := (d.headD (.n 0)).toN
def trP (d : List D) : Nat := (d.tail.headD (.n 0)).toN
noncomputable def sumGo : P4 → List (List D) → Int × P4
  | o, [] => (0, o)
  | o, d :: l => bif !minusB (trK d) 7237005577332262213973186563042994240857116359379907606001950938285454250989 then (50, o) else bif !rdecBP (trP d) then (51, o) else sumGo (addP4 o (tmP (trK d) (rdecP (trP d)))) l
noncomputable def sumE0 (x : List (List D)) : Int := bif decide (64 < x.length) then 3 else (sumGo idP x).1
noncomputable def sumN0 (x : List (List D)) : Nat := bif decide (sumE0 x = 0) then rencP (sumGo idP x).2 else 0
noncomputable def sumE : List (List D) → Int := hidden' sumE0
noncomputable def sumN : List (List D) → Nat := hidden' sumN0
theorem sumE_eq (x : List (List D)) : sumE x = sumE0 x := by unfold sumE; rw [seal_eq]
theorem sumN_eq (x : List (List D)) : sumN x = sumN0 x := by unfold sumN; rw [seal_eq]
theorem sum_facts {x : List (List D)} {e : Int} {o : P4} (hl : ¬ 64 < x.length) (h : sumGo idP x = (e, o)) : sumE x = e ∧ (e = 0 → sumN x = rencP o) ∧ (e ≠ 0 → sumN x = 0) := by
  have h1 : sumE0 x = e := by unfold sumE0; rw [decide_eq_false hl, cond_false, h]
  rw [sumE_eq, sumN_eq]
  unfold sumN0
  rw [h1, h]
  refine ⟨rfl, fun he => ?_, fun he => ?_⟩
  · rw [decide_eq_true he]; rfl
  · rw [decide_eq_false he]; rfl
theorem sum_long {x : List (List D)} (hl : 64 < x.length) : sumE x = 3 ∧ sumN x = 0 := by
  have h1 : sumE0 x = 3 := by unfold sumE0; rw [decide_eq_true hl, cond_true]
  rw [sumE_eq, sumN_eq]
  unfold sumN0
  rw [h1]
  exact ⟨rfl, rfl⟩
abbrev vse (n : Nat) (e : Int) : V := .tup [.ag (.ps [.pk .u8 8 32 n]), .one (.int .i64 e)]
theorem vse0 (e : Int) : VEnt (.tup [.ag (.ps ub0), .one (.int .i64 e)]) (vse 0 e) := VEnt.tup2 (UEnt.of ub0_ent) (UEnt.refl _)
def stZu (_ : List (List D)) : St := ⟨[.junk, .junk, .one (.ptr 0 0), vi64 3, undefV] ++ List.replicate 9 .junk ++ [undefV, undefV, undefV] ++ List.replicate 26 .junk, [some ⟨23, .ps ub0⟩]⟩
def stZq (x : List (List D)) : St := ⟨[vtrm x, .junk, .one (.ptr 0 0), vi64 3, undefV, undefV] ++ List.replicate 44 .junk, [some ⟨23, .ps ub0⟩]⟩
theorem drop_cons {x : List (List D)} {j : Nat} (h : j < x.length) : x.drop j = x.getD j [] :: x.drop (j + 1) := by
  rw [List.drop_eq_getElem_cons h, List.getD_eq_getElem?_getD, List.getElem?_eq_getElem h, Option.getD_some]
theorem trm_rng {x : List (List D)} (hx : ∀ (i : Nat) (e : List D), x[i]? = some e → rngTs [.pk .u8 8 32, .pk .u8 8 32] e) {j : Nat} (hj : j < x.length) : trK (x.getD j []) < 2 ^ 256 := by
  rw [List.getD_eq_getElem?_getD, List.getElem?_eq_getElem hj, Option.getD_some]
  have := hx j _ (List.getElem?_eq_getElem hj)
  simp only [rngTs, rngT] at this
  exact this.1
noncomputable def stSu (x : List (List D)) (i : Int) (o : P4) (e : Int := 0) : St := ⟨[.junk, .junk, .one (.ptr 0 0), vi64 e, .one (.ptr 2 0)] ++ List.replicate 9 .junk ++ [vtrm x, vi64 (x.length : Nat), vi64 i] ++ List.replicate 26 .junk,
  [some ⟨23, .ps ub0⟩, none, some ⟨58, .ps (ptL o)⟩]⟩
noncomputable def stSq (x : List (List D)) (i : Int) (o : Q3) (e : Int := 0) : St := ⟨[vtrm x, .junk, .one (.ptr 0 0), vi64 e, .one (.ptr 2 0), vi64 i] ++ List.replicate 44 .junk,
  [some ⟨23, .ps ub0⟩, none, some ⟨64, .ps [.pk .u64 32 8 o.x, .pk .u64 32 8 o.y, .pk .u64 32 8 o.z]⟩]⟩

noncomputable def sASumF : List D → Option (List Bool × V)
  | [.l x] => some ([decide (x.length < 9223372036854775808)], vse (sumN x) (sumE x))
  | _ => none
noncomputable def sASum : FSpec := spec [ttrm] sASumF
noncomputable abbrev tabASum : List (FuncId × FSpec) := [(54, sEId), (55, sRMay), (22, sRDec), (57, sETimes), (56, sEAdd), (29, sREnc)]
set_option maxRecDepth 100000 in
theorem tabokASum : TabOK Try.prog (tabOf tabASum) := (.cons ok_EId (.cons ok_RMay (.cons ok_RDec (.cons ok_ETimes (.cons ok_EAdd (.cons ok_REnc .nil))))))
set_option maxRecDepth 100000 in
theorem ok_ASum : FnOK Try.prog 26 sASum := by
  refine fn_flat (cx := mkcs tabASum) (c := bodyOf Try.f26) Try.func26 (by kernel_rfl) (by kernel_rfl) rfl ?_
  intro ds chk v vs hF ht he hr base
  unfold sASumF at hF
  split at hF
  · rename_i x
    cases hF
    have hvs : vs = [vtrm x] := by simp only [encA, encV, encP, encL, Option.some.injEq] at he; exact he.symm
    subst hvs
    have hxl : x.length < 9223372036854775808 := of_decide_eq_true (ht _ (by simp))
    obtain ⟨hrng, _⟩ := hr
    have hrng : ∀ (i : Nat) (e : List D), x[i]? = some e → rngTs [.pk .u8 8 32, .pk .u8 8 32] e := hrng.2
    have h0 : evLS (mkcs tabASum) 100 ((items (bodyOf Try.f26)).take 5) ⟨t0 Try.f26 [vtrm x], []⟩ (kfg 0 [2, 3, 4, 14, 15, 16] [0, 2] 3) =
        chks [okK .i64 (x.length : Nat)] (bif decide ((64 : Int) < (x.length : Nat)) then .done .ret (stZu x) else chks [okK .i64 (x.length : Nat)] (.done .normal (stSu x 0 idP))) := by kernel_rfl
    have hln : okK .i64 ((x.length : Nat) : Int) = true := okI (by omega) (by omega)
    have hlp : allT [okK .i64 (x.length : Nat)] := by
      repeat' (first | exact allT0 | refine allTc hln ?_)
    rw [chks_true (allT1 hln), chks_true hlp] at h0
    by_cases h64 : 64 < x.length
    · rw [decide_eq_true (show (64 : Int) < (x.length : Nat) by omega), cond_true] at h0
      obtain ⟨e1, e2⟩ := sum_long h64
      rw [e1, e2]
      exact Runs.items _ _ _ (RunsL.preS (mkoks tabokASum) (k := 5) h0 ⟨_, [], (by kernel_rfl), vse0 3, trivial⟩)
    rw [decide_eq_false (show ¬ (64 : Int) < (x.length : Nat) by omega), cond_false] at h0
    refine Runs.items _ _ _ (RunsL.preS (mkoks tabokASum) (k := 5) h0 ?_)
    refine RunsL.loop (id := 0) (by kernel_rfl) (fun m s => ∃ (j : Nat) (o : P4), s = stSu x (j : Int) o ∧ j + m = x.length ∧ sumGo idP x = sumGo o (x.drop j)) x.length ⟨0, idP, rfl, Nat.zero_add _, rfl⟩ ?_
    rintro m s ⟨j, o, rfl, hj, hg⟩
    have hev : ∀ i : Int, evLS (mkcs tabASum) 100 (items (loopAt (bodyOf Try.f26) 5)) (stSu x i o) (kfg 0 [2, 3, 4, 14, 15, 16] [0, 2] 3) =
        chks [] (bif decide (i < (x.length : Nat)) then chks [decide (0 ≤ i), decide (i < (x.length : Nat))] (bif !minusB (trK (x.getD i.toNat [])) 7237005577332262213973186563042994240857116359379907606001950938285454250989 then .done .ret (stSu x i o 50)
          else chks [] (bif !rdecBP (trP (x.getD i.toNat [])) then .done .ret (stSu x i o 51) else chks [okK .i64 (i + 1)] (.done .normal (stSu x (i + 1) ((fun i => addP4 o (tmP (trK (x.getD i.toNat [])) (rdecP (trP (x.getD i.toNat []))))) i)))))
        else .done (.exit 0) (stSu x i o)) := by intro i; kernel_rfl
    have hev := hev (j : Int)
    dsimp only at hev
    have hll : allT [] := by
      repeat' (first | exact allT0 | refine allTc hln ?_)
    rw [chks_true hll] at hev
    cases m with
    | zero =>
      have hj : j = x.length := hj
      subst hj
      rw [decide_eq_false (show ¬ ((x.length : Nat) : Int) < (x.length : Nat) by omega), cond_false] at hev
      rw [List.drop_length, sumGo] at hg
      obtain ⟨e1, e2, _⟩ := sum_facts h64 hg
      rw [e1, e2 rfl]
      refine RunsL.allS (mkoks tabokASum) hev ?_
      exact runsL_evS (mkoks tabokASum) (n := 100) (bs0 := []) (by kernel_rfl) (VEnt.refl _) trivial
    | succ m =>
      have hjl : j < x.length := by omega
      have hd1 : decide ((0 : Int) ≤ (j : Int)) = true := by rw [decide_eq_true_iff]; omega
      have hd2 : decide (((j : Nat) : Int) < (x.length : Nat)) = true := by rw [decide_eq_true_iff]; omega
      have hd3 : okK .i64 ((j : Int) + 1) = true := okI (by omega) (by omega)
      rw [hd1, hd2, hd3, Int.toNat_natCast] at hev
      simp only [chks, cond_true] at hev
      rw [drop_cons hjl, sumGo] at hg
      have hkr := trm_rng hrng hjl
      generalize x.getD j [] = d at *
      cases hb1 : minusB (trK d) 7237005577332262213973186563042994240857116359379907606001950938285454250989 with
      | false =>
        rw [hb1, Bool.not_false, cond_true] at hev hg
        obtain ⟨e1, _, e3⟩ := sum_facts h64 hg
        rw [e1, e3 (by decide)]
        exact RunsL.allS (mkoks tabokASum) hev ⟨_, [], (by kernel_rfl), vse0 50, trivial⟩
      | true =>
        rw [hb1, Bool.not_true, cond_false] at hev hg
        cases hb2 : rdecBP (trP d) with
        | false =>
          rw [hb2, Bool.not_false, cond_true] at hev hg
          obtain ⟨e1, _, e3⟩ := sum_facts h64 hg
          rw [e1, e3 (by decide)]
          exact RunsL.allS (mkoks tabokASum) hev ⟨_, [], (by kernel_rfl), vse0 51, trivial⟩
        | true =>
          rw [hb2, Bool.not_true, cond_false] at hev hg
          exact RunsL.allS (mkoks tabokASum) hev ⟨m, Nat.lt_succ_self m, j + 1, addP4 o (tmP (trK d) (rdecP (trP d))), rfl, by omega, hg⟩
  · cases hF

noncomputable def sSSumF : List D → Option (List Bool × V)
  | [.l x] => some ([decide (x.length < 9223372036854775808)], vse (sumN x) (sumE x))
  | _ => none
noncomputable def sSSum : FSpec := spec [ttrm] sSSumF
end Go.Proofs.Yteohgdpkdbckoaa

/-
  Contracts of the document's algebra: small ones.
-/
namespace Go.Proofs.Yteohgdpkdbckoaa
open Go Vx Go.RowKit

theorem repQ_of' {q : P4} {P : E} (h : RepP q P) : RepQ q.x q.y q.z P := ⟨h.z, h.x, h.y⟩
theorem can_small {n : Nat} (h : n < pP) : canP n = n := by rw [canP_eq, Nat.mod_eq_of_lt h]
theorem mul_can (a b : Nat) : canP (mulP a b) = mulP a b := can_small (mulP_lt a b)
theorem atB_base : atB (mulP 4 (invP 5)) false = true := by rw [atB_C, mulP_C, invP_C]; decide +kernel
theorem base_rep : ∃ P, RepP (baseP ()) P ∧ Ev P ∧ RepQ (atQX (mulP 4 (invP 5)) false) (atQY (mulP 4 (invP 5)) false) (atQZ (mulP 4 (invP 5)) false) P := by
  obtain ⟨P, hP, _, _⟩ := at_rep atB_base
  have hb : baseP () = atP (mulP 4 (invP 5)) false := by rw [baseP_eq]; rfl
  have hq := atQ_rep atB_base hP
  rw [mul_can] at hq
  obtain ⟨Q, q1, q2, _⟩ := enc_dec known_dec
  have hco : Co Q P := (equ_co q1 (by rw [hb]; exact hP)).1 known_equ
  exact ⟨P, by rw [hb]; exact hP, ev_co hco q2, hq⟩
theorem baseQ_enc : rencP ⟨mulP (atQX (mulP (canP 4) (invP (canP 5))) false) (invP (atQZ (mulP (canP 4) (invP (canP 5))) false)), mulP (atQY (mulP (canP 4) (invP (canP 5))) false) (invP (atQZ (mulP (canP 4) (invP (canP 5))) false)), 1, mulP (mulP (atQX (mulP (canP 4) (invP (canP 5))) false) (invP (atQZ (mulP (canP 4) (invP (canP 5))) false))) (mulP (atQY (mulP (canP 4) (invP (canP 5))) false) (invP (atQZ (mulP (canP 4) (invP (canP 5))) false)))⟩ = rencP (baseP ()) := by
  rw [can_small (show 4 < pP from by decide), can_small (show 5 < pP from by decide)]
  obtain ⟨P, h1, h2, h3⟩ := base_rep
  exact (enc_aff h1 h3 h2).symm
theorem mapQ_enc (b : Nat) : rencP ⟨mulP (mqX b) (invP (mqZ b)), mulP (mqY b) (invP (mqZ b)), 1, mulP (mulP (mqX b) (invP (mqZ b))) (mulP (mqY b) (invP (mqZ b)))⟩ = rencP (rmapP b) := by
  obtain ⟨P, Q, e1, e2, h1, h2, h3⟩ := map_rep b
  have hq : RepQ (mqX b) (mqY b) (mqZ b) (P + Q) := by
    rw [mqX_eq, mqY_eq, mqZ_eq]
    exact addQ_rep (repQ_of' h1) (repQ_of' h2)
  exact (enc_aff h3 hq (ev_add e1 e2)).symm
/-- Once a point. -/
theorem sum_one {n : Nat} (h : rdecBP n = true) : sumE [[.n 1, .n n]] = 0 ∧ sumN [[.n 1, .n n]] = n := by
  have hm : minusB 1 7237005577332262213973186563042994240857116359379907606001950938285454250989 = true := by rw [minusB_eq]; decide +kernel
  have hg : sumGo idP [[.n 1, .n n]] = (0, addP4 idP (tmP 1 (rdecP n))) := by
    have e1 : trK [.n 1, .n n] = 1 := rfl
    have e2 : trP [.n 1, .n n] = n := rfl
    rw [sumGo, sumGo, e1, e2, hm, h]
    rfl
  obtain ⟨f1, f2, _⟩ := sum_facts (x := [[.n 1, .n n]]) (show ¬ 64 < 1 from by decide) hg
  obtain ⟨P, p1, p2, p3⟩ := enc_dec h
  refine ⟨f1, (f2 rfl).trans ?_⟩
  have hr := add_rep id_rep (tm_rep p1 (show (1 : Nat) < 2 ^ 256 from by decide +kernel))
  rw [E.mul_one, E.zero_add] at hr
  rw [(enc_eq hr p1 p2 p2).2 (co_refl P), p3]

noncomputable def sSIsPointF : List D → Option (List Bool × V)
  | [.n p] => some ([], vbool' (rdecBP p))
  | _ => none
noncomputable def sSIsPoint : FSpec := spec [tb32] sSIsPointF
noncomputable abbrev tabSIsPoint : List (FuncId × FSpec) := [(23, sQDec)]
set_option maxRecDepth 100000 in
theorem tabokSIsPoint : TabOK Try.prog (tabOf tabSIsPoint) := (.cons ok_QDec .nil)
set_option maxRecDepth 100000 in
theorem ok_SIsPoint : FnOK Try.prog 17 sSIsPoint := by
  refine fn_flat (cx := mkcx tabSIsPoint) (c := bodyOf Try.f17) Try.func17 (by kernel_rfl) (by kernel_rfl) rfl ?_
  intro ds chk v vs hF ht he hr base
  unfold sSIsPointF at hF
  split at hF
  · rename_i p
    cases hF
    have hvs : vs = [vb32 p] := by simp only [encA, encV, encP, encL, Option.some.injEq] at he; exact he.symm
    subst hvs
    exact runs_evS (mkok tabokSIsPoint) (n := 400) (bs0 := []) (by kernel_rfl) (VEnt.refl _) trivial
  · cases hF

noncomputable def sSOfF : List D → Option (List Bool × V)
  | [.i n] => some ([], vb32 n.toNat)
  | _ => none
noncomputable def sSOf : FSpec := spec [tu64] sSOfF

noncomputable def sSMapF : List D → Option (List Bool × V)
  | [.n b] => some ([], vb32 (rencP (rmapP b)))
  | _ => none
noncomputable def sSMap : FSpec := spec [tb64] sSMapF

noncomputable def sSReduceF : List D → Option (List Bool × V)
  | [.n b] => some ([], vb32 (restP b))
  | _ => none
noncomputable def sSReduce : FSpec := spec [tb64] sSReduceF

noncomputable def sSBaseF : List D → Option (List Bool × V)
  | [] => some ([], vb32 (rencP (baseP ())))
  | _ => none
noncomputable def sSBase : FSpec := spec [] sSBaseF
end Go.Proofs.Yteohgdpkdbckoaa

/-
  The laws AlgebraMay, AlgebraMaps answer true.
-/
namespace Go.Proofs.Yteohgdpkdbckoaa
open Go Vx Go.RowKit

def tree3 (a b c : Bool) : Out := bif a then (bif b then (bif c then outV (vbool' true) else outV (vbool' false)) else outV (vbool' false)) else outV (vbool' false)
theorem tree3_t : tree3 true true true = outV (vbool' true) := rfl
theorem base_facts : sumE [[.n (1 : Int).toNat, .n (rencP (baseP ()))]] = 0 ∧ sumN [[.n (1 : Int).toNat, .n (rencP (baseP ()))]] = rencP (baseP ()) := sum_one known_dec
theorem base_ne : rencP (baseP ()) ≠ 0 := by rw [renc_base]; decide

noncomputable def sKnown5F : List D → Option (List Bool × V)
  | [] => some ([], vbool' true)
  | _ => none
noncomputable def sKnown5 : FSpec := spec [] sKnown5F

theorem beq_self' (b : Bool) : (b == b) = true := by cases b <;> rfl
theorem tree3_self (a b : Bool) : tree3 (a == a) (b == b) true = outV (vbool' true) := by rw [beq_self', beq_self']; rfl
theorem allB_self (n : Nat) : allB [decide (n = n)] = true := decide_eq_true rfl

def tree2 (a b : Bool) : Out := bif a then (bif b then outV (vbool' true) else outV (vbool' false)) else outV (vbool' false)
theorem tree2_self (a b : Bool) : tree2 (a == a) (b == b) = outV (vbool' true) := by rw [beq_self', beq_self']; rfl

noncomputable def sAlgebraMayF : List D → Option (List Bool × V)
  | [.n _, .n _] => some ([], vbool' true)
  | _ => none
noncomputable def sAlgebraMay : FSpec := spec [tb32, tb32] sAlgebraMayF

noncomputable def sAlgebraMapsF : List D → Option (List Bool × V)
  | [.n _] => some ([], vbool' true)
  | _ => none
noncomputable def sAlgebraMaps : FSpec := spec [tb64] sAlgebraMapsF
end Go.Proofs.Yteohgdpkdbckoaa

/-
  Contracts of scalars: sums, differences, products, inverses, or refused.
-/
namespace Go.Proofs.Yteohgdpkdbckoaa
open Go Vx Go.RowKit

noncomputable abbrev okS (a : Nat) : Bool := minusB a 7237005577332262213973186563042994240857116359379907606001950938285454250989
noncomputable def boV (ok : Bool) (n : Nat) : V := vse (bif ok then n else 0) (bif ok then 0 else 50)
def boE : V := .tup [.ag (.ps ub0), .one (.int .i64 50)]
def treeBo (a b : Bool) (n : Nat) : Out := bif !a then outV boE else bif !b then outV boE else outV (vse n 0)
theorem treeBo_eq (a b : Bool) (n : Nat) : ∃ v0, treeBo a b n = outV v0 ∧ VEnt v0 (boV (a && b) n) := by
  cases a
  · exact ⟨_, rfl, vse0 50⟩
  · cases b
    · exact ⟨_, rfl, vse0 50⟩
    · exact ⟨_, rfl, VEnt.refl _⟩
def treeIn (a b : Bool) (n : Nat) : Out := bif !a then outV boE else bif b then outV boE else outV (vse n 0)
theorem treeIn_eq (a b : Bool) (n : Nat) : ∃ v0, treeIn a b n = outV v0 ∧ VEnt v0 (boV (a && !b) n) := by
  cases a
  · exact ⟨_, rfl, vse0 50⟩
  · cases b
    · exact ⟨_, rfl, VEnt.refl _⟩
    · exact ⟨_, rfl, vse0 50⟩

noncomputable def sAPlusF : List D → Option (List Bool × V)
  | [.n a, .n b] => some ([], boV (okS a && okS b) (restP (restP a + restP b)))
  | _ => none
noncomputable def sAPlus : FSpec := spec [tb32, tb32] sAPlusF

noncomputable def sAMinusF : List D → Option (List Bool × V)
  | [.n a, .n b] => some ([], boV (okS a && okS b) (restP (restP a + restP (minusS 7237005577332262213973186563042994240857116359379907606001950938285454250989 (restP b)))))
  | _ => none
noncomputable def sAMinus : FSpec := spec [tb32, tb32] sAMinusF

noncomputable def sATimesF : List D → Option (List Bool × V)
  | [.n a, .n b] => some ([], boV (okS a && okS b) (restP (restP a * restP b)))
  | _ => none
noncomputable def sATimes : FSpec := spec [tb32, tb32] sATimesF

noncomputable def sSaPlusF : List D → Option (List Bool × V)
  | [.n a, .n b] => some ([], boV (okS a && okS b) (restP (restP a + restP b)))
  | _ => none
noncomputable def sSaPlus : FSpec := spec [tb32, tb32] sSaPlusF

noncomputable def sSaMinusF : List D → Option (List Bool × V)
  | [.n a, .n b] => some ([], boV (okS a && okS b) (restP (restP a + restP (minusS 7237005577332262213973186563042994240857116359379907606001950938285454250989 (restP b)))))
  | _ => none
noncomputable def sSaMinus : FSpec := spec [tb32, tb32] sSaMinusF

noncomputable def sSaTimesF : List D → Option (List Bool × V)
  | [.n a, .n b] => some ([], boV (okS a && okS b) (restP (restP a * restP b)))
  | _ => none
noncomputable def sSaTimes : FSpec := spec [tb32, tb32] sSaTimesF

noncomputable def sAInverseF : List D → Option (List Bool × V)
  | [.n a] => some ([], boV (okS a && !allB [decide (a = 0)]) (powL a 7237005577332262213973186563042994240857116359379907606001950938285454250987))
  | _ => none
noncomputable def sAInverse : FSpec := spec [tb32] sAInverseF

noncomputable def sSaInverseF : List D → Option (List Bool × V)
  | [.n a] => some ([], boV (okS a && !allB [decide (a = 0)]) (powL a 7237005577332262213973186563042994240857116359379907606001950938285454250987))
  | _ => none
noncomputable def sSaInverse : FSpec := spec [tb32] sSaInverseF

theorem allB2 (n m : Nat) : allB [decide (n = n), decide (m = m)] = true := by
  rw [decide_eq_true rfl, decide_eq_true rfl]; rfl
end Go.Proofs.Yteohgdpkdbckoaa
