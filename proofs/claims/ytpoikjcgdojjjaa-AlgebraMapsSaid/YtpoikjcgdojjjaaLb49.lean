/-
  Contracts of the document's group: Identity, Base, Times.
-/
import Derived.Test.YtpoikjcgdojjjaaLb47
import Derived.Test.YtpoikjcgdojjjaaLb31
import Derived.Test.YtpoikjcgdojjjaaMa11
import Derived.Test.YtpoikjcgdojjjaaVx27
namespace Go.Proofs.Ytpoikjcgdojjjaa
open Go Vx Go.RowKit

structure Q3 where
  x : Nat
  y : Nat
  z : Nat
noncomputable def idQ : Q3 := ⟨0, canP 1, canP 1⟩
noncomputable def aq3 (p q : Q3) : Q3 := ⟨aqX p.x p.y p.z q.x q.y q.z dP, aqY p.x p.y p.z q.x q.y q.z dP, aqZ p.x p.y p.z q.x q.y q.z dP⟩
noncomputable def tqR (k : Nat) (p : Q3) : Nat → Q3
  | 0 => idQ
  | m + 1 => bif decide (k / 2 ^ (255 - m) % 2 = 1) then aq3 (aq3 (tqR k p m) (tqR k p m)) p else aq3 (tqR k p m) (tqR k p m)
noncomputable def tqX : Nat → Q3 → Nat := hidden' fun k p => (tqR k p 256).x
noncomputable def tqY : Nat → Q3 → Nat := hidden' fun k p => (tqR k p 256).y
noncomputable def tqZ : Nat → Q3 → Nat := hidden' fun k p => (tqR k p 256).z
noncomputable def tqP (k : Nat) (p : Q3) : Q3 := ⟨tqX k p, tqY k p, tqZ k p⟩
theorem tqP_eq (k : Nat) (p : Q3) : tqP k p = tqR k p 256 := by
  unfold tqP tqX tqY tqZ
  simp only [seal_eq]
abbrev Rep3 (q : Q3) (P : E) : Prop := RepQ q.x q.y q.z P
theorem idQ_rep : Rep3 idQ 0 := by
  refine ⟨?_, ?_, ?_⟩
  · show k (canP 1) ≠ 0
    rw [k_can, k_one]; exact K.one_ne
  · show k 0 = 0 * k (canP 1)
    rw [k_zero]; generalize k (canP 1) = z; grind
  · show k (canP 1) = 1 * k (canP 1)
    generalize k (canP 1) = z; grind
theorem aq3_rep {p q : Q3} {P Q : E} (h1 : Rep3 p P) (h2 : Rep3 q Q) : Rep3 (aq3 p q) (P + Q) := addQ_rep h1 h2
theorem tqR_rep {k : Nat} {p : Q3} {P : E} (h : Rep3 p P) (hk : k < 2 ^ 256) : ∀ m, m ≤ 256 → Rep3 (tqR k p m) (E.mul (k / 2 ^ (256 - m)) P)
  | 0, _ => by
    have : k / 2 ^ (256 - 0) = 0 := Nat.div_eq_of_lt hk
    rw [this]
    exact idQ_rep
  | m + 1, hm => by
    have ih := tqR_rep h hk m (by omega)
    have h1 := aq3_rep ih ih
    rw [E.mul_two] at h1
    have e1 : 256 - m = (255 - m) + 1 := by omega
    have e2 : 256 - (m + 1) = 255 - m := by omega
    rw [e1, Nat.pow_succ, ← Nat.div_div_eq_div_mul] at h1
    rw [tqR, e2]
    generalize k / 2 ^ (255 - m) = q at *
    have hb : q % 2 = 0 ∨ q % 2 = 1 := by omega
    rcases hb with hb | hb
    · rw [decide_eq_false (by omega), cond_false]
      have e : 2 * (q / 2) = q := by omega
      rw [e] at h1
      exact h1
    · rw [decide_eq_true hb, cond_true]
      have h2 := aq3_rep h1 h
      rw [← E.mul_succ] at h2
      have e : 2 * (q / 2) + 1 = q := by omega
      rw [e] at h2
      exact h2
theorem tq_rep {k : Nat} {p : Q3} {P : E} (h : Rep3 p P) (hk : k < 2 ^ 256) : Rep3 (tqP k p) (E.mul k P) := by
  have := tqR_rep h hk 256 (Nat.le_refl _)
  rw [tqP_eq]
  rw [Nat.sub_self, Nat.pow_zero, Nat.div_one] at this
  exact this
theorem CEnt.app {a b r : List L} (h : CEnt (.ps a) (.ps b)) : CEnt (.ps (a ++ r)) (.ps (b ++ r)) := by
  intro σ xs hx
  obtain ⟨ys, zs, rfl, h1, h2⟩ := prel_append (show PRel σ (a ++ r) xs from hx)
  exact PRel.append (h σ ys h1) h2
theorem nm0_ent : CEnt (.ps [z0, z0, z0, z0, z0, z0, z0, z0]) (.ps [.pk .u64 32 8 0]) := by
  intro σ xs hx
  obtain ⟨zs, e, g⟩ := unm0_ent σ (.agg xs.toArray) ⟨xs, rfl, hx⟩
  have : xs = zs := by simpa using e
  subst this
  exact g
theorem CEnt.ag {c c' : C} (h : CEnt c c') : VEnt (.ag c) (.ag c') := by
  rintro σ x ⟨xs, e, hc⟩
  exact ⟨xs, e, h σ xs hc⟩

noncomputable def sQIdF : List D → Option (List Bool × V)
  | [] => some ([], vqt 0 (canP 1) (canP 1))
  | _ => none
noncomputable def sQId : FSpec := spec [] sQIdF
noncomputable abbrev tabQId : List (FuncId × FSpec) := [(71, sNOf)]
set_option maxRecDepth 100000 in
theorem tabokQId : TabOK Try.prog (tabOf tabQId) := (.cons ok_NOf .nil)
set_option maxRecDepth 100000 in
theorem ok_QId : FnOK Try.prog 104 sQId := by
  refine fn_flat (cx := mkcx tabQId) (c := bodyOf Try.f104) Try.func104 (by kernel_rfl) (by kernel_rfl) rfl ?_
  intro ds chk v vs hF ht he hr base
  unfold sQIdF at hF
  split at hF
  · cases hF
    have hvs : vs = [] := by simp only [encA, Option.some.injEq] at he; exact he.symm
    subst hvs
    exact runs_evS (mkok tabokQId) (n := 400) (bs0 := []) (v0 := .ag (.ps ([z0, z0, z0, z0, z0, z0, z0, z0] ++ [.pk .u64 32 8 (canP 1), .pk .u64 32 8 (canP 1)]))) (by kernel_rfl) (CEnt.ag (CEnt.app nm0_ent)) trivial
  · cases hF

noncomputable def sQBaseF : List D → Option (List Bool × V)
  | [] => some ([], vqt (atQX (mulP (canP 4) (invP (canP 5))) false) (atQY (mulP (canP 4) (invP (canP 5))) false) (atQZ (mulP (canP 4) (invP (canP 5))) false))
  | _ => none
noncomputable def sQBase : FSpec := spec [] sQBaseF
noncomputable abbrev tabQBase : List (FuncId × FSpec) := [(83, sQAt), (21, sNMul), (71, sNOf), (126, sNInv)]
set_option maxRecDepth 100000 in
theorem tabokQBase : TabOK Try.prog (tabOf tabQBase) := (.cons ok_QAt (.cons ok_NMul (.cons ok_NOf (.cons ok_NInv .nil))))
set_option maxRecDepth 100000 in
theorem ok_QBase : FnOK Try.prog 134 sQBase := by
  refine fn_flat (cx := mkcx tabQBase) (c := bodyOf Try.f134) Try.func134 (by kernel_rfl) (by kernel_rfl) rfl ?_
  intro ds chk v vs hF ht he hr base
  unfold sQBaseF at hF
  split at hF
  · cases hF
    have hvs : vs = [] := by simp only [encA, Option.some.injEq] at he; exact he.symm
    subst hvs
    exact runs_ev (mkok tabokQBase) (n := 400) (bs0 := []) (by kernel_rfl) (VEnt.refl _) trivial
  · cases hF

noncomputable def stQT (k : Nat) (p : Q3) (i : V) (o : Q3) : St := ⟨[.junk, .junk, .one (.ptr 0 0), .one (.ptr 1 0), .one (.ptr 2 0), .one (.ptr 4 0), .one (.ptr 6 0), i] ++ List.replicate 24 .junk,
  [some ⟨70, .ps [.pk .u8 8 32 k]⟩, some ⟨33, .ps [.pk .u64 32 8 p.x, .pk .u64 32 8 p.y, .pk .u64 32 8 p.z]⟩, some ⟨33, .ps [z0, z0, z0, z0, z0, z0, z0, z0, z0, z0, z0, z0, z0, z0, z0, z0, z0, z0, z0, z0, z0, z0, z0, z0]⟩, none,
   some ⟨31, .ps [.pk .u64 32 8 dP]⟩, none, some ⟨33, .ps [.pk .u64 32 8 o.x, .pk .u64 32 8 o.y, .pk .u64 32 8 o.z]⟩]⟩
theorem tqR_step (k : Nat) (p : Q3) {j : Nat} (hj : j < 256) : (bif decide (k / 2 ^ j % 2 = 1) then aq3 (aq3 (tqR k p (256 - (j + 1))) (tqR k p (256 - (j + 1)))) p else aq3 (tqR k p (256 - (j + 1))) (tqR k p (256 - (j + 1)))) = tqR k p (256 - j) := by
  have : 256 - j = (256 - (j + 1)) + 1 := by omega
  rw [this, tqR, show 255 - (256 - (j + 1)) = j by omega]

noncomputable def sQTimesF : List D → Option (List Bool × V)
  | [.n k, .n x, .n y, .n z] => some ([], vqt (tqP k ⟨x, y, z⟩).x (tqP k ⟨x, y, z⟩).y (tqP k ⟨x, y, z⟩).z)
  | _ => none
noncomputable def sQTimes : FSpec := spec [tb32, tqt] sQTimesF
noncomputable abbrev tabQTimes : List (FuncId × FSpec) := [(75, sQD), (104, sQId), (128, sQAddBy)]
set_option maxRecDepth 100000 in
theorem tabokQTimes : TabOK Try.prog (tabOf tabQTimes) := (.cons ok_QD (.cons ok_QId (.cons ok_QAddBy .nil)))
set_option maxRecDepth 100000 in
theorem ok_QTimes : FnOK Try.prog 106 sQTimes := by
  refine fn_flat (cx := mkcs tabQTimes) (c := bodyOf Try.f106) Try.func106 (by kernel_rfl) (by kernel_rfl) rfl ?_
  intro ds chk v vs hF ht he hr base
  unfold sQTimesF at hF
  split at hF
  · rename_i k x y z
    cases hF
    have hvs : vs = [vb32 k, vqt x y z] := by simp only [encA, encV, encP, encL, Option.some.injEq] at he; exact he.symm
    subst hvs
    rw [tqP_eq]
    generalize hp : (⟨x, y, z⟩ : Q3) = p
    have hx : x = p.x := by rw [← hp]
    have hy : y = p.y := by rw [← hp]
    have hz : z = p.z := by rw [← hp]
    subst hx hy hz
    clear hp
    refine Runs.items _ _ _ (RunsL.preS (mkoks tabokQTimes) (n := 100) (k := 4) (kt := [2, 3, 4, 5, 6, 7]) (kh := [0, 1, 2, 4, 6]) (m := 7) (e := .normal) (st' := stQT k p (vi64 255) idQ) (by kernel_rfl) ?_)
    refine RunsL.loop (id := 0) (by kernel_rfl) (fun m s => s = stQT k p (vi64 ((m : Int) - 1)) (tqR k p (256 - m)) ∧ m ≤ 256) 256 ⟨rfl, Nat.le_refl _⟩ ?_
    rintro m s ⟨rfl, hm⟩
    cases m with
    | zero =>
      refine RunsL.allS (mkoks tabokQTimes) (n := 100) (kt := [2, 3, 4, 5, 6, 7]) (kh := [0, 1, 2, 4, 6]) (m := 7) (e := .exit 0) (st' := stQT k p (vi64 (-1)) (tqR k p 256)) (by kernel_rfl) ?_
      exact runsL_evS (mkoks tabokQTimes) (n := 100) (bs0 := []) (by kernel_rfl) (VEnt.refl _) trivial
    | succ j =>
      have hj : j < 256 := hm
      have hi : ((j + 1 : Nat) : Int) - 1 = (j : Int) := by omega
      rw [hi]
      have hev : ∀ o : Q3, evL (mkcs tabQTimes) 100 (items (loopAt (bodyOf Try.f106) 4)) (stQT k p (vi64 (j : Int)) o) (kfg 0 [2, 3, 4, 5, 6, 7] [0, 1, 2, 4, 6] 7) =
          chks [okK .i64 ((j : Int).tdiv 8), decide ((j : Int).tdiv 8 < 32), decide (0 + ((j : Int).tdiv 8).toNat < 32)]
            (bif decide ((((digit 8 k (0 + ((j : Int).tdiv 8).toNat) : Nat) : Int) / ((2 ^ min ((j : Int).tmod 8).toNat IntKind.u8.bits : Nat) : Int)) % 2 = 1) then
              chks [okK .i64 ((j : Int) - 1)] (.done .normal (stQT k p (vi64 ((j : Int) - 1)) (aq3 (aq3 o o) p)))
            else chks [okK .i64 ((j : Int) - 1)] (.done .normal (stQT k p (vi64 ((j : Int) - 1)) (aq3 o o)))) := by intro o; kernel_rfl
      have hev := hev (tqR k p (256 - (j + 1)))
      have hq : (j : Int).tdiv 8 = ((j / 8 : Nat) : Int) := by rw [Int.tdiv_eq_ediv_of_nonneg (by omega)]; simp
      have h4 : j / 8 < 32 := by omega
      have hc1 : allT [okK .i64 ((j : Int).tdiv 8), decide ((j : Int).tdiv 8 < 32), decide (0 + ((j : Int).tdiv 8).toNat < 32)] := by
        rw [hq]
        refine allTc (okI (by omega) (by omega)) (allTc (by rw [decide_eq_true_iff]; omega) (allT1 (by rw [decide_eq_true_iff]; omega)))
      have hc2 : allT [okK .i64 ((j : Int) - 1)] := allT1 (okI (by omega) (by omega))
      rw [chks_true hc1, chks_true hc2, chks_true hc2, bit_eq8 hj] at hev
      have hstep := tqR_step k p hj
      cases hb : decide (k / 2 ^ j % 2 = 1) with
      | true =>
        rw [hb, cond_true] at hstep
        rw [hb, cond_true, hstep] at hev
        exact RunsL.all (mkoks tabokQTimes) hev ⟨j, Nat.lt_succ_self j, rfl, Nat.le_of_lt hj⟩
      | false =>
        rw [hb, cond_false] at hstep
        rw [hb, cond_false, hstep] at hev
        exact RunsL.all (mkoks tabokQTimes) hev ⟨j, Nat.lt_succ_self j, rfl, Nat.le_of_lt hj⟩
  · cases hF
end Go.Proofs.Ytpoikjcgdojjjaa
