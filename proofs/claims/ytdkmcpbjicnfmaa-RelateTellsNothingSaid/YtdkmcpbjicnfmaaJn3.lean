/-
  From a contract to a row: arguments of any data, slices within slices too: what they hold. No program stands in it.
-/
import Derived.Test.YtdkmcpbjicnfmaaJ1
import Derived.OpenShut
namespace Vx
open Go Go.RowKit

def repD : Nat → List LT → List LT
  | 0, _ => []
  | n + 1, ts => ts ++ repD n ts

section
variable {H : Type} {enc : TypeId × Value → H} {P : Program} {w : World} {base : Nat} {sp : Nat → Bool} {held : Bool}

abbrev imH (w : World) : Nat → Prop := fun n => n < w.heap.size

theorem DRels.append : ∀ {ts us : List LT} {ds es : List D} {xs ys : List Value}, ds.length = ts.length → DRels w (imH w) ts ds xs → DRels w (imH w) us es ys → DRels w (imH w) (ts ++ us) (ds ++ es) (xs ++ ys)
  | [], us, ds, es, xs, ys, hl, h1, h2 => by
    simp only [DRels] at h1
    subst h1
    have : ds = [] := List.eq_nil_of_length_eq_zero hl
    subst this
    exact h2
  | t :: ts, us, [], es, xs, ys, hl, _, _ => by simp at hl
  | t :: ts, us, d :: ds, es, xs, ys, hl, h1, h2 => by
    simp only [DRels] at h1
    obtain ⟨a, b, rfl, h3, h4⟩ := h1
    simp only [List.cons_append, DRels, List.append_assoc]
    exact ⟨a, b ++ ys, rfl, h3, DRels.append (by simpa using hl) h4 h2⟩

theorem DRels.one {t : LT} {d : D} {xs : List Value} (h : DRel w (imH w) t d xs) : DRels w (imH w) [t] [d] xs := by
  simp only [DRels]
  exact ⟨xs, [], by simp, h, rfl⟩

theorem DRels.rep {ts : List LT} {z : Nat} : ∀ (n : Nat) (cs : List Value), cs.length = n * z → (∀ i, i < n → ∃ ds : List D, ds.length = ts.length ∧ DRels w (imH w) ts ds ((cs.drop (i * z)).take z)) →
    ∃ ds : List D, ds.length = (repD n ts).length ∧ DRels w (imH w) (repD n ts) ds cs
  | 0, cs, hl, _ => by
    have : cs = [] := List.eq_nil_of_length_eq_zero (by simpa using hl)
    subst this
    exact ⟨[], rfl, by simp only [repD, DRels]⟩
  | n + 1, cs, hl, h => by
    obtain ⟨d1, h1, h2⟩ := h 0 (by omega)
    rw [Nat.zero_mul, List.drop_zero] at h2
    rw [Nat.succ_mul] at hl
    obtain ⟨d2, h3, h4⟩ := DRels.rep (z := z) n (cs.drop z) (by rw [List.length_drop]; omega) (fun i hi => by
      obtain ⟨d, e1, e2⟩ := h (i + 1) (by omega)
      refine ⟨d, e1, ?_⟩
      rw [List.drop_drop, show z + i * z = (i + 1) * z by rw [Nat.succ_mul, Nat.add_comm]]
      exact e2)
    refine ⟨d1 ++ d2, by simp [repD, h1, h3], ?_⟩
    have := DRels.append h1 h2 h4
    rw [List.take_append_drop] at this
    exact this

def isOneT (P : Program) (t : TypeId) : Bool :=
  match P.underlying t with
  | some (.int _) => true
  | some .bool => true
  | some .string => true
  | some (.slice _) => true
  | _ => false

theorem okWide_one {r : Reach} {t : TypeId} {v : Value} (h1 : isOneT P t = true) (h : Value.okWide P w r base t v) : oneCell v = true := by
  unfold isOneT at h1
  unfold Value.okWide at h
  split at h1
  all_goals first | (cases h1; done) | skip
  all_goals
    rename_i hu
    simp only [hu] at h
    cases v <;> first | rfl | simp_all [Cell.okWide, Cell.ok]

end
end Vx
