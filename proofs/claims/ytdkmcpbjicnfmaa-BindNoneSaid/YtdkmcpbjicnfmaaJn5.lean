/-
  From a contract to a row: a text among the arguments. No program stands in it.
-/
import Derived.Test.YtdkmcpbjicnfmaaJn3
namespace Vx
open Go Go.RowKit

theorem arg_str {H : Type} {enc : TypeId × Value → H} {P : Program} {w : World} {base : Nat} {sp : Nat → Bool} {held : Bool} {r : Reach} {b0 : Nat} {t : TypeId} {v : Value} {d : DataW H} {p : List MemPlace} (hu : P.underlying t = some .string)
 (ha : isOneT P t = true) (hok : Value.okWide P w r b0 t v) (h : DataW.Trod enc P w base sp held t v d p) : ∃ s : ByteArray, VRel (frzS w) (.one (.str s)) v ∧ s.size < 9223372036854775808 := by
 have h1 := okWide_one ha hok
 obtain ⟨fuel, h⟩ := h
 have hc : v.cells.toList = [v] := by cases v <;> first | rfl | simp [oneCell] at h1
 rw [hc] at h
 obtain ⟨s, e, _, hs⟩ := DataW.trod_string hu h
 simp only [List.cons.injEq, and_true] at e
 subst e
 exact ⟨s, ⟨rfl, rfl⟩, Nat.lt_of_le_of_lt hs (by decide)⟩
end Vx
