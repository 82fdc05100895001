/-
  From a contract to a row: how long a slice of the arguments may be. No program stands in it.
-/
import Derived.Test.YtdkmcpbjicnfmaaGreatJn3
import Derived.SizedLaws
namespace Vx
open Go Go.RowKit

theorem arg_len {H : Type} {enc : TypeId × Value → H} {P : Program} {w : World} {base : Nat} {sp : Nat → Bool} {held : Bool} {t e : TypeId} {σ : Sg} {ts : List LT} {x : List (List D)} {v : Value} {d : DataW H} {p : List MemPlace}
    (hu : P.underlying t = some (.slice e)) (hb : P.bytesOf e = 1) (h : DataW.Trod enc P w base sp held t v d p) (hv : VRel σ (.one (.rd ts x)) v) (hn : ∀ n ∈ d.weights P t, n ≤ reachBytes) : x.length ≤ 140737488351232 := by
  have hr : reachBytes = 140737488351232 := rfl
  obtain ⟨fuel, h⟩ := h
  have h2 := hv.2
  simp only [LRel] at h2
  unfold DRel at h2
  obtain ⟨a, cap, he, _⟩ := h2
  have hv2 : v = .slice a x.length cap := by simpa [D.toL] using he
  subst hv2
  have hc0 : (Value.slice a x.length cap).cells.toList = [.slice a x.length cap] := rfl
  rw [hc0] at h
  rcases DataW.trod_slice hu h with ⟨hc, _⟩ | ⟨a', len, cap', elems, rest, n, rfl, hc, hx, _, _, _, hel, _⟩
  · simp only [List.cons.injEq, Value.slice.injEq] at hc
    rw [hc.1.2.1]
    exact Nat.zero_le _
  · simp only [List.cons.injEq, Value.slice.injEq] at hc
    simp only [Prod.mk.injEq] at hx
    rw [hx.1] at hn
    have h3 := hn ((elems.map (·.1)).length + (rest.map (·.1)).length) (by simp [DataW.weights, hu, hb])
    rw [List.length_map, List.length_map, hel, hr] at h3
    rw [hc.1.2.1]
    omega
end Vx
