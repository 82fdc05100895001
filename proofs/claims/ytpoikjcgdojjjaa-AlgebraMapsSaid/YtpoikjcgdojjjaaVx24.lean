/-
  An executor of Go code on values of its own: less may be said of a state.
-/
import Derived.Test.YtpoikjcgdojjjaaX3
namespace Vx
open Go Go.RowKit

/-- The one says all that the other says. -/
structure StEnt (s s' : St) : Prop where
  len : s.t.length = s'.t.length
  t : ∀ i, gl s.t i = gl s'.t i ∨ VEnt (gl s.t i) (gl s'.t i)
  h : ∀ i, hg s.h i = hg s'.h i ∨ ∃ e l l', hg s.h i = some ⟨e, .ps l⟩ ∧ hg s'.h i = some ⟨e, .ps l'⟩ ∧ CEnt (.ps l) (.ps l')

theorem Rep.ent {w0 : World} {W : Nat → Prop} {ro : Nat} {σ : Sg} {s s' : St} {a : Act} {w : World} (he : StEnt s s') (hr : Rep w0 W ro σ s a w) : Rep w0 W ro σ s' a w := by
  have hdead : ∀ i, isDead s.h i → isDead s'.h i := by
    rintro i ⟨e, h⟩
    rcases he.h i with k | ⟨e', l, l', h1, _⟩
    · exact ⟨e, by rw [← k]; exact h⟩
    · rw [h] at h1; cases h1
  refine ⟨hr.defers, ⟨by rw [← he.len]; exact hr.t.1, fun i => ?_⟩, ⟨?_, ?_, ?_, hr.h.siz, hr.h.sep, hr.h.imm⟩, hr.fr⟩
  · have hv := hr.t.2 i
    rcases he.t i with k | k
    · rw [← k]; exact hv
    · exact k _ _ hv
  · intro id b hb
    rcases he.h id with k | ⟨e, l, l', h1, h2, h3⟩
    · exact hr.h.blk id b (by rw [k]; exact hb)
    · rw [h2] at hb
      cases hb
      rcases hr.h.blk id _ h1 with ⟨n, xs, g1, g2, g3⟩ | ⟨g1 | ⟨ts, g1⟩, _⟩
      · exact .inl ⟨n, xs, g1, g2, h3 _ _ g3⟩
      · cases g1
      · cases g1
  · intro i j n h1 h2 h3
    rcases hr.h.inj i j n h1 h2 h3 with e | e | e
    · exact .inl e
    · exact .inr (.inl (hdead i e))
    · exact .inr (.inr (hdead j e))
  · intro i n hi
    obtain ⟨e1, e2⟩ := hr.h.live i n hi
    refine ⟨e1, ?_⟩
    rcases he.h i with k | ⟨e, l, l', _, h2, _⟩
    · rw [← k]; exact e2
    · rw [h2]; rfl

theorem RunsL.allE {cx : Cx} (hk : Ok cx) {n0 n : Nat} {kt kh : List Nat} {m : Nat} {l : List Code} {st st1 st' : St} {e : Ex} {R : Ex → St → Prop}
    (h : evLS cx n l st (kfg n0 kt kh m) = .done e st1) (he : StEnt st1 st') (hR : R e st') : RunsL cx n0 l st R := by
  refine evL_sound hk (out := .done e st1) trivial (by rw [← evLS_eq]; exact h) ?_
  intro e2 s hκ w0 W σ0 σ a w q hn hs hr hq
  unfold kfg at hκ
  split at hκ
  · rename_i s' hf
    cases hκ
    obtain ⟨σ', h1, h2⟩ := Rep.forget hf hn hs hr
    exact hq st' σ' hR h1 (h2.ent he)
  · cases hκ

theorem RunsL.preE {cx : Cx} (hk : Ok cx) {n0 n k : Nat} {kt kh : List Nat} {m : Nat} {l : List Code} {st st1 st' : St} {e : Ex} {R : Ex → St → Prop}
    (h : evLS cx n (l.take k) st (kfg n0 kt kh m) = .done e st1) (he : StEnt st1 st') (hR : andThen (fun s => RunsL cx n0 (l.drop k) s R) R e st') : RunsL cx n0 l st R := by
  rw [← List.take_append_drop k l]
  refine RunsL.append (RunsL.allE hk h he hR)
end Vx
