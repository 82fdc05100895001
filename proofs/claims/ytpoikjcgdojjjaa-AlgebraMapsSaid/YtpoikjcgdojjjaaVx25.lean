/-
  An executor of Go code on values of its own: less may be said of any block of a state; a block of code within a list.
-/
import Derived.Test.YtpoikjcgdojjjaaVx24
namespace Vx
open Go Go.RowKit

/-- The one says all that the other says. -/
structure StEntG (s s' : St) : Prop where
  len : s.t.length = s'.t.length
  t : ∀ i, gl s.t i = gl s'.t i ∨ VEnt (gl s.t i) (gl s'.t i)
  h : ∀ i, hg s.h i = hg s'.h i ∨ ∃ e c c', hg s.h i = some ⟨e, c⟩ ∧ hg s'.h i = some ⟨e, c'⟩ ∧ CEnt c c' ∧ (c = .dead → c' = .dead) ∧ (∀ ts, c = .row ts [] → ∃ ts', c' = .row ts' [])

theorem Rep.entG {w0 : World} {W : Nat → Prop} {ro : Nat} {σ : Sg} {s s' : St} {a : Act} {w : World} (he : StEntG s s') (hr : Rep w0 W ro σ s a w) : Rep w0 W ro σ s' a w := by
  have hdead : ∀ i, isDead s.h i → isDead s'.h i := by
    rintro i ⟨e, h⟩
    rcases he.h i with k | ⟨e', c, c', h1, h2, _, h4, _⟩
    · exact ⟨e, by rw [← k]; exact h⟩
    · rw [h] at h1; cases h1
      exact ⟨e, by rw [h2, h4 rfl]⟩
  refine ⟨hr.defers, ⟨by rw [← he.len]; exact hr.t.1, fun i => ?_⟩, ⟨?_, ?_, ?_, hr.h.siz, hr.h.sep, hr.h.imm⟩, hr.fr⟩
  · have hv := hr.t.2 i
    rcases he.t i with k | k
    · rw [← k]; exact hv
    · exact k _ _ hv
  · intro id b hb
    rcases he.h id with k | ⟨e, c, c', h1, h2, h3, h4, h5⟩
    · exact hr.h.blk id b (by rw [k]; exact hb)
    · rw [h2] at hb
      cases hb
      rcases hr.h.blk id _ h1 with ⟨n, xs, g1, g2, g3⟩ | ⟨g1 | ⟨ts, g1⟩, g2⟩
      · exact .inl ⟨n, xs, g1, g2, h3 _ _ g3⟩
      · exact .inr ⟨.inl (h4 g1), g2⟩
      · exact .inr ⟨.inr (h5 ts g1), g2⟩
  · intro i j n h1 h2 h3
    rcases hr.h.inj i j n h1 h2 h3 with e | e | e
    · exact .inl e
    · exact .inr (.inl (hdead i e))
    · exact .inr (.inr (hdead j e))
  · intro i n hi
    obtain ⟨e1, e2⟩ := hr.h.live i n hi
    refine ⟨e1, ?_⟩
    rcases he.h i with k | ⟨e, c, c', _, h2, _⟩
    · rw [← k]; exact e2
    · rw [h2]; rfl

theorem RunsL.entG {cx : Cx} {n0 : Nat} {l : List Code} {s s' : St} {R : Ex → St → Prop} (he : StEntG s s') (h : RunsL cx n0 l s' R) : RunsL cx n0 l s R := by
  cases l with
  | nil => exact fun w0 W σ0 σ a w q hn hs hr hq => h w0 W σ0 σ a w q hn hs (hr.entG he) hq
  | cons c l => exact fun w0 W σ0 σ a w Q hn hs hr hq => (h : Runs cx n0 c s' _) w0 W σ0 σ a w Q hn hs (hr.entG he) hq

theorem RunsL.allG {cx : Cx} (hk : Ok cx) {n0 n : Nat} {kt kh : List Nat} {m : Nat} {l : List Code} {st st1 st' : St} {e : Ex} {R : Ex → St → Prop}
    (h : evLS cx n l st (kfg n0 kt kh m) = .done e st1) (he : StEntG st1 st') (hR : R e st') : RunsL cx n0 l st R := by
  refine evL_sound hk (out := .done e st1) trivial (by rw [← evLS_eq]; exact h) ?_
  intro e2 s hκ w0 W σ0 σ a w q hn hs hr hq
  unfold kfg at hκ
  split at hκ
  · rename_i s' hf
    cases hκ
    obtain ⟨σ', h1, h2⟩ := Rep.forget hf hn hs hr
    exact hq st' σ' hR h1 (h2.entG he)
  · cases hκ

theorem RunsL.preG {cx : Cx} (hk : Ok cx) {n0 n k : Nat} {kt kh : List Nat} {m : Nat} {l : List Code} {st st1 st' : St} {e : Ex} {R : Ex → St → Prop}
    (h : evLS cx n (l.take k) st (kfg n0 kt kh m) = .done e st1) (he : StEntG st1 st') (hR : andThen (fun s => RunsL cx n0 (l.drop k) s R) R e st') : RunsL cx n0 l st R := by
  rw [← List.take_append_drop k l]
  refine RunsL.append (RunsL.allG hk h he hR)

/-- A block of code at the head of a list of parts. -/
theorem RunsL.blk {cx : Cx} {n0 id : Nat} {b : Code} {l : List Code} {st : St} {R : Ex → St → Prop}
    (h : RunsL cx n0 (items b) st (inBlk id (andThen (fun s => RunsL cx n0 l s R) R))) : RunsL cx n0 (.block id b :: l) st R :=
  Runs.block (Runs.items _ _ _ h)

/-- Content of one kind of words. -/
theorem CEnt.of' {c c' : C} (h : VEnt (.ag c) (.ag c')) : CEnt c c' := by
  intro σ xs hx
  obtain ⟨ys, e, hy⟩ := h σ (.agg xs.toArray) ⟨xs, rfl, hx⟩
  have : xs = ys := by simpa using e
  rw [this]; exact hy
/-- What stands in a block of code, by its place among the items. -/
def blkAt (c : Code) (i : Nat) : Code := inB (it c i)
theorem RunsL.blkAt {cx : Cx} {n0 i id : Nat} {c : Code} {st : St} {R : Ex → St → Prop} (he : (items c).drop i = .block id (Vx.blkAt c i) :: (items c).drop (i + 1))
    (h : RunsL cx n0 (items (Vx.blkAt c i)) st (inBlk id (andThen (fun s => RunsL cx n0 ((items c).drop (i + 1)) s R) R))) : RunsL cx n0 ((items c).drop i) st R := by
  rw [he]
  exact RunsL.blk h
/-- What code comes to hangs on the program alone. -/
theorem Runs.flags {cx cx' : Cx} (hP : cx.P = cx'.P) (hr : cx.ro = cx'.ro) : Runs cx = Runs cx' := by
  obtain ⟨P, ro, sy, rw, tab⟩ := cx
  obtain ⟨P', ro', sy', rw', tab'⟩ := cx'
  simp only at hP hr
  subst hP hr
  rfl
theorem RunsL.flags {cx cx' : Cx} (hP : cx.P = cx'.P) (hr : cx.ro = cx'.ro) {n0 : Nat} : ∀ {l : List Code} {st : St} {R : Ex → St → Prop}, RunsL cx n0 l st R → RunsL cx' n0 l st R
  | [], st, R, h => by
    obtain ⟨P, ro, sy, rw, tab⟩ := cx
    obtain ⟨P', ro', sy', rw', tab'⟩ := cx'
    simp only at hP hr
    subst hP hr
    exact h
  | c :: l, st, R, h => by
    have h1 : Runs cx n0 c st (andThen (fun s => RunsL cx n0 l s R) R) := h
    rw [Runs.flags hP hr] at h1
    refine Runs.mono h1 fun e s hes => ?_
    cases e with
    | normal => exact RunsL.flags hP hr hes
    | exit id => exact hes
    | ret => exact hes
end Vx
