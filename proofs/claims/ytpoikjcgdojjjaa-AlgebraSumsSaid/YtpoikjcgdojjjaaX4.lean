/-
  An executor of Go code on values of its own: less may be said of a state.
-/
import Derived.Test.YtpoikjcgdojjjaaX3
namespace Vx
open Go Go.RowKit

/-- The one says all that the other says. -/
structure StEnt (s s' : St) : Prop where
  len : s.t.length = s'.t.length
  t : ∀ i, gl s.t i = gl s'.t i ∨ VEnt (gl s.t i) (gl s'.t i)
  h : ∀ i, hg s.h i = hg s'.h i ∨ ∃ e l l', hg s.h i = some ⟨e, .ps l⟩ ∧ hg s'.h i = some ⟨e, .ps l'⟩ ∧ CEnt (.ps l) (.ps l')

theorem Rep.ent {w0 : World} {W : Nat → Prop} {ro : Nat} {σ : Sg} {s s' : St} {a : Act} {w : World} (he : StEnt s s') (hr : Rep w0 W ro σ s a w) : Rep w0 W ro σ s' a w := by
  have hdead : ∀ i, isDead s.h i → isDead s'.h i := by
    rintro i ⟨e, h⟩
    rcases he.h i with k | ⟨e', l, l', h1, _⟩
    · exact ⟨e, by rw [← k]; exact h⟩
    · rw [h] at h1; cases h1
  refine ⟨hr.defers, ⟨by rw [← he.len]; exact hr.t.1, fun i => ?_⟩, ⟨?_, ?_, ?_, hr.h.siz, hr.h.sep, hr.h.imm⟩, hr.fr⟩
  · have hv := hr.t.2 i
    rcases he.t i with k | k
    · rw [← k]; exact hv
    · exact k _ _ hv
  · intro id b hb
    rcases he.h id with k | ⟨e, l, l', h1, h2, h3⟩
    · exact hr.h.blk id b (by rw [k]; exact hb)
    · rw [h2] at hb
      cases hb
      rcases hr.h.blk id _ h1 with ⟨n, xs, g1, g2, g3⟩ | ⟨g1 | ⟨ts, g1⟩, _⟩
      · exact .inl ⟨n, xs, g1, g2, h3 _ _ g3⟩
      · cases g1
      · cases g1
  · intro i j n h1 h2 h3
    rcases hr.h.inj i j n h1 h2 h3 with e | e | e
    · exact .inl e
    · exact .inr (.inl (hdead i e))
    · exact .inr (.inr (hdead j e))
  · intro i n hi
    obtain ⟨e1, e2⟩ := hr.h.live i n hi
    refine ⟨e1, ?_⟩
    rcases he.h i with k | ⟨e, l, l', _, h2, _⟩
    · rw [← k]; exact e2
    · rw [h2]; rfl

theorem RunsL.allE {cx : Cx} (hk : Ok cx) {n0 n : Nat} {kt kh : List Nat} {m : Nat} {l : List Code} {st st1 st' : St} {e : Ex} {R : Ex → St → Prop}
    (h : evLS cx n l st (kfg n0 kt kh m) = .done e st1) (he : StEnt st1 st') (hR : R e st') : RunsL cx n0 l st R := by
  refine evL_sound hk (out := .done e st1) trivial (by rw [← evLS_eq]; exact h) ?_
  intro e2 s hκ w0 W σ0 σ a w q hn hs hr hq
  unfold kfg at hκ
  split at hκ
  · rename_i s' hf
    cases hκ
    obtain ⟨σ', h1, h2⟩ := Rep.forget hf hn hs hr
    exact hq st' σ' hR h1 (h2.ent he)
  · cases hκ

theorem RunsL.preE {cx : Cx} (hk : Ok cx) {n0 n k : Nat} {kt kh : List Nat} {m : Nat} {l : List Code} {st st1 st' : St} {e : Ex} {R : Ex → St → Prop}
    (h : evLS cx n (l.take k) st (kfg n0 kt kh m) = .done e st1) (he : StEnt st1 st') (hR : andThen (fun s => RunsL cx n0 (l.drop k) s R) R e st') : RunsL cx n0 l st R := by
  rw [← List.take_append_drop k l]
  refine RunsL.append (RunsL.allE hk h he hR)
end Vx

/-
  An executor of Go code on values of its own: less may be said of any block of a state; a block of code within a list.
-/
namespace Vx
open Go Go.RowKit

/-- The one says all that the other says. -/
structure StEntG (s s' : St) : Prop where
  len : s.t.length = s'.t.length
  t : ∀ i, gl s.t i = gl s'.t i ∨ VEnt (gl s.t i) (gl s'.t i)
  h : ∀ i, hg s.h i = hg s'.h i ∨ ∃ e c c', hg s.h i = some ⟨e, c⟩ ∧ hg s'.h i = some ⟨e, c'⟩ ∧ CEnt c c' ∧ (c = .dead → c' = .dead) ∧ (∀ ts, c = .row ts [] → ∃ ts', c' = .row ts' [])

theorem Rep.entG {w0 : World} {W : Nat → Prop} {ro : Nat} {σ : Sg} {s s' : St} {a : Act} {w : World} (he : StEntG s s') (hr : Rep w0 W ro σ s a w) : Rep w0 W ro σ s' a w := by
  have hdead : ∀ i, isDead s.h i → isDead s'.h i := by
    rintro i ⟨e, h⟩
    rcases he.h i with k | ⟨e', c, c', h1, h2, _, h4, _⟩
    · exact ⟨e, by rw [← k]; exact h⟩
    · rw [h] at h1; cases h1
      exact ⟨e, by rw [h2, h4 rfl]⟩
  refine ⟨hr.defers, ⟨by rw [← he.len]; exact hr.t.1, fun i => ?_⟩, ⟨?_, ?_, ?_, hr.h.siz, hr.h.sep, hr.h.imm⟩, hr.fr⟩
  · have hv := hr.t.2 i
    rcases he.t i with k | k
    · rw [← k]; exact hv
    · exact k _ _ hv
  · intro id b hb
    rcases he.h id with k | ⟨e, c, c', h1, h2, h3, h4, h5⟩
    · exact hr.h.blk id b (by rw [k]; exact hb)
    · rw [h2] at hb
      cases hb
      rcases hr.h.blk id _ h1 with ⟨n, xs, g1, g2, g3⟩ | ⟨g1 | ⟨ts, g1⟩, g2⟩
      · exact .inl ⟨n, xs, g1, g2, h3 _ _ g3⟩
      · exact .inr ⟨.inl (h4 g1), g2⟩
      · exact .inr ⟨.inr (h5 ts g1), g2⟩
  · intro i j n h1 h2 h3
    rcases hr.h.inj i j n h1 h2 h3 with e | e | e
    · exact .inl e
    · exact .inr (.inl (hdead i e))
    · exact .inr (.inr (hdead j e))
  · intro i n hi
    obtain ⟨e1, e2⟩ := hr.h.live i n hi
    refine ⟨e1, ?_⟩
    rcases he.h i with k | ⟨e, c, c', _, h2, _⟩
    · rw [← k]; exact e2
    · rw [h2]; rfl

theorem RunsL.entG {cx : Cx} {n0 : Nat} {l : List Code} {s s' : St} {R : Ex → St → Prop} (he : StEntG s s') (h : RunsL cx n0 l s' R) : RunsL cx n0 l s R := by
  cases l with
  | nil => exact fun w0 W σ0 σ a w q hn hs hr hq => h w0 W σ0 σ a w q hn hs (hr.entG he) hq
  | cons c l => exact fun w0 W σ0 σ a w Q hn hs hr hq => (h : Runs cx n0 c s' _) w0 W σ0 σ a w Q hn hs (hr.entG he) hq

theorem RunsL.allG {cx : Cx} (hk : Ok cx) {n0 n : Nat} {kt kh : List Nat} {m : Nat} {l : List Code} {st st1 st' : St} {e : Ex} {R : Ex → St → Prop}
    (h : evLS cx n l st (kfg n0 kt kh m) = .done e st1) (he : StEntG st1 st') (hR : R e st') : RunsL cx n0 l st R := by
  refine evL_sound hk (out := .done e st1) trivial (by rw [← evLS_eq]; exact h) ?_
  intro e2 s hκ w0 W σ0 σ a w q hn hs hr hq
  unfold kfg at hκ
  split at hκ
  · rename_i s' hf
    cases hκ
    obtain ⟨σ', h1, h2⟩ := Rep.forget hf hn hs hr
    exact hq st' σ' hR h1 (h2.entG he)
  · cases hκ

theorem RunsL.preG {cx : Cx} (hk : Ok cx) {n0 n k : Nat} {kt kh : List Nat} {m : Nat} {l : List Code} {st st1 st' : St} {e : Ex} {R : Ex → St → Prop}
    (h : evLS cx n (l.take k) st (kfg n0 kt kh m) = .done e st1) (he : StEntG st1 st') (hR : andThen (fun s => RunsL cx n0 (l.drop k) s R) R e st') : RunsL cx n0 l st R := by
  rw [← List.take_append_drop k l]
  refine RunsL.append (RunsL.allG hk h he hR)

/-- A block of code at the head of a list of parts. -/
theorem RunsL.blk {cx : Cx} {n0 id : Nat} {b : Code} {l : List Code} {st : St} {R : Ex → St → Prop}
    (h : RunsL cx n0 (items b) st (inBlk id (andThen (fun s => RunsL cx n0 l s R) R))) : RunsL cx n0 (.block id b :: l) st R :=
  Runs.block (Runs.items _ _ _ h)

/-- Content of one kind of words. -/
theorem CEnt.of' {c c' : C} (h : VEnt (.ag c) (.ag c')) : CEnt c c' := by
  intro σ xs hx
  obtain ⟨ys, e, hy⟩ := h σ (.agg xs.toArray) ⟨xs, rfl, hx⟩
  have : xs = ys := by simpa using e
  rw [this]; exact hy
/-- What stands in a block of code, by its place among the items. -/
def blkAt (c : Code) (i : Nat) : Code := inB (it c i)
theorem RunsL.blkAt {cx : Cx} {n0 i id : Nat} {c : Code} {st : St} {R : Ex → St → Prop} (he : (items c).drop i = .block id (Vx.blkAt c i) :: (items c).drop (i + 1))
    (h : RunsL cx n0 (items (Vx.blkAt c i)) st (inBlk id (andThen (fun s => RunsL cx n0 ((items c).drop (i + 1)) s R) R))) : RunsL cx n0 ((items c).drop i) st R := by
  rw [he]
  exact RunsL.blk h
/-- What code comes to hangs on the program alone. -/
theorem Runs.flags {cx cx' : Cx} (hP : cx.P = cx'.P) (hr : cx.ro = cx'.ro) : Runs cx = Runs cx' := by
  obtain ⟨P, ro, sy, rw, tab⟩ := cx
  obtain ⟨P', ro', sy', rw', tab'⟩ := cx'
  simp only at hP hr
  subst hP hr
  rfl
theorem RunsL.flags {cx cx' : Cx} (hP : cx.P = cx'.P) (hr : cx.ro = cx'.ro) {n0 : Nat} : ∀ {l : List Code} {st : St} {R : Ex → St → Prop}, RunsL cx n0 l st R → RunsL cx' n0 l st R
  | [], st, R, h => by
    obtain ⟨P, ro, sy, rw, tab⟩ := cx
    obtain ⟨P', ro', sy', rw', tab'⟩ := cx'
    simp only at hP hr
    subst hP hr
    exact h
  | c :: l, st, R, h => by
    have h1 : Runs cx n0 c st (andThen (fun s => RunsL cx n0 l s R) R) := h
    rw [Runs.flags hP hr] at h1
    refine Runs.mono h1 fun e s hes => ?_
    cases e with
    | normal => exact RunsL.flags hP hr hes
    | exit id => exact hes
    | ret => exact hes
end Vx

/-
  An executor of Go code on values of its own: cells by a function, and one by one.
-/
namespace Vx
open Go Go.RowKit

/-- Whole numbers, one by one; by a function. -/
def psI (k : IntKind) (c : Nat) (r : Nat → Int) : C := .ps ((List.range c).map fun i => .int k (r i))
def bgI (k : IntKind) (c : Nat) (r : Nat → Int) : C := .big 1 c fun i => [.int k (r i)]

theorem prel_range {σ : Sg} {k : IntKind} {r : Nat → Int} : ∀ {c a : Nat} {xs : List Value}, PRel σ ((List.range' a c).map fun i => .int k (r i)) xs ↔ xs = (List.range' a c).map (fun i => Value.int k (r i)) ∧ ∀ i, a ≤ i → i < a + c → inK k (r i) = true
  | 0, a, xs => by
    simp only [List.range'_zero, List.map_nil, PRel]
    exact ⟨fun h => ⟨h, fun i _ _ => by omega⟩, fun h => h.1⟩
  | c + 1, a, xs => by
    rw [List.range'_succ, List.map_cons, List.map_cons]
    constructor
    · rintro ⟨ys, zs, rfl, h1, h2⟩
      obtain ⟨h3, h4⟩ := (prel_range (a := a + 1)).1 h2
      obtain ⟨h5, h6⟩ : ys = [.int k (r a)] ∧ inK k (r a) = true := h1
      subst h3 h5
      refine ⟨rfl, fun i hi hi2 => ?_⟩
      rcases Nat.eq_or_lt_of_le hi with rfl | hlt
      · exact h6
      · exact h4 i hlt (by omega)
    · rintro ⟨rfl, h⟩
      exact ⟨[.int k (r a)], _, rfl, ⟨rfl, h a (Nat.le_refl _) (by omega)⟩, (prel_range (a := a + 1)).2 ⟨rfl, fun i hi hi2 => h i (by omega) (by omega)⟩⟩

theorem ps_bg {k : IntKind} {c : Nat} {r : Nat → Int} : CEnt (psI k c r) (bgI k c r) := by
  intro σ xs h
  have h : PRel σ ((List.range c).map fun i => .int k (r i)) xs := h
  rw [List.range_eq_range'] at h
  obtain ⟨rfl, hk⟩ := prel_range.1 h
  refine ⟨by simp, fun i hi => ⟨?_, rfl⟩⟩
  have : ((List.map (fun i => Value.int k (r i)) (List.range' 0 c)).drop (i * 1)).take 1 = [Value.int k (r i)] := by
    apply List.ext_getElem?
    intro j
    rw [List.getElem?_take, List.getElem?_drop, List.getElem?_map]
    cases j with
    | zero => simp [hi]
    | succ j => simp
  rw [this]
  exact ⟨[_], [], rfl, ⟨rfl, hk i (by omega) (by omega)⟩, rfl⟩

theorem bg_ps {k : IntKind} {c : Nat} {r : Nat → Int} : CEnt (bgI k c r) (psI k c r) := by
  rintro σ xs ⟨h1, h2⟩
  show PRel σ ((List.range c).map fun i => .int k (r i)) xs
  rw [List.range_eq_range']
  have hcell : ∀ i, i < c → (xs.drop i).take 1 = [Value.int k (r i)] ∧ inK k (r i) = true := by
    intro i hi
    obtain ⟨⟨ys, zs, e, ⟨h3, h4⟩, h5⟩, _⟩ := h2 i hi
    have h5 : zs = [] := h5
    have h3 : ys = [.int k (r i)] := h3
    subst h3 h5
    rw [Nat.mul_one] at e
    exact ⟨e, h4⟩
  refine prel_range.2 ⟨?_, fun i _ hi => (hcell i (by omega)).2⟩
  apply List.ext_getElem?
  intro j
  rw [List.getElem?_map]
  rcases Nat.lt_or_ge j c with hj | hj
  · have := (hcell j hj).1
    have e : xs[j]? = some (Value.int k (r j)) := by
      have h0 : ((xs.drop j).take 1)[0]? = some (Value.int k (r j)) := by rw [this]; rfl
      simpa using h0
    rw [e]
    simp [hj]
  · rw [List.getElem?_eq_none (by omega)]
    simp [hj]

/-- The same but at one place. -/
theorem bg_upd {k : IntKind} {c p : Nat} {r : Nat → Int} {v : Int} : (C.big 1 c fun j => if j = p then [L.int k v] else [L.int k (r j)]) = bgI k c fun j => if j = p then v else r j := by
  unfold bgI
  congr 1
  funext j
  by_cases h : j = p
  · simp only [if_pos h]
  · simp only [if_neg h]
end Vx

/-
  An executor of Go code on values of its own: elements by a function, and one behind the other.
-/
namespace Vx
open Go Go.RowKit

theorem prel_append {σ : Sg} : ∀ {l m : List L} {xs : List Value}, PRel σ (l ++ m) xs → ∃ ys zs, xs = ys ++ zs ∧ PRel σ l ys ∧ PRel σ m zs
  | [], m, xs, h => ⟨[], xs, rfl, rfl, h⟩
  | x :: l, m, xs, h => by
    obtain ⟨ys, zs, e, h1, h2⟩ : ∃ ys zs, xs = ys ++ zs ∧ LRel σ x ys ∧ PRel σ (l ++ m) zs := h
    obtain ⟨us, ws, e2, h3, h4⟩ := prel_append h2
    exact ⟨ys ++ us, ws, by rw [e, e2, List.append_assoc], ⟨ys, us, rfl, h1, h3⟩, h4⟩

theorem prel_flat {σ : Sg} {s : Nat} {f : Nat → List L} (hs : ∀ i, szs (f i) = s) : ∀ {c a : Nat} {xs : List Value}, PRel σ ((List.range' a c).flatMap f) xs →
    xs.length = s * c ∧ ∀ i, i < c → PRel σ (f (a + i)) ((xs.drop (i * s)).take s)
  | 0, a, xs, h => by
    have h : xs = [] := h
    subst h
    exact ⟨by simp, fun i hi => by omega⟩
  | c + 1, a, xs, h => by
    rw [List.range'_succ, List.flatMap_cons] at h
    obtain ⟨ys, zs, rfl, h1, h2⟩ := prel_append h
    obtain ⟨h3, h4⟩ := prel_flat hs h2
    have hy : ys.length = s := by rw [h1.len, hs]
    refine ⟨by rw [List.length_append, hy, h3, Nat.mul_succ]; omega, fun i hi => ?_⟩
    cases i with
    | zero =>
      rw [Nat.zero_mul, List.drop_zero, Nat.add_zero, List.take_append_of_le_length (by omega), List.take_of_length_le (by omega)]
      exact h1
    | succ i =>
      have := h4 i (by omega)
      rw [Nat.succ_mul, Nat.add_comm (i * s), ← hy, ← List.drop_drop, List.drop_left, hy]
      rw [show a + (i + 1) = a + 1 + i by omega]
      exact this

/-- Elements, one behind the other; by a function. -/
theorem fl_bg {s c : Nat} {f : Nat → List L} (hs : ∀ i, szs (f i) = s) (hf : ∀ i, flatL (f i) = true) : CEnt (.ps ((List.range c).flatMap f)) (.big s c f) := by
  intro σ xs h
  have h : PRel σ ((List.range c).flatMap f) xs := h
  rw [List.range_eq_range'] at h
  obtain ⟨h1, h2⟩ := prel_flat hs h
  refine ⟨h1, fun i hi => ⟨?_, hf i⟩⟩
  have := h2 i hi
  rw [Nat.zero_add] at this
  exact this
end Vx
