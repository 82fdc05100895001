/-
  An executor of Go code on values of its own: less may be said of a state.
-/
import Derived.Test.YteohgdpkdbckoaaX3
namespace Vx
open Go Go.RowKit

/-- The one says all that the other says. -/
structure StEnt (s s' : St) : Prop where
  len : s.t.length = s'.t.length
  t : ∀ i, gl s.t i = gl s'.t i ∨ VEnt (gl s.t i) (gl s'.t i)
  h : ∀ i, hg s.h i = hg s'.h i ∨ ∃ e l l', hg s.h i = some ⟨e, .ps l⟩ ∧ hg s'.h i = some ⟨e, .ps l'⟩ ∧ CEnt (.ps l) (.ps l')

theorem Rep.ent {w0 : World} {W : Nat → Prop} {ro : Nat} {σ : Sg} {s s' : St} {a : Act} {w : World} (he : StEnt s s') (hr : Rep w0 W ro σ s a w) : Rep w0 W ro σ s' a w := by
  have hdead : ∀ i, isDead s.h i → isDead s'.h i := by
    rintro i ⟨e, h⟩
    rcases he.h i with k | ⟨e', l, l', h1, _⟩
    · exact ⟨e, by rw [← k]; exact h⟩
    · rw [h] at h1; cases h1
  refine ⟨hr.defers, ⟨by rw [← he.len]; exact hr.t.1, fun i => ?_⟩, ⟨?_, ?_, ?_, hr.h.siz, hr.h.sep, hr.h.imm⟩, hr.fr⟩
  · have hv := hr.t.2 i
    rcases he.t i with k | k
    · rw [← k]; exact hv
    · exact k _ _ hv
  · intro id b hb
    rcases he.h id with k | ⟨e, l, l', h1, h2, h3⟩
    · exact hr.h.blk id b (by rw [k]; exact hb)
    · rw [h2] at hb
      cases hb
      rcases hr.h.blk id _ h1 with ⟨n, xs, g1, g2, g3⟩ | ⟨g1 | ⟨ts, g1⟩, _⟩
      · exact .inl ⟨n, xs, g1, g2, h3 _ _ g3⟩
      · cases g1
      · cases g1
  · intro i j n h1 h2 h3
    rcases hr.h.inj i j n h1 h2 h3 with e | e | e
    · exact .inl e
    · exact .inr (.inl (hdead i e))
    · exact .inr (.inr (hdead j e))
  · intro i n hi
    obtain ⟨e1, e2⟩ := hr.h.live i n hi
    refine ⟨e1, ?_⟩
    rcases he.h i with k | ⟨e, l, l', _, h2, _⟩
    · rw [← k]; exact e2
    · rw [h2]; rfl

theorem RunsL.allE {cx : Cx} (hk : Ok cx) {n0 n : Nat} {kt kh : List Nat} {m : Nat} {l : List Code} {st st1 st' : St} {e : Ex} {R : Ex → St → Prop}
    (h : evLS cx n l st (kfg n0 kt kh m) = .done e st1) (he : StEnt st1 st') (hR : R e st') : RunsL cx n0 l st R := by
  refine evL_sound hk (out := .done e st1) trivial (by rw [← evLS_eq]; exact h) ?_
  intro e2 s hκ w0 W σ0 σ a w q hn hs hr hq
  unfold kfg at hκ
  split at hκ
  · rename_i s' hf
    cases hκ
    obtain ⟨σ', h1, h2⟩ := Rep.forget hf hn hs hr
    exact hq st' σ' hR h1 (h2.ent he)
  · cases hκ

theorem RunsL.preE {cx : Cx} (hk : Ok cx) {n0 n k : Nat} {kt kh : List Nat} {m : Nat} {l : List Code} {st st1 st' : St} {e : Ex} {R : Ex → St → Prop}
    (h : evLS cx n (l.take k) st (kfg n0 kt kh m) = .done e st1) (he : StEnt st1 st') (hR : andThen (fun s => RunsL cx n0 (l.drop k) s R) R e st') : RunsL cx n0 l st R := by
  rw [← List.take_append_drop k l]
  refine RunsL.append (RunsL.allE hk h he hR)
end Vx

/-
  An executor of Go code on values of its own: less may be said of any block of a state; a block of code within a list.
-/
namespace Vx
open Go Go.RowKit

/-- The one says all that the other says. -/
structure StEntG (s s' : St) : Prop where
  len : s.t.length = s'.t.length
  t : ∀ i, gl s.t i = gl s'.t i ∨ VEnt (gl s.t i) (gl s'.t i)
  h : ∀ i, hg s.h i = hg s'.h i ∨ ∃ e c c', hg s.h i = some ⟨e, c⟩ ∧ hg s'.h i = some ⟨e, c'⟩ ∧ CEnt c c' ∧ (c = .dead → c' = .dead) ∧ (∀ ts, c = .row ts [] → ∃ ts', c' = .row ts' [])

theorem Rep.entG {w0 : World} {W : Nat → Prop} {ro : Nat} {σ : Sg} {s s' : St} {a : Act} {w : World} (he : StEntG s s') (hr : Rep w0 W ro σ s a w) : Rep w0 W ro σ s' a w := by
  have hdead : ∀ i, isDead s.h i → isDead s'.h i := by
    rintro i ⟨e, h⟩
    rcases he.h i with k | ⟨e', c, c', h1, h2, _, h4, _⟩
    · exact ⟨e, by rw [← k]; exact h⟩
    · rw [h] at h1; cases h1
      exact ⟨e, by rw [h2, h4 rfl]⟩
  refine ⟨hr.defers, ⟨by rw [← he.len]; exact hr.t.1, fun i => ?_⟩, ⟨?_, ?_, ?_, hr.h.siz, hr.h.sep, hr.h.imm⟩, hr.fr⟩
  · have hv := hr.t.2 i
    rcases he.t i with k | k
    · rw [← k]; exact hv
    · exact k _ _ hv
  · intro id b hb
    rcases he.h id with k | ⟨e, c, c', h1, h2, h3, h4, h5⟩
    · exact hr.h.blk id b (by rw [k]; exact hb)
    · rw [h2] at hb
      cases hb
      rcases hr.h.blk id _ h1 with ⟨n, xs, g1, g2, g3⟩ | ⟨g1 | ⟨ts, g1⟩, g2⟩
      · exact .inl ⟨n, xs, g1, g2, h3 _ _ g3⟩
      · exact .inr ⟨.inl (h4 g1), g2⟩
      · exact .inr ⟨.inr (h5 ts g1), g2⟩
  · intro i j n h1 h2 h3
    rcases hr.h.inj i j n h1 h2 h3 with e | e | e
    · exact .inl e
    · exact .inr (.inl (hdead i e))
    · exact .inr (.inr (hdead j e))
  · intro i n hi
    obtain ⟨e1, e2⟩ := hr.h.live i n hi
    refine ⟨e1, ?_⟩
    rcases he.h i with k | ⟨e, c, c', _, h2, _⟩
    · rw [← k]; exact e2
    · rw [h2]; rfl

theorem RunsL.entG {cx : Cx} {n0 : Nat} {l : List Code} {s s' : St} {R : Ex → St → Prop} (he : StEntG s s') (h : RunsL cx n0 l s' R) : RunsL cx n0 l s R := by
  cases l with
  | nil => exact fun w0 W σ0 σ a w q hn hs hr hq => h w0 W σ0 σ a w q hn hs (hr.entG he) hq
  | cons c l => exact fun w0 W σ0 σ a w Q hn hs hr hq => (h : Runs cx n0 c s' _) w0 W σ0 σ a w Q hn hs (hr.entG he) hq

theorem RunsL.allG {cx : Cx} (hk : Ok cx) {n0 n : Nat} {kt kh : List Nat} {m : Nat} {l : List Code} {st st1 st' : St} {e : Ex} {R : Ex → St → Prop}
    (h : evLS cx n l st (kfg n0 kt kh m) = .done e st1) (he : StEntG st1 st') (hR : R e st') : RunsL cx n0 l st R := by
  refine evL_sound hk (out := .done e st1) trivial (by rw [← evLS_eq]; exact h) ?_
  intro e2 s hκ w0 W σ0 σ a w q hn hs hr hq
  unfold kfg at hκ
  split at hκ
  · rename_i s' hf
    cases hκ
    obtain ⟨σ', h1, h2⟩ := Rep.forget hf hn hs hr
    exact hq st' σ' hR h1 (h2.entG he)
  · cases hκ

theorem RunsL.preG {cx : Cx} (hk : Ok cx) {n0 n k : Nat} {kt kh : List Nat} {m : Nat} {l : List Code} {st st1 st' : St} {e : Ex} {R : Ex → St → Prop}
    (h : evLS cx n (l.take k) st (kfg n0 kt kh m) = .done e st1) (he : StEntG st1 st') (hR : andThen (fun s => RunsL cx n0 (l.drop k) s R) R e st') : RunsL cx n0 l st R := by
  rw [← List.take_append_drop k l]
  refine RunsL.append (RunsL.allG hk h he hR)

/-- A block of code at the head of a list of parts. -/
theorem RunsL.blk {cx : Cx} {n0 id : Nat} {b : Code} {l : List Code} {st : St} {R : Ex → St → Prop}
    (h : RunsL cx n0 (items b) st (inBlk id (andThen (fun s => RunsL cx n0 l s R) R))) : RunsL cx n0 (.block id b :: l) st R :=
  Runs.block (Runs.items _ _ _ h)

/-- Content of one kind of words. -/
theorem CEnt.of' {c c' : C} (h : VEnt (.ag c) (.ag c')) : CEnt c c' := by
  intro σ xs hx
  obtain ⟨ys, e, hy⟩ := h σ (.agg xs.toArray) ⟨xs, rfl, hx⟩
  have : xs = ys := by simpa using e
  rw [this]; exact hy
/-- What stands in a block of code, by its place among the items. -/
def blkAt (c : Code) (i : Nat) : Code := inB (it c i)
theorem RunsL.blkAt {cx : Cx} {n0 i id : Nat} {c : Code} {st : St} {R : Ex → St → Prop} (he : (items c).drop i = .block id (Vx.blkAt c i) :: (items c).drop (i + 1))
    (h : RunsL cx n0 (items (Vx.blkAt c i)) st (inBlk id (andThen (fun s => RunsL cx n0 ((items c).drop (i + 1)) s R) R))) : RunsL cx n0 ((items c).drop i) st R := by
  rw [he]
  exact RunsL.blk h
/-- A branch, by what is known of its condition. -/
theorem Runs.cond {cx : Cx} {n0 : Nat} {x : Operand} {y z : Code} {st : St} {R : Ex → St → Prop} {b : Bool} (hb : evO st.t x = .u (.one (.bool b)))
    (h : Runs cx n0 (bif b then y else z) st R) : Runs cx n0 (.cond x y z) st R := by
  intro w0 W σ0 σ a w Q hn hs hr hq
  have hv := evO_sound hr.t x
  rw [hb] at hv
  refine wp_cond (vbool hv) ?_
  cases b with
  | true => exact h w0 W σ0 σ a w Q hn hs hr hq
  | false => exact h w0 W σ0 σ a w Q hn hs hr hq
def thenAt (c : Code) (i : Nat) : Code := match it c i with
  | .cond _ y _ => y
  | c => c
def elseAt (c : Code) (i : Nat) : Code := match it c i with
  | .cond _ _ z => z
  | c => c
theorem RunsL.thenAt {cx : Cx} {n0 i : Nat} {c : Code} {st : St} {R : Ex → St → Prop} (x : Operand) (he : (items c).drop i = .cond x (Vx.thenAt c i) (Vx.elseAt c i) :: (items c).drop (i + 1)) (hb : evO st.t x = .u (.one (.bool true)))
    (h : RunsL cx n0 (items (Vx.thenAt c i)) st (andThen (fun s => RunsL cx n0 ((items c).drop (i + 1)) s R) R)) : RunsL cx n0 ((items c).drop i) st R := by
  rw [he]
  exact Runs.cond hb (Runs.items _ _ _ h)
theorem RunsL.elseAt {cx : Cx} {n0 i : Nat} {c : Code} {st : St} {R : Ex → St → Prop} (x : Operand) (he : (items c).drop i = .cond x (Vx.thenAt c i) (Vx.elseAt c i) :: (items c).drop (i + 1)) (hb : evO st.t x = .u (.one (.bool false)))
    (h : RunsL cx n0 (items (Vx.elseAt c i)) st (andThen (fun s => RunsL cx n0 ((items c).drop (i + 1)) s R) R)) : RunsL cx n0 ((items c).drop i) st R := by
  rw [he]
  exact Runs.cond hb (Runs.items _ _ _ h)
/-- What code comes to hangs on the program alone. -/
theorem Runs.flags {cx cx' : Cx} (hP : cx.P = cx'.P) (hr : cx.ro = cx'.ro) : Runs cx = Runs cx' := by
  obtain ⟨P, ro, sy, rw, tab⟩ := cx
  obtain ⟨P', ro', sy', rw', tab'⟩ := cx'
  simp only at hP hr
  subst hP hr
  rfl
theorem RunsL.flags {cx cx' : Cx} (hP : cx.P = cx'.P) (hr : cx.ro = cx'.ro) {n0 : Nat} : ∀ {l : List Code} {st : St} {R : Ex → St → Prop}, RunsL cx n0 l st R → RunsL cx' n0 l st R
  | [], st, R, h => by
    obtain ⟨P, ro, sy, rw, tab⟩ := cx
    obtain ⟨P', ro', sy', rw', tab'⟩ := cx'
    simp only at hP hr
    subst hP hr
    exact h
  | c :: l, st, R, h => by
    have h1 : Runs cx n0 c st (andThen (fun s => RunsL cx n0 l s R) R) := h
    rw [Runs.flags hP hr] at h1
    refine Runs.mono h1 fun e s hes => ?_
    cases e with
    | normal => exact RunsL.flags hP hr hes
    | exit id => exact hes
    | ret => exact hes
end Vx

/-
  An executor of Go code on values of its own: cells by a function, and one by one.
-/
namespace Vx
open Go Go.RowKit

/-- Whole numbers, one by one; by a function. -/
def psI (k : IntKind) (c : Nat) (r : Nat → Int) : C := .ps ((List.range c).map fun i => .int k (r i))
def bgI (k : IntKind) (c : Nat) (r : Nat → Int) : C := .big 1 c fun i => [.int k (r i)]

theorem prel_range {σ : Sg} {k : IntKind} {r : Nat → Int} : ∀ {c a : Nat} {xs : List Value}, PRel σ ((List.range' a c).map fun i => .int k (r i)) xs ↔ xs = (List.range' a c).map (fun i => Value.int k (r i)) ∧ ∀ i, a ≤ i → i < a + c → inK k (r i) = true
  | 0, a, xs => by
    simp only [List.range'_zero, List.map_nil, PRel]
    exact ⟨fun h => ⟨h, fun i _ _ => by omega⟩, fun h => h.1⟩
  | c + 1, a, xs => by
    rw [List.range'_succ, List.map_cons, List.map_cons]
    constructor
    · rintro ⟨ys, zs, rfl, h1, h2⟩
      obtain ⟨h3, h4⟩ := (prel_range (a := a + 1)).1 h2
      obtain ⟨h5, h6⟩ : ys = [.int k (r a)] ∧ inK k (r a) = true := h1
      subst h3 h5
      refine ⟨rfl, fun i hi hi2 => ?_⟩
      rcases Nat.eq_or_lt_of_le hi with rfl | hlt
      · exact h6
      · exact h4 i hlt (by omega)
    · rintro ⟨rfl, h⟩
      exact ⟨[.int k (r a)], _, rfl, ⟨rfl, h a (Nat.le_refl _) (by omega)⟩, (prel_range (a := a + 1)).2 ⟨rfl, fun i hi hi2 => h i (by omega) (by omega)⟩⟩

theorem ps_bg {k : IntKind} {c : Nat} {r : Nat → Int} : CEnt (psI k c r) (bgI k c r) := by
  intro σ xs h
  have h : PRel σ ((List.range c).map fun i => .int k (r i)) xs := h
  rw [List.range_eq_range'] at h
  obtain ⟨rfl, hk⟩ := prel_range.1 h
  refine ⟨by simp, fun i hi => ⟨?_, rfl⟩⟩
  have : ((List.map (fun i => Value.int k (r i)) (List.range' 0 c)).drop (i * 1)).take 1 = [Value.int k (r i)] := by
    apply List.ext_getElem?
    intro j
    rw [List.getElem?_take, List.getElem?_drop, List.getElem?_map]
    cases j with
    | zero => simp [hi]
    | succ j => simp
  rw [this]
  exact ⟨[_], [], rfl, ⟨rfl, hk i (by omega) (by omega)⟩, rfl⟩

theorem bg_ps {k : IntKind} {c : Nat} {r : Nat → Int} : CEnt (bgI k c r) (psI k c r) := by
  rintro σ xs ⟨h1, h2⟩
  show PRel σ ((List.range c).map fun i => .int k (r i)) xs
  rw [List.range_eq_range']
  have hcell : ∀ i, i < c → (xs.drop i).take 1 = [Value.int k (r i)] ∧ inK k (r i) = true := by
    intro i hi
    obtain ⟨⟨ys, zs, e, ⟨h3, h4⟩, h5⟩, _⟩ := h2 i hi
    have h5 : zs = [] := h5
    have h3 : ys = [.int k (r i)] := h3
    subst h3 h5
    rw [Nat.mul_one] at e
    exact ⟨e, h4⟩
  refine prel_range.2 ⟨?_, fun i _ hi => (hcell i (by omega)).2⟩
  apply List.ext_getElem?
  intro j
  rw [List.getElem?_map]
  rcases Nat.lt_or_ge j c with hj | hj
  · have := (hcell j hj).1
    have e : xs[j]? = some (Value.int k (r j)) := by
      have h0 : ((xs.drop j).take 1)[0]? = some (Value.int k (r j)) := by rw [this]; rfl
      simpa using h0
    rw [e]
    simp [hj]
  · rw [List.getElem?_eq_none (by omega)]
    simp [hj]

/-- The same but at one place. -/
theorem bg_upd {k : IntKind} {c p : Nat} {r : Nat → Int} {v : Int} : (C.big 1 c fun j => if j = p then [L.int k v] else [L.int k (r j)]) = bgI k c fun j => if j = p then v else r j := by
  unfold bgI
  congr 1
  funext j
  by_cases h : j = p
  · simp only [if_pos h]
  · simp only [if_neg h]
end Vx

/-
  An executor of Go code on values of its own: elements by a function, and one behind the other.
-/
namespace Vx
open Go Go.RowKit

theorem prel_append {σ : Sg} : ∀ {l m : List L} {xs : List Value}, PRel σ (l ++ m) xs → ∃ ys zs, xs = ys ++ zs ∧ PRel σ l ys ∧ PRel σ m zs
  | [], m, xs, h => ⟨[], xs, rfl, rfl, h⟩
  | x :: l, m, xs, h => by
    obtain ⟨ys, zs, e, h1, h2⟩ : ∃ ys zs, xs = ys ++ zs ∧ LRel σ x ys ∧ PRel σ (l ++ m) zs := h
    obtain ⟨us, ws, e2, h3, h4⟩ := prel_append h2
    exact ⟨ys ++ us, ws, by rw [e, e2, List.append_assoc], ⟨ys, us, rfl, h1, h3⟩, h4⟩

theorem prel_flat {σ : Sg} {s : Nat} {f : Nat → List L} (hs : ∀ i, szs (f i) = s) : ∀ {c a : Nat} {xs : List Value}, PRel σ ((List.range' a c).flatMap f) xs →
    xs.length = s * c ∧ ∀ i, i < c → PRel σ (f (a + i)) ((xs.drop (i * s)).take s)
  | 0, a, xs, h => by
    have h : xs = [] := h
    subst h
    exact ⟨by simp, fun i hi => by omega⟩
  | c + 1, a, xs, h => by
    rw [List.range'_succ, List.flatMap_cons] at h
    obtain ⟨ys, zs, rfl, h1, h2⟩ := prel_append h
    obtain ⟨h3, h4⟩ := prel_flat hs h2
    have hy : ys.length = s := by rw [h1.len, hs]
    refine ⟨by rw [List.length_append, hy, h3, Nat.mul_succ]; omega, fun i hi => ?_⟩
    cases i with
    | zero =>
      rw [Nat.zero_mul, List.drop_zero, Nat.add_zero, List.take_append_of_le_length (by omega), List.take_of_length_le (by omega)]
      exact h1
    | succ i =>
      have := h4 i (by omega)
      rw [Nat.succ_mul, Nat.add_comm (i * s), ← hy, ← List.drop_drop, List.drop_left, hy]
      rw [show a + (i + 1) = a + 1 + i by omega]
      exact this

/-- Elements, one behind the other; by a function. -/
theorem fl_bg {s c : Nat} {f : Nat → List L} (hs : ∀ i, szs (f i) = s) (hf : ∀ i, flatL (f i) = true) : CEnt (.ps ((List.range c).flatMap f)) (.big s c f) := by
  intro σ xs h
  have h : PRel σ ((List.range c).flatMap f) xs := h
  rw [List.range_eq_range'] at h
  obtain ⟨h1, h2⟩ := prel_flat hs h
  refine ⟨h1, fun i hi => ⟨?_, hf i⟩⟩
  have := h2 i hi
  rw [Nat.zero_add] at this
  exact this
end Vx

/-
  An executor of Go code on values of its own: a call in the midst of a body, by what its own body comes to in the caller's memory.
-/
namespace Vx
open Go Go.RowKit

/-- What a body comes to that is called in the caller's memory. -/
def PostC (cx : Cx) (fn : Func) (v : V) (h' : Hp) : Ex → St → Prop := fun e s => (e = .normal ∨ e = .ret) ∧ evRes cx.P fn s = some v ∧ s.h = h'

theorem CallOK.of_runs {cx : Cx} {f : FuncId} {fn : Func} {c : Code} {as : List V} {h h' : Hp} {v : V} (hf : cx.P.funcs[f]? = some fn) (hb : fn.body = some c) (hname : (fn.name == "runtime.NumGoroutine") = false)
    (hruns : Runs cx h.length c ⟨t0 fn as, h⟩ (PostC cx fn v h')) : CallOK cx.P cx.ro f as h v h' := by
  intro w0 W σ w vals hh hfr hall
  have hrun : (callFunc f vals.toArray).run cx.P w = .ok (.enter f vals.toArray) w := by
    simp only [callFunc, Sem.run_bind, run_program, Result.andThen_ok, hf]
    rw [if_neg (by rw [hname]; simp)]
    simp [hb]
  have hl := hall.length
  have hrep : Rep w0 W cx.ro σ ⟨t0 fn as, h⟩ { tmps := vals.toArray ++ Array.replicate (fn.ntmps - vals.toArray.size) undef, defers := [] } w := by
    refine ⟨rfl, ⟨by simp [t0, hl], fun i => ?_⟩, hh, hfr⟩
    have h1 := gl_args hall (fn.ntmps - as.length) i
    have e : (vals.toArray ++ Array.replicate (fn.ntmps - vals.toArray.size) undef).getD i undef = (vals ++ List.replicate (fn.ntmps - as.length) undef).getD i undef := by
      rw [Array.getD_eq_getD_getElem?, List.getD_eq_getElem?_getD]
      rw [← Array.getElem?_toList]
      simp [hl]
    rw [e]
    exact h1
  unfold Comes1
  rw [hrun]
  refine calls_of_wp hf hb ?_
  have hlt : ∀ i b, σ i = some b → i < h.length := by
    intro i b hi
    have := (hh.live i b hi).2
    cases hg : hg h i with
    | none => rw [hg] at this; cases this
    | some b' => exact hg_lt hg
  refine hruns w0 W σ σ _ w _ hlt (Sub.refl _) hrep ?_
  rintro e s σ' a' w' ⟨he, hres, rfl⟩ hsub hr'
  obtain ⟨x, hx, hvx⟩ := run_results hres hr'.t hr'.h
  rcases he with rfl | rfl
  · exact ⟨hr'.defers, x, hx, σ', hsub, hvx, hr'.h, hr'.fr⟩
  · exact ⟨hr'.defers, x, hx, σ', hsub, hvx, hr'.h, hr'.fr⟩

/-- The moves keep away from the blocks that came in. -/
def farMv (n0 : Nat) : List (Nat × Nat) → Bool
  | [] => true
  | (k, j) :: l => Nat.ble n0 k && Nat.ble n0 j && farMv n0 l
theorem farMv_mem {n0 : Nat} : ∀ {l : List (Nat × Nat)}, farMv n0 l = true → ∀ p ∈ l, n0 ≤ p.1 ∧ n0 ≤ p.2
  | [], _, p, hp => by simp at hp
  | (k, j) :: l, h, p, hp => by
    simp only [farMv, Bool.and_eq_true] at h
    rcases List.mem_cons.1 hp with rfl | hp
    · exact ⟨Nat.le_of_ble_eq_true h.1.1, Nat.le_of_ble_eq_true h.1.2⟩
    · exact farMv_mem h.2 p hp

/-- The end of a run, of which only some is kept, under other numbers; those that came in stay. -/
noncomputable def kfgN (n0 : Nat) (kt kh : List Nat) (m : Nat) (mv : List (Nat × Nat)) (m' : Nat) : Ex → St → Out := fun e s =>
  match farMv n0 mv, forget n0 kt kh m s with
  | true, some s' => match moves mv s' with
    | some s2 => match forget n0 kt (List.range m') m' s2 with
      | some s3 => .done e s3
      | none => .fail 13
    | none => .fail 12
  | _, _ => .fail 11

theorem kfgN_sound {cx : Cx} (hro : cx.ro = 0) {n0 : Nat} {kt kh : List Nat} {m m' : Nat} {mv : List (Nat × Nat)} {st st' : St} {e e2 : Ex} {R : Ex → St → Prop} (hκ : kfgN n0 kt kh m mv m' e2 st = .done e st') (hR : R e st') :
    e = e2 ∧ RunsL cx n0 [] st (fun _ s' => R e s') := by
  unfold kfgN at hκ
  split at hκ
  · rename_i s' hfar hf
    split at hκ
    · rename_i s2 hm
      split at hκ
      · rename_i s3 hf2
        cases hκ
        refine ⟨rfl, ?_⟩
        intro w0 W σ0 σ a w q hn hs hr hq
        obtain ⟨σ', h1, h2⟩ := Rep.forget hf hn hs hr
        rw [hro] at h2
        obtain ⟨σ2, h3, h4⟩ := Rep.moves (fun p hp i b hi => by
          have h1 := farMv_mem hfar p hp
          have h2 := hn i b hi
          exact ⟨by omega, by omega⟩) hm h1 h2
        obtain ⟨σ3, h5, h6⟩ := Rep.forget hf2 hn h3 h4
        rw [← hro] at h6
        exact hq st' σ3 hR h5 h6
      · cases hκ
    · cases hκ
  · cases hκ

theorem RunsL.preN {cx : Cx} (hk : Ok cx) (hro : cx.ro = 0) {n0 n k : Nat} {kt kh : List Nat} {m m' : Nat} {mv : List (Nat × Nat)} {l : List Code} {st st' : St} {e : Ex} {R : Ex → St → Prop}
    (h : evLS cx n (l.take k) st (kfgN n0 kt kh m mv m') = .done e st') (hR : andThen (fun s => RunsL cx n0 (l.drop k) s R) R e st') : RunsL cx n0 l st R := by
  rw [← List.take_append_drop k l]
  refine RunsL.append (evL_sound hk (out := .done e st') trivial (by rw [← evLS_eq]; exact h) ?_)
  intro e2 s hκ
  obtain ⟨h1, h2⟩ := kfgN_sound (R := andThen (fun s => RunsL cx n0 (l.drop k) s R) R) hro hκ hR
  subst h1
  exact h2

theorem RunsL.allN {cx : Cx} (hk : Ok cx) (hro : cx.ro = 0) {n0 n : Nat} {kt kh : List Nat} {m m' : Nat} {mv : List (Nat × Nat)} {l : List Code} {st st' : St} {e : Ex} {R : Ex → St → Prop}
    (h : evLS cx n l st (kfgN n0 kt kh m mv m') = .done e st') (hR : R e st') : RunsL cx n0 l st R := by
  refine evL_sound hk (out := .done e st') trivial (by rw [← evLS_eq]; exact h) ?_
  intro e2 s hκ
  obtain ⟨h1, h2⟩ := kfgN_sound (R := R) hro hκ hR
  subst h1
  exact h2

/-- A pass of a loop: where it ends normally, blocks are moved; else some are kept. -/
noncomputable def kfgB (n0 : Nat) (kt kh : List Nat) (m : Nat) (mv : List (Nat × Nat)) (m' : Nat) (kt2 kh2 : List Nat) (m2 : Nat) : Ex → St → Out := fun e s =>
  match e with
  | .normal => kfgN n0 kt kh m mv m' .normal s
  | .exit i => kfg n0 kt2 kh2 m2 (.exit i) s
  | .ret => kfg n0 kt2 kh2 m2 .ret s

theorem kfgB_sound {cx : Cx} (hro : cx.ro = 0) {n0 : Nat} {kt kh : List Nat} {m m' : Nat} {mv : List (Nat × Nat)} {kt2 kh2 : List Nat} {m2 : Nat} {st st' : St} {e e2 : Ex} {R : Ex → St → Prop}
    (hκ : kfgB n0 kt kh m mv m' kt2 kh2 m2 e2 st = .done e st') (hR : R e st') : e = e2 ∧ RunsL cx n0 [] st (fun _ s' => R e s') := by
  have hf : ∀ e2, kfg n0 kt2 kh2 m2 e2 st = .done e st' → e = e2 ∧ RunsL cx n0 [] st (fun _ s' => R e s') := by
    intro e2 hκ
    unfold kfg at hκ
    split at hκ
    · rename_i s' hf
      cases hκ
      refine ⟨rfl, ?_⟩
      intro w0 W σ0 σ a w q hn hs hr hq
      obtain ⟨σ', h1, h2⟩ := Rep.forget hf hn hs hr
      exact hq st' σ' hR h1 h2
    · cases hκ
  cases e2 with
  | normal => exact kfgN_sound hro hκ hR
  | exit i => exact hf _ hκ
  | ret => exact hf _ hκ

theorem RunsL.allB {cx : Cx} (hk : Ok cx) (hro : cx.ro = 0) {n0 n : Nat} {kt kh : List Nat} {m m' : Nat} {mv : List (Nat × Nat)} {kt2 kh2 : List Nat} {m2 : Nat} {l : List Code} {st st' : St} {e : Ex} {R : Ex → St → Prop}
    (h : evLS cx n l st (kfgB n0 kt kh m mv m' kt2 kh2 m2) = .done e st') (hR : R e st') : RunsL cx n0 l st R := by
  refine evL_sound hk (out := .done e st') trivial (by rw [← evLS_eq]; exact h) ?_
  intro e2 s hκ
  obtain ⟨h1, h2⟩ := kfgB_sound (R := R) hro hκ hR
  subst h1
  exact h2

theorem RunsL.preB {cx : Cx} (hk : Ok cx) (hro : cx.ro = 0) {n0 n k : Nat} {kt kh : List Nat} {m m' : Nat} {mv : List (Nat × Nat)} {kt2 kh2 : List Nat} {m2 : Nat} {l : List Code} {st st' : St} {e : Ex} {R : Ex → St → Prop}
    (h : evLS cx n (l.take k) st (kfgB n0 kt kh m mv m' kt2 kh2 m2) = .done e st') (hR : andThen (fun s => RunsL cx n0 (l.drop k) s R) R e st') : RunsL cx n0 l st R := by
  rw [← List.take_append_drop k l]
  refine RunsL.append (RunsL.allB hk hro h hR)

/-- Memory is told by what stands where. -/
theorem HRel.ext {ro : Nat} {σ : Sg} {h h' : Hp} {w : World} (he : ∀ j, hg h' j = hg h j) (hh : HRel ro σ h w) : HRel ro σ h' w := by
  have hd : ∀ j, isDead h j → isDead h' j := fun j ⟨e, hj⟩ => ⟨e, by rw [he]; exact hj⟩
  refine ⟨fun id b hb => hh.blk id b (by rw [← he]; exact hb), fun i j n h1 h2 h3 => ?_, fun i n hi => ?_, hh.siz, hh.sep, hh.imm⟩
  · rcases hh.inj i j n h1 h2 h3 with e | e | e
    · exact .inl e
    · exact .inr (.inl (hd i e))
    · exact .inr (.inr (hd j e))
  · obtain ⟨e1, e2⟩ := hh.live i n hi
    exact ⟨e1, by rw [he]; exact e2⟩

/-- A slice of nothing is an empty row. -/
theorem Rep.nilrow {w0 : World} {W : Nat → Prop} {ro : Nat} {σ : Sg} {st : St} {a : Act} {w : World} {k s : Nat} {el : TypeId} {ts : List LT} (hk : gl st.t k = .one .nilsl) (hr : Rep w0 W ro σ st a w) :
    Rep w0 W ro σ ⟨st.t.set k (.one (.row st.h.length s 0 0 0)), st.h ++ [some ⟨el, .row ts []⟩]⟩ a w := by
  refine ⟨hr.defers, ⟨by simp only [List.length_set]; exact hr.t.1, fun i => ?_⟩, ?_, hr.fr⟩
  · show VRel σ (gl (st.t.set k (.one (.row st.h.length s 0 0 0))) i) _
    rw [gl_set]
    split
    · rename_i hc
      have hv := hr.t.2 k
      rw [hk] at hv
      obtain ⟨_, e⟩ := hv
      have e : [a.tmps.getD k undef] = [.slice none 0 0] := e
      rw [hc.1, (List.cons.inj e).1]
      exact ⟨rfl, .inr ⟨rfl, rfl, .inl ⟨rfl, rfl⟩⟩⟩
    · exact hr.t.2 i
  · have h1 : HRel ro σ (st.h ++ [none]) w := by
      refine HRel.ext (fun j => ?_) hr.h
      unfold hg
      rw [List.getD_eq_getElem?_getD, List.getD_eq_getElem?_getD]
      rcases Nat.lt_trichotomy j st.h.length with h | h | h
      · rw [List.getElem?_append_left h]
      · subst h; simp
      · rw [List.getElem?_eq_none (by simp; omega), List.getElem?_eq_none (by omega)]
    have h2 := h1.nilrow (id := st.h.length) (el := el) (ts := ts) (by simp) (by unfold hg; simp)
    have e : (st.h ++ [none]).set st.h.length (some ⟨el, .row ts []⟩) = st.h ++ [some ⟨el, .row ts []⟩] := by simp
    rw [e] at h2
    exact h2

theorem RunsL.nilrow {cx : Cx} {n0 k s : Nat} {el : TypeId} {ts : List LT} {l : List Code} {st : St} {R : Ex → St → Prop} (hk : gl st.t k = .one .nilsl)
    (h : RunsL cx n0 l ⟨st.t.set k (.one (.row st.h.length s 0 0 0)), st.h ++ [some ⟨el, .row ts []⟩]⟩ R) : RunsL cx n0 l st R := by
  cases l with
  | nil => exact fun w0 W σ0 σ a w q hn hs hr hq => h w0 W σ0 σ a w q hn hs (hr.nilrow hk) hq
  | cons c l => exact fun w0 W σ0 σ a w Q hn hs hr hq => (h : Runs cx n0 c _ _) w0 W σ0 σ a w Q hn hs (hr.nilrow hk) hq
end Vx
