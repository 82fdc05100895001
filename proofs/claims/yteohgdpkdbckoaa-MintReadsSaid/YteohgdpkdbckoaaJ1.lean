/-
  From a contract to a row: plain arguments, the answer true. Of arguments: what their cells are. Of the answer: the row's ending.
-/
import Derived.Test.YteohgdpkdbckoaaL1
import Derived.ProofKit
namespace Vx
open Go Go.RowKit Go.ChangeShapes Go.WideShapes

def isAgT (P : Program) (t : TypeId) : Bool :=
  match P.underlying t with
  | some (.struct _) => true
  | some (.array _ _) => true
  | _ => false

theorem okWide_ag {P : Program} {W : World} {r : Reach} {base : Nat} {t : TypeId} {v : Value} (ha : isAgT P t = true) (h : Value.okWide P W r base t v) :
    ∃ cs, v = .agg cs ∧ cs.size = P.cellsOf t ∧ Row.okWide P W r base t cs := by
  unfold isAgT at ha
  unfold Value.okWide at h
  split at ha
  · rename_i hu; rw [hu] at h; exact h
  · rename_i hu; rw [hu] at h; exact h
  · cases ha

theorem cell_int {P : Program} {W : World} {r : Reach} {base : Nat} {u : TypeId} {k : IntKind} {v : Value} (hu : P.underlying u = some (.int k)) (h : Cell.okWide P W r base u v) : ∃ n, v = .int k n ∧ inK k n = true := by
  cases v with
  | int k' n =>
    simp only [Cell.okWide, hu, Cell.ok] at h
    obtain ⟨rfl, hn⟩ := h
    exact ⟨n, rfl, inK_iff.2 (by simpa [IntKind.has] using hn)⟩
  | _ => simp_all [Cell.okWide, Cell.ok]

theorem cell_bool {P : Program} {W : World} {r : Reach} {base : Nat} {u : TypeId} {v : Value} (hu : P.underlying u = some .bool) (h : Cell.okWide P W r base u v) : ∃ b, v = .bool b := by
  cases v with
  | bool b => exact ⟨b, rfl⟩
  | _ => simp_all [Cell.okWide, Cell.ok]

/-- Cells of one kind. -/
theorem ints_list {k : IntKind} : ∀ (xs : List Value), (∀ x ∈ xs, ∃ n, x = .int k n ∧ inK k n = true) → ∃ f : Nat → Int, (∀ i, i < xs.length → inK k (f i) = true) ∧ ∀ j, xs = (List.range' j xs.length).map fun i => Value.int k (f (i - j))
  | [], _ => ⟨fun _ => 0, fun i hi => absurd hi (by simp), fun _ => rfl⟩
  | x :: xs, h => by
    obtain ⟨n, rfl, hn⟩ := h x (by simp)
    obtain ⟨f, hf, e⟩ := ints_list xs (fun y hy => h y (by simp [hy]))
    refine ⟨fun i => match i with | 0 => n | i + 1 => f i, fun i hi => ?_, fun j => ?_⟩
    · cases i with
      | zero => exact hn
      | succ i => exact hf i (by simpa using hi)
    · simp only [List.length_cons, List.range'_succ, List.map_cons, Nat.sub_self, List.cons.injEq, true_and]
      conv => lhs; rw [e (j + 1)]
      refine List.map_congr_left fun i hi => ?_
      rw [List.mem_range'] at hi
      obtain ⟨m, hm, rfl⟩ := hi
      have : j + 1 + 1 * m - j = (j + 1 + 1 * m - (j + 1)) + 1 := by omega
      rw [this]

theorem prel_of_ints {σ : Sg} {k : IntKind} {f : Nat → Int} : ∀ (l : List Nat), (∀ i ∈ l, inK k (f i) = true) → PRel σ (l.map fun i => .int k (f i)) (l.map fun i => Value.int k (f i))
  | [], _ => rfl
  | i :: l, h => ⟨[_], _, rfl, ⟨rfl, h i (by simp)⟩, prel_of_ints l (fun j hj => h j (by simp [hj]))⟩

/-- An argument all of whose cells are integers of one kind. -/
theorem ints_of_ok {P : Program} {W : World} {r : Reach} {base : Nat} {t u : TypeId} {v : Value} {k : IntKind} {m : Nat} (ha : isAgT P t = true) (hc : P.cellsOf t = m) (ht : P.cellTypes P.depth t = some (List.replicate m u)) (hu : P.underlying u = some (.int k)) (hm : 0 < m)
    (h : Value.okWide P W r base t v) : ∃ f : Nat → Int, ∀ σ, VRel σ (.ag (.ps ((List.range m).map fun i => .int k (f i)))) v := by
  obtain ⟨cs, rfl, hs, ts, hts, _, hcell⟩ := okWide_ag ha h
  rw [ht] at hts
  cases hts
  have hall : ∀ x ∈ cs.toList, ∃ n, x = .int k n ∧ inK k n = true := by
    intro x hx
    obtain ⟨i, hi⟩ := List.getElem?_of_mem hx
    have hi' : cs[i]? = some x := by rw [← Array.getElem?_toList]; exact hi
    obtain ⟨u', hu', hok⟩ := hcell i x hi'
    have : u' = u := by
      have := List.mem_of_getElem? hu'
      exact List.eq_of_mem_replicate this
    subst this
    exact cell_int hu hok
  obtain ⟨f, hf, e⟩ := ints_list cs.toList hall
  have hl : cs.toList.length = m := by rw [← hc, ← hs]; simp
  rw [hl] at hf e
  refine ⟨f, fun σ => ⟨cs.toList, by simp, ?_⟩⟩
  have e0 := e 0
  simp only [Nat.sub_zero] at e0
  rw [← List.range_eq_range'] at e0
  rw [e0]
  have hm2 := hm
  exact prel_of_ints _ (fun i hi => hf i (List.mem_range.1 hi))

/-- The row's ending. -/
theorem trodAll_below {H : Type} {enc : TypeId × Value → H} {P : Program} (hl : laidOutB P = true) {W W' : World} (hb : Below W.heap.size W W') : ∀ {ts : List TypeId} {vs : List Value} {ds : List (DataW H)} {ps : List MemPlace},
    (ts.all fun t => P.readableRec t && decide (t < P.types.size)) = true → DataW.TrodAll enc P W 0 (fun _ => true) true ts vs ds ps → (∀ x ∈ ps, x.block < W.heap.size) →
    DataW.TrodAll enc P W' 0 (fun b => decide (b < W.heap.size)) true ts vs ds ps
  | [], _, _, _, _, h, _ => by
    obtain ⟨rfl, rfl, rfl⟩ := trodAll_nil h
    exact h
  | t :: ts, _, _, _, ht, h, hlt => by
    obtain ⟨v, vs, d, ds, a, b, rfl, rfl, rfl, h1, h2⟩ := trodAll_cons h
    simp only [List.all_cons, Bool.and_eq_true, decide_eq_true_iff] at ht
    exact ⟨a, b, Below.trod hl ht.1.1 ht.1.2 h1 hb (fun x hx => hlt x (by simp [hx])), trodAll_below hl hb ht.2 h2 (fun x hx => hlt x (by simp [hx])), rfl⟩

theorem post_true {H : Type} {enc : TypeId × Value → H} {P : Program} {f : Func} {s : ChangeSpec} {apart fresh handsOn : Bool} {W W' : World} {args : Array Value} {ds gs : List (DataW H)} {before : List MemPlace} {tb : TypeId}
    (hl : laidOutB P = true) (hts : (f.params.toList.all fun t => P.readableRec t && decide (t < P.types.size)) = true) (hr : f.resultTypes = #[tb]) (hb : P.underlying tb = some .bool)
    (hv : s.vars = []) (hsp : s.fn H ds = { results := [.lit (.bool true)], args := ds })
    (hW : DataW.Whole enc P f.params.toList s.vars apart W args.toList ds gs before) (hbe : Below W.heap.size W W') : s.post enc P f apart fresh handsOn false W args (.bool true) W' := by
  have hW2 := hW
  obtain ⟨p, q, hA, hV, rfl, hfz, hnd⟩ := hW
  rw [hv] at hV
  obtain ⟨rfl, rfl⟩ := trodVars_none hV
  have hlt : ∀ x ∈ p, x.block < W.heap.size := fun x hx => hW2.lt x (by simp [hx])
  refine ⟨ds, [], p ++ [], [], p, [], hW2, ?_, ?_, ?_, hbe.frame _, fun h => by cases h⟩
  · rw [List.append_nil, hsp, hr]
    exact trodAll_mk1 (shut_bool hb true)
  · rw [List.append_nil, hsp]
    exact trodAll_below hl hbe hts hA hlt
  · rw [List.append_nil, hsp, hv]
    rfl

/-- A y, and whether x is odd. -/
theorem seed_of_ok {P : Program} {W : World} {r : Reach} {base : Nat} {t : TypeId} {v : Value} (tu tb : TypeId) (ha : isAgT P t = true) (hc : P.cellsOf t = 5) (ht : P.cellTypes P.depth t = some [tu, tu, tu, tu, tb]) (hu : P.underlying tu = some (.int .u64)) (hb : P.underlying tb = some .bool)
    (h : Value.okWide P W r base t v) : ∃ (f : Nat → Int) (b : Bool), ∀ σ, VRel σ (.ag (.ps [.int .u64 (f 0), .int .u64 (f 1), .int .u64 (f 2), .int .u64 (f 3), .bool b])) v := by
  obtain ⟨cs, rfl, hs, ts, hts, _, hcell⟩ := okWide_ag ha h
  rw [ht] at hts
  cases hts
  rw [hc] at hs
  have hl : cs.toList.length = 5 := by simpa using hs
  have get : ∀ i x, cs.toList[i]? = some x → cs[i]? = some x := fun i x h => by rw [← Array.getElem?_toList]; exact h
  match hcs : cs.toList, hl with
  | [x0, x1, x2, x3, x4], _ =>
    rw [hcs] at get
    have hn : ∀ i x, i < 4 → cs[i]? = some x → ∃ n, x = .int .u64 n ∧ inK .u64 n = true := by
      intro i x hi hx
      obtain ⟨u', hu', hok⟩ := hcell i x hx
      have : u' = tu := by
        match i, hi with
        | 0, _ => simpa using hu'.symm
        | 1, _ => simpa using hu'.symm
        | 2, _ => simpa using hu'.symm
        | 3, _ => simpa using hu'.symm
      subst this
      exact cell_int hu hok
    obtain ⟨n0, rfl, k0⟩ := hn 0 x0 (by decide) (get 0 x0 rfl)
    obtain ⟨n1, rfl, k1⟩ := hn 1 x1 (by decide) (get 1 x1 rfl)
    obtain ⟨n2, rfl, k2⟩ := hn 2 x2 (by decide) (get 2 x2 rfl)
    obtain ⟨n3, rfl, k3⟩ := hn 3 x3 (by decide) (get 3 x3 rfl)
    obtain ⟨b, rfl⟩ : ∃ b, x4 = .bool b := by
      obtain ⟨u', hu', hok⟩ := hcell 4 x4 (get 4 x4 rfl)
      have : u' = tb := by simpa using hu'.symm
      subst this
      exact cell_bool hb hok
    refine ⟨fun i => match i with | 0 => n0 | 1 => n1 | 2 => n2 | _ => n3, b, fun σ => ⟨cs.toList, by simp, ?_⟩⟩
    rw [hcs]
    exact ⟨[_], _, rfl, ⟨rfl, k0⟩, [_], _, rfl, ⟨rfl, k1⟩, [_], _, rfl, ⟨rfl, k2⟩, [_], _, rfl, ⟨rfl, k3⟩, [_], _, rfl, rfl, rfl⟩

theorem u64_of_ok {P : Program} {W : World} {r : Reach} {base : Nat} {t : TypeId} {v : Value} (hu : P.underlying t = some (.int .u64)) (h : Value.okWide P W r base t v) : ∃ n : Int, ∀ σ, VRel σ (.u (.one (.int .u64 n))) v := by
  obtain ⟨n, rfl, hn⟩ : ∃ n, v = .int .u64 n ∧ inK .u64 n = true := by
    cases v with
    | int k' n =>
      simp only [Value.okWide, hu, Cell.okWide, Cell.ok] at h
      obtain ⟨rfl, hn⟩ := h
      exact ⟨n, rfl, inK_iff.2 (by simpa [IntKind.has] using hn)⟩
    | _ => simp_all [Value.okWide, Cell.okWide, Cell.ok]
  exact ⟨n, fun σ => ⟨rfl, rfl, hn⟩⟩
end Vx

/-
  From a contract to a row: the call.
-/
namespace Vx
open Go Go.RowKit

theorem HRel.start (W : World) : HRel 0 (frzS W) [] W :=
  ⟨fun _ _ h => (by cases h), fun _ _ _ _ h => (by cases h), fun _ _ h => (by cases h), fun _ _ h => (by cases h), fun _ _ _ h => (by cases h), fun _ h => ⟨h, rfl⟩⟩

theorem reach_start : ∀ f ids, reach (hg []) f ids = []
  | 0, _ => rfl
  | f + 1, ids => by
    have hn : ∀ i, hg [] i = none := fun i => rfl
    unfold reach
    rw [List.flatMap_eq_nil_iff]
    intro i _
    rw [hn i]

theorem argsOf_start : ∀ {l : List V}, (∀ v ∈ l, idOf v = none) → argsOf (hg []) l = some (l.map fun v => (v, []))
  | [], _ => rfl
  | v :: l, h => by simp only [argsOf, argOf, h v (by simp), reach_start, argsOf_start (l := l) fun u hu => h u (by simp [hu]), List.map_cons]

theorem calls_true {P : Program} {f : FuncId} {fn : Func} {c : Code} (hf : P.funcs[f]? = some fn) (hb : fn.body = some c) (hname : (fn.name == "runtime.NumGoroutine") = false)
    {ts : List Ty} {F : List D → Option (List Bool × V)} (hok : FnOK P f (spec ts F)) {args : List V} (chk : List Bool) (hsp : spec ts F 0 (args.map fun v => (v, [])) = some (chk, .bool true, [])) (hchk : allT chk)
    (hid : ∀ v ∈ args, idOf v = none) {vals : List Value} {W : World} (hvals : All2 (VRel (frzS W)) args vals) :
    Calls P f vals.toArray W fun e W' => e = .returned (.bool true) ∧ Below W.heap.size W W' := by
  have hc := hok 0 (args.map fun v => (v, [])) chk (.bool true) [] hsp hchk 0 (frzS W) [] W args vals (HRel.start W) (argsOf_start hid) hvals rfl
  have hrun : (callFunc f vals.toArray).run P W = .ok (.enter f vals.toArray) W := by
    simp only [callFunc, Sem.run_bind, run_program, Result.andThen_ok, hf]
    rw [if_neg (by rw [hname]; simp)]
    simp [hb]
  unfold Comes1 at hc
  rw [hrun] at hc
  refine Calls.mono hc fun e W' he => ?_
  cases e with
  | returned x =>
    obtain ⟨σ', h1, h2, _⟩ := he
    have : x = .bool true := by
      have h3 := h2.2
      simp only [LRel] at h3
      simpa using h3
    rw [this]
    exact ⟨rfl, h1⟩
  | _ => exact he.elim
end Vx
