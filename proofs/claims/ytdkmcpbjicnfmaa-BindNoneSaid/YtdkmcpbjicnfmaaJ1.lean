/-
  From a contract to a row: plain arguments, the answer true. Of arguments: what their cells are. Of the answer: the row's ending.
-/
import Derived.Test.YtdkmcpbjicnfmaaL1
import Derived.ProofKit
namespace Vx
open Go Go.RowKit Go.ChangeShapes Go.WideShapes

theorem trodAll_below {H : Type} {enc : TypeId × Value → H} {P : Program} (hl : laidOutB P = true) {W W' : World} (hb : Below W.heap.size W W') : ∀ {ts : List TypeId} {vs : List Value} {ds : List (DataW H)} {ps : List MemPlace},
 (ts.all fun t => P.readableRec t && decide (t < P.types.size)) = true → DataW.TrodAll enc P W 0 (fun _ => true) true ts vs ds ps → (∀ x ∈ ps, x.block < W.heap.size) →
 DataW.TrodAll enc P W' 0 (fun b => decide (b < W.heap.size)) true ts vs ds ps
 | [], _, _, _, _, h, _ => by
   obtain ⟨rfl, rfl, rfl⟩ := trodAll_nil h
   exact h
 | t :: ts, _, _, _, ht, h, hlt => by
   obtain ⟨v, vs, d, ds, a, b, rfl, rfl, rfl, h1, h2⟩ := trodAll_cons h
   simp only [List.all_cons, Bool.and_eq_true, decide_eq_true_iff] at ht
   exact ⟨a, b, Below.trod hl ht.1.1 ht.1.2 h1 hb (fun x hx => hlt x (by simp [hx])), trodAll_below hl hb ht.2 h2 (fun x hx => hlt x (by simp [hx])), rfl⟩

theorem post_true {H : Type} {enc : TypeId × Value → H} {P : Program} {f : Func} {s : ChangeSpec} {apart fresh handsOn : Bool} {W W' : World} {args : Array Value} {ds gs : List (DataW H)} {before : List MemPlace} {tb : TypeId}
 (hl : laidOutB P = true) (hts : (f.params.toList.all fun t => P.readableRec t && decide (t < P.types.size)) = true) (hr : f.resultTypes = #[tb]) (hb : P.underlying tb = some .bool)
 (hv : s.vars = []) (hsp : s.fn H ds = { results := [.lit (.bool true)], args := ds })
 (hW : DataW.Whole enc P f.params.toList s.vars apart W args.toList ds gs before) (hbe : Below W.heap.size W W') : s.post enc P f apart fresh handsOn false W args (.bool true) W' := by
 have hW2 := hW
 obtain ⟨p, q, hA, hV, rfl, hfz, hnd⟩ := hW
 rw [hv] at hV
 obtain ⟨rfl, rfl⟩ := trodVars_none hV
 have hlt : ∀ x ∈ p, x.block < W.heap.size := fun x hx => hW2.lt x (by simp [hx])
 refine ⟨ds, [], p ++ [], [], p, [], hW2, ?_, ?_, ?_, hbe.frame _, fun h => by cases h⟩
 · rw [List.append_nil, hsp, hr]
   exact trodAll_mk1 (shut_bool hb true)
 · rw [List.append_nil, hsp]
   exact trodAll_below hl hbe hts hA hlt
 · rw [List.append_nil, hsp, hv]
   rfl
end Vx

/-
  From a contract to a row: the call.
-/
namespace Vx
open Go Go.RowKit

theorem HRel.start (W : World) : HRel 0 (frzS W) [] W :=
 ⟨fun _ _ h => (by cases h), fun _ _ _ _ h => (by cases h), fun _ _ h => (by cases h), fun _ _ h => (by cases h), fun _ _ _ h => (by cases h), fun _ h => ⟨h, rfl⟩⟩

theorem reach_start : ∀ f ids, reach (hg []) f ids = []
 | 0, _ => rfl
 | f + 1, ids => by
   have hn : ∀ i, hg [] i = none := fun i => rfl
   unfold reach
   rw [List.flatMap_eq_nil_iff]
   intro i _
   rw [hn i]

theorem argsOf_start : ∀ {l : List V}, (∀ v ∈ l, idOf v = none) → argsOf (hg []) l = some (l.map fun v => (v, []))
 | [], _ => rfl
 | v :: l, h => by simp only [argsOf, argOf, h v (by simp), reach_start, argsOf_start (l := l) fun u hu => h u (by simp [hu]), List.map_cons]

theorem calls_true {P : Program} {f : FuncId} {fn : Func} {c : Code} (hf : P.funcs[f]? = some fn) (hb : fn.body = some c) (hname : (fn.name == "runtime.NumGoroutine") = false)
 {ts : List Ty} {F : List D → Option (List Bool × V)} (hok : FnOK P f (spec ts F)) {args : List V} (chk : List Bool) (hsp : spec ts F 0 (args.map fun v => (v, [])) = some (chk, .bool true, [])) (hchk : allT chk)
 (hid : ∀ v ∈ args, idOf v = none) {vals : List Value} {W : World} (hvals : All2 (VRel (frzS W)) args vals) :
 Calls P f vals.toArray W fun e W' => e = .returned (.bool true) ∧ Below W.heap.size W W' := by
 have hc := hok 0 (args.map fun v => (v, [])) chk (.bool true) [] hsp hchk 0 (frzS W) [] W args vals (HRel.start W) (argsOf_start hid) hvals rfl
 have hrun : (callFunc f vals.toArray).run P W = .ok (.enter f vals.toArray) W := by
  simp only [callFunc, Sem.run_bind, run_program, Result.andThen_ok, hf]
  rw [if_neg (by rw [hname]; simp)]
  simp [hb]
 unfold Comes1 at hc
 rw [hrun] at hc
 refine Calls.mono hc fun e W' he => ?_
 cases e with
 | returned x =>
   obtain ⟨σ', h1, h2, _⟩ := he
   have : x = .bool true := by
    have h3 := h2.2
    simp only [LRel] at h3
    simpa using h3
   rw [this]
   exact ⟨rfl, h1⟩
 | _ => exact he.elim
end Vx
