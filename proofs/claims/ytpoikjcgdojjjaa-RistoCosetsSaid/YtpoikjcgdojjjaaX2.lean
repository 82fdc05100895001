/-
  An executor of Go code on values of its own: that what it says of addresses, parts and new aggregates is so.
-/
import Derived.Test.YtpoikjcgdojjjaaX1
import Derived.Laws.CopyRow
namespace Vx
open Go Go.RowKit

section
variable {P : Program} {w : World} {σ : Sg}

theorem vptr {id off : Nat} {x : Value} (h : VRel σ (.u (.one (.ptr id off))) x) : ∃ b, σ id = some b ∧ x = .pointer (some ⟨b, off, none⟩) := by
  obtain ⟨_, b, hb, e⟩ := h
  cases e
  exact ⟨b, hb, rfl⟩

theorem vptre {id s i r : Nat} {x : Value} (h : VRel σ (.u (.one (.ptre id s i r))) x) : ∃ b, σ id = some b ∧ x = .pointer (some ⟨b, i * s + r, none⟩) := by
  obtain ⟨_, b, hb, e⟩ := h
  cases e
  exact ⟨b, hb, rfl⟩

theorem vsl {id off n c : Nat} {x : Value} (h : VRel σ (.u (.one (.sl id off n c))) x) : ∃ b, σ id = some b ∧ x = .slice (some ⟨b, off, none⟩) n c := by
  obtain ⟨_, b, hb, e⟩ := h
  cases e
  exact ⟨b, hb, rfl⟩

theorem mk_ptr {id off b : Nat} (h : σ id = some b) : VRel σ (.u (.one (.ptr id off))) (.pointer (some ⟨b, off, none⟩)) := ⟨rfl, b, h, rfl⟩
theorem mk_ptre {id s i r b : Nat} (h : σ id = some b) : VRel σ (.u (.one (.ptre id s i r))) (.pointer (some ⟨b, i * s + r, none⟩)) := ⟨rfl, b, h, rfl⟩
theorem mk_sl {id off n c b : Nat} (h : σ id = some b) : VRel σ (.u (.one (.sl id off n c))) (.slice (some ⟨b, off, none⟩) n c) := ⟨rfl, b, h, rfl⟩

theorem addr_add (b o n : Nat) : (⟨b, o, none⟩ : Addr).add n = ⟨b, o + n, none⟩ := by
  unfold Addr.add
  split
  · rename_i h; simp [h]
  · rfl

theorem evConv_sound {sy : Bool} {s d : TypeId} {x v : V} {a : Value} (he : Gives (evConv sy P s d x) v) (h : VRel σ x a) :
    ∃ y, (convert s d a).run P w = .ok y w ∧ VRel σ v y := by
  unfold evConv at he
  split at he
  · rename_i u k k' n hs hd
    obtain ⟨rfl, hk⟩ := vint h
    refine ⟨_, ?_, mkI_sound he⟩
    simp [convert, run_underlying hs, run_underlying hd, Conv.intToInt]
  · cases he

theorem run_fieldAt {s : TypeId} {fs : Array Field} {f : Nat} {fl : Field} {z b o : Nat} (hu : P.underlying s = some (.struct fs)) (hf : fs[f]? = some fl)
    (hz : tsz P fl.type = some (z + 1)) :
    (Instr.fieldAt s (.pointer (some ⟨b, o, none⟩)) f).run P w = .ok (.pointer (some ⟨b, o + fl.offset, none⟩)) w := by
  simp [Instr.fieldAt, run_underlying hu, hf, Instr.sureAddr, fieldPlace, run_sizeOf hz, addr_add]

theorem evFieldAddr_sound {s : TypeId} {x v : V} {f : Nat} {a : Value} (he : Gives (evFieldAddr P s x f) v) (h : VRel σ x a) :
    ∃ y, (Instr.fieldAt s a f).run P w = .ok y w ∧ VRel σ v y := by
  unfold evFieldAddr at he
  split at he
  · rename_i fs id off hu
    split at he
    · rename_i fl hf
      split at he
      · rename_i z hz
        obtain ⟨_, rfl⟩ := gives_val he
        obtain ⟨b, hb, rfl⟩ := vptr h
        exact ⟨_, run_fieldAt hu hf hz, mk_ptr hb⟩
      · cases he
    · cases he
  · rename_i fs id sz i r hu
    split at he
    · rename_i fl hf
      split at he
      · rename_i z hz
        obtain ⟨_, rfl⟩ := gives_val he
        obtain ⟨b, hb, rfl⟩ := vptre h
        refine ⟨_, run_fieldAt hu hf hz, ?_⟩
        rw [Nat.add_assoc]
        exact mk_ptre hb
      · cases he
    · cases he
  · cases he

theorem evField_sound {s : TypeId} {x v : V} {f : Nat} {a : Value} (he : Gives (evField P s x f) v) (h : VRel σ x a) :
    ∃ y, (Instr.field s a f).run P w = .ok y w ∧ VRel σ v y := by
  unfold evField at he
  split at he
  · rename_i fs c hu
    split at he
    · rename_i fl hf
      obtain ⟨xs, rfl, hc⟩ := vag h
      obtain ⟨y, hy, hv⟩ := partV_sound (w := w) he hc
      exact ⟨y, by simp [Instr.field, run_underlying hu, hf, asAgg, hy], hv⟩
    · cases he
  · cases he

theorem inRange_iff {i : Int} {n : Nat} (h : allT (inRange i n)) : 0 ≤ i ∧ i < (n : Int) :=
  ⟨of_decide_eq_true (h _ (by simp [inRange])), of_decide_eq_true (h _ (by simp [inRange]))⟩

theorem run_indexAt_arr {t e : TypeId} {n s b o : Nat} {k : IntKind} {i : Int} (hu : P.underlying t = some (.array n e)) (hz : tsz P e = some s) (h : 0 ≤ i ∧ i < (n : Int)) :
    (Instr.indexAt t (.pointer (some ⟨b, o, none⟩)) (.int k i)).run P w = .ok (.pointer (some ⟨b, o + i.toNat * s, none⟩)) w := by
  simp [Instr.indexAt, asIntOf, run_underlying hu, Instr.sureAddr, run_sizeOf hz, addr_add, h.1, h.2]

theorem run_indexAt_sl {t e : TypeId} {n s b o c : Nat} {k : IntKind} {i : Int} (hu : P.underlying t = some (.slice e)) (hz : tsz P e = some s) (h : 0 ≤ i ∧ i < (n : Int)) :
    (Instr.indexAt t (.slice (some ⟨b, o, none⟩) n c) (.int k i)).run P w = .ok (.pointer (some ⟨b, o + i.toNat * s, none⟩)) w := by
  simp [Instr.indexAt, asIntOf, run_underlying hu, run_sizeOf hz, addr_add, h.1, h.2]

theorem evIndexAddr_sound {t : TypeId} {x i v : V} {a j : Value} (he : Gives (evIndexAddr P t x i) v) (h : VRel σ x a) (hi : VRel σ i j) :
    ∃ y, (Instr.indexAt t a j).run P w = .ok y w ∧ VRel σ v y := by
  unfold evIndexAddr at he
  split at he
  · rename_i n e id off k i hu
    obtain ⟨b, hb, rfl⟩ := vptr h
    obtain ⟨rfl, _⟩ := vint hi
    split at he
    · rename_i hz
      obtain ⟨hc, rfl⟩ := gives_val he
      refine ⟨_, run_indexAt_arr hu hz (inRange_iff hc), ?_⟩
      rw [Nat.mul_one]
      exact mk_ptr hb
    · rename_i s hs hz
      obtain ⟨hc, rfl⟩ := gives_val he
      refine ⟨_, run_indexAt_arr hu hz (inRange_iff hc), ?_⟩
      split
      · have := mk_ptre (σ := σ) (s := s) (i := i.toNat) (r := 0) hb
        simpa using this
      · exact mk_ptr hb
    · cases he
  · rename_i n e id sz jj r k i hu
    obtain ⟨b, hb, rfl⟩ := vptre h
    obtain ⟨rfl, _⟩ := vint hi
    split at he
    · rename_i s hz
      obtain ⟨hc, rfl⟩ := gives_val he
      refine ⟨_, run_indexAt_arr hu hz (inRange_iff hc), ?_⟩
      rw [Nat.add_assoc]
      exact mk_ptre hb
    · cases he
  · rename_i e id off len cap k i hu
    obtain ⟨b, hb, rfl⟩ := vsl h
    obtain ⟨rfl, _⟩ := vint hi
    split at he
    · rename_i hz
      obtain ⟨hc, rfl⟩ := gives_val he
      refine ⟨_, run_indexAt_sl hu hz (inRange_iff hc), ?_⟩
      rw [Nat.mul_one]
      exact mk_ptr hb
    · rename_i s hs hz
      obtain ⟨hc, rfl⟩ := gives_val he
      refine ⟨_, run_indexAt_sl hu hz (inRange_iff hc), ?_⟩
      split
      · have := mk_ptre (σ := σ) (s := s) (i := i.toNat) (r := 0) hb
        simpa using this
      · exact mk_ptr hb
    · cases he
  · cases he

theorem evIndex_sound {t : TypeId} {x i v : V} {a j : Value} (he : Gives (evIndex P t x i) v) (h : VRel σ x a) (hi : VRel σ i j) :
    ∃ y, (Instr.index t a j).run P w = .ok y w ∧ VRel σ v y := by
  unfold evIndex at he
  split at he
  · rename_i n e c k i hu
    obtain ⟨xs, rfl, hxs⟩ := vag h
    obtain ⟨rfl, _⟩ := vint hi
    split at he
    · rename_i s ag hz ha
      cases ag with
      | true =>
        simp only at he
        split at he
        · rename_i c' hs
          obtain ⟨hc, rfl⟩ := gives_val he
          have hr := inRange_iff hc
          obtain ⟨h2, h3⟩ := sliceC_sound hs hxs
          refine ⟨_, ?_, _, rfl, h2⟩
          simp only [Instr.index, asIntOf, Sem.run_bind, Sem.run_pure, Result.andThen_ok, run_underlying hu, hr.1, hr.2, and_self, if_true, run_sizeOf hz]
          rw [part_eq hz ha xs h3 (by simp)]
          simp
        · cases he
      | false =>
        simp only at he
        split at he
        · rename_i chk l hg
          split at he
          · obtain ⟨hc, rfl⟩ := gives_val he
            obtain ⟨hc1, hc2⟩ := allT_append hc
            have hr := inRange_iff hc1
            obtain ⟨y, hy, hl⟩ := getC_sound hg hc2 hxs
            refine ⟨y, ?_, hl.one_of⟩
            simp only [Instr.index, asIntOf, Sem.run_bind, Sem.run_pure, Result.andThen_ok, run_underlying hu, hr.1, hr.2, and_self, if_true, run_sizeOf hz, Nat.mul_one]
            simp [part, run_isAgg ha, hy]
          · cases he
        · cases he
    · cases he
  · rename_i s k i hu
    obtain ⟨_, e⟩ := h
    cases e
    obtain ⟨rfl, _⟩ := vint hi
    obtain ⟨hc, rfl⟩ := gives_val he
    have hr := inRange_iff hc
    have hlt : i.toNat < s.size := by omega
    refine ⟨.int .u8 ((s[i.toNat]'hlt).toNat : Int), ?_, ?_⟩
    · simp [Instr.index, asIntOf, run_underlying hu, hr.1, hlt]
    · have e : s.data.toList.getD i.toNat 0 = s[i.toNat]'hlt := by
        have : i.toNat < s.data.toList.length := by simpa using hlt
        rw [List.getD_eq_getElem?_getD, List.getElem?_eq_getElem this]
        rfl
      rw [e]
      refine one_int ?_
      have := (s[i.toNat]'hlt).toNat_lt
      simp [inK]
      omega
  · cases he

theorem run_bound {k : IntKind} {i : Int} {y : Nat} {c : BoundsCode} (h0 : 0 ≤ i) (h1 : i ≤ (y : Int)) : (Instr.sliceBound (.int k i) y c).run P w = .ok i.toNat w := by
  simp [Instr.sliceBound, asIntOf, h0, h1]

theorem bnd_sound {d : Int} {x : Option V} {a : Option Value} {n : Int} (h : bnd d x = some n) (hr : (x = none ∧ a = none) ∨ ∃ v y, x = some v ∧ a = some y ∧ VRel σ v y) :
    (a = none ∧ n = d) ∨ ∃ k, a = some (.int k n) := by
  rcases hr with ⟨rfl, rfl⟩ | ⟨v, y, rfl, rfl, hv⟩
  · simp only [bnd, Option.some.injEq] at h
    exact .inl ⟨rfl, h.symm⟩
  · unfold bnd at h
    split at h
    · rename_i h0; cases h0
    · rename_i k m h0
      cases h0
      cases h
      obtain ⟨rfl, _⟩ := vint hv
      exact .inr ⟨k, rfl⟩
    · cases h

theorem run_bounds {sl : Bool} {len cap : Nat} {lo hi : Option Value} {l h : Int} (hlo : (lo = none ∧ l = 0) ∨ ∃ k, lo = some (.int k l)) (hhi : (hi = none ∧ h = (len : Int)) ∨ ∃ k, hi = some (.int k h))
    (h0 : 0 ≤ h) (h1 : h ≤ (cap : Int)) (h2 : 0 ≤ l) (h3 : l ≤ h) :
    (Instr.sliceBounds sl len cap lo hi none).run P w = .ok (l.toNat, h.toNat, cap) w := by
  have hl : l ≤ ((h.toNat : Nat) : Int) := by omega
  rcases hlo with ⟨rfl, rfl⟩ | ⟨k, rfl⟩ <;> rcases hhi with ⟨rfl, rfl⟩ | ⟨k', rfl⟩
  · simp [Instr.sliceBounds]
  · simp [Instr.sliceBounds, run_bound h0 h1]
  · simp [Instr.sliceBounds, run_bound h2 h3]
  · simp [Instr.sliceBounds, run_bound h0 h1, run_bound h2 hl]

theorem gives_br {chk : List Bool} {b : Bool} {v w x : V} (h : Gives (.br chk b v w) x) : allT chk ∧ x = if b then v else w := by
  cases h with
  | brT h => exact ⟨h, rfl⟩
  | brF h => exact ⟨h, rfl⟩

theorem evSlice_sound {t : TypeId} {x v : V} {lo hi mx : Option V} {a : Value} {l h m : Option Value} (he : Gives (evSlice P t x lo hi mx) v) (hx : VRel σ x a)
    (hlo : (lo = none ∧ l = none) ∨ ∃ v y, lo = some v ∧ l = some y ∧ VRel σ v y) (hhi : (hi = none ∧ h = none) ∨ ∃ v y, hi = some v ∧ h = some y ∧ VRel σ v y)
    (hmx : mx = none → m = none) :
    ∃ y, (Instr.sliceAt t a l h m).run P w = .ok y w ∧ VRel σ v y := by
  unfold evSlice at he
  split at he
  · cases he
  · cases hmx rfl
    split at he
    · rename_i n e id off hu
      obtain ⟨b, hb, rfl⟩ := vptr hx
      split at he
      · rename_i s l' h' hz hbl hbh
        obtain ⟨hc, rfl⟩ := gives_br he
        have c1 : 0 ≤ h' := of_decide_eq_true (hc _ (by simp))
        have c2 : h' ≤ (n : Int) := of_decide_eq_true (hc _ (by simp))
        have c3 : 0 ≤ l' := of_decide_eq_true (hc _ (by simp))
        have c4 : l' ≤ h' := of_decide_eq_true (hc _ (by simp))
        have hbs := run_bounds (P := P) (w := w) (sl := false) (len := n) (cap := n) (bnd_sound hbl hlo) (bnd_sound hbh hhi) c1 c2 c3 c4
        refine ⟨.slice (some (if n = l'.toNat then ⟨b, off, none⟩ else ⟨b, off + l'.toNat * s, none⟩)) (h'.toNat - l'.toNat) (n - l'.toNat), ?_, ?_⟩
        · simp [Instr.sliceAt, run_underlying hu, Instr.sureAddr, hbs, run_sizeOf hz, addr_add]
        · by_cases hl : l' = (n : Int)
          · have : n = l'.toNat := by omega
            rw [decide_eq_true hl, if_pos rfl, if_pos this]
            exact mk_sl hb
          · have : ¬ n = l'.toNat := by omega
            rw [decide_eq_false hl, if_neg (by simp), if_neg this]
            exact mk_sl hb
      · cases he
    · rename_i e id off len cap hu
      obtain ⟨b, hb, rfl⟩ := vsl hx
      split at he
      · rename_i s l' h' hz hbl hbh
        obtain ⟨hc, rfl⟩ := gives_br he
        have c1 : 0 ≤ h' := of_decide_eq_true (hc _ (by simp))
        have c2 : h' ≤ (cap : Int) := of_decide_eq_true (hc _ (by simp))
        have c3 : 0 ≤ l' := of_decide_eq_true (hc _ (by simp))
        have c4 : l' ≤ h' := of_decide_eq_true (hc _ (by simp))
        have hbs := run_bounds (P := P) (w := w) (sl := true) (len := len) (cap := cap) (bnd_sound hbl hlo) (bnd_sound hbh hhi) c1 c2 c3 c4
        refine ⟨.slice (some (if cap = l'.toNat then ⟨b, off, none⟩ else ⟨b, off + l'.toNat * s, none⟩)) (h'.toNat - l'.toNat) (cap - l'.toNat), ?_, ?_⟩
        · simp only [Instr.sliceAt, Sem.run_bind, run_underlying hu, Result.andThen_ok, Instr.slice, hbs, run_sizeOf hz, Sem.run_pure]
          congr 2
          split <;> simp [addr_add]
        · by_cases hl : l' = (cap : Int)
          · have : cap = l'.toNat := by omega
            rw [decide_eq_true hl, if_pos rfl, if_pos this]
            exact mk_sl hb
          · have : ¬ cap = l'.toNat := by omega
            rw [decide_eq_false hl, if_neg (by simp), if_neg this]
            exact mk_sl hb
      · cases he
    · cases he

theorem All2.get {α β : Type} {R : α → β → Prop} : ∀ {l : List α} {m : List β}, All2 R l m → ∀ {i : Nat} {x : α}, l[i]? = some x → ∃ y, m[i]? = some y ∧ R x y
  | _, _, .nil, i, x, h => by simp at h
  | _, _, .cons a b, 0, x, h => by
    simp only [List.getElem?_cons_zero, Option.some.injEq] at h
    subst h
    exact ⟨_, by simp, a⟩
  | _, _, .cons a b, i + 1, x, h => by
    simp only [List.getElem?_cons_succ] at h ⊢
    exact b.get h

theorem evExtract_sound {x v : V} {i : Nat} {a : Value} (he : Gives (evExtract x i) v) (h : VRel σ x a) :
    ∃ y, (Instr.extract a i).run P w = .ok y w ∧ VRel σ v y := by
  unfold evExtract at he
  split at he
  · rename_i xs
    split at he
    · rename_i y hy
      obtain ⟨_, rfl⟩ := gives_val he
      obtain ⟨vs, rfl, hvs⟩ := h
      obtain ⟨z, hz, hr⟩ := hvs.get hy
      exact ⟨z, by simp [Instr.extract, hz], hr⟩
    · cases he
  · cases he

theorem ckI_sound {sy : Bool} {n : Nat} (h : ckI sy n = true) : inK .i64 n = true := by
  unfold ckI at h
  split at h
  · rw [← okK_eq]; exact h
  · exact h

theorem evLen_sound {sy : Bool} {t : TypeId} {x v : V} {a : Value} (he : Gives (evLen sy P t x) v) (h : VRel σ x a) (ty : TypeId) :
    ∃ y, (Builtin.len_ #[t] ty #[a]).run P w = .ok y w ∧ VRel σ v y := by
  unfold evLen at he
  split at he
  · rename_i s hu
    obtain ⟨hc, rfl⟩ := gives_val he
    obtain ⟨_, e⟩ := h
    cases e
    exact ⟨_, by simp [Builtin.len_, run_underlying hu, goInt], one_int (ckI_sound (hc (ckI sy _) (List.mem_singleton.2 rfl)))⟩
  · rename_i n e hu
    obtain ⟨hc, rfl⟩ := gives_val he
    exact ⟨_, by simp [Builtin.len_, run_underlying hu, goInt], one_int (hc _ (by simp))⟩
  · rename_i e id off n c hu
    obtain ⟨hc, rfl⟩ := gives_val he
    obtain ⟨b, hb, rfl⟩ := vsl h
    exact ⟨_, by simp [Builtin.len_, run_underlying hu, goInt], one_int (ckI_sound (hc (ckI sy _) (List.mem_singleton.2 rfl)))⟩
  · rename_i e hu
    obtain ⟨hc, rfl⟩ := gives_val he
    obtain ⟨_, e⟩ := h
    cases e
    exact ⟨_, by simp [Builtin.len_, run_underlying hu, goInt], one_int rfl⟩
  · cases he

theorem evToArr_sound {t : TypeId} {x v : V} {a : Value} (he : Gives (evToArr P t x) v) (h : VRel σ x a) :
    ∃ y, (Instr.arrayAt t a).run P w = .ok y w ∧ VRel σ v y := by
  unfold evToArr at he
  split at he
  · rename_i n e id off len cap hu
    obtain ⟨hc, rfl⟩ := gives_val he
    obtain ⟨b, hb, rfl⟩ := vsl h
    have : n ≤ len := of_decide_eq_true (hc _ (by simp))
    exact ⟨_, by simp [Instr.arrayAt, run_underlying hu, show ¬ len < n by omega], mk_ptr hb⟩
  · cases he

end
end Vx

/-
  An executor of Go code on values of its own: new aggregates; all operations that touch no memory.
-/
namespace Vx
open Go Go.RowKit

theorem fold_set (off : Nat) : ∀ (l : List Value) (k : Nat) (cs : Array Value), off + k + l.length ≤ cs.size →
    ((l.zipIdx k).foldl (fun (cs : Array Value) (p : Value × Nat) => cs.setIfInBounds (off + p.2) p.1) cs) = (cs.toList.take (off + k) ++ l ++ cs.toList.drop (off + k + l.length)).toArray
  | [], k, cs, h => by simp
  | v :: l, k, cs, h => by
    simp only [List.length_cons] at h
    rw [List.zipIdx_cons, List.foldl_cons, fold_set off l (k + 1) (cs.setIfInBounds (off + k) v) (by simp; omega)]
    congr 1
    have e := list_seg_step cs.toList (off + k) v l (by simpa using (by omega : off + k + (l.length + 1) ≤ cs.size))
    simpa [Array.toList_setIfInBounds, Nat.add_assoc] using e

theorem parts_sound {σ : Sg} {x : U} {new : List L} {y : Value} (h : x.parts = some new) (hv : URel σ x y) : PRel σ new y.cells.toList := by
  cases x with
  | one l =>
    simp only [U.parts, Option.some.injEq] at h
    subst h
    obtain ⟨h1, h2⟩ := hv
    have : y.cells = #[y] := by cases y <;> first | rfl | simp [oneCell] at h1
    rw [this]
    exact ⟨[y], [], by simp, h2, rfl⟩
  | ag c =>
    cases c with
    | ps l =>
      simp only [U.parts, Option.some.injEq] at h
      subst h
      obtain ⟨xs, rfl, hc⟩ := hv
      exact hc
    | big => simp [U.parts] at h

theorem replace_sound {σ : Sg} {cells a q m z new : List L} {off s : Nat} {xs ys : List Value} (h1 : splitC cells off = some (a, q)) (h2 : splitC q s = some (m, z))
    (hn : szs new = s) (hx : PRel σ cells xs) (hy : PRel σ new ys) :
    PRel σ (a ++ new ++ z) (xs.take off ++ ys ++ xs.drop (off + s)) ∧ off + s ≤ xs.length ∧ ys.length = s := by
  obtain ⟨ha, hq, hl⟩ := splitC_sound h1 hx
  obtain ⟨_, hz, hl2⟩ := splitC_sound h2 hq
  simp only [List.length_drop] at hl2
  rw [List.drop_drop] at hz
  exact ⟨(ha.append hy).append hz, by omega, hy.len.trans hn⟩

section
variable {P : Program} {w : World} {σ : Sg}

theorem fillL_sound {place : Nat → Option (Nat × Nat)} {mplace : Nat → Option (Nat × Nat)} (hp : ∀ i p, place i = some p → mplace i = some p) :
    ∀ {parts : List (Nat × V)} {cells l : List L} {vals : List (Nat × Value)} {xs : List Value}, fillL place cells parts = some l → PRel σ cells xs →
      All2 (fun (p : Nat × V) (q : Nat × Value) => p.1 = q.1 ∧ VRel σ p.2 q.2) parts vals →
      ∃ ys : List Value, Instr.fill mplace xs.toArray vals = some ys.toArray ∧ PRel σ l ys
  | [], cells, l, vals, xs, h, hx, hv => by
    cases hv
    cases h
    exact ⟨xs, rfl, hx⟩
  | (i, v) :: r, cells, l, vals, xs, h, hx, hv => by
    cases hv with
    | cons hq hr =>
      rename_i q vals'
      obtain ⟨j, y⟩ := q
      obtain ⟨hij, hvy⟩ := hq
      simp only at hij hvy
      subst hij
      simp only [fillL] at h
      split at h
      · rename_i off s x hpl
        split at h
        · rename_i new hnew
          split at h
          · rename_i hs
            split at h
            · rename_i a q h1
              split at h
              · rename_i m z h2
                have hy := parts_sound hnew hvy
                obtain ⟨hrel, hle, hyl⟩ := replace_sound h1 h2 hs hx hy
                obtain ⟨ys, hf, hys⟩ := fillL_sound hp h hrel hr
                refine ⟨ys, ?_, hys⟩
                simp only [Instr.fill, hp _ _ hpl]
                have hsz : y.cells.size = s := by simpa using hyl
                have c1 : ¬ ((decide (y.cells.size ≠ s) || decide (off + y.cells.size > xs.toArray.size)) = true) := by
                  simp [hsz]; omega
                rw [if_neg c1]
                have hfold := fold_set off y.cells.toList 0 xs.toArray (by simp; omega)
                have e : y.cells.zipIdx.foldl (fun (cs : Array Value) (p : Value × Nat) => cs.setIfInBounds (off + p.2) p.1) xs.toArray =
                    (xs.take off ++ y.cells.toList ++ xs.drop (off + s)).toArray := by
                  rw [← Array.foldl_toList, Array.toList_zipIdx, hfold]
                  simp [hsz]
                rw [← hf, ← e]
              · cases h
            · cases h
          · cases h
        · cases h
      · cases h

theorem run_mapM {α β : Type} (f : α → Sem β) (g : α → β) : ∀ (l : List α), (∀ x ∈ l, (f x).run P w = .ok (g x) w) → (l.mapM f).run P w = .ok (l.map g) w
  | [], _ => by simp
  | x :: l, h => by simp [List.mapM_cons, h x (by simp), run_mapM f g l fun y hy => h y (by simp [hy])]

theorem evBuild_sound {t : TypeId} {parts : List (Nat × V)} {v : V} {vals : Array (Nat × Value)} (he : Gives (evBuild P t parts) v)
    (h : All2 (fun (p : Nat × V) (q : Nat × Value) => p.1 = q.1 ∧ VRel σ p.2 q.2) parts vals.toList) :
    ∃ y, (Instr.build t vals).run P w = .ok y w ∧ VRel σ v y := by
  unfold evBuild at he
  split at he
  · rename_i z hz hsized
    split at he
    · rename_i l hl
      obtain ⟨_, rfl⟩ := gives_val he
      obtain ⟨zv, hzr, hzp, _⟩ := run_zero (w := w) (σ := σ) hz
      unfold sized at hsized
      split at hsized
      · rename_i fs hu
        have hsz : ∀ f ∈ fs.toList, tsz P f.type = some ((tsz P f.type).getD 0) := by
          intro f hf
          have := List.all_eq_true.1 hsized f hf
          obtain ⟨n, hn⟩ := Option.isSome_iff_exists.1 this
          simp [hn]
        have hmap : (fs.mapM fun f => do pure (f.offset, ← Go.sizeOf f.type) : Sem (Array (Nat × Nat))).run P w = .ok (fs.map fun f => (f.offset, (tsz P f.type).getD 0)) w := by
          rw [Array.mapM_eq_mapM_toList]
          simp only [Sem.run_map]
          rw [run_mapM _ (fun f => (f.offset, (tsz P f.type).getD 0)) fs.toList]
          · simp only [Result.andThen_ok]
            congr 1
            apply Array.toList_inj.1
            simp
          · intro f hf
            simp [run_sizeOf (hsz f hf)]
        obtain ⟨ys, hf, hys⟩ := fillL_sound (σ := σ) (mplace := ((fs.map fun f => (f.offset, (tsz P f.type).getD 0))[·]?)) (by
          intro i p hp
          simp only [placeOf, hu] at hp
          cases hfi : fs[i]? with
          | none => simp [hfi] at hp
          | some f =>
            simp only [hfi] at hp
            cases hft : tsz P f.type with
            | none => simp [hft] at hp
            | some s => simp only [hft] at hp; simp [hfi, hft, hp]) hl hzp h
        refine ⟨.agg ys.toArray, ?_, ys, rfl, hys⟩
        rw [Array.toArray_toList] at hf
        simp only [Instr.build, Sem.run_bind, hzr, Result.andThen_ok, run_underlying hu, hmap, hf, Sem.run_pure]
      · rename_i n e hu
        obtain ⟨s, hs⟩ := Option.isSome_iff_exists.1 hsized
        obtain ⟨ys, hf, hys⟩ := fillL_sound (σ := σ) (mplace := fun i => some (i * s, s)) (by
          intro i p hp
          simp only [placeOf, hu, hs] at hp
          exact hp) hl hzp h
        refine ⟨.agg ys.toArray, ?_, ys, rfl, hys⟩
        rw [Array.toArray_toList] at hf
        simp only [Instr.build, Sem.run_bind, hzr, Result.andThen_ok, run_underlying hu, run_sizeOf hs, hf, Sem.run_pure]
      · cases hsized
    · cases he
  · cases he

theorem All2.map_map {α β γ : Type} {R : β → γ → Prop} (f : α → β) (g : α → γ) : ∀ (l : List α), (∀ x ∈ l, R (f x) (g x)) → All2 R (l.map f) (l.map g)
  | [], _ => .nil
  | x :: l, h => .cons (h x (by simp)) (All2.map_map f g l fun y hy => h y (by simp [hy]))

theorem optRel {e : Operand → V} {ρ : Operand → Value} (h : ∀ x, VRel σ (e x) (ρ x)) (o : Option Operand) :
    (o.map e = none ∧ o.map ρ = none) ∨ ∃ v y, o.map e = some v ∧ o.map ρ = some y ∧ VRel σ v y := by
  cases o with
  | none => exact .inl ⟨rfl, rfl⟩
  | some x => exact .inr ⟨_, _, rfl, rfl, h x⟩

/-- What the executor says of an operation that touches no memory is so. -/
theorem evP_sound {sy : Bool} {o : Oper} {e : Operand → V} {ρ : Operand → Value} {v : V} (he : Gives (evP sy P o.op e) v) (h : ∀ x, VRel σ (e x) (ρ x)) :
    ∃ y, (execOp ρ o).run P w = .ok (.value y) w ∧ VRel σ v y := by
  have lift : ∀ {s : Sem Value}, (∃ y, s.run P w = .ok y w ∧ VRel σ v y) → ∃ y, (do pure (Next.value (← s)) : Sem Next).run P w = .ok (.value y) w ∧ VRel σ v y := by
    rintro s ⟨y, hy, hv⟩
    exact ⟨y, by simp [hy], hv⟩
  obtain ⟨dst, op, type, pos, after, guard⟩ := o
  unfold evP at he
  simp only at he
  split at he
  · obtain ⟨_, rfl⟩ := gives_val he
    exact ⟨_, rfl, h _⟩
  · obtain ⟨_, rfl⟩ := gives_val he
    exact ⟨_, rfl, h _⟩
  · rename_i c a b
    split at he
    · rename_i t ht
      obtain ⟨_, rfl⟩ := gives_br he
      have hc := h c
      rw [ht] at hc
      have hb := vbool hc
      refine ⟨if t = true then ρ a else ρ b, ?_, ?_⟩
      · simp only [execOp, hb, asBool]
        rfl
      · cases t
        · exact h b
        · exact h a
    · cases he
  · rename_i x
    split at he
    · rename_i id off hx
      obtain ⟨_, rfl⟩ := gives_val he
      have hc := h x
      rw [hx] at hc
      obtain ⟨b, hb, e1⟩ := vptr hc
      exact ⟨_, by simp only [execOp, e1]; rfl, mk_ptr hb⟩
    · rename_i id s i r hx
      obtain ⟨_, rfl⟩ := gives_val he
      have hc := h x
      rw [hx] at hc
      obtain ⟨b, hb, e1⟩ := vptre hc
      exact ⟨_, by simp only [execOp, e1]; rfl, mk_ptre hb⟩
    · cases he
  · exact lift (evBinV_sound he (h _) (h _))
  · exact lift (evUn_sound he (h _))
  · exact lift (evConv_sound he (h _))
  · exact lift (evFieldAddr_sound he (h _))
  · exact lift (evField_sound he (h _))
  · exact lift (evIndexAddr_sound he (h _) (h _))
  · exact lift (evIndex_sound he (h _) (h _))
  · rename_i t x lo hi mx
    exact lift (evSlice_sound he (h _) (optRel h lo) (optRel h hi) (by cases mx <;> simp))
  · exact lift (evExtract_sound he (h _))
  · rename_i t ps
    refine lift (evBuild_sound (vals := ps.map fun p => (p.1, ρ p.2)) he ?_)
    rw [Array.toList_map]
    exact All2.map_map _ _ _ fun p _ => ⟨rfl, h _⟩
  · exact lift (evToArr_sound he (h _))
  · rename_i args argTypes
    split at he
    · rename_i x t hx ht
      have e1 : args = #[x] := by rw [← Array.toArray_toList (xs := args), hx]
      have e2 : argTypes = #[t] := by rw [← Array.toArray_toList (xs := argTypes), ht]
      subst e1; subst e2
      obtain ⟨y, hy, hv⟩ := evLen_sound (w := w) he (h _) type
      refine ⟨y, ?_, hv⟩
      simp only [execOp, resolve, invoke, Sem.run_bind, Sem.run_pure, Result.andThen_ok, Go.builtin]
      simp [hy]
    · cases he
  · cases he
end
end Vx

/-
  An executor of Go code on values of its own: memory.
-/
namespace Vx
open Go Go.RowKit

structure HRel (ro : Nat) (σ : Sg) (h : Hp) (w : World) : Prop where
  blk : ∀ id b, hg h id = some b → ∃ (n : Nat) (xs : List Value), σ id = some n ∧ w.heap[n]? = some (.cells xs.toArray b.elem (0, 0)) ∧ CRel σ b.c xs
  inj : ∀ i j n, ro ≤ i → σ i = some n → σ j = some n → i = j
  live : ∀ i n, σ i = some n → n < w.heap.size ∧ (hg h i).isSome

section
variable {P : Program} {w : World} {σ : Sg} {ro : Nat}

theorem cell_at {n o j : Nat} {xs : List Value} {t : TypeId} (hg : w.heap[n]? = some (.cells xs.toArray t (0, 0))) :
    w.cell? ((⟨n, o, none⟩ : Addr).add j) = xs[o + j]? := by
  rw [addr_add]
  simp [World.cell?, hg]

theorem run_loadCells_at {n o s : Nat} {xs : List Value} {t : TypeId} (hg : w.heap[n]? = some (.cells xs.toArray t (0, 0))) (hs : o + s ≤ xs.length) :
    (loadCells ⟨n, o, none⟩ s).run P w = .ok ((xs.drop o).take s).toArray w := by
  have hl : ((xs.drop o).take s).length = s := by simp; omega
  have := run_loadCells_list (P := P) w ⟨n, o, none⟩ ((xs.drop o).take s) (by
    intro j v hj
    rw [cell_at hg]
    have hjs : j < s := by
      have := (List.getElem?_eq_some_iff.1 hj).1
      omega
    rw [List.getElem?_take_of_lt hjs, List.getElem?_drop] at hj
    exact hj)
  rw [hl] at this
  exact this

theorem run_loadVar_agg {n o s : Nat} {xs : List Value} {t ty : TypeId} (hg : w.heap[n]? = some (.cells xs.toArray t (0, 0))) (hs : o + s ≤ xs.length)
    (ha : isAg P ty = some true) (hz : tsz P ty = some s) :
    (loadVar ty ⟨n, o, none⟩).run P w = .ok (.agg ((xs.drop o).take s).toArray) w := by
  simp [loadVar, run_isAgg ha, run_sizeOf hz, run_loadCells_at hg hs]

theorem run_loadVar_one {n o : Nat} {xs : List Value} {t ty : TypeId} {x : Value} (hg : w.heap[n]? = some (.cells xs.toArray t (0, 0))) (hx : xs[o]? = some x)
    (ha : isAg P ty = some false) :
    (loadVar ty ⟨n, o, none⟩).run P w = .ok x w := by
  have hc : w.cell? ⟨n, o, none⟩ = some x := by simp [World.cell?, hg, hx]
  simp [loadVar, run_isAgg ha, hc]

theorem big_part {z c : Nat} {f : Nat → List L} {xs : List Value} {i r s : Nat} (h : CRel σ (.big z c f) xs) (hi : i < c) :
    PRel σ (f i) ((xs.drop (i * z)).take z) ∧ ((xs.drop (i * z)).take z).length = z ∧
      (r + s ≤ z → (((xs.drop (i * z)).take z).drop r).take s = (xs.drop (i * z + r)).take s ∧ i * z + r + s ≤ xs.length) := by
  obtain ⟨hl, hf⟩ := h
  have hle : i * z + z ≤ z * c := by
    have : (i + 1) * z ≤ c * z := Nat.mul_le_mul_right z (by omega)
    rw [Nat.add_mul] at this
    rw [Nat.mul_comm z c]; omega
  refine ⟨(hf i hi).1, by simp; omega, fun hrs => ⟨?_, by omega⟩⟩
  rw [List.drop_take, List.take_take, List.drop_drop]
  congr 1
  omega

theorem evLoad_sound {t : TypeId} {a v : V} {h : Hp} {x : Value} (he : Gives (evLoad P t a (hg h)) v) (ha : VRel σ a x) (hh : HRel ro σ h w) :
    ∃ y, (Instr.loadAt t x).run P w = .ok y w ∧ VRel σ v y := by
  unfold evLoad at he
  split at he
  · rename_i id off
    obtain ⟨n, hn, rfl⟩ := vptr ha
    split at he
    · rename_i b hb
      obtain ⟨n', xs, hn', hg, hc⟩ := hh.blk id b hb
      rw [hn] at hn'
      cases hn'
      split at he
      · rename_i s hag hz
        split at he
        · rename_i z c f _ hbc
          split at he
          · rename_i hs
            obtain ⟨_, rfl⟩ := gives_val he
            rw [hbc] at hc
            have hl : xs.length = s := hc.1.trans hs
            refine ⟨.agg xs.toArray, ?_, xs, rfl, hc⟩
            simp only [Instr.loadAt, Instr.sureAddr, Sem.run_bind, Sem.run_pure, Result.andThen_ok]
            rw [run_loadVar_agg hg (by omega) hag hz, List.drop_zero, List.take_of_length_le (by omega)]
          · cases he
        · rename_i hbc
          split at he
          · rename_i c' hs
            obtain ⟨_, rfl⟩ := gives_val he
            obtain ⟨h1, h2⟩ := sliceC_sound hs hc
            refine ⟨_, ?_, _, rfl, h1⟩
            simp only [Instr.loadAt, Instr.sureAddr, Sem.run_bind, Sem.run_pure, Result.andThen_ok]
            rw [run_loadVar_agg hg h2 hag hz]
          · cases he
      · rename_i s hag hz
        split at he
        · rename_i chk l hs
          obtain ⟨hck, rfl⟩ := gives_val he
          obtain ⟨y, hy, hl⟩ := getC_sound hs hck hc
          refine ⟨y, ?_, hl.one_of⟩
          simp only [Instr.loadAt, Instr.sureAddr, Sem.run_bind, Sem.run_pure, Result.andThen_ok]
          rw [run_loadVar_one hg hy hag]
        · cases he
      · cases he
    · cases he
  · rename_i id z i r
    obtain ⟨n, hn, rfl⟩ := vptre ha
    split at he
    · rename_i b hb
      obtain ⟨n', xs, hn', hg, hc⟩ := hh.blk id b hb
      rw [hn] at hn'
      cases hn'
      split at he
      · rename_i z' c f hbc
        rw [hbc] at hc
        split at he
        · rename_i hzz
          have hzz' : z = z' := of_decide_eq_true hzz
          subst hzz'
          split at he
          · rename_i s hag hz
            split at he
            · rename_i c' hs
              obtain ⟨hck, rfl⟩ := gives_val he
              have hi : i < c := of_decide_eq_true (hck _ (by simp))
              obtain ⟨h1, h2, h3⟩ := big_part (r := r) (s := s) hc hi
              obtain ⟨h4, h5⟩ := sliceC_sound (σ := σ) (c := .ps (f i)) hs h1
              obtain ⟨h6, h7⟩ := h3 (by omega)
              refine ⟨_, ?_, _, rfl, h4⟩
              simp only [Instr.loadAt, Instr.sureAddr, Sem.run_bind, Sem.run_pure, Result.andThen_ok]
              rw [run_loadVar_agg hg h7 hag hz, h6]
            · cases he
          · rename_i s hag hz
            split at he
            · rename_i chk l hs
              obtain ⟨hck, rfl⟩ := gives_val he
              obtain ⟨hck1, hck2⟩ := allT_cons hck
              have hi : i < c := of_decide_eq_true hck1
              obtain ⟨h1, h2, h3⟩ := big_part (r := r) (s := 1) hc hi
              obtain ⟨y, hlt, hy, hl⟩ := getC_lt (σ := σ) (c := .ps (f i)) hs hck2 h1
              refine ⟨y, ?_, hl.one_of⟩
              simp only [Instr.loadAt, Instr.sureAddr, Sem.run_bind, Sem.run_pure, Result.andThen_ok]
              refine run_loadVar_one hg ?_ hag
              have : i * z + r < xs.length := by
                have := (h3 (by omega)).2; omega
              rw [List.getElem?_eq_getElem this, ← hy]
              simp [List.getElem_take, List.getElem_drop]
            · cases he
          · cases he
        · cases he
      · rename_i l hbc
        rw [hbc] at hc
        split at he
        · rename_i s hag hz
          split at he
          · rename_i c' hs
            obtain ⟨hck, rfl⟩ := gives_val he
            obtain ⟨h1, h2⟩ := sliceC_sound hs hc
            refine ⟨_, ?_, _, rfl, h1⟩
            simp only [Instr.loadAt, Instr.sureAddr, Sem.run_bind, Sem.run_pure, Result.andThen_ok]
            rw [run_loadVar_agg hg h2 hag hz]
          · cases he
        · rename_i s hag hz
          split at he
          · rename_i chk l' hs
            obtain ⟨hck, rfl⟩ := gives_val he
            obtain ⟨y, hy, hl⟩ := getC_sound hs hck hc
            refine ⟨y, ?_, hl.one_of⟩
            simp only [Instr.loadAt, Instr.sureAddr, Sem.run_bind, Sem.run_pure, Result.andThen_ok]
            rw [run_loadVar_one hg hy hag]
          · cases he
        · cases he
    · cases he
  · cases he

theorem setC_sound {c c' : C} {off s : Nat} {new : List L} {chk : List Bool} {xs ys : List Value} (he : setC c off s new = some (chk, c')) (ht : allT chk)
    (hx : CRel σ c xs) (hy : PRel σ new ys) (hs : ys.length = s) : CRel σ c' (xs.take off ++ ys ++ xs.drop (off + s)) ∧ off + s ≤ xs.length := by
  unfold setC at he
  split at he
  · rename_i l
    split at he
    · rename_i hn
      split at he
      · rename_i a r h1
        split at he
        · rename_i m z h2
          cases he
          obtain ⟨h3, h4, _⟩ := replace_sound h1 h2 hn hx hy
          exact ⟨h3, h4⟩
        · cases he
      · cases he
    · cases he
  · rename_i c f x
    split at he
    · cases he
    · rename_i x' hnp hfl
      cases he
      have hlt : off < c := of_decide_eq_true (ht _ (by simp))
      obtain ⟨hl, hf⟩ := hx
      have hl' : xs.length = c := by omega
      obtain ⟨y, rfl⟩ := List.length_eq_one_iff.1 hs
      refine ⟨⟨by simp; omega, ?_⟩, by omega⟩
      intro i hi
      have key : ∀ (zs : List Value) (j : Nat), (zs.drop (j * 1)).take 1 = (zs[j]?).toList := by
        intro zs j
        rw [Nat.mul_one]
        by_cases hj : j < zs.length
        · rw [List.drop_eq_getElem_cons hj, List.getElem?_eq_getElem hj]; rfl
        · rw [List.drop_of_length_le (by omega), List.getElem?_eq_none (by omega)]; rfl
      rw [key]
      refine ⟨?_, ?_⟩
      case refine_2 =>
        by_cases hio : i = off
        · subst hio; simp only [if_true]; simp [flatL, hfl]
        · simp only [if_neg hio]; exact (hf i hi).2
      by_cases hio : i = off
      · subst hio
        simp only [if_true]
        have e : (xs.take i ++ [y] ++ xs.drop (i + 1))[i]? = some y := by
          rw [List.append_assoc, List.getElem?_append_right (by simp; omega)]
          simp [Nat.min_eq_left (by omega : i ≤ xs.length)]
        rw [e]
        exact hy
      · simp only [if_neg hio]
        have e : (xs.take off ++ [y] ++ xs.drop (off + 1))[i]? = xs[i]? := by
          rw [List.append_assoc]
          by_cases h : i < off
          · rw [List.getElem?_append_left (by simp; omega), List.getElem?_take_of_lt h]
          · rw [List.getElem?_append_right (by simp; omega)]
            simp only [List.length_take, Nat.min_eq_left (by omega : off ≤ xs.length)]
            obtain ⟨m, hm⟩ : ∃ m, i - off = m + 1 := ⟨i - off - 1, by omega⟩
            rw [hm]
            simp only [List.singleton_append, List.getElem?_cons_succ, List.getElem?_drop]
            congr 1
            omega
        rw [e, ← key]
        exact (hf i hi).1
    · cases he
  · cases he

theorem mid_take (xs ys : List Value) (a z r s : Nat) (h : r + s ≤ z) (hl : a + z ≤ xs.length) (hy : ys.length = s) :
    ((xs.take (a + r) ++ ys ++ xs.drop (a + r + s)).drop a).take z = ((xs.drop a).take z).take r ++ ys ++ ((xs.drop a).take z).drop (r + s) := by
  have h1 : xs.take (a + r) = xs.take a ++ (xs.drop a).take r := by rw [List.take_add]
  have h2 : xs.drop (a + r + s) = (xs.drop a).drop (r + s) := by rw [List.drop_drop, Nat.add_assoc]
  have hX : z ≤ (xs.drop a).length := by simp; omega
  rw [h1, h2]
  generalize hXe : xs.drop a = X at *
  have e3 : (xs.take a ++ X.take r ++ ys ++ X.drop (r + s)).drop a = X.take r ++ ys ++ X.drop (r + s) := by
    rw [List.append_assoc, List.append_assoc, List.drop_append]
    have : (xs.take a).length = a := by simp; omega
    rw [List.drop_of_length_le (by omega), this]
    simp
  rw [e3, List.take_take, Nat.min_eq_left (by omega), List.drop_take, List.take_append]
  have e4 : (X.take r ++ ys).length = r + s := by simp; omega
  rw [List.take_of_length_le (by omega), e4]

theorem out_take (xs ys : List Value) (o a z s : Nat) (h : a + z ≤ o ∨ o + s ≤ a) (hy : ys.length = s) (ho : o + s ≤ xs.length) :
    ((xs.take o ++ ys ++ xs.drop (o + s)).drop a).take z = (xs.drop a).take z := by
  apply List.ext_getElem?
  intro k
  rw [List.getElem?_take, List.getElem?_take]
  split
  · rename_i hk
    rw [List.getElem?_drop, List.getElem?_drop, List.append_assoc]
    rcases h with h | h
    · rw [List.getElem?_append_left (by simp; omega), List.getElem?_take_of_lt (by omega)]
    · rw [List.getElem?_append_right (by simp; omega), List.getElem?_append_right (by simp; omega), List.getElem?_drop]
      congr 1
      simp
      omega
  · rfl

theorem setC_len {c c' : C} {off s : Nat} {new : List L} {chk : List Bool} (he : setC c off s new = some (chk, c')) : szs new = s := by
  unfold setC at he
  split at he
  · split at he
    · assumption
    · cases he
  · split at he
    · cases he
    · rename_i x0 _ _ hnp _
      have : x0.sz = 1 := by
        cases x0 with
        | pk k b c n => exact absurd rfl (hnp k b c n)
        | _ => rfl
      simp [szs, this]
    · cases he
  · cases he

theorem scal' {x : Value} (h : oneCell x = true) : x.oneCell' = true := by cases x <;> simp [oneCell, Value.oneCell'] at h ⊢

/-- The world behind a store. -/
theorem run_storeVar {n o s : Nat} {xs ys : List Value} {t ty : TypeId} {x : Value} (hg : w.heap[n]? = some (.cells xs.toArray t (0, 0))) (hz : tsz P ty = some s)
    (hx : x.cells.toList = ys) (hl : ys.length = s) (hs : o + s ≤ xs.length) (h1 : ∀ y ∈ ys, oneCell y = true) :
    (storeVar ty ⟨n, o, none⟩ x).run P w = .ok () (w.setRow n (xs.take o ++ ys ++ xs.drop (o + s)).toArray) := by
  have hsz : x.cells.size = s := by rw [← hl, ← hx]; simp
  have := run_storeCells_at P n o t ys 0 xs.toArray w hg (by simp; omega) (fun v hv => scal' (h1 v hv))
  simp only [storeVar, Sem.run_bind, run_sizeOf hz, Result.andThen_ok, hsz, ne_eq, not_true_eq_false, if_false, hx]
  rw [this]
  simp [hl]

theorem HRel.set {h : Hp} (hh : HRel ro σ h w) {id n : Nat} {b : Blk} {xs ys : List Value} {c : C} (hro : ro ≤ id) (hb : hg h id = some b) (hn : σ id = some n)
    (hg' : w.heap[n]? = some (.cells xs.toArray b.elem (0, 0))) (hc : CRel σ c ys) :
    HRel ro σ (h.set id (some ⟨b.elem, c⟩)) (w.setRow n ys.toArray) := by
  have hlt : id < h.length := by
    unfold hg at hb
    rw [List.getD_eq_getElem?_getD] at hb
    cases hh : h[id]? with
    | none => simp [hh] at hb
    | some y => exact (List.getElem?_eq_some_iff.1 hh).1
  have hget : ∀ j, hg (h.set id (some ⟨b.elem, c⟩)) j = if j = id then some ⟨b.elem, c⟩ else hg h j := by
    intro j
    unfold hg
    rw [List.getD_eq_getElem?_getD, List.getElem?_set]
    by_cases hj : j = id
    · subst hj; simp [hlt]
    · rw [if_neg (fun e => hj e.symm), if_neg hj, List.getD_eq_getElem?_getD]
  refine ⟨?_, hh.inj, ?_⟩
  · intro j b' hj
    rw [hget] at hj
    by_cases hji : j = id
    · subst hji
      rw [if_pos rfl] at hj
      cases hj
      exact ⟨n, ys, hn, setRow_heap w n _ _ _ _ hg', hc⟩
    · rw [if_neg hji] at hj
      obtain ⟨m, zs, hm, hgm, hcm⟩ := hh.blk j b' hj
      have hne : m ≠ n := fun e => hji (hh.inj id j m hro (e ▸ hn) hm).symm
      exact ⟨m, zs, hm, by rw [setRow_other w n m _ hne]; exact hgm, hcm⟩
  · intro i m him
    obtain ⟨h1, h2⟩ := hh.live i m him
    refine ⟨by simpa using h1, ?_⟩
    rw [hget]
    split
    · rfl
    · exact h2

/-- A store: only the block of an id that is known has turned. -/
theorem evStore_sound {t : TypeId} {a v : V} {h : Hp} {x y : Value} {chk : List Bool} {id : Nat} {nb : Blk} (he : evStore P ro t a v (hg h) = some (chk, id, nb)) (ht : allT chk)
    (ha : VRel σ a x) (hv : VRel σ v y) (hh : HRel ro σ h w) :
    ∃ n cs, (Instr.storeAt t x y).run P w = .ok () (w.setRow n cs) ∧ σ id = some n ∧ ro ≤ id ∧ HRel ro σ (h.set id (some nb)) (w.setRow n cs) := by
  unfold evStore at he
  split at he
  · rename_i s x' hz
    split at he
    · rename_i id off
      obtain ⟨n, hn, rfl⟩ := vptr ha
      split at he
      · rename_i b hb hro'
        have hro : ro ≤ id := of_decide_eq_true hro'
        obtain ⟨n', xs, hn', hgg, hc⟩ := hh.blk id b hb
        rw [hn] at hn'
        cases hn'
        split at he
        · rename_i z c f
          split at he
          · rename_i hs
            cases he
            obtain ⟨hs1, hs2⟩ := of_decide_eq_true hs
            obtain ⟨ys, rfl, hys⟩ := hv
            have hl : ys.length = s := hys.1.trans hs1
            have hxl : xs.length = s := hc.len.trans hs2
            have hst := run_storeVar (P := P) (o := 0) (ty := t) (x := .agg ys.toArray) hgg hz (ys := ys) rfl hl (by omega) hys.scal
            have e : xs.take 0 ++ ys ++ xs.drop (0 + s) = ys := by
              rw [List.drop_of_length_le (by omega)]; simp
            rw [e] at hst
            exact ⟨n, ys.toArray, by simp [Instr.storeAt, Instr.sureAddr, hst], hn, hro, hh.set hro hb hn hgg hys⟩
          · cases he
        · rename_i x' off' hne
          split at he
          · rename_i new hnew
            split at he
            · rename_i chk' c' hset
              cases he
              have hy := parts_sound hnew hv
              have hlen : y.cells.toList.length = s := hy.len.trans (setC_len hset)
              obtain ⟨hc', hle⟩ := setC_sound hset ht hc hy hlen
              have hst := run_storeVar (P := P) (ty := t) (x := y) hgg hz rfl hlen hle hy.scal
              exact ⟨n, _, by simp [Instr.storeAt, Instr.sureAddr, hst], hn, hro, hh.set hro hb hn hgg hc'⟩
            · cases he
          · cases he
      · cases he
    · rename_i id z i r
      obtain ⟨n, hn, rfl⟩ := vptre ha
      split at he
      · rename_i b hb hro'
        have hro : ro ≤ id := of_decide_eq_true hro'
        obtain ⟨n', xs, hn', hgg, hc⟩ := hh.blk id b hb
        rw [hn] at hn'
        cases hn'
        split at he
        case h_2 => cases he
        rename_i new hnew
        have hy := parts_sound hnew hv
        split at he
        · rename_i z' c f hbc
          rw [hbc] at hc
          split at he
          · rename_i hzz
            have hzz' : z = z' := of_decide_eq_true hzz
            subst hzz'
            split at he
            · rename_i chk' q hset
              split at he
              case h_2 => cases he
              rename_i hfl
              cases he
              obtain ⟨ht1, ht2⟩ := allT_cons ht
              have hi : i < c := of_decide_eq_true ht1
              have hlen : y.cells.toList.length = s := by
                have h1 := hy.len
                have : szs new = s := by
                  simp only [setC] at hset
                  split at hset
                  · assumption
                  · cases hset
                omega
              obtain ⟨h1, h2, h3⟩ := big_part (r := r) (s := s) hc hi
              obtain ⟨hc', hle⟩ := setC_sound hset ht2 (c := .ps (f i)) h1 hy hlen
              obtain ⟨_, h5⟩ := h3 (by omega)
              have hst := run_storeVar (P := P) (o := i * z + r) (ty := t) (x := y) hgg hz rfl hlen h5 hy.scal
              refine ⟨n, (xs.take (i * z + r) ++ y.cells.toList ++ xs.drop (i * z + r + s)).toArray, by simp only [Instr.storeAt, Instr.sureAddr, Sem.run_bind, Sem.run_pure, Result.andThen_ok, hst], hn, hro, hh.set hro hb hn hgg ?_⟩
              obtain ⟨hxl, hf⟩ := hc
              refine ⟨by
                rw [List.length_append, List.length_append, List.length_take, List.length_drop, hlen, Nat.min_eq_left (by omega)]
                omega, ?_⟩
              intro j hj
              have hjz : j * z + z ≤ z * c := by
                have : (j + 1) * z ≤ c * z := Nat.mul_le_mul_right z (by omega)
                rw [Nat.add_mul] at this
                rw [Nat.mul_comm z c]; omega
              have hiz : i * z + z ≤ z * c := by
                have : (i + 1) * z ≤ c * z := Nat.mul_le_mul_right z (by omega)
                rw [Nat.add_mul] at this
                rw [Nat.mul_comm z c]; omega
              have hrz : r + s ≤ z := by omega
              refine ⟨?_, ?_⟩
              case refine_2 =>
                by_cases hji : j = i
                · subst hji; simp only [if_true]; exact hfl
                · simp only [if_neg hji]; exact (hf j hj).2
              by_cases hji : j = i
              · subst hji
                simp only [if_true]
                have e := mid_take xs y.cells.toList (j * z) z r s hrz (by omega) hlen
                rw [e]
                exact hc'
              · simp only [if_neg hji]
                have hdis : j * z + z ≤ i * z ∨ i * z + z ≤ j * z := by
                  rcases Nat.lt_or_gt_of_ne hji with h | h
                  · left
                    have : (j + 1) * z ≤ i * z := Nat.mul_le_mul_right z (by omega)
                    rw [Nat.add_mul] at this; omega
                  · right
                    have : (i + 1) * z ≤ j * z := Nat.mul_le_mul_right z (by omega)
                    rw [Nat.add_mul] at this; omega
                have e := out_take xs y.cells.toList (i * z + r) (j * z) z s (by omega) hlen (by omega)
                rw [e]
                exact (hf j hj).1
            · cases he
          · cases he
        · rename_i l hbc
          rw [hbc] at hc
          split at he
          · rename_i chk' c' hset
            cases he
            have hlen : y.cells.toList.length = s := by
              have h1 := hy.len
              have : szs new = s := by
                simp only [setC] at hset
                split at hset
                · assumption
                · cases hset
              omega
            obtain ⟨hc', hle⟩ := setC_sound hset ht hc hy hlen
            have hst := run_storeVar (P := P) (ty := t) (x := y) hgg hz rfl hlen hle hy.scal
            exact ⟨n, _, by simp only [Instr.storeAt, Instr.sureAddr, Sem.run_bind, Sem.run_pure, Result.andThen_ok, hst], hn, hro, hh.set hro hb hn hgg hc'⟩
          · cases he
      · cases he
    · cases he
  · cases he
end
end Vx

/-
  An executor of Go code on values of its own: new memory; calls; one operation of a region.
-/
namespace Vx
open Go Go.RowKit

def upd (σ : Sg) (id n : Nat) : Sg := fun i => if i = id then some n else σ i

theorem upd_sub {σ : Sg} {id n : Nat} (h : σ id = none) : Sub σ (upd σ id n) := by
  intro i b hi
  unfold upd
  split
  · rename_i e; subst e; rw [h] at hi; cases hi
  · exact hi

theorem hg_set {h : Hp} {id : Nat} {b : Blk} (hlt : id < h.length) (j : Nat) : hg (h.set id (some b)) j = if j = id then some b else hg h j := by
  unfold hg
  rw [List.getD_eq_getElem?_getD, List.getElem?_set]
  by_cases hj : j = id
  · subst hj; simp [hlt]
  · rw [if_neg (fun e => hj e.symm), if_neg hj, List.getD_eq_getElem?_getD]

theorem hg_lt {h : Hp} {id : Nat} {b : Blk} (hb : hg h id = some b) : id < h.length := by
  unfold hg at hb
  rw [List.getD_eq_getElem?_getD] at hb
  cases hh : h[id]? with
  | none => simp [hh] at hb
  | some y => exact (List.getElem?_eq_some_iff.1 hh).1

section
variable {P : Program} {w : World} {σ : Sg} {ro : Nat}

theorem HRel.fresh {h : Hp} (hh : HRel ro σ h w) {id : Nat} (hn : hg h id = none) : σ id = none := by
  cases hs : σ id with
  | none => rfl
  | some n => have := (hh.live id n hs).2; rw [hn] at this; cases this

theorem alloc_heap (w : World) (o : Obj) (n : Nat) (h : n < w.heap.size) : (w.alloc o).heap[n]? = w.heap[n]? := by
  show (w.heap.push o)[n]? = _
  rw [Array.getElem?_push, if_neg (by omega)]

theorem alloc_new (w : World) (o : Obj) : (w.alloc o).heap[w.heap.size]? = some o := by
  show (w.heap.push o)[w.heap.size]? = _
  simp

/-- A block more. -/
theorem HRel.alloc {h : Hp} (hh : HRel ro σ h w) {id : Nat} {b : Blk} {xs : List Value} (hlt : id < h.length) (hn : hg h id = none) (hc : CRel σ b.c xs) :
    HRel ro (upd σ id w.heap.size) (h.set id (some b)) (w.alloc (.cells xs.toArray b.elem)) := by
  have hf := hh.fresh hn
  have hsub : Sub σ (upd σ id w.heap.size) := upd_sub hf
  refine ⟨?_, ?_, ?_⟩
  · intro j b' hj
    rw [hg_set hlt] at hj
    by_cases hji : j = id
    · subst hji
      rw [if_pos rfl] at hj
      cases hj
      exact ⟨w.heap.size, xs, by simp [upd], alloc_new w _, hc.mono hsub⟩
    · rw [if_neg hji] at hj
      obtain ⟨m, zs, hm, hgm, hcm⟩ := hh.blk j b' hj
      exact ⟨m, zs, hsub j m hm, by rw [alloc_heap _ _ _ (hh.live j m hm).1]; exact hgm, hcm.mono hsub⟩
  · intro i j n hro hi hj
    unfold upd at hi hj
    by_cases h1 : i = id <;> by_cases h2 : j = id
    · omega
    · rw [if_pos h1] at hi; rw [if_neg h2] at hj
      cases hi
      have := (hh.live j _ hj).1; omega
    · rw [if_neg h1] at hi; rw [if_pos h2] at hj
      cases hj
      have := (hh.live i _ hi).1; omega
    · rw [if_neg h1] at hi; rw [if_neg h2] at hj
      exact hh.inj i j n hro hi hj
  · intro i n hi
    unfold upd at hi
    rw [hg_set hlt]
    by_cases h1 : i = id
    · rw [if_pos h1] at hi
      cases hi
      rw [if_pos h1]
      exact ⟨by simp, rfl⟩
    · rw [if_neg h1] at hi
      rw [if_neg h1]
      obtain ⟨h3, h4⟩ := hh.live i n hi
      exact ⟨by simp; omega, h4⟩

theorem repL_sound {z : List L} {zs : List Value} (h : PRel σ z zs) : ∀ n, PRel σ (repL n z) (List.replicate n zs).flatten
  | 0 => rfl
  | n + 1 => by
    simp only [repL, List.replicate_succ, List.flatten_cons]
    exact h.append (repL_sound h n)

theorem rep_eq (n : Nat) (zs : List Value) :
    ((Array.range (n * zs.length)).map fun i => zs.toArray[i % zs.toArray.size]!) = (List.replicate n zs).flatten.toArray := by
  apply Array.ext'
  simp only [Array.toList_map, Array.toList_range]
  induction n with
  | zero => simp
  | succ n ih =>
    rw [List.replicate_succ', List.flatten_append, ← ih]
    rw [Nat.add_mul, Nat.one_mul, List.range_add, List.map_append]
    congr 1
    simp only [List.flatten_cons, List.flatten_nil, List.append_nil, List.map_map]
    apply List.ext_getElem
    · simp
    · intro i h1 h2
      simp only [List.getElem_map, List.getElem_range, Function.comp]
      have : (n * zs.length + i) % zs.toArray.size = i := by
        rw [List.size_toArray, Nat.mul_comm, Nat.mul_add_mod, Nat.mod_eq_of_lt h2]
      rw [this]
      simp [h2]

theorem evAlloc_sound {o : Oper} {e : Operand → V} {ρ : Operand → Value} {id : Nat} {chk : List Bool} {v : V} {b : Blk} (he : evAlloc P o.op e id = some (chk, v, b)) (ht : allT chk)
    (h : ∀ x, VRel σ (e x) (ρ x)) :
    ∃ y xs, (execOp ρ o).run P w = .ok (.value y) (w.alloc (.cells xs.toArray b.elem)) ∧ CRel σ b.c xs ∧ VRel (upd σ id w.heap.size) v y := by
  have hid : upd σ id w.heap.size id = some w.heap.size := by simp [upd]
  obtain ⟨dst, op, type, pos, after, guard⟩ := o
  unfold evAlloc at he
  simp only at he
  split at he
  · rename_i t
    split at he
    · rename_i z hz
      cases he
      obtain ⟨zv, hzr, hzp, _⟩ := run_zero (w := w) (σ := σ) hz
      refine ⟨_, zv.cells.toList, ?_, hzp, mk_ptr hid⟩
      simp [execOp, Instr.alloc, hzr, newVar, newRow, newObj, Sem.run]
    · cases he
  · rename_i t x
    split at he
    · rename_i l hx
      split at he
      · cases he
      · cases he
        have hv := h x
        rw [hx] at hv
        obtain ⟨h1, h2⟩ := hv
        have hcells : (ρ x).cells = #[ρ x] := by
          cases hr : ρ x <;> first | rfl | (rw [hr] at h1; simp [oneCell] at h1)
        refine ⟨_, [ρ x], ?_, ⟨[ρ x], [], rfl, h2, rfl⟩, mk_ptr hid⟩
        simp [execOp, Instr.box, newVar, newRow, newObj, Sem.run, hcells]
    · rename_i c hx
      cases he
      have hv := h x
      rw [hx] at hv
      obtain ⟨xs, hxs, hc⟩ := hv
      refine ⟨_, xs, ?_, hc, mk_ptr hid⟩
      simp [execOp, Instr.box, newVar, newRow, newObj, Sem.run, hxs, Value.cells]
    · cases he
  · rename_i t n ps
    split at he
    · rename_i el hu
      split at he
      · rename_i z s hz hs
        split at he
        · rename_i l hl
          split at he
          · rename_i hc
            cases he
            obtain ⟨hs0, hzs, hn⟩ := of_decide_eq_true hc
            obtain ⟨zv, hzr, hzp, _⟩ := run_zero (w := w) (σ := σ) hz
            have hzl : zv.cells.toList.length = s := hzp.len.trans hzs
            have hrep := repL_sound hzp n
            rw [show (List.replicate n zv.cells.toList).flatten = (List.replicate n zv.cells.toList).flatten.toArray.toList by simp] at hrep
            obtain ⟨ys, hf, hys⟩ := fillL_sound (σ := σ) (mplace := fun i => some (i * s, s)) (fun i p hp => hp) hl hrep
              (vals := (ps.map fun p => (p.1, ρ p.2)).toList) (by rw [Array.toList_map]; exact All2.map_map _ _ _ fun p _ => ⟨rfl, h _⟩)
            refine ⟨_, ys, ?_, hys, mk_sl hid⟩
            have hre := rep_eq n zv.cells.toList
            rw [hzl] at hre
            simp only [Array.toArray_toList] at hre hf
            rw [← hre] at hf
            have c1 : ¬ n * s > 2 ^ 24 := by omega
            have c3 : ∀ (f g : Nat → Value), n * s = 0 → (Array.range (n * s)).map f = (Array.range (n * s)).map g := by
              intro f g h0; rw [h0]; simp
            simp only [execOp, Instr.buildSlice, Sem.run_bind, run_underlying hu, Result.andThen_ok, run_sizeOf hs, Sem.run_ite, if_neg c1, Sem.run_pure]
            by_cases h0 : n * s = 0
            · rw [if_pos h0, c3 _ _ h0, hf]
              simp only [newRow, newObj, Sem.run_bind, Sem.run, Sem.run_pure, Result.andThen_ok]
              rfl
            · rw [if_neg h0, hzr]
              simp only [Result.andThen_ok, hf, newRow, newObj, Sem.run_bind, Sem.run, Sem.run_pure]
              rfl
          · cases he
        · cases he
      · cases he
    · cases he
  · rename_i t a b'
    split at he
    · rename_i el k n k' m hu ha hb
      split at he
      · rename_i z i hz hi
        split at he
        · rename_i hc
          cases he
          obtain ⟨hs0, hzs⟩ := of_decide_eq_true hc
          have hva := h a
          rw [ha] at hva
          obtain ⟨e1, hk1⟩ := vint hva
          have hvb := h b'
          rw [hb] at hvb
          obtain ⟨e2, hk2⟩ := vint hvb
          have g1 : 0 ≤ n := of_decide_eq_true (ht _ (by simp))
          have g2 : n ≤ m := of_decide_eq_true (ht _ (by simp))
          have g3 : m * (i.bytes : Int) ≤ 140737488355328 := of_decide_eq_true (ht _ (by simp))
          have g4 : m < 9223372036854775808 := of_decide_eq_true (ht _ (by simp))
          obtain ⟨zv, hzr, hzp, _⟩ := run_zero (w := w) (σ := σ) hz
          have hzl : zv.cells.toList.length = i.size := hzp.len.trans hzs
          have hrep := repL_sound hzp m.toNat
          refine ⟨_, _, ?_, hrep, mk_sl hid⟩
          have w1 : IntKind.i64.wrap n = n := by rw [← wrapK_eq]; simp only [wrapK]; omega
          have w2 : IntKind.i64.wrap m = m := by rw [← wrapK_eq]; simp only [wrapK]; omega
          have hre := rep_eq m.toNat zv.cells.toList
          rw [hzl] at hre
          simp only [Array.toArray_toList] at hre
          have hmt : ((m.toNat : Nat) : Int) = m := by omega
          have hroom : ¬ m.toNat * i.bytes > roomBytes := by
            have : ((m.toNat * i.bytes : Nat) : Int) ≤ 140737488355328 := by push_cast; rw [hmt]; exact g3
            have h2 : roomBytes = 140737488355328 := rfl
            omega
          have hbm : ((i.bytes : Int)) * m ≤ 140737488355328 := by rw [Int.mul_comm]; exact g3
          have tl : (decide (m < 0) || decide ((i.bytes : Int) * m > 2 ^ 48)) = false := by
            simp; omega
          have c3 : ∀ (f g : Nat → Value), m.toNat * i.size = 0 → (Array.range (m.toNat * i.size)).map f = (Array.range (m.toNat * i.size)).map g := by
            intro f g h0; rw [h0]; simp
          have hsz : tsz P el = some i.size := by simp [tsz, hi]
          have cnd : (((decide (m < 0) || decide ((i.bytes : Int) * m > 2 ^ 48)) || decide (n < 0) || decide (n > m)) = true) = False := by
            rw [tl]; simp; omega
          simp only [execOp, e1, e2, Instr.makeSlice, asInt, asIntOf, Sem.run_bind, Sem.run_pure, run_underlying hu, Result.andThen_ok, run_typeInfo hi, w1, w2, Sem.run_ite]
          simp only [cnd, if_false, askRoom, hroom, Sem.run_pure, Result.andThen_ok, run_sizeOf hsz]
          by_cases h0 : m.toNat * i.size = 0
          · rw [if_pos h0, c3 _ _ h0, hre]
            simp only [newRow, newObj, Sem.run_bind, Sem.run, Sem.run_pure, Result.andThen_ok]
            rfl
          · rw [if_neg h0, hzr]
            simp only [Result.andThen_ok, hre, newRow, newObj, Sem.run_bind, Sem.run, Sem.run_pure]
            rfl
        · cases he
      · cases he
    · cases he
  · cases he
end
end Vx

/-
  An executor of Go code on values of its own: contracts; one operation of a region.
-/
namespace Vx
open Go Go.RowKit

/-- What a call of a function comes to: a value, in a world. -/
def Comes1 (P : Program) (f : FuncId) (vals : Array Value) (w : World) (R : Value → World → Prop) : Prop :=
  match (callFunc f vals).run P w with
  | .ok (.enter g args) w' => Calls P g args w' fun
    | .returned x, w'' => R x w''
    | _, _ => False
  | .ok (.value x) w' => R x w'
  | _ => False

/-- An argument is so, and the block behind it. -/
def ArgRel (σ : Sg) (w : World) (a : V × Option Blk) (x : Value) : Prop :=
  VRel σ a.1 x ∧ match idOf a.1 with
    | none => a.2 = none
    | some id => ∃ (b : Blk) (n : Nat) (xs : List Value), a.2 = some b ∧ σ id = some n ∧ w.heap[n]? = some (.cells xs.toArray b.elem (0, 0)) ∧ CRel σ b.c xs ∧ n < w.heap.size

/-- The new blocks of a call. -/
def NewRel (base : Nat) (σ σ' : Sg) (w w' : World) : List Blk → Prop
  | [] => σ' = σ
  | [b] => ∃ (n : Nat) (xs : List Value), w.heap.size ≤ n ∧ n < w'.heap.size ∧ σ' = upd σ base n ∧ w'.heap[n]? = some (.cells xs.toArray b.elem (0, 0)) ∧ CRel σ' b.c xs
  | _ => False

/-- A contract holds. -/
def FnOK (P : Program) (f : FuncId) (sp : FSpec) : Prop :=
  ∀ base args chk v bs, sp base args = some (chk, v, bs) → allT chk → ∀ (σ : Sg) (w : World) (vals : List Value), All2 (ArgRel σ w) args vals → σ base = none →
    Comes1 P f vals.toArray w fun x w' => ∃ σ', Below w.heap.size w w' ∧ VRel σ' v x ∧ NewRel base σ σ' w w' bs

def TabOK (P : Program) (tab : FuncId → Option FSpec) : Prop := ∀ f sp, tab f = some sp → FnOK P f sp

/-- What stays: all that was there, but for some blocks that may be written. -/
structure Fr (w0 : World) (W : Nat → Prop) (ro : Nat) (σ : Sg) (w : World) : Prop where
  os : w.os = w0.os
  tape : w.tape = w0.tape
  output : w.output = w0.output
  size : w0.heap.size ≤ w.heap.size
  old : ∀ b, b < w0.heap.size → ¬ W b → w.heap[b]? = w0.heap[b]?
  own : ∀ i b, σ i = some b → ro ≤ i → W b ∨ w0.heap.size ≤ b

structure Rep (w0 : World) (W : Nat → Prop) (ro : Nat) (σ : Sg) (st : St) (a : Act) (w : World) : Prop where
  defers : a.defers = []
  t : TRel σ st.t a.tmps
  h : HRel ro σ st.h w
  fr : Fr w0 W ro σ w

inductive StepR (cx : Cx) (all : List Oper) (o : Oper) (id : Nat) (st : St) : St → Prop where
  | skip : guardV all o st.t = some false → StepR cx all o id st ⟨putT st.t o.dst undefV, st.h⟩
  | st {s : Step} {v : V} : guardV all o st.t = some true → eff cx o.op (evO st.t) (hg st.h) id = .st s → Gives s v → StepR cx all o id st ⟨putT st.t o.dst v, st.h⟩
  | wr {chk : List Bool} {i : Nat} {b : Blk} : guardV all o st.t = some true → eff cx o.op (evO st.t) (hg st.h) id = .wr chk i b → allT chk →
      StepR cx all o id st ⟨putT st.t o.dst undefV, st.h.set i (some b)⟩
  | nw {chk : List Bool} {v : V} {bs : List Blk} : guardV all o st.t = some true → eff cx o.op (evO st.t) (hg st.h) id = .nw chk v bs → allT chk →
      StepR cx all o id st ⟨putT st.t o.dst v, putN st.h id bs⟩

theorem gl_set (t : List V) (d i : Nat) (v : V) : gl (t.set d v) i = if i = d ∧ d < t.length then v else gl t i := by
  unfold gl
  rw [List.getD_eq_getElem?_getD, List.getElem?_set, List.getD_eq_getElem?_getD]
  by_cases hi : d = i
  · subst hi
    by_cases hd : d < t.length
    · simp [hd]
    · simp [hd]
  · rw [if_neg hi, if_neg (fun h => hi h.1.symm)]

theorem TRel.put {σ : Sg} {t : List V} {a : Act} (h : TRel σ t a.tmps) (d : Option Tmp) {v : V} {y : Value} (hv : VRel σ v y) :
    TRel σ (putT t d v) (a.put d y).tmps := by
  cases d with
  | none => exact h
  | some d =>
    refine ⟨by simp [putT, Act.put, h.1], ?_⟩
    intro i
    simp only [putT, Act.put]
    rw [gl_set]
    have hi := h.2 i
    by_cases hc : i = d ∧ d < t.length
    · obtain ⟨rfl, hd⟩ := hc
      rw [if_pos ⟨rfl, hd⟩]
      have : i < a.tmps.size := by rw [h.1]; exact hd
      simpa [Array.getD, this] using hv
    · rw [if_neg hc]
      have e : (a.tmps.setIfInBounds d y).getD i undef = a.tmps.getD i undef := by
        by_cases hid : i = d
        · subst hid
          have : ¬ i < a.tmps.size := by rw [h.1]; exact fun hlt => hc ⟨rfl, hlt⟩
          simp [Array.getD, this]
        · simp only [Array.getD, Array.size_setIfInBounds]
          split
          · rename_i hlt
            have : (a.tmps.setIfInBounds d y)[i]'(by simpa using hlt) = a.tmps[i] := by
              rw [Array.getElem_setIfInBounds (by simpa using hlt), if_neg (fun e => hid (Eq.symm e))]
            simpa using this
          · rfl
      rw [e]
      exact hi

theorem TRel.mono {σ τ : Sg} {t : List V} {tm : Array Value} (hs : Sub σ τ) (h : TRel σ t tm) : TRel τ t tm := ⟨h.1, fun i => (h.2 i).mono hs⟩

theorem rel_undef (σ : Sg) : VRel σ undefV undef := ⟨[], rfl, .nil⟩

section
variable {P : Program} {w : World} {σ : Sg} {ro : Nat} {w0 : World} {W : Nat → Prop}

theorem Fr.sub {τ : Sg} (h : Fr w0 W ro σ w) (hn : ∀ i b, τ i = some b → σ i = some b ∨ w0.heap.size ≤ b) : Fr w0 W ro τ w :=
  { h with own := fun i b hi hr => (hn i b hi).elim (fun h1 => h.own i b h1 hr) .inr }

theorem Fr.alloc (h : Fr w0 W ro σ w) (o : Obj) (id : Nat) : Fr w0 W ro (upd σ id w.heap.size) (w.alloc o) where
  os := h.os
  tape := h.tape
  output := h.output
  size := by have := h.size; simp; omega
  old := fun b hb hW => by
    rw [alloc_heap _ _ _ (by have := h.size; omega)]
    exact h.old b hb hW
  own := fun i b hi hr => by
    unfold upd at hi
    split at hi
    · cases hi; exact .inr h.size
    · exact h.own i b hi hr

theorem Fr.setRow (h : Fr w0 W ro σ w) {id n : Nat} (cs : Array Value) (hn : σ id = some n) (hr : ro ≤ id) : Fr w0 W ro σ (w.setRow n cs) where
  os := h.os
  tape := h.tape
  output := h.output
  size := by have := h.size; simp; omega
  old := fun b hb hW => by
    have hne : b ≠ n := by
      rintro rfl
      rcases h.own id b hn hr with h1 | h1
      · exact hW h1
      · omega
    rw [setRow_other w n b cs hne]
    exact h.old b hb hW
  own := h.own

theorem Fr.below (h : Fr w0 W ro σ w) {w' : World} (hb : Below w.heap.size w w') : Fr w0 W ro σ w' where
  os := hb.os.trans h.os
  tape := hb.tape.trans h.tape
  output := hb.output.trans h.output
  size := Nat.le_trans h.size hb.size
  old := fun b hlt hW => by
    rw [hb.block b (by have := h.size; omega)]
    exact h.old b hlt hW
  own := h.own

theorem HRel.below {h : Hp} (hh : HRel ro σ h w) {w' : World} (hb : Below w.heap.size w w') : HRel ro σ h w' where
  blk := fun id b hid => by
    obtain ⟨n, xs, hn, hg, hc⟩ := hh.blk id b hid
    exact ⟨n, xs, hn, by rw [hb.block n (hh.live id n hn).1]; exact hg, hc⟩
  inj := hh.inj
  live := fun i n hi => ⟨Nat.lt_of_lt_of_le (hh.live i n hi).1 hb.size, (hh.live i n hi).2⟩

/-- A block that a call made. -/
theorem HRel.gain {h : Hp} (hh : HRel ro σ h w) {id n : Nat} {b : Blk} {xs : List Value} (hlt : id < h.length) (hnone : hg h id = none)
    (hn : n < w.heap.size) (hnew : ∀ i, σ i ≠ some n) (hg' : w.heap[n]? = some (.cells xs.toArray b.elem (0, 0))) (hc : CRel (upd σ id n) b.c xs) :
    HRel ro (upd σ id n) (h.set id (some b)) w := by
  have hsub : Sub σ (upd σ id n) := upd_sub (hh.fresh hnone)
  refine ⟨?_, ?_, ?_⟩
  · intro j b' hj
    rw [hg_set hlt] at hj
    by_cases hji : j = id
    · subst hji
      rw [if_pos rfl] at hj
      cases hj
      exact ⟨n, xs, by simp [upd], hg', hc⟩
    · rw [if_neg hji] at hj
      obtain ⟨m, zs, hm, hgm, hcm⟩ := hh.blk j b' hj
      exact ⟨m, zs, hsub j m hm, hgm, hcm.mono hsub⟩
  · intro i j m hro hi hj
    unfold upd at hi hj
    by_cases h1 : i = id <;> by_cases h2 : j = id
    · omega
    · rw [if_pos h1] at hi; rw [if_neg h2] at hj
      cases hi
      exact absurd hj (hnew j)
    · rw [if_neg h1] at hi; rw [if_pos h2] at hj
      cases hj
      exact absurd hi (hnew i)
    · rw [if_neg h1] at hi; rw [if_neg h2] at hj
      exact hh.inj i j m hro hi hj
  · intro i m hi
    unfold upd at hi
    rw [hg_set hlt]
    by_cases h1 : i = id
    · rw [if_pos h1] at hi
      cases hi
      rw [if_pos h1]
      exact ⟨hn, rfl⟩
    · rw [if_neg h1] at hi
      rw [if_neg h1]
      exact hh.live i m hi

theorem argsOf_sound {h : Hp} (hh : HRel ro σ h w) : ∀ {l : List V} {vals : List Value} {r : List (V × Option Blk)}, argsOf (hg h) l = some r → All2 (VRel σ) l vals → All2 (ArgRel σ w) r vals
  | [], _, _, h, .nil => by cases h; exact .nil
  | v :: l, _, r, h, .cons hv hl => by
    simp only [argsOf] at h
    split at h
    · rename_i a r' ha hr
      cases h
      refine .cons ?_ (argsOf_sound hh hr hl)
      unfold argOf at ha
      split at ha
      · rename_i hid
        cases ha
        exact ⟨hv, by rw [hid]⟩
      · rename_i id hid
        split at ha
        · rename_i b hb
          cases ha
          refine ⟨hv, ?_⟩
          simp only [hid]
          obtain ⟨n, xs, hn, hg, hc⟩ := hh.blk id b hb
          exact ⟨b, n, xs, rfl, hn, hg, hc, (hh.live id n hn).1⟩
        · cases ha
    · cases h

theorem guard_wanted {cx : Cx} {ops : Array Oper} {o : Oper} {st : St} {a : Act} {g : Bool} (hg : guardV ops.toList o st.t = some g) (ht : TRel σ st.t a.tmps) :
    Region.wanted o (yielded ops a.tmps) = g := by
  have _ := cx
  unfold guardV at hg
  unfold Region.wanted
  cases ho : o.guard with
  | none => simp only [ho, Option.some.injEq] at hg; simp [hg]
  | some jw =>
    obtain ⟨j, want⟩ := jw
    simp only [ho] at hg ⊢
    rw [Array.getElem?_toList] at hg
    cases hj : ops[j]? with
    | none => simp [hj] at hg
    | some q =>
      simp only [hj] at hg
      cases hd : q.dst with
      | none => simp [hd] at hg
      | some d =>
        simp only [hd] at hg
        have hy : yielded ops a.tmps j = match a.tmps[d]? with
          | some (.bool b) => some b
          | _ => none := by simp only [yielded, hj, hd, Option.bind_some]; rfl
        have hr := ht.2 d
        split at hg
        · rename_i b hb
          cases hg
          rw [hb] at hr
          have hv := vbool hr
          have hs : a.tmps[d]? = some (.bool b) := by
            by_cases hlt : d < a.tmps.size
            · simp only [Array.getD, hlt, dite_true] at hv
              rw [Array.getElem?_eq_getElem hlt]
              exact congrArg some hv
            · simp [Array.getD, hlt, undef] at hv
          rw [hy, hs]
          cases b <;> cases want <;> rfl
        · rename_i xs hb
          cases hg
          rw [hb] at hr
          obtain ⟨vs, hvs, _⟩ := hr
          have hs : (match a.tmps[d]? with
            | some (.bool b) => some b
            | _ => none) = (none : Option Bool) := by
            by_cases hlt : d < a.tmps.size
            · simp only [Array.getD, hlt, dite_true] at hvs
              rw [Array.getElem?_eq_getElem hlt]
              have : a.tmps[d] = .tuple vs.toArray := hvs
              rw [this]
            · rw [Array.getElem?_eq_none (Nat.le_of_not_lt hlt)]
          rw [hy, hs]
          rfl
        · cases hg

theorem eval_args {t : List V} {a : Act} (ht : TRel σ t a.tmps) : ∀ (l : List Operand), All2 (VRel σ) (l.map (evO t)) (l.map a.eval)
  | [] => .nil
  | x :: l => .cons (evO_sound ht x) (eval_args ht l)

end
end Vx

/-
  An executor of Go code on values of its own: what it says of one operation is so.
-/
namespace Vx
open Go Go.RowKit

section
variable {w0 : World} {W : Nat → Prop} {cx : Cx} {σ : Sg} {w : World} {st st' : St} {a : Act} {o : Oper} {id : Nat}

theorem Rep.put_same (hr : Rep w0 W cx.ro σ st a w) (d : Option Tmp) {v : V} {y : Value} (hv : VRel σ v y) :
    Rep w0 W cx.ro σ ⟨putT st.t d v, st.h⟩ (a.put d y) w where
  defers := by cases d <;> exact hr.defers
  t := hr.t.put d hv
  h := hr.h
  fr := hr.fr

theorem NewRel.rep {bs : List Blk} {w' : World} {σ' : Sg} (hr : Rep w0 W cx.ro σ st a w) (d : Option Tmp) {v : V} {y : Value} (hb : Below w.heap.size w w') (hv : VRel σ' v y)
    (hn : NewRel id σ σ' w w' bs) (hav : bs ≠ [] → id < st.h.length ∧ hg st.h id = none) :
    Sub σ σ' ∧ Rep w0 W cx.ro σ' ⟨putT st.t d v, putN st.h id bs⟩ (a.put d y) w' := by
  cases bs with
  | nil =>
    cases hn
    exact ⟨Sub.refl _, ⟨by cases d <;> exact hr.defers, hr.t.put d hv, hr.h.below hb, hr.fr.below hb⟩⟩
  | cons b l =>
    cases l with
    | cons _ _ => exact hn.elim
    | nil =>
      obtain ⟨n, xs, h1, h2, rfl, h4, h5⟩ := hn
      obtain ⟨hlt, hnone⟩ := hav (by simp)
      have hsub : Sub σ (upd σ id n) := upd_sub (hr.h.fresh hnone)
      have hh := hr.h.below hb
      refine ⟨hsub, ⟨by cases d <;> exact hr.defers, (hr.t.mono hsub).put d hv, ?_, ?_⟩⟩
      · exact hh.gain hlt hnone h2 (fun i hi => by have := (hr.h.live i n hi).1; omega) h4 h5
      · refine (hr.fr.below hb).sub ?_
        intro i m hi
        unfold upd at hi
        split at hi
        · cases hi
          exact .inr (Nat.le_trans hr.fr.size h1)
        · exact .inl hi

theorem run_call {P : Program} {ρ : Operand → Value} {c : Call} {x : Operand} {f : FuncId} {ty : TypeId} (hc : c.callee = .value x) (hx : ρ x = .func (.func f) #[] #[]) :
    (do let d ← resolve ρ c ty; invoke d.target d.args : Sem Next).run P w = (callFunc f (c.args.map ρ)).run P w := by
  simp [resolve, hc, hx, Deferred.ofValue, invoke]

theorem op_sound {ops : Array Oper} (hT : TabOK cx.P cx.tab) (hs : StepR cx ops.toList o id st st') (hr : Rep w0 W cx.ro σ st a w)
    (hav : slots o.op = 1 → id < st.h.length ∧ hg st.h id = none) {next : Act → World → Prop} {Q : Exit → Act → World → Prop}
    (hnext : ∀ a' w' σ', Sub σ σ' → Rep w0 W cx.ro σ' st' a' w' → next a' w') :
    if Region.wanted o (yielded ops a.tmps) then o.wp cx.P a w next Q ∨ (o.asks cx.P a w ∧ LetsOut Q) else next (a.put o.dst undef) w := by
  cases hs with
  | skip hg =>
    rw [guard_wanted (cx := cx) hg hr.t]
    simp only [Bool.false_eq_true, if_false]
    exact hnext _ _ σ (Sub.refl _) (hr.put_same o.dst (rel_undef σ))
  | st hg he hv =>
    rw [guard_wanted (cx := cx) hg hr.t]
    simp only [if_true]
    left
    rename_i s v
    have key : ∃ y, (execOp a.eval o).run cx.P w = .ok (.value y) w ∧ VRel σ v y := by
      unfold eff at he
      split at he
      · cases he
        exact evP_sound hv (evO_sound hr.t)
      · obtain ⟨dst, op, type, pos, after, guard⟩ := o
        unfold effR at he
        split at he
        · cases he
          obtain ⟨y, hy, hvy⟩ := evLoad_sound (P := cx.P) hv (evO_sound hr.t _) hr.h
          refine ⟨y, ?_, hvy⟩
          rename_i _ _ hop
          simp only at hop
          subst hop
          simp only [execOp, Sem.run_bind, hy, Result.andThen_ok, Sem.run_pure]
        · cases he
      · unfold effW at he
        split at he
        · split at he <;> cases he
        · cases he
      · unfold effA at he
        split at he <;> cases he
      · unfold effX at he
        split at he
        · unfold evCallOp at he
          (repeat' split at he) <;> cases he
        · cases he
    obtain ⟨y, hy, hvy⟩ := key
    unfold Oper.wp
    rw [hy, Oper.upon_value]
    exact hnext _ _ σ (Sub.refl _) (hr.put_same o.dst hvy)
  | wr hg he ht =>
    rw [guard_wanted (cx := cx) hg hr.t]
    simp only [if_true]
    left
    rename_i chk i b
    have key : ∃ n cs, (execOp a.eval o).run cx.P w = .ok .skip (w.setRow n cs) ∧ σ i = some n ∧ cx.ro ≤ i ∧ HRel cx.ro σ (st.h.set i (some b)) (w.setRow n cs) := by
      unfold eff at he
      split at he
      · cases he
      · unfold effR at he
        split at he <;> cases he
      · obtain ⟨dst, op, type, pos, after, guard⟩ := o
        unfold effW at he
        split at he
        · split at he
          · rename_i _ _ _ hop _ _ _ _ hes
            cases he
            obtain ⟨n, cs, h1, h2, h3, h4⟩ := evStore_sound hes ht (evO_sound hr.t _) (evO_sound hr.t _) hr.h
            simp only at hop
            subst hop
            exact ⟨n, cs, by simp only [execOp, Sem.run_bind, h1, Result.andThen_ok, Sem.run_pure], h2, h3, h4⟩
          · cases he
        · cases he
      · unfold effA at he
        split at he <;> cases he
      · unfold effX at he
        split at he
        · unfold evCallOp at he
          (repeat' split at he) <;> cases he
        · cases he
    obtain ⟨n, cs, h1, h2, h3, h4⟩ := key
    unfold Oper.wp
    rw [h1, Oper.upon_skip]
    refine hnext _ _ σ (Sub.refl _) ⟨?_, hr.t.put o.dst (rel_undef σ), h4, hr.fr.setRow cs h2 h3⟩
    cases o.dst <;> exact hr.defers
  | nw hg he ht =>
    rw [guard_wanted (cx := cx) hg hr.t]
    simp only [if_true]
    left
    rename_i chk v bs
    unfold eff at he
    split at he
    · cases he
    · unfold effR at he
      split at he <;> cases he
    · unfold effW at he
      split at he
      · split at he <;> cases he
      · cases he
    · rename_i hcls
      unfold effA at he
      split at he
      · rename_i chk' v' b hea
        cases he
        have hslot : slots o.op = 1 := by unfold slots; rw [hcls]
        obtain ⟨hlt, hnone⟩ := hav hslot
        obtain ⟨y, xs, h1, h2, h3⟩ := evAlloc_sound (P := cx.P) (w := w) (σ := σ) (ρ := a.eval) hea ht (evO_sound hr.t)
        have hsub : Sub σ (upd σ id w.heap.size) := upd_sub (hr.h.fresh hnone)
        unfold Oper.wp
        rw [h1, Oper.upon_value]
        refine hnext _ _ _ hsub ⟨?_, (hr.t.mono hsub).put o.dst h3, hr.h.alloc hlt hnone h2, hr.fr.alloc _ id⟩
        cases o.dst <;> exact hr.defers
      · cases he
    · rename_i hcls
      have hslot : slots o.op = 1 := by unfold slots; rw [hcls]
      obtain ⟨hlt, hnone⟩ := hav hslot
      unfold effX at he
      split at he
      · rename_i c hop
        unfold evCallOp at he
        split at he
        · rename_i f hf
          split at he
          · rename_i sp hsp
            split at he
            · rename_i as has
              split at he
              · rename_i chk' v' bs' hspe
                have hbs : chk' = chk ∧ v' = v ∧ bs' = bs := by
                  split at he
                  · cases he; exact ⟨rfl, rfl, rfl⟩
                  · cases he; exact ⟨rfl, rfl, rfl⟩
                  · cases he
                obtain ⟨rfl, rfl, rfl⟩ := hbs
                clear he
                have hargs := argsOf_sound hr.h has (eval_args hr.t c.args.toList)
                have hcall := hT f sp hsp id as _ _ _ hspe ht σ w _ hargs (hr.h.fresh hnone)
                have hcx : ∃ x, c.callee = .value x ∧ evO st.t x = .one (.fn f) := by
                  unfold callee at hf
                  split at hf
                  · rename_i x hcc
                    split at hf
                    · rename_i f' hfx
                      cases hf
                      exact ⟨x, hcc, hfx⟩
                    · cases hf
                  · cases hf
                obtain ⟨x, hcc, hfx⟩ := hcx
                have hvx := evO_sound hr.t x
                rw [hfx] at hvx
                obtain ⟨_, hvf⟩ := hvx
                have hval : a.eval x = .func (.func f) #[] #[] := (List.cons.inj hvf).1
                have hrun : (execOp a.eval o).run cx.P w = (callFunc f (c.args.map a.eval)).run cx.P w := by
                  rw [← run_call (ty := o.type) hcc hval]
                  unfold execOp
                  rw [hop]
                have harr : (c.args.toList.map a.eval).toArray = c.args.map a.eval := by
                  apply Array.ext'; simp
                rw [harr] at hcall
                have fin : ∀ y w', (∃ σ', Below w.heap.size w w' ∧ VRel σ' v' y ∧ NewRel id σ σ' w w' bs') → next (a.put o.dst y) w' := by
                  rintro y w' ⟨σ', hb, hv, hn⟩
                  obtain ⟨h1, h2⟩ := NewRel.rep (a := a) hr o.dst hb hv hn (fun _ => ⟨hlt, hnone⟩)
                  exact hnext _ _ _ h1 h2
                unfold Oper.wp
                rw [hrun]
                unfold Comes1 at hcall
                split at hcall
                · rename_i g args w' hrn
                  rw [hrn, Oper.upon_enter]
                  refine hcall.mono ?_
                  intro e w'' he
                  cases e with
                  | returned y => exact fin y w'' he
                  | panicked _ => exact he.elim
                  | outgrown => exact he.elim
                · rename_i y w' hrn
                  rw [hrn, Oper.upon_value]
                  exact fin y w' hcall
                · exact hcall.elim
              · cases he
            · cases he
          · cases he
        · cases he
      · cases he
end
end Vx

/-
  An executor of Go code on values of its own: a region in the order of its text.
-/
namespace Vx
open Go Go.RowKit

def Out.good : Out → Prop
  | .done _ _ => True
  | .fail _ => False

def idf (base : Nat) (all : List Oper) (i : Nat) : Nat := base + slotsL (all.take i)

inductive Chain (cx : Cx) (all : List Oper) (base : Nat) (tr : List (List Nat)) : List Nat → St → St → Prop where
  | nil {st : St} : Chain cx all base tr [] st st
  | cons {i : Nat} {o : Oper} {rest : List Nat} {st s1 st' : St} : all[i]? = some o → (∀ x ∈ looks o.op, ∀ k, idOf (evO st.t x) = some k → k ∈ tr.getD i []) →
      StepR cx all o (idf base all i) st s1 → Chain cx all base tr rest s1 st' → Chain cx all base tr (i :: rest) st st'

/-- The number of an operation that makes memory is free. -/
def Avail (all : List Oper) (base : Nat) (rem : List Nat) (h : Hp) : Prop :=
  ∀ i o, i ∈ rem → all[i]? = some o → slots o.op = 1 → idf base all i < h.length ∧ hg h (idf base all i) = none

theorem slotsL_append : ∀ (a b : List Oper), slotsL (a ++ b) = slotsL a + slotsL b
  | [], b => by simp [slotsL]
  | o :: a, b => by simp only [List.cons_append, slotsL, slotsL_append a b]; omega

theorem idf_succ {all : List Oper} {i : Nat} {o : Oper} (base : Nat) (h : all[i]? = some o) : idf base all (i + 1) = idf base all i + slots o.op := by
  unfold idf
  obtain ⟨hlt, rfl⟩ := List.getElem?_eq_some_iff.1 h
  rw [List.take_succ_eq_append_getElem hlt, slotsL_append]
  simp [slotsL]; omega

theorem slotsL_take_mono (all : List Oper) : ∀ {i j : Nat}, i ≤ j → slotsL (all.take i) ≤ slotsL (all.take j) := by
  intro i j h
  have : all.take j = all.take i ++ (all.drop i).take (j - i) := by
    rw [← List.take_add]; congr 1; omega
  rw [this, slotsL_append]; omega

theorem idf_ne {all : List Oper} {base i j : Nat} {o q : Oper} (hi : all[i]? = some o) (hj : all[j]? = some q) (h1 : slots o.op = 1) (h2 : slots q.op = 1) (hne : i ≠ j) :
    idf base all i ≠ idf base all j := by
  rcases Nat.lt_or_gt_of_ne hne with h | h
  · have e := idf_succ base hi
    have := slotsL_take_mono all (show i + 1 ≤ j by omega)
    unfold idf at *; omega
  · have e := idf_succ base hj
    have := slotsL_take_mono all (show j + 1 ≤ i by omega)
    unfold idf at *; omega

theorem chks_good {chk : List Bool} {k out : Out} (h : chks chk k = out) (hg : out.good) : allT chk ∧ k = out := by
  induction chk with
  | nil => exact ⟨fun _ h => by simp at h, h⟩
  | cons b l ih =>
    simp only [chks] at h
    cases b with
    | false => simp only [cond_false] at h; subst h; exact hg.elim
    | true =>
      simp only [cond_true] at h
      obtain ⟨h1, h2⟩ := ih h
      exact ⟨fun c hc => by rcases List.mem_cons.1 hc with rfl | hc; rfl; exact h1 c hc, h2⟩

theorem run1_good {cx : Cx} {all : List Oper} {o : Oper} {id : Nat} {st : St} {κ : St → Out} {out : Out} (h : run1 cx o id st κ = out) (hg : out.good)
    (hgd : guardV all o st.t = some true) : ∃ st', StepR cx all o id st st' ∧ κ st' = out := by
  unfold run1 at h
  split at h
  · rename_i chk v he
    obtain ⟨h1, h2⟩ := chks_good h hg
    exact ⟨_, .st hgd he (.val h1), h2⟩
  · rename_i chk b v w he
    obtain ⟨h1, h2⟩ := chks_good h hg
    cases b with
    | true => exact ⟨_, .st hgd he (.brT h1), h2⟩
    | false => exact ⟨_, .st hgd he (.brF h1), h2⟩
  · rename_i chk i b he
    obtain ⟨h1, h2⟩ := chks_good h hg
    exact ⟨_, .wr hgd he h1, h2⟩
  · rename_i chk v bs he
    obtain ⟨h1, h2⟩ := chks_good h hg
    exact ⟨_, .nw hgd he h1, h2⟩
  · subst h; exact hg.elim

theorem mem_uses {t : List V} {o : Oper} : ∀ x ∈ looks o.op, ∀ k, idOf (evO t x) = some k → k ∈ usesOf t o :=
  fun x hx _ hk => List.mem_filterMap.2 ⟨x, hx, hk⟩

theorem evList_good {cx : Cx} {all : List Oper} {base : Nat} {κ : List (List Nat) → St → Out} {out : Out} (hg : out.good) : ∀ (l : List Oper) (k : Nat) (st : St) (tr : List (List Nat)), all.drop k = l → tr.length = k →
    evList cx all l (idf base all k) st tr κ = out → ∃ st' tr', Chain cx all base tr' (List.range' k l.length) st st' ∧ κ tr' st' = out ∧ tr <+: tr'
  | [], k, st, tr, _, _, h => ⟨st, tr, .nil, h, List.prefix_refl _⟩
  | o :: r, k, st, tr, hd, hl, h => by
    have hk : all[k]? = some o := by
      have : (all.drop k)[0]? = some o := by rw [hd]; rfl
      simpa using this
    have hd' : all.drop (k + 1) = r := by
      rw [← List.drop_drop, hd]; rfl
    have hid := idf_succ base hk
    have hl' : (tr ++ [usesOf st.t o]).length = k + 1 := by simp [hl]
    have hget : ∀ tr', tr ++ [usesOf st.t o] <+: tr' → tr'.getD k [] = usesOf st.t o := by
      rintro tr' ⟨s, rfl⟩
      subst hl
      simp [List.getD_eq_getElem?_getD]
    simp only [evList] at h
    split at h
    · rename_i g hgd
      cases g with
      | true =>
        simp only [cond_true] at h
        obtain ⟨s1, hs, h1⟩ := run1_good h hg hgd
        rw [← hid] at h1
        obtain ⟨st', tr', hc, h2, h3⟩ := evList_good hg r (k + 1) s1 _ hd' hl' h1
        exact ⟨st', tr', .cons hk (by rw [hget tr' h3]; exact mem_uses) hs hc, h2, (List.prefix_append _ _).trans h3⟩
      | false =>
        simp only [cond_false] at h
        rw [← hid] at h
        obtain ⟨st', tr', hc, h2, h3⟩ := evList_good hg r (k + 1) _ _ hd' hl' h
        exact ⟨st', tr', .cons hk (by rw [hget tr' h3]; exact mem_uses) (.skip hgd) hc, h2, (List.prefix_append _ _).trans h3⟩
    · subst h; exact hg.elim

theorem evStore_live {P : Program} {ro : Nat} {t : TypeId} {a v : V} {g : Nat → Option Blk} {chk : List Bool} {id : Nat} {b : Blk} (h : evStore P ro t a v g = some (chk, id, b)) :
    idOf a = some id ∧ ∃ b', g id = some b' := by
  unfold evStore at h
  split at h
  · split at h
    · rename_i i off
      split at h
      · rename_i b0 hb _
        (repeat' split at h) <;> first | (cases h; done) | (cases h; exact ⟨rfl, _, hb⟩)
      · cases h
    · rename_i i z j r
      split at h
      · rename_i b0 hb _
        (repeat' split at h) <;> first | (cases h; done) | (cases h; exact ⟨rfl, _, hb⟩)
      · cases h
    · cases h
  · cases h

theorem eff_wr {cx : Cx} {op : Op} {e : Operand → V} {g : Nat → Option Blk} {id i : Nat} {chk : List Bool} {b : Blk} (h : eff cx op e g id = .wr chk i b) :
    cls op = .w ∧ ∃ t a v, op = .store t a v ∧ evStore cx.P cx.ro t (e a) (e v) g = some (chk, i, b) := by
  unfold eff at h
  split at h
  · cases h
  · unfold effR at h
    split at h <;> cases h
  · rename_i hc
    refine ⟨hc, ?_⟩
    unfold effW at h
    split at h
    · split at h
      · rename_i hes
        cases h
        exact ⟨_, _, _, rfl, hes⟩
      · cases h
    · cases h
  · unfold effA at h
    split at h <;> cases h
  · unfold effX at h
    split at h
    · unfold evCallOp at h
      (repeat' split at h) <;> cases h
    · cases h

theorem eff_nw {cx : Cx} {op : Op} {e : Operand → V} {g : Nat → Option Blk} {id : Nat} {chk : List Bool} {v : V} {bs : List Blk} (h : eff cx op e g id = .nw chk v bs) :
    slots op = 1 := by
  unfold eff at h
  unfold slots
  split at h
  · cases h
  · unfold effR at h
    split at h <;> cases h
  · unfold effW at h
    split at h
    · split at h <;> cases h
    · cases h
  · rename_i hc; rw [hc]
  · rename_i hc; rw [hc]

theorem putN_len (h : Hp) (id : Nat) (bs : List Blk) : (putN h id bs).length = h.length := by
  cases bs <;> simp [putN]

theorem StepR.avail {cx : Cx} {all : List Oper} {base i : Nat} {o : Oper} {st s1 : St} {rem rem' : List Nat} (hi : all[i]? = some o) (hs : StepR cx all o (idf base all i) st s1)
    (hav : Avail all base rem st.h) (hsub : ∀ j ∈ rem', j ∈ rem ∧ j ≠ i) : Avail all base rem' s1.h := by
  intro j q hj hq hsl
  obtain ⟨hj1, hj2⟩ := hsub j hj
  obtain ⟨h1, h2⟩ := hav j q hj1 hq hsl
  cases hs with
  | skip _ => exact ⟨h1, h2⟩
  | st _ _ _ => exact ⟨h1, h2⟩
  | @wr chk m b _ he _ =>
    obtain ⟨_, t, a, v, _, hes⟩ := eff_wr he
    obtain ⟨_, b', hb'⟩ := evStore_live hes
    have hlt : m < st.h.length := hg_lt hb'
    refine ⟨by simpa using h1, ?_⟩
    rw [hg_set hlt, if_neg]
    · exact h2
    · rintro e; rw [e] at h2; rw [h2] at hb'; cases hb'
  | @nw chk v bs _ he _ =>
    refine ⟨by simpa [putN_len] using h1, ?_⟩
    have hsi := eff_nw he
    have hne := idf_ne (base := base) hq hi hsl hsi hj2
    cases bs with
    | nil => exact h2
    | cons b l =>
      by_cases hlt : idf base all i < st.h.length
      · simp only [putN]
        rw [hg_set hlt, if_neg hne]
        exact h2
      · simp only [putN]
        rw [List.set_eq_of_length_le (by omega)]
        exact h2

theorem chain_sound {cx : Cx} {ops : Array Oper} {base : Nat} {w0 : World} {W : Nat → Prop} {Q : Exit → Act → World → Prop} (hT : TabOK cx.P cx.tab) :
    ∀ {tr : List (List Nat)} {l : List Nat} {st st' : St} {σ : Sg} {a : Act} {w : World}, Chain cx ops.toList base tr l st st' → l.Nodup → Avail ops.toList base l st.h → Rep w0 W cx.ro σ st a w →
      (∀ a' w' σ', Sub σ σ' → Rep w0 W cx.ro σ' st' a' w' → Q .normal a' w') → wpOps cx.P ops Q l a w
  | _, [], _, _, _, _, _, .nil, _, _, hr, hq => hq _ _ _ (Sub.refl _) hr
  | _, i :: rest, st, st', σ, a, w, .cons (o := o) (s1 := s1) hi _ hs hc, hnd, hav, hr, hq => by
    have hio : ops[i]? = some o := by rw [← Array.getElem?_toList]; exact hi
    simp only [wpOps, hio]
    refine op_sound hT hs hr (fun hsl => hav i o (by simp) hi hsl) ?_
    intro a' w' σ' hsub hr'
    obtain ⟨hn1, hn2⟩ := List.nodup_cons.1 hnd
    exact chain_sound hT hc hn2 (hs.avail hi hav (fun j hj => ⟨by simp [hj], fun e => hn1 (e ▸ hj)⟩)) hr' (fun a2 w2 σ2 h2 hr2 => hq a2 w2 σ2 (hsub.trans h2) hr2)

theorem avail_init {all : List Oper} (h : Hp) (rem : List Nat) : Avail all h.length rem (h ++ List.replicate (slotsL all) none) := by
  intro i o _ hi hsl
  have hs := idf_succ h.length hi
  have hle := slotsL_take_mono all (show i + 1 ≤ max (i + 1) all.length by omega)
  have htot : slotsL (all.take (max (i + 1) all.length)) = slotsL all := by rw [List.take_of_length_le (by omega)]
  have hlt : idf h.length all i < h.length + slotsL all := by unfold idf at *; omega
  have hge : h.length ≤ idf h.length all i := by unfold idf; omega
  refine ⟨by simpa using hlt, ?_⟩
  unfold hg
  rw [List.getD_eq_getElem?_getD, List.getElem?_append_right hge, List.getElem?_replicate]
  split <;> rfl

theorem hg_append_none (h : Hp) (n j : Nat) : hg (h ++ List.replicate n none) j = hg h j := by
  unfold hg
  rw [List.getD_eq_getElem?_getD, List.getD_eq_getElem?_getD]
  by_cases hj : j < h.length
  · rw [List.getElem?_append_left hj]
  · rw [List.getElem?_append_right (by omega), List.getElem?_replicate, List.getElem?_eq_none (by omega)]
    split <;> rfl

theorem Rep.pad {w0 : World} {W : Nat → Prop} {ro : Nat} {σ : Sg} {st : St} {a : Act} {w : World} (hr : Rep w0 W ro σ st a w) (n : Nat) :
    Rep w0 W ro σ ⟨st.t, st.h ++ List.replicate n none⟩ a w where
  defers := hr.defers
  t := hr.t
  h := ⟨fun id b h => hr.h.blk id b (by rw [← hg_append_none st.h n]; exact h), hr.h.inj, fun i m h => ⟨(hr.h.live i m h).1, by rw [hg_append_none]; exact (hr.h.live i m h).2⟩⟩
  fr := hr.fr
end Vx

/-
  An executor of Go code on values of its own: what an operation hangs on; two operations change places.
-/
namespace Vx
open Go Go.RowKit

theorem argsOf_congr {g g' : Nat → Option Blk} : ∀ {l : List V}, (∀ v ∈ l, ∀ id, idOf v = some id → g id = g' id) → argsOf g l = argsOf g' l
  | [], _ => rfl
  | v :: l, h => by
    have h1 : argOf g v = argOf g' v := by
      unfold argOf
      cases hi : idOf v with
      | none => rfl
      | some id => simp only [h v (by simp) id hi]
    simp only [argsOf, h1, argsOf_congr (l := l) fun u hu => h u (by simp [hu])]

theorem evLoad_congr {P : Program} {t : TypeId} {a : V} {g g' : Nat → Option Blk} (h : ∀ id, idOf a = some id → g id = g' id) : evLoad P t a g = evLoad P t a g' := by
  unfold evLoad
  split
  · rename_i id off
    rw [h id rfl]
  · rename_i id z i r
    rw [h id rfl]
  · rfl

theorem evStore_congr {P : Program} {ro : Nat} {t : TypeId} {a v : V} {g g' : Nat → Option Blk} (h : ∀ id, idOf a = some id → g id = g' id) : evStore P ro t a v g = evStore P ro t a v g' := by
  unfold evStore
  split
  · split
    · rename_i id off
      rw [h id rfl]
    · rename_i id z i r
      rw [h id rfl]
    · rfl
  · rfl

theorem map_congr' {α β : Type} {f g : α → β} {l : List α} (h : ∀ x ∈ l, f x = g x) : l.map f = l.map g := List.map_congr_left h

theorem evP_congr {sy : Bool} {P : Program} {op : Op} {e e' : Operand → V} (h : ∀ x ∈ op.operands.toList, e x = e' x) : evP sy P op e = evP sy P op e' := by
  cases op with
  | move x => simp only [evP, h x (by simp [Op.operands])]
  | assign x => simp only [evP, h x (by simp [Op.operands])]
  | pick c a b => simp only [evP, h c (by simp [Op.operands]), h a (by simp [Op.operands]), h b (by simp [Op.operands])]
  | nilCheck x => simp only [evP, h x (by simp [Op.operands])]
  | binOp op t x y yt => simp only [evP, h x (by simp [Op.operands]), h y (by simp [Op.operands])]
  | unOp op t x => simp only [evP, h x (by simp [Op.operands])]
  | convert s d x => simp only [evP, h x (by simp [Op.operands])]
  | fieldAddr s x f => simp only [evP, h x (by simp [Op.operands])]
  | field s x f => simp only [evP, h x (by simp [Op.operands])]
  | indexAddr t x i => simp only [evP, h x (by simp [Op.operands]), h i (by simp [Op.operands])]
  | index t x i => simp only [evP, h x (by simp [Op.operands]), h i (by simp [Op.operands])]
  | slice t x lo hi mx =>
    have h1 : lo.map e = lo.map e' := by cases lo with
      | none => rfl
      | some y => simp only [Option.map_some, h y (by simp [Op.operands])]
    have h2 : hi.map e = hi.map e' := by cases hi with
      | none => rfl
      | some y => simp only [Option.map_some, h y (by simp [Op.operands])]
    have h3 : mx.map e = mx.map e' := by cases mx with
      | none => rfl
      | some y => simp only [Option.map_some, h y (by simp [Op.operands])]
    simp only [evP, h x (by simp [Op.operands]), h1, h2, h3]
  | extract t i => simp only [evP, h t (by simp [Op.operands])]
  | build t ps =>
    have h1 : (ps.toList.map fun p => (p.1, e p.2)) = ps.toList.map fun p => (p.1, e' p.2) := by
      refine map_congr' fun p hp => ?_
      rw [h p.2 (by simp only [Op.operands]; exact List.mem_map.2 ⟨p, hp, rfl⟩)]
    simp only [evP, h1]
  | sliceToArrayPointer t x => simp only [evP, h x (by simp [Op.operands])]
  | call c =>
    obtain ⟨cl, args, ats⟩ := c
    cases cl with
    | value f => rfl
    | invoke r m => rfl
    | builtin b =>
      cases b <;> first | rfl | skip
      simp only [evP]
      split
      · rename_i x t hx ht
        rw [h x (by simp [Op.operands, Call.operands, hx])]
      · rfl
  | _ => rfl

theorem evAlloc_congr {P : Program} {op : Op} {e e' : Operand → V} {id : Nat} (h : ∀ x ∈ op.operands.toList, e x = e' x) : evAlloc P op e id = evAlloc P op e' id := by
  cases op with
  | box t x => simp only [evAlloc, h x (by simp [Op.operands])]
  | buildSlice t n ps =>
    have h1 : (ps.toList.map fun p => (p.1, e p.2)) = ps.toList.map fun p => (p.1, e' p.2) := by
      refine map_congr' fun p hp => ?_
      rw [h p.2 (by simp only [Op.operands]; exact List.mem_map.2 ⟨p, hp, rfl⟩)]
    simp only [evAlloc, h1]
  | makeSlice t a b => simp only [evAlloc, h a (by simp [Op.operands]), h b (by simp [Op.operands])]
  | _ => rfl

theorem eff_congr {cx : Cx} {op : Op} {e e' : Operand → V} {g : Nat → Option Blk} {id : Nat} (h : ∀ x ∈ op.operands.toList, e x = e' x) :
    eff cx op e g id = eff cx op e' g id := by
  unfold eff
  cases hc : cls op with
  | p => simp only [evP_congr h]
  | a => simp only [effA, evAlloc_congr h]
  | r =>
    cases op with
    | load t a => simp only [effR, h a (by simp [Op.operands])]
    | _ => rfl
  | w =>
    cases op with
    | store t a v => simp only [effW, h a (by simp [Op.operands]), h v (by simp [Op.operands])]
    | _ => rfl
  | x =>
    cases op with
    | call c =>
      obtain ⟨cl, args, ats⟩ := c
      cases cl with
      | value f =>
        have h1 : args.toList.map e = args.toList.map e' := map_congr' fun x hx => h x (by
          simp only [Op.operands, Call.operands, Array.toList_append, List.mem_append]; exact .inr hx)
        have h3 : e f = e' f := h f (by simp [Op.operands, Call.operands])
        simp only [effX, evCallOp, callee, h3, ← h1]
      | invoke r m => rfl
      | builtin b => rfl
    | _ => rfl

/-- Ids that a step looks up are there. -/
def LiveAt (o : Oper) (st : St) : Prop := ∀ x ∈ o.op.operands.toList, ∀ i, idOf (evO st.t x) = some i → hg st.h i ≠ none

theorem evO_set {t : List V} {d : Option Tmp} {v : V} {x : Operand} {o : Op} (hx : x ∈ o.operands.toList) (hd : ∀ n, d = some n → n ∉ namesOf o) :
    evO (putT t d v) x = evO t x := by
  cases d with
  | none => rfl
  | some n =>
    cases x with
    | tmp m =>
      have hm : m ∈ namesOf o := List.mem_filterMap.2 ⟨.tmp m, hx, rfl⟩
      have hne : m ≠ n := fun e => hd n rfl (e ▸ hm)
      simp only [evO, putT]
      rw [gl_set, if_neg (fun h => hne h.1)]
    | _ => rfl

theorem guardV_set {all : List Oper} {o : Oper} {t : List V} {d : Option Tmp} {v : V} (hd : ∀ n, d = some n → n ∉ readsOf all o) :
    guardV all o (putT t d v) = guardV all o t := by
  cases d with
  | none => rfl
  | some n =>
    have hn := hd n rfl
    unfold readsOf at hn
    unfold guardV
    cases hg : o.guard with
    | none => rfl
    | some jw =>
      obtain ⟨j, want⟩ := jw
      simp only [hg] at hn ⊢
      cases hj : all[j]? with
      | none => rfl
      | some q =>
        simp only [hj] at hn ⊢
        cases hq : q.dst with
        | none => rfl
        | some m =>
          simp only [hq, List.mem_append, Option.mem_toList, Option.some.injEq, not_or] at hn ⊢
          have hne : m ≠ n := fun e => hn.1 (by rw [e])
          simp only [putT]
          rw [gl_set, if_neg (fun h => hne h.1)]

theorem putT_comm {t : List V} {d d' : Option Tmp} {v v' : V} (h : ∀ n, d = some n → d' ≠ some n) : putT (putT t d v) d' v' = putT (putT t d' v') d v := by
  cases d with
  | none => rfl
  | some n =>
    cases d' with
    | none => rfl
    | some m =>
      have hne : n ≠ m := fun e => h n rfl (by rw [e])
      simp only [putT]
      exact List.set_comm _ _ hne

theorem apart_facts {A B : List Nat} {all : List Oper} {o q : Oper} (h : apart A B all o q = true) :
    (clsOk (cls o.op) (cls q.op) = true ∨ far A B = true) ∧ (∀ n, o.dst = some n → n ∉ readsOf all q ∧ q.dst ≠ some n) ∧ (∀ n, q.dst = some n → n ∉ readsOf all o) := by
  unfold apart at h
  simp only [Bool.and_eq_true] at h
  obtain ⟨⟨h1, h2⟩, h3⟩ := h
  refine ⟨by simpa using h1, ?_, ?_⟩
  · intro n hn
    rw [hn] at h2
    simp only [Bool.and_eq_true, Bool.not_eq_true', beq_eq_false_iff_ne, ne_eq] at h2
    refine ⟨?_, h2.2⟩
    intro hm
    rw [List.contains_iff_mem.2 hm] at h2
    exact absurd h2.1 (by simp)
  · intro n hn
    rw [hn] at h3
    intro hm
    simp only [List.contains_iff_mem.2 hm, Bool.not_true] at h3
    cases h3

theorem far_not {A B : List Nat} (h : far A B = true) {k : Nat} (ha : k ∈ A) : k ∉ B := by
  intro hb
  unfold far at h
  simp only [List.all_eq_true] at h
  have := h k ha k hb
  simp at this

theorem names_sub {all : List Oper} {o : Oper} {n : Nat} (h : n ∉ readsOf all o) : n ∉ namesOf o.op :=
  fun hm => h (List.mem_append.2 (.inr hm))

/-- What a step makes of memory: nothing, or one block. -/
inductive Upd (o : Oper) (id : Nat) (h h' : Hp) : Prop where
  | none : h' = h → Upd o id h h'
  | wr {i : Nat} {b : Blk} : cls o.op = .w → hg h i ≠ Option.none → h' = h.set i (some b) → Upd o id h h'
  | nw {b : Blk} : slots o.op = 1 → h' = h.set id (some b) → Upd o id h h'

theorem StepR.upd {cx : Cx} {all : List Oper} {o : Oper} {id : Nat} {st st' : St} (h : StepR cx all o id st st') : Upd o id st.h st'.h := by
  cases h with
  | skip _ => exact .none rfl
  | st _ _ _ => exact .none rfl
  | @wr chk i b _ he _ =>
    obtain ⟨hc, t, a, v, _, hes⟩ := eff_wr he
    obtain ⟨_, b', hb'⟩ := evStore_live hes
    exact .wr hc (by rw [hb']; simp) rfl
  | @nw chk v bs _ he _ =>
    cases bs with
    | nil => exact .none rfl
    | cons b l => exact .nw (eff_nw he) rfl

theorem StepR.tmps {cx : Cx} {all : List Oper} {o : Oper} {id : Nat} {st st' : St} (h : StepR cx all o id st st') : ∃ v, st'.t = putT st.t o.dst v := by
  cases h <;> exact ⟨_, rfl⟩

theorem hg_set_ne {h : Hp} {i j : Nat} {b : Option Blk} (hne : j ≠ i) : hg (h.set i b) j = hg h j := by
  unfold hg
  rw [List.getD_eq_getElem?_getD, List.getElem?_set, if_neg (fun e => hne e.symm), List.getD_eq_getElem?_getD]

/-- A step that looks something up finds it. -/
theorem argsOf_live {g : Nat → Option Blk} : ∀ {l : List V} {r : List (V × Option Blk)}, argsOf g l = some r → ∀ v ∈ l, ∀ i, idOf v = some i → g i ≠ none
  | [], _, _, v, hv, _, _ => by simp at hv
  | v :: l, r, h, u, hu, i, hi => by
    simp only [argsOf] at h
    split at h
    · rename_i a r' ha hr
      rcases List.mem_cons.1 hu with rfl | hu
      · unfold argOf at ha
        rw [hi] at ha
        simp only at ha
        split at ha
        · rename_i b hb; rw [hb]; simp
        · cases ha
      · exact argsOf_live hr u hu i hi
    · cases h

theorem eff_congr2 {cx : Cx} {op : Op} {e : Operand → V} {g g' : Nat → Option Blk} {id : Nat}
    (hg : ∀ x ∈ looks op, ∀ i, idOf (e x) = some i → g i = g' i) : eff cx op e g id = eff cx op e g' id := by
  unfold eff
  cases hc : cls op with
  | p => rfl
  | a => rfl
  | r => cases op with
    | load t a => simp only [effR, evLoad_congr (hg a (by simp [looks]))]
    | _ => rfl
  | w => cases op with
    | store t a v => simp only [effW, evStore_congr (hg a (by simp [looks]))]
    | _ => rfl
  | x => cases op with
    | call c =>
      have hl : isLen c.callee = false := by
        cases hl : isLen c.callee with
        | false => rfl
        | true => simp [cls, hl] at hc
      have h2 : argsOf g (c.args.toList.map e) = argsOf g' (c.args.toList.map e) := by
        refine argsOf_congr fun v hv => ?_
        obtain ⟨x, hx, rfl⟩ := List.mem_map.1 hv
        exact hg x (by simp only [looks, hl]; exact hx)
      simp only [effX, evCallOp, h2]
    | _ => rfl

theorem eff_looks {cx : Cx} {op : Op} {e : Operand → V} {g : Nat → Option Blk} {id : Nat} (h : (∃ s v, eff cx op e g id = .st s ∧ Gives s v) ∨ (∃ c i b, eff cx op e g id = .wr c i b) ∨ ∃ c v bs, eff cx op e g id = .nw c v bs) :
    ∀ x ∈ looks op, ∀ i, idOf (e x) = some i → g i ≠ none := by
  intro x hx i hi hn
  cases op with
  | load t a =>
    simp only [looks, List.mem_singleton] at hx
    subst hx
    have hno : evLoad cx.P t (e x) g = .no := by
      unfold evLoad
      split
      · rename_i id' off hv
        rw [hv] at hi
        simp only [idOf, Option.some.injEq] at hi
        subst hi
        rw [hn]
      · rename_i id' z i' r hv
        rw [hv] at hi
        simp only [idOf, Option.some.injEq] at hi
        subst hi
        rw [hn]
      · rfl
    have : eff cx (.load t x) e g id = .st .no := by simp only [eff, cls, effR, hno]
    rw [this] at h
    rcases h with ⟨s, v, h1, h2⟩ | ⟨_, _, _, h1⟩ | ⟨_, _, _, h1⟩
    · cases h1; cases h2
    · cases h1
    · cases h1
  | store t a v =>
    simp only [looks, List.mem_singleton] at hx
    subst hx
    have hno : evStore cx.P cx.ro t (e x) (e v) g = none := by
      cases hs : evStore cx.P cx.ro t (e x) (e v) g with
      | none => rfl
      | some r =>
        obtain ⟨chk, j, b⟩ := r
        obtain ⟨h1, b', h2⟩ := evStore_live hs
        rw [hi] at h1
        cases h1
        rw [hn] at h2
        cases h2
    have : eff cx (.store t x v) e g id = .no := by simp only [eff, cls, effW, hno]
    rw [this] at h
    rcases h with ⟨s, v, h1, h2⟩ | ⟨_, _, _, h1⟩ | ⟨_, _, _, h1⟩ <;> cases h1
  | call c =>
    simp only [looks] at hx
    cases hl : isLen c.callee with
    | true => rw [hl] at hx; simp at hx
    | false =>
      rw [hl] at hx
      have hno : argsOf g (c.args.toList.map e) = none := by
        cases ha : argsOf g (c.args.toList.map e) with
        | none => rfl
        | some r => exact absurd hn (argsOf_live ha (e x) (List.mem_map.2 ⟨x, hx, rfl⟩) i hi)
      have : eff cx (.call c) e g id = .no := by
        simp only [eff, cls, hl, effX, evCallOp, hno]
        split
        · split <;> rfl
        · rfl
      rw [this] at h
      rcases h with ⟨s, v, h1, h2⟩ | ⟨_, _, _, h1⟩ | ⟨_, _, _, h1⟩ <;> cases h1
  | _ => simp [looks] at hx

theorem looks_sub {op : Op} : ∀ x ∈ looks op, x ∈ op.operands.toList := by
  intro x hx
  cases op with
  | load t a => simpa [looks, Op.operands] using hx
  | store t a v => simp [looks] at hx; simp [Op.operands, hx]
  | call c =>
    simp only [looks] at hx
    split at hx
    · simp at hx
    · simp only [Op.operands, Call.operands, Array.toList_append, List.mem_append]
      exact .inr hx
  | _ => simp [looks] at hx
end Vx
