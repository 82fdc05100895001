/-
  An executor of Go code on values of its own: a region in any order.
-/
import Derived.Test.YtpoikjcgdojjjaaX2
import Derived.LoopN
import Derived.Laws.Externs
namespace Vx
open Go Go.RowKit

def app (u : Option (Nat × Blk)) (h : Hp) : Hp :=
  match u with
  | none => h
  | some (i, b) => h.set i (some b)

inductive Does (E : Eff) (id : Nat) : V → Option (Nat × Blk) → Prop where
  | st {s : Step} {v : V} : E = .st s → Gives s v → Does E id v none
  | wr {chk : List Bool} {i : Nat} {b : Blk} : E = .wr chk i b → allT chk → Does E id undefV (some (i, b))
  | nw0 {chk : List Bool} {v : V} : E = .nw chk v [] → allT chk → Does E id v none
  | nw1 {chk : List Bool} {v : V} {b : Blk} {l : List Blk} : E = .nw chk v (b :: l) → allT chk → Does E id v (some (id, b))

theorem stepR_iff {cx : Cx} {all : List Oper} {o : Oper} {id : Nat} {st st' : St} : StepR cx all o id st st' ↔
    (guardV all o st.t = some false ∧ st' = ⟨putT st.t o.dst undefV, st.h⟩) ∨
    (guardV all o st.t = some true ∧ ∃ v u, Does (eff cx o.op (evO st.t) (hg st.h) id) id v u ∧ st' = ⟨putT st.t o.dst v, app u st.h⟩) := by
  constructor
  · intro h
    cases h with
    | skip h => exact .inl ⟨h, rfl⟩
    | st h1 h2 h3 => exact .inr ⟨h1, _, _, .st h2 h3, rfl⟩
    | wr h1 h2 h3 => exact .inr ⟨h1, _, _, .wr h2 h3, rfl⟩
    | @nw chk v bs h1 h2 h3 =>
      cases bs with
      | nil => exact .inr ⟨h1, _, _, .nw0 h2 h3, rfl⟩
      | cons b l => exact .inr ⟨h1, _, _, .nw1 h2 h3, rfl⟩
  · rintro (⟨h, rfl⟩ | ⟨h, v, u, hd, rfl⟩)
    · exact .skip h
    · cases hd with
      | st h2 h3 => exact .st h h2 h3
      | wr h2 h3 => exact .wr h h2 h3
      | nw0 h2 h3 => exact .nw h h2 h3
      | nw1 h2 h3 => exact .nw h h2 h3

theorem does_looks {cx : Cx} {op : Op} {e : Operand → V} {g : Nat → Option Blk} {id : Nat} {v : V} {u : Option (Nat × Blk)} (h : Does (eff cx op e g id) id v u) :
    ∀ x ∈ looks op, ∀ i, idOf (e x) = some i → g i ≠ none := by
  refine eff_looks (cx := cx) (id := id) ?_
  cases h with
  | st h1 h2 => exact .inl ⟨_, _, h1, h2⟩
  | wr h1 _ => exact .inr (.inl ⟨_, _, _, h1⟩)
  | nw0 h1 _ => exact .inr (.inr ⟨_, _, _, h1⟩)
  | nw1 h1 _ => exact .inr (.inr ⟨_, _, _, h1⟩)

/-- Which block a step turns: one that is there, or its own new one. -/
theorem does_upd {cx : Cx} {op : Op} {e : Operand → V} {g : Nat → Option Blk} {id i : Nat} {b : Blk} {v : V} (h : Does (eff cx op e g id) id v (some (i, b))) :
    (cls op = .w ∧ g i ≠ none ∧ ∃ x ∈ looks op, idOf (e x) = some i) ∨ (slots op = 1 ∧ i = id) := by
  cases h with
  | wr h1 _ =>
    obtain ⟨hc, t, a, v, hop, hes⟩ := eff_wr h1
    obtain ⟨hi, b', hb'⟩ := evStore_live hes
    exact .inl ⟨hc, by rw [hb']; simp, a, by rw [hop]; simp [looks], hi⟩
  | nw1 h1 _ => exact .inr ⟨eff_nw h1, rfl⟩

theorem looks_cls {op : Op} (h : cls op = .p ∨ cls op = .a) : looks op = [] := by
  cases op with
  | load t a => simp [cls] at h
  | store t a v => simp [cls] at h
  | call c =>
    simp only [cls, looks] at h ⊢
    split at h
    · rename_i hl; first | rfl | rw [hl]
    · simp at h
  | _ => rfl

theorem clsOk_w {c : Cl} (h : clsOk c .w = true ∨ clsOk .w c = true) : c = .p ∨ c = .a := by
  cases c <;> simp [clsOk] at h ⊢

theorem hg_app {u : Option (Nat × Blk)} {h : Hp} {k : Nat} (hne : ∀ i b, u = some (i, b) → k ≠ i) : hg (app u h) k = hg h k := by
  cases u with
  | none => rfl
  | some p =>
    obtain ⟨i, b⟩ := p
    exact hg_set_ne (hne i b rfl)

theorem app_comm {u v : Option (Nat × Blk)} {h : Hp} (hne : ∀ i b j c, u = some (i, b) → v = some (j, c) → i ≠ j) : app u (app v h) = app v (app u h) := by
  cases u with
  | none => rfl
  | some p =>
    cases v with
    | none => rfl
    | some q =>
      obtain ⟨i, b⟩ := p
      obtain ⟨j, c⟩ := q
      simp only [app]
      exact List.set_comm _ _ (hne i b j c rfl rfl).symm

theorem swap {cx : Cx} {all : List Oper} {o q : Oper} {idi idj : Nat} {st s1 s2 : St} {A B : List Nat} (hq : StepR cx all q idj st s1) (ho : StepR cx all o idi s1 s2) (hap : apart A B all o q = true)
    (huo : ∀ x ∈ looks o.op, ∀ k, idOf (evO st.t x) = some k → k ∈ A) (huq : ∀ x ∈ looks q.op, ∀ k, idOf (evO st.t x) = some k → k ∈ B)
    (hlive : ∀ x ∈ looks o.op, ∀ k, idOf (evO st.t x) = some k → hg st.h k ≠ none)
    (avi : slots o.op = 1 → hg st.h idi = none) (avj : slots q.op = 1 → hg st.h idj = none) (hne : slots o.op = 1 → slots q.op = 1 → idi ≠ idj) :
    ∃ s1', StepR cx all o idi st s1' ∧ StepR cx all q idj s1' s2 := by
  obtain ⟨hcl0, hdo, hdq⟩ := apart_facts hap
  have hcl : clsOk (cls o.op) (cls q.op) = true ∨ ∀ x ∈ looks o.op, ∀ y ∈ looks q.op, ∀ k, idOf (evO st.t x) = some k → idOf (evO st.t y) ≠ some k :=
    hcl0.imp_right fun hf x hx y hy k hk hk' => far_not hf (huo x hx k hk) (huq y hy k hk')
  -- the operands of the one, behind the other
  have eo : ∀ v, ∀ x ∈ o.op.operands.toList, evO (putT st.t q.dst v) x = evO st.t x := fun v x hx => evO_set hx fun n hn => names_sub (hdq n hn)
  have eq' : ∀ v, ∀ x ∈ q.op.operands.toList, evO (putT st.t o.dst v) x = evO st.t x := fun v x hx => evO_set hx fun n hn => names_sub (hdo n hn).1
  have go' : ∀ v, guardV all o (putT st.t q.dst v) = guardV all o st.t := fun v => guardV_set hdq
  have gq' : ∀ v, guardV all q (putT st.t o.dst v) = guardV all q st.t := fun v => guardV_set fun n hn => (hdo n hn).1
  have pc : ∀ v v', putT (putT st.t q.dst v) o.dst v' = putT (putT st.t o.dst v') q.dst v := fun v v' => putT_comm fun n hn => by
    intro h; exact (hdo n h).2 hn
  rcases stepR_iff.1 hq with ⟨hg1, rfl⟩ | ⟨hg1, v1, u1, hd1, rfl⟩
  · rcases stepR_iff.1 ho with ⟨hg2, rfl⟩ | ⟨hg2, v2, u2, hd2, rfl⟩
    · simp only [go'] at hg2
      refine ⟨_, stepR_iff.2 (.inl ⟨hg2, rfl⟩), stepR_iff.2 (.inl ⟨by simp only [gq']; exact hg1, ?_⟩)⟩
      simp only [pc]
    · simp only [go'] at hg2
      simp only [eff_congr (eo undefV)] at hd2
      refine ⟨_, stepR_iff.2 (.inr ⟨hg2, v2, u2, hd2, rfl⟩), stepR_iff.2 (.inl ⟨by simp only [gq']; exact hg1, ?_⟩)⟩
      simp only [pc]
  · have hlq := does_looks hd1
    -- what the other looks up is not what this one turns
    have h1 : ∀ x ∈ looks o.op, ∀ k, idOf (evO st.t x) = some k → hg (app u1 st.h) k = hg st.h k := by
      intro x hx k hk
      refine hg_app fun i b hu => ?_
      subst hu
      rcases does_upd hd1 with ⟨hw, _, y, hy, hyi⟩ | ⟨hs, rfl⟩
      · rcases hcl with hcl | hcl
        · rw [hw] at hcl
          rw [looks_cls (clsOk_w (.inl hcl))] at hx
          simp at hx
        · intro e
          subst e
          exact hcl x hx y hy _ hk hyi
      · intro e
        subst e
        exact hlive x hx _ hk (avj hs)
    rcases stepR_iff.1 ho with ⟨hg2, rfl⟩ | ⟨hg2, v2, u2, hd2, rfl⟩
    · simp only [go'] at hg2
      refine ⟨_, stepR_iff.2 (.inl ⟨hg2, rfl⟩), stepR_iff.2 (.inr ⟨by simp only [gq']; exact hg1, v1, u1, ?_, ?_⟩)⟩
      · simp only [eff_congr (eq' undefV)]; exact hd1
      · simp only [pc]
    · simp only [go'] at hg2
      simp only [eff_congr (eo v1)] at hd2
      rw [eff_congr2 h1] at hd2
      have h2 : ∀ x ∈ looks q.op, ∀ k, idOf (evO st.t x) = some k → hg (app u2 st.h) k = hg st.h k := by
        intro x hx k hk
        refine hg_app fun i b hu => ?_
        subst hu
        rcases does_upd hd2 with ⟨hw, _, y, hy, hyi⟩ | ⟨hs, rfl⟩
        · rcases hcl with hcl | hcl
          · rw [hw] at hcl
            rw [looks_cls (clsOk_w (.inr hcl))] at hx
            simp at hx
          · intro e
            subst e
            exact hcl y hy x hx _ hyi hk
        · intro e
          subst e
          exact hlq x hx _ hk (avi hs)
      refine ⟨_, stepR_iff.2 (.inr ⟨hg2, v2, u2, hd2, rfl⟩), stepR_iff.2 (.inr ⟨by simp only [gq']; exact hg1, v1, u1, ?_, ?_⟩)⟩
      · simp only [eff_congr (eq' v2)]
        rw [eff_congr2 h2]
        exact hd1
      · simp only [pc]
        congr 1
        refine app_comm fun i b j c hu2 hu1 => ?_
        subst hu1; subst hu2
        rcases does_upd hd1 with ⟨hw, hl, y, hy, hyi⟩ | ⟨hs, rfl⟩ <;> rcases does_upd hd2 with ⟨hw', hl', y', hy', hyi'⟩ | ⟨hs', rfl⟩
        · rcases hcl with hcl | hcl
          · rw [hw, hw'] at hcl; simp [clsOk] at hcl
          · intro e; subst e; exact hcl y' hy' y hy _ hyi' hyi
        · intro e; subst e; exact hl (avi hs')
        · intro e; subst e; exact hl' (avj hs)
        · exact hne hs' hs

/-- An operation that may change places with all that stand before it comes first. -/
theorem front {cx : Cx} {all : List Oper} {base i : Nat} {o : Oper} {tr : List (List Nat)} (hi : all[i]? = some o) : ∀ {pre post : List Nat} {st st' : St},
    Chain cx all base tr (pre ++ i :: post) st st' → (∀ j ∈ pre, ∀ q, all[j]? = some q → j ≠ i ∧ apart (tr.getD i []) (tr.getD j []) all o q = true) → (pre ++ i :: post).Nodup →
    Avail all base (pre ++ i :: post) st.h → (∀ x ∈ looks o.op, ∀ k, idOf (evO st.t x) = some k → hg st.h k ≠ none) →
    ∃ s1, StepR cx all o (idf base all i) st s1 ∧ Chain cx all base tr (pre ++ post) s1 st' ∧ ∀ x ∈ looks o.op, ∀ k, idOf (evO st.t x) = some k → k ∈ tr.getD i []
  | [], post, st, st', .cons hi' hu hs hc, _, _, _, _ => by
    rw [hi] at hi'
    cases hi'
    exact ⟨_, hs, hc, hu⟩
  | j :: pre, post, st, st', .cons (s1 := s1) hj hu hs hc, hap, hnd, hav, hl => by
    rename_i q
    obtain ⟨hne, hapj⟩ := hap j (by simp) q hj
    obtain ⟨hn1, hn2⟩ := List.nodup_cons.1 hnd
    have hav1 := hs.avail hj hav (rem' := pre ++ i :: post) (fun k hk => ⟨by simp only [List.cons_append]; exact List.mem_cons_of_mem _ hk, fun e => hn1 (e ▸ hk)⟩)
    obtain ⟨_, hdo, hdq⟩ := apart_facts hapj
    have hsame : ∀ x ∈ looks o.op, evO s1.t x = evO st.t x := by
      intro x hx
      obtain ⟨v, hv⟩ := hs.tmps
      rw [hv]
      exact evO_set (looks_sub x hx) fun n hn => names_sub (hdq n hn)
    have hl1 : ∀ x ∈ looks o.op, ∀ k, idOf (evO s1.t x) = some k → hg s1.h k ≠ none := by
      intro x hx k hk
      rw [hsame x hx] at hk
      have hlk := hl x hx k hk
      cases hs.upd with
      | none h => rw [h]; exact hlk
      | wr hc hg' h =>
        rw [h]
        rename_i i' b
        by_cases hki : k = i'
        · subst hki
          cases hgk : hg st.h k with
          | none => exact absurd hgk hlk
          | some b0 => rw [hg_set (hg_lt hgk), if_pos rfl]; simp
        · rw [hg_set_ne hki]; exact hlk
      | nw hs' h =>
        rw [h]
        rename_i b
        by_cases hki : k = idf base all j
        · subst hki
          cases hgk : hg st.h (idf base all j) with
          | none => exact absurd hgk hlk
          | some b0 => rw [hg_set (hg_lt hgk), if_pos rfl]; simp
        · rw [hg_set_ne hki]; exact hlk
    obtain ⟨s2, hs2, hc2, hu2⟩ := front hi hc (fun k hk q' hq' => hap k (by simp [hk]) q' hq') hn2 hav1 hl1
    have huo : ∀ x ∈ looks o.op, ∀ k, idOf (evO st.t x) = some k → k ∈ tr.getD i [] := fun x hx k hk => hu2 x hx k (by rw [hsame x hx]; exact hk)
    obtain ⟨s1', h1, h2⟩ := swap hs hs2 hapj huo hu hl (fun hsl => (hav i o (by simp) hi hsl).2) (fun hsl => (hav j q (by simp) hj hsl).2)
      (fun ha hb => idf_ne hi hj ha hb (Ne.symm hne))
    refine ⟨s1', h1, .cons hj (fun x hx k hk => hu x hx k ?_) h2 hc2, huo⟩
    obtain ⟨v, hv⟩ := h1.tmps
    rw [hv, evO_set (looks_sub x hx) fun n hn => names_sub (hdo n hn).1] at hk
    exact hk
end Vx

/-
  An executor of Go code on values of its own: a region in any order; regions; code.
-/
namespace Vx
open Go Go.RowKit

def maskOf (acc : List Nat) (o : Oper) : Nat :=
  o.after.toList.foldl (fun s e => match edgeOn e with
    | some j => s ||| 2 ^ j ||| acc.getD j 0
    | none => s) 0

theorem mask_bit (acc : List Nat) (j : Nat) : ∀ (l : List Edge) (s : Nat), (l.foldl (fun s e => match edgeOn e with
    | some j => s ||| 2 ^ j ||| acc.getD j 0
    | none => s) s).testBit j = true → s.testBit j = true ∨ ∃ e ∈ l, ∃ k, edgeOn e = some k ∧ (j = k ∨ (acc.getD k 0).testBit j = true)
  | [], s, h => .inl h
  | e :: l, s, h => by
    simp only [List.foldl_cons] at h
    rcases mask_bit acc j l _ h with h | ⟨e', he', k, hk, hb⟩
    · cases hk : edgeOn e with
      | none => simp only [hk] at h; exact .inl h
      | some k =>
        simp only [hk, Nat.testBit_or, Bool.or_eq_true, Nat.testBit_two_pow, decide_eq_true_iff] at h
        rcases h with (h | h) | h
        · exact .inl h
        · exact .inr ⟨e, by simp, k, hk, .inl h.symm⟩
        · exact .inr ⟨e, by simp, k, hk, .inr h⟩
    · exact .inr ⟨e', by simp [he'], k, hk, hb⟩

theorem befs_get : ∀ (l : List Oper) (acc : List Nat) (k : Nat), k < acc.length → (befs l acc).getD k 0 = acc.getD k 0
  | [], _, _, _ => rfl
  | o :: r, acc, k, h => by
    simp only [befs]
    rw [befs_get r _ k (by simp; omega)]
    simp [List.getD_eq_getElem?_getD, List.getElem?_append_left h]

theorem befs_at : ∀ (l : List Oper) (acc : List Nat) (m : Nat) (o : Oper), l[m]? = some o →
    ∃ acc' : List Nat, acc'.length = acc.length + m ∧ (befs l acc).getD (acc.length + m) 0 = maskOf acc' o ∧ ∀ k, k < acc'.length → acc'.getD k 0 = (befs l acc).getD k 0
  | [], _, _, _, h => by simp at h
  | o' :: r, acc, 0, o, h => by
    simp only [List.getElem?_cons_zero, Option.some.injEq] at h
    subst h
    refine ⟨acc, rfl, ?_, fun k hk => (befs_get _ _ k hk).symm⟩
    simp only [befs, Nat.add_zero]
    rw [befs_get r _ acc.length (by simp)]
    simp [List.getD_eq_getElem?_getD, maskOf]
    rfl
  | o' :: r, acc, m + 1, o, h => by
    simp only [List.getElem?_cons_succ] at h
    simp only [befs]
    obtain ⟨acc', h1, h2, h3⟩ := befs_at r (acc ++ [o'.after.toList.foldl (fun s e => match edgeOn e with
      | some j => s ||| 2 ^ j ||| acc.getD j 0
      | none => s) 0]) m o h
    refine ⟨acc', by simp at h1; omega, ?_, h3⟩
    rw [← h2]
    congr 1
    simp; omega

/-- What stands before an operation stands before it by an edge, or before one that does. -/
theorem bef_bit {ops : List Oper} {i j : Nat} {o : Oper} (hi : ops[i]? = some o) (h : ((befs ops []).getD i 0).testBit j = true) :
    ∃ e ∈ o.after.toList, ∃ k, edgeOn e = some k ∧ (j = k ∨ ((befs ops []).getD k 0).testBit j = true) := by
  obtain ⟨acc', h1, h2, h3⟩ := befs_at ops [] i o hi
  simp only [List.length_nil, Nat.zero_add] at h1 h2
  rw [h2] at h
  rcases mask_bit acc' j _ _ h with h | ⟨e, he, k, hk, hb⟩
  · simp at h
  · refine ⟨e, he, k, hk, ?_⟩
    rcases hb with hb | hb
    · exact .inl hb
    · right
      by_cases hlt : k < acc'.length
      · rw [← h3 k hlt]; exact hb
      · rw [List.getD_eq_getElem?_getD, List.getElem?_eq_none (by omega)] at hb
        simp at hb

theorem commOK_facts {tr : List (List Nat)} {ops : List Oper} (h : commOK tr ops = true) {i : Nat} {o : Oper} (hi : ops[i]? = some o) :
    (∀ e ∈ o.after.toList, ∀ k, edgeOn e = some k → k < i) ∧
    ∀ j q, ops[j]? = some q → j < i → ((befs ops []).getD i 0).testBit j = true ∨ apart (tr.getD i []) (tr.getD j []) ops o q = true := by
  unfold commOK at h
  simp only [List.all_eq_true] at h
  have h1 := h (o, i) (by rw [List.mem_zipIdx_iff_getElem?]; exact hi)
  simp only [Bool.and_eq_true, List.all_eq_true] at h1
  obtain ⟨h2, h3⟩ := h1
  refine ⟨?_, ?_⟩
  · intro e he k hk
    have := h2 e he
    rw [hk] at this
    simpa using this
  · intro j q hj hlt
    have := h3 (q, j) (by rw [List.mem_zipIdx_iff_getElem?]; exact hj)
    simp only [hlt, decide_true, Bool.not_true, Bool.false_or, Bool.or_eq_true] at this
    exact this

theorem binds_edge (e : Edge) : (Region.binds .any e = true ↔ edgeOn e = some e.on) ∧ ∀ k, edgeOn e = some k → k = e.on := by
  obtain ⟨on, g⟩ := e
  cases g <;> simp [Region.binds, edgeOn] <;> decide

theorem ready_facts {ops : Array Oper} {listed : Array Bool} {i : Nat} (h : i ∈ Region.ready .any ops listed) :
    i < ops.size ∧ listed.getD i true = false ∧ ∃ o, ops[i]? = some o ∧ ∀ e ∈ o.after.toList, ∀ k, edgeOn e = some k → listed.getD k false = true := by
  unfold Region.ready at h
  rw [List.mem_filter] at h
  obtain ⟨h1, h2⟩ := h
  have hi : i < ops.size := by simpa using h1
  simp only [Bool.and_eq_true, Bool.not_eq_true'] at h2
  refine ⟨hi, h2.1, ops[i], Array.getElem?_eq_getElem hi, ?_⟩
  have h3 := h2.2
  rw [Array.getElem?_eq_getElem hi] at h3
  simp only [Option.map_some, Option.getD_some, Array.all_eq_true'] at h3
  intro e he k hk
  have hb := binds_edge e
  have hkon := hb.2 k hk
  subst hkon
  have := h3 e (by simpa using he)
  rw [(hb.1.2 hk)] at this
  simpa using this

theorem ready_of {ops : Array Oper} {listed : Array Bool} {i : Nat} {o : Oper} (hi : ops[i]? = some o) (hl : listed.getD i true = false)
    (he : ∀ e ∈ o.after.toList, ∀ k, edgeOn e = some k → listed.getD k false = true) : i ∈ Region.ready .any ops listed := by
  unfold Region.ready
  rw [List.mem_filter]
  have hlt : i < ops.size := (Array.getElem?_eq_some_iff.1 hi).1
  refine ⟨by simpa using hlt, ?_⟩
  rw [hi, hl]
  simp only [Bool.not_false, Option.map_some, Option.getD_some, Bool.true_and, Array.all_eq_true']
  intro e hee
  have hb := binds_edge e
  cases hbe : Region.binds .any e with
  | false => rfl
  | true => simpa using he e (by simpa using hee) _ (hb.1.1 hbe)

theorem getD_set {l : Array Bool} {i j : Nat} {d : Bool} (hi : i < l.size) : (l.setIfInBounds i true).getD j d = if j = i then true else l.getD j d := by
  simp only [Array.getD, Array.size_setIfInBounds]
  by_cases hj : j = i
  · subst hj
    simp [hi]
  · rw [if_neg hj]
    split
    · rename_i hlt
      show (l.setIfInBounds i true)[j]'(by simpa using hlt) = l[j]
      rw [Array.getElem_setIfInBounds (by simpa using hlt), if_neg (fun e => hj e.symm)]
    · rfl

theorem any_sound {cx : Cx} {ops : Array Oper} {base : Nat} {w0 : World} {W : Nat → Prop} {Q : Exit → Act → World → Prop} (hT : TabOK cx.P cx.tab) {tr : List (List Nat)} (hcomm : commOK tr ops.toList = true)
    {stF : St} : ∀ (fuel : Nat) (listed : Array Bool) (rem : List Nat) (st : St) (σ : Sg) (a : Act) (w : World), rem.length = fuel → rem.Pairwise (· < ·) → listed.size = ops.size →
      (∀ i, i ∈ rem ↔ i < ops.size ∧ listed.getD i true = false) →
      (∀ x, listed.getD x false = true → ∀ y, ((befs ops.toList []).getD x 0).testBit y = true → listed.getD y false = true) →
      Chain cx ops.toList base tr rem st stF → Avail ops.toList base rem st.h → Rep w0 W cx.ro σ st a w →
      (∀ a' w' σ', Sub σ σ' → Rep w0 W cx.ro σ' stF a' w' → Q .normal a' w') → wpAny cx.P .any ops Q fuel listed a w := by
  intro fuel
  induction fuel with
  | zero =>
    intro listed rem st σ a w hlen hsort hsz hmem hdc hc hav hr hq
    have : rem = [] := List.eq_nil_of_length_eq_zero hlen
    subst this
    cases hc
    refine ⟨?_, hq _ _ _ (Sub.refl _) hr⟩
    rw [List.eq_nil_iff_forall_not_mem]
    intro i hi
    obtain ⟨h1, h2, _⟩ := ready_facts hi
    exact absurd ((hmem i).2 ⟨h1, h2⟩) (by simp)
  | succ fuel ih =>
    intro listed rem st σ a w hlen hsort hsz hmem hdc hc hav hr hq
    have gd : ∀ k, k < ops.size → listed.getD k true = listed.getD k false := by
      intro k hk
      simp [Array.getD, hsz, hk]
    refine ⟨?_, ?_⟩
    · intro hnil
      exfalso
      cases rem with
      | nil => simp at hlen
      | cons i rest =>
        obtain ⟨h1, h2⟩ := (hmem i).1 (by simp)
        have hi : ops[i]? = some ops[i] := Array.getElem?_eq_getElem h1
        have hready : i ∈ Region.ready .any ops listed := by
          refine ready_of hi h2 fun e he k hk => ?_
          have hlt := (commOK_facts hcomm (by rw [Array.getElem?_toList]; exact hi)).1 e he k hk
          cases hb : listed.getD k false with
          | true => rfl
          | false =>
            exfalso
            have hk' : k ∈ i :: rest := (hmem k).2 ⟨by omega, by rw [gd k (by omega)]; exact hb⟩
            rcases List.mem_cons.1 hk' with rfl | hk'
            · omega
            · have := (List.pairwise_cons.1 hsort).1 k hk'; omega
        rw [hnil] at hready
        simp at hready
    · intro i hi
      obtain ⟨h1, h2, o, hio, hedges⟩ := ready_facts hi
      have hil : ops.toList[i]? = some o := by rw [Array.getElem?_toList]; exact hio
      have himem : i ∈ rem := (hmem i).2 ⟨h1, h2⟩
      obtain ⟨pre, post, rfl⟩ := List.append_of_mem himem
      have hnd : (pre ++ i :: post).Nodup := hsort.imp (fun h => Nat.ne_of_lt h)
      have hpre : ∀ j ∈ pre, j < i := by
        intro j hj
        exact (List.pairwise_append.1 hsort).2.2 j hj i (by simp)
      have hlive : ∀ x ∈ looks o.op, ∀ k, idOf (evO st.t x) = some k → hg st.h k ≠ none := by
        intro x _ k hk
        have hv := evO_sound hr.t x
        have : ∃ n, σ k = some n := by
          unfold idOf at hk
          split at hk
          · rename_i hx; cases hk; rw [hx] at hv; obtain ⟨b, hb, _⟩ := vptr hv; exact ⟨b, hb⟩
          · rename_i hx; cases hk; rw [hx] at hv; obtain ⟨b, hb, _⟩ := vptre hv; exact ⟨b, hb⟩
          · rename_i hx; cases hk; rw [hx] at hv; obtain ⟨b, hb, _⟩ := vsl hv; exact ⟨b, hb⟩
          · cases hk
        obtain ⟨n, hn⟩ := this
        have := (hr.h.live k n hn).2
        intro e
        rw [e] at this
        cases this
      obtain ⟨s1, hs, hc', _⟩ := front hil hc (fun j hj q hq' => by
        have hlt := hpre j hj
        refine ⟨by omega, ?_⟩
        rcases (commOK_facts hcomm hil).2 j q hq' hlt with hb | hb
        · exfalso
          have hjl : listed.getD j true = false := ((hmem j).1 (by simp [hj])).2
          obtain ⟨e, he, k, hk, hor⟩ := bef_bit hil hb
          have hkl := hedges e he k hk
          have : listed.getD j false = true := by
            rcases hor with rfl | hor
            · exact hkl
            · exact hdc k hkl j hor
          rw [gd j (by omega), this] at hjl
          cases hjl
        · exact hb) hnd hav hlive
      unfold wpOp
      rw [hio]
      refine op_sound hT hs hr (fun hsl => hav i o (by simp) hil hsl) ?_
      intro a' w' σ' hsub hr'
      have hsz' : i < listed.size := by omega
      refine ih _ (pre ++ post) s1 σ' a' w' ?_ ?_ (by simpa using hsz) ?_ ?_ hc' ?_ hr' (fun a2 w2 σ2 h2 hr2 => hq a2 w2 σ2 (hsub.trans h2) hr2)
      · simp at hlen ⊢; omega
      · refine hsort.sublist ?_
        exact List.Sublist.append (List.Sublist.refl _) (List.sublist_cons_self _ _)
      · intro j
        rw [getD_set hsz']
        have hm := hmem j
        have hnd' : i ∉ pre ++ post := by
          intro h
          have := List.nodup_append.1 hnd
          rcases List.mem_append.1 h with h | h
          · exact this.2.2 i h i (by simp) rfl
          · exact (List.nodup_cons.1 this.2.1).1 h
        by_cases hji : j = i
        · subst hji
          simp only [if_true]
          constructor
          · intro h; exact absurd h hnd'
          · rintro ⟨_, h⟩; cases h
        · rw [if_neg hji, ← hm]
          simp [hji]
      · intro x hx y hy
        rw [getD_set hsz'] at hx ⊢
        by_cases hyi : y = i
        · rw [if_pos hyi]
        · rw [if_neg hyi]
          by_cases hxi : x = i
          · subst hxi
            obtain ⟨e, he, k, hk, hor⟩ := bef_bit hil hy
            have hkl := hedges e he k hk
            rcases hor with rfl | hor
            · exact hkl
            · exact hdc k hkl y hor
          · rw [if_neg hxi] at hx
            exact hdc x hx y hy
      · refine hs.avail hil hav fun j hj => ?_
        have hnd' : i ∉ pre ++ post := by
          intro h
          have := List.nodup_append.1 hnd
          rcases List.mem_append.1 h with h | h
          · exact this.2.2 i h i (by simp) rfl
          · exact (List.nodup_cons.1 this.2.1).1 h
        refine ⟨?_, fun e => hnd' (e ▸ hj)⟩
        rcases List.mem_append.1 hj with h | h
        · exact List.mem_append.2 (.inl h)
        · exact List.mem_append.2 (.inr (List.mem_cons_of_mem _ h))

theorem Rep.drew {w0 : World} {W : Nat → Prop} {ro : Nat} {σ : Sg} {st : St} {a : Act} {w : World} (hr : Rep w0 W ro σ st a w) (n : Nat) : Rep w0 W ro σ st a { w with drawn := n } where
  defers := hr.defers
  t := hr.t
  h := ⟨hr.h.blk, hr.h.inj, hr.h.live⟩
  fr := ⟨hr.fr.os, hr.fr.tape, hr.fr.output, hr.fr.size, hr.fr.old, hr.fr.own⟩

theorem region_sound {cx : Cx} {rid : Nat} {ops : Array Oper} {draw : Bool} {w0 : World} {W : Nat → Prop} {Q : Exit → Act → World → Prop} (hT : TabOK cx.P cx.tab) (hmix : cx.P.follows .mixedOrders = true)
    {st : St} {κ : St → Out} {out : Out} {σ : Sg} {a : Act} {w : World} (h : evRegion cx ops draw st κ = out) (hg : out.good) (hr : Rep w0 W cx.ro σ st a w)
    (hq : ∀ st' σ' a' w', κ st' = out → Sub σ σ' → Rep w0 W cx.ro σ' st' a' w' → Q .normal a' w') : (Code.region rid ops draw).wp cx.P Q a w := by
  unfold evRegion at h
  have hid : ops.toList.drop 0 = ops.toList := rfl
  obtain ⟨st', tr, hc, hk, _⟩ := evList_good (base := st.h.length) hg ops.toList 0 _ [] hid rfl h
  have hlen : ops.toList.length = ops.size := by simp
  rw [← List.range_eq_range', hlen] at hc
  have hr1 := hr.pad (slotsL ops.toList)
  cases hb : (!draw || commOK tr ops.toList) with
  | false => rw [hb] at hk; simp only [cond_false] at hk; subst hk; exact hg.elim
  | true =>
    rw [hb] at hk
    simp only [cond_true] at hk
    cases draw with
    | false =>
      refine wp_region ?_
      exact chain_sound hT hc List.nodup_range (avail_init st.h _) hr1 (fun a' w' σ' hs hr' => hq st' σ' a' w' hk hs hr')
    | true =>
      have hcomm : commOK tr ops.toList = true := by simpa using hb
      refine wp_region_draw ?_
      intro t
      have hsch : Region.schedule (cx.P.follows .mixedOrders) ops t = Region.linearise .any ops t := by
        unfold Region.schedule
        rw [hmix]; rfl
      rw [hsch]
      unfold Region.linearise
      refine wpAny_sound ops.size t _ a _ ?_
      refine any_sound hT hcomm ops.size _ (List.range ops.size) ⟨st.t, st.h ++ List.replicate (slotsL ops.toList) none⟩ σ a _ (by simp) List.pairwise_lt_range (by simp) ?_ ?_ hc (avail_init st.h _) (hr1.drew _)
        (fun a' w' σ' hs hr' => hq st' σ' a' w' hk hs hr')
      · intro i
        simp only [List.mem_range]
        constructor
        · intro hi; exact ⟨hi, by simp [Array.getD, hi]⟩
        · exact fun hi => hi.1
      · intro x hx
        simp only [Array.getD, Array.size_replicate] at hx
        split at hx
        · simp at hx
        · cases hx
end Vx

/-
  An executor of Go code on values of its own: code; what code comes to; forgetting; contracts out of code.
-/
namespace Vx
open Go Go.RowKit

def Ex.toExit : Ex → Exit
  | .normal => .normal
  | .exit id => .exit id
  | .ret => .ret

section
variable {cx : Cx} {w0 : World} {W : Nat → Prop}

theorem ev_sound (hT : TabOK cx.P cx.tab) (hmix : cx.P.follows .mixedOrders = true) {out : Out} (hg : out.good) : ∀ (n : Nat),
    (∀ (c : Code) (st : St) (κ : Ex → St → Out) (Q : Exit → Act → World → Prop) (σ : Sg) (a : Act) (w : World), ev cx n c st κ = out → Rep w0 W cx.ro σ st a w →
      (∀ e st' σ' a' w', κ e st' = out → Sub σ σ' → Rep w0 W cx.ro σ' st' a' w' → Q e.toExit a' w') → c.wp cx.P Q a w) ∧
    (∀ (b : Code) (st : St) (κ : Ex → St → Out) (Q : Exit → Act → World → Prop) (σ : Sg) (a : Act) (w : World), ev cx n (.loop b) st κ = out → Rep w0 W cx.ro σ st a w →
      (∀ e st' σ' a' w', κ e st' = out → Sub σ σ' → Rep w0 W cx.ro σ' st' a' w' → Q e.toExit a' w') → Code.rounds cx.P b Q n a w) := by
  intro n
  induction n with
  | zero =>
    refine ⟨?_, ?_⟩
    · intro c st κ Q σ a w h; simp only [ev] at h; subst h; exact hg.elim
    · intro b st κ Q σ a w h; simp only [ev] at h; subst h; exact hg.elim
  | succ n ih =>
    obtain ⟨ihA, ihB⟩ := ih
    have hB : ∀ (b : Code) (st : St) (κ : Ex → St → Out) (Q : Exit → Act → World → Prop) (σ : Sg) (a : Act) (w : World), ev cx (n + 1) (.loop b) st κ = out → Rep w0 W cx.ro σ st a w →
      (∀ e st' σ' a' w', κ e st' = out → Sub σ σ' → Rep w0 W cx.ro σ' st' a' w' → Q e.toExit a' w') → Code.rounds cx.P b Q (n + 1) a w := by
      intro b st κ Q σ a w h hr hq
      simp only [ev] at h
      rw [rounds_succ]
      refine ihA b st _ _ σ a w h hr ?_
      intro e st' σ' a' w' hk hs hr'
      cases e with
      | normal => exact ihB b st' κ Q σ' a' w' hk hr' (fun e2 st2 σ2 a2 w2 h2 hs2 hr2 => hq e2 st2 σ2 a2 w2 h2 (hs.trans hs2) hr2)
      | exit id => exact hq _ st' σ' a' w' hk hs hr'
      | ret => exact hq _ st' σ' a' w' hk hs hr'
    refine ⟨?_, hB⟩
    intro c st κ Q σ a w h hr hq
    cases c with
    | skip =>
      simp only [ev] at h
      exact wp_skip (hq .normal st σ a w h (Sub.refl _) hr)
    | region rid ops draw =>
      simp only [ev] at h
      exact region_sound hT hmix h hg hr (fun st' σ' a' w' hk hs hr' => hq .normal st' σ' a' w' hk hs hr')
    | seq x y =>
      simp only [ev] at h
      refine wp_seq (ihA x st _ _ σ a w h hr ?_)
      intro e st' σ' a' w' hk hs hr'
      cases e with
      | normal => exact ihA y st' κ Q σ' a' w' hk hr' (fun e2 st2 σ2 a2 w2 h2 hs2 hr2 => hq e2 st2 σ2 a2 w2 h2 (hs.trans hs2) hr2)
      | exit id => exact hq _ st' σ' a' w' hk hs hr'
      | ret => exact hq _ st' σ' a' w' hk hs hr'
    | cond x y z =>
      simp only [ev] at h
      split at h
      · rename_i b hb
        have hv := evO_sound hr.t x
        rw [hb] at hv
        refine wp_cond (vbool hv) ?_
        cases b with
        | true => simp only [cond_true] at h; exact ihA y st κ Q σ a w h hr hq
        | false => simp only [cond_false] at h; exact ihA z st κ Q σ a w h hr hq
      · subst h; exact hg.elim
    | block id b =>
      simp only [ev] at h
      refine wp_block (ihA b st _ _ σ a w h hr ?_)
      intro e st' σ' a' w' hk hs hr'
      cases e with
      | normal => exact hq .normal st' σ' a' w' hk hs hr'
      | ret => exact hq .ret st' σ' a' w' hk hs hr'
      | exit j =>
        simp only [Ex.toExit, Exit.inBlock]
        by_cases hj : j = id
        · subst hj
          simp only [beq_self_eq_true, cond_true] at hk
          rw [if_pos rfl]
          exact hq .normal st' σ' a' w' hk hs hr'
        · have : (j == id) = false := by simpa using hj
          simp only [this, cond_false] at hk
          rw [if_neg hj]
          exact hq (.exit j) st' σ' a' w' hk hs hr'
    | loop b => exact wp_loop_rounds (n + 1) (hB b st κ Q σ a w h hr hq)
    | exit id =>
      simp only [ev] at h
      exact wp_exit (hq (.exit id) st σ a w h (Sub.refl _) hr)
    | ret =>
      simp only [ev] at h
      exact wp_ret (hq .ret st σ a w h (Sub.refl _) hr)
    | rangeFunc _ _ _ _ => simp only [ev] at h; subst h; exact hg.elim
    | scope _ => simp only [ev] at h; subst h; exact hg.elim
    | label _ => simp only [ev] at h; subst h; exact hg.elim
    | goto _ => simp only [ev] at h; subst h; exact hg.elim
    | refuse _ => simp only [ev] at h; subst h; exact hg.elim
end

/-- What code comes to, from a state: some exit, in some state. 'n0': so many blocks that came in. -/
def Runs (cx : Cx) (n0 : Nat) (c : Code) (st : St) (R : Ex → St → Prop) : Prop :=
  ∀ (w0 : World) (W : Nat → Prop) (σ0 σ : Sg) (a : Act) (w : World) (Q : Exit → Act → World → Prop), (∀ i b, σ0 i = some b → i < n0) → Sub σ0 σ → Rep w0 W cx.ro σ st a w →
    (∀ e st' σ' a' w', R e st' → Sub σ0 σ' → Rep w0 W cx.ro σ' st' a' w' → Q e.toExit a' w') → c.wp cx.P Q a w

structure Ok (cx : Cx) : Prop where
  tab : TabOK cx.P cx.tab
  mix : cx.P.follows .mixedOrders = true

def kdone : Ex → St → Out := fun e s => .done e s

theorem Runs.of_ev {cx : Cx} (hk : Ok cx) {n0 n : Nat} {c : Code} {st st' : St} {e : Ex} {R : Ex → St → Prop} (h : ev cx n c st kdone = .done e st') (hR : R e st') :
    Runs cx n0 c st R := by
  intro w0 W σ0 σ a w Q _ hs hr hq
  refine (ev_sound (w0 := w0) (W := W) hk.tab hk.mix (out := .done e st') trivial n).1 c st kdone Q σ a w h hr ?_
  intro e2 st2 σ2 a2 w2 h2 hs2 hr2
  cases h2
  exact hq e st' σ2 a2 w2 hR (hs.trans hs2) hr2

theorem Runs.mono {cx : Cx} {n0 : Nat} {c : Code} {st : St} {R R' : Ex → St → Prop} (h : Runs cx n0 c st R) (hi : ∀ e s, R e s → R' e s) : Runs cx n0 c st R' :=
  fun w0 W σ0 σ a w Q hn hs hr hq => h w0 W σ0 σ a w Q hn hs hr fun e s σ' a' w' hR => hq e s σ' a' w' (hi e s hR)

/-- A normal end goes on; another one stays. -/
def andThen (R : St → Prop) (R' : Ex → St → Prop) : Ex → St → Prop
  | .normal, s => R s
  | e, s => R' e s

theorem Runs.seq {cx : Cx} {n0 : Nat} {x y : Code} {st : St} {R : Ex → St → Prop} (h : Runs cx n0 x st (andThen (fun s => Runs cx n0 y s R) R)) : Runs cx n0 (.seq x y) st R := by
  intro w0 W σ0 σ a w Q hn hs hr hq
  refine wp_seq (h w0 W σ0 σ a w _ hn hs hr ?_)
  intro e st' σ' a' w' hR hs' hr'
  cases e with
  | normal => exact hR w0 W σ0 σ' a' w' Q hn hs' hr' hq
  | exit id => exact hq _ st' σ' a' w' hR hs' hr'
  | ret => exact hq _ st' σ' a' w' hR hs' hr'

def inBlk (id : Nat) (R : Ex → St → Prop) : Ex → St → Prop
  | .exit j, s => if j = id then R .normal s else R (.exit j) s
  | e, s => R e s

theorem Runs.block {cx : Cx} {n0 id : Nat} {b : Code} {st : St} {R : Ex → St → Prop} (h : Runs cx n0 b st (inBlk id R)) : Runs cx n0 (.block id b) st R := by
  intro w0 W σ0 σ a w Q hn hs hr hq
  refine wp_block (h w0 W σ0 σ a w _ hn hs hr ?_)
  intro e st' σ' a' w' hR hs' hr'
  cases e with
  | normal => exact hq .normal st' σ' a' w' hR hs' hr'
  | ret => exact hq .ret st' σ' a' w' hR hs' hr'
  | exit j =>
    simp only [Ex.toExit, Exit.inBlock]
    simp only [inBlk] at hR
    by_cases hj : j = id
    · rw [if_pos hj] at hR ⊢
      exact hq .normal st' σ' a' w' hR hs' hr'
    · rw [if_neg hj] at hR ⊢
      exact hq (.exit j) st' σ' a' w' hR hs' hr'

/-- A loop, by what holds at the head of each round, with a number that goes down. -/
theorem Runs.loop {cx : Cx} {n0 : Nat} {b : Code} {R : Ex → St → Prop} (I : Nat → St → Prop)
    (hround : ∀ m s, I m s → Runs cx n0 b s (andThen (fun s' => ∃ m', m' < m ∧ I m' s') R)) : ∀ (m : Nat) (st : St), I m st → Runs cx n0 (.loop b) st R := by
  intro m st hI w0 W σ0 σ a w Q hn hs hr hq
  refine wp_loop (fun a w => ∃ m s σ, I m s ∧ Sub σ0 σ ∧ Rep w0 W cx.ro σ s a w) (fun a w => Classical.epsilon fun m => ∃ s σ, I m s ∧ Sub σ0 σ ∧ Rep w0 W cx.ro σ s a w ∧
      ∀ m', (∃ s σ, I m' s ∧ Sub σ0 σ ∧ Rep w0 W cx.ro σ s a w) → m ≤ m') ⟨m, st, σ, hI, hs, hr⟩ ?_
  intro a w hex
  -- the least number
  have hleast : ∃ m s σ, I m s ∧ Sub σ0 σ ∧ Rep w0 W cx.ro σ s a w ∧ ∀ m', (∃ s σ, I m' s ∧ Sub σ0 σ ∧ Rep w0 W cx.ro σ s a w) → m ≤ m' := by
    obtain ⟨m, hm⟩ := hex
    induction m using Nat.strongRecOn with
    | _ m ih =>
      by_cases h : ∃ m', m' < m ∧ ∃ s σ, I m' s ∧ Sub σ0 σ ∧ Rep w0 W cx.ro σ s a w
      · obtain ⟨m', hlt, h'⟩ := h
        exact ih m' hlt h'
      · obtain ⟨s, σ, h1, h2, h3⟩ := hm
        refine ⟨m, s, σ, h1, h2, h3, fun m' hm' => ?_⟩
        rcases Nat.lt_or_ge m' m with hlt | hge
        · exact absurd ⟨m', hlt, hm'⟩ h
        · exact hge
  have hspec := Classical.epsilon_spec hleast
  generalize hmu : (Classical.epsilon fun m => ∃ s σ, I m s ∧ Sub σ0 σ ∧ Rep w0 W cx.ro σ s a w ∧ ∀ m', (∃ s σ, I m' s ∧ Sub σ0 σ ∧ Rep w0 W cx.ro σ s a w) → m ≤ m') = μ at hspec
  obtain ⟨s, σ1, h1, h2, h3, h4⟩ := hspec
  refine hround μ s h1 w0 W σ0 σ1 a w _ hn h2 h3 ?_
  intro e st' σ' a' w' hR hs' hr'
  cases e with
  | normal =>
    obtain ⟨m', hlt, hI'⟩ := hR
    refine ⟨⟨m', st', σ', hI', hs', hr'⟩, ?_⟩
    have hex' : ∃ m s σ, I m s ∧ Sub σ0 σ ∧ Rep w0 W cx.ro σ s a' w' ∧ ∀ m'', (∃ s σ, I m'' s ∧ Sub σ0 σ ∧ Rep w0 W cx.ro σ s a' w') → m ≤ m'' := by
      have hm : ∃ s σ, I m' s ∧ Sub σ0 σ ∧ Rep w0 W cx.ro σ s a' w' := ⟨st', σ', hI', hs', hr'⟩
      clear hlt hI'
      induction m' using Nat.strongRecOn with
      | _ m ih =>
        by_cases h : ∃ m', m' < m ∧ ∃ s σ, I m' s ∧ Sub σ0 σ ∧ Rep w0 W cx.ro σ s a' w'
        · obtain ⟨m', hlt, h'⟩ := h
          exact ih m' hlt h'
        · obtain ⟨s, σ, h1, h2, h3⟩ := hm
          refine ⟨m, s, σ, h1, h2, h3, fun m' hm' => ?_⟩
          rcases Nat.lt_or_ge m' m with hlt | hge
          · exact absurd ⟨m', hlt, hm'⟩ h
          · exact hge
    have hspec' := Classical.epsilon_spec hex'
    obtain ⟨_, _, _, _, _, h5⟩ := hspec'
    have := h5 m' ⟨st', σ', hI', hs', hr'⟩
    omega
  | exit id => exact hq _ st' σ' a' w' hR hs' hr'
  | ret => exact hq _ st' σ' a' w' hR hs' hr'
end Vx

/-
  An executor of Go code on values of its own: forgetting; contracts out of code.
-/
namespace Vx
open Go Go.RowKit

def okL (keep : Nat → Bool) : L → Bool
  | .ptr id _ => keep id
  | .ptre id _ _ _ => keep id
  | .sl id _ _ _ => keep id
  | _ => true

def okP (keep : Nat → Bool) : List L → Bool
  | [] => true
  | l :: ls => okL keep l && okP keep ls

def okC (keep : Nat → Bool) : C → Bool
  | .ps l => okP keep l
  | .big .. => true

def okU (keep : Nat → Bool) : U → Bool
  | .one l => okL keep l
  | .ag c => okC keep c

def okUs (keep : Nat → Bool) : List U → Bool
  | [] => true
  | u :: us => okU keep u && okUs keep us

def okV (keep : Nat → Bool) : V → Bool
  | .junk => true
  | .u x => okU keep x
  | .tup xs => okUs keep xs

def fgT (kt : List Nat) : Nat → List V → List V
  | _, [] => []
  | i, v :: l => (match kt.contains i with
    | true => v
    | false => .junk) :: fgT kt (i + 1) l

def fgH (keep : Nat → Bool) : Nat → Nat → Hp → Hp
  | _, _, [] => []
  | 0, _, _ => []
  | m + 1, i, b :: l => (match keep i with
    | true => b
    | false => none) :: fgH keep m (i + 1) l

def okTs (keep : Nat → Bool) : List V → Bool
  | [] => true
  | v :: l => okV keep v && okTs keep l

def okHs (keep : Nat → Bool) : Hp → Bool
  | [] => true
  | none :: l => okHs keep l
  | some b :: l => okC keep b.c && okHs keep l

def keepId (n0 : Nat) (kh : List Nat) (i : Nat) : Bool := Nat.blt i n0 || kh.contains i

def allLt (m : Nat) : List Nat → Bool
  | [] => true
  | k :: l => Nat.blt k m && allLt m l

/-- Of a state only some slots and some blocks; those that came in stay. -/
def forget (n0 : Nat) (kt kh : List Nat) (m : Nat) (s : St) : Option St :=
  let k := keepId n0 kh
  let t := fgT kt 0 s.t
  let h := fgH k m 0 s.h
  match okTs k t && okHs k h && allLt m kh && Nat.ble n0 m with
  | true => some ⟨t, h⟩
  | false => none

section
variable {σ τ : Sg} {kp : Nat → Bool}

theorem LRel.keep (hk : ∀ i, kp i = true → τ i = σ i) {l : L} {xs : List Value} (ho : okL kp l = true) (h : LRel σ l xs) : LRel τ l xs := by
  cases l with
  | ptr id off => obtain ⟨b, hb, e⟩ := h; exact ⟨b, (hk id ho).trans hb, e⟩
  | ptre id s i r => obtain ⟨b, hb, e⟩ := h; exact ⟨b, (hk id ho).trans hb, e⟩
  | sl id off n c => obtain ⟨b, hb, e⟩ := h; exact ⟨b, (hk id ho).trans hb, e⟩
  | _ => exact h

theorem PRel.keep (hk : ∀ i, kp i = true → τ i = σ i) : ∀ {l : List L} {xs : List Value}, okP kp l = true → PRel σ l xs → PRel τ l xs
  | [], _, _, h => h
  | _ :: _, _, ho, ⟨ys, zs, e, h1, h2⟩ => by
    simp only [okP, Bool.and_eq_true] at ho
    exact ⟨ys, zs, e, h1.keep hk ho.1, PRel.keep hk ho.2 h2⟩

theorem flat_ok : ∀ {l : List L}, flatL l = true → okP kp l = true
  | [], _ => rfl
  | x :: l, h => by
    simp only [flatL, Bool.and_eq_true] at h
    simp only [okP, Bool.and_eq_true]
    refine ⟨?_, flat_ok h.2⟩
    cases x <;> first | rfl | (simp [L.flat] at h)

theorem CRel.keep (hk : ∀ i, kp i = true → τ i = σ i) {c : C} {xs : List Value} (ho : okC kp c = true) (h : CRel σ c xs) : CRel τ c xs := by
  cases c with
  | ps l => exact PRel.keep hk ho h
  | big s c f => exact ⟨h.1, fun i hi => ⟨PRel.keep hk (flat_ok (h.2 i hi).2) (h.2 i hi).1, (h.2 i hi).2⟩⟩

theorem URel.keep (hk : ∀ i, kp i = true → τ i = σ i) {u : U} {x : Value} (ho : okU kp u = true) (h : URel σ u x) : URel τ u x := by
  cases u with
  | one l => exact ⟨h.1, h.2.keep hk ho⟩
  | ag c => obtain ⟨xs, e, hc⟩ := h; exact ⟨xs, e, hc.keep hk ho⟩

theorem VRel.keep (hk : ∀ i, kp i = true → τ i = σ i) {v : V} {x : Value} (ho : okV kp v = true) (h : VRel σ v x) : VRel τ v x := by
  cases v with
  | junk => trivial
  | u y => exact URel.keep hk ho h
  | tup ys =>
    obtain ⟨xs, e, ha⟩ := h
    refine ⟨xs, e, ?_⟩
    clear e
    simp only [okV] at ho
    induction ha with
    | nil => exact .nil
    | cons h1 _ ih =>
      simp only [okUs, Bool.and_eq_true] at ho
      exact .cons (URel.keep hk ho.1 h1) (ih ho.2)

theorem gl_cons_zero (v : V) (l : List V) : gl (v :: l) 0 = v := rfl
theorem gl_cons_succ (v : V) (l : List V) (i : Nat) : gl (v :: l) (i + 1) = gl l i := rfl
theorem gl_nil (i : Nat) : gl [] i = undefV := rfl

theorem fgT_len (kt : List Nat) : ∀ (i : Nat) (l : List V), (fgT kt i l).length = l.length
  | _, [] => rfl
  | i, _ :: l => by simp [fgT, fgT_len kt (i + 1) l]

theorem fgT_get (kt : List Nat) : ∀ (l : List V) (i j : Nat), gl (fgT kt i l) j = gl l j ∨ gl (fgT kt i l) j = .junk
  | [], _, _ => .inl rfl
  | v :: l, i, 0 => by
    simp only [fgT, gl_cons_zero]
    split
    · exact .inl rfl
    · exact .inr rfl
  | v :: l, i, j + 1 => by
    simp only [fgT, gl_cons_succ]
    exact fgT_get kt l (i + 1) j

theorem okTs_get : ∀ (l : List V) (j : Nat), okTs kp l = true → okV kp (gl l j) = true
  | [], _, _ => rfl
  | v :: l, 0, h => by simp only [okTs, Bool.and_eq_true] at h; exact h.1
  | v :: l, j + 1, h => by
    simp only [okTs, Bool.and_eq_true] at h
    exact okTs_get l j h.2

theorem hg_cons_zero (b : Option Blk) (l : Hp) : hg (b :: l) 0 = b := rfl
theorem hg_cons_succ (b : Option Blk) (l : Hp) (i : Nat) : hg (b :: l) (i + 1) = hg l i := rfl

theorem fgH_get : ∀ (h : Hp) (m i j : Nat), hg (fgH kp m i h) j = if j < m ∧ kp (i + j) = true then hg h j else none
  | [], m, i, j => by cases m <;> (simp [fgH, hg])
  | b :: l, 0, i, j => by simp [fgH, hg]
  | b :: l, m + 1, i, 0 => by
    simp only [fgH, hg_cons_zero, Nat.add_zero]
    split
    · rename_i hk; simp [hk]
    · rename_i hk; simp [hk]
  | b :: l, m + 1, i, j + 1 => by
    simp only [fgH, hg_cons_succ]
    rw [fgH_get l m (i + 1) j]
    have : i + 1 + j = i + (j + 1) := by omega
    rw [this]
    simp

theorem okHs_get : ∀ (h : Hp) (j : Nat) (b : Blk), okHs kp h = true → hg h j = some b → okC kp b.c = true
  | [], j, b, _, h => by cases h
  | none :: l, 0, b, _, h => by cases h
  | none :: l, j + 1, b, ho, h => okHs_get l j b ho h
  | some c :: l, 0, b, ho, h => by
    simp only [okHs, Bool.and_eq_true] at ho
    cases h
    exact ho.1
  | some c :: l, j + 1, b, ho, h => by
    simp only [okHs, Bool.and_eq_true] at ho
    exact okHs_get l j b ho.2 h
end

theorem blt_iff {a b : Nat} : Nat.blt a b = true ↔ a < b := by simp [Nat.blt_eq]

theorem allLt_mem {m : Nat} : ∀ {l : List Nat}, allLt m l = true → ∀ k ∈ l, k < m
  | [], _, k, h => by simp at h
  | x :: l, h, k, hk => by
    simp only [allLt, Bool.and_eq_true, blt_iff] at h
    rcases List.mem_cons.1 hk with rfl | hk
    · exact h.1
    · exact allLt_mem h.2 k hk

theorem Rep.forget {w0 : World} {W : Nat → Prop} {ro n0 : Nat} {kt kh : List Nat} {m : Nat} {σ0 σ : Sg} {st st' : St} {a : Act} {w : World} (h : forget n0 kt kh m st = some st')
    (hn : ∀ i b, σ0 i = some b → i < n0) (hs : Sub σ0 σ) (hr : Rep w0 W ro σ st a w) : ∃ σ', Sub σ0 σ' ∧ Rep w0 W ro σ' st' a w := by
  unfold Vx.forget at h
  simp only at h
  split at h
  · rename_i hok
    cases h
    simp only [Bool.and_eq_true] at hok
    obtain ⟨⟨⟨h1, h2⟩, h3⟩, h4⟩ := hok
    have h4' : n0 ≤ m := Nat.le_of_ble_eq_true h4
    have hlt : ∀ i, keepId n0 kh i = true → i < m := by
      intro i hi
      simp only [keepId, Bool.or_eq_true, blt_iff] at hi
      rcases hi with hi | hi
      · omega
      · exact allLt_mem h3 i (by simpa using hi)
    refine ⟨fun i => if keepId n0 kh i then σ i else none, ?_, ?_⟩
    · intro i b hi
      have : keepId n0 kh i = true := by simp only [keepId, Bool.or_eq_true, blt_iff]; exact .inl (hn i b hi)
      simp only [this, if_true]
      exact hs i b hi
    · have hk : ∀ i, keepId n0 kh i = true → (fun i => if keepId n0 kh i then σ i else none) i = σ i := by
        intro i hi; simp only [hi, if_true]
      refine ⟨hr.defers, ?_, ?_, ?_⟩
      · refine ⟨by simp only [fgT_len]; exact hr.t.1, ?_⟩
        intro i
        have hv := hr.t.2 i
        have ho := okTs_get _ i h1
        rcases fgT_get kt st.t 0 i with e | e
        · rw [e] at ho ⊢
          exact VRel.keep hk ho hv
        · simp only [e]; trivial
      · refine ⟨?_, ?_, ?_⟩
        · intro id b hb
          have ho := okHs_get _ id b h2 hb
          simp only [fgH_get, Nat.zero_add] at hb
          split at hb
          · rename_i hc
            obtain ⟨n, xs, e1, e2, e3⟩ := hr.h.blk id b hb
            exact ⟨n, xs, by show (if keepId n0 kh id = true then σ id else none) = some n; rw [if_pos hc.2]; exact e1, e2, CRel.keep hk ho e3⟩
          · cases hb
        · intro i j n hro hi hj
          split at hi
          · split at hj
            · exact hr.h.inj i j n hro hi hj
            · cases hj
          · cases hi
        · intro i n hi
          split at hi
          · rename_i hc
            obtain ⟨e1, e2⟩ := hr.h.live i n hi
            refine ⟨e1, ?_⟩
            simp only [fgH_get, Nat.zero_add]
            rw [if_pos ⟨hlt i hc, hc⟩]
            exact e2
          · cases hi
      · refine hr.fr.sub ?_
        intro i b hi
        split at hi
        · exact .inl hi
        · cases hi
  · cases h

theorem Runs.forget {cx : Cx} {n0 : Nat} {kt kh : List Nat} {m : Nat} {st st' : St} {c : Code} {R : Ex → St → Prop} (h : forget n0 kt kh m st = some st') (hr : Runs cx n0 c st' R) :
    Runs cx n0 c st R := by
  intro w0 W σ0 σ a w Q hn hs hrep hq
  obtain ⟨σ', h1, h2⟩ := Rep.forget h hn hs hrep
  exact hr w0 W σ0 σ' a w Q hn h1 h2 hq

/-- The parts of a sequence. -/
def items : Code → List Code
  | .seq a b => items a ++ items b
  | c => [c]

def RunsL (cx : Cx) (n0 : Nat) : List Code → St → (Ex → St → Prop) → Prop
  | [], st, R => ∀ (w0 : World) (W : Nat → Prop) (σ0 σ : Sg) (a : Act) (w : World) (q : Prop), (∀ i b, σ0 i = some b → i < n0) → Sub σ0 σ → Rep w0 W cx.ro σ st a w →
      (∀ st' σ' , R .normal st' → Sub σ0 σ' → Rep w0 W cx.ro σ' st' a w → q) → q
  | c :: l, st, R => Runs cx n0 c st (andThen (fun s => RunsL cx n0 l s R) R)

theorem RunsL.skip {cx : Cx} {n0 : Nat} {st : St} {R : Ex → St → Prop} (h : RunsL cx n0 [] st R) : Runs cx n0 .skip st R := by
  intro w0 W σ0 σ a w Q hn hs hr hq
  refine wp_skip ?_
  exact h w0 W σ0 σ a w _ hn hs hr fun st' σ' hR hs' hr' => hq .normal st' σ' a w hR hs' hr'

theorem RunsL.append {cx : Cx} {n0 : Nat} : ∀ {l m : List Code} {st : St} {R : Ex → St → Prop}, RunsL cx n0 l st (andThen (fun s => RunsL cx n0 m s R) R) → RunsL cx n0 (l ++ m) st R
  | [], m, st, R, h => by
    cases m with
    | nil =>
      intro w0 W σ0 σ a w q hn hs hr hq
      refine h w0 W σ0 σ a w q hn hs hr ?_
      intro st' σ' hR hs' hr'
      exact hR w0 W σ0 σ' a w q hn hs' hr' hq
    | cons c m =>
      intro w0 W σ0 σ a w Q hn hs hr hq
      refine h w0 W σ0 σ a w _ hn hs hr ?_
      intro st' σ' hR hs' hr'
      exact hR w0 W σ0 σ' a w Q hn hs' hr' hq
  | c :: l, m, st, R, h => by
    simp only [List.cons_append]
    refine Runs.mono (h : Runs cx n0 c st _) ?_
    intro e s hes
    cases e with
    | normal => exact RunsL.append hes
    | exit id => exact hes
    | ret => exact hes

theorem Runs.items {cx : Cx} {n0 : Nat} : ∀ (c : Code) (st : St) (R : Ex → St → Prop), RunsL cx n0 (Vx.items c) st R → Runs cx n0 c st R := by
  have one : ∀ {c : Code} {st : St} {R : Ex → St → Prop}, RunsL cx n0 [c] st R → Runs cx n0 c st R := by
    intro c st R h w0 W σ0 σ a w Q hn hs hr hq
    refine (h : Runs cx n0 c st _) w0 W σ0 σ a w _ hn hs hr ?_
    intro e s σ' a' w' hes hs' hr'
    cases e with
    | normal =>
      refine hes w0 W σ0 σ' a' w' _ hn hs' hr' ?_
      intro st' σ2 hR hs2 hr2
      exact hq .normal st' σ2 a' w' hR hs2 hr2
    | exit id => exact hq _ s σ' a' w' hes hs' hr'
    | ret => exact hq _ s σ' a' w' hes hs' hr'
  have split : ∀ {l m : List Code} {st : St} {R : Ex → St → Prop}, RunsL cx n0 (l ++ m) st R → RunsL cx n0 l st (andThen (fun s => RunsL cx n0 m s R) R) := by
    intro l
    induction l with
    | nil =>
      intro m st R h w0 W σ0 σ a w q hn hs hr hq
      exact hq st σ h hs hr
    | cons c l ih =>
      intro m st R h
      refine Runs.mono (h : Runs cx n0 c st _) ?_
      intro e s hes
      cases e with
      | normal => exact ih hes
      | exit id => exact hes
      | ret => exact hes
  intro c
  induction c with
  | seq x y ihx ihy =>
    intro st R h
    refine Runs.seq (ihx _ _ (RunsL_mono (split h) ?_))
    intro e s hes
    cases e with
    | normal => exact ihy _ _ hes
    | exit id => exact hes
    | ret => exact hes
  | _ => intro st R h; exact one h
  where
  RunsL_mono {cx : Cx} {n0 : Nat} : ∀ {l : List Code} {st : St} {R R' : Ex → St → Prop}, RunsL cx n0 l st R → (∀ e s, R e s → R' e s) → RunsL cx n0 l st R'
    | [], _, _, _, h, hi => fun w0 W σ0 σ a w q hn hs hr hq => h w0 W σ0 σ a w q hn hs hr fun st' σ' hR => hq st' σ' (hi _ _ hR)
    | _ :: _, _, _, _, h, hi => Runs.mono h fun e s hes => by
      cases e with
      | normal => exact RunsL_mono hes hi
      | exit id => exact hi _ _ hes
      | ret => exact hi _ _ hes

noncomputable def evL (cx : Cx) (n : Nat) : List Code → St → (Ex → St → Out) → Out
  | [], st, κ => κ .normal st
  | c :: l, st, κ => ev cx n c st fun e s => match e with
    | .normal => evL cx n l s κ
    | e => κ e s

/-- The end of a run, of which only some is kept. -/
noncomputable def kfg (n0 : Nat) (kt kh : List Nat) (m : Nat) : Ex → St → Out := fun e s =>
  match forget n0 kt kh m s with
  | some s' => .done e s'
  | none => .fail 11

theorem evL_sound {cx : Cx} (hk : Ok cx) {n0 n : Nat} {out : Out} (hg : out.good) : ∀ {l : List Code} {st : St} {κ : Ex → St → Out} {R : Ex → St → Prop}, evL cx n l st κ = out →
    (∀ e s, κ e s = out → RunsL cx n0 [] s (fun _ s' => R e s')) → RunsL cx n0 l st R
  | [], st, κ, R, h, hR => by
    intro w0 W σ0 σ a w q hn hs hr hq
    exact hR .normal st h w0 W σ0 σ a w q hn hs hr hq
  | c :: l, st, κ, R, h, hR => by
    intro w0 W σ0 σ a w Q hn hs hr hq
    refine (ev_sound (w0 := w0) (W := W) hk.tab hk.mix hg n).1 c st _ Q σ a w h hr ?_
    intro e s σ' a' w' hκ hs' hr'
    cases e with
    | normal => exact hq .normal s σ' a' w' (evL_sound hk hg (l := l) hκ hR) (hs.trans hs') hr'
    | exit id =>
      refine hR (.exit id) s hκ w0 W σ0 σ' a' w' _ hn (hs.trans hs') hr' ?_
      intro st' σ2 h2 hs2 hr2
      exact hq (.exit id) st' σ2 a' w' h2 hs2 hr2
    | ret =>
      refine hR .ret s hκ w0 W σ0 σ' a' w' _ hn (hs.trans hs') hr' ?_
      intro st' σ2 h2 hs2 hr2
      exact hq .ret st' σ2 a' w' h2 hs2 hr2

/-- The first parts are run by the executor, what they leave is forgotten but for some; then the rest. -/
theorem RunsL.pre {cx : Cx} (hk : Ok cx) {n0 n k : Nat} {kt kh : List Nat} {m : Nat} {l : List Code} {st st' : St} {e : Ex} {R : Ex → St → Prop}
    (h : evL cx n (l.take k) st (kfg n0 kt kh m) = .done e st') (hR : andThen (fun s => RunsL cx n0 (l.drop k) s R) R e st') : RunsL cx n0 l st R := by
  rw [← List.take_append_drop k l]
  refine RunsL.append (evL_sound hk (out := .done e st') trivial h ?_)
  intro e2 s hκ w0 W σ0 σ a w q hn hs hr hq
  unfold kfg at hκ
  split at hκ
  · rename_i s' hf
    cases hκ
    obtain ⟨σ', h1, h2⟩ := Rep.forget hf hn hs hr
    exact hq st' σ' hR h1 h2
  · cases hκ

theorem RunsL.nil {cx : Cx} {n0 : Nat} {st : St} {R : Ex → St → Prop} (h : R .normal st) : RunsL cx n0 [] st R :=
  fun _ _ _ σ _ _ _ _ hs hr hq => hq st σ h hs hr
end Vx

/-
  An executor of Go code on values of its own: contracts out of code.
-/
namespace Vx
open Go Go.RowKit

def mapL (base : Nat) : L → L
  | .ptr _ off => .ptr base off
  | .ptre _ s i r => .ptre base s i r
  | .sl _ off n c => .sl base off n c
  | l => l

def mapP (base : Nat) : List L → List L
  | [] => []
  | l :: ls => mapL base l :: mapP base ls

def mapU (base : Nat) : U → U
  | .one l => .one (mapL base l)
  | .ag (.ps l) => .ag (.ps (mapP base l))
  | .ag c => .ag c

def mapUs (base : Nat) : List U → List U
  | [] => []
  | u :: us => mapU base u :: mapUs base us

def mapV (base : Nat) : V → V
  | .junk => .junk
  | .u x => .u (mapU base x)
  | .tup xs => .tup (mapUs base xs)

def no1 : Nat → Bool := fun _ => false
def flatV (v : V) : Bool := okV no1 v
def flatC (c : C) : Bool := okC no1 c

def idL : List L → Option Nat
  | [] => none
  | .ptr id _ :: _ => some id
  | .ptre id _ _ _ :: _ => some id
  | .sl id _ _ _ :: _ => some id
  | _ :: ls => idL ls

def idU : U → Option Nat
  | .one l => idL [l]
  | .ag (.ps l) => idL l
  | .ag (.big ..) => none

def idUs : List U → Option Nat
  | [] => none
  | u :: us => match idU u with
    | some i => some i
    | none => idUs us

def idV : V → Option Nat
  | .junk => none
  | .u x => idU x
  | .tup xs => idUs xs

/-- What a call answers: a value that leads nowhere, or to one new block, which has the number 'base' from then on. -/
noncomputable def kres (cx : Cx) (fn : Func) (base : Nat) : Ex → St → Out := fun e s =>
  match e with
  | .exit _ => .fail 20
  | _ => match evRes cx.P fn s with
    | none => .fail 21
    | some v => match idV v with
      | none => match flatV v with
        | true => .done .ret ⟨[v], []⟩
        | false => .fail 22
      | some k => match hg s.h k with
        | none => .fail 23
        | some b => match Nat.ble cx.ro k && flatC b.c && okV (Nat.beq k) v with
          | true => .done .ret ⟨[mapV base v], [some b]⟩
          | false => .fail 24

def VEnt (v v' : V) : Prop := ∀ σ x, VRel σ v x → VRel σ v' x
def CEnt (c c' : C) : Prop := ∀ σ xs, CRel σ c xs → CRel σ c' xs

theorem VEnt.refl (v : V) : VEnt v v := fun _ _ h => h
theorem CEnt.refl (v : C) : CEnt v v := fun _ _ h => h

def BEnt : List Blk → List Blk → Prop
  | [], [] => True
  | [b], [b'] => b.elem = b'.elem ∧ CEnt b.c b'.c
  | _, _ => False

/-- What a run of a function's body comes to. -/
def Post (cx : Cx) (fn : Func) (base : Nat) (v : V) (bs : List Blk) : Ex → St → Prop := fun e s =>
  ∃ v0 bs0, kres cx fn base e s = .done .ret ⟨[v0], bs0.map some⟩ ∧ VEnt v0 v ∧ BEnt bs0 bs

def renA : List (V × Option Blk) → Nat → List V
  | [], _ => []
  | (v, none) :: l, k => v :: renA l k
  | (v, some _) :: l, k => mapV k v :: renA l (k + 1)

def blks : List (V × Option Blk) → List Blk
  | [] => []
  | (_, none) :: l => blks l
  | (_, some b) :: l => b :: blks l

def flatA : List (V × Option Blk) → Bool
  | [] => true
  | (v, none) :: l => flatV v && flatA l
  | (_, some b) :: l => flatC b.c && flatA l

def tau (k : Nat) (ns : List Nat) : Sg := fun i => if i < k then none else ns[i - k]?

theorem tau_sub (k n : Nat) (ns : List Nat) : Sub (tau (k + 1) ns) (tau k (n :: ns)) := by
  intro i b h
  unfold tau at h ⊢
  by_cases h1 : i < k + 1
  · rw [if_pos h1] at h; cases h
  · rw [if_neg h1] at h
    rw [if_neg (by omega)]
    obtain ⟨m, hm⟩ : ∃ m, i - k = m + 1 := ⟨i - k - 1, by omega⟩
    rw [hm, List.getElem?_cons_succ]
    have : m = i - (k + 1) := by omega
    rw [this]; exact h

theorem VRel.flat {σ τ : Sg} {v : V} {x : Value} (hf : flatV v = true) (h : VRel σ v x) : VRel τ v x :=
  VRel.keep (kp := no1) (fun _ h => by cases h) hf h

theorem CRel.flat {σ τ : Sg} {v : C} {x : List Value} (hf : flatC v = true) (h : CRel σ v x) : CRel τ v x :=
  CRel.keep (kp := no1) (fun _ h => by cases h) hf h

theorem args_ren {w : World} {σ : Sg} : ∀ {args : List (V × Option Blk)} {vals : List Value} (k : Nat), All2 (ArgRel σ w) args vals → flatA args = true →
    ∃ ns : List Nat, ns.length = (blks args).length ∧
      (∀ (i : Nat) (b : Blk), (blks args)[i]? = some b → ∃ (n : Nat) (xs : List Value), ns[i]? = some n ∧ w.heap[n]? = some (.cells xs.toArray b.elem (0, 0)) ∧ CRel (tau k ns) b.c xs ∧ n < w.heap.size) ∧
      All2 (VRel (tau k ns)) (renA args k) vals
  | [], _, k, .nil, _ => ⟨[], rfl, fun i b h => by simp [blks] at h, .nil⟩
  | (v, none) :: l, _, k, .cons ha hl, hf => by
    simp only [flatA, Bool.and_eq_true] at hf
    obtain ⟨ns, h1, h2, h3⟩ := args_ren k hl hf.2
    exact ⟨ns, h1, h2, .cons (ha.1.flat hf.1) h3⟩
  | (v, some b) :: l, _, k, .cons ha hl, hf => by
    simp only [flatA, Bool.and_eq_true] at hf
    obtain ⟨ns, h1, h2, h3⟩ := args_ren (k + 1) hl hf.2
    obtain ⟨hv, hb⟩ := ha
    cases hid : idOf v with
    | none => simp only [hid] at hb; cases hb
    | some id =>
      simp only [hid] at hb
      obtain ⟨b', n, xs, e, hn, hg, hc, hlt⟩ := hb
      cases e
      refine ⟨n :: ns, by simp [blks, h1], ?_, ?_⟩
      · intro i b' hi
        simp only [blks] at hi
        cases i with
        | zero =>
          simp only [List.getElem?_cons_zero, Option.some.injEq] at hi
          subst hi
          exact ⟨n, xs, rfl, hg, hc.flat hf.1, hlt⟩
        | succ i =>
          simp only [List.getElem?_cons_succ] at hi ⊢
          obtain ⟨m, ys, e1, e2, e3, e4⟩ := h2 i b' hi
          exact ⟨m, ys, e1, e2, e3.mono (tau_sub k n ns), e4⟩
      · refine .cons ?_ (h3.imp fun _ _ h => h.mono (tau_sub k n ns))
        have hk : tau k (n :: ns) k = some n := by simp [tau]
        unfold idOf at hid
        split at hid
        · cases hid
          obtain ⟨b0, hb0, rfl⟩ := vptr hv
          rw [hn] at hb0; cases hb0
          exact mk_ptr hk
        · cases hid
          obtain ⟨b0, hb0, rfl⟩ := vptre hv
          rw [hn] at hb0; cases hb0
          exact mk_ptre hk
        · cases hid
          obtain ⟨b0, hb0, rfl⟩ := vsl hv
          rw [hn] at hb0; cases hb0
          exact mk_sl hk
        · cases hid

theorem hg_map (bs : List Blk) (i : Nat) : hg (bs.map some) i = bs[i]? := by
  unfold hg
  rw [List.getD_eq_getElem?_getD, List.getElem?_map]
  cases bs[i]? <;> rfl

section
variable {P : Program}

def resF (tm : Array Value) : ResultVar → Sem Value
  | .tmp t => pure (tm.getD t undef)
  | .cell b t => do loadVar t (← asAddr (tm.getD b undef))

theorem results_eq (fn : Func) (tm : Array Value) : results fn tm = (do
    let vs ← fn.results.mapM (resF tm)
    pure (if h : vs.size = 1 then vs[0] else .tuple vs)) := by
  unfold results
  have : (fun r : ResultVar => (match r with
    | .tmp t => pure (tm.getD t undef)
    | .cell a t => do loadVar t (← asAddr (tm.getD a undef)) : Sem Value)) = resF tm := by
    funext r; cases r <;> rfl
  rw [← this]
  rfl

theorem run_results {fn : Func} {st : St} {a : Act} {w : World} {σ : Sg} {ro : Nat} {v : V} (he : evRes P fn st = some v) (ht : TRel σ st.t a.tmps) (hh : HRel ro σ st.h w) :
    ∃ x, (results fn a.tmps).run P w = .ok x w ∧ VRel σ v x := by
  have key : ∀ (l : List ResultVar) (us : List U), evResL P st l = some us → ∃ xs : List Value,
      (l.mapM (resF a.tmps)).run P w = .ok xs w ∧ All2 (URel σ) us xs := by
    intro l
    induction l with
    | nil => intro us h; simp only [evResL, Option.some.injEq] at h; subst h; exact ⟨[], by simp, .nil⟩
    | cons r l ih =>
      intro us h
      simp only [evResL] at h
      split at h
      · rename_i u us' hu hus
        cases h
        obtain ⟨xs, hxs, hall⟩ := ih us' hus
        cases r with
        | tmp t =>
          simp only [evRes1] at hu
          split at hu
          · rename_i y hy
            cases hu
            have hv := ht.2 t
            rw [hy] at hv
            exact ⟨a.tmps.getD t undef :: xs, by simp only [List.mapM_cons, resF, Sem.run_bind, Sem.run_pure, Result.andThen_ok, hxs], .cons hv hall⟩
          · cases hu
        | cell b t =>
          simp only [evRes1] at hu
          split at hu
          · rename_i y hy
            cases hu
            have hv := ht.2 b
            obtain ⟨z, hz, hvz⟩ := evLoad_sound (P := P) (w := w) (v := .u u) (by rw [hy]; exact .val (fun _ h => by simp at h)) hv hh
            refine ⟨z :: xs, ?_, .cons hvz hall⟩
            have hz' : (do loadVar t (← asAddr (a.tmps.getD b undef)) : Sem Value).run P w = .ok z w := by
              simp only [Instr.loadAt] at hz
              cases hx : a.tmps.getD b undef with
              | pointer p => cases p with
                | none => rw [hx] at hz; simp [Instr.sureAddr, stuck] at hz
                | some p => rw [hx] at hz; simpa [Instr.sureAddr, asAddr] using hz
              | _ => rw [hx] at hz; simp [Instr.sureAddr, stuck] at hz
            simp only [Sem.run_bind] at hz'
            simp only [List.mapM_cons, resF, Sem.run_bind, hz', Sem.run_pure, Result.andThen_ok, hxs]
          · cases hu
      · cases h
  unfold evRes at he
  have hm : ∀ xs, (fn.results.toList.mapM (resF a.tmps)).run P w = .ok xs w →
      (results fn a.tmps).run P w = .ok (if h : xs.toArray.size = 1 then xs.toArray[0] else .tuple xs.toArray) w := by
    intro xs h
    rw [results_eq]
    simp only [Sem.run_bind]
    rw [Array.mapM_eq_mapM_toList]
    simp only [Sem.run_map]
    rw [h]
    simp
  split at he
  · rename_i u hu
    cases he
    obtain ⟨xs, hxs, hall⟩ := key _ _ hu
    cases hall with
    | cons h1 h2 =>
      cases h2
      exact ⟨_, hm _ hxs, by simpa [VRel] using h1⟩
  · rename_i us hne hu
    cases he
    obtain ⟨xs, hxs, hall⟩ := key _ _ hu
    refine ⟨_, hm _ hxs, ?_⟩
    have : ¬ xs.toArray.size = 1 := by
      intro h
      have hlen : ∀ {us : List U} {xs : List Value}, All2 (URel σ) us xs → us.length = xs.length := by
        intro us xs h
        induction h with
        | nil => rfl
        | cons _ _ ih => simp [ih]
      have h1 : us.length = 1 := by rw [hlen hall]; simpa using h
      obtain ⟨u, rfl⟩ := List.length_eq_one_iff.1 h1
      exact hne u rfl
    rw [dif_neg this]
    exact ⟨xs, rfl, hall⟩
  · cases he
end

theorem okV_map {σ τ : Sg} {k n base : Nat} {v : V} {x : Value} (hk : σ k = some n) (hb : τ base = some n) (ho : okV (Nat.beq k) v = true) (h : VRel σ v x) : VRel τ (mapV base v) x := by
  have hL : ∀ {l : L} {xs : List Value}, okL (Nat.beq k) l = true → LRel σ l xs → LRel τ (mapL base l) xs := by
    intro l xs ho h
    cases l with
    | ptr id off =>
      have : k = id := by simpa [okL] using ho
      subst this
      obtain ⟨b, h1, h2⟩ := h
      rw [hk] at h1; cases h1
      exact ⟨_, hb, h2⟩
    | ptre id s i r =>
      have : k = id := by simpa [okL] using ho
      subst this
      obtain ⟨b, h1, h2⟩ := h
      rw [hk] at h1; cases h1
      exact ⟨_, hb, h2⟩
    | sl id off m c =>
      have : k = id := by simpa [okL] using ho
      subst this
      obtain ⟨b, h1, h2⟩ := h
      rw [hk] at h1; cases h1
      exact ⟨_, hb, h2⟩
    | _ => exact h
  have hP : ∀ {l : List L} {xs : List Value}, okP (Nat.beq k) l = true → PRel σ l xs → PRel τ (mapP base l) xs := by
    intro l
    induction l with
    | nil => intro xs _ h; exact h
    | cons l ls ih =>
      intro xs ho h
      simp only [okP, Bool.and_eq_true] at ho
      obtain ⟨ys, zs, e, h1, h2⟩ := h
      exact ⟨ys, zs, e, hL ho.1 h1, ih ho.2 h2⟩
  have hU : ∀ {u : U} {x : Value}, okU (Nat.beq k) u = true → URel σ u x → URel τ (mapU base u) x := by
    intro u x ho h
    cases u with
    | one l => exact ⟨h.1, hL ho h.2⟩
    | ag c =>
      cases c with
      | ps l => obtain ⟨xs, e, hc⟩ := h; exact ⟨xs, e, hP ho hc⟩
      | big s c f =>
        obtain ⟨xs, e, hc⟩ := h
        refine ⟨xs, e, hc.1, fun i hi => ⟨PRel.keep (kp := no1) (fun _ h => by cases h) (flat_ok (hc.2 i hi).2) (hc.2 i hi).1, (hc.2 i hi).2⟩⟩
  cases v with
  | junk => trivial
  | u y => exact hU ho h
  | tup ys =>
    obtain ⟨xs, e, ha⟩ := h
    refine ⟨xs, e, ?_⟩
    clear e
    simp only [okV] at ho
    induction ha with
    | nil => exact .nil
    | cons h1 _ ih =>
      simp only [okUs, Bool.and_eq_true] at ho
      exact .cons (hU ho.1 h1) (ih ho.2)

theorem map_some_inj : ∀ {a b : List Blk}, a.map some = b.map some → a = b
  | [], [], _ => rfl
  | [], _ :: _, h => by simp at h
  | _ :: _, [], h => by simp at h
  | x :: a, y :: b, h => by
    simp only [List.map_cons, List.cons.injEq, Option.some.injEq] at h
    rw [h.1, map_some_inj h.2]

/-- What the end of a body says of the world. -/
theorem kres_sound {cx : Cx} {fn : Func} {base : Nat} {e : Ex} {s : St} {v : V} {bs : List Blk} {a : Act} {w w' : World} {σ σ' : Sg}
    (h : kres cx fn base e s = .done .ret ⟨[v], bs.map some⟩) (hr : Rep w (fun _ => False) cx.ro σ' s a w') :
    (e = .normal ∨ e = .ret) ∧ ∃ x, (results fn a.tmps).run cx.P w' = .ok x w' ∧ ∃ τ, VRel τ v x ∧ NewRel base σ τ w w' bs := by
  unfold kres at h
  split at h
  · cases h
  · rename_i hne
    refine ⟨by cases e with
      | normal => exact .inl rfl
      | ret => exact .inr rfl
      | exit id => exact absurd rfl (hne id), ?_⟩
    split at h
    · cases h
    · rename_i v0 hv0
      obtain ⟨x, hx, hvx⟩ := run_results hv0 hr.t hr.h
      refine ⟨x, hx, ?_⟩
      split at h
      · split at h
        · rename_i hfl
          simp only [Out.done.injEq, St.mk.injEq, List.cons.injEq, and_true, true_and] at h
          obtain ⟨rfl, h2⟩ := h
          have : bs = [] := by cases bs with
            | nil => rfl
            | cons _ _ => simp at h2
          subst this
          exact ⟨σ, hvx.flat hfl, rfl⟩
        · cases h
      · rename_i k hk
        split at h
        · cases h
        · rename_i b hb
          split at h
          · rename_i hc
            simp only [Out.done.injEq, St.mk.injEq, List.cons.injEq, and_true, true_and] at h
            obtain ⟨rfl, h2⟩ := h
            have : bs = [b] := map_some_inj (b := [b]) h2.symm
            subst this
            simp only [Bool.and_eq_true] at hc
            obtain ⟨⟨h1, h2⟩, h3⟩ := hc
            have hro : cx.ro ≤ k := Nat.le_of_ble_eq_true h1
            obtain ⟨n, xs, e1, e2, e3⟩ := hr.h.blk k b hb
            have hn := hr.fr.own k n e1 hro
            have hn' : w.heap.size ≤ n := hn.elim (fun h => h.elim) id
            refine ⟨upd σ base n, okV_map e1 (by simp [upd]) h3 hvx, n, xs, hn', (hr.h.live k n e1).1, rfl, e2, e3.flat h2⟩
          · cases h

/-- A contract, out of what the body comes to. -/
theorem fn_core {P : Program} {f : FuncId} {fn : Func} {c : Code} (hf : P.funcs[f]? = some fn) (hb : fn.body = some c) (hname : (fn.name == "runtime.NumGoroutine") = false)
    {base : Nat} {args : List (V × Option Blk)} {v : V} {bs : List Blk} {σ : Sg} {w : World} {vals : List Value} (hargs : All2 (ArgRel σ w) args vals) (hflat : flatA args = true)
    {cx' : Cx} (hP : cx'.P = P) (hro : cx'.ro = (blks args).length) (hruns : Runs cx' (blks args).length c ⟨t0 fn (renA args 0), (blks args).map some⟩ (Post cx' fn base v bs)) :
    Comes1 P f vals.toArray w fun x w' => ∃ σ', Below w.heap.size w w' ∧ VRel σ' v x ∧ NewRel base σ σ' w w' bs := by
  obtain ⟨ns, hlen, hblk, hvals⟩ := args_ren 0 hargs hflat
  have hrun : (callFunc f vals.toArray).run P w = .ok (.enter f vals.toArray) w := by
    simp only [callFunc, Sem.run_bind, run_program, Result.andThen_ok, hf]
    rw [if_neg (by rw [hname]; simp)]
    simp [hb]
  unfold Comes1
  rw [hrun]
  have htau : ∀ i b, tau 0 ns i = some b → i < (blks args).length := by
    intro i b hi
    simp only [tau, Nat.not_lt_zero, if_false, Nat.sub_zero] at hi
    have := (List.getElem?_eq_some_iff.1 hi).1
    omega
  have hl : vals.length = (renA args 0).length := by
    have hlen : ∀ {us : List V} {xs : List Value}, All2 (VRel (tau 0 ns)) us xs → xs.length = us.length := by
      intro us xs h
      induction h with
      | nil => rfl
      | cons _ _ ih => simp [ih]
    exact hlen hvals
  have hgl : ∀ (l : List V) (vs : List Value) (m i : Nat), All2 (VRel (tau 0 ns)) l vs → VRel (tau 0 ns) (gl (l ++ List.replicate m undefV) i) ((vs ++ List.replicate m undef).getD i undef) := by
    intro l vs m i hall
    induction hall generalizing i with
    | nil =>
      have e1 : gl ([] ++ List.replicate m undefV) i = undefV := by
        unfold gl
        rw [List.getD_eq_getElem?_getD, List.nil_append, List.getElem?_replicate]
        split <;> rfl
      have e2 : ([] ++ List.replicate m undef).getD i undef = undef := by
        rw [List.getD_eq_getElem?_getD, List.nil_append, List.getElem?_replicate]
        split <;> rfl
      rw [e1, e2]
      exact rel_undef _
    | cons h1 _ ih =>
      cases i with
      | zero => exact h1
      | succ i => exact ih i
  have hrep : Rep w (fun _ => False) cx'.ro (tau 0 ns) ⟨t0 fn (renA args 0), (blks args).map some⟩ { tmps := vals.toArray ++ Array.replicate (fn.ntmps - vals.toArray.size) undef, defers := [] } w := by
    refine ⟨rfl, ⟨?_, ?_⟩, ⟨?_, ?_, ?_⟩, ⟨rfl, rfl, rfl, Nat.le_refl _, fun _ _ _ => rfl, ?_⟩⟩
    · simp [t0, hl]
    · intro i
      have h1 := hgl _ _ (fn.ntmps - (renA args 0).length) i hvals
      have e : (vals.toArray ++ Array.replicate (fn.ntmps - vals.toArray.size) undef).getD i undef = (vals ++ List.replicate (fn.ntmps - (renA args 0).length) undef).getD i undef := by
        rw [Array.getD_eq_getD_getElem?, List.getD_eq_getElem?_getD]
        rw [← Array.getElem?_toList]
        simp [hl]
      rw [e]
      exact h1
    · intro id b hid
      rw [hg_map] at hid
      obtain ⟨n, xs, e1, e2, e3, _⟩ := hblk id b hid
      exact ⟨n, xs, by simpa [tau] using e1, e2, e3⟩
    · intro i j n hri hi _
      have := htau i n hi
      omega
    · intro i n hi
      have hlt := htau i n hi
      rw [hg_map, List.getElem?_eq_getElem hlt]
      obtain ⟨m, xs, e1, _, _, e4⟩ := hblk i _ (List.getElem?_eq_getElem hlt)
      have : n = m := by
        simp only [tau, Nat.not_lt_zero, if_false, Nat.sub_zero] at hi
        rw [hi] at e1; exact Option.some.inj e1
      subst this
      exact ⟨e4, rfl⟩
    · intro i b hi hri
      have := htau i b hi
      omega
  refine calls_of_wp hf hb ?_
  rw [← hP]
  refine hruns w (fun _ => False) (tau 0 ns) (tau 0 ns) _ w _ htau (Sub.refl _) hrep ?_
  rintro e st' σ' a' w' ⟨v0, bs0, hk, hve, hbe⟩ hsub hr'
  obtain ⟨he, x, hx, τ, hvx, hnew⟩ := kres_sound (σ := σ) hk hr'
  have hbelow : Below w.heap.size w w' := ⟨hr'.fr.os, hr'.fr.tape, hr'.fr.output, hr'.fr.size, fun k hk => hr'.fr.old k hk (fun h => h)⟩
  have hnew' : NewRel base σ τ w w' bs := by
    cases bs0 with
    | nil => cases bs with
      | nil => exact hnew
      | cons _ _ => exact hbe.elim
    | cons b0 l0 => cases l0 with
      | cons _ _ => cases bs <;> exact hbe.elim
      | nil => cases bs with
        | nil => exact hbe.elim
        | cons b l => cases l with
          | cons _ _ => exact hbe.elim
          | nil =>
            obtain ⟨n, xs, h1, h2, h3, h4, h5⟩ := hnew
            exact ⟨n, xs, h1, h2, h3, by rw [← hbe.1]; exact h4, hbe.2 _ _ h5⟩
  rcases he with rfl | rfl
  · exact ⟨hr'.defers, x, hx, τ, hbelow, hve _ _ hvx, hnew'⟩
  · exact ⟨hr'.defers, x, hx, τ, hbelow, hve _ _ hvx, hnew'⟩

/-- A contract, out of what the body comes to. -/
theorem fnOK {cx : Cx} {f : FuncId} {fn : Func} {c : Code} (hf : cx.P.funcs[f]? = some fn) (hb : fn.body = some c) (hname : (fn.name == "runtime.NumGoroutine") = false) {sp : FSpec}
    (h : ∀ base args chk v bs, sp base args = some (chk, v, bs) → allT chk → flatA args = true ∧
      ∃ cx' : Cx, cx'.P = cx.P ∧ cx'.ro = (blks args).length ∧ Runs cx' (blks args).length c ⟨t0 fn (renA args 0), (blks args).map some⟩ (Post cx' fn base v bs)) : FnOK cx.P f sp := by
  intro base args chk v bs hsp ht σ w vals hargs _
  obtain ⟨hflat, cx', hP, hro, hruns⟩ := h base args chk v bs hsp ht
  exact fn_core hf hb hname hargs hflat hP hro hruns

/-- The same, where the executor runs all of the body. -/
theorem runs_ev {cx : Cx} (hk : Ok cx) {fn : Func} {n0 n base : Nat} {c : Code} {st : St} {v v0 : V} {bs bs0 : List Blk}
    (h : ev cx n c st (kres cx fn base) = .done .ret ⟨[v0], bs0.map some⟩) (hv : VEnt v0 v) (hb : BEnt bs0 bs) : Runs cx n0 c st (Post cx fn base v bs) := by
  intro w0 W σ0 σ a w Q _ hs hr hq
  refine (ev_sound (w0 := w0) (W := W) hk.tab hk.mix (out := .done .ret ⟨[v0], bs0.map some⟩) trivial n).1 c st _ Q σ a w h hr ?_
  intro e s σ' a' w' hκ hs' hr'
  exact hq e s σ' a' w' ⟨v0, bs0, hκ, hv, hb⟩ (hs.trans hs') hr'

/-- The same of the last parts of a body. -/
theorem runsL_ev {cx : Cx} (hk : Ok cx) {fn : Func} {n0 n base : Nat} {l : List Code} {st : St} {v v0 : V} {bs bs0 : List Blk}
    (h : evL cx n l st (kres cx fn base) = .done .ret ⟨[v0], bs0.map some⟩) (hv : VEnt v0 v) (hb : BEnt bs0 bs) : RunsL cx n0 l st (Post cx fn base v bs) := by
  refine evL_sound hk (out := .done .ret ⟨[v0], bs0.map some⟩) trivial h ?_
  intro e s hκ w0 W σ0 σ a w q hn hs hr hq
  exact hq s σ ⟨v0, bs0, hκ, hv, hb⟩ hs hr
end Vx

/-
  An executor of Go code on values of its own: contracts by the form of the arguments.
-/
namespace Vx
open Go Go.RowKit

theorem cmpL_true : ∀ {xs ys : List Value}, cmpL xs ys = some true → xs = ys
  | [], [], _ => rfl
  | [], _ :: _, h => by cases h
  | _ :: _, [], h => by cases h
  | x :: xs, y :: ys, h => by
    simp only [cmpL] at h
    split at h
    · rename_i a b ha hb
      simp only [Option.some.injEq, Bool.and_eq_true] at h
      obtain ⟨rfl, rfl⟩ := h
      have hx : x = y := by
        unfold cmp1 at ha
        split at ha
        · split at ha
          · rename_i hk
            simp only [Option.some.injEq, beq_iff_eq] at ha
            rw [hk, ha]
          · cases ha
        · cases ha
      rw [hx, cmpL_true hb]
    · cases h

theorem takeNum_ok {σ : Sg} {k : IntKind} (hk : k.signed = false) : ∀ {c : Nat} {l : List L} {ok : Bool} {n : Nat} {r : List L} {ys : List Value},
    takeNum k k.bits c l = some (ok, n, r) → PRel σ l ys → ok = true ∧ n < 2 ^ (k.bits * c)
  | 0, l, ok, n, r, ys, h, hp => by cases h; simp
  | c + 1, [], _, _, _, _, h, _ => by cases h
  | c + 1, x :: l, ok, n, r, ys, h, hp => by
    cases x with
    | int k' a =>
      simp only [takeNum] at h
      split at h
      · rename_i ok' n1 r' hkk ht
        cases h
        have hkk' : k = k' := of_decide_eq_true hkk
        subst hkk'
        obtain ⟨y1, ys', e, ⟨e1, ha⟩, hp'⟩ := hp
        obtain ⟨h1, h2⟩ := takeNum_ok hk ht hp'
        have h3 := (inK_unsigned hk).1 ha
        refine ⟨by rw [h1, decide_eq_true h3.2]; rfl, ?_⟩
        have e3 : k.bits * (c + 1) = k.bits + k.bits * c := by rw [Nat.mul_add]; omega
        rw [e3, Nat.pow_add]
        have h4 : a.toNat < 2 ^ k.bits := by omega
        have h5 : n1 + 1 ≤ 2 ^ (k.bits * c) := h2
        calc a.toNat + 2 ^ k.bits * n1 < 2 ^ k.bits + 2 ^ k.bits * n1 := by omega
          _ = 2 ^ k.bits * (n1 + 1) := by rw [Nat.mul_add]; omega
          _ ≤ 2 ^ k.bits * 2 ^ (k.bits * c) := Nat.mul_le_mul_left _ h5
      · cases h
    | _ => simp [takeNum] at h

/-- The form of a part. -/
inductive LT where
  | pk (k : IntKind) (b c : Nat)
  | int (k : IntKind)
  | bool
  | str

inductive Ty where
  | one (t : LT)
  | ag (ts : List LT)

/-- Plain data. -/
inductive D where
  | n (x : Nat)
  | i (x : Int)
  | b (x : Bool)
  | s (x : ByteArray)

def decL (t : LT) (l : List L) : Option (D × List L) :=
  match t, l with
  | .pk k b c, .pk k' b' c' n :: r => match decide (k = k' ∧ b = b' ∧ c = c') with
    | true => some (.n n, r)
    | false => none
  | .pk k b c, .int k' a :: r => match decide (b = k.bits ∧ k.signed = false), takeNum k b c (.int k' a :: r) with
    | true, some (_, n, r') => some (.n n, r')
    | _, _ => none
  | .int k, .int k' a :: r => match decide (k = k') with
    | true => some (.i a, r)
    | false => none
  | .bool, .bool t :: r => some (.b t, r)
  | .str, .str t :: r => some (.s t, r)
  | _, _ => none

def encL : LT → D → Option L
  | .pk k b c, .n x => some (.pk k b c x)
  | .int k, .i x => some (.int k x)
  | .bool, .b x => some (.bool x)
  | .str, .s x => some (.str x)
  | _, _ => none

def decP : List LT → List L → Option (List D)
  | [], [] => some []
  | t :: ts, l => match decL t l with
    | some (d, r) => match decP ts r with
      | some ds => some (d :: ds)
      | none => none
    | none => none
  | _, _ => none

def encP : List LT → List D → Option (List L × List D)
  | [], ds => some ([], ds)
  | t :: ts, d :: ds => match encL t d, encP ts ds with
    | some l, some (ls, r) => some (l :: ls, r)
    | _, _ => none
  | _, _ => none

def decV : Ty → V → Option (List D)
  | .one t, .u (.one l) => match l with
    | .pk .. => none
    | l => decP [t] [l]
  | .ag ts, .u (.ag (.ps l)) => decP ts l
  | _, _ => none

def encV : Ty → List D → Option (V × List D)
  | .one t, ds => match encP [t] ds with
    | some ([l], r) => some (.one l, r)
    | _ => none
  | .ag ts, ds => match encP ts ds with
    | some (ls, r) => some (.ag (.ps ls), r)
    | none => none

def decA : List Ty → List (V × Option Blk) → Option (List D)
  | [], [] => some []
  | t :: ts, (v, none) :: l => match decV t v, decA ts l with
    | some a, some b => some (a ++ b)
    | _, _ => none
  | _, _ => none

def encA : List Ty → List D → Option (List V)
  | [], [] => some []
  | t :: ts, ds => match encV t ds with
    | some (v, r) => match encA ts r with
      | some vs => some (v :: vs)
      | none => none
    | none => none
  | _, _ => none

theorem decL_sound {σ : Sg} {t : LT} {l r : List L} {d : D} {xs : List Value} (h : decL t l = some (d, r)) (hx : PRel σ l xs) :
    ∃ x ys zs, encL t d = some x ∧ xs = ys ++ zs ∧ LRel σ x ys ∧ PRel σ r zs := by
  unfold decL at h
  split at h
  · rename_i k b c k' b' c' n r'
    split at h
    · rename_i hk
      cases h
      obtain ⟨rfl, rfl, rfl⟩ := of_decide_eq_true hk
      obtain ⟨ys, zs, e, h1, h2⟩ := hx
      exact ⟨_, ys, zs, rfl, e, h1, h2⟩
    · cases h
  · rename_i k b c k' a r'
    split at h
    · rename_i ok n r2 hk ht
      cases h
      obtain ⟨rfl, hu⟩ := of_decide_eq_true hk
      obtain ⟨zs, us, e, hr, hcmp⟩ := takeNum_sound hu ht hx
      obtain ⟨h1, h2⟩ := takeNum_ok hu ht hx
      refine ⟨_, zs, us, rfl, e, ?_, hr⟩
      have := hcmp _ h2
      rw [h1] at this
      simp only [Bool.true_and, decide_true] at this
      exact ⟨(cmpL_true this).symm, h2, hu, Nat.le_refl _⟩
    · cases h
  · rename_i k k' a r'
    split at h
    · rename_i hk
      cases h
      have := of_decide_eq_true hk
      subst this
      obtain ⟨ys, zs, e, h1, h2⟩ := hx
      exact ⟨_, ys, zs, rfl, e, h1, h2⟩
    · cases h
  · cases h
    obtain ⟨ys, zs, e, h1, h2⟩ := hx
    exact ⟨_, ys, zs, rfl, e, h1, h2⟩
  · cases h
    obtain ⟨ys, zs, e, h1, h2⟩ := hx
    exact ⟨_, ys, zs, rfl, e, h1, h2⟩
  · cases h

theorem encL_flat {t : LT} {d : D} {x : L} (h : encL t d = some x) : okL no1 x = true := by
  unfold encL at h
  split at h <;> cases h <;> rfl

/-- One form after another: the data, and what the cells are by them. -/
theorem decP_sound : ∀ {ts : List LT} {l : List L} {ds : List D}, decP ts l = some ds → ∃ ls, (∀ rest, encP ts (ds ++ rest) = some (ls, rest)) ∧ okP no1 ls = true ∧
    ∀ σ xs, PRel σ l xs → PRel σ ls xs
  | [], [], ds, h => by
    cases h
    exact ⟨[], fun _ => rfl, rfl, fun _ _ h => h⟩
  | [], _ :: _, ds, h => by simp [decP] at h
  | t :: ts, l, ds, h => by
    simp only [decP] at h
    split at h
    · rename_i d r hd
      split at h
      · rename_i ds' hds
        cases h
        obtain ⟨ls, h1, h2, h3⟩ := decP_sound hds
        cases hx : encL t d with
        | none =>
          refine ⟨[], ?_⟩
          exfalso
          unfold decL at hd
          (repeat' split at hd) <;> first | (cases hd; done) | (cases hd; simp [encL] at hx)
        | some x =>
          refine ⟨x :: ls, ?_, ?_, ?_⟩
          · intro rest
            simp only [List.cons_append, encP, hx, h1]
          · simp only [okP, Bool.and_eq_true]
            exact ⟨encL_flat hx, h2⟩
          · intro σ xs hp
            obtain ⟨x', ys, zs, e1, e2, e3, e4⟩ := decL_sound hd hp
            rw [hx] at e1
            cases e1
            exact ⟨ys, zs, e2, e3, h3 σ zs e4⟩
      · cases h
    · cases h

theorem decV_sound {t : Ty} {v : V} {ds : List D} (h : decV t v = some ds) : ∃ v', (∀ rest, encV t (ds ++ rest) = some (v', rest)) ∧ flatV v' = true ∧ VEnt v v' ∧ idOf v = none := by
  unfold decV at h
  split at h
  · rename_i t l
    split at h
    · cases h
    · rename_i l' hnp
      obtain ⟨ls, h1, h2, h3⟩ := decP_sound h
      have hlen : ∃ x, ls = [x] := by
        have := h1 []
        simp only [List.append_nil] at this
        cases ds with
        | nil => simp [encP] at this
        | cons d ds =>
          simp only [encP] at this
          cases he : encL t d with
          | none => rw [he] at this; cases this
          | some x => rw [he] at this; simp only [Option.some.injEq, Prod.mk.injEq] at this; exact ⟨x, this.1.symm⟩
      obtain ⟨x, rfl⟩ := hlen
      refine ⟨.one x, ?_, ?_, ?_, ?_⟩
      · intro rest; simp only [encV, h1]
      · simpa [flatV, okV, okU, okP] using h2
      · intro σ y hy
        obtain ⟨e1, e2⟩ := hy
        refine ⟨e1, ?_⟩
        obtain ⟨ys, zs, e, hl, hz⟩ := h3 σ [y] ⟨[y], [], rfl, e2, rfl⟩
        cases hz
        simp only [List.append_nil] at e
        rw [e]; exact hl
      · simp only [decP] at h
        cases l with
        | ptr => simp [decL] at h
        | ptre => simp [decL] at h
        | sl => simp [decL] at h
        | _ => rfl
  · rename_i ts l
    obtain ⟨ls, h1, h2, h3⟩ := decP_sound h
    refine ⟨.ag (.ps ls), ?_, ?_, ?_, rfl⟩
    · intro rest; simp only [encV, h1]
    · simpa [flatV, okV, okU, okC] using h2
    · intro σ y hy
      obtain ⟨xs, e, hc⟩ := hy
      exact ⟨xs, e, h3 σ xs hc⟩
  · cases h

theorem idOf_flat {v : V} (h : flatV v = true) : idOf v = none := by
  unfold idOf
  split
  · simp [flatV, okV, okU, okL, no1] at h
  · simp [flatV, okV, okU, okL, no1] at h
  · simp [flatV, okV, okU, okL, no1] at h
  · rfl

theorem decA_sound : ∀ {ts : List Ty} {args : List (V × Option Blk)} {ds : List D}, decA ts args = some ds →
    ∃ vs, encA ts ds = some vs ∧ flatA (vs.map fun v => (v, none)) = true ∧ All2 (fun (a : V × Option Blk) v => a.2 = none ∧ VEnt a.1 v ∧ idOf v = none) args vs
  | [], [], ds, h => by cases h; exact ⟨[], rfl, rfl, .nil⟩
  | [], _ :: _, ds, h => by simp [decA] at h
  | t :: ts, [], ds, h => by simp [decA] at h
  | t :: ts, (v, some b) :: l, ds, h => by simp [decA] at h
  | t :: ts, (v, none) :: l, ds, h => by
    simp only [decA] at h
    split at h
    · rename_i a b ha hb
      cases h
      obtain ⟨v', h1, h2, h3, _⟩ := decV_sound ha
      have h7 := idOf_flat h2
      obtain ⟨vs, h4, h5, h6⟩ := decA_sound hb
      refine ⟨v' :: vs, ?_, ?_, .cons ⟨rfl, h3, h7⟩ h6⟩
      · simp only [encA, h1, h4]
      · simp only [List.map_cons, flatA, h2, h5, Bool.and_self]
    · cases h

/-- A contract by the form of its arguments; its answer leads nowhere. -/
def spec (ts : List Ty) (F : List D → Option (List Bool × V)) : FSpec := fun _ args =>
  match decA ts args with
  | some ds => match F ds with
    | some (chk, v) => some (chk, v, [])
    | none => none
  | none => none

theorem renA_plain : ∀ (vs : List V) (k : Nat), renA (vs.map fun v => (v, none)) k = vs ∧ blks (vs.map fun v => (v, none)) = []
  | [], _ => ⟨rfl, rfl⟩
  | v :: vs, k => by
    obtain ⟨h1, h2⟩ := renA_plain vs k
    exact ⟨by simp only [List.map_cons, renA, h1], by simp only [List.map_cons, blks, h2]⟩

theorem args_ent {σ : Sg} {w : World} : ∀ {args : List (V × Option Blk)} {vs : List V} {vals : List Value},
    All2 (fun (a : V × Option Blk) v => a.2 = none ∧ VEnt a.1 v ∧ idOf v = none) args vs → All2 (ArgRel σ w) args vals → All2 (ArgRel σ w) (vs.map fun v => (v, none)) vals
  | _, _, _, .nil, .nil => .nil
  | _, _, _, .cons hab hl, .cons hx hm => .cons ⟨hab.2.1 _ _ hx.1, by simp only [hab.2.2]⟩ (args_ent hl hm)

/-- The numbers are of their kinds. -/
def rngL : L → Prop
  | .int k n => inK k n = true
  | .pk _ b c n => n < 2 ^ (b * c)
  | _ => True

def rngP : List L → Prop
  | [] => True
  | l :: ls => rngL l ∧ rngP ls

def rngV : V → Prop
  | .u (.one l) => rngL l
  | .u (.ag (.ps l)) => rngP l
  | _ => True

def rngVs : List V → Prop
  | [] => True
  | v :: vs => rngV v ∧ rngVs vs

theorem LRel.rng {σ : Sg} {l : L} {xs : List Value} (h : LRel σ l xs) : rngL l := by
  cases l with
  | int k n => exact h.2
  | pk k b c n => exact h.2.1
  | _ => trivial

theorem PRel.rng {σ : Sg} : ∀ {l : List L} {xs : List Value}, PRel σ l xs → rngP l
  | [], _, _ => trivial
  | _ :: _, _, ⟨_, _, _, h1, h2⟩ => ⟨h1.rng, PRel.rng h2⟩

theorem VRel.rng {σ : Sg} {v : V} {x : Value} (h : VRel σ v x) : rngV v := by
  cases v with
  | u y => cases y with
    | one l => exact h.2.rng
    | ag c => cases c with
      | ps l => obtain ⟨xs, _, hc⟩ := h; exact PRel.rng hc
      | big => trivial
  | _ => trivial

theorem args_rng {σ : Sg} {w : World} : ∀ {vs : List V} {vals : List Value}, All2 (ArgRel σ w) (vs.map fun v => (v, none)) vals → rngVs vs
  | [], _, _ => trivial
  | _ :: _, _, .cons h hl => ⟨h.1.rng, args_rng hl⟩

theorem args_plain {σ : Sg} {w : World} : ∀ {vs : List V} {vals : List Value}, All2 (ArgRel σ w) (vs.map fun v => (v, none)) vals → All2 (VRel σ) vs vals
  | [], _, h => by cases h; exact .nil
  | _ :: _, _, .cons h hl => .cons h.1 (args_plain hl)

theorem fn_flat {cx : Cx} {f : FuncId} {fn : Func} {c : Code} (hf : cx.P.funcs[f]? = some fn) (hb : fn.body = some c) (hname : (fn.name == "runtime.NumGoroutine") = false) (hro : cx.ro = 0)
    {ts : List Ty} {F : List D → Option (List Bool × V)}
    (h : ∀ ds chk v vs, F ds = some (chk, v) → allT chk → encA ts ds = some vs → rngVs vs → ∀ base, Runs cx 0 c ⟨t0 fn vs, []⟩ (Post cx fn base v [])) : FnOK cx.P f (spec ts F) := by
  intro base args chk v bs hsp ht σ w vals hargs _
  unfold spec at hsp
  split at hsp
  · rename_i ds hds
    split at hsp
    · rename_i chk' v' hF
      cases hsp
      obtain ⟨vs, h1, h2, h3⟩ := decA_sound hds
      obtain ⟨e1, e2⟩ := renA_plain vs 0
      have hargs' := args_ent h3 hargs
      refine fn_core (cx' := cx) hf hb hname hargs' h2 rfl (by rw [e2]; exact hro) ?_
      rw [e1, e2]
      exact h ds chk v vs hF ht h1 (args_rng hargs') base
    · cases hsp
  · cases hsp

/-- A table of contracts. -/
def tabOf : List (FuncId × FSpec) → FuncId → Option FSpec
  | [], _ => none
  | (g, s) :: r, f => match Nat.beq f g with
    | true => some s
    | false => tabOf r f

theorem TabOK.nil {P : Program} : TabOK P (tabOf []) := fun _ _ h => by cases h

theorem TabOK.cons {P : Program} {f : FuncId} {s : FSpec} {l : List (FuncId × FSpec)} (h : FnOK P f s) (hl : TabOK P (tabOf l)) : TabOK P (tabOf ((f, s) :: l)) := by
  intro g sp hg
  simp only [tabOf] at hg
  split at hg
  · rename_i he
    cases hg
    have : g = f := Nat.eq_of_beq_eq_true he
    subst this
    exact h
  · exact hl g sp hg

/-- A function without a body, of which the model says what it answers. -/
theorem fn_extern {P : Program} {f : FuncId} {fn : Func} {e : Array Value → Sem Value} (hf : P.funcs[f]? = some fn) (hname : (fn.name == "runtime.NumGoroutine") = false)
    (hb : fn.body.isNone = true) (hn : Extern.findNext fn = none) (he : Extern.find fn = some e) {ts : List Ty} {F : List D → Option (List Bool × V)}
    (h : ∀ ds chk v vs, F ds = some (chk, v) → allT chk → encA ts ds = some vs → rngVs vs → ∀ (σ : Sg) (w : World) (vals : List Value), All2 (VRel σ) vs vals → ∃ x, (e vals.toArray).run P w = .ok x w ∧ VRel σ v x) :
    FnOK P f (spec ts F) := by
  intro base args chk v bs hsp ht σ w vals hargs _
  unfold spec at hsp
  split at hsp
  · rename_i ds hds
    split at hsp
    · rename_i hF
      cases hsp
      obtain ⟨vs, h1, _, h3⟩ := decA_sound hds
      have hargs' := args_ent h3 hargs
      obtain ⟨x, hx, hv⟩ := h ds chk _ vs hF ht h1 (args_rng hargs') σ w vals (args_plain hargs')
      unfold Comes1
      rw [run_callFunc_extern hf hname hb hn he, hx]
      exact ⟨σ, Below.refl _ _, hv, rfl⟩
    · cases hsp
  · cases hsp

theorem chks_true {l : List Bool} {o : Out} (h : allT l) : chks l o = o := by
  induction l with
  | nil => rfl
  | cons b l ih =>
    obtain ⟨h1, h2⟩ := allT_cons h
    simp only [chks, h1, cond_true]
    exact ih h2

def bodyOf (fn : Func) : Code := fn.body.getD .skip
def it (c : Code) (i : Nat) : Code := (items c).getD i .skip
def inB : Code → Code
  | .block _ b => b
  | c => c
def inL : Code → Code
  | .loop b => b
  | c => c
def inThen : Code → Code
  | .cond _ a _ => a
  | c => c
def inElse : Code → Code
  | .cond _ _ a => a
  | c => c
/-- A loop in its block, by its place among the items. -/
def loopAt (c : Code) (i : Nat) : Code := inL (inB (it c i))

/-- At a loop in its block: it, then the rest. -/
theorem RunsL.loop {cx : Cx} {n0 i id : Nat} {c : Code} {st : St} {R : Ex → St → Prop} (he : (items c).drop i = .block id (.loop (loopAt c i)) :: (items c).drop (i + 1))
    (I : Nat → St → Prop) (m : Nat) (h0 : I m st)
    (hround : ∀ m s, I m s → RunsL cx n0 (items (loopAt c i)) s (andThen (fun s' => ∃ m', m' < m ∧ I m' s') (inBlk id (andThen (fun s => RunsL cx n0 ((items c).drop (i + 1)) s R) R)))) :
    RunsL cx n0 ((items c).drop i) st R := by
  rw [he]
  refine Runs.block ?_
  refine Runs.loop I (fun m s hI => Runs.items _ _ _ (hround m s hI)) m st h0

/-- All of a list of parts is run, what it leaves is forgotten but for some. -/
theorem RunsL.all {cx : Cx} (hk : Ok cx) {n0 n : Nat} {kt kh : List Nat} {m : Nat} {l : List Code} {st st' : St} {e : Ex} {R : Ex → St → Prop}
    (h : evL cx n l st (kfg n0 kt kh m) = .done e st') (hR : R e st') : RunsL cx n0 l st R := by
  refine evL_sound hk (out := .done e st') trivial h ?_
  intro e2 s hκ w0 W σ0 σ a w q hn hs hr hq
  unfold kfg at hκ
  split at hκ
  · rename_i s' hf
    cases hκ
    obtain ⟨σ', h1, h2⟩ := Rep.forget hf hn hs hr
    exact hq st' σ' hR h1 h2
  · cases hκ

theorem allT0 : allT [] := fun _ h => by simp at h
theorem allTc {b : Bool} {l : List Bool} (h : b = true) (hl : allT l) : allT (b :: l) := by
  intro c hc
  rcases List.mem_cons.1 hc with e | e
  · rw [e]; exact h
  · exact hl c e
theorem allT1 {b : Bool} (h : b = true) : allT [b] := allTc h allT0
end Vx

/-
  An executor of Go code on values of its own: the same run, in which a truth that was asked for is known from then on.
-/
namespace Vx
open Go

def known (st : St) (d : Tmp) (b : Bool) : St := ⟨st.t.set d (.bool b), st.h⟩

theorem known_eq {st : St} {d : Tmp} {b : Bool} (h : gl st.t d = .bool b) : known st d b = st := by
  unfold known
  cases st with
  | mk t hp =>
    simp only [St.mk.injEq, and_true]
    simp only [gl] at h
    have hd : d < t.length := by
      apply Classical.byContradiction
      intro hn
      rw [List.getD_eq_getElem?_getD, List.getElem?_eq_none (Nat.le_of_not_lt hn)] at h
      cases h
    rw [List.getD_eq_getElem?_getD, List.getElem?_eq_getElem hd] at h
    rw [← h]
    exact List.set_getElem_self hd

/-- Of an operation that runs only if something is so. -/
inductive Gd where
  | bad
  | run
  | skip
  | ask (d : Tmp) (b want : Bool)

def guardG (all : List Oper) (o : Oper) (t : List V) : Gd :=
  match o.guard with
  | none => .run
  | some (j, want) => match all[j]? with
    | some q => match q.dst with
      | some d => match gl t d with
        | .u (.one (.bool b)) => .ask d b want
        | .tup _ => .skip
        | _ => .bad
      | none => .bad
    | none => .bad

noncomputable def evListS (cx : Cx) (all : List Oper) : List Oper → Nat → St → List (List Nat) → (List (List Nat) → St → Out) → Out
  | [], _, st, tr, κ => κ tr st
  | o :: r, id, st, tr, κ =>
    match guardG all o st.t with
    | .run => run1 cx o id st (fun s => evListS cx all r (id + slots o.op) s (tr ++ [usesOf st.t o]) κ)
    | .skip => evListS cx all r (id + slots o.op) ⟨putT st.t o.dst undefV, st.h⟩ (tr ++ [usesOf st.t o]) κ
    | .ask d b want => bif b then
        (match want with
        | true => run1 cx o id (known st d true) (fun s => evListS cx all r (id + slots o.op) s (tr ++ [usesOf st.t o]) κ)
        | false => evListS cx all r (id + slots o.op) ⟨putT (known st d true).t o.dst undefV, st.h⟩ (tr ++ [usesOf st.t o]) κ)
      else
        (match want with
        | false => run1 cx o id (known st d false) (fun s => evListS cx all r (id + slots o.op) s (tr ++ [usesOf st.t o]) κ)
        | true => evListS cx all r (id + slots o.op) ⟨putT (known st d false).t o.dst undefV, st.h⟩ (tr ++ [usesOf st.t o]) κ)
    | .bad => .fail 3

theorem evListS_eq (cx : Cx) (all : List Oper) : ∀ (l : List Oper) (id : Nat) (st : St) (tr : List (List Nat)) (κ : List (List Nat) → St → Out), evListS cx all l id st tr κ = evList cx all l id st tr κ
  | [], _, _, _, _ => rfl
  | o :: r, id, st, tr, κ => by
    have ih : evListS cx all r = evList cx all r := by funext id st tr κ; exact evListS_eq cx all r id st tr κ
    unfold evListS evList
    rw [ih]
    cases hgd : o.guard with
    | none => simp only [guardG, guardV, hgd, cond_true]
    | some jw =>
      obtain ⟨j, want⟩ := jw
      cases hj : all[j]? with
      | none => simp only [guardG, guardV, hgd, hj]
      | some q =>
        cases hq : q.dst with
        | none => simp only [guardG, guardV, hgd, hj, hq]
        | some d =>
          simp only [guardG, guardV, hgd, hj, hq]
          cases hv : gl st.t d with
          | junk => rfl
          | tup xs => rfl
          | u x =>
            cases x with
            | ag c => rfl
            | one l =>
              cases l with
              | bool b => cases b <;> cases want <;> (simp only [known_eq hv]; rfl)
              | _ => rfl

noncomputable def evRegionS (cx : Cx) (ops : Array Oper) (draw : Bool) (st : St) (κ : St → Out) : Out :=
  evListS cx ops.toList ops.toList st.h.length ⟨st.t, st.h ++ List.replicate (slotsL ops.toList) none⟩ [] fun tr s =>
    bif !draw || commOK tr ops.toList then κ s else .fail 4

noncomputable def evS (cx : Cx) : Nat → Code → St → (Ex → St → Out) → Out
  | 0, _, _, _ => .fail 5
  | n + 1, c, st, κ =>
    match c with
    | .skip => κ .normal st
    | .region _ ops draw => evRegionS cx ops draw st (κ .normal)
    | .seq a b => evS cx n a st fun e s => match e with
      | .normal => evS cx n b s κ
      | e => κ e s
    | .cond (.tmp d) x y => match gl st.t d with
      | .u (.one (.bool b)) => bif b then evS cx n x (known st d true) κ else evS cx n y (known st d false) κ
      | _ => .fail 6
    | .cond c x y => match evO st.t c with
      | .u (.one (.bool b)) => bif b then evS cx n x st κ else evS cx n y st κ
      | _ => .fail 6
    | .block id b => evS cx n b st fun e s => match e with
      | .exit j => bif j == id then κ .normal s else κ (.exit j) s
      | e => κ e s
    | .loop b => evS cx n b st fun e s => match e with
      | .normal => evS cx n (.loop b) s κ
      | e => κ e s
    | .exit id => κ (.exit id) st
    | .ret => κ .ret st
    | _ => .fail 7

theorem evS_eq (cx : Cx) : ∀ (n : Nat), evS cx n = ev cx n
  | 0 => rfl
  | n + 1 => by
    funext c st κ
    have ih := evS_eq cx n
    unfold evS ev
    rw [ih]
    cases c with
    | region _ ops draw => simp only [evRegionS, evRegion, evListS_eq]
    | cond c x y => 
      cases c with
      | tmp d =>
        simp only [evO]
        cases hv : gl st.t d with
        | junk => rfl
        | tup xs => rfl
        | u x =>
          cases x with
          | ag c => rfl
          | one l =>
            cases l with
            | bool b => cases b <;> (simp only [known_eq hv]; rfl)
            | _ => rfl
      | _ => rfl
    | _ => rfl

noncomputable def evLS (cx : Cx) (n : Nat) : List Code → St → (Ex → St → Out) → Out
  | [], st, κ => κ .normal st
  | c :: l, st, κ => evS cx n c st fun e s => match e with
    | .normal => evLS cx n l s κ
    | e => κ e s

theorem evLS_eq (cx : Cx) (n : Nat) : ∀ (l : List Code) (st : St) (κ : Ex → St → Out), evLS cx n l st κ = evL cx n l st κ
  | [], _, _ => rfl
  | c :: l, st, κ => by
    have ih : evLS cx n l = evL cx n l := by funext st κ; exact evLS_eq cx n l st κ
    unfold evLS evL
    rw [ih, evS_eq]
    try rfl

theorem runs_evS {cx : Cx} (hk : Ok cx) {fn : Func} {n0 n base : Nat} {c : Code} {st : St} {v v0 : V} {bs bs0 : List Blk}
    (h : evS cx n c st (kres cx fn base) = .done .ret ⟨[v0], bs0.map some⟩) (hv : VEnt v0 v) (hb : BEnt bs0 bs) : Runs cx n0 c st (Post cx fn base v bs) :=
  runs_ev hk (by rw [← evS_eq]; exact h) hv hb

theorem runsL_evS {cx : Cx} (hk : Ok cx) {fn : Func} {n0 n base : Nat} {l : List Code} {st : St} {v v0 : V} {bs bs0 : List Blk}
    (h : evLS cx n l st (kres cx fn base) = .done .ret ⟨[v0], bs0.map some⟩) (hv : VEnt v0 v) (hb : BEnt bs0 bs) : RunsL cx n0 l st (Post cx fn base v bs) :=
  runsL_ev hk (by rw [← evLS_eq]; exact h) hv hb

theorem RunsL.preS {cx : Cx} (hk : Ok cx) {n0 n k : Nat} {kt kh : List Nat} {m : Nat} {l : List Code} {st st' : St} {e : Ex} {R : Ex → St → Prop}
    (h : evLS cx n (l.take k) st (kfg n0 kt kh m) = .done e st') (hR : andThen (fun s => RunsL cx n0 (l.drop k) s R) R e st') : RunsL cx n0 l st R :=
  RunsL.pre hk (by rw [← evLS_eq]; exact h) hR

theorem RunsL.allS {cx : Cx} (hk : Ok cx) {n0 n : Nat} {kt kh : List Nat} {m : Nat} {l : List Code} {st st' : St} {e : Ex} {R : Ex → St → Prop}
    (h : evLS cx n l st (kfg n0 kt kh m) = .done e st') (hR : R e st') : RunsL cx n0 l st R :=
  RunsL.all hk (by rw [← evLS_eq]; exact h) hR
end Vx
