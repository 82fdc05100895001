/-
  Contracts of signatures: the challenge.
-/
import Derived.Test.YtdkmcpbjicnfmaaGreatLb67
namespace Go.Proofs.YtdkmcpbjicnfmaaGreat
open Go Vx Go.RowKit

/-- The bytes of a packed number. -/
def pkL (c n : Nat) : List (List D) := (List.range c).map fun (i : Nat) => [.i ((digit 8 n i : Nat) : Int)]
theorem pkL_len (c n : Nat) : (pkL c n).length = c := by simp [pkL]
/-- A text put behind a transcript, under a label: as the program does it; plainly. -/
def addR (p : SC) (l : ByteArray) (n : Int) (y : List (List D)) : SC := fmR (fmR (apR p [[.i 1]]) (l.size : Nat) (ofStr l)) n y
noncomputable def ckAdd (p : SC) (l : ByteArray) (n : Int) (y : List (List D)) : List Bool := ckA p [[.i 1]] ++ (ckF (apR p [[.i 1]]) (l.size : Nat) (ofStr l) ++ ckF (fmR (apR p [[.i 1]]) (l.size : Nat) (ofStr l)) n y)
def addL (x : List (List D)) (l : ByteArray) (y : List (List D)) : List (List D) := x ++ [[.i 1]] ++ fmL (ofStr l) ++ fmL y
theorem addL_len (x : List (List D)) (l : ByteArray) (y : List (List D)) : (addL x l y).length = x.length + 1 + (4 + l.size) + (4 + y.length) := by
  unfold addL
  rw [List.length_append, List.length_append, List.length_append, fmL_len, fmL_len, ofStr_len]
  rfl
theorem addR_ok {p : SC} {x : List (List D)} (h : okR p x) (l : ByteArray) (y : List (List D)) {n : Int} (hn : n = (y.length : Nat)) : okR (addR p l n y) (addL x l y) := by
  subst hn
  have h1 := fmR_ok (y := ofStr l) (apR_ok (y := [[D.i 1]]) h)
  rw [ofStr_len] at h1
  exact fmR_ok h1
theorem ckAdd_ok {p : SC} {x : List (List D)} (h : okR p x) (l : ByteArray) (y : List (List D)) {n : Int} (hn : n = (y.length : Nat)) (hl : x.length + l.size + y.length < 35184372088832) : allT (ckAdd p l n y) := by
  subst hn
  have h0 := apR_ok (y := [[D.i 1]]) h
  have h1 := fmR_ok (y := ofStr l) h0
  have k1 := ckF_ok (y := ofStr l) h0 (by rw [List.length_append, ofStr_len]; show x.length + 1 + 4 + l.size < _; omega)
  rw [ofStr_len] at h1 k1
  refine allT_app (ckA_ok h (by show x.length + 1 < _; omega)) (allT_app k1 (ckF_ok h1 ?_))
  rw [List.length_append, List.length_append, fmL_len, ofStr_len]
  show x.length + 1 + (4 + l.size) + 4 + y.length < _
  omega
/-- A new transcript. -/
def newR (l : ByteArray) : SC := apR (b4I (l.size : Nat), 4) (ofStr l)
noncomputable def ckNew (l : ByteArray) : List Bool := okK .i64 (l.size : Nat) :: ckA (b4I (l.size : Nat), 4) (ofStr l)
def newL (l : ByteArray) : List (List D) := fmL (ofStr l)
theorem newR_ok (l : ByteArray) : okR (newR l) (newL l) := by
  unfold newR newL fmL
  rw [ofStr_len, ← b4I_eq]
  exact apR_ok ⟨rfl, rfl⟩
theorem ckNew_ok (l : ByteArray) (hl : l.size < 35184372088832) : allT (ckNew l) := by
  refine allTc (okI (by omega) (by omega)) (ckA_ok (x := b4I (l.size : Nat)) ⟨rfl, rfl⟩ ?_)
  rw [ofStr_len]
  show 4 + l.size < _
  omega
theorem newL_len (l : ByteArray) : (newL l).length = 4 + l.size := by unfold newL; rw [fmL_len, ofStr_len]
/-- What is asked of a row of bytes: how much of it is looked at. -/
theorem look_ok {p : SC} {x : List (List D)} (h : okR p x) : (p.1.drop 0).take p.2 = x := by
  rw [h.1, h.2, List.drop_zero, List.take_length]
abbrev sSign : ByteArray := ⟨#[115, 105, 103, 110]⟩
abbrev sPublic : ByteArray := ⟨#[112, 117, 98, 108, 105, 99]⟩
abbrev sCommit : ByteArray := ⟨#[99, 111, 109, 109, 105, 116]⟩
abbrev sMessage : ByteArray := ⟨#[109, 101, 115, 115, 97, 103, 101]⟩
abbrev sChallenge : ByteArray := ⟨#[99, 104, 97, 108, 108, 101, 110, 103, 101]⟩
def chalL (p r : Nat) (m : List (List D)) : List (List D) := addL (addL (addL (newL sSign) sPublic (pkL 32 p)) sCommit (pkL 32 r)) sMessage m
def chalR (p r : Nat) (m : List (List D)) : SC := addR (addR (addR (newR sSign) sPublic 32 (pkL 32 p)) sCommit 32 (pkL 32 r)) sMessage (m.length : Nat) m
noncomputable def chalN : Nat → Nat → List (List D) → Nat := hidden' fun p r m => restP (sha512N (askL (chalL p r m) 2 (ofStr sChallenge)))
theorem chalN_eq (p r : Nat) (m : List (List D)) : chalN p r m = restP (sha512N (askL (chalL p r m) 2 (ofStr sChallenge))) := by unfold chalN; rw [seal_eq]

noncomputable def sGChalF : List D → Option (List Bool × V)
  | [.n p, .n r, .l m] => some ([decide (m.length < 274877906944)], vb32 (chalN p r m))
  | _ => none
noncomputable def sGChal : FSpec := spec [tb32, tb32, tby] sGChalF
noncomputable abbrev tabGChal : List (FuncId × FSpec) := [(15, sBScalar)]
set_option maxRecDepth 100000 in
theorem tabokGChal : TabOK Tryz.prog (tabOf tabGChal) := (.cons ok_BScalar .nil)
noncomputable abbrev ilGChal : List (FuncId × Func) := [(11, Tryz.f11), (13, Tryz.f13), (46, Tryz.f46), (48, Tryz.f48)]
set_option maxRecDepth 100000 in
theorem ilokGChal : IlOK Tryz.prog (ilTab ilGChal) := (IlOK.cons Tryz.func11 (by kernel_rfl) (IlOK.cons Tryz.func13 (by kernel_rfl) (IlOK.cons Tryz.func46 (by kernel_rfl) (IlOK.cons Tryz.func48 (by kernel_rfl) IlOK.nil))))
set_option maxRecDepth 100000 in
theorem ok_GChal : FnOK Tryz.prog 63 sGChal := by
  refine fn_flat (cx := mkcf true false tabGChal ilGChal []) (c := bodyOf Tryz.f63) Tryz.func63 (by kernel_rfl) (by kernel_rfl) rfl ?_
  intro ds chk v vs hF ht he hr base
  unfold sGChalF at hF
  split at hF
  · rename_i p r m
    cases hF
    have hvs : vs = [vb32 p, vb32 r, vby m] := by simp only [encA, encV, encP, encL, Option.some.injEq] at he; exact he.symm
    subst hvs
    have hm : m.length < 274877906944 := of_decide_eq_true (ht _ (by simp))
    have hev : evS (mkcf true false tabGChal ilGChal []) 400 (bodyOf Tryz.f63) ⟨t0 Tryz.f63 [vb32 p, vb32 r, vby m], []⟩ (kres (mkcf true false tabGChal ilGChal []) Tryz.f63 base) =
        chks (ckNew sSign ++ (ckAdd (newR sSign) sPublic 32 (pkL 32 p) ++ (ckAdd (addR (newR sSign) sPublic 32 (pkL 32 p)) sCommit 32 (pkL 32 r) ++ (ckAdd (addR (addR (newR sSign) sPublic 32 (pkL 32 p)) sCommit 32 (pkL 32 r)) sMessage (m.length : Nat) m ++
          [decide (0 + (chalR p r m).2 ≤ (chalR p r m).1.length), decide ((((chalR p r m).1.drop 0).take (chalR p r m).2).length + sChallenge.size < 549755813888)]))))
          (outV (vb32 (restP (sha512N (askL (((chalR p r m).1.drop 0).take (chalR p r m).2) 2 (ofStr sChallenge)))))) := by kernel_rfl
    have o1 := newR_ok sSign
    have o2 := addR_ok o1 sPublic (pkL 32 p) (n := 32) (by rw [pkL_len]; rfl)
    have o3 := addR_ok o2 sCommit (pkL 32 r) (n := 32) (by rw [pkL_len]; rfl)
    have o4 := addR_ok o3 sMessage m (n := (m.length : Nat)) rfl
    have l1 : (newL sSign).length = 8 := newL_len _
    have l2 : (addL (newL sSign) sPublic (pkL 32 p)).length = 55 := by rw [addL_len, l1, pkL_len]; rfl
    have l3 : (addL (addL (newL sSign) sPublic (pkL 32 p)) sCommit (pkL 32 r)).length = 102 := by rw [addL_len, l2, pkL_len]; rfl
    have l4 : (chalL p r m).length = 102 + 1 + (4 + 7) + (4 + m.length) := by unfold chalL; rw [addL_len, l3]; rfl
    have o4' : okR (chalR p r m) (chalL p r m) := o4
    rw [look_ok o4', chks_true] at hev
    rotate_left 1
    · refine allT_app (ckNew_ok _ (by decide)) (allT_app (ckAdd_ok o1 _ _ (by rw [pkL_len]; rfl) (by rw [l1, pkL_len]; decide)) (allT_app (ckAdd_ok o2 _ _ (by rw [pkL_len]; rfl) (by rw [l2, pkL_len]; decide)) (allT_app (ckAdd_ok o3 _ _ rfl (by rw [l3]; show 102 + 7 + m.length < _; omega)) ?_)))
      refine allTc (by rw [decide_eq_true_iff, o4'.1, o4'.2]; omega) (allT1 ?_)
      rw [decide_eq_true_iff, l4]
      show 102 + 1 + (4 + 7) + (4 + m.length) + 9 < _
      omega
    rw [← chalN_eq] at hev
    exact runs_evS (mkokf (sy := true) (rw := false) tabokGChal ilokGChal JsOK.nil) (bs0 := []) hev (VEnt.refl _) trivial
  · cases hF
end Go.Proofs.YtdkmcpbjicnfmaaGreat
