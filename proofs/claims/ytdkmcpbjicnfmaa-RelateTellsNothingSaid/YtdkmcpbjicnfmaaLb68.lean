/-
  Contracts of signatures: the challenge.
-/
import Derived.Test.YtdkmcpbjicnfmaaLb67
namespace Go.Proofs.Ytdkmcpbjicnfmaa
open Go Vx Go.RowKit

/-- The bytes of a packed number. -/
def pkL (c n : Nat) : List (List D) := (List.range c).map fun (i : Nat) => [.i ((digit 8 n i : Nat) : Int)]
theorem pkL_len (c n : Nat) : (pkL c n).length = c := by simp [pkL]
/-- A text put behind a transcript, under a label: as the program does it; plainly. -/
def addR (p : SC) (l : ByteArray) (n : Int) (y : List (List D)) : SC := fmR (fmR (apR p [[.i 1]]) (l.size : Nat) (ofStr l)) n y
noncomputable def ckAdd (p : SC) (l : ByteArray) (n : Int) (y : List (List D)) : List Bool := ckA p [[.i 1]] ++ (ckF (apR p [[.i 1]]) (l.size : Nat) (ofStr l) ++ ckF (fmR (apR p [[.i 1]]) (l.size : Nat) (ofStr l)) n y)
def addL (x : List (List D)) (l : ByteArray) (y : List (List D)) : List (List D) := x ++ [[.i 1]] ++ fmL (ofStr l) ++ fmL y
theorem addL_len (x : List (List D)) (l : ByteArray) (y : List (List D)) : (addL x l y).length = x.length + 1 + (4 + l.size) + (4 + y.length) := by
  unfold addL
  rw [List.length_append, List.length_append, List.length_append, fmL_len, fmL_len, ofStr_len]
  rfl
theorem addR_ok {p : SC} {x : List (List D)} (h : okR p x) (l : ByteArray) (y : List (List D)) {n : Int} (hn : n = (y.length : Nat)) : okR (addR p l n y) (addL x l y) := by
  subst hn
  have h1 := fmR_ok (y := ofStr l) (apR_ok (y := [[D.i 1]]) h)
  rw [ofStr_len] at h1
  exact fmR_ok h1
theorem ckAdd_ok {p : SC} {x : List (List D)} (h : okR p x) (l : ByteArray) (y : List (List D)) {n : Int} (hn : n = (y.length : Nat)) (hl : x.length + l.size + y.length < 35184372088832) : allT (ckAdd p l n y) := by
  subst hn
  have h0 := apR_ok (y := [[D.i 1]]) h
  have h1 := fmR_ok (y := ofStr l) h0
  have k1 := ckF_ok (y := ofStr l) h0 (by rw [List.length_append, ofStr_len]; show x.length + 1 + 4 + l.size < _; omega)
  rw [ofStr_len] at h1 k1
  refine allT_app (ckA_ok h (by show x.length + 1 < _; omega)) (allT_app k1 (ckF_ok h1 ?_))
  rw [List.length_append, List.length_append, fmL_len, ofStr_len]
  show x.length + 1 + (4 + l.size) + 4 + y.length < _
  omega
/-- A new transcript. -/
def newR (l : ByteArray) : SC := apR (b4I (l.size : Nat), 4) (ofStr l)
noncomputable def ckNew (l : ByteArray) : List Bool := okK .i64 (l.size : Nat) :: ckA (b4I (l.size : Nat), 4) (ofStr l)
def newL (l : ByteArray) : List (List D) := fmL (ofStr l)
theorem newR_ok (l : ByteArray) : okR (newR l) (newL l) := by
  unfold newR newL fmL
  rw [ofStr_len, ← b4I_eq]
  exact apR_ok ⟨rfl, rfl⟩
theorem ckNew_ok (l : ByteArray) (hl : l.size < 35184372088832) : allT (ckNew l) := by
  refine allTc (okI (by omega) (by omega)) (ckA_ok (x := b4I (l.size : Nat)) ⟨rfl, rfl⟩ ?_)
  rw [ofStr_len]
  show 4 + l.size < _
  omega
theorem newL_len (l : ByteArray) : (newL l).length = 4 + l.size := by unfold newL; rw [fmL_len, ofStr_len]
abbrev sCommit : ByteArray := ⟨#[99, 111, 109, 109, 105, 116]⟩
abbrev sChallenge : ByteArray := ⟨#[99, 104, 97, 108, 108, 101, 110, 103, 101]⟩
end Go.Proofs.Ytdkmcpbjicnfmaa
