/-
  Contracts of transcripts: what is asked of one.
-/
import Derived.Test.YtdkmcpbjicnfmaaLb62
import Derived.Test.YtdkmcpbjicnfmaaL6
import Derived.Test.YtdkmcpbjicnfmaaL8
set_option maxRecDepth 100000
namespace Go.Proofs.Ytdkmcpbjicnfmaa
open Go Vx Go.RowKit

abbrev tstr : Ty := .one .str
abbrev vstr (s : ByteArray) : V := .one (.str s)
abbrev tscr : Ty := .ptr [.sl [.int .u8]]
abbrev vscr (x : List (List D)) : V := .one (.rp [.sl [.int .u8]] [.l x] 0)
abbrev SC := List (List D) × Nat
def apR (p : SC) (y : List (List D)) : SC := (p.1.take p.2 ++ y, p.2 + y.length)
def b4I (n : Int) : List (List D) := [[.i (wrapK .u8 (wrapK .u32 n / ((2 ^ min (24 : Int).toNat 32 : Nat) : Int)))], [.i (wrapK .u8 (wrapK .u32 n / ((2 ^ min (16 : Int).toNat 32 : Nat) : Int)))], [.i (wrapK .u8 (wrapK .u32 n / ((2 ^ min (8 : Int).toNat 32 : Nat) : Int)))], [.i (wrapK .u8 (wrapK .u32 n))]]
def fmR (p : SC) (n : Int) (y : List (List D)) : SC := apR (apR p (b4I n)) y
def ckA (p : SC) (y : List (List D)) : List Bool := [decide (p.2 ≤ p.1.length), decide (p.2 ≤ p.2), decide ((p.2 + y.length) * 1 ≤ 140737488355328), decide (p.2 + y.length < 4611686018427387904)]
noncomputable def ckF (p : SC) (n : Int) (y : List (List D)) : List Bool := okK .i64 n :: (ckA p (b4I n) ++ ckA (apR p (b4I n)) y)
def okR (p : SC) (x : List (List D)) : Prop := p.1 = x ∧ p.2 = x.length
theorem apR_ok {p : SC} {x y : List (List D)} (h : okR p x) : okR (apR p y) (x ++ y) := by
 obtain ⟨h1, h2⟩ := h
 unfold apR
 refine ⟨?_, by simp only [h2, List.length_append]⟩
 simp only [h1, h2, List.take_length]
theorem allT_app {a b : List Bool} (h1 : allT a) (h2 : allT b) : allT (a ++ b) := by
 intro c hc
 rcases List.mem_append.1 hc with h | h
 · exact h1 c h
 · exact h2 c h
theorem ckA_ok {p : SC} {x y : List (List D)} (h : okR p x) (hl : x.length + y.length < 70368744177664) : allT (ckA p y) := by
 obtain ⟨h1, h2⟩ := h
 refine allTc ?_ (allTc ?_ (allTc ?_ (allT1 ?_))) <;> (rw [decide_eq_true_iff]) <;> (try rw [h1]) <;> (try rw [h2]) <;> omega
def b4L (n : Nat) : List (List D) := [[.i ((n / 16777216 % 256 : Nat) : Int)], [.i ((n / 65536 % 256 : Nat) : Int)], [.i ((n / 256 % 256 : Nat) : Int)], [.i ((n % 256 : Nat) : Int)]]
theorem b4I_eq {n : Nat} : b4I (n : Int) = b4L n := by
 have e1 : wrapK .u8 (wrapK .u32 (n : Int) / ((2 ^ min (24 : Int).toNat 32 : Nat) : Int)) = ((n / 16777216 % 256 : Nat) : Int) := by
  rw [show ((2 ^ min (24 : Int).toNat 32 : Nat) : Int) = 16777216 from rfl]; simp only [wrapK]; omega
 have e2 : wrapK .u8 (wrapK .u32 (n : Int) / ((2 ^ min (16 : Int).toNat 32 : Nat) : Int)) = ((n / 65536 % 256 : Nat) : Int) := by
  rw [show ((2 ^ min (16 : Int).toNat 32 : Nat) : Int) = 65536 from rfl]; simp only [wrapK]; omega
 have e3 : wrapK .u8 (wrapK .u32 (n : Int) / ((2 ^ min (8 : Int).toNat 32 : Nat) : Int)) = ((n / 256 % 256 : Nat) : Int) := by
  rw [show ((2 ^ min (8 : Int).toNat 32 : Nat) : Int) = 256 from rfl]; simp only [wrapK]; omega
 have e4 : wrapK .u8 (wrapK .u32 (n : Int)) = ((n % 256 : Nat) : Int) := by simp only [wrapK]; omega
 unfold b4I b4L
 rw [e1, e2, e3, e4]
def fmL (y : List (List D)) : List (List D) := b4L y.length ++ y
theorem b4L_len (n : Nat) : (b4L n).length = 4 := rfl
theorem fmL_len (y : List (List D)) : (fmL y).length = 4 + y.length := by unfold fmL; rw [List.length_append, b4L_len]
theorem fmR_ok {p : SC} {x y : List (List D)} (h : okR p x) : okR (fmR p (y.length : Nat) y) (x ++ fmL y) := by
 unfold fmR fmL
 rw [← List.append_assoc, b4I_eq]
 exact apR_ok (apR_ok h)
theorem ckF_ok {p : SC} {x y : List (List D)} (h : okR p x) (hl : x.length + 4 + y.length < 70368744177664) : allT (ckF p (y.length : Nat) y) := by
 unfold ckF
 refine allTc (okI (by omega) (by omega)) (allT_app (ckA_ok h ?_) (ckA_ok (apR_ok h) ?_))
 · show x.length + 4 < _; omega
 · rw [List.length_append]; show x.length + 4 + y.length < _; omega
theorem ofStr_len (s : ByteArray) : (ofStr s).length = s.size := by
 unfold ofStr
 rw [List.length_map, Array.length_toList]
 rfl
def askL (x : List (List D)) (q : Int) (l : List (List D)) : List (List D) := x ++ [[.i q]] ++ fmL l

noncomputable def sBScalarF : List D → Option (List Bool × V)
 | [.l [[.l x]], .s s] => some ([decide (x.length + s.size < 549755813888)], vb32 (restP (sha512N (askL x 2 (ofStr s)))))
 | _ => none
noncomputable def sBScalar : FSpec := spec [tscr, tstr] sBScalarF
noncomputable abbrev tabBScalar : List (FuncId × FSpec) := [(75, sHSum512), (41, sAReduce)]
theorem tabokBScalar : TabOK Try.prog (tabOf tabBScalar) := (.cons ok_HSum512 (.cons ok_AReduce .nil))
noncomputable abbrev ilBScalar : List (FuncId × Func) := [(42, Try.f42), (39, Try.f39)]
theorem ilokBScalar : IlOK Try.prog (ilTab ilBScalar) := (IlOK.cons Try.func42 (by kernel_rfl) (IlOK.cons Try.func39 (by kernel_rfl) IlOK.nil))
theorem ok_BScalar : FnOK Try.prog 13 sBScalar := by
 refine fn_flat (cx := mkcf true false tabBScalar ilBScalar []) (c := bodyOf Try.f13) Try.func13 (by kernel_rfl) (by kernel_rfl) rfl ?_
 intro ds chk v vs hF ht he hr base
 unfold sBScalarF at hF
 split at hF
 · rename_i x s
   cases hF
   have hvs : vs = [vscr x, vstr s] := by simp only [encA, encV, encP, encL, Option.some.injEq] at he; exact he.symm
   subst hvs
   have hx : x.length + s.size < 549755813888 := of_decide_eq_true (ht _ (by simp))
   have hsl := ofStr_len s
   have hev : evS (mkcf true false tabBScalar ilBScalar []) 400 (bodyOf Try.f13) ⟨t0 Try.f13 [vscr x, vstr s], []⟩ (kres (mkcf true false tabBScalar ilBScalar []) Try.f13 base) =
    chks ([decide ((0 + x.length) * 1 ≤ 140737488355328), decide (0 + x.length < 4611686018427387904)] ++ (ckA ([] ++ x, 0 + x.length) [[.i 2]] ++ (ckF (apR ([] ++ x, 0 + x.length) [[.i 2]]) (s.size : Nat) (ofStr s) ++
     [decide (0 + (fmR (apR ([] ++ x, 0 + x.length) [[.i 2]]) (s.size : Nat) (ofStr s)).2 ≤ (fmR (apR ([] ++ x, 0 + x.length) [[.i 2]]) (s.size : Nat) (ofStr s)).1.length), decide ((((fmR (apR ([] ++ x, 0 + x.length) [[.i 2]]) (s.size : Nat) (ofStr s)).1.drop 0).take (fmR (apR ([] ++ x, 0 + x.length) [[.i 2]]) (s.size : Nat) (ofStr s)).2).length < 1099511627776)])))
     (outV (vb32 (restP (sha512N (((fmR (apR ([] ++ x, 0 + x.length) [[.i 2]]) (s.size : Nat) (ofStr s)).1.drop 0).take (fmR (apR ([] ++ x, 0 + x.length) [[.i 2]]) (s.size : Nat) (ofStr s)).2))))) := by kernel_rfl
   have ho1 : okR ([] ++ x, 0 + x.length) x := ⟨List.nil_append x, Nat.zero_add _⟩
   have ho2 := apR_ok (y := [[D.i 2]]) ho1
   have ho3 := fmR_ok (y := ofStr s) ho2
   rw [hsl] at ho3
   rw [chks_true] at hev
   rotate_left 1
   · refine allT_app (allTc (by rw [decide_eq_true_iff]; omega) (allT1 (by rw [decide_eq_true_iff]; omega))) (allT_app (ckA_ok ho1 (by show x.length + 1 < _; omega)) (allT_app ?_ ?_))
     · have := ckF_ok (y := ofStr s) ho2 (by rw [List.length_append, hsl]; show x.length + 1 + 4 + s.size < _; omega)
       rw [hsl] at this
       exact this
     · have hl : (x ++ [[D.i 2]] ++ fmL (ofStr s)).length = x.length + 1 + (4 + s.size) := by rw [List.length_append, List.length_append, fmL_len, hsl]; rfl
       refine allTc (by rw [decide_eq_true_iff, ho3.1, ho3.2]; omega) (allT1 ?_)
       rw [decide_eq_true_iff, ho3.1, List.length_take, List.length_drop]
       omega
   rw [ho3.1, ho3.2, List.drop_zero, List.take_length] at hev
   exact runs_evS (mkokf (sy := true) (rw := false) tabokBScalar ilokBScalar JsOK.nil) (bs0 := []) hev (VEnt.refl _) trivial
 · cases hF
end Go.Proofs.Ytdkmcpbjicnfmaa

/-
  Contracts of signatures: the challenge.
-/
namespace Go.Proofs.Ytdkmcpbjicnfmaa
open Go Vx Go.RowKit

def addL (x : List (List D)) (l : ByteArray) (y : List (List D)) : List (List D) := x ++ [[.i 1]] ++ fmL (ofStr l) ++ fmL y
def newL (l : ByteArray) : List (List D) := fmL (ofStr l)
end Go.Proofs.Ytdkmcpbjicnfmaa

/-
  Contracts of signatures.
-/
namespace Go.Proofs.Ytdkmcpbjicnfmaa
open Go Vx Go.RowKit
end Go.Proofs.Ytdkmcpbjicnfmaa
