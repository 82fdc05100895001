/-
  Contracts of transcripts: what is asked of one.
-/
import Derived.Test.YteohgdpkdbckoaaLb62
import Derived.Test.YteohgdpkdbckoaaL6
import Derived.Test.YteohgdpkdbckoaaL8
namespace Go.Proofs.Yteohgdpkdbckoaa
open Go Vx Go.RowKit

abbrev tstr : Ty := .one .str
abbrev vstr (s : ByteArray) : V := .one (.str s)
abbrev tscr : Ty := .ptr [.sl [.int .u8]]
abbrev vscr (x : List (List D)) : V := .one (.rp [.sl [.int .u8]] [.l x] 0)
/-- A row of bytes, and how much of it is said; what is put behind it, as the program does. -/
abbrev SC := List (List D) × Nat
def apR (p : SC) (y : List (List D)) : SC := (p.1.take p.2 ++ y, p.2 + y.length)
def b4I (n : Int) : List (List D) := [[.i (wrapK .u8 (wrapK .u32 n / ((2 ^ min (24 : Int).toNat 32 : Nat) : Int)))], [.i (wrapK .u8 (wrapK .u32 n / ((2 ^ min (16 : Int).toNat 32 : Nat) : Int)))], [.i (wrapK .u8 (wrapK .u32 n / ((2 ^ min (8 : Int).toNat 32 : Nat) : Int)))], [.i (wrapK .u8 (wrapK .u32 n))]]
def fmR (p : SC) (n : Int) (y : List (List D)) : SC := apR (apR p (b4I n)) y
def ckA (p : SC) (y : List (List D)) : List Bool := [decide (p.2 ≤ p.1.length), decide (p.2 ≤ p.2), decide ((p.2 + y.length) * 1 ≤ 140737488355328), decide (p.2 + y.length < 4611686018427387904)]
noncomputable def ckF (p : SC) (n : Int) (y : List (List D)) : List Bool := okK .i64 n :: (ckA p (b4I n) ++ ckA (apR p (b4I n)) y)
def okR (p : SC) (x : List (List D)) : Prop := p.1 = x ∧ p.2 = x.length
theorem apR_ok {p : SC} {x y : List (List D)} (h : okR p x) : okR (apR p y) (x ++ y) := by
  obtain ⟨h1, h2⟩ := h
  unfold apR
  refine ⟨?_, by simp only [h2, List.length_append]⟩
  simp only [h1, h2, List.take_length]
theorem allT_app {a b : List Bool} (h1 : allT a) (h2 : allT b) : allT (a ++ b) := by
  intro c hc
  rcases List.mem_append.1 hc with h | h
  · exact h1 c h
  · exact h2 c h
theorem ckA_ok {p : SC} {x y : List (List D)} (h : okR p x) (hl : x.length + y.length < 70368744177664) : allT (ckA p y) := by
  obtain ⟨h1, h2⟩ := h
  refine allTc ?_ (allTc ?_ (allTc ?_ (allT1 ?_))) <;> (rw [decide_eq_true_iff]) <;> (try rw [h1]) <;> (try rw [h2]) <;> omega
def b4L (n : Nat) : List (List D) := [[.i ((n / 16777216 % 256 : Nat) : Int)], [.i ((n / 65536 % 256 : Nat) : Int)], [.i ((n / 256 % 256 : Nat) : Int)], [.i ((n % 256 : Nat) : Int)]]
theorem b4I_eq {n : Nat} : b4I (n : Int) = b4L n := by
  have e1 : wrapK .u8 (wrapK .u32 (n : Int) / ((2 ^ min (24 : Int).toNat 32 : Nat) : Int)) = ((n / 16777216 % 256 : Nat) : Int) := by
    rw [show ((2 ^ min (24 : Int).toNat 32 : Nat) : Int) = 16777216 from rfl]; simp only [wrapK]; omega
  have e2 : wrapK .u8 (wrapK .u32 (n : Int) / ((2 ^ min (16 : Int).toNat 32 : Nat) : Int)) = ((n / 65536 % 256 : Nat) : Int) := by
    rw [show ((2 ^ min (16 : Int).toNat 32 : Nat) : Int) = 65536 from rfl]; simp only [wrapK]; omega
  have e3 : wrapK .u8 (wrapK .u32 (n : Int) / ((2 ^ min (8 : Int).toNat 32 : Nat) : Int)) = ((n / 256 % 256 : Nat) : Int) := by
    rw [show ((2 ^ min (8 : Int).toNat 32 : Nat) : Int) = 256 from rfl]; simp only [wrapK]; omega
  have e4 : wrapK .u8 (wrapK .u32 (n : Int)) = ((n % 256 : Nat) : Int) := by simp only [wrapK]; omega
  unfold b4I b4L
  rw [e1, e2, e3, e4]
/-- A text's form. -/
def fmL (y : List (List D)) : List (List D) := b4L y.length ++ y
theorem b4L_len (n : Nat) : (b4L n).length = 4 := rfl
theorem fmL_len (y : List (List D)) : (fmL y).length = 4 + y.length := by unfold fmL; rw [List.length_append, b4L_len]
theorem fmR_ok {p : SC} {x y : List (List D)} (h : okR p x) : okR (fmR p (y.length : Nat) y) (x ++ fmL y) := by
  unfold fmR fmL
  rw [← List.append_assoc, b4I_eq]
  exact apR_ok (apR_ok h)
theorem ckF_ok {p : SC} {x y : List (List D)} (h : okR p x) (hl : x.length + 4 + y.length < 70368744177664) : allT (ckF p (y.length : Nat) y) := by
  unfold ckF
  refine allTc (okI (by omega) (by omega)) (allT_app (ckA_ok h ?_) (ckA_ok (apR_ok h) ?_))
  · show x.length + 4 < _; omega
  · rw [List.length_append]; show x.length + 4 + y.length < _; omega
theorem ofStr_len (s : ByteArray) : (ofStr s).length = s.size := by
  unfold ofStr
  rw [List.length_map, Array.length_toList]
  rfl
def askL (x : List (List D)) (q : Int) (l : List (List D)) : List (List D) := x ++ [[.i q]] ++ fmL l

noncomputable def sBScalarF : List D → Option (List Bool × V)
  | [.l [[.l x]], .s s] => some ([decide (x.length + s.size < 549755813888)], vb32 (restP (sha512N (askL x 2 (ofStr s)))))
  | _ => none
noncomputable def sBScalar : FSpec := spec [tscr, tstr] sBScalarF
noncomputable abbrev tabBScalar : List (FuncId × FSpec) := [(87, sHSum512), (58, sAReduce)]
set_option maxRecDepth 100000 in
theorem tabokBScalar : TabOK Try.prog (tabOf tabBScalar) := (.cons ok_HSum512 (.cons ok_AReduce .nil))

noncomputable def sBPointF : List D → Option (List Bool × V)
  | [.l [[.l x]], .s s] => some ([decide (x.length + s.size < 549755813888)], vb32 (rencP (rmapP (sha512N (askL x 3 (ofStr s))))))
  | _ => none
noncomputable def sBPoint : FSpec := spec [tscr, tstr] sBPointF
end Go.Proofs.Yteohgdpkdbckoaa

/-
  Contracts of signatures: the challenge.
-/
namespace Go.Proofs.Yteohgdpkdbckoaa
open Go Vx Go.RowKit

/-- The bytes of a packed number. -/
def pkL (c n : Nat) : List (List D) := (List.range c).map fun (i : Nat) => [.i ((digit 8 n i : Nat) : Int)]
theorem pkL_len (c n : Nat) : (pkL c n).length = c := by simp [pkL]
/-- A text put behind a transcript, under a label: as the program does it; plainly. -/
def addR (p : SC) (l : ByteArray) (n : Int) (y : List (List D)) : SC := fmR (fmR (apR p [[.i 1]]) (l.size : Nat) (ofStr l)) n y
noncomputable def ckAdd (p : SC) (l : ByteArray) (n : Int) (y : List (List D)) : List Bool := ckA p [[.i 1]] ++ (ckF (apR p [[.i 1]]) (l.size : Nat) (ofStr l) ++ ckF (fmR (apR p [[.i 1]]) (l.size : Nat) (ofStr l)) n y)
def addL (x : List (List D)) (l : ByteArray) (y : List (List D)) : List (List D) := x ++ [[.i 1]] ++ fmL (ofStr l) ++ fmL y
theorem addL_len (x : List (List D)) (l : ByteArray) (y : List (List D)) : (addL x l y).length = x.length + 1 + (4 + l.size) + (4 + y.length) := by
  unfold addL
  rw [List.length_append, List.length_append, List.length_append, fmL_len, fmL_len, ofStr_len]
  rfl
theorem addR_ok {p : SC} {x : List (List D)} (h : okR p x) (l : ByteArray) (y : List (List D)) {n : Int} (hn : n = (y.length : Nat)) : okR (addR p l n y) (addL x l y) := by
  subst hn
  have h1 := fmR_ok (y := ofStr l) (apR_ok (y := [[D.i 1]]) h)
  rw [ofStr_len] at h1
  exact fmR_ok h1
theorem ckAdd_ok {p : SC} {x : List (List D)} (h : okR p x) (l : ByteArray) (y : List (List D)) {n : Int} (hn : n = (y.length : Nat)) (hl : x.length + l.size + y.length < 35184372088832) : allT (ckAdd p l n y) := by
  subst hn
  have h0 := apR_ok (y := [[D.i 1]]) h
  have h1 := fmR_ok (y := ofStr l) h0
  have k1 := ckF_ok (y := ofStr l) h0 (by rw [List.length_append, ofStr_len]; show x.length + 1 + 4 + l.size < _; omega)
  rw [ofStr_len] at h1 k1
  refine allT_app (ckA_ok h (by show x.length + 1 < _; omega)) (allT_app k1 (ckF_ok h1 ?_))
  rw [List.length_append, List.length_append, fmL_len, ofStr_len]
  show x.length + 1 + (4 + l.size) + 4 + y.length < _
  omega
/-- A new transcript. -/
def newR (l : ByteArray) : SC := apR (b4I (l.size : Nat), 4) (ofStr l)
noncomputable def ckNew (l : ByteArray) : List Bool := okK .i64 (l.size : Nat) :: ckA (b4I (l.size : Nat), 4) (ofStr l)
def newL (l : ByteArray) : List (List D) := fmL (ofStr l)
theorem newR_ok (l : ByteArray) : okR (newR l) (newL l) := by
  unfold newR newL fmL
  rw [ofStr_len, ← b4I_eq]
  exact apR_ok ⟨rfl, rfl⟩
theorem ckNew_ok (l : ByteArray) (hl : l.size < 35184372088832) : allT (ckNew l) := by
  refine allTc (okI (by omega) (by omega)) (ckA_ok (x := b4I (l.size : Nat)) ⟨rfl, rfl⟩ ?_)
  rw [ofStr_len]
  show 4 + l.size < _
  omega
theorem newL_len (l : ByteArray) : (newL l).length = 4 + l.size := by unfold newL; rw [fmL_len, ofStr_len]
/-- What is asked of a row of bytes: how much of it is looked at. -/
theorem look_ok {p : SC} {x : List (List D)} (h : okR p x) : (p.1.drop 0).take p.2 = x := by
  rw [h.1, h.2, List.drop_zero, List.take_length]
abbrev sSign : ByteArray := ⟨#[115, 105, 103, 110]⟩
abbrev sPublic : ByteArray := ⟨#[112, 117, 98, 108, 105, 99]⟩
abbrev sCommit : ByteArray := ⟨#[99, 111, 109, 109, 105, 116]⟩
abbrev sMessage : ByteArray := ⟨#[109, 101, 115, 115, 97, 103, 101]⟩
abbrev sChallenge : ByteArray := ⟨#[99, 104, 97, 108, 108, 101, 110, 103, 101]⟩
def chalL (p r : Nat) (m : List (List D)) : List (List D) := addL (addL (addL (newL sSign) sPublic (pkL 32 p)) sCommit (pkL 32 r)) sMessage m
def chalR (p r : Nat) (m : List (List D)) : SC := addR (addR (addR (newR sSign) sPublic 32 (pkL 32 p)) sCommit 32 (pkL 32 r)) sMessage (m.length : Nat) m
noncomputable def chalN : Nat → Nat → List (List D) → Nat := hidden' fun p r m => restP (sha512N (askL (chalL p r m) 2 (ofStr sChallenge)))
theorem chalN_eq (p r : Nat) (m : List (List D)) : chalN p r m = restP (sha512N (askL (chalL p r m) 2 (ofStr sChallenge))) := by unfold chalN; rw [seal_eq]

noncomputable def sGChalF : List D → Option (List Bool × V)
  | [.n p, .n r, .l m] => some ([decide (m.length < 274877906944)], vb32 (chalN p r m))
  | _ => none
noncomputable def sGChal : FSpec := spec [tb32, tb32, tby] sGChalF
end Go.Proofs.Yteohgdpkdbckoaa

/-
  Contracts of signatures.
-/
namespace Go.Proofs.Yteohgdpkdbckoaa
open Go Vx Go.RowKit

noncomputable def bN : Nat := rencP (baseP ())
noncomputable def pubE (a : Nat) : Int := bif !okS a then 50 else bif decide (a = 0) then 50 else sumE [[.n a, .n bN]]
noncomputable def pubN (a : Nat) : Nat := bif !okS a then 0 else bif decide (a = 0) then 0 else sumN [[.n a, .n bN]]
def nonceL (a : Nat) (m : List (List D)) : List (List D) := [[.i 110], [.i 111], [.i 110], [.i 99], [.i 101]] ++ pkL 32 a ++ m
noncomputable def nonceK (a : Nat) (m : List (List D)) : Nat := restP (sha512N (nonceL a m))
noncomputable def nonceN (a : Nat) (m : List (List D)) : Nat := bif decide (nonceK a m = 0) then 1 else nonceK a m
abbrev tsg : Ty := .ag [.pk .u8 8 32, .pk .u8 8 32]
abbrev vsg0 (r s : Nat) : V := .ag (.ps [.pk .u8 8 32 r, .pk .u8 8 32 s])
abbrev vsg (r s : Nat) (e : Int) : V := .tup [.ag (.ps [.pk .u8 8 32 r, .pk .u8 8 32 s]), .one (.int .i64 e)]
def sg0 (e : Int) : V := .tup [.ag (.ps (ub0 ++ ub0)), .one (.int .i64 e)]
theorem sg0_ent (e : Int) : VEnt (sg0 e) (vsg 0 0 e) := VEnt.tup2 (UEnt.of (VEnt.dec (t := tsg) (ds := [.n 0, .n 0]) rfl rfl)) (UEnt.refl _)
noncomputable def sgR (a : Nat) (m : List (List D)) : Nat := sumN [[.n (nonceN a m), .n bN]]
noncomputable def sgC (a : Nat) (m : List (List D)) : Nat := chalN (pubN a) (sgR a m) m
noncomputable def sgX (a : Nat) (m : List (List D)) : Nat := bif okS (sgC a m) && okS a then restP (restP (sgC a m) * restP a) else 0
noncomputable def sgS (a : Nat) (m : List (List D)) : Nat := bif okS (nonceN a m) && okS (sgX a m) then restP (restP (nonceN a m) + restP (sgX a m)) else 0
noncomputable def sgF (a : Nat) (m : List (List D)) : Int := bif okS (nonceN a m) && okS (sgX a m) then 0 else 50
noncomputable def sgBad (a : Nat) (m : List (List D)) : Int := bif !decide (pubE a = 0) then pubE a else bif decide ((1048576 : Int) < (m.length : Nat)) then 3 else 0
noncomputable def verE (p : Nat) (m : List (List D)) (r s : Nat) : Int := bif decide ((1048576 : Int) < (m.length : Nat)) then 3 else bif !rdecBP p then 51 else bif !rdecBP r then 51 else bif !okS s then 50 else
  bif !decide (sumN [[.n s, .n bN]] = sumN [[.n 1, .n r], [.n (chalN p r m), .n p]]) then 120 else 0

noncomputable def sGPublicF : List D → Option (List Bool × V)
  | [.n a] => some ([], vse (pubN a) (pubE a))
  | _ => none
noncomputable def sGPublic : FSpec := spec [tb32] sGPublicF
noncomputable abbrev tabGPublic : List (FuncId × FSpec) := [(53, sAIsScalar), (20, sABase), (26, sASum)]
set_option maxRecDepth 100000 in
theorem tabokGPublic : TabOK Try.prog (tabOf tabGPublic) := (.cons ok_AIsScalar (.cons ok_ABase (.cons ok_ASum .nil)))
noncomputable abbrev ilGPublic : List (FuncId × Func) := []
set_option maxRecDepth 100000 in
theorem ilokGPublic : IlOK Try.prog (ilTab ilGPublic) := IlOK.nil

noncomputable def sGNonceF : List D → Option (List Bool × V)
  | [.n a, .l m] => some ([decide (m.length < 274877906944)], vb32 (nonceN a m))
  | _ => none
noncomputable def sGNonce : FSpec := spec [tb32, tby] sGNonceF
noncomputable abbrev ilGNonce : List (FuncId × Func) := []
set_option maxRecDepth 100000 in
theorem ilokGNonce : IlOK Try.prog (ilTab ilGNonce) := IlOK.nil

noncomputable def sGSignF : List D → Option (List Bool × V)
  | [.n a, .l m] => some ([decide (m.length < 274877906944)], vsg (bif decide (sgBad a m = 0) then sgR a m else 0) (bif decide (sgBad a m = 0) then sgS a m else 0) (bif decide (sgBad a m = 0) then sgF a m else sgBad a m))
  | _ => none
noncomputable def sGSign : FSpec := spec [tb32, tby] sGSignF
noncomputable abbrev ilGSign : List (FuncId × Func) := []
set_option maxRecDepth 100000 in
theorem ilokGSign : IlOK Try.prog (ilTab ilGSign) := IlOK.nil

noncomputable def sGVerifyF : List D → Option (List Bool × V)
  | [.n p, .l m, .n r, .n s] => some ([decide (m.length < 274877906944)], vi64 (verE p m r s))
  | _ => none
noncomputable def sGVerify : FSpec := spec [tb32, tby, tsg] sGVerifyF
noncomputable abbrev ilGVerify : List (FuncId × Func) := []
set_option maxRecDepth 100000 in
theorem ilokGVerify : IlOK Try.prog (ilTab ilGVerify) := IlOK.nil
end Go.Proofs.Yteohgdpkdbckoaa
