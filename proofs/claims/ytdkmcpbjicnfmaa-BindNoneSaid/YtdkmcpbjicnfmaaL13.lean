/-
  The document's transcripts: a text's form, what is asked.
-/
import Derived.Test.YtdkmcpbjicnfmaaL12
import Derived.Test.YtdkmcpbjicnfmaaLb66
import Derived.Test.YtdkmcpbjicnfmaaL8
set_option maxRecDepth 100000
namespace Go.Proofs.Ytdkmcpbjicnfmaa
open Go Vx Go.RowKit

theorem wrap8_nat (n : Nat) (h : n < 256) : wrapK .u8 (n : Nat) = (n : Nat) := by simp only [wrapK]; omega
def b4T (n : Int) : List (List D) := [[.i (wrapK .u8 ((n.tdiv 16777216).tmod 256))], [.i (wrapK .u8 ((n.tdiv 65536).tmod 256))], [.i (wrapK .u8 ((n.tdiv 256).tmod 256))], [.i (wrapK .u8 (n.tmod 256))]]
theorem b4T_eq (n : Nat) : b4T (n : Nat) = b4L n := by
 unfold b4T b4L
 rw [show (((n : Nat) : Int).tdiv 16777216) = ((n / 16777216 : Nat) : Int) from rfl, show (((n : Nat) : Int).tdiv 65536) = ((n / 65536 : Nat) : Int) from rfl, show (((n : Nat) : Int).tdiv 256) = ((n / 256 : Nat) : Int) from rfl,
  show ((n / 16777216 : Nat) : Int).tmod 256 = ((n / 16777216 % 256 : Nat) : Int) from rfl, show ((n / 65536 : Nat) : Int).tmod 256 = ((n / 65536 % 256 : Nat) : Int) from rfl, show ((n / 256 : Nat) : Int).tmod 256 = ((n / 256 % 256 : Nat) : Int) from rfl,
  show ((n : Nat) : Int).tmod 256 = ((n % 256 : Nat) : Int) from rfl, wrap8_nat _ (Nat.mod_lt _ (by decide)), wrap8_nat _ (Nat.mod_lt _ (by decide)), wrap8_nat _ (Nat.mod_lt _ (by decide)), wrap8_nat _ (Nat.mod_lt _ (by decide))]
def isB (x : List (List D)) : Prop := ∀ d ∈ x, ∃ n : Nat, n < 256 ∧ d = [.i (n : Int)]
theorem isB_b4L (n : Nat) : isB (b4L n) := by
 intro d hd
 unfold b4L at hd
 simp only [List.mem_cons, List.not_mem_nil, or_false] at hd
 rcases hd with rfl | rfl | rfl | rfl <;> exact ⟨_, Nat.mod_lt _ (by decide), rfl⟩
theorem ofStr_app (a b : ByteArray) : ofStr (a ++ b) = ofStr a ++ ofStr b := by
 unfold ofStr
 rw [ByteArray.data_append, Array.toList_append, List.map_append]
theorem ofStr_to {x : List (List D)} (h : isB x) : ofStr (toStr x) = x := by
 unfold ofStr toStr
 show ((x.map fun d => UInt8.ofNat (one1 d).toI.toNat).toArray.toList.map fun b => [.i (b.toNat : Int)]) = x
 rw [List.toList_toArray, List.map_map]
 induction x with
 | nil => rfl
 | cons d x ih =>
   rw [List.map_cons, ih fun e he => h e (List.mem_cons_of_mem _ he)]
   obtain ⟨n, hn, rfl⟩ := h d (List.mem_cons_self ..)
   refine congrArg (· :: x) ?_
   show [D.i ((UInt8.ofNat n).toNat : Int)] = [D.i (n : Int)]
   rw [UInt8.toNat_ofNat', Nat.mod_eq_of_lt hn]
theorem toStr_size (x : List (List D)) : (toStr x).size = x.length := by
 unfold toStr
 show (x.map fun d => UInt8.ofNat (one1 d).toI.toNat).toArray.size = x.length
 simp
theorem size_app (a b : ByteArray) : (a ++ b).size = a.size + b.size := ByteArray.size_append
def formS (l : ByteArray) : ByteArray := toStr (b4L l.size) ++ l
theorem ofStr_form (l : ByteArray) : ofStr (formS l) = fmL (ofStr l) := by
 unfold formS fmL
 rw [ofStr_app, ofStr_to (isB_b4L _), ofStr_len]
theorem formS_size (l : ByteArray) : (formS l).size = 4 + l.size := by
 unfold formS
 rw [size_app, toStr_size]
 rfl

noncomputable def sRFormF : List D → Option (List Bool × V)
 | [.s l] => some ([decide (l.size < 1099511627776)], vstr (formS l))
 | _ => none
noncomputable def sRForm : FSpec := spec [tstr] sRFormF
noncomputable abbrev tabRForm : List (FuncId × FSpec) := []
theorem tabokRForm : TabOK Try.prog (tabOf tabRForm) := TabOK.nil
theorem ok_RForm : FnOK Try.prog 69 sRForm := by
 refine fn_flat (cx := mkcf true false tabRForm [] []) (c := bodyOf Try.f69) Try.func69 (by kernel_rfl) (by kernel_rfl) rfl ?_
 intro ds chk v vs hF ht he hr base
 unfold sRFormF at hF
 split at hF
 · rename_i l
   cases hF
   have hvs : vs = [vstr l] := by simp only [encA, encV, encP, encL, Option.some.injEq] at he; exact he.symm
   subst hvs
   have hl : l.size < 1099511627776 := of_decide_eq_true (ht _ (by simp))
   have hev : evS (mkcf true false tabRForm [] []) 200 (bodyOf Try.f69) ⟨t0 Try.f69 [vstr l], []⟩ (kres (mkcf true false tabRForm [] []) Try.f69 base) =
    chks [okK .i64 (l.size : Nat), okK .i64 (((l.size : Nat) : Int).tdiv 16777216), okK .i64 (((l.size : Nat) : Int).tdiv 65536), okK .i64 (((l.size : Nat) : Int).tdiv 256), decide ((toStr (b4T (l.size : Nat))).size + l.size < 9223372036854775808)] (outV (vstr (toStr (b4T (l.size : Nat)) ++ l))) := by kernel_rfl
   rw [b4T_eq, toStr_size, chks_true] at hev
   · exact runs_evS (mkokf (sy := true) (rw := false) tabokRForm IlOK.nil JsOK.nil) (bs0 := []) hev (VEnt.refl _) trivial
   · rw [show (((l.size : Nat) : Int).tdiv 16777216) = ((l.size / 16777216 : Nat) : Int) from rfl, show (((l.size : Nat) : Int).tdiv 65536) = ((l.size / 65536 : Nat) : Int) from rfl, show (((l.size : Nat) : Int).tdiv 256) = ((l.size / 256 : Nat) : Int) from rfl]
     refine allTc (okI (by omega) (by omega)) (allTc (okI (by omega) (by omega)) (allTc (okI (by omega) (by omega)) (allTc (okI (by omega) (by omega)) (allT1 ?_))))
     rw [decide_eq_true_iff, b4L_len]
     omega
 · cases hF
end Go.Proofs.Ytdkmcpbjicnfmaa

/-
  The document's transcripts: the contract of Scalar.
-/
namespace Go.Proofs.Ytdkmcpbjicnfmaa
open Go Vx Go.RowKit

abbrev tscr10 : Ty := .ptr [.str]
abbrev vscr10 (x : ByteArray) : V := .one (.rp [.str] [.s x] 0)
abbrev askS (x l : ByteArray) : ByteArray := x ++ ⟨#[2]⟩ ++ formS l
theorem askS_eq (x l : ByteArray) : ((ofStr (askS x l)).drop 0).take (askS x l).size = askL (ofStr x) 2 (ofStr l) := by
 rw [List.drop_zero, ← ofStr_len, List.take_length]
 unfold askS askL
 rw [ofStr_app, ofStr_app, ofStr_form]
 rfl
theorem askS_size (x l : ByteArray) : (askS x l).size = x.size + 1 + (4 + l.size) := by
 unfold askS
 rw [size_app, size_app, formS_size]
 rfl

noncomputable def sRScalF : List D → Option (List Bool × V)
 | [.l [[.s x]], .s l] => some ([decide (x.size + l.size < 549755813888)], vb32 (restP (sha512N (askL (ofStr x) 2 (ofStr l)))))
 | _ => none
noncomputable def sRScal : FSpec := spec [tscr10, tstr] sRScalF
noncomputable abbrev tabRScal : List (FuncId × FSpec) := [(70, sSReduce), (71, sRSum512a), (69, sRForm)]
theorem tabokRScal : TabOK Try.prog (tabOf tabRScal) := (.cons ok_SReduce (.cons ok_RSum512a (.cons ok_RForm .nil)))
theorem ok_RScal : FnOK Try.prog 36 sRScal := by
 refine fn_flat (cx := mkcf true false tabRScal [] []) (c := bodyOf Try.f36) Try.func36 (by kernel_rfl) (by kernel_rfl) rfl ?_
 intro ds chk v vs hF ht he hr base
 unfold sRScalF at hF
 split at hF
 · rename_i x l
   cases hF
   have hvs : vs = [vscr10 x, vstr l] := by simp only [encA, encV, encP, encL, Option.some.injEq] at he; exact he.symm
   subst hvs
   have hl : x.size + l.size < 549755813888 := of_decide_eq_true (ht _ (by simp))
   have hev : evS (mkcf true false tabRScal [] []) 200 (bodyOf Try.f36) ⟨t0 Try.f36 [vscr10 x, vstr l], []⟩ (kres (mkcf true false tabRScal [] []) Try.f36 base) =
    chks [decide (x.size + 1 < 9223372036854775808), decide (l.size < 1099511627776), decide ((x ++ ⟨#[2]⟩).size + (formS l).size < 9223372036854775808), decide ((askS x l).size ≤ maxLen), decide (0 + (askS x l).size ≤ (ofStr (askS x l)).length),
     decide ((((ofStr (askS x l)).drop 0).take (askS x l).size).length < 1099511627776)] (outV (vb32 (restP (sha512N (((ofStr (askS x l)).drop 0).take (askS x l).size))))) := by kernel_rfl
   have h1 : (x ++ ⟨#[2]⟩).size = x.size + 1 := size_app ..
   have h2 := askS_size x l
   have hmx : (549755813888 : Nat) + 5 ≤ maxLen := by decide
   rw [chks_true, askS_eq] at hev
   · exact runs_evS (mkokf (sy := true) (rw := false) tabokRScal IlOK.nil JsOK.nil) (bs0 := []) hev (VEnt.refl _) trivial
   · rw [askS_eq, h1, formS_size, ofStr_len, h2]
     refine allTc ?_ (allTc ?_ (allTc ?_ (allTc ?_ (allTc ?_ (allT1 ?_))))) <;> rw [decide_eq_true_iff]
     · omega
     · omega
     · omega
     · omega
     · omega
     · unfold askL
       rw [List.length_append, List.length_append, fmL_len, ofStr_len, ofStr_len]
       show x.size + 1 + (4 + l.size) < _
       omega
 · cases hF
end Go.Proofs.Ytdkmcpbjicnfmaa

/-
  The document's signatures.
-/
namespace Go.Proofs.Ytdkmcpbjicnfmaa
open Go Vx Go.RowKit
end Go.Proofs.Ytdkmcpbjicnfmaa
