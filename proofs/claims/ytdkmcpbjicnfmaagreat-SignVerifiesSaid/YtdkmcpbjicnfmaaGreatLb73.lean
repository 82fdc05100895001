/-
  The document's transcripts: a text's form, what is asked.
-/
import Derived.Test.YtdkmcpbjicnfmaaGreatLb71
import Derived.Test.YtdkmcpbjicnfmaaGreatLb66
namespace Go.Proofs.YtdkmcpbjicnfmaaGreat
open Go Vx Go.RowKit

theorem tdiv_nat (n m : Nat) : ((n : Nat) : Int).tdiv (m : Nat) = ((n / m : Nat) : Int) := rfl
theorem tmod_nat (n m : Nat) : ((n : Nat) : Int).tmod (m : Nat) = ((n % m : Nat) : Int) := rfl
theorem wrap8_nat (n : Nat) (h : n < 256) : wrapK .u8 (n : Nat) = (n : Nat) := by simp only [wrapK]; omega
def b4T (n : Int) : List (List D) := [[.i (wrapK .u8 ((n.tdiv 16777216).tmod 256))], [.i (wrapK .u8 ((n.tdiv 65536).tmod 256))], [.i (wrapK .u8 ((n.tdiv 256).tmod 256))], [.i (wrapK .u8 (n.tmod 256))]]
theorem b4T_eq (n : Nat) : b4T (n : Nat) = b4L n := by
  unfold b4T b4L
  rw [show (((n : Nat) : Int).tdiv 16777216) = ((n / 16777216 : Nat) : Int) from rfl, show (((n : Nat) : Int).tdiv 65536) = ((n / 65536 : Nat) : Int) from rfl, show (((n : Nat) : Int).tdiv 256) = ((n / 256 : Nat) : Int) from rfl,
    show ((n / 16777216 : Nat) : Int).tmod 256 = ((n / 16777216 % 256 : Nat) : Int) from rfl, show ((n / 65536 : Nat) : Int).tmod 256 = ((n / 65536 % 256 : Nat) : Int) from rfl, show ((n / 256 : Nat) : Int).tmod 256 = ((n / 256 % 256 : Nat) : Int) from rfl,
    show ((n : Nat) : Int).tmod 256 = ((n % 256 : Nat) : Int) from rfl, wrap8_nat _ (Nat.mod_lt _ (by decide)), wrap8_nat _ (Nat.mod_lt _ (by decide)), wrap8_nat _ (Nat.mod_lt _ (by decide)), wrap8_nat _ (Nat.mod_lt _ (by decide))]
def isB (x : List (List D)) : Prop := ∀ d ∈ x, ∃ n : Nat, n < 256 ∧ d = [.i (n : Int)]
theorem isB_app {x y : List (List D)} (h1 : isB x) (h2 : isB y) : isB (x ++ y) := fun d hd => (List.mem_append.1 hd).elim (h1 d) (h2 d)
theorem isB_b4L (n : Nat) : isB (b4L n) := by
  intro d hd
  unfold b4L at hd
  simp only [List.mem_cons, List.not_mem_nil, or_false] at hd
  rcases hd with rfl | rfl | rfl | rfl <;> exact ⟨_, Nat.mod_lt _ (by decide), rfl⟩
theorem isB_pkL (c n : Nat) : isB (pkL c n) := by
  intro d hd
  unfold pkL at hd
  rw [List.mem_map] at hd
  obtain ⟨i, _, rfl⟩ := hd
  exact ⟨digit 8 n i, digit_lt .., rfl⟩
theorem ofStr_app (a b : ByteArray) : ofStr (a ++ b) = ofStr a ++ ofStr b := by
  unfold ofStr
  rw [ByteArray.data_append, Array.toList_append, List.map_append]
theorem ofStr_to {x : List (List D)} (h : isB x) : ofStr (toStr x) = x := by
  unfold ofStr toStr
  show ((x.map fun d => UInt8.ofNat (one1 d).toI.toNat).toArray.toList.map fun b => [.i (b.toNat : Int)]) = x
  rw [List.toList_toArray, List.map_map]
  induction x with
  | nil => rfl
  | cons d x ih =>
    rw [List.map_cons, ih fun e he => h e (List.mem_cons_of_mem _ he)]
    obtain ⟨n, hn, rfl⟩ := h d (List.mem_cons_self ..)
    refine congrArg (· :: x) ?_
    show [D.i ((UInt8.ofNat n).toNat : Int)] = [D.i (n : Int)]
    rw [UInt8.toNat_ofNat', Nat.mod_eq_of_lt hn]
theorem toStr_size (x : List (List D)) : (toStr x).size = x.length := by
  unfold toStr
  show (x.map fun d => UInt8.ofNat (one1 d).toI.toNat).toArray.size = x.length
  simp
theorem size_app (a b : ByteArray) : (a ++ b).size = a.size + b.size := ByteArray.size_append
def formS (l : ByteArray) : ByteArray := toStr (b4L l.size) ++ l
theorem ofStr_form (l : ByteArray) : ofStr (formS l) = fmL (ofStr l) := by
  unfold formS fmL
  rw [ofStr_app, ofStr_to (isB_b4L _), ofStr_len]
theorem formS_size (l : ByteArray) : (formS l).size = 4 + l.size := by
  unfold formS
  rw [size_app, toStr_size]
  rfl

noncomputable def sRFormF : List D → Option (List Bool × V)
  | [.s l] => some ([decide (l.size < 1099511627776)], vstr (formS l))
  | _ => none
noncomputable def sRForm : FSpec := spec [tstr] sRFormF
noncomputable abbrev tabRForm : List (FuncId × FSpec) := []
set_option maxRecDepth 100000 in
theorem tabokRForm : TabOK Tryz.prog (tabOf tabRForm) := TabOK.nil
noncomputable abbrev ilRForm : List (FuncId × Func) := []
set_option maxRecDepth 100000 in
theorem ilokRForm : IlOK Tryz.prog (ilTab ilRForm) := IlOK.nil
set_option maxRecDepth 100000 in
theorem ok_RForm : FnOK Tryz.prog 47 sRForm := by
  refine fn_flat (cx := mkcf true false tabRForm ilRForm []) (c := bodyOf Tryz.f47) Tryz.func47 (by kernel_rfl) (by kernel_rfl) rfl ?_
  intro ds chk v vs hF ht he hr base
  unfold sRFormF at hF
  split at hF
  · rename_i l
    cases hF
    have hvs : vs = [vstr l] := by simp only [encA, encV, encP, encL, Option.some.injEq] at he; exact he.symm
    subst hvs
    have hl : l.size < 1099511627776 := of_decide_eq_true (ht _ (by simp))
    have hev : evS (mkcf true false tabRForm ilRForm []) 200 (bodyOf Tryz.f47) ⟨t0 Tryz.f47 [vstr l], []⟩ (kres (mkcf true false tabRForm ilRForm []) Tryz.f47 base) =
        chks [okK .i64 (l.size : Nat), okK .i64 (((l.size : Nat) : Int).tdiv 16777216), okK .i64 (((l.size : Nat) : Int).tdiv 65536), okK .i64 (((l.size : Nat) : Int).tdiv 256), decide ((toStr (b4T (l.size : Nat))).size + l.size < 9223372036854775808)] (outV (vstr (toStr (b4T (l.size : Nat)) ++ l))) := by kernel_rfl
    rw [b4T_eq, toStr_size, chks_true] at hev
    · exact runs_evS (mkokf (sy := true) (rw := false) tabokRForm ilokRForm JsOK.nil) (bs0 := []) hev (VEnt.refl _) trivial
    · rw [show (((l.size : Nat) : Int).tdiv 16777216) = ((l.size / 16777216 : Nat) : Int) from rfl, show (((l.size : Nat) : Int).tdiv 65536) = ((l.size / 65536 : Nat) : Int) from rfl, show (((l.size : Nat) : Int).tdiv 256) = ((l.size / 256 : Nat) : Int) from rfl]
      refine allTc (okI (by omega) (by omega)) (allTc (okI (by omega) (by omega)) (allTc (okI (by omega) (by omega)) (allTc (okI (by omega) (by omega)) (allT1 ?_))))
      rw [decide_eq_true_iff, b4L_len]
      omega
  · cases hF
end Go.Proofs.YtdkmcpbjicnfmaaGreat
