/-
  The document's signatures.
-/
import Derived.Test.YtdkmcpbjicnfmaaGreatLb74
import Derived.Test.YtdkmcpbjicnfmaaGreatL8
namespace Go.Proofs.YtdkmcpbjicnfmaaGreat
open Go Vx Go.RowKit

/-- A byte, as it is read. -/
def nm (e : List D) : List D := [.i (one1 e).toI]
theorem byN1_nm (x : List (List D)) (j : Nat) : byN1 (x.map nm) j = byN1 x j := by
  unfold byN1
  rw [List.getD_eq_getElem?_getD, List.getD_eq_getElem?_getD, List.getElem?_map]
  cases x[j]? <;> rfl
theorem greatN_nm (s : Nat) (x : List (List D)) : greatN s (x.map nm) = greatN s x := by
  have h : blw (x.map nm) = blw x := by
    funext t
    unfold blw
    exact congrArg (fun f => beN f 8) (funext fun j => byN1_nm ..)
  rw [greatN_C, greatN_C]
  unfold greatC
  rw [h]
theorem greatsN_nm (s : Nat) (p : List (List D)) : ∀ i, greatsN s (p.map nm) i = greatsN s p i
  | 0 => rfl
  | i + 1 => by rw [greatsN, greatsN, greatsN_nm s p i, ← List.map_drop, ← List.map_take, greatN_nm]
theorem hrest_nm (x : List (List D)) (n : Int) : hrestL 128 16 (x.map nm) n = (hrestL 128 16 x n).map nm := by
  unfold hrestL
  rw [List.map_append, List.map_append, List.map_append, List.map_append, List.map_replicate, List.map_replicate, List.length_map]
  unfold lensL
  rw [List.map_map]
  rfl
theorem sha_nm (x : List (List D)) : sha512N (x.map nm) = sha512N x := by
  unfold sha512N
  rw [seal_eq]
  show outN (greatsN _ (hrestL 128 16 (x.map nm) ((x.map nm).length : Nat)) ((hrestL 128 16 (x.map nm) ((x.map nm).length : Nat)).length / 128)) = outN (greatsN _ (hrestL 128 16 x (x.length : Nat)) ((hrestL 128 16 x (x.length : Nat)).length / 128))
  rw [List.length_map, hrest_nm, List.length_map, greatsN_nm]
theorem ofStr_nm (s : ByteArray) : (ofStr s).map nm = ofStr s := by
  unfold ofStr
  rw [List.map_map]
  rfl
theorem pkL_nm (c n : Nat) : (pkL c n).map nm = pkL c n := by
  unfold pkL
  rw [List.map_map]
  rfl
theorem fmL_nm (x : List (List D)) : fmL (x.map nm) = (fmL x).map nm := by
  unfold fmL
  rw [List.map_append, List.length_map]
  rfl
theorem addL_nm (x : List (List D)) (l : ByteArray) (y : List (List D)) : addL (x.map nm) l (y.map nm) = (addL x l y).map nm := by
  unfold addL
  rw [List.map_append, List.map_append, List.map_append, ← fmL_nm, ← fmL_nm, ofStr_nm]
  rfl
theorem newL_nm (l : ByteArray) : (newL l).map nm = newL l := by unfold newL; rw [← fmL_nm, ofStr_nm]
theorem askL_nm (x : List (List D)) (q : Int) (l : ByteArray) : askL (x.map nm) q (ofStr l) = (askL x q (ofStr l)).map nm := by
  unfold askL
  rw [List.map_append, List.map_append, ← fmL_nm, ofStr_nm]
  rfl
theorem ofStr_to_nm {x : List (List D)} (h : ∀ (i : Nat) (e : List D), x[i]? = some e → rngTs [.int .u8] e) : ofStr (toStr x) = x.map nm := by
  have hb : isB (x.map nm) := by
    intro d hd
    obtain ⟨e, he, rfl⟩ := List.mem_map.1 hd
    obtain ⟨i, hi⟩ := List.mem_iff_getElem?.1 he
    have h1 : inK .u8 (one1 e).toI = true := (h i e hi).1
    rw [inK_iff] at h1
    simp only [IntKind.min, IntKind.max, IntKind.signed, IntKind.bits] at h1
    refine ⟨(one1 e).toI.toNat, by simp at h1; omega, ?_⟩
    show [D.i (one1 e).toI] = _
    rw [Int.toNat_of_nonneg (by simp at h1; omega)]
  have h2 : toStr x = toStr (x.map nm) := by
    unfold toStr
    rw [List.map_map]
    rfl
  rw [h2, ofStr_to hb]
abbrev addT (x : ByteArray) (l y : ByteArray) : ByteArray := x ++ ⟨#[1]⟩ ++ formS l ++ formS y
theorem ofStr_addT (x l y : ByteArray) : ofStr (addT x l y) = addL (ofStr x) l (ofStr y) := by
  unfold addT addL
  rw [ofStr_app, ofStr_app, ofStr_app, ofStr_form, ofStr_form]
  rfl
theorem addT_size (x l y : ByteArray) : (addT x l y).size = x.size + 1 + (4 + l.size) + (4 + y.size) := by
  unfold addT
  rw [size_app, size_app, size_app, formS_size, formS_size]
  rfl
abbrev chalT (p r : Nat) : ByteArray := addT (addT (formS sSign) sPublic (toStr (pkL 32 p))) sCommit (toStr (pkL 32 r))
theorem chalT_size (p r : Nat) : (chalT p r).size = 102 := by
  unfold chalT
  rw [addT_size, addT_size, formS_size, toStr_size, toStr_size, pkL_len, pkL_len]
  rfl
theorem chal_T {p r : Nat} {m : List (List D)} (h : ∀ (i : Nat) (e : List D), m[i]? = some e → rngTs [.int .u8] e) :
    restP (sha512N (askL (ofStr (addT (chalT p r) sMessage (toStr m))) 2 (ofStr sChallenge))) = chalN p r m := by
  have h1 : ofStr (addT (chalT p r) sMessage (toStr m)) = (chalL p r m).map nm := by
    unfold chalL chalT
    rw [ofStr_addT, ofStr_addT, ofStr_addT, ofStr_form, ofStr_to (isB_pkL _ _), ofStr_to (isB_pkL _ _), ofStr_to_nm h, ← addL_nm, ← addL_nm, ← addL_nm, newL_nm, pkL_nm, pkL_nm]
    rfl
  rw [h1, askL_nm, sha_nm, chalN_eq]

noncomputable def sRChalF : List D → Option (List Bool × V)
  | [.n p, .n r, .l m] => some ([decide (m.length < 274877906944)], vb32 (chalN p r m))
  | _ => none
noncomputable def sRChal : FSpec := spec [tb32, tb32, tby] sRChalF
noncomputable abbrev tabRChal : List (FuncId × FSpec) := [(16, sRScal), (47, sRForm)]
set_option maxRecDepth 100000 in
theorem tabokRChal : TabOK Tryz.prog (tabOf tabRChal) := (.cons ok_RScal (.cons ok_RForm .nil))
noncomputable abbrev ilRChal : List (FuncId × Func) := [(12, Tryz.f12), (14, Tryz.f14)]
set_option maxRecDepth 100000 in
theorem ilokRChal : IlOK Tryz.prog (ilTab ilRChal) := (IlOK.cons Tryz.func12 (by kernel_rfl) (IlOK.cons Tryz.func14 (by kernel_rfl) IlOK.nil))
set_option maxRecDepth 100000 in
theorem ok_RChal : FnOK Tryz.prog 71 sRChal := by
  refine fn_flat (cx := mkcf true false tabRChal ilRChal []) (c := bodyOf Tryz.f71) Tryz.func71 (by kernel_rfl) (by kernel_rfl) rfl ?_
  intro ds chk v vs hF ht he hr base
  unfold sRChalF at hF
  split at hF
  · rename_i p r m
    cases hF
    have hvs : vs = [vb32 p, vb32 r, vby m] := by simp only [encA, encV, encP, encL, Option.some.injEq] at he; exact he.symm
    subst hvs
    have hm : m.length < 274877906944 := of_decide_eq_true (ht _ (by simp))
    obtain ⟨_, _, hrng, _⟩ := hr
    have hev : evS (mkcf true false tabRChal ilRChal []) 400 (bodyOf Tryz.f71) ⟨t0 Tryz.f71 [vb32 p, vb32 r, vby m], []⟩ (kres (mkcf true false tabRChal ilRChal []) Tryz.f71 base) =
        chks [decide ((toStr m).size < 1099511627776), decide ((chalT p r ++ ⟨#[1]⟩ ++ formS sMessage).size + (formS (toStr m)).size < 9223372036854775808), decide ((addT (chalT p r) sMessage (toStr m)).size + sChallenge.size < 549755813888)]
          (outV (vb32 (restP (sha512N (askL (ofStr (addT (chalT p r) sMessage (toStr m))) 2 (ofStr sChallenge)))))) := by kernel_rfl
    rw [chal_T hrng.2, chks_true] at hev
    · exact runs_evS (mkokf (sy := true) (rw := false) tabokRChal ilokRChal JsOK.nil) (bs0 := []) hev (VEnt.refl _) trivial
    · rw [toStr_size, size_app, size_app, chalT_size, addT_size, chalT_size, formS_size, formS_size, toStr_size]
      refine allTc ?_ (allTc ?_ (allT1 ?_)) <;> rw [decide_eq_true_iff]
      · omega
      · show 102 + 1 + (4 + 7) + (4 + m.length) < _
        omega
      · show 102 + 1 + (4 + 7) + (4 + m.length) + 9 < _
        omega
  · cases hF
end Go.Proofs.YtdkmcpbjicnfmaaGreat
