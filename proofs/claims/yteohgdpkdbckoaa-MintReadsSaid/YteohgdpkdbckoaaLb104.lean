/-
  A mint's parameters, and their form.
-/
import Derived.Test.YteohgdpkdbckoaaLb103
namespace Go.Proofs.Yteohgdpkdbckoaa
open Go Vx Go.RowKit

theorem bif_t {a : Bool} {α : Type} {x y : α} (h : a = true) : (bif a then x else y) = x := by rw [h]; rfl
theorem bif_f {a : Bool} {α : Type} {x y : α} (h : a = false) : (bif a then x else y) = y := by rw [h]; rfl
abbrev vprm5 (a b c d e f g h i : Nat) (z : Int) : V := .tup [.ag (.ps [.pk .u8 8 32 a, .pk .u8 8 32 b, .pk .u8 8 32 c, .pk .u8 8 32 d, .pk .u8 8 32 e, .pk .u8 8 32 f, .pk .u8 8 32 g, .pk .u8 8 32 h, .pk .u8 8 32 i]), .one (.int .i64 z)]
abbrev frmL (a b c d e f g h i : Nat) : List (List D) := pkL 32 a ++ (pkL 32 b ++ (pkL 32 c ++ (pkL 32 d ++ (pkL 32 e ++ (pkL 32 f ++ (pkL 32 g ++ (pkL 32 h ++ (pkL 32 i))))))))

noncomputable def sHMPubTF : List D → Option (List Bool × V)
  | [.n a, .n b, .n c, .n d, .n e, .n f, .n g, .n h, .n i, .n j, .n k] => some ([mayM a b c d e f g h i j k], .tup [.ag (.ps [.pk .u8 8 32 (mp1 a bN), .pk .u8 8 32 (mp2 b c (mp1 a bN)), .pk .u8 8 32 (mp1 d (mp1 a bN)), .pk .u8 8 32 (mp1 e (mp1 a bN)), .pk .u8 8 32 (mp2 f g (mp1 a bN)), .pk .u8 8 32 (mp1 h (mp1 a bN)), .pk .u8 8 32 (mp1 i (mp1 a bN)), .pk .u8 8 32 (mp1 j (mp1 a bN)), .pk .u8 8 32 (mp1 k bN)]), .one (.int .i64 0)])
  | _ => none
noncomputable def sHMPubT : FSpec := spec [tmnt] sHMPubTF
noncomputable abbrev tabHMPubT : List (FuncId × FSpec) := [(24, sHMMay), (20, sABase), (26, sASum), (25, sHMTimes)]
set_option maxRecDepth 100000 in
theorem tabokHMPubT : TabOK Try.prog (tabOf tabHMPubT) := (.cons ok_HMMay (.cons ok_ABase (.cons ok_ASum (.cons ok_HMTimes .nil))))
noncomputable abbrev ilHMPubT : List (FuncId × Func) := []
set_option maxRecDepth 100000 in
theorem ilokHMPubT : IlOK Try.prog (ilTab ilHMPubT) := IlOK.nil
set_option maxRecDepth 100000 in
theorem ok_HMPubT : FnOK Try.prog 18 sHMPubT := by
  refine fn_flat (cx := mkcf false false tabHMPubT ilHMPubT []) (c := bodyOf Try.f18) Try.func18 (by kernel_rfl) (by kernel_rfl) rfl ?_
  intro ds chk v vs hF ht he hr base
  unfold sHMPubTF at hF
  split at hF
  · rename_i a b c d e f g h i j k
    cases hF
    have hvs : vs = [vmnt a b c d e f g h i j k] := by simp only [encA, encV, encP, encL, Option.some.injEq] at he; exact he.symm
    subst hvs
    have hm : mayM a b c d e f g h i j k = true := ht _ (by simp)
    exact runs_evS (mkokf (sy := false) (rw := false) tabokHMPubT ilokHMPubT JsOK.nil) (n := 400) (bs0 := []) (h := Eq.trans (b := bif !mayM a b c d e f g h i j k then outV (.tup [.ag (.ps (ub0 ++ (ub0 ++ (ub0 ++ (ub0 ++ (ub0 ++ (ub0 ++ (ub0 ++ (ub0 ++ (ub0)))))))))), .one (.int .i64 50)]) else outV (.tup [.ag (.ps [.pk .u8 8 32 (mp1 a bN), .pk .u8 8 32 (mp2 b c (mp1 a bN)), .pk .u8 8 32 (mp1 d (mp1 a bN)), .pk .u8 8 32 (mp1 e (mp1 a bN)), .pk .u8 8 32 (mp2 f g (mp1 a bN)), .pk .u8 8 32 (mp1 h (mp1 a bN)), .pk .u8 8 32 (mp1 i (mp1 a bN)), .pk .u8 8 32 (mp1 j (mp1 a bN)), .pk .u8 8 32 (mp1 k bN)]), .one (.int .i64 0)])) (by kernel_rfl) (by rw [hm]; rfl)) (VEnt.refl _) trivial
  · cases hF

theorem z9_ent : VEnt (.ag (.ps (ub0 ++ (ub0 ++ (ub0 ++ (ub0 ++ (ub0 ++ (ub0 ++ (ub0 ++ (ub0 ++ (ub0))))))))))) (vprm 0 0 0 0 0 0 0 0 0) := VEnt.dec (t := tprm) (ds := [.n 0, .n 0, .n 0, .n 0, .n 0, .n 0, .n 0, .n 0, .n 0]) rfl rfl
theorem not_f {b : Bool} (h : (!b) = true) : b = false := by cases b; rfl; cases h

noncomputable def sHMPubFF : List D → Option (List Bool × V)
  | [.n a, .n b, .n c, .n d, .n e, .n f, .n g, .n h, .n i, .n j, .n k] => some ([!mayM a b c d e f g h i j k], vprm5 0 0 0 0 0 0 0 0 0 50)
  | _ => none
noncomputable def sHMPubF : FSpec := spec [tmnt] sHMPubFF
noncomputable abbrev tabHMPubF : List (FuncId × FSpec) := [(24, sHMMay), (20, sABase), (26, sASum), (25, sHMTimes)]
set_option maxRecDepth 100000 in
theorem tabokHMPubF : TabOK Try.prog (tabOf tabHMPubF) := (.cons ok_HMMay (.cons ok_ABase (.cons ok_ASum (.cons ok_HMTimes .nil))))
noncomputable abbrev ilHMPubF : List (FuncId × Func) := []
set_option maxRecDepth 100000 in
theorem ilokHMPubF : IlOK Try.prog (ilTab ilHMPubF) := IlOK.nil
set_option maxRecDepth 100000 in
theorem ok_HMPubF : FnOK Try.prog 18 sHMPubF := by
  refine fn_flat (cx := mkcf false false tabHMPubF ilHMPubF []) (c := bodyOf Try.f18) Try.func18 (by kernel_rfl) (by kernel_rfl) rfl ?_
  intro ds chk v vs hF ht he hr base
  unfold sHMPubFF at hF
  split at hF
  · rename_i a b c d e f g h i j k
    cases hF
    have hvs : vs = [vmnt a b c d e f g h i j k] := by simp only [encA, encV, encP, encL, Option.some.injEq] at he; exact he.symm
    subst hvs
    have hm : mayM a b c d e f g h i j k = false := not_f (ht _ (by simp))
    exact runs_evS (mkokf (sy := false) (rw := false) tabokHMPubF ilokHMPubF JsOK.nil) (n := 400) (bs0 := []) (h := Eq.trans (b := bif !mayM a b c d e f g h i j k then outV (.tup [.ag (.ps (ub0 ++ (ub0 ++ (ub0 ++ (ub0 ++ (ub0 ++ (ub0 ++ (ub0 ++ (ub0 ++ (ub0)))))))))), .one (.int .i64 50)]) else outV (.tup [.ag (.ps [.pk .u8 8 32 (mp1 a bN), .pk .u8 8 32 (mp2 b c (mp1 a bN)), .pk .u8 8 32 (mp1 d (mp1 a bN)), .pk .u8 8 32 (mp1 e (mp1 a bN)), .pk .u8 8 32 (mp2 f g (mp1 a bN)), .pk .u8 8 32 (mp1 h (mp1 a bN)), .pk .u8 8 32 (mp1 i (mp1 a bN)), .pk .u8 8 32 (mp1 j (mp1 a bN)), .pk .u8 8 32 (mp1 k bN)]), .one (.int .i64 0)])) (by kernel_rfl) (by rw [hm]; rfl)) (VEnt.tup2 (UEnt.of z9_ent) (UEnt.refl _)) trivial
  · cases hF

noncomputable def sRMPubF : List D → Option (List Bool × V)
  | [.n a, .n b, .n c, .n d, .n e, .n f, .n g, .n h, .n i, .n j, .n k] => some ([], .ag (.ps [.pk .u8 8 32 (mp1 a bN), .pk .u8 8 32 (ad2 (mp1 b bN) (mp1 c (mp1 a bN))), .pk .u8 8 32 (mp1 d (mp1 a bN)), .pk .u8 8 32 (mp1 e (mp1 a bN)), .pk .u8 8 32 (ad2 (mp1 f bN) (mp1 g (mp1 a bN))), .pk .u8 8 32 (mp1 h (mp1 a bN)), .pk .u8 8 32 (mp1 i (mp1 a bN)), .pk .u8 8 32 (mp1 j (mp1 a bN)), .pk .u8 8 32 (mp1 k bN)]))
  | _ => none
noncomputable def sRMPub : FSpec := spec [tmnt] sRMPubF
noncomputable abbrev ilRMPub : List (FuncId × Func) := []
set_option maxRecDepth 100000 in
theorem ilokRMPub : IlOK Try.prog (ilTab ilRMPub) := IlOK.nil

noncomputable def sHMBytTF : Nat → List D → Option (List Bool × V × List Blk)
  | base, [.n a, .n b, .n c, .n d, .n e, .n f, .n g, .n h, .n i] => some ([mprM a b c d e f g h i], .tup [.one (.row base 1 0 288 288), .one (.int .i64 0)], [⟨5, .row [.int .u8] (frmL a b c d e f g h i)⟩])
  | _, _ => none
noncomputable def sHMBytT : FSpec := specB [tprm] sHMBytTF
noncomputable abbrev tabHMBytT : List (FuncId × FSpec) := [(6, sHMPar)]
set_option maxRecDepth 100000 in
theorem tabokHMBytT : TabOK Try.prog (tabOf tabHMBytT) := (.cons ok_HMPar .nil)
noncomputable abbrev ilHMBytT : List (FuncId × Func) := [(12, Try.f12)]
set_option maxRecDepth 100000 in
theorem ilokHMBytT : IlOK Try.prog (ilTab ilHMBytT) := (IlOK.cons Try.func12 (by kernel_rfl) IlOK.nil)
set_option maxRecDepth 100000 in
theorem ok_HMBytT : FnOK Try.prog 5 sHMBytT := by
  refine fn_blk (cx := mkcf false false tabHMBytT ilHMBytT []) (c := bodyOf Try.f5) Try.func5 (by kernel_rfl) (by kernel_rfl) ?_
  intro base ds chk v bs vs hF ht he hr
  unfold sHMBytTF at hF
  split at hF
  · rename_i a b c d e f g h i
    cases hF
    have hvs : vs = [vprm a b c d e f g h i] := by simp only [encA, encV, encP, encL, Option.some.injEq] at he; exact he.symm
    subst hvs
    have hm : mprM a b c d e f g h i = true := ht _ (by simp)
    have hev : evS (mkcf false false tabHMBytT ilHMBytT []) 400 (bodyOf Try.f5) ⟨t0 Try.f5 [vprm a b c d e f g h i], []⟩ (kres (mkcf false false tabHMBytT ilHMBytT []) Try.f5 base) = bif !mprM a b c d e f g h i then outV (.tup [.one .nilsl, .one (.int .i64 2)]) else (.done .ret ⟨[.tup [.one (.row base 1 0 288 288), .one (.int .i64 0)]], [some ⟨5, .row [.int .u8] (frmL a b c d e f g h i)⟩]⟩) := by kernel_rfl
    rw [hm, Bool.not_true, cond_false] at hev
    exact runs_evS (mkokf (sy := false) (rw := false) tabokHMBytT ilokHMBytT JsOK.nil) (n := 400) (bs0 := [⟨5, .row [.int .u8] (frmL a b c d e f g h i)⟩]) hev (VEnt.refl _) ⟨rfl, CEnt.refl _, fun ts h => ⟨ts, h⟩⟩
  · cases hF

noncomputable def sHMBytFF : List D → Option (List Bool × V)
  | [.n a, .n b, .n c, .n d, .n e, .n f, .n g, .n h, .n i] => some ([!mprM a b c d e f g h i], .tup [.one .nilsl, .one (.int .i64 2)])
  | _ => none
noncomputable def sHMBytF : FSpec := spec [tprm] sHMBytFF
noncomputable abbrev tabHMBytF : List (FuncId × FSpec) := [(6, sHMPar)]
set_option maxRecDepth 100000 in
theorem tabokHMBytF : TabOK Try.prog (tabOf tabHMBytF) := (.cons ok_HMPar .nil)
noncomputable abbrev ilHMBytF : List (FuncId × Func) := [(12, Try.f12)]
set_option maxRecDepth 100000 in
theorem ilokHMBytF : IlOK Try.prog (ilTab ilHMBytF) := (IlOK.cons Try.func12 (by kernel_rfl) IlOK.nil)
set_option maxRecDepth 100000 in
theorem ok_HMBytF : FnOK Try.prog 5 sHMBytF := by
  refine fn_flat (cx := mkcf false false tabHMBytF ilHMBytF []) (c := bodyOf Try.f5) Try.func5 (by kernel_rfl) (by kernel_rfl) rfl ?_
  intro ds chk v vs hF ht he hr base
  unfold sHMBytFF at hF
  split at hF
  · rename_i a b c d e f g h i
    cases hF
    have hvs : vs = [vprm a b c d e f g h i] := by simp only [encA, encV, encP, encL, Option.some.injEq] at he; exact he.symm
    subst hvs
    have hm : mprM a b c d e f g h i = false := not_f (ht _ (by simp))
    have hev : evS (mkcf false false tabHMBytF ilHMBytF []) 400 (bodyOf Try.f5) ⟨t0 Try.f5 [vprm a b c d e f g h i], []⟩ (kres (mkcf false false tabHMBytF ilHMBytF []) Try.f5 base) = bif !mprM a b c d e f g h i then outV (.tup [.one .nilsl, .one (.int .i64 2)]) else (.done .ret ⟨[.tup [.one (.row base 1 0 288 288), .one (.int .i64 0)]], [some ⟨5, .row [.int .u8] (frmL a b c d e f g h i)⟩]⟩) := by kernel_rfl
    rw [hm, Bool.not_false, cond_true] at hev
    exact runs_evS (mkokf (sy := false) (rw := false) tabokHMBytF ilokHMBytF JsOK.nil) (n := 400) (bs0 := []) hev (VEnt.refl _) trivial
  · cases hF

noncomputable def sRMFormF : Nat → List D → Option (List Bool × V × List Blk)
  | base, [.n a, .n b, .n c, .n d, .n e, .n f, .n g, .n h, .n i] => some ([], .one (.row base 1 0 288 288), [⟨5, .row [.int .u8] (frmL a b c d e f g h i)⟩])
  | _, _ => none
noncomputable def sRMForm : FSpec := specB [tprm] sRMFormF
noncomputable abbrev tabRMForm : List (FuncId × FSpec) := []
set_option maxRecDepth 100000 in
theorem tabokRMForm : TabOK Try.prog (tabOf tabRMForm) := TabOK.nil
noncomputable abbrev ilRMForm : List (FuncId × Func) := [(16, Try.f16)]
set_option maxRecDepth 100000 in
theorem ilokRMForm : IlOK Try.prog (ilTab ilRMForm) := (IlOK.cons Try.func16 (by kernel_rfl) IlOK.nil)
set_option maxRecDepth 100000 in
theorem ok_RMForm : FnOK Try.prog 9 sRMForm := by
  refine fn_blk (cx := mkcf false false tabRMForm ilRMForm []) (c := bodyOf Try.f9) Try.func9 (by kernel_rfl) (by kernel_rfl) ?_
  intro base ds chk v bs vs hF ht he hr
  unfold sRMFormF at hF
  split at hF
  · rename_i a b c d e f g h i
    cases hF
    have hvs : vs = [vprm a b c d e f g h i] := by simp only [encA, encV, encP, encL, Option.some.injEq] at he; exact he.symm
    subst hvs
    exact runs_evS (mkokf (sy := false) (rw := false) tabokRMForm ilokRMForm JsOK.nil) (n := 400) (bs0 := [⟨5, .row [.int .u8] (frmL a b c d e f g h i)⟩]) (by kernel_rfl) (VEnt.refl _) ⟨rfl, CEnt.refl _, fun ts h => ⟨ts, h⟩⟩
  · cases hF
end Go.Proofs.Yteohgdpkdbckoaa
