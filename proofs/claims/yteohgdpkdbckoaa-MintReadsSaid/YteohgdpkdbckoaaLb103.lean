/-
  The parameters of a mint: which may be.
-/
import Derived.Test.YteohgdpkdbckoaaL9
import Derived.Test.YteohgdpkdbckoaaL12
namespace Go.Proofs.Yteohgdpkdbckoaa
open Go Vx Go.RowKit

noncomputable abbrev mp1 (a h : Nat) : Nat := sumN [[.n a, .n h]]
noncomputable abbrev mp2 (a b h : Nat) : Nat := sumN [[.n a, .n bN], [.n b, .n h]]
noncomputable abbrev ad2 (x y : Nat) : Nat := sumN [[.n 1, .n x], [.n 1, .n y]]

abbrev tmnt : Ty := .ag [.pk .u8 8 32, .pk .u8 8 32, .pk .u8 8 32, .pk .u8 8 32, .pk .u8 8 32, .pk .u8 8 32, .pk .u8 8 32, .pk .u8 8 32, .pk .u8 8 32, .pk .u8 8 32, .pk .u8 8 32]
abbrev vmnt (a b c d e f g h i j k : Nat) : V := .ag (.ps [.pk .u8 8 32 a, .pk .u8 8 32 b, .pk .u8 8 32 c, .pk .u8 8 32 d, .pk .u8 8 32 e, .pk .u8 8 32 f, .pk .u8 8 32 g, .pk .u8 8 32 h, .pk .u8 8 32 i, .pk .u8 8 32 j, .pk .u8 8 32 k])
abbrev tprm : Ty := .ag [.pk .u8 8 32, .pk .u8 8 32, .pk .u8 8 32, .pk .u8 8 32, .pk .u8 8 32, .pk .u8 8 32, .pk .u8 8 32, .pk .u8 8 32, .pk .u8 8 32]
abbrev vprm (a b c d e f g h i : Nat) : V := .ag (.ps [.pk .u8 8 32 a, .pk .u8 8 32 b, .pk .u8 8 32 c, .pk .u8 8 32 d, .pk .u8 8 32 e, .pk .u8 8 32 f, .pk .u8 8 32 g, .pk .u8 8 32 h, .pk .u8 8 32 i])
abbrev ttm : Ty := .ag [.pk .u8 8 32, .pk .u8 8 32]
abbrev vtm (a b : Nat) : V := .ag (.ps [.pk .u8 8 32 a, .pk .u8 8 32 b])
abbrev zB (a : Nat) : Bool := allB [true && decide (a = 0)]
theorem zB_iff {a : Nat} : zB a = true ↔ a = 0 := by
  show (true && decide (a = 0)) = true ↔ _
  rw [Bool.true_and, decide_eq_true_iff]
/-- None of a list, and then this. -/
def noneN : List Bool → Bool → Bool
  | [], b => b
  | c :: l, b => bif c then false else noneN l b
def treeN : List Bool → Bool → Out
  | [], b => outV (vbool' b)
  | c :: l, b => bif c then outV (vbool' false) else treeN l b
theorem treeN_eq : ∀ (l : List Bool) (b : Bool), treeN l b = outV (vbool' (noneN l b))
  | [], _ => rfl
  | true :: _, _ => rfl
  | false :: l, b => treeN_eq l b
/-- None of a list, and p and q. -/
def noneM (l : List Bool) (p q : Bool) : Bool := noneN l (bif p then q else false)
def treeM : List Bool → Bool → Bool → Out
  | [], p, q => bif p then outV (vbool' q) else outV (vbool' false)
  | c :: l, p, q => bif c then outV (vbool' false) else treeM l p q
theorem treeM_eq : ∀ (l : List Bool) (p q : Bool), treeM l p q = outV (vbool' (noneM l p q))
  | [], true, _ => rfl
  | [], false, _ => rfl
  | true :: _, _, _ => rfl
  | false :: l, p, q => treeM_eq l p q
theorem noneN_f : ∀ l : List Bool, noneN l false = false
  | [] => rfl
  | true :: _ => rfl
  | false :: l => noneN_f l
theorem noneN_t : ∀ {l : List Bool} {b : Bool}, noneN l b = true → (∀ c ∈ l, c = false) ∧ b = true
  | [], _, h => ⟨fun _ hc => by simp at hc, h⟩
  | true :: _, _, h => by cases h
  | false :: l, b, h => by
    obtain ⟨h1, h2⟩ := noneN_t (l := l) (b := b) h
    refine ⟨fun c hc => ?_, h2⟩
    rcases List.mem_cons.1 hc with rfl | hc
    · rfl
    · exact h1 c hc
theorem noneN_of : ∀ {l : List Bool} {b : Bool}, (∀ c ∈ l, c = false) → b = true → noneN l b = true
  | [], _, _, h => h
  | c :: l, b, h, hb => by
    rw [noneN, h c (List.mem_cons_self ..), cond_false]
    exact noneN_of (fun x hx => h x (List.mem_cons_of_mem _ hx)) hb
def treeP (p q : Bool) (l : List Bool) : Out := bif p then (bif q then treeN l true else outV (vbool' false)) else outV (vbool' false)
theorem treeP_eq (p q : Bool) (l : List Bool) : treeP p q l = outV (vbool' (noneM l p q)) := by
  unfold treeP noneM
  rw [treeN_eq]
  have h := noneN_f l
  cases p <;> cases q
  · exact congrArg (fun b => outV (vbool' b)) h.symm
  · exact congrArg (fun b => outV (vbool' b)) h.symm
  · exact congrArg (fun b => outV (vbool' b)) h.symm
  · rfl

noncomputable def mayM : Nat → Nat → Nat → Nat → Nat → Nat → Nat → Nat → Nat → Nat → Nat → Bool := hidden' fun a b c d e f g h i j k => noneM [!okS a, !okS b, !okS c, !okS d, !okS e, !okS f, !okS g, !okS h, !okS i, !okS j, !okS k] (!zB a) (!zB k)
theorem mayM_eq (a b c d e f g h i j k : Nat) : mayM a b c d e f g h i j k = noneM [!okS a, !okS b, !okS c, !okS d, !okS e, !okS f, !okS g, !okS h, !okS i, !okS j, !okS k] (!zB a) (!zB k) := by unfold mayM; rw [seal_eq]

noncomputable def mprM : Nat → Nat → Nat → Nat → Nat → Nat → Nat → Nat → Nat → Bool := hidden' fun a b c d e f g h i => noneM [!rdecBP a, !rdecBP b, !rdecBP c, !rdecBP d, !rdecBP e, !rdecBP f, !rdecBP g, !rdecBP h, !rdecBP i] (!zB a) (!zB i)
theorem mprM_eq (a b c d e f g h i : Nat) : mprM a b c d e f g h i = noneM [!rdecBP a, !rdecBP b, !rdecBP c, !rdecBP d, !rdecBP e, !rdecBP f, !rdecBP g, !rdecBP h, !rdecBP i] (!zB a) (!zB i) := by unfold mprM; rw [seal_eq]

noncomputable def sHMMayF : List D → Option (List Bool × V)
  | [.n a, .n b, .n c, .n d, .n e, .n f, .n g, .n h, .n i, .n j, .n k] => some ([], vbool' (mayM a b c d e f g h i j k))
  | _ => none
noncomputable def sHMMay : FSpec := spec [tmnt] sHMMayF
noncomputable abbrev tabHMMay : List (FuncId × FSpec) := [(53, sAIsScalar)]
set_option maxRecDepth 100000 in
theorem tabokHMMay : TabOK Try.prog (tabOf tabHMMay) := (.cons ok_AIsScalar .nil)
noncomputable abbrev ilHMMay : List (FuncId × Func) := []
set_option maxRecDepth 100000 in
theorem ilokHMMay : IlOK Try.prog (ilTab ilHMMay) := IlOK.nil
set_option maxRecDepth 100000 in
theorem ok_HMMay : FnOK Try.prog 24 sHMMay := by
  refine fn_flat (cx := mkcf false false tabHMMay ilHMMay []) (c := bodyOf Try.f24) Try.func24 (by kernel_rfl) (by kernel_rfl) rfl ?_
  intro ds chk v vs hF ht he hr base
  unfold sHMMayF at hF
  split at hF
  · rename_i a b c d e f g h i j k
    cases hF
    have hvs : vs = [vmnt a b c d e f g h i j k] := by simp only [encA, encV, encP, encL, Option.some.injEq] at he; exact he.symm
    subst hvs
    rw [mayM_eq]
    exact runs_evS (mkokf (sy := false) (rw := false) tabokHMMay ilokHMMay JsOK.nil) (n := 400) (bs0 := []) (h := Eq.trans (b := treeM [!okS a, !okS b, !okS c, !okS d, !okS e, !okS f, !okS g, !okS h, !okS i, !okS j, !okS k] (!zB a) (!zB k)) (by kernel_rfl) (treeM_eq ..)) (VEnt.refl _) trivial
  · cases hF

noncomputable def sRMMayF : List D → Option (List Bool × V)
  | [.n a, .n b, .n c, .n d, .n e, .n f, .n g, .n h, .n i, .n j, .n k] => some ([], vbool' (mayM a b c d e f g h i j k))
  | _ => none
noncomputable def sRMMay : FSpec := spec [tmnt] sRMMayF

noncomputable def sHMParF : List D → Option (List Bool × V)
  | [.n a, .n b, .n c, .n d, .n e, .n f, .n g, .n h, .n i] => some ([], vbool' (mprM a b c d e f g h i))
  | _ => none
noncomputable def sHMPar : FSpec := spec [tprm] sHMParF
noncomputable abbrev tabHMPar : List (FuncId × FSpec) := [(15, sAIsPoint)]
set_option maxRecDepth 100000 in
theorem tabokHMPar : TabOK Try.prog (tabOf tabHMPar) := (.cons ok_AIsPoint .nil)
noncomputable abbrev ilHMPar : List (FuncId × Func) := [(12, Try.f12), (13, Try.f13), (21, Try.f21), (14, Try.f14)]
set_option maxRecDepth 100000 in
theorem ilokHMPar : IlOK Try.prog (ilTab ilHMPar) := (IlOK.cons Try.func12 (by kernel_rfl) (IlOK.cons Try.func13 (by kernel_rfl) (IlOK.cons Try.func21 (by kernel_rfl) (IlOK.cons Try.func14 (by kernel_rfl) IlOK.nil))))
set_option maxRecDepth 100000 in
theorem ok_HMPar : FnOK Try.prog 6 sHMPar := by
  refine fn_flat (cx := mkcf false false tabHMPar ilHMPar []) (c := bodyOf Try.f6) Try.func6 (by kernel_rfl) (by kernel_rfl) rfl ?_
  intro ds chk v vs hF ht he hr base
  unfold sHMParF at hF
  split at hF
  · rename_i a b c d e f g h i
    cases hF
    have hvs : vs = [vprm a b c d e f g h i] := by simp only [encA, encV, encP, encL, Option.some.injEq] at he; exact he.symm
    subst hvs
    rw [mprM_eq]
    exact runs_evS (mkokf (sy := false) (rw := false) tabokHMPar ilokHMPar JsOK.nil) (n := 400) (bs0 := []) (h := Eq.trans (b := treeP (!zB a) (!zB i) [!rdecBP a, !rdecBP b, !rdecBP c, !rdecBP d, !rdecBP e, !rdecBP f, !rdecBP g, !rdecBP h, !rdecBP i]) (by kernel_rfl) (treeP_eq ..)) (VEnt.refl _) trivial
  · cases hF

noncomputable def sRMParF : List D → Option (List Bool × V)
  | [.n a, .n b, .n c, .n d, .n e, .n f, .n g, .n h, .n i] => some ([], vbool' (mprM a b c d e f g h i))
  | _ => none
noncomputable def sRMPar : FSpec := spec [tprm] sRMParF
noncomputable abbrev tabRMPar : List (FuncId × FSpec) := [(17, sSIsPoint)]
set_option maxRecDepth 100000 in
theorem tabokRMPar : TabOK Try.prog (tabOf tabRMPar) := (.cons ok_SIsPoint .nil)
noncomputable abbrev ilRMPar : List (FuncId × Func) := [(16, Try.f16)]
set_option maxRecDepth 100000 in
theorem ilokRMPar : IlOK Try.prog (ilTab ilRMPar) := (IlOK.cons Try.func16 (by kernel_rfl) IlOK.nil)
set_option maxRecDepth 100000 in
theorem ok_RMPar : FnOK Try.prog 7 sRMPar := by
  refine fn_flat (cx := mkcf false false tabRMPar ilRMPar []) (c := bodyOf Try.f7) Try.func7 (by kernel_rfl) (by kernel_rfl) rfl ?_
  intro ds chk v vs hF ht he hr base
  unfold sRMParF at hF
  split at hF
  · rename_i a b c d e f g h i
    cases hF
    have hvs : vs = [vprm a b c d e f g h i] := by simp only [encA, encV, encP, encL, Option.some.injEq] at he; exact he.symm
    subst hvs
    rw [mprM_eq]
    exact runs_evS (mkokf (sy := false) (rw := false) tabokRMPar ilokRMPar JsOK.nil) (n := 400) (bs0 := []) (h := Eq.trans (b := treeM [!rdecBP a, !rdecBP b, !rdecBP c, !rdecBP d, !rdecBP e, !rdecBP f, !rdecBP g, !rdecBP h, !rdecBP i] (!zB a) (!zB i)) (by kernel_rfl) (treeM_eq ..)) (VEnt.refl _) trivial
  · cases hF

noncomputable def sHMTimesF : List D → Option (List Bool × V)
  | [.n a, .n b] => some ([], vtm a b)
  | _ => none
noncomputable def sHMTimes : FSpec := spec [tb32, tb32] sHMTimesF
noncomputable abbrev tabHMTimes : List (FuncId × FSpec) := []
set_option maxRecDepth 100000 in
theorem tabokHMTimes : TabOK Try.prog (tabOf tabHMTimes) := TabOK.nil
noncomputable abbrev ilHMTimes : List (FuncId × Func) := []
set_option maxRecDepth 100000 in
theorem ilokHMTimes : IlOK Try.prog (ilTab ilHMTimes) := IlOK.nil
set_option maxRecDepth 100000 in
theorem ok_HMTimes : FnOK Try.prog 25 sHMTimes := by
  refine fn_flat (cx := mkcf false false tabHMTimes ilHMTimes []) (c := bodyOf Try.f25) Try.func25 (by kernel_rfl) (by kernel_rfl) rfl ?_
  intro ds chk v vs hF ht he hr base
  unfold sHMTimesF at hF
  split at hF
  · rename_i a b
    cases hF
    have hvs : vs = [vb32 a, vb32 b] := by simp only [encA, encV, encP, encL, Option.some.injEq] at he; exact he.symm
    subst hvs
    exact runs_evS (mkokf (sy := false) (rw := false) tabokHMTimes ilokHMTimes JsOK.nil) (n := 400) (bs0 := []) (by kernel_rfl) (VEnt.refl _) trivial
  · cases hF

noncomputable def sRMMulF : List D → Option (List Bool × V)
  | [.n a, .n b] => some ([], vb32 (mp1 a b))
  | _ => none
noncomputable def sRMMul : FSpec := spec [tb32, tb32] sRMMulF
noncomputable abbrev ilRMMul : List (FuncId × Func) := []
set_option maxRecDepth 100000 in
theorem ilokRMMul : IlOK Try.prog (ilTab ilRMMul) := IlOK.nil

noncomputable def sRMAddF : List D → Option (List Bool × V)
  | [.n a, .n b] => some ([], vb32 (ad2 a b))
  | _ => none
noncomputable def sRMAdd : FSpec := spec [tb32, tb32] sRMAddF
noncomputable abbrev ilRMAdd : List (FuncId × Func) := []
set_option maxRecDepth 100000 in
theorem ilokRMAdd : IlOK Try.prog (ilTab ilRMAdd) := IlOK.nil
end Go.Proofs.Yteohgdpkdbckoaa
