/-
  The contract of sha.Sum512.
-/
import Derived.Test.YteohgdpkdbckoaaLb61
import Derived.Test.YteohgdpkdbckoaaL2
namespace Go.Proofs.Yteohgdpkdbckoaa
open Go Vx Go.RowKit

noncomputable def greatsN (s : Nat) (p : List (List D)) : Nat → Nat
  | 0 => s
  | i + 1 => greatN (greatsN s p i) ((p.drop (128 * i)).take 128)
def outI (s : Nat) (i : Nat) : Int := wrapK .u8 (((digit 64 s (i / 8) : Nat) : Int) / ((2 ^ (56 - 8 * (i % 8)) : Nat) : Int))
def outN (s : Nat) : Nat := packL 8 ((List.range 64).map fun i => (outI s i).toNat)
noncomputable def sha512N : List (List D) → Nat := hidden' fun x => outN (greatsN (hpackW k512.h) (hrestL 128 16 x (x.length : Nat)) ((hrestL 128 16 x (x.length : Nat)).length / 128))
theorem hrest_blk {x : List (List D)} {n : Int} {j : Nat} (h : 128 * (j + 1) ≤ x.length) : ((hrestL 128 16 x n).drop (128 * j)).take 128 = (x.drop (128 * j)).take 128 := by
  unfold hrestL
  simp only [List.append_assoc]
  rw [List.drop_append_of_le_length (by omega), List.take_append_of_le_length (by rw [List.length_drop]; omega)]
theorem hrest_drop {x : List (List D)} {n : Int} {j : Nat} (h : 128 * j ≤ x.length) : (hrestL 128 16 x n).drop (128 * j) = hrestL 128 16 (x.drop (128 * j)) n := by
  have hz : zerosN 128 16 x.length = zerosN 128 16 (x.drop (128 * j)).length := by
    rw [List.length_drop]
    unfold zerosN
    omega
  unfold hrestL
  simp only [List.append_assoc]
  rw [List.drop_append_of_le_length h, hz]
theorem hrest_mod (x : List (List D)) (n : Int) : (hrestL 128 16 x n).length % 128 = 0 := by
  rw [hrestL_len]
  unfold zerosN
  omega
def kLs : List L := k512.k.map fun (n : Nat) => .int .u64 (n : Int)
def hLs : List L := k512.h.map fun (n : Nat) => .int .u64 (n : Int)
def stSa (n : Int) (y : List (List D)) (c1 c2 : C) : St := ⟨[vby y, .junk, .one (.ptr 0 0), .one (.ptr 1 0), .one (.ptr 2 0), vi64 n] ++ List.replicate 45 .junk, [some ⟨105, .ps (List.replicate 64 (.int .u8 0))⟩, some ⟨139, c1⟩, some ⟨61, c2⟩]⟩
abbrev cK (kk : Nat) : C := .ps [.pk .u64 64 80 kk]
abbrev cW (s : Nat) : C := .ps [.pk .u64 64 8 s]
def stSb (p : List (List D)) (off len s kk : Nat) : St := ⟨[.junk, .junk, .one (.ptr 0 0), .one (.ptr 1 0), .one (.ptr 2 0), .junk, .one (.row 3 1 off len len)] ++ List.replicate 44 .junk, [some ⟨105, .ps (List.replicate 64 (.int .u8 0))⟩, some ⟨139, cK kk⟩, some ⟨61, cW s⟩, some ⟨5, .row [.int .u8] p⟩]⟩
def stSc (s : Nat) : St := ⟨[.junk, .junk, .one (.ptr 0 0), .junk, .one (.ptr 2 0)] ++ List.replicate 46 .junk, [some ⟨105, .ps (List.replicate 64 (.int .u8 0))⟩, none, some ⟨61, cW s⟩]⟩
set_option maxRecDepth 100000 in
theorem kLs_ent : VEnt (.ag (.ps kLs)) (.ag (cK (hpackW k512.k))) := VEnt.dec (t := .ag [.pk .u64 64 80]) (ds := [.n (hpackW k512.k)]) (by kernel_rfl) (by kernel_rfl)
theorem hLs_ent : VEnt (.ag (.ps hLs)) (.ag (cW (hpackW k512.h))) := VEnt.dec (t := .ag [.pk .u64 64 8]) (ds := [.n (hpackW k512.h)]) (by kernel_rfl) (by kernel_rfl)
theorem stSa_ent (n : Int) (y : List (List D)) : StEntG (stSa n y (.ps kLs) (.ps hLs)) (stSa n y (cK (hpackW k512.k)) (cW (hpackW k512.h))) := by
  refine ⟨rfl, fun _ => .inl rfl, fun j => ?_⟩
  match j with
  | 0 => exact .inl rfl
  | 1 => exact .inr ⟨_, _, _, rfl, rfl, CEnt.of' kLs_ent, (fun h => by cases h), (fun _ h => by cases h)⟩
  | 2 => exact .inr ⟨_, _, _, rfl, rfl, CEnt.of' hLs_ent, (fun h => by cases h), (fun _ h => by cases h)⟩
  | j + 3 => exact .inl rfl
set_option maxRecDepth 100000 in
theorem out_ent (s : Nat) : VEnt (.ag (.ps ((List.range 64).map fun i => .int .u8 (outI s i)))) (vb64 (outN s)) := VEnt.dec (t := tb64) (ds := [.n (outN s)]) (by kernel_rfl) (by kernel_rfl)

noncomputable def sHSum512F : List D → Option (List Bool × V)
  | [.l x] => some ([decide (x.length < 1099511627776)], vb64 (sha512N x))
  | _ => none
noncomputable def sHSum512 : FSpec := spec [tby] sHSum512F
noncomputable abbrev tabHSum512 : List (FuncId × FSpec) := [(93, sHGreat), (94, sHRest)]
set_option maxRecDepth 100000 in
theorem tabokHSum512 : TabOK Try.prog (tabOf tabHSum512) := (.cons ok_HGreat (.cons ok_HRest .nil))
noncomputable abbrev ilHSum512 : List (FuncId × Func) := []
set_option maxRecDepth 100000 in
theorem ilokHSum512 : IlOK Try.prog (ilTab ilHSum512) := IlOK.nil
set_option maxRecDepth 100000 in
theorem ok_HSum512 : FnOK Try.prog 87 sHSum512 := by
  refine fn_flat (cx := mkcf true false tabHSum512 ilHSum512 []) (c := bodyOf Try.f87) Try.func87 (by kernel_rfl) (by kernel_rfl) rfl ?_
  intro ds chk v vs hF ht he hr base
  unfold sHSum512F at hF
  split at hF
  · rename_i x
    cases hF
    have hvs : vs = [vby x] := by simp only [encA, encV, encP, encL, Option.some.injEq] at he; exact he.symm
    subst hvs
    have hx : x.length < 1099511627776 := of_decide_eq_true (ht _ (by simp))
    obtain ⟨hxr, _⟩ := hr
    have hg : sha512N x = outN (greatsN (hpackW k512.h) (hrestL 128 16 x (x.length : Nat)) ((hrestL 128 16 x (x.length : Nat)).length / 128)) := by unfold sha512N; rw [seal_eq]
    rw [hg]
    clear hg
    have h0 : evLS (mkcf true false tabHSum512 ilHSum512 []) 100 ((items (bodyOf Try.f87)).take 4) ⟨t0 Try.f87 [vby x], []⟩ (kfg 0 [0, 2, 3, 4, 5] [0, 1, 2] 3) = chks [okK .i64 (x.length : Nat)] (.done .normal (stSa (x.length : Nat) x (.ps kLs) (.ps hLs))) := by kernel_rfl
    rw [chks_true (allT1 (okI (by omega) (by omega)))] at h0
    refine Runs.items _ _ _ (RunsL.preG (mkokf (sy := true) (rw := false) tabokHSum512 ilokHSum512 JsOK.nil) (k := 4) h0 (stSa_ent _ _) ?_)
    generalize hn : ((x.length : Nat) : Int) = n
    have hpl : (hrestL 128 16 x n).length = x.length + 1 + zerosN 128 16 x.length + (16 - 8) + 8 := hrestL_len ..
    have hzb : zerosN 128 16 x.length < 128 := Nat.mod_lt _ (by decide)
    have hpm := hrest_mod x n
    refine RunsL.loop (id := 0) (by kernel_rfl) (fun m s => ∃ j, s = stSa n (x.drop (128 * j)) (cK (hpackW k512.k)) (cW (greatsN (hpackW k512.h) (hrestL 128 16 x n) j)) ∧ 128 * j ≤ x.length ∧ m = x.length - 128 * j) x.length ⟨0, rfl, by omega, by omega⟩ ?_
    rintro m s ⟨j, rfl, hj, hm⟩
    have hyl : (x.drop (128 * j)).length = x.length - 128 * j := List.length_drop
    have hevG : ∀ (y : List (List D)) (s : Nat), evLS (mkcf true false tabHSum512 ilHSum512 []) 100 (items (loopAt (bodyOf Try.f87) 4)) (stSa n y (cK (hpackW k512.k)) (cW s)) (kfg 0 [0, 2, 3, 4, 5] [0, 1, 2] 3) =
        chks [okK .i64 (y.length : Nat)] (bif decide ((128 : Int) ≤ (y.length : Nat)) then chks [decide ((128 : Int) ≤ (y.length : Nat)), decide (((y.drop 0).take (128 - 0)).length = 128), decide (hpackW k512.k = hpackW k512.k), decide (((y.length : Nat) : Int) ≤ (y.length : Nat)), decide ((128 : Int) ≤ (y.length : Nat))]
          (.done .normal (stSa n ((y.drop 128).take (((y.length : Nat) : Int).toNat - 128)) (cK (hpackW k512.k)) (cW (greatN s ((y.drop 0).take (128 - 0))))))
        else .done (.exit 0) (stSa n y (cK (hpackW k512.k)) (cW s))) := by intro y s; kernel_rfl
    have hev := hevG (x.drop (128 * j)) (greatsN (hpackW k512.h) (hrestL 128 16 x n) j)
    rw [chks_true (allT1 (okI (by omega) (by omega)))] at hev
    clear hevG
    by_cases hc : 128 ≤ (x.drop (128 * j)).length
    · rw [decide_eq_true (show (128 : Int) ≤ ((x.drop (128 * j)).length : Nat) by omega), cond_true, Int.toNat_natCast, List.drop_zero, chks_true] at hev
      rotate_left 1
      · refine allTc (by rfl) (allTc ?_ (allTc (decide_eq_true rfl) (allTc ?_ (allT1 ?_))))
        · rw [decide_eq_true_iff, List.length_take]; omega
        · rw [decide_eq_true_iff]; omega
        · rfl
      refine RunsL.allS (mkokf (sy := true) (rw := false) tabokHSum512 ilokHSum512 JsOK.nil) hev ⟨m - 128, by omega, j + 1, ?_, by omega, by omega⟩
      rw [List.drop_drop, List.take_of_length_le (by rw [List.length_drop]; omega), show 128 * j + 128 = 128 * (j + 1) by omega]
      show _ = stSa n _ _ (cW (greatN (greatsN (hpackW k512.h) (hrestL 128 16 x n) j) (((hrestL 128 16 x n).drop (128 * j)).take 128)))
      rw [hrest_blk (by omega)]
    · rw [decide_eq_false (show ¬ (128 : Int) ≤ ((x.drop (128 * j)).length : Nat) by omega), cond_false] at hev
      refine RunsL.allS (mkokf (sy := true) (rw := false) tabokHSum512 ilokHSum512 JsOK.nil) hev ?_
      clear hev
      have h1G : ∀ (y : List (List D)) (s : Nat), evLS (mkcf true false tabHSum512 ilHSum512 []) 100 (((items (bodyOf Try.f87)).drop (4 + 1)).take 1) (stSa n y (cK (hpackW k512.k)) (cW s)) (kfg 0 [2, 3, 4, 6] [0, 1, 2, 3] 4) =
          chks [decide (y.length < 1099511627776)] (.done .normal (stSb (hrestL 128 16 y n) 0 (hrestL 128 16 y n).length s (hpackW k512.k))) := by intro y s; kernel_rfl
      have h1 := h1G (x.drop (128 * j)) (greatsN (hpackW k512.h) (hrestL 128 16 x n) j)
      rw [chks_true (allT1 (by rw [decide_eq_true_iff]; omega)), ← hrest_drop hj] at h1
      refine RunsL.preS (mkokf (sy := true) (rw := false) tabokHSum512 ilokHSum512 JsOK.nil) (k := 1) h1 ?_
      have hql : ((hrestL 128 16 x n).drop (128 * j)).length = (hrestL 128 16 x n).length - 128 * j := List.length_drop
      refine RunsL.loop (id := 2) (by kernel_rfl) (fun m s => ∃ i, s = stSb ((hrestL 128 16 x n).drop (128 * j)) (128 * i) ((hrestL 128 16 x n).length - 128 * j - 128 * i) (greatsN (hpackW k512.h) (hrestL 128 16 x n) (j + i)) (hpackW k512.k) ∧ 128 * (j + i) ≤ (hrestL 128 16 x n).length ∧ m = (hrestL 128 16 x n).length - 128 * (j + i)) ((hrestL 128 16 x n).length - 128 * j) ⟨0, by rw [hql]; rfl, by omega, by omega⟩ ?_
      rintro m s ⟨i, rfl, hi, hm⟩
      have hevG : ∀ (p : List (List D)) (off len s : Nat), evLS (mkcf true false tabHSum512 ilHSum512 []) 100 (items (loopAt (bodyOf Try.f87) 6)) (stSb p off len s (hpackW k512.k)) (kfg 0 [2, 3, 4, 6] [0, 1, 2, 3] 4) =
          chks [okK .i64 (len : Nat)] (bif decide ((0 : Int) < (len : Nat)) then chks [decide ((128 : Int) ≤ (len : Nat)), decide (off + 0 + (128 - 0) ≤ p.length), decide (((p.drop (off + 0)).take (128 - 0)).length = 128), decide (hpackW k512.k = hpackW k512.k), decide (((len : Nat) : Int) ≤ (len : Nat)), decide ((128 : Int) ≤ (len : Nat))]
            (.done .normal (stSb p (off + 128) (((len : Nat) : Int).toNat - 128) (greatN s ((p.drop (off + 0)).take (128 - 0))) (hpackW k512.k)))
          else .done (.exit 2) (stSb p off len s (hpackW k512.k))) := by intro p off len s; kernel_rfl
      have hev := hevG ((hrestL 128 16 x n).drop (128 * j)) (128 * i) ((hrestL 128 16 x n).length - 128 * j - 128 * i) (greatsN (hpackW k512.h) (hrestL 128 16 x n) (j + i))
      clear hevG
      rw [chks_true (allT1 (okI (by omega) (by omega)))] at hev
      by_cases hc : 0 < (hrestL 128 16 x n).length - 128 * j - 128 * i
      · rw [decide_eq_true (show (0 : Int) < (((hrestL 128 16 x n).length - 128 * j - 128 * i : Nat) : Int) by omega), cond_true, Int.toNat_natCast, chks_true] at hev
        rotate_left 1
        · refine allTc ?_ (allTc ?_ (allTc ?_ (allTc (decide_eq_true rfl) (allTc ?_ (allT1 ?_)))))
          · rw [decide_eq_true_iff]; omega
          · rw [decide_eq_true_iff]; omega
          · rw [decide_eq_true_iff, List.length_take, List.length_drop]; omega
          · rw [decide_eq_true_iff]; omega
          · rw [decide_eq_true_iff]; omega
        refine RunsL.allS (mkokf (sy := true) (rw := false) tabokHSum512 ilokHSum512 JsOK.nil) hev ⟨m - 128, by omega, i + 1, ?_, by omega, by omega⟩
        rw [show (hrestL 128 16 x n).length - 128 * j - 128 * i - 128 = (hrestL 128 16 x n).length - 128 * j - 128 * (i + 1) by omega]
        simp only [Nat.add_zero, Nat.sub_zero, List.drop_drop]
        rw [← Nat.mul_add]
        rfl
      · rw [decide_eq_false (show ¬ (0 : Int) < (((hrestL 128 16 x n).length - 128 * j - 128 * i : Nat) : Int) by omega), cond_false] at hev
        refine RunsL.allS (mkokf (sy := true) (rw := false) tabokHSum512 ilokHSum512 JsOK.nil) hev ?_
        have hq : (hrestL 128 16 x n).length / 128 = j + i := by omega
        rw [hq]
        generalize greatsN (hpackW k512.h) (hrestL 128 16 x n) (j + i) = S
        generalize (hrestL 128 16 x n).drop (128 * j) = P
        generalize (hrestL 128 16 x n).length - 128 * j - 128 * i = K
        generalize 128 * i = O
        show RunsL _ 0 _ _ _
        refine RunsL.flags (cx := mkcf false false [] [] []) (cx' := mkcf true false tabHSum512 ilHSum512 []) rfl rfl ?_
        refine RunsL.preS (mkokf TabOK.nil IlOK.nil JsOK.nil) (n := 100) (k := 1) (kt := [2, 4, 7]) (kh := [0, 2, 4]) (m := 5) (e := .normal) (st' := ⟨[.junk, .junk, .one (.ptr 0 0), .junk, .one (.ptr 2 0), .junk, .junk, .one (.ptr 4 0)] ++ List.replicate 43 .junk, [some ⟨105, .ps (List.replicate 64 (.int .u8 0))⟩, none, some ⟨61, cW S⟩, none, some ⟨105, .ps (List.replicate 64 (.int .u8 0))⟩]⟩) (by kernel_rfl) ?_
        exact runsL_evS (mkokf TabOK.nil IlOK.nil JsOK.nil) (n := 300) (bs0 := []) (v0 := .ag (.ps ((List.range 64).map fun i => .int .u8 (outI S i)))) (by kernel_rfl) (out_ent S) trivial
  · cases hF
end Go.Proofs.Yteohgdpkdbckoaa
