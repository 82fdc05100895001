/-
  What a form of parameters is read as.
-/
import Derived.Test.YteohgdpkdbckoaaLb104
import Derived.Test.YteohgdpkdbckoaaLb60
namespace Go.Proofs.Yteohgdpkdbckoaa
open Go Vx Go.RowKit

abbrev z9 : List L := ub0 ++ (ub0 ++ (ub0 ++ (ub0 ++ (ub0 ++ (ub0 ++ (ub0 ++ (ub0 ++ ub0)))))))
/-- The bytes of a part of a form; its number. -/
def dr (x : List (List D)) (k j : Nat) : List D := (List.take (((x.length : Nat) : Int).toNat - (32 * (k : Int)).toNat) (List.drop (32 * (k : Int)).toNat x)).getD j []
def drI (x : List (List D)) (k : Nat) : List L := (List.range 32).map fun j => .int .u8 ((dr x k j).headD (.n 0)).toI
def by32 (x : List (List D)) (k : Nat) : Nat := packL 8 ((List.range 32).map fun j => ((dr x k j).headD (.n 0)).toI.toNat)
noncomputable def rdOK (x : List (List D)) : Bool := bif decide (((x.length : Nat) : Int) = 288) then mprM (by32 x 0) (by32 x 1) (by32 x 2) (by32 x 3) (by32 x 4) (by32 x 5) (by32 x 6) (by32 x 7) (by32 x 8) else false
noncomputable def rdN (x : List (List D)) (k : Nat) : Nat := bif rdOK x then by32 x k else 0
noncomputable def rdE (x : List (List D)) : Int := bif rdOK x then 0 else 5
def stR0 (x : List (List D)) (e : Int) : St := ⟨[vby x, .junk, .one (.ptr 0 0), vi64 e] ++ List.replicate 28 .junk, [some ⟨25, .ps z9⟩]⟩
def stRx (x : List (List D)) (k : Int) (c : List L) : St := ⟨[vby x, .junk, .one (.ptr 0 0), vi64 0, .one (.ptr 1 0)] ++ List.replicate 6 .junk ++ [.one (.sl 3 0 9 9), vi64 9, vi64 k] ++ List.replicate 18 .junk, [some ⟨25, .ps z9⟩, some ⟨25, .ps c⟩, none, some ⟨39, .ps [.ptr 1 0, .ptr 1 32, .ptr 1 64, .ptr 1 96, .ptr 1 128, .ptr 1 160, .ptr 1 192, .ptr 1 224, .ptr 1 256]⟩]⟩
theorem stRx_ent {x : List (List D)} {k : Int} {c c' : List L} (h : CEnt (.ps c) (.ps c')) : StEntG (stRx x k c) (stRx x k c') := by
  refine ⟨rfl, fun _ => .inl rfl, fun j => ?_⟩
  match j with
  | 0 => exact .inl rfl
  | 1 => exact .inr ⟨_, _, _, rfl, rfl, h, fun h => (by cases h), fun _ h => (by cases h)⟩
  | j + 2 => exact .inl rfl
abbrev p9 (a b c d e f g h i : Nat) : List L := [.pk .u8 8 32 a, .pk .u8 8 32 b, .pk .u8 8 32 c, .pk .u8 8 32 d, .pk .u8 8 32 e, .pk .u8 8 32 f, .pk .u8 8 32 g, .pk .u8 8 32 h, .pk .u8 8 32 i]
def n9 (x : List (List D)) (k i : Nat) : Nat := bif Nat.blt i k then by32 x i else 0
def c9 (x : List (List D)) (k : Nat) : List L := p9 (n9 x k 0) (n9 x k 1) (n9 x k 2) (n9 x k 3) (n9 x k 4) (n9 x k 5) (n9 x k 6) (n9 x k 7) (n9 x k 8)
theorem dr_len {x : List (List D)} (h : x.length = 288) {k : Nat} (hk : k < 9) : 32 ≤ (List.take (((x.length : Nat) : Int).toNat - (32 * (k : Int)).toNat) (List.drop (32 * (k : Int)).toNat x)).length := by
  rw [List.length_take, List.length_drop, h]
  omega

noncomputable def sHMReadF : List D → Option (List Bool × V)
  | [.l x] => some ([], vprm5 (rdN x 0) (rdN x 1) (rdN x 2) (rdN x 3) (rdN x 4) (rdN x 5) (rdN x 6) (rdN x 7) (rdN x 8) (rdE x))
  | _ => none
noncomputable def sHMRead : FSpec := spec [tby] sHMReadF
noncomputable abbrev tabHMRead : List (FuncId × FSpec) := [(6, sHMPar)]
set_option maxRecDepth 100000 in
theorem tabokHMRead : TabOK Try.prog (tabOf tabHMRead) := (.cons ok_HMPar .nil)
noncomputable abbrev ilHMRead : List (FuncId × Func) := [(12, Try.f12)]
set_option maxRecDepth 100000 in
theorem ilokHMRead : IlOK Try.prog (ilTab ilHMRead) := (IlOK.cons Try.func12 (by kernel_rfl) IlOK.nil)
set_option maxRecDepth 100000 in
theorem ok_HMRead : FnOK Try.prog 10 sHMRead := by
  refine fn_flat (cx := mkcf true true tabHMRead ilHMRead []) (c := bodyOf Try.f10) Try.func10 (by kernel_rfl) (by kernel_rfl) rfl ?_
  intro ds chk v vs hF ht he hr base
  unfold sHMReadF at hF
  split at hF
  · rename_i x
    cases hF
    have hvs : vs = [vby x] := by simp only [encA, encV, encP, encL, Option.some.injEq] at he; exact he.symm
    subst hvs
    obtain ⟨hrng, _⟩ := hr
    have hmx : x.length < 9223372036854775808 := Nat.lt_of_le_of_lt hrng.1 (by decide)
    have h0 : evLS (mkcf true true tabHMRead ilHMRead []) 100 ((items (bodyOf Try.f10)).take 3) ⟨t0 Try.f10 [vby x], []⟩ (kfg 0 [0, 2, 3] [0] 1) =
        chks [okK .i64 (x.length : Nat)] (bif !decide (((x.length : Nat) : Int) = 288) then .done .ret (stR0 x 5) else .done .normal (stR0 x 0)) := by kernel_rfl
    rw [chks_true (allT1 (okI (by omega) (by omega)))] at h0
    by_cases hx : x.length = 288
    rotate_left 1
    · have e1 : decide (((x.length : Nat) : Int) = 288) = false := decide_eq_false (by omega)
      have e2 : rdOK x = false := by unfold rdOK; rw [e1]; rfl
      rw [e1, Bool.not_false, cond_true] at h0
      have e3 : ∀ i, rdN x i = 0 := fun i => by unfold rdN; rw [e2]; rfl
      have e4 : rdE x = 5 := by unfold rdE; rw [e2]; rfl
      simp only [e3, e4]
      exact Runs.items _ _ _ (RunsL.preS (mkokf (sy := true) (rw := true) tabokHMRead ilokHMRead JsOK.nil) (k := 3) h0 ⟨_, [], (by kernel_rfl), VEnt.tup2 (UEnt.of z9_ent) (UEnt.refl _), trivial⟩)
    have e1 : decide (((x.length : Nat) : Int) = 288) = true := decide_eq_true (by omega)
    rw [e1, Bool.not_true, cond_false] at h0
    refine Runs.items _ _ _ (RunsL.preS (mkokf (sy := true) (rw := true) tabokHMRead ilokHMRead JsOK.nil) (k := 3) h0 ?_)
    have h1 : evLS (mkcf true true tabHMRead ilHMRead []) 100 (((items (bodyOf Try.f10)).drop 3).take 2) (stR0 x 0) (kfg 0 [0, 2, 3, 4, 11, 12, 13] [0, 1, 3] 4) = chks [okK .i64 9] (.done .normal (stRx x ((0 : Nat) : Int) z9)) := by kernel_rfl
    rw [chks_true (allT1 (okI (by decide) (by decide)))] at h1
    refine RunsL.preG (mkokf (sy := true) (rw := true) tabokHMRead ilokHMRead JsOK.nil) (k := 2) h1 (stRx_ent (c' := c9 x 0) (CEnt.of' z9_ent)) ?_
    refine RunsL.loop (id := 0) (by kernel_rfl) (fun m s => ∃ k : Nat, k + m = 9 ∧ s = stRx x (k : Int) (c9 x k)) 9 ⟨0, rfl, rfl⟩ ?_
    rintro m s ⟨k, hk, rfl⟩
    match k, hk with
      | 0, hk =>
        obtain rfl : m = 9 := by omega
        have h2 : evLS (mkcf true true tabHMRead ilHMRead []) 100 (items (loopAt (bodyOf Try.f10) 5)) (stRx x ((0 : Nat) : Int) (c9 x 0)) (kfg 0 [0, 2, 3, 4, 11, 12, 13] [0, 1, 3] 4) = chks [okK .i64 (32 * ((0 : Nat) : Int)), decide (((x.length : Nat) : Int) ≤ (x.length : Nat)), decide (32 * ((0 : Nat) : Int) ≤ (x.length : Nat)), decide (32 ≤ (List.take (((x.length : Nat) : Int).toNat - (32 * ((0 : Nat) : Int)).toNat) (List.drop (32 * ((0 : Nat) : Int)).toNat x)).length), okK .i64 (((0 + 1 : Nat) : Int))]
          (.done .normal (stRx x ((0 + 1 : Nat) : Int) (drI x 0 ++ ([.pk .u8 8 32 (n9 x 0 1)] ++ ([.pk .u8 8 32 (n9 x 0 2)] ++ ([.pk .u8 8 32 (n9 x 0 3)] ++ ([.pk .u8 8 32 (n9 x 0 4)] ++ ([.pk .u8 8 32 (n9 x 0 5)] ++ ([.pk .u8 8 32 (n9 x 0 6)] ++ ([.pk .u8 8 32 (n9 x 0 7)] ++ ([.pk .u8 8 32 (n9 x 0 8)]))))))))))) := by kernel_rfl
        rw [chks_true (allTc (okI (by omega) (by omega)) (allTc (decide_eq_true (Int.le_refl _)) (allTc (decide_eq_true (by omega)) (allTc (decide_eq_true (dr_len hx (by decide))) (allT1 (okI (by omega) (by omega)))))))] at h2
        exact RunsL.allG (mkokf (sy := true) (rw := true) tabokHMRead ilokHMRead JsOK.nil) h2 (stRx_ent (CEnt.of' (VEnt.dec (t := tprm) (ds := [.n (n9 x 1 0), .n (n9 x 1 1), .n (n9 x 1 2), .n (n9 x 1 3), .n (n9 x 1 4), .n (n9 x 1 5), .n (n9 x 1 6), .n (n9 x 1 7), .n (n9 x 1 8)]) (by kernel_rfl) (by kernel_rfl)))) ⟨8, by decide, 0 + 1, by decide, rfl⟩
      | 1, hk =>
        obtain rfl : m = 8 := by omega
        have h2 : evLS (mkcf true true tabHMRead ilHMRead []) 100 (items (loopAt (bodyOf Try.f10) 5)) (stRx x ((1 : Nat) : Int) (c9 x 1)) (kfg 0 [0, 2, 3, 4, 11, 12, 13] [0, 1, 3] 4) = chks [okK .i64 (32 * ((1 : Nat) : Int)), decide (((x.length : Nat) : Int) ≤ (x.length : Nat)), decide (32 * ((1 : Nat) : Int) ≤ (x.length : Nat)), decide (32 ≤ (List.take (((x.length : Nat) : Int).toNat - (32 * ((1 : Nat) : Int)).toNat) (List.drop (32 * ((1 : Nat) : Int)).toNat x)).length), okK .i64 (((1 + 1 : Nat) : Int))]
          (.done .normal (stRx x ((1 + 1 : Nat) : Int) ([.pk .u8 8 32 (n9 x 1 0)] ++ (drI x 1 ++ ([.pk .u8 8 32 (n9 x 1 2)] ++ ([.pk .u8 8 32 (n9 x 1 3)] ++ ([.pk .u8 8 32 (n9 x 1 4)] ++ ([.pk .u8 8 32 (n9 x 1 5)] ++ ([.pk .u8 8 32 (n9 x 1 6)] ++ ([.pk .u8 8 32 (n9 x 1 7)] ++ ([.pk .u8 8 32 (n9 x 1 8)]))))))))))) := by kernel_rfl
        rw [chks_true (allTc (okI (by omega) (by omega)) (allTc (decide_eq_true (Int.le_refl _)) (allTc (decide_eq_true (by omega)) (allTc (decide_eq_true (dr_len hx (by decide))) (allT1 (okI (by omega) (by omega)))))))] at h2
        exact RunsL.allG (mkokf (sy := true) (rw := true) tabokHMRead ilokHMRead JsOK.nil) h2 (stRx_ent (CEnt.of' (VEnt.dec (t := tprm) (ds := [.n (n9 x 2 0), .n (n9 x 2 1), .n (n9 x 2 2), .n (n9 x 2 3), .n (n9 x 2 4), .n (n9 x 2 5), .n (n9 x 2 6), .n (n9 x 2 7), .n (n9 x 2 8)]) (by kernel_rfl) (by kernel_rfl)))) ⟨7, by decide, 1 + 1, by decide, rfl⟩
      | 2, hk =>
        obtain rfl : m = 7 := by omega
        have h2 : evLS (mkcf true true tabHMRead ilHMRead []) 100 (items (loopAt (bodyOf Try.f10) 5)) (stRx x ((2 : Nat) : Int) (c9 x 2)) (kfg 0 [0, 2, 3, 4, 11, 12, 13] [0, 1, 3] 4) = chks [okK .i64 (32 * ((2 : Nat) : Int)), decide (((x.length : Nat) : Int) ≤ (x.length : Nat)), decide (32 * ((2 : Nat) : Int) ≤ (x.length : Nat)), decide (32 ≤ (List.take (((x.length : Nat) : Int).toNat - (32 * ((2 : Nat) : Int)).toNat) (List.drop (32 * ((2 : Nat) : Int)).toNat x)).length), okK .i64 (((2 + 1 : Nat) : Int))]
          (.done .normal (stRx x ((2 + 1 : Nat) : Int) ([.pk .u8 8 32 (n9 x 2 0)] ++ ([.pk .u8 8 32 (n9 x 2 1)] ++ (drI x 2 ++ ([.pk .u8 8 32 (n9 x 2 3)] ++ ([.pk .u8 8 32 (n9 x 2 4)] ++ ([.pk .u8 8 32 (n9 x 2 5)] ++ ([.pk .u8 8 32 (n9 x 2 6)] ++ ([.pk .u8 8 32 (n9 x 2 7)] ++ ([.pk .u8 8 32 (n9 x 2 8)]))))))))))) := by kernel_rfl
        rw [chks_true (allTc (okI (by omega) (by omega)) (allTc (decide_eq_true (Int.le_refl _)) (allTc (decide_eq_true (by omega)) (allTc (decide_eq_true (dr_len hx (by decide))) (allT1 (okI (by omega) (by omega)))))))] at h2
        exact RunsL.allG (mkokf (sy := true) (rw := true) tabokHMRead ilokHMRead JsOK.nil) h2 (stRx_ent (CEnt.of' (VEnt.dec (t := tprm) (ds := [.n (n9 x 3 0), .n (n9 x 3 1), .n (n9 x 3 2), .n (n9 x 3 3), .n (n9 x 3 4), .n (n9 x 3 5), .n (n9 x 3 6), .n (n9 x 3 7), .n (n9 x 3 8)]) (by kernel_rfl) (by kernel_rfl)))) ⟨6, by decide, 2 + 1, by decide, rfl⟩
      | 3, hk =>
        obtain rfl : m = 6 := by omega
        have h2 : evLS (mkcf true true tabHMRead ilHMRead []) 100 (items (loopAt (bodyOf Try.f10) 5)) (stRx x ((3 : Nat) : Int) (c9 x 3)) (kfg 0 [0, 2, 3, 4, 11, 12, 13] [0, 1, 3] 4) = chks [okK .i64 (32 * ((3 : Nat) : Int)), decide (((x.length : Nat) : Int) ≤ (x.length : Nat)), decide (32 * ((3 : Nat) : Int) ≤ (x.length : Nat)), decide (32 ≤ (List.take (((x.length : Nat) : Int).toNat - (32 * ((3 : Nat) : Int)).toNat) (List.drop (32 * ((3 : Nat) : Int)).toNat x)).length), okK .i64 (((3 + 1 : Nat) : Int))]
          (.done .normal (stRx x ((3 + 1 : Nat) : Int) ([.pk .u8 8 32 (n9 x 3 0)] ++ ([.pk .u8 8 32 (n9 x 3 1)] ++ ([.pk .u8 8 32 (n9 x 3 2)] ++ (drI x 3 ++ ([.pk .u8 8 32 (n9 x 3 4)] ++ ([.pk .u8 8 32 (n9 x 3 5)] ++ ([.pk .u8 8 32 (n9 x 3 6)] ++ ([.pk .u8 8 32 (n9 x 3 7)] ++ ([.pk .u8 8 32 (n9 x 3 8)]))))))))))) := by kernel_rfl
        rw [chks_true (allTc (okI (by omega) (by omega)) (allTc (decide_eq_true (Int.le_refl _)) (allTc (decide_eq_true (by omega)) (allTc (decide_eq_true (dr_len hx (by decide))) (allT1 (okI (by omega) (by omega)))))))] at h2
        exact RunsL.allG (mkokf (sy := true) (rw := true) tabokHMRead ilokHMRead JsOK.nil) h2 (stRx_ent (CEnt.of' (VEnt.dec (t := tprm) (ds := [.n (n9 x 4 0), .n (n9 x 4 1), .n (n9 x 4 2), .n (n9 x 4 3), .n (n9 x 4 4), .n (n9 x 4 5), .n (n9 x 4 6), .n (n9 x 4 7), .n (n9 x 4 8)]) (by kernel_rfl) (by kernel_rfl)))) ⟨5, by decide, 3 + 1, by decide, rfl⟩
      | 4, hk =>
        obtain rfl : m = 5 := by omega
        have h2 : evLS (mkcf true true tabHMRead ilHMRead []) 100 (items (loopAt (bodyOf Try.f10) 5)) (stRx x ((4 : Nat) : Int) (c9 x 4)) (kfg 0 [0, 2, 3, 4, 11, 12, 13] [0, 1, 3] 4) = chks [okK .i64 (32 * ((4 : Nat) : Int)), decide (((x.length : Nat) : Int) ≤ (x.length : Nat)), decide (32 * ((4 : Nat) : Int) ≤ (x.length : Nat)), decide (32 ≤ (List.take (((x.length : Nat) : Int).toNat - (32 * ((4 : Nat) : Int)).toNat) (List.drop (32 * ((4 : Nat) : Int)).toNat x)).length), okK .i64 (((4 + 1 : Nat) : Int))]
          (.done .normal (stRx x ((4 + 1 : Nat) : Int) ([.pk .u8 8 32 (n9 x 4 0)] ++ ([.pk .u8 8 32 (n9 x 4 1)] ++ ([.pk .u8 8 32 (n9 x 4 2)] ++ ([.pk .u8 8 32 (n9 x 4 3)] ++ (drI x 4 ++ ([.pk .u8 8 32 (n9 x 4 5)] ++ ([.pk .u8 8 32 (n9 x 4 6)] ++ ([.pk .u8 8 32 (n9 x 4 7)] ++ ([.pk .u8 8 32 (n9 x 4 8)]))))))))))) := by kernel_rfl
        rw [chks_true (allTc (okI (by omega) (by omega)) (allTc (decide_eq_true (Int.le_refl _)) (allTc (decide_eq_true (by omega)) (allTc (decide_eq_true (dr_len hx (by decide))) (allT1 (okI (by omega) (by omega)))))))] at h2
        exact RunsL.allG (mkokf (sy := true) (rw := true) tabokHMRead ilokHMRead JsOK.nil) h2 (stRx_ent (CEnt.of' (VEnt.dec (t := tprm) (ds := [.n (n9 x 5 0), .n (n9 x 5 1), .n (n9 x 5 2), .n (n9 x 5 3), .n (n9 x 5 4), .n (n9 x 5 5), .n (n9 x 5 6), .n (n9 x 5 7), .n (n9 x 5 8)]) (by kernel_rfl) (by kernel_rfl)))) ⟨4, by decide, 4 + 1, by decide, rfl⟩
      | 5, hk =>
        obtain rfl : m = 4 := by omega
        have h2 : evLS (mkcf true true tabHMRead ilHMRead []) 100 (items (loopAt (bodyOf Try.f10) 5)) (stRx x ((5 : Nat) : Int) (c9 x 5)) (kfg 0 [0, 2, 3, 4, 11, 12, 13] [0, 1, 3] 4) = chks [okK .i64 (32 * ((5 : Nat) : Int)), decide (((x.length : Nat) : Int) ≤ (x.length : Nat)), decide (32 * ((5 : Nat) : Int) ≤ (x.length : Nat)), decide (32 ≤ (List.take (((x.length : Nat) : Int).toNat - (32 * ((5 : Nat) : Int)).toNat) (List.drop (32 * ((5 : Nat) : Int)).toNat x)).length), okK .i64 (((5 + 1 : Nat) : Int))]
          (.done .normal (stRx x ((5 + 1 : Nat) : Int) ([.pk .u8 8 32 (n9 x 5 0)] ++ ([.pk .u8 8 32 (n9 x 5 1)] ++ ([.pk .u8 8 32 (n9 x 5 2)] ++ ([.pk .u8 8 32 (n9 x 5 3)] ++ ([.pk .u8 8 32 (n9 x 5 4)] ++ (drI x 5 ++ ([.pk .u8 8 32 (n9 x 5 6)] ++ ([.pk .u8 8 32 (n9 x 5 7)] ++ ([.pk .u8 8 32 (n9 x 5 8)]))))))))))) := by kernel_rfl
        rw [chks_true (allTc (okI (by omega) (by omega)) (allTc (decide_eq_true (Int.le_refl _)) (allTc (decide_eq_true (by omega)) (allTc (decide_eq_true (dr_len hx (by decide))) (allT1 (okI (by omega) (by omega)))))))] at h2
        exact RunsL.allG (mkokf (sy := true) (rw := true) tabokHMRead ilokHMRead JsOK.nil) h2 (stRx_ent (CEnt.of' (VEnt.dec (t := tprm) (ds := [.n (n9 x 6 0), .n (n9 x 6 1), .n (n9 x 6 2), .n (n9 x 6 3), .n (n9 x 6 4), .n (n9 x 6 5), .n (n9 x 6 6), .n (n9 x 6 7), .n (n9 x 6 8)]) (by kernel_rfl) (by kernel_rfl)))) ⟨3, by decide, 5 + 1, by decide, rfl⟩
      | 6, hk =>
        obtain rfl : m = 3 := by omega
        have h2 : evLS (mkcf true true tabHMRead ilHMRead []) 100 (items (loopAt (bodyOf Try.f10) 5)) (stRx x ((6 : Nat) : Int) (c9 x 6)) (kfg 0 [0, 2, 3, 4, 11, 12, 13] [0, 1, 3] 4) = chks [okK .i64 (32 * ((6 : Nat) : Int)), decide (((x.length : Nat) : Int) ≤ (x.length : Nat)), decide (32 * ((6 : Nat) : Int) ≤ (x.length : Nat)), decide (32 ≤ (List.take (((x.length : Nat) : Int).toNat - (32 * ((6 : Nat) : Int)).toNat) (List.drop (32 * ((6 : Nat) : Int)).toNat x)).length), okK .i64 (((6 + 1 : Nat) : Int))]
          (.done .normal (stRx x ((6 + 1 : Nat) : Int) ([.pk .u8 8 32 (n9 x 6 0)] ++ ([.pk .u8 8 32 (n9 x 6 1)] ++ ([.pk .u8 8 32 (n9 x 6 2)] ++ ([.pk .u8 8 32 (n9 x 6 3)] ++ ([.pk .u8 8 32 (n9 x 6 4)] ++ ([.pk .u8 8 32 (n9 x 6 5)] ++ (drI x 6 ++ ([.pk .u8 8 32 (n9 x 6 7)] ++ ([.pk .u8 8 32 (n9 x 6 8)]))))))))))) := by kernel_rfl
        rw [chks_true (allTc (okI (by omega) (by omega)) (allTc (decide_eq_true (Int.le_refl _)) (allTc (decide_eq_true (by omega)) (allTc (decide_eq_true (dr_len hx (by decide))) (allT1 (okI (by omega) (by omega)))))))] at h2
        exact RunsL.allG (mkokf (sy := true) (rw := true) tabokHMRead ilokHMRead JsOK.nil) h2 (stRx_ent (CEnt.of' (VEnt.dec (t := tprm) (ds := [.n (n9 x 7 0), .n (n9 x 7 1), .n (n9 x 7 2), .n (n9 x 7 3), .n (n9 x 7 4), .n (n9 x 7 5), .n (n9 x 7 6), .n (n9 x 7 7), .n (n9 x 7 8)]) (by kernel_rfl) (by kernel_rfl)))) ⟨2, by decide, 6 + 1, by decide, rfl⟩
      | 7, hk =>
        obtain rfl : m = 2 := by omega
        have h2 : evLS (mkcf true true tabHMRead ilHMRead []) 100 (items (loopAt (bodyOf Try.f10) 5)) (stRx x ((7 : Nat) : Int) (c9 x 7)) (kfg 0 [0, 2, 3, 4, 11, 12, 13] [0, 1, 3] 4) = chks [okK .i64 (32 * ((7 : Nat) : Int)), decide (((x.length : Nat) : Int) ≤ (x.length : Nat)), decide (32 * ((7 : Nat) : Int) ≤ (x.length : Nat)), decide (32 ≤ (List.take (((x.length : Nat) : Int).toNat - (32 * ((7 : Nat) : Int)).toNat) (List.drop (32 * ((7 : Nat) : Int)).toNat x)).length), okK .i64 (((7 + 1 : Nat) : Int))]
          (.done .normal (stRx x ((7 + 1 : Nat) : Int) ([.pk .u8 8 32 (n9 x 7 0)] ++ ([.pk .u8 8 32 (n9 x 7 1)] ++ ([.pk .u8 8 32 (n9 x 7 2)] ++ ([.pk .u8 8 32 (n9 x 7 3)] ++ ([.pk .u8 8 32 (n9 x 7 4)] ++ ([.pk .u8 8 32 (n9 x 7 5)] ++ ([.pk .u8 8 32 (n9 x 7 6)] ++ (drI x 7 ++ ([.pk .u8 8 32 (n9 x 7 8)]))))))))))) := by kernel_rfl
        rw [chks_true (allTc (okI (by omega) (by omega)) (allTc (decide_eq_true (Int.le_refl _)) (allTc (decide_eq_true (by omega)) (allTc (decide_eq_true (dr_len hx (by decide))) (allT1 (okI (by omega) (by omega)))))))] at h2
        exact RunsL.allG (mkokf (sy := true) (rw := true) tabokHMRead ilokHMRead JsOK.nil) h2 (stRx_ent (CEnt.of' (VEnt.dec (t := tprm) (ds := [.n (n9 x 8 0), .n (n9 x 8 1), .n (n9 x 8 2), .n (n9 x 8 3), .n (n9 x 8 4), .n (n9 x 8 5), .n (n9 x 8 6), .n (n9 x 8 7), .n (n9 x 8 8)]) (by kernel_rfl) (by kernel_rfl)))) ⟨1, by decide, 7 + 1, by decide, rfl⟩
      | 8, hk =>
        obtain rfl : m = 1 := by omega
        have h2 : evLS (mkcf true true tabHMRead ilHMRead []) 100 (items (loopAt (bodyOf Try.f10) 5)) (stRx x ((8 : Nat) : Int) (c9 x 8)) (kfg 0 [0, 2, 3, 4, 11, 12, 13] [0, 1, 3] 4) = chks [okK .i64 (32 * ((8 : Nat) : Int)), decide (((x.length : Nat) : Int) ≤ (x.length : Nat)), decide (32 * ((8 : Nat) : Int) ≤ (x.length : Nat)), decide (32 ≤ (List.take (((x.length : Nat) : Int).toNat - (32 * ((8 : Nat) : Int)).toNat) (List.drop (32 * ((8 : Nat) : Int)).toNat x)).length), okK .i64 (((8 + 1 : Nat) : Int))]
          (.done .normal (stRx x ((8 + 1 : Nat) : Int) ([.pk .u8 8 32 (n9 x 8 0)] ++ ([.pk .u8 8 32 (n9 x 8 1)] ++ ([.pk .u8 8 32 (n9 x 8 2)] ++ ([.pk .u8 8 32 (n9 x 8 3)] ++ ([.pk .u8 8 32 (n9 x 8 4)] ++ ([.pk .u8 8 32 (n9 x 8 5)] ++ ([.pk .u8 8 32 (n9 x 8 6)] ++ ([.pk .u8 8 32 (n9 x 8 7)] ++ (drI x 8))))))))))) := by kernel_rfl
        rw [chks_true (allTc (okI (by omega) (by omega)) (allTc (decide_eq_true (Int.le_refl _)) (allTc (decide_eq_true (by omega)) (allTc (decide_eq_true (dr_len hx (by decide))) (allT1 (okI (by omega) (by omega)))))))] at h2
        exact RunsL.allG (mkokf (sy := true) (rw := true) tabokHMRead ilokHMRead JsOK.nil) h2 (stRx_ent (CEnt.of' (VEnt.dec (t := tprm) (ds := [.n (n9 x 9 0), .n (n9 x 9 1), .n (n9 x 9 2), .n (n9 x 9 3), .n (n9 x 9 4), .n (n9 x 9 5), .n (n9 x 9 6), .n (n9 x 9 7), .n (n9 x 9 8)]) (by kernel_rfl) (by kernel_rfl)))) ⟨0, by decide, 8 + 1, by decide, rfl⟩
      | 9, hk =>
        have h2 : evLS (mkcf true true tabHMRead ilHMRead []) 100 (items (loopAt (bodyOf Try.f10) 5)) (stRx x ((9 : Nat) : Int) (c9 x 9)) (kfg 0 [0, 2, 3, 4, 11, 12, 13] [0, 1, 3] 4) = .done (.exit 0) (stRx x ((9 : Nat) : Int) (c9 x 9)) := by kernel_rfl
        refine RunsL.allS (mkokf (sy := true) (rw := true) tabokHMRead ilokHMRead JsOK.nil) h2 ?_
        have h3 : evLS (mkcf true true tabHMRead ilHMRead []) 100 ((items (bodyOf Try.f10)).drop 6) (stRx x ((9 : Nat) : Int) (c9 x 9)) (kres (mkcf true true tabHMRead ilHMRead []) Try.f10 base) = bif !mprM (by32 x 0) (by32 x 1) (by32 x 2) (by32 x 3) (by32 x 4) (by32 x 5) (by32 x 6) (by32 x 7) (by32 x 8) then outV (.tup [.ag (.ps z9), .one (.int .i64 5)]) else outV (vprm5 (by32 x 0) (by32 x 1) (by32 x 2) (by32 x 3) (by32 x 4) (by32 x 5) (by32 x 6) (by32 x 7) (by32 x 8) 0) := by kernel_rfl
        have e2 : rdOK x = mprM (by32 x 0) (by32 x 1) (by32 x 2) (by32 x 3) (by32 x 4) (by32 x 5) (by32 x 6) (by32 x 7) (by32 x 8) := by unfold rdOK; rw [e1]; rfl
        cases hm : mprM (by32 x 0) (by32 x 1) (by32 x 2) (by32 x 3) (by32 x 4) (by32 x 5) (by32 x 6) (by32 x 7) (by32 x 8) with
        | false =>
          rw [hm, Bool.not_false, cond_true] at h3
          have e3 : ∀ i, rdN x i = 0 := fun i => by unfold rdN; rw [e2, hm]; rfl
          have e4 : rdE x = 5 := by unfold rdE; rw [e2, hm]; rfl
          simp only [e3, e4]
          exact runsL_evS (mkokf (sy := true) (rw := true) tabokHMRead ilokHMRead JsOK.nil) (bs0 := []) h3 (VEnt.tup2 (UEnt.of z9_ent) (UEnt.refl _)) trivial
        | true =>
          rw [hm, Bool.not_true, cond_false] at h3
          have e3 : ∀ i, rdN x i = by32 x i := fun i => by unfold rdN; rw [e2, hm]; rfl
          have e4 : rdE x = 0 := by unfold rdE; rw [e2, hm]; rfl
          simp only [e3, e4]
          exact runsL_evS (mkokf (sy := true) (rw := true) tabokHMRead ilokHMRead JsOK.nil) (bs0 := []) h3 (VEnt.refl _) trivial
      | k + 10, hk => omega
  · cases hF
end Go.Proofs.Yteohgdpkdbckoaa
