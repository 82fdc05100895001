/-
  The contract of sha.rest: what stands in a text's last blocks.
-/
import Derived.Test.YteohgdpkdbckoaaLb60
import Derived.Test.YteohgdpkdbckoaaX4
namespace Go.Proofs.Yteohgdpkdbckoaa
open Go Vx Go.RowKit

/-- A byte of the length, in bits. -/
def lenI (n : Int) (i : Int) : Int := wrapK .u8 (wrapK .u64 (8 * wrapK .u64 n) / ((2 ^ min (8 * i).toNat 64 : Nat) : Int))
def zerosN (bl sz l : Nat) : Nat := (bl - 1 - (l + sz) % bl) % bl
def lensL (n : Int) (k : Nat) : List (List D) := (List.range k).map fun (i : Nat) => [.i (lenI n (7 - (i : Int)))]
def hrestL (bl sz : Nat) (x : List (List D)) (n : Int) : List (List D) := x ++ [[.i 128]] ++ List.replicate (zerosN bl sz x.length) [.i 0] ++ List.replicate (sz - 8) [.i 0] ++ lensL n 8
theorem len_succ (y : List (List D)) (d : List D) : (y ++ [d]).length = y.length + 1 := by simp
theorem lensL_succ (n : Int) (k : Nat) : lensL n (k + 1) = lensL n k ++ [[.i (lenI n (7 - (k : Int)))]] := by
  unfold lensL
  rw [List.range_succ, List.map_append]
  rfl
theorem lensL_len (n : Int) (k : Nat) : (lensL n k).length = k := by simp [lensL]
theorem hrestL_len (bl sz : Nat) (x : List (List D)) (n : Int) : (hrestL bl sz x n).length = x.length + 1 + zerosN bl sz x.length + (sz - 8) + 8 := by
  unfold hrestL
  simp only [List.length_append, List.length_replicate, lensL_len, List.length_cons, List.length_nil, Nat.zero_add]
abbrev u8row (k : Nat) : V := .one (.row 0 1 0 k k)

def stRGreat (n : Int) (y : List (List D)) (k : Nat) (a c b : V) : St := ⟨[.junk, vi64 n, vi64 128, vi64 16] ++ List.replicate 5 .junk ++ [u8row k, a] ++ List.replicate 20 .junk ++ [c, b] ++ List.replicate 20 .junk, [some ⟨5, .row [.int .u8] y⟩]⟩
set_option maxRecDepth 100000 in
theorem hrest_runGreat {x : List (List D)} {n : Int} (hx : x.length < 1099511627776) (base : Nat) : Runs (mkcf true false [] [] []) 0 (bodyOf Try.f94) ⟨t0 Try.f94 [vby x, vi64 n, vi64 128, vi64 16], []⟩
    (Post (mkcf true false [] [] []) Try.f94 base (.one (.row base 1 0 (hrestL 128 16 x n).length (hrestL 128 16 x n).length)) [⟨5, .row [.int .u8] (hrestL 128 16 x n)⟩]) := by
  have hok : Ok (mkcf true false [] [] []) := mkokf TabOK.nil IlOK.nil JsOK.nil
  have h0 : evLS (mkcf true false [] [] []) 100 ((items (bodyOf Try.f94)).take 3) ⟨t0 Try.f94 [vby x, vi64 n, vi64 128, vi64 16], []⟩ (kfgN 0 [1, 2, 3, 9] [3] 4 [(3, 0)] 1) =
      chks [okK .i64 256, decide ((0 + x.length) * 1 ≤ 140737488355328), decide (0 + x.length < 4611686018427387904), decide (0 + x.length ≤ x.length), decide (0 + x.length ≤ 0 + x.length), decide ((0 + x.length + 1) * 1 ≤ 140737488355328), decide (0 + x.length + 1 < 4611686018427387904)]
      (.done .normal (stRGreat n (x.take (0 + x.length) ++ [[.i 128]]) (0 + x.length + 1) .junk .junk .junk)) := by kernel_rfl
  rw [Nat.zero_add, List.take_length, chks_true] at h0
  rotate_left 1
  · repeat' (first | exact allT0 | refine allTc ?_ ?_)
    all_goals first | (rw [decide_eq_true_iff]; omega) | exact okI (by omega) (by omega)
  refine Runs.items _ _ _ (RunsL.preN hok rfl (k := 3) h0 ?_)
  have hzb : zerosN 128 16 x.length < 128 := Nat.mod_lt _ (by decide)
  have hzu := hzb
  refine RunsL.loop (id := 0) (by kernel_rfl) (fun m s => ∃ j y, s = stRGreat n y (x.length + 1 + j) .junk .junk .junk ∧ y = x ++ [[.i 128]] ++ List.replicate j [.i 0] ∧ j + m = zerosN 128 16 x.length) (zerosN 128 16 x.length) ⟨0, _, rfl, by simp, Nat.zero_add _⟩ ?_
  rintro m s ⟨j, y, rfl, hy, hm⟩
  have hyl : y.length = x.length + 1 + j := by rw [hy]; simp; omega
  have hevG : ∀ k : Nat, evLS (mkcf true false [] [] []) 100 (items (loopAt (bodyOf Try.f94) 3)) (stRGreat n y k .junk .junk .junk) (kfgB 0 [1, 2, 3, 9] [2] 3 [(2, 0)] 1 [1, 2, 3, 9] [0] 1) =
      chks [okK .i64 (k : Nat), okK .i64 112] (bif !decide (((k : Nat) : Int).tmod 128 = 112) then
        chks [decide (k ≤ y.length), decide (k ≤ k), decide ((k + 1) * 1 ≤ 140737488355328), decide (k + 1 < 4611686018427387904)] (.done .normal (stRGreat n (y.take k ++ [[.i 0]]) (k + 1) .junk .junk .junk))
      else .done (.exit 0) (stRGreat n y k .junk .junk .junk)) := by intro k; kernel_rfl
  have hev := hevG (x.length + 1 + j)
  rw [chks_true (allTc (okI (by omega) (by omega)) (allT1 (okI (by omega) (by omega))))] at hev
  have hmod : ((x.length + 1 + j : Nat) : Int).tmod 128 = ((x.length + 1 + j) % 128 : Nat) := by rw [Int.tmod_eq_emod_of_nonneg (by omega)]; omega
  rw [hmod] at hev
  unfold zerosN at hm hzu
  cases m with
  | succ m =>
    have hc : decide ((((x.length + 1 + j) % 128 : Nat) : Int) = 112) = false := by rw [decide_eq_false_iff_not]; omega
    rw [hc, Bool.not_false, cond_true, chks_true] at hev
    rotate_left 1
    · repeat' (first | exact allT0 | refine allTc ?_ ?_)
      all_goals (rw [decide_eq_true_iff]; omega)
    refine RunsL.allB hok rfl hev ⟨m, Nat.lt_succ_self m, j + 1, _, rfl, ?_, by unfold zerosN; omega⟩
    rw [← hyl, List.take_length, hy, List.append_assoc, ← List.replicate_succ']
  | zero =>
    have hc : decide ((((x.length + 1 + j) % 128 : Nat) : Int) = 112) = true := by rw [decide_eq_true_iff]; omega
    rw [hc, Bool.not_true, cond_false] at hev
    refine RunsL.allB hok rfl hev ?_
    have hj : j = zerosN 128 16 x.length := by unfold zerosN; omega
    clear hev hevG hmod hc hm
    -- the zeros of the upper half of the length
    have h2G : ∀ k : Nat, evLS (mkcf true false [] [] []) 100 (((items (bodyOf Try.f94)).drop (3 + 1)).take 1) (stRGreat n y k .junk .junk .junk) (kfg 0 [1, 2, 3, 9, 31, 32] [0] 1) = chks [okK .i64 8] (.done .normal (stRGreat n y k .junk (vi64 8) (vi64 0))) := by intro k; kernel_rfl
    have h2 := h2G (x.length + 1 + j)
    rw [chks_true (allT1 (okI (by omega) (by omega)))] at h2
    refine RunsL.preS hok (k := 1) h2 ?_
    clear h2 h2G
    refine RunsL.loop (id := 2) (by kernel_rfl) (fun m s => ∃ (i : Nat) (z : List (List D)), s = stRGreat n z (x.length + 1 + j + i) .junk (vi64 8) (vi64 (i : Int)) ∧ z = y ++ List.replicate i [.i 0] ∧ i + m = 8) 8 ⟨0, y, rfl, by simp, rfl⟩ ?_
    rintro m s ⟨i, z, rfl, hz, hm⟩
    have hzl : z.length = x.length + 1 + j + i := by rw [hz]; simp [hyl]
    have hevG : ∀ (k : Nat) (i : Int), evLS (mkcf true false [] [] []) 100 (items (loopAt (bodyOf Try.f94) 5)) (stRGreat n z k .junk (vi64 8) (vi64 i)) (kfgB 0 [1, 2, 3, 9, 31, 32] [2] 3 [(2, 0)] 1 [1, 2, 3, 9] [0] 1) =
        bif decide (i < 8) then
          chks [decide (k ≤ z.length), decide (k ≤ k), decide ((k + 1) * 1 ≤ 140737488355328), decide (k + 1 < 4611686018427387904), okK .i64 (i + 1)] (.done .normal (stRGreat n (z.take k ++ [[.i 0]]) (k + 1) .junk (vi64 8) (vi64 (i + 1))))
        else .done (.exit 2) (stRGreat n z k .junk .junk .junk) := by intro k i; kernel_rfl
    have hev := hevG (x.length + 1 + j + i) (i : Int)
    cases m with
    | succ m =>
      rw [decide_eq_true (show ((i : Nat) : Int) < 8 by omega), cond_true, chks_true] at hev
      rotate_left 1
      · repeat' (first | exact allT0 | refine allTc ?_ ?_)
        all_goals first | (rw [decide_eq_true_iff]; omega) | exact okI (by omega) (by omega)
      refine RunsL.allB hok rfl hev ⟨m, Nat.lt_succ_self m, i + 1, _, rfl, ?_, by omega⟩
      rw [← hzl, List.take_length, hz, List.append_assoc, ← List.replicate_succ']
    | zero =>
      have hi : i = 8 := hm
      rw [decide_eq_false (show ¬ ((i : Nat) : Int) < 8 by omega), cond_false] at hev
      refine RunsL.allB hok rfl hev ?_
      clear hev hevG hm
      -- the length
      have h3G : ∀ k : Nat, evLS (mkcf true false [] [] []) 100 (((items (bodyOf Try.f94)).drop (5 + 1)).take 1) (stRGreat n z k .junk .junk .junk) (kfg 0 [1, 2, 3, 9, 10] [0] 1) = .done .normal (stRGreat n z k (vi64 7) .junk .junk) := by intro k; kernel_rfl
      refine RunsL.preS hok (k := 1) (h3G _) ?_
      refine RunsL.loop (id := 4) (by kernel_rfl) (fun m s => ∃ (i' : Nat) (u : List (List D)), s = stRGreat n u (x.length + 1 + j + i + i') (vi64 (7 - (i' : Int))) .junk .junk ∧ u = z ++ lensL n i' ∧ i' + m = 8) 8 ⟨0, z, rfl, by simp [lensL], rfl⟩ ?_
      rintro m s ⟨i', u, rfl, hu, hm⟩
      have hul : u.length = x.length + 1 + j + i + i' := by rw [hu, List.length_append, lensL_len, hzl]
      have hevG : ∀ (k : Nat) (i : Int), evLS (mkcf true false [] [] []) 100 (items (loopAt (bodyOf Try.f94) 7)) (stRGreat n u k (vi64 i) .junk .junk) (kfgB 0 [1, 2, 3, 9, 10] [2] 3 [(2, 0)] 1 [1, 2, 3, 9] [0] 1) =
          bif decide (0 ≤ i) then
            chks [okK .i64 (8 * i), decide (0 ≤ 8 * i), decide (k ≤ u.length), decide (k ≤ k), decide ((k + 1) * 1 ≤ 140737488355328), decide (k + 1 < 4611686018427387904), okK .i64 (i - 1)] (.done .normal (stRGreat n (u.take k ++ [[.i (lenI n i)]]) (k + 1) (vi64 (i - 1)) .junk .junk))
          else .done (.exit 4) (stRGreat n u k .junk .junk .junk) := by intro k i; kernel_rfl
      have hev := hevG (x.length + 1 + j + i + i') (7 - (i' : Int))
      cases m with
      | succ m =>
        rw [decide_eq_true (show (0 : Int) ≤ 7 - (i' : Int) by omega), cond_true, chks_true] at hev
        rotate_left 1
        · repeat' (first | exact allT0 | refine allTc ?_ ?_)
          all_goals first | (rw [decide_eq_true_iff]; omega) | exact okI (by omega) (by omega)
        refine RunsL.allB hok rfl hev ⟨m, Nat.lt_succ_self m, i' + 1, u.take (x.length + 1 + j + i + i') ++ [[.i (lenI n (7 - (i' : Int)))]], ?_, ?_, by omega⟩
        · rw [show (7 : Int) - ((i' + 1 : Nat) : Int) = 7 - (i' : Int) - 1 by omega]; rfl
        · rw [← hul, List.take_length, hu, List.append_assoc, ← lensL_succ]
      | zero =>
        have hi' : i' = 8 := hm
        rw [decide_eq_false (show ¬ (0 : Int) ≤ 7 - (i' : Int) by omega), cond_false] at hev
        refine RunsL.allB hok rfl hev ?_
        have hu' : hrestL 128 16 x n = u := by rw [hu, hz, hy, hi', hi, hj]; rfl
        rw [hu', hul]
        generalize x.length + 1 + j + i + i' = K
        exact runsL_evS hok (n := 100) (bs0 := [⟨5, .row [.int .u8] u⟩]) (by kernel_rfl) (VEnt.refl _) ⟨rfl, CEnt.refl _, fun ts h => ⟨ts, h⟩⟩

def stRSmall (n : Int) (y : List (List D)) (k : Nat) (a c b : V) : St := ⟨[.junk, vi64 n, vi64 64, vi64 8] ++ List.replicate 5 .junk ++ [u8row k, a] ++ List.replicate 20 .junk ++ [c, b] ++ List.replicate 20 .junk, [some ⟨5, .row [.int .u8] y⟩]⟩
set_option maxRecDepth 100000 in
theorem hrest_runSmall {x : List (List D)} {n : Int} (hx : x.length < 1099511627776) (base : Nat) : Runs (mkcf true false [] [] []) 0 (bodyOf Try.f94) ⟨t0 Try.f94 [vby x, vi64 n, vi64 64, vi64 8], []⟩
    (Post (mkcf true false [] [] []) Try.f94 base (.one (.row base 1 0 (hrestL 64 8 x n).length (hrestL 64 8 x n).length)) [⟨5, .row [.int .u8] (hrestL 64 8 x n)⟩]) := by
  have hok : Ok (mkcf true false [] [] []) := mkokf TabOK.nil IlOK.nil JsOK.nil
  have h0 : evLS (mkcf true false [] [] []) 100 ((items (bodyOf Try.f94)).take 3) ⟨t0 Try.f94 [vby x, vi64 n, vi64 64, vi64 8], []⟩ (kfgN 0 [1, 2, 3, 9] [3] 4 [(3, 0)] 1) =
      chks [okK .i64 128, decide ((0 + x.length) * 1 ≤ 140737488355328), decide (0 + x.length < 4611686018427387904), decide (0 + x.length ≤ x.length), decide (0 + x.length ≤ 0 + x.length), decide ((0 + x.length + 1) * 1 ≤ 140737488355328), decide (0 + x.length + 1 < 4611686018427387904)]
      (.done .normal (stRSmall n (x.take (0 + x.length) ++ [[.i 128]]) (0 + x.length + 1) .junk .junk .junk)) := by kernel_rfl
  rw [Nat.zero_add, List.take_length, chks_true] at h0
  rotate_left 1
  · repeat' (first | exact allT0 | refine allTc ?_ ?_)
    all_goals first | (rw [decide_eq_true_iff]; omega) | exact okI (by omega) (by omega)
  refine Runs.items _ _ _ (RunsL.preN hok rfl (k := 3) h0 ?_)
  have hzb : zerosN 64 8 x.length < 64 := Nat.mod_lt _ (by decide)
  have hzu := hzb
  refine RunsL.loop (id := 0) (by kernel_rfl) (fun m s => ∃ j y, s = stRSmall n y (x.length + 1 + j) .junk .junk .junk ∧ y = x ++ [[.i 128]] ++ List.replicate j [.i 0] ∧ j + m = zerosN 64 8 x.length) (zerosN 64 8 x.length) ⟨0, _, rfl, by simp, Nat.zero_add _⟩ ?_
  rintro m s ⟨j, y, rfl, hy, hm⟩
  have hyl : y.length = x.length + 1 + j := by rw [hy]; simp; omega
  have hevG : ∀ k : Nat, evLS (mkcf true false [] [] []) 100 (items (loopAt (bodyOf Try.f94) 3)) (stRSmall n y k .junk .junk .junk) (kfgB 0 [1, 2, 3, 9] [2] 3 [(2, 0)] 1 [1, 2, 3, 9] [0] 1) =
      chks [okK .i64 (k : Nat), okK .i64 56] (bif !decide (((k : Nat) : Int).tmod 64 = 56) then
        chks [decide (k ≤ y.length), decide (k ≤ k), decide ((k + 1) * 1 ≤ 140737488355328), decide (k + 1 < 4611686018427387904)] (.done .normal (stRSmall n (y.take k ++ [[.i 0]]) (k + 1) .junk .junk .junk))
      else .done (.exit 0) (stRSmall n y k .junk .junk .junk)) := by intro k; kernel_rfl
  have hev := hevG (x.length + 1 + j)
  rw [chks_true (allTc (okI (by omega) (by omega)) (allT1 (okI (by omega) (by omega))))] at hev
  have hmod : ((x.length + 1 + j : Nat) : Int).tmod 64 = ((x.length + 1 + j) % 64 : Nat) := by rw [Int.tmod_eq_emod_of_nonneg (by omega)]; omega
  rw [hmod] at hev
  unfold zerosN at hm hzu
  cases m with
  | succ m =>
    have hc : decide ((((x.length + 1 + j) % 64 : Nat) : Int) = 56) = false := by rw [decide_eq_false_iff_not]; omega
    rw [hc, Bool.not_false, cond_true, chks_true] at hev
    rotate_left 1
    · repeat' (first | exact allT0 | refine allTc ?_ ?_)
      all_goals (rw [decide_eq_true_iff]; omega)
    refine RunsL.allB hok rfl hev ⟨m, Nat.lt_succ_self m, j + 1, _, rfl, ?_, by unfold zerosN; omega⟩
    rw [← hyl, List.take_length, hy, List.append_assoc, ← List.replicate_succ']
  | zero =>
    have hc : decide ((((x.length + 1 + j) % 64 : Nat) : Int) = 56) = true := by rw [decide_eq_true_iff]; omega
    rw [hc, Bool.not_true, cond_false] at hev
    refine RunsL.allB hok rfl hev ?_
    have hj : j = zerosN 64 8 x.length := by unfold zerosN; omega
    clear hev hevG hmod hc hm
    -- the zeros of the upper half of the length
    have h2G : ∀ k : Nat, evLS (mkcf true false [] [] []) 100 (((items (bodyOf Try.f94)).drop (3 + 1)).take 1) (stRSmall n y k .junk .junk .junk) (kfg 0 [1, 2, 3, 9, 31, 32] [0] 1) = chks [okK .i64 0] (.done .normal (stRSmall n y k .junk (vi64 0) (vi64 0))) := by intro k; kernel_rfl
    have h2 := h2G (x.length + 1 + j)
    rw [chks_true (allT1 (okI (by omega) (by omega)))] at h2
    refine RunsL.preS hok (k := 1) h2 ?_
    clear h2 h2G
    refine RunsL.loop (id := 2) (by kernel_rfl) (fun m s => ∃ (i : Nat) (z : List (List D)), s = stRSmall n z (x.length + 1 + j + i) .junk (vi64 0) (vi64 (i : Int)) ∧ z = y ++ List.replicate i [.i 0] ∧ i + m = 0) 0 ⟨0, y, rfl, by simp, rfl⟩ ?_
    rintro m s ⟨i, z, rfl, hz, hm⟩
    have hzl : z.length = x.length + 1 + j + i := by rw [hz]; simp [hyl]
    have hevG : ∀ (k : Nat) (i : Int), evLS (mkcf true false [] [] []) 100 (items (loopAt (bodyOf Try.f94) 5)) (stRSmall n z k .junk (vi64 0) (vi64 i)) (kfgB 0 [1, 2, 3, 9, 31, 32] [2] 3 [(2, 0)] 1 [1, 2, 3, 9] [0] 1) =
        bif decide (i < 0) then
          chks [decide (k ≤ z.length), decide (k ≤ k), decide ((k + 1) * 1 ≤ 140737488355328), decide (k + 1 < 4611686018427387904), okK .i64 (i + 1)] (.done .normal (stRSmall n (z.take k ++ [[.i 0]]) (k + 1) .junk (vi64 0) (vi64 (i + 1))))
        else .done (.exit 2) (stRSmall n z k .junk .junk .junk) := by intro k i; kernel_rfl
    have hev := hevG (x.length + 1 + j + i) (i : Int)
    cases m with
    | succ m =>
      rw [decide_eq_true (show ((i : Nat) : Int) < 0 by omega), cond_true, chks_true] at hev
      rotate_left 1
      · repeat' (first | exact allT0 | refine allTc ?_ ?_)
        all_goals first | (rw [decide_eq_true_iff]; omega) | exact okI (by omega) (by omega)
      refine RunsL.allB hok rfl hev ⟨m, Nat.lt_succ_self m, i + 1, _, rfl, ?_, by omega⟩
      rw [← hzl, List.take_length, hz, List.append_assoc, ← List.replicate_succ']
    | zero =>
      have hi : i = 0 := hm
      rw [decide_eq_false (show ¬ ((i : Nat) : Int) < 0 by omega), cond_false] at hev
      refine RunsL.allB hok rfl hev ?_
      clear hev hevG hm
      -- the length
      have h3G : ∀ k : Nat, evLS (mkcf true false [] [] []) 100 (((items (bodyOf Try.f94)).drop (5 + 1)).take 1) (stRSmall n z k .junk .junk .junk) (kfg 0 [1, 2, 3, 9, 10] [0] 1) = .done .normal (stRSmall n z k (vi64 7) .junk .junk) := by intro k; kernel_rfl
      refine RunsL.preS hok (k := 1) (h3G _) ?_
      refine RunsL.loop (id := 4) (by kernel_rfl) (fun m s => ∃ (i' : Nat) (u : List (List D)), s = stRSmall n u (x.length + 1 + j + i + i') (vi64 (7 - (i' : Int))) .junk .junk ∧ u = z ++ lensL n i' ∧ i' + m = 8) 8 ⟨0, z, rfl, by simp [lensL], rfl⟩ ?_
      rintro m s ⟨i', u, rfl, hu, hm⟩
      have hul : u.length = x.length + 1 + j + i + i' := by rw [hu, List.length_append, lensL_len, hzl]
      have hevG : ∀ (k : Nat) (i : Int), evLS (mkcf true false [] [] []) 100 (items (loopAt (bodyOf Try.f94) 7)) (stRSmall n u k (vi64 i) .junk .junk) (kfgB 0 [1, 2, 3, 9, 10] [2] 3 [(2, 0)] 1 [1, 2, 3, 9] [0] 1) =
          bif decide (0 ≤ i) then
            chks [okK .i64 (8 * i), decide (0 ≤ 8 * i), decide (k ≤ u.length), decide (k ≤ k), decide ((k + 1) * 1 ≤ 140737488355328), decide (k + 1 < 4611686018427387904), okK .i64 (i - 1)] (.done .normal (stRSmall n (u.take k ++ [[.i (lenI n i)]]) (k + 1) (vi64 (i - 1)) .junk .junk))
          else .done (.exit 4) (stRSmall n u k .junk .junk .junk) := by intro k i; kernel_rfl
      have hev := hevG (x.length + 1 + j + i + i') (7 - (i' : Int))
      cases m with
      | succ m =>
        rw [decide_eq_true (show (0 : Int) ≤ 7 - (i' : Int) by omega), cond_true, chks_true] at hev
        rotate_left 1
        · repeat' (first | exact allT0 | refine allTc ?_ ?_)
          all_goals first | (rw [decide_eq_true_iff]; omega) | exact okI (by omega) (by omega)
        refine RunsL.allB hok rfl hev ⟨m, Nat.lt_succ_self m, i' + 1, u.take (x.length + 1 + j + i + i') ++ [[.i (lenI n (7 - (i' : Int)))]], ?_, ?_, by omega⟩
        · rw [show (7 : Int) - ((i' + 1 : Nat) : Int) = 7 - (i' : Int) - 1 by omega]; rfl
        · rw [← hul, List.take_length, hu, List.append_assoc, ← lensL_succ]
      | zero =>
        have hi' : i' = 8 := hm
        rw [decide_eq_false (show ¬ (0 : Int) ≤ 7 - (i' : Int) by omega), cond_false] at hev
        refine RunsL.allB hok rfl hev ?_
        have hu' : hrestL 64 8 x n = u := by rw [hu, hz, hy, hi', hi, hj]; rfl
        rw [hu', hul]
        generalize x.length + 1 + j + i + i' = K
        exact runsL_evS hok (n := 100) (bs0 := [⟨5, .row [.int .u8] u⟩]) (by kernel_rfl) (VEnt.refl _) ⟨rfl, CEnt.refl _, fun ts h => ⟨ts, h⟩⟩

noncomputable def sHRestF : Nat → List D → Option (List Bool × V × List Blk)
  | base, [.l x, .i n, .i b, .i z] => some ([decide (x.length < 1099511627776), decide ((b = 128 ∧ z = 16) ∨ (b = 64 ∧ z = 8))], .one (.row base 1 0 (hrestL b.toNat z.toNat x n).length (hrestL b.toNat z.toNat x n).length), [⟨5, .row [.int .u8] (hrestL b.toNat z.toNat x n)⟩])
  | _, _ => none
noncomputable def sHRest : FSpec := specB [tby, ti64, ti64, ti64] sHRestF
noncomputable abbrev tabHRest : List (FuncId × FSpec) := []
set_option maxRecDepth 100000 in
theorem tabokHRest : TabOK Try.prog (tabOf tabHRest) := TabOK.nil
noncomputable abbrev ilHRest : List (FuncId × Func) := []
set_option maxRecDepth 100000 in
theorem ilokHRest : IlOK Try.prog (ilTab ilHRest) := IlOK.nil
set_option maxRecDepth 100000 in
theorem ok_HRest : FnOK Try.prog 94 sHRest := by
  refine fn_blk (cx := mkcf true false tabHRest ilHRest []) (c := bodyOf Try.f94) Try.func94 (by kernel_rfl) (by kernel_rfl) ?_
  intro base ds chk v bs vs hF ht he hr
  unfold sHRestF at hF
  split at hF
  · rename_i x n b z
    cases hF
    have hvs : vs = [vby x, vi64 n, vi64 b, vi64 z] := by simp only [encA, encV, encP, encL, Option.some.injEq] at he; exact he.symm
    subst hvs
    have hx : x.length < 1099511627776 := of_decide_eq_true (ht _ (by simp))
    have hb : (b = 128 ∧ z = 16) ∨ (b = 64 ∧ z = 8) := of_decide_eq_true (ht (decide ((b = 128 ∧ z = 16) ∨ (b = 64 ∧ z = 8))) (by simp))
    rcases hb with ⟨rfl, rfl⟩ | ⟨rfl, rfl⟩
    · exact hrest_runGreat hx base
    · exact hrest_runSmall hx base
  · cases hF
end Go.Proofs.Yteohgdpkdbckoaa
