/-
  Contracts of the document's numbers: roots, bytes.
-/
import Derived.Test.YtpoikjcgdojjjaaLb24
import Derived.Test.YtpoikjcgdojjjaaMa10
namespace Go.Proofs.Ytpoikjcgdojjjaa
open Go Vx Go.RowKit

noncomputable def rtX0 (w : Nat) : Nat := bif decide (mulP (powP w e3) (powP w e3) = w) then powP w e3 else mulP (powP w e3) iP
noncomputable def rtX : Nat → Nat := hidden' rtX0
theorem rtX_eq (w : Nat) : rtX w = rtX0 w := by unfold rtX; rw [seal_eq]
noncomputable def rtB : Nat → Bool := hidden' fun w => decide (mulP (rtX w) (rtX w) = w)
theorem rtB_eq (w : Nat) : rtB w = decide (mulP (rtX w) (rtX w) = w) := by unfold rtB; rw [seal_eq]
noncomputable def treeRt (w x : Nat) : Out :=
  bif !allB [decide (mulP x x = w)] then outV (.tup [unm (absN (mulP x iP)), ubool (allB [decide (mulP (mulP x iP) (mulP x iP) = w)])]) else outV (.tup [unm (absN x), ubool (allB [decide (mulP x x = w)])])
theorem treeRt_eq (w : Nat) : treeRt w (powP w e3) = outV (.tup [unm (absN (rtX w)), ubool (rtB w)]) := by
  rw [rtB_eq, rtX_eq]
  unfold rtX0 treeRt
  generalize powP w e3 = x
  simp only [allB]
  cases h : decide (mulP x x = w) with
  | true => simp [h]
  | false => simp

noncomputable def sNRtF : List D → Option (List Bool × V)
  | [.n w] => some ([], .tup [unm (absN (rtX w)), ubool (rtB w)])
  | _ => none
noncomputable def sNRt : FSpec := spec [tnm] sNRtF
noncomputable abbrev tabNRt : List (FuncId × FSpec) := [(129, sNPower), (130, sNOnes), (21, sNMul), (88, sNI), (77, sNAbs)]
set_option maxRecDepth 100000 in
theorem tabokNRt : TabOK Try.prog (tabOf tabNRt) := (.cons ok_NPower (.cons ok_NOnes (.cons ok_NMul (.cons ok_NI (.cons ok_NAbs .nil)))))
set_option maxRecDepth 100000 in
theorem ok_NRt : FnOK Try.prog 127 sNRt := by
  refine fn_flat (cx := mkcs tabNRt) (c := bodyOf Try.f127) Try.func127 (by kernel_rfl) (by kernel_rfl) rfl ?_
  intro ds chk v vs hF ht he hr base
  unfold sNRtF at hF
  split at hF
  · rename_i w
    cases hF
    have hvs : vs = [vnm w] := by simp only [encA, encV, encP, encL, Option.some.injEq] at he; exact he.symm
    subst hvs
    exact runs_evS (mkoks tabokNRt) (n := 200) (bs0 := []) (h := Eq.trans (b := treeRt w (powP w (bitsV ones3))) (by kernel_rfl) (by rw [ones3_eq]; exact treeRt_eq w)) (VEnt.refl _) trivial
  · cases hF

theorem by4 (n i : Nat) : (wrapK .u8 (((digit 32 n (i / 4) : Nat) : Int) / ((2 ^ (8 * (i % 4)) : Nat) : Int) % 256)).toNat = digit 8 n i := by
  simp only [wrapK]
  rw [← Int.natCast_ediv]
  have : ((digit 32 n (i / 4) / 2 ^ (8 * (i % 4)) : Nat) : Int) % 256 % 256 = ((digit 32 n (i / 4) / 2 ^ (8 * (i % 4)) % 256 : Nat) : Int) := by omega
  rw [this, Int.toNat_natCast]
  unfold digit
  have hlt : i % 4 < 4 := Nat.mod_lt _ (by decide)
  have e2 : (2 : Nat) ^ 32 = 2 ^ (8 * (i % 4)) * 2 ^ (32 - 8 * (i % 4)) := by rw [← Nat.pow_add]; congr 1; omega
  rw [e2, Nat.mod_mul_right_div_self, Nat.div_div_eq_div_mul, ← Nat.pow_add]
  have e3 : (2 : Nat) ^ (32 - 8 * (i % 4)) = 256 * 2 ^ (24 - 8 * (i % 4)) := by
    rw [show (256 : Nat) = 2 ^ 8 from rfl, ← Nat.pow_add]; congr 1; omega
  rw [e3, Nat.mod_mul_right_mod]
  congr 3
  omega

noncomputable def sNBytesF : List D → Option (List Bool × V)
  | [.n a] => some ([], vb32 a)
  | _ => none
noncomputable def sNBytes : FSpec := spec [tnm] sNBytesF
noncomputable abbrev tabNBytes : List (FuncId × FSpec) := []
set_option maxRecDepth 100000 in
theorem tabokNBytes : TabOK Try.prog (tabOf tabNBytes) := TabOK.nil
set_option maxRecDepth 100000 in
theorem ok_NBytes : FnOK Try.prog 90 sNBytes := by
  refine fn_flat (cx := mkcx tabNBytes) (c := bodyOf Try.f90) Try.func90 (by kernel_rfl) (by kernel_rfl) rfl ?_
  intro ds chk v vs hF ht he hr base
  unfold sNBytesF at hF
  split at hF
  · rename_i a
    cases hF
    have hvs : vs = [vnm a] := by simp only [encA, encV, encP, encL, Option.some.injEq] at he; exact he.symm
    subst hvs
    obtain ⟨h1, _⟩ := hr
    exact runs_evS (mkok tabokNBytes) (n := 400) (bs0 := []) (v0 := .ag (.ps ((List.range' 0 32).map fun i => .int .u8 (wrapK .u8 (((digit 32 a (i / 4) : Nat) : Int) / ((2 ^ (8 * (i % 4)) : Nat) : Int) % 256))))) (by kernel_rfl) (ent_b32 (f := fun i => wrapK .u8 (((digit 32 a (i / 4) : Nat) : Int) / ((2 ^ (8 * (i % 4)) : Nat) : Int) % 256)) (rng_nm h1) fun i _ => by4 _ i) trivial
  · cases hF

def b8 (n i : Nat) : Int := wrapK .u64 ((digit 8 n i : Nat) : Int)
def rdO (n i : Nat) : Int := wrapK .u64 (wrapK .u64 (256 * wrapK .u64 (wrapK .u64 (256 * wrapK .u64 (wrapK .u64 (256 * wrapK .u64 (0 + b8 n (4 * i + 3))) + b8 n (4 * i + 2))) + b8 n (4 * i + 1))) + b8 n (4 * i))
theorem b8_eq (n i : Nat) : b8 n i = ((digit 8 n i : Nat) : Int) ∧ 0 ≤ b8 n i ∧ b8 n i < 256 := by
  have h : digit 8 n i < 256 := Nat.mod_lt _ (by decide)
  unfold b8
  simp only [wrapK]
  omega
theorem dig4 (n i : Nat) : ((digit 32 n i : Nat) : Int) = 16777216 * (digit 8 n (4 * i + 3) : Nat) + 65536 * (digit 8 n (4 * i + 2) : Nat) + 256 * (digit 8 n (4 * i + 1) : Nat) + (digit 8 n (4 * i) : Nat) := by
  unfold digit
  have e0 : n / 2 ^ (8 * (4 * i)) = n / 2 ^ (32 * i) := by congr 2; omega
  have e1 : n / 2 ^ (8 * (4 * i + 1)) = n / 2 ^ (32 * i) / 256 := by rw [Nat.div_div_eq_div_mul, show (256 : Nat) = 2 ^ 8 from rfl, ← Nat.pow_add]; congr 2; omega
  have e2 : n / 2 ^ (8 * (4 * i + 2)) = n / 2 ^ (32 * i) / 65536 := by rw [Nat.div_div_eq_div_mul, show (65536 : Nat) = 2 ^ 16 from rfl, ← Nat.pow_add]; congr 2; omega
  have e3 : n / 2 ^ (8 * (4 * i + 3)) = n / 2 ^ (32 * i) / 16777216 := by rw [Nat.div_div_eq_div_mul, show (16777216 : Nat) = 2 ^ 24 from rfl, ← Nat.pow_add]; congr 2; omega
  rw [e0, e1, e2, e3]
  generalize n / 2 ^ (32 * i) = m
  rw [show (2 : Nat) ^ 32 = 4294967296 from by decide, show (2 : Nat) ^ 8 = 256 from by decide]
  omega
theorem rdO_eq (n i : Nat) : rdO n i = dg n i := by
  have h0 := b8_eq n (4 * i)
  have h1 := b8_eq n (4 * i + 1)
  have h2 := b8_eq n (4 * i + 2)
  have h3 := b8_eq n (4 * i + 3)
  have h4 := dig4 n i
  unfold rdO dg
  generalize b8 n (4 * i) = x0 at *
  generalize b8 n (4 * i + 1) = x1 at *
  generalize b8 n (4 * i + 2) = x2 at *
  generalize b8 n (4 * i + 3) = x3 at *
  simp only [wrapK]
  omega
theorem rd_end {n : Nat} (h : n < 115792089237316195423570985008687907853269984665640564039457584007913129639936) : psum (rdO n) 8 = (n : Int) := by
  rw [psum_congr 8 (fun i _ => rdO_eq n i)]
  exact dg_sum h
theorem rd_can (n : Nat) : redI (n : Int) = canP n := by
  rw [redI_eq, canP_eq]
  unfold pP
  omega
theorem rd_low (n : Nat) : lowI (n : Int) = lowP n := by
  rw [lowI_eq, lowP_eq]
  refine decide_eq_decide.2 ?_
  unfold pP
  omega

noncomputable def sNReadF : List D → Option (List Bool × V)
  | [.n n] => some ([], .tup [unm (canP n), ubool (lowP n)])
  | _ => none
noncomputable def sNRead : FSpec := spec [tb32] sNReadF
noncomputable abbrev tabNRead : List (FuncId × FSpec) := [(81, sNReduce), (124, sNBelow)]
set_option maxRecDepth 100000 in
theorem tabokNRead : TabOK Try.prog (tabOf tabNRead) := (.cons ok_NReduce (.cons ok_NBelow .nil))
set_option maxRecDepth 100000 in
theorem ok_NRead : FnOK Try.prog 69 sNRead := by
  refine fn_flat (cx := mkcx tabNRead) (c := bodyOf Try.f69) Try.func69 (by kernel_rfl) (by kernel_rfl) rfl ?_
  intro ds chk v vs hF ht he hr base
  unfold sNReadF at hF
  split at hF
  · rename_i n
    cases hF
    have hvs : vs = [vb32 n] := by simp only [encA, encV, encP, encL, Option.some.injEq] at he; exact he.symm
    subst hvs
    obtain ⟨h1, _⟩ := hr
    have hck : allT [lt40 (rdO n 0), lt40 (rdO n 1), lt40 (rdO n 2), lt40 (rdO n 3), lt40 (rdO n 4), lt40 (rdO n 5), lt40 (rdO n 6), lt40 (rdO n 7), lt32 (rdO n 0), lt32 (rdO n 1), lt32 (rdO n 2), lt32 (rdO n 3), lt32 (rdO n 4), lt32 (rdO n 5), lt32 (rdO n 6), lt32 (rdO n 7)] := by
      have q1 : ∀ i, lt40 (rdO n i) = true := fun i => by rw [lt40_eq, decide_eq_true_iff, rdO_eq]; have := dg_rng n i; omega
      have q2 : ∀ i, lt32 (rdO n i) = true := fun i => by rw [lt32_eq, decide_eq_true_iff, rdO_eq]; have := dg_rng n i; omega
      exact (allTc (q1 0) (allTc (q1 1) (allTc (q1 2) (allTc (q1 3) (allTc (q1 4) (allTc (q1 5) (allTc (q1 6) (allTc (q1 7) (allTc (q2 0) (allTc (q2 1) (allTc (q2 2) (allTc (q2 3) (allTc (q2 4) (allTc (q2 5) (allTc (q2 6) (allT1 (q2 7)))))))))))))))))
    rw [← rd_can, ← rd_low, ← rd_end (rng_b32 h1), ← sum8_fn]
    exact runs_evS (mkok tabokNRead) (n := 400) (bs0 := []) (h := Eq.trans (b := chks [lt40 (rdO n 0), lt40 (rdO n 1), lt40 (rdO n 2), lt40 (rdO n 3), lt40 (rdO n 4), lt40 (rdO n 5), lt40 (rdO n 6), lt40 (rdO n 7), lt32 (rdO n 0), lt32 (rdO n 1), lt32 (rdO n 2), lt32 (rdO n 3), lt32 (rdO n 4), lt32 (rdO n 5), lt32 (rdO n 6), lt32 (rdO n 7)] (outV (.tup [unm (redI (sum8 (rdO n 0) (rdO n 1) (rdO n 2) (rdO n 3) (rdO n 4) (rdO n 5) (rdO n 6) (rdO n 7))), ubool (lowI (sum8 (rdO n 0) (rdO n 1) (rdO n 2) (rdO n 3) (rdO n 4) (rdO n 5) (rdO n 6) (rdO n 7)))]))) (by kernel_rfl) (chks_true hck)) (VEnt.refl _) trivial
  · cases hF
end Go.Proofs.Ytpoikjcgdojjjaa
