/-
  Elements of the group, so many times: what the program's and the document's functions answer. No program stands in it.
-/
import Derived.Test.YtpoikjcgdojjjaaU1
namespace Vx

noncomputable def tbl (p : P4) : Nat → P4
  | 0 => idP
  | i + 1 => sumP (tbl p i) p (addP dP dP)
noncomputable def dbl4 (o : P4) : P4 :=
  let tw := addP dP dP
  let a := sumP o o tw
  let b := sumP a a tw
  let c := sumP b b tw
  sumP c c tw
noncomputable def tmR (k : Nat) (p : P4) : Nat → P4
  | 0 => idP
  | m + 1 => sumP (dbl4 (tmR k p m)) (tbl p (k / 2 ^ (4 * (63 - m)) % 16)) (addP dP dP)
noncomputable def tmX : Nat → P4 → Nat := hidden' fun k p => (tmR k p 64).x
noncomputable def tmY : Nat → P4 → Nat := hidden' fun k p => (tmR k p 64).y
noncomputable def tmZ : Nat → P4 → Nat := hidden' fun k p => (tmR k p 64).z
noncomputable def tmT : Nat → P4 → Nat := hidden' fun k p => (tmR k p 64).t
noncomputable def tmP (k : Nat) (p : P4) : P4 := ⟨tmX k p, tmY k p, tmZ k p, tmT k p⟩
theorem tmP_eq (k : Nat) (p : P4) : tmP k p = tmR k p 64 := by
  unfold tmP tmX tmY tmZ tmT
  simp only [seal_eq]
end Vx
