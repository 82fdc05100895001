/-
  No cell of these rows narrows 'for every input' (looked for: loops, veiled, ifaces, maps, wideKeys, modest, calm, conditions, laid).
  DERIVED. THE GIVEN ROWS OF THIS SEAT. 6 by the template 'for every input the law returns true; each argument reads behind the call as it read before'; 0 by the template 'total and deterministic' (their statements: YtdkmcpbjicnfmaaTotals.lean).
  GIVEN WITH THE SEED: the statements are not yours to turn. If you find one false, say at which input.
  Laid BY PROGRAM, IN A SANDBOX (cutbox-rows.mjs): the forced cells as the released guide's own fill.sh prints them over the translation 35e00ecbdc3e9932… (all of the seat's roots in one cut). By AI agents, Wed Nov 11 2026. No macro, syntax, notation, axiom, sorry.
-/
import Derived.Test.YtdkmcpbjicnfmaaChecked
import GoSem.Claim
import GoSem.ClaimJoined
import GoSem.ClaimMapViews
import Derived.JoinedTies
import Derived.KernelRfl
namespace Go.Proofs.Ytdkmcpbjicnfmaa
/- THE CELL 'sum', in the pinned program and in every row, IS THE sha256 OF THE DUMP (.gsa) THAT YtdkmcpbjicnfmaaProg.lean LOADS. Nothing in Lean hashes anything: it is a label: what it is worth is what the hold of that sum in a sandbox is worth. -/
noncomputable def Try.pinned : Pinned := { name := "ytdkmcpbjicnfmaa", sum := "35e00ecbdc3e9932d75e47edb339de8c2b06de76a9455fe1b8e43246b2d54be0", checked := Try.checked }
namespace Rows
def none {H : Type} : Left H := { results := [], args := [] }

/-- 'vestrylaw10.BindSteady': WHATEVER THE INPUT: true; the input reads as it did. -/
def bindSteadySpec : ChangeSpec := { name := "bindSteady", fn := fun _ => fun
  | [d1, d2, d3] => { results := [.lit (.bool true)], args := [d1, d2, d3] }
  | _ => none }
def bindSteadyRow : OpenClaim := { program := "ytdkmcpbjicnfmaa", sum := "35e00ecbdc3e9932d75e47edb339de8c2b06de76a9455fe1b8e43246b2d54be0", func := "vestry/vestrylaw10.BindSteady", spec := "bindSteady", inPlace := ["math/bits.Sub64", "math/bits.Add64"], apart := false }
def BindSteadySaid : Prop := bindSteadyRow.holds Try.pinned (OpenSpec.ofChange bindSteadySpec)

/-- ITS FALSE NEIGHBOUR: 'it returns false'. Refute it at one input. -/
def bindSteadyWrong : ChangeSpec := { name := "bindSteady", fn := fun _ => fun
  | [d1, d2, d3] => { results := [.lit (.bool false)], args := [d1, d2, d3] }
  | _ => none }
def BindSteadyWrongFalsely : Prop := bindSteadyRow.holds Try.pinned (OpenSpec.ofChange bindSteadyWrong)

/-- 'vestrylaw10.BindNone': WHATEVER THE INPUT: true; the input reads as it did. -/
def bindNoneSpec : ChangeSpec := { name := "bindNone", fn := fun _ => fun
  | [d1, d2, d3] => { results := [.lit (.bool true)], args := [d1, d2, d3] }
  | _ => none }
def bindNoneRow : OpenClaim := { program := "ytdkmcpbjicnfmaa", sum := "35e00ecbdc3e9932d75e47edb339de8c2b06de76a9455fe1b8e43246b2d54be0", func := "vestry/vestrylaw10.BindNone", spec := "bindNone", inPlace := ["math/bits.Sub64", "math/bits.Add64"], apart := false }
def BindNoneSaid : Prop := bindNoneRow.holds Try.pinned (OpenSpec.ofChange bindNoneSpec)

/-- ITS FALSE NEIGHBOUR: 'it returns false'. Refute it at one input. -/
def bindNoneWrong : ChangeSpec := { name := "bindNone", fn := fun _ => fun
  | [d1, d2, d3] => { results := [.lit (.bool false)], args := [d1, d2, d3] }
  | _ => none }
def BindNoneWrongFalsely : Prop := bindNoneRow.holds Try.pinned (OpenSpec.ofChange bindNoneWrong)

/-- 'vestrylaw12.SignTakes': WHATEVER THE INPUT: true; the input reads as it did. -/
def signTakesSpec : ChangeSpec := { name := "signTakes", fn := fun _ => fun
  | [d1, d2, d3] => { results := [.lit (.bool true)], args := [d1, d2, d3] }
  | _ => none }
def signTakesRow : OpenClaim := { program := "ytdkmcpbjicnfmaa", sum := "35e00ecbdc3e9932d75e47edb339de8c2b06de76a9455fe1b8e43246b2d54be0", func := "vestry/vestrylaw12.SignTakes", spec := "signTakes", inPlace := ["math/bits.Sub64", "math/bits.Add64"], unfollowed := true, recurses := true, apart := false }
def SignTakesSaid : Prop := signTakesRow.holds Try.pinned (OpenSpec.ofChange signTakesSpec)

/-- ITS FALSE NEIGHBOUR: 'it returns false'. Refute it at one input. -/
def signTakesWrong : ChangeSpec := { name := "signTakes", fn := fun _ => fun
  | [d1, d2, d3] => { results := [.lit (.bool false)], args := [d1, d2, d3] }
  | _ => none }
def SignTakesWrongFalsely : Prop := signTakesRow.holds Try.pinned (OpenSpec.ofChange signTakesWrong)

/-- 'vestrylaw12.SignAdds': WHATEVER THE INPUT: true; the input reads as it did. -/
def signAddsSpec : ChangeSpec := { name := "signAdds", fn := fun _ => fun
  | [d1, d2] => { results := [.lit (.bool true)], args := [d1, d2] }
  | _ => none }
def signAddsRow : OpenClaim := { program := "ytdkmcpbjicnfmaa", sum := "35e00ecbdc3e9932d75e47edb339de8c2b06de76a9455fe1b8e43246b2d54be0", func := "vestry/vestrylaw12.SignAdds", spec := "signAdds", inPlace := ["math/bits.Sub64", "math/bits.Add64"], unfollowed := true, recurses := true, apart := false }
def SignAddsSaid : Prop := signAddsRow.holds Try.pinned (OpenSpec.ofChange signAddsSpec)

/-- ITS FALSE NEIGHBOUR: 'it returns false'. Refute it at one input. -/
def signAddsWrong : ChangeSpec := { name := "signAdds", fn := fun _ => fun
  | [d1, d2] => { results := [.lit (.bool false)], args := [d1, d2] }
  | _ => none }
def SignAddsWrongFalsely : Prop := signAddsRow.holds Try.pinned (OpenSpec.ofChange signAddsWrong)

/-- 'vestrylaw11.RelateTellsNothing': WHATEVER THE INPUT: true; the input reads as it did. -/
def relateTellsNothingSpec : ChangeSpec := { name := "relateTellsNothing", fn := fun _ => fun
  | [d1, d2, d3, d4, d5, d6] => { results := [.lit (.bool true)], args := [d1, d2, d3, d4, d5, d6] }
  | _ => none }
def relateTellsNothingRow : OpenClaim := { program := "ytdkmcpbjicnfmaa", sum := "35e00ecbdc3e9932d75e47edb339de8c2b06de76a9455fe1b8e43246b2d54be0", func := "vestry/vestrylaw11.RelateTellsNothing", spec := "relateTellsNothing", inPlace := ["math/bits.Sub64", "math/bits.Add64"], unfollowed := true, recurses := true, apart := false }
def RelateTellsNothingSaid : Prop := relateTellsNothingRow.holds Try.pinned (OpenSpec.ofChange relateTellsNothingSpec)

/-- ITS FALSE NEIGHBOUR: 'it returns false'. Refute it at one input. -/
def relateTellsNothingWrong : ChangeSpec := { name := "relateTellsNothing", fn := fun _ => fun
  | [d1, d2, d3, d4, d5, d6] => { results := [.lit (.bool false)], args := [d1, d2, d3, d4, d5, d6] }
  | _ => none }
def RelateTellsNothingWrongFalsely : Prop := relateTellsNothingRow.holds Try.pinned (OpenSpec.ofChange relateTellsNothingWrong)

/-- 'vestrylaw11.RelateExtracts': WHATEVER THE INPUT: true; the input reads as it did. -/
def relateExtractsSpec : ChangeSpec := { name := "relateExtracts", fn := fun _ => fun
  | [d1, d2, d3, d4, d5, d6] => { results := [.lit (.bool true)], args := [d1, d2, d3, d4, d5, d6] }
  | _ => none }
def relateExtractsRow : OpenClaim := { program := "ytdkmcpbjicnfmaa", sum := "35e00ecbdc3e9932d75e47edb339de8c2b06de76a9455fe1b8e43246b2d54be0", func := "vestry/vestrylaw11.RelateExtracts", spec := "relateExtracts", inPlace := ["math/bits.Sub64", "math/bits.Add64"], unfollowed := true, recurses := true, apart := false }
def RelateExtractsSaid : Prop := relateExtractsRow.holds Try.pinned (OpenSpec.ofChange relateExtractsSpec)

/-- ITS FALSE NEIGHBOUR: 'it returns false'. Refute it at one input. -/
def relateExtractsWrong : ChangeSpec := { name := "relateExtracts", fn := fun _ => fun
  | [d1, d2, d3, d4, d5, d6] => { results := [.lit (.bool false)], args := [d1, d2, d3, d4, d5, d6] }
  | _ => none }
def RelateExtractsWrongFalsely : Prop := relateExtractsRow.holds Try.pinned (OpenSpec.ofChange relateExtractsWrong)

/- THE SECOND FORM. 'bulk': how many values and letters a reading holds, each counted each time it is reached (what is shared counts as often as it is met; a slice's spare places count too). A statement '..UptoSaid' is the law's where the arguments, and the package variables that the reading takes, are together of bulk at most 1048576: NARROWER than '..Said'. Prove '..Said' where nothing that the law and all that it calls make is longer than what came in: it says more and counts as full. Else prove '..UptoSaid'. A law counts once. -/
mutual
def uptoBulk {H : Type} : DataW H → Nat
  | .lit (.string bytes) => bytes.length + 1
  | .lit _ => 1
  | .nil => 1
  | .ptr d => uptoBulk d + 1
  | .slice elems spare => uptoBulkAll elems + uptoBulkAll spare + 1
  | .agg parts => uptoBulkAll parts + 1
  | .iface _ d => uptoBulk d + 1
  | .map entries => uptoBulkEntries entries + 1
  | .held _ => 1
def uptoBulkAll {H : Type} : List (DataW H) → Nat
  | [] => 0
  | d :: r => uptoBulk d + uptoBulkAll r
def uptoBulkEntries {H : Type} : List (Lit × DataW H) → Nat
  | [] => 0
  | x :: r => uptoBulkEntry x + uptoBulkEntries r
def uptoBulkEntry {H : Type} : Lit × DataW H → Nat
  | (.string bytes, d) => bytes.length + uptoBulk d + 1
  | (_, d) => uptoBulk d + 1
 end
def uptoSmall : (H : Type) → List (DataW H) → Bool := fun _ ds => decide (uptoBulkAll ds ≤ 1048576)
def OpenSpec.upto (s : _root_.Go.ChangeSpec) : _root_.Go.OpenSpec := { _root_.Go.OpenSpec.ofChange s with cond := some uptoSmall }

/-- 'vestrylaw10.BindSteady', WHERE WHAT IT READS IS OF BULK AT MOST 1048576: true; the input reads as it did. -/
def bindSteadyUptoRow : OpenClaim := { program := "ytdkmcpbjicnfmaa", sum := "35e00ecbdc3e9932d75e47edb339de8c2b06de76a9455fe1b8e43246b2d54be0", func := "vestry/vestrylaw10.BindSteady", spec := "bindSteady", inPlace := ["math/bits.Sub64", "math/bits.Add64"], apart := false, narrowed := true }
def BindSteadyUptoSaid : Prop := bindSteadyUptoRow.holds Try.pinned (OpenSpec.upto bindSteadySpec)

/-- 'vestrylaw10.BindNone', WHERE WHAT IT READS IS OF BULK AT MOST 1048576: true; the input reads as it did. -/
def bindNoneUptoRow : OpenClaim := { program := "ytdkmcpbjicnfmaa", sum := "35e00ecbdc3e9932d75e47edb339de8c2b06de76a9455fe1b8e43246b2d54be0", func := "vestry/vestrylaw10.BindNone", spec := "bindNone", inPlace := ["math/bits.Sub64", "math/bits.Add64"], apart := false, narrowed := true }
def BindNoneUptoSaid : Prop := bindNoneUptoRow.holds Try.pinned (OpenSpec.upto bindNoneSpec)

/-- 'vestrylaw12.SignTakes', WHERE WHAT IT READS IS OF BULK AT MOST 1048576: true; the input reads as it did. -/
def signTakesUptoRow : OpenClaim := { program := "ytdkmcpbjicnfmaa", sum := "35e00ecbdc3e9932d75e47edb339de8c2b06de76a9455fe1b8e43246b2d54be0", func := "vestry/vestrylaw12.SignTakes", spec := "signTakes", inPlace := ["math/bits.Sub64", "math/bits.Add64"], unfollowed := true, recurses := true, apart := false, narrowed := true }
def SignTakesUptoSaid : Prop := signTakesUptoRow.holds Try.pinned (OpenSpec.upto signTakesSpec)

/-- 'vestrylaw12.SignAdds', WHERE WHAT IT READS IS OF BULK AT MOST 1048576: true; the input reads as it did. -/
def signAddsUptoRow : OpenClaim := { program := "ytdkmcpbjicnfmaa", sum := "35e00ecbdc3e9932d75e47edb339de8c2b06de76a9455fe1b8e43246b2d54be0", func := "vestry/vestrylaw12.SignAdds", spec := "signAdds", inPlace := ["math/bits.Sub64", "math/bits.Add64"], unfollowed := true, recurses := true, apart := false, narrowed := true }
def SignAddsUptoSaid : Prop := signAddsUptoRow.holds Try.pinned (OpenSpec.upto signAddsSpec)

/-- 'vestrylaw11.RelateTellsNothing', WHERE WHAT IT READS IS OF BULK AT MOST 1048576: true; the input reads as it did. -/
def relateTellsNothingUptoRow : OpenClaim := { program := "ytdkmcpbjicnfmaa", sum := "35e00ecbdc3e9932d75e47edb339de8c2b06de76a9455fe1b8e43246b2d54be0", func := "vestry/vestrylaw11.RelateTellsNothing", spec := "relateTellsNothing", inPlace := ["math/bits.Sub64", "math/bits.Add64"], unfollowed := true, recurses := true, apart := false, narrowed := true }
def RelateTellsNothingUptoSaid : Prop := relateTellsNothingUptoRow.holds Try.pinned (OpenSpec.upto relateTellsNothingSpec)

/-- 'vestrylaw11.RelateExtracts', WHERE WHAT IT READS IS OF BULK AT MOST 1048576: true; the input reads as it did. -/
def relateExtractsUptoRow : OpenClaim := { program := "ytdkmcpbjicnfmaa", sum := "35e00ecbdc3e9932d75e47edb339de8c2b06de76a9455fe1b8e43246b2d54be0", func := "vestry/vestrylaw11.RelateExtracts", spec := "relateExtracts", inPlace := ["math/bits.Sub64", "math/bits.Add64"], unfollowed := true, recurses := true, apart := false, narrowed := true }
def RelateExtractsUptoSaid : Prop := relateExtractsUptoRow.holds Try.pinned (OpenSpec.upto relateExtractsSpec)

end Rows
end Go.Proofs.Ytdkmcpbjicnfmaa
