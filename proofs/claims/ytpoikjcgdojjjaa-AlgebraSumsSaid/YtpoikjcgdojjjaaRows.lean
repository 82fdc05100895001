/-
  No cell of these rows narrows 'for every input' (looked for: loops, veiled, ifaces, maps, wideKeys, modest, calm, conditions, laid).
  DERIVED. THE GIVEN ROWS OF THIS SEAT. 14 by the template 'for every input the law returns true; each argument reads behind the call as it read before'; 0 by the template 'total and deterministic' (their statements: YtpoikjcgdojjjaaTotals.lean).
  GIVEN WITH THE SEED: the statements are not yours to turn. If you find one false, say at which input.
  Laid BY PROGRAM, IN A SANDBOX (cutbox-rows.mjs): the forced cells as the released guide's own fill.sh prints them over the translation 42ff7602cc240738… (all of the seat's roots in one cut). By AI agents, Wed Nov 11 2026. No macro, syntax, notation, axiom, sorry.
-/
import Derived.Test.YtpoikjcgdojjjaaChecked
import GoSem.Claim
import GoSem.ClaimJoined
import GoSem.ClaimMapViews
import Derived.JoinedTies
import Derived.KernelRfl
namespace Go.Proofs.Ytpoikjcgdojjjaa
/- THE CELL 'sum', in the pinned program and in every row, IS THE sha256 OF THE DUMP (.gsa) THAT YtpoikjcgdojjjaaProg.lean LOADS. Nothing in Lean hashes anything: it is a label: what it is worth is what the hold of that sum in a sandbox is worth. -/
noncomputable def Try.pinned : Pinned := { name := "ytpoikjcgdojjjaa", sum := "42ff7602cc2407387aacf1d2da96e1dad42703066b8e877261ef987fe60698a4", checked := Try.checked }
namespace Rows
def none {H : Type} : Left H := { results := [], args := [] }

/-- 'vestrylaw04.RistoDecodes': WHATEVER THE INPUT: true; the input reads as it did. -/
def ristoDecodesSpec : ChangeSpec := { name := "ristoDecodes", fn := fun _ => fun
  | [d] => { results := [.lit (.bool true)], args := [d] }
  | _ => none }
def ristoDecodesRow : OpenClaim := { program := "ytpoikjcgdojjjaa", sum := "42ff7602cc2407387aacf1d2da96e1dad42703066b8e877261ef987fe60698a4", func := "vestry/vestrylaw04.RistoDecodes", spec := "ristoDecodes", inPlace := ["math/bits.Add64", "math/bits.Sub64"], apart := false }
def RistoDecodesSaid : Prop := ristoDecodesRow.holds Try.pinned (OpenSpec.ofChange ristoDecodesSpec)

/-- ITS FALSE NEIGHBOUR: 'it returns false'. Refute it at one input. -/
def ristoDecodesWrong : ChangeSpec := { name := "ristoDecodes", fn := fun _ => fun
  | [d] => { results := [.lit (.bool false)], args := [d] }
  | _ => none }
def RistoDecodesWrongFalsely : Prop := ristoDecodesRow.holds Try.pinned (OpenSpec.ofChange ristoDecodesWrong)

/-- 'vestrylaw04.RistoEquals': WHATEVER THE INPUT: true; the input reads as it did. -/
def ristoEqualsSpec : ChangeSpec := { name := "ristoEquals", fn := fun _ => fun
  | [d1, d2] => { results := [.lit (.bool true)], args := [d1, d2] }
  | _ => none }
def ristoEqualsRow : OpenClaim := { program := "ytpoikjcgdojjjaa", sum := "42ff7602cc2407387aacf1d2da96e1dad42703066b8e877261ef987fe60698a4", func := "vestry/vestrylaw04.RistoEquals", spec := "ristoEquals", inPlace := ["math/bits.Add64", "math/bits.Sub64"], apart := false }
def RistoEqualsSaid : Prop := ristoEqualsRow.holds Try.pinned (OpenSpec.ofChange ristoEqualsSpec)

/-- ITS FALSE NEIGHBOUR: 'it returns false'. Refute it at one input. -/
def ristoEqualsWrong : ChangeSpec := { name := "ristoEquals", fn := fun _ => fun
  | [d1, d2] => { results := [.lit (.bool false)], args := [d1, d2] }
  | _ => none }
def RistoEqualsWrongFalsely : Prop := ristoEqualsRow.holds Try.pinned (OpenSpec.ofChange ristoEqualsWrong)

/-- 'vestrylaw04.RistoEncodes': WHATEVER THE INPUT: true; the input reads as it did. -/
def ristoEncodesSpec : ChangeSpec := { name := "ristoEncodes", fn := fun _ => fun
  | [d] => { results := [.lit (.bool true)], args := [d] }
  | _ => none }
def ristoEncodesRow : OpenClaim := { program := "ytpoikjcgdojjjaa", sum := "42ff7602cc2407387aacf1d2da96e1dad42703066b8e877261ef987fe60698a4", func := "vestry/vestrylaw04.RistoEncodes", spec := "ristoEncodes", inPlace := ["math/bits.Add64", "math/bits.Sub64"], apart := false }
def RistoEncodesSaid : Prop := ristoEncodesRow.holds Try.pinned (OpenSpec.ofChange ristoEncodesSpec)

/-- ITS FALSE NEIGHBOUR: 'it returns false'. Refute it at one input. -/
def ristoEncodesWrong : ChangeSpec := { name := "ristoEncodes", fn := fun _ => fun
  | [d] => { results := [.lit (.bool false)], args := [d] }
  | _ => none }
def RistoEncodesWrongFalsely : Prop := ristoEncodesRow.holds Try.pinned (OpenSpec.ofChange ristoEncodesWrong)

/-- 'vestrylaw04.RistoCosets': WHATEVER THE INPUT: true; the input reads as it did. -/
def ristoCosetsSpec : ChangeSpec := { name := "ristoCosets", fn := fun _ => fun
  | [d1, d2] => { results := [.lit (.bool true)], args := [d1, d2] }
  | _ => none }
def ristoCosetsRow : OpenClaim := { program := "ytpoikjcgdojjjaa", sum := "42ff7602cc2407387aacf1d2da96e1dad42703066b8e877261ef987fe60698a4", func := "vestry/vestrylaw04.RistoCosets", spec := "ristoCosets", inPlace := ["math/bits.Add64", "math/bits.Sub64"], apart := false }
def RistoCosetsSaid : Prop := ristoCosetsRow.holds Try.pinned (OpenSpec.ofChange ristoCosetsSpec)

/-- ITS FALSE NEIGHBOUR: 'it returns false'. Refute it at one input. -/
def ristoCosetsWrong : ChangeSpec := { name := "ristoCosets", fn := fun _ => fun
  | [d1, d2] => { results := [.lit (.bool false)], args := [d1, d2] }
  | _ => none }
def RistoCosetsWrongFalsely : Prop := ristoCosetsRow.holds Try.pinned (OpenSpec.ofChange ristoCosetsWrong)

/-- 'vestrylaw04.RistoStandard': WHATEVER THE INPUT: true; the input reads as it did. -/
def ristoStandardSpec : ChangeSpec := { name := "ristoStandard", fn := fun _ => fun
  | [] => { results := [.lit (.bool true)], args := [] }
  | _ => none }
def ristoStandardRow : OpenClaim := { program := "ytpoikjcgdojjjaa", sum := "42ff7602cc2407387aacf1d2da96e1dad42703066b8e877261ef987fe60698a4", func := "vestry/vestrylaw04.RistoStandard", spec := "ristoStandard", inPlace := ["math/bits.Add64", "math/bits.Sub64"], apart := false }
def RistoStandardSaid : Prop := ristoStandardRow.holds Try.pinned (OpenSpec.ofChange ristoStandardSpec)

/-- ITS FALSE NEIGHBOUR: 'it returns false'. Refute it at one input. -/
def ristoStandardWrong : ChangeSpec := { name := "ristoStandard", fn := fun _ => fun
  | [] => { results := [.lit (.bool false)], args := [] }
  | _ => none }
def RistoStandardWrongFalsely : Prop := ristoStandardRow.holds Try.pinned (OpenSpec.ofChange ristoStandardWrong)

/-- 'vestrylaw04.RistoThere': WHATEVER THE INPUT: true; the input reads as it did. -/
def ristoThereSpec : ChangeSpec := { name := "ristoThere", fn := fun _ => fun
  | [d1, d2] => { results := [.lit (.bool true)], args := [d1, d2] }
  | _ => none }
def ristoThereRow : OpenClaim := { program := "ytpoikjcgdojjjaa", sum := "42ff7602cc2407387aacf1d2da96e1dad42703066b8e877261ef987fe60698a4", func := "vestry/vestrylaw04.RistoThere", spec := "ristoThere", inPlace := ["math/bits.Add64", "math/bits.Sub64"], apart := false }
def RistoThereSaid : Prop := ristoThereRow.holds Try.pinned (OpenSpec.ofChange ristoThereSpec)

/-- ITS FALSE NEIGHBOUR: 'it returns false'. Refute it at one input. -/
def ristoThereWrong : ChangeSpec := { name := "ristoThere", fn := fun _ => fun
  | [d1, d2] => { results := [.lit (.bool false)], args := [d1, d2] }
  | _ => none }
def RistoThereWrongFalsely : Prop := ristoThereRow.holds Try.pinned (OpenSpec.ofChange ristoThereWrong)

/-- 'vestrylaw04.RistoMaps': WHATEVER THE INPUT: true; the input reads as it did. -/
def ristoMapsSpec : ChangeSpec := { name := "ristoMaps", fn := fun _ => fun
  | [d] => { results := [.lit (.bool true)], args := [d] }
  | _ => none }
def ristoMapsRow : OpenClaim := { program := "ytpoikjcgdojjjaa", sum := "42ff7602cc2407387aacf1d2da96e1dad42703066b8e877261ef987fe60698a4", func := "vestry/vestrylaw04.RistoMaps", spec := "ristoMaps", inPlace := ["math/bits.Add64", "math/bits.Sub64"], apart := false }
def RistoMapsSaid : Prop := ristoMapsRow.holds Try.pinned (OpenSpec.ofChange ristoMapsSpec)

/-- ITS FALSE NEIGHBOUR: 'it returns false'. Refute it at one input. -/
def ristoMapsWrong : ChangeSpec := { name := "ristoMaps", fn := fun _ => fun
  | [d] => { results := [.lit (.bool false)], args := [d] }
  | _ => none }
def RistoMapsWrongFalsely : Prop := ristoMapsRow.holds Try.pinned (OpenSpec.ofChange ristoMapsWrong)

/-- 'vestrylaw04.RistoMapped': WHATEVER THE INPUT: true; the input reads as it did. -/
def ristoMappedSpec : ChangeSpec := { name := "ristoMapped", fn := fun _ => fun
  | [d] => { results := [.lit (.bool true)], args := [d] }
  | _ => none }
def ristoMappedRow : OpenClaim := { program := "ytpoikjcgdojjjaa", sum := "42ff7602cc2407387aacf1d2da96e1dad42703066b8e877261ef987fe60698a4", func := "vestry/vestrylaw04.RistoMapped", spec := "ristoMapped", inPlace := ["math/bits.Add64", "math/bits.Sub64"], apart := false }
def RistoMappedSaid : Prop := ristoMappedRow.holds Try.pinned (OpenSpec.ofChange ristoMappedSpec)

/-- ITS FALSE NEIGHBOUR: 'it returns false'. Refute it at one input. -/
def ristoMappedWrong : ChangeSpec := { name := "ristoMapped", fn := fun _ => fun
  | [d] => { results := [.lit (.bool false)], args := [d] }
  | _ => none }
def RistoMappedWrongFalsely : Prop := ristoMappedRow.holds Try.pinned (OpenSpec.ofChange ristoMappedWrong)

/-- 'vestrylaw05.AlgebraSums': WHATEVER THE INPUT: true; the input reads as it did. -/
def algebraSumsSpec : ChangeSpec := { name := "algebraSums", fn := fun _ => fun
  | [d] => { results := [.lit (.bool true)], args := [d] }
  | _ => none }
def algebraSumsRow : OpenClaim := { program := "ytpoikjcgdojjjaa", sum := "42ff7602cc2407387aacf1d2da96e1dad42703066b8e877261ef987fe60698a4", func := "vestry/vestrylaw05.AlgebraSums", spec := "algebraSums", inPlace := ["math/bits.Sub64", "math/bits.Add64"], apart := false }
def AlgebraSumsSaid : Prop := algebraSumsRow.holds Try.pinned (OpenSpec.ofChange algebraSumsSpec)

/-- ITS FALSE NEIGHBOUR: 'it returns false'. Refute it at one input. -/
def algebraSumsWrong : ChangeSpec := { name := "algebraSums", fn := fun _ => fun
  | [d] => { results := [.lit (.bool false)], args := [d] }
  | _ => none }
def AlgebraSumsWrongFalsely : Prop := algebraSumsRow.holds Try.pinned (OpenSpec.ofChange algebraSumsWrong)

/-- 'vestrylaw05.AlgebraMay': WHATEVER THE INPUT: true; the input reads as it did. -/
def algebraMaySpec : ChangeSpec := { name := "algebraMay", fn := fun _ => fun
  | [d1, d2] => { results := [.lit (.bool true)], args := [d1, d2] }
  | _ => none }
def algebraMayRow : OpenClaim := { program := "ytpoikjcgdojjjaa", sum := "42ff7602cc2407387aacf1d2da96e1dad42703066b8e877261ef987fe60698a4", func := "vestry/vestrylaw05.AlgebraMay", spec := "algebraMay", inPlace := ["math/bits.Add64", "math/bits.Sub64"], apart := false }
def AlgebraMaySaid : Prop := algebraMayRow.holds Try.pinned (OpenSpec.ofChange algebraMaySpec)

/-- ITS FALSE NEIGHBOUR: 'it returns false'. Refute it at one input. -/
def algebraMayWrong : ChangeSpec := { name := "algebraMay", fn := fun _ => fun
  | [d1, d2] => { results := [.lit (.bool false)], args := [d1, d2] }
  | _ => none }
def AlgebraMayWrongFalsely : Prop := algebraMayRow.holds Try.pinned (OpenSpec.ofChange algebraMayWrong)

/-- 'vestrylaw05.AlgebraMaps': WHATEVER THE INPUT: true; the input reads as it did. -/
def algebraMapsSpec : ChangeSpec := { name := "algebraMaps", fn := fun _ => fun
  | [d] => { results := [.lit (.bool true)], args := [d] }
  | _ => none }
def algebraMapsRow : OpenClaim := { program := "ytpoikjcgdojjjaa", sum := "42ff7602cc2407387aacf1d2da96e1dad42703066b8e877261ef987fe60698a4", func := "vestry/vestrylaw05.AlgebraMaps", spec := "algebraMaps", inPlace := ["math/bits.Sub64", "math/bits.Add64"], apart := false }
def AlgebraMapsSaid : Prop := algebraMapsRow.holds Try.pinned (OpenSpec.ofChange algebraMapsSpec)

/-- ITS FALSE NEIGHBOUR: 'it returns false'. Refute it at one input. -/
def algebraMapsWrong : ChangeSpec := { name := "algebraMaps", fn := fun _ => fun
  | [d] => { results := [.lit (.bool false)], args := [d] }
  | _ => none }
def AlgebraMapsWrongFalsely : Prop := algebraMapsRow.holds Try.pinned (OpenSpec.ofChange algebraMapsWrong)

/-- 'vestrylaw05.AlgebraScalars': WHATEVER THE INPUT: true; the input reads as it did. -/
def algebraScalarsSpec : ChangeSpec := { name := "algebraScalars", fn := fun _ => fun
  | [d1, d2, d3] => { results := [.lit (.bool true)], args := [d1, d2, d3] }
  | _ => none }
def algebraScalarsRow : OpenClaim := { program := "ytpoikjcgdojjjaa", sum := "42ff7602cc2407387aacf1d2da96e1dad42703066b8e877261ef987fe60698a4", func := "vestry/vestrylaw05.AlgebraScalars", spec := "algebraScalars", inPlace := ["math/bits.Sub64", "math/bits.Add64"], unfollowed := true, recurses := true, apart := false }
def AlgebraScalarsSaid : Prop := algebraScalarsRow.holds Try.pinned (OpenSpec.ofChange algebraScalarsSpec)

/-- ITS FALSE NEIGHBOUR: 'it returns false'. Refute it at one input. -/
def algebraScalarsWrong : ChangeSpec := { name := "algebraScalars", fn := fun _ => fun
  | [d1, d2, d3] => { results := [.lit (.bool false)], args := [d1, d2, d3] }
  | _ => none }
def AlgebraScalarsWrongFalsely : Prop := algebraScalarsRow.holds Try.pinned (OpenSpec.ofChange algebraScalarsWrong)

/-- 'vestrylaw05.AlgebraBack': WHATEVER THE INPUT: true; the input reads as it did. -/
def algebraBackSpec : ChangeSpec := { name := "algebraBack", fn := fun _ => fun
  | [d1, d2] => { results := [.lit (.bool true)], args := [d1, d2] }
  | _ => none }
def algebraBackRow : OpenClaim := { program := "ytpoikjcgdojjjaa", sum := "42ff7602cc2407387aacf1d2da96e1dad42703066b8e877261ef987fe60698a4", func := "vestry/vestrylaw05.AlgebraBack", spec := "algebraBack", inPlace := ["math/bits.Sub64", "math/bits.Add64"], unfollowed := true, recurses := true, apart := false }
def AlgebraBackSaid : Prop := algebraBackRow.holds Try.pinned (OpenSpec.ofChange algebraBackSpec)

/-- ITS FALSE NEIGHBOUR: 'it returns false'. Refute it at one input. -/
def algebraBackWrong : ChangeSpec := { name := "algebraBack", fn := fun _ => fun
  | [d1, d2] => { results := [.lit (.bool false)], args := [d1, d2] }
  | _ => none }
def AlgebraBackWrongFalsely : Prop := algebraBackRow.holds Try.pinned (OpenSpec.ofChange algebraBackWrong)

/-- 'vestrylaw05.AlgebraModule': WHATEVER THE INPUT: true; the input reads as it did. -/
def algebraModuleSpec : ChangeSpec := { name := "algebraModule", fn := fun _ => fun
  | [d1, d2, d3, d4] => { results := [.lit (.bool true)], args := [d1, d2, d3, d4] }
  | _ => none }
def algebraModuleRow : OpenClaim := { program := "ytpoikjcgdojjjaa", sum := "42ff7602cc2407387aacf1d2da96e1dad42703066b8e877261ef987fe60698a4", func := "vestry/vestrylaw05.AlgebraModule", spec := "algebraModule", inPlace := ["math/bits.Sub64", "math/bits.Add64"], unfollowed := true, recurses := true, apart := false }
def AlgebraModuleSaid : Prop := algebraModuleRow.holds Try.pinned (OpenSpec.ofChange algebraModuleSpec)

/-- ITS FALSE NEIGHBOUR: 'it returns false'. Refute it at one input. -/
def algebraModuleWrong : ChangeSpec := { name := "algebraModule", fn := fun _ => fun
  | [d1, d2, d3, d4] => { results := [.lit (.bool false)], args := [d1, d2, d3, d4] }
  | _ => none }
def AlgebraModuleWrongFalsely : Prop := algebraModuleRow.holds Try.pinned (OpenSpec.ofChange algebraModuleWrong)

/- THE SECOND FORM. 'bulk': how many values and letters a reading holds, each counted each time it is reached (what is shared counts as often as it is met; a slice's spare places count too). A statement '..UptoSaid' is the law's where the arguments, and the package variables that the reading takes, are together of bulk at most 1048576: NARROWER than '..Said'. Prove '..Said' where nothing that the law and all that it calls make is longer than what came in: it says more and counts as full. Else prove '..UptoSaid'. A law counts once. -/
mutual
def uptoBulk {H : Type} : DataW H → Nat
  | .lit (.string bytes) => bytes.length + 1
  | .lit _ => 1
  | .nil => 1
  | .ptr d => uptoBulk d + 1
  | .slice elems spare => uptoBulkAll elems + uptoBulkAll spare + 1
  | .agg parts => uptoBulkAll parts + 1
  | .iface _ d => uptoBulk d + 1
  | .map entries => uptoBulkEntries entries + 1
  | .held _ => 1
def uptoBulkAll {H : Type} : List (DataW H) → Nat
  | [] => 0
  | d :: r => uptoBulk d + uptoBulkAll r
def uptoBulkEntries {H : Type} : List (Lit × DataW H) → Nat
  | [] => 0
  | x :: r => uptoBulkEntry x + uptoBulkEntries r
def uptoBulkEntry {H : Type} : Lit × DataW H → Nat
  | (.string bytes, d) => bytes.length + uptoBulk d + 1
  | (_, d) => uptoBulk d + 1
 end
def uptoSmall : (H : Type) → List (DataW H) → Bool := fun _ ds => decide (uptoBulkAll ds ≤ 1048576)
def OpenSpec.upto (s : _root_.Go.ChangeSpec) : _root_.Go.OpenSpec := { _root_.Go.OpenSpec.ofChange s with cond := some uptoSmall }

/-- 'vestrylaw04.RistoDecodes', WHERE WHAT IT READS IS OF BULK AT MOST 1048576: true; the input reads as it did. -/
def ristoDecodesUptoRow : OpenClaim := { program := "ytpoikjcgdojjjaa", sum := "42ff7602cc2407387aacf1d2da96e1dad42703066b8e877261ef987fe60698a4", func := "vestry/vestrylaw04.RistoDecodes", spec := "ristoDecodes", inPlace := ["math/bits.Add64", "math/bits.Sub64"], apart := false, narrowed := true }
def RistoDecodesUptoSaid : Prop := ristoDecodesUptoRow.holds Try.pinned (OpenSpec.upto ristoDecodesSpec)

/-- 'vestrylaw04.RistoEquals', WHERE WHAT IT READS IS OF BULK AT MOST 1048576: true; the input reads as it did. -/
def ristoEqualsUptoRow : OpenClaim := { program := "ytpoikjcgdojjjaa", sum := "42ff7602cc2407387aacf1d2da96e1dad42703066b8e877261ef987fe60698a4", func := "vestry/vestrylaw04.RistoEquals", spec := "ristoEquals", inPlace := ["math/bits.Add64", "math/bits.Sub64"], apart := false, narrowed := true }
def RistoEqualsUptoSaid : Prop := ristoEqualsUptoRow.holds Try.pinned (OpenSpec.upto ristoEqualsSpec)

/-- 'vestrylaw04.RistoEncodes', WHERE WHAT IT READS IS OF BULK AT MOST 1048576: true; the input reads as it did. -/
def ristoEncodesUptoRow : OpenClaim := { program := "ytpoikjcgdojjjaa", sum := "42ff7602cc2407387aacf1d2da96e1dad42703066b8e877261ef987fe60698a4", func := "vestry/vestrylaw04.RistoEncodes", spec := "ristoEncodes", inPlace := ["math/bits.Add64", "math/bits.Sub64"], apart := false, narrowed := true }
def RistoEncodesUptoSaid : Prop := ristoEncodesUptoRow.holds Try.pinned (OpenSpec.upto ristoEncodesSpec)

/-- 'vestrylaw04.RistoCosets', WHERE WHAT IT READS IS OF BULK AT MOST 1048576: true; the input reads as it did. -/
def ristoCosetsUptoRow : OpenClaim := { program := "ytpoikjcgdojjjaa", sum := "42ff7602cc2407387aacf1d2da96e1dad42703066b8e877261ef987fe60698a4", func := "vestry/vestrylaw04.RistoCosets", spec := "ristoCosets", inPlace := ["math/bits.Add64", "math/bits.Sub64"], apart := false, narrowed := true }
def RistoCosetsUptoSaid : Prop := ristoCosetsUptoRow.holds Try.pinned (OpenSpec.upto ristoCosetsSpec)

/-- 'vestrylaw04.RistoStandard', WHERE WHAT IT READS IS OF BULK AT MOST 1048576: true; the input reads as it did. -/
def ristoStandardUptoRow : OpenClaim := { program := "ytpoikjcgdojjjaa", sum := "42ff7602cc2407387aacf1d2da96e1dad42703066b8e877261ef987fe60698a4", func := "vestry/vestrylaw04.RistoStandard", spec := "ristoStandard", inPlace := ["math/bits.Add64", "math/bits.Sub64"], apart := false, narrowed := true }
def RistoStandardUptoSaid : Prop := ristoStandardUptoRow.holds Try.pinned (OpenSpec.upto ristoStandardSpec)

/-- 'vestrylaw04.RistoThere', WHERE WHAT IT READS IS OF BULK AT MOST 1048576: true; the input reads as it did. -/
def ristoThereUptoRow : OpenClaim := { program := "ytpoikjcgdojjjaa", sum := "42ff7602cc2407387aacf1d2da96e1dad42703066b8e877261ef987fe60698a4", func := "vestry/vestrylaw04.RistoThere", spec := "ristoThere", inPlace := ["math/bits.Add64", "math/bits.Sub64"], apart := false, narrowed := true }
def RistoThereUptoSaid : Prop := ristoThereUptoRow.holds Try.pinned (OpenSpec.upto ristoThereSpec)

/-- 'vestrylaw04.RistoMaps', WHERE WHAT IT READS IS OF BULK AT MOST 1048576: true; the input reads as it did. -/
def ristoMapsUptoRow : OpenClaim := { program := "ytpoikjcgdojjjaa", sum := "42ff7602cc2407387aacf1d2da96e1dad42703066b8e877261ef987fe60698a4", func := "vestry/vestrylaw04.RistoMaps", spec := "ristoMaps", inPlace := ["math/bits.Add64", "math/bits.Sub64"], apart := false, narrowed := true }
def RistoMapsUptoSaid : Prop := ristoMapsUptoRow.holds Try.pinned (OpenSpec.upto ristoMapsSpec)

/-- 'vestrylaw04.RistoMapped', WHERE WHAT IT READS IS OF BULK AT MOST 1048576: true; the input reads as it did. -/
def ristoMappedUptoRow : OpenClaim := { program := "ytpoikjcgdojjjaa", sum := "42ff7602cc2407387aacf1d2da96e1dad42703066b8e877261ef987fe60698a4", func := "vestry/vestrylaw04.RistoMapped", spec := "ristoMapped", inPlace := ["math/bits.Add64", "math/bits.Sub64"], apart := false, narrowed := true }
def RistoMappedUptoSaid : Prop := ristoMappedUptoRow.holds Try.pinned (OpenSpec.upto ristoMappedSpec)

/-- 'vestrylaw05.AlgebraSums', WHERE WHAT IT READS IS OF BULK AT MOST 1048576: true; the input reads as it did. -/
def algebraSumsUptoRow : OpenClaim := { program := "ytpoikjcgdojjjaa", sum := "42ff7602cc2407387aacf1d2da96e1dad42703066b8e877261ef987fe60698a4", func := "vestry/vestrylaw05.AlgebraSums", spec := "algebraSums", inPlace := ["math/bits.Sub64", "math/bits.Add64"], apart := false, narrowed := true }
def AlgebraSumsUptoSaid : Prop := algebraSumsUptoRow.holds Try.pinned (OpenSpec.upto algebraSumsSpec)

/-- 'vestrylaw05.AlgebraMay', WHERE WHAT IT READS IS OF BULK AT MOST 1048576: true; the input reads as it did. -/
def algebraMayUptoRow : OpenClaim := { program := "ytpoikjcgdojjjaa", sum := "42ff7602cc2407387aacf1d2da96e1dad42703066b8e877261ef987fe60698a4", func := "vestry/vestrylaw05.AlgebraMay", spec := "algebraMay", inPlace := ["math/bits.Add64", "math/bits.Sub64"], apart := false, narrowed := true }
def AlgebraMayUptoSaid : Prop := algebraMayUptoRow.holds Try.pinned (OpenSpec.upto algebraMaySpec)

/-- 'vestrylaw05.AlgebraMaps', WHERE WHAT IT READS IS OF BULK AT MOST 1048576: true; the input reads as it did. -/
def algebraMapsUptoRow : OpenClaim := { program := "ytpoikjcgdojjjaa", sum := "42ff7602cc2407387aacf1d2da96e1dad42703066b8e877261ef987fe60698a4", func := "vestry/vestrylaw05.AlgebraMaps", spec := "algebraMaps", inPlace := ["math/bits.Sub64", "math/bits.Add64"], apart := false, narrowed := true }
def AlgebraMapsUptoSaid : Prop := algebraMapsUptoRow.holds Try.pinned (OpenSpec.upto algebraMapsSpec)

/-- 'vestrylaw05.AlgebraScalars', WHERE WHAT IT READS IS OF BULK AT MOST 1048576: true; the input reads as it did. -/
def algebraScalarsUptoRow : OpenClaim := { program := "ytpoikjcgdojjjaa", sum := "42ff7602cc2407387aacf1d2da96e1dad42703066b8e877261ef987fe60698a4", func := "vestry/vestrylaw05.AlgebraScalars", spec := "algebraScalars", inPlace := ["math/bits.Sub64", "math/bits.Add64"], unfollowed := true, recurses := true, apart := false, narrowed := true }
def AlgebraScalarsUptoSaid : Prop := algebraScalarsUptoRow.holds Try.pinned (OpenSpec.upto algebraScalarsSpec)

/-- 'vestrylaw05.AlgebraBack', WHERE WHAT IT READS IS OF BULK AT MOST 1048576: true; the input reads as it did. -/
def algebraBackUptoRow : OpenClaim := { program := "ytpoikjcgdojjjaa", sum := "42ff7602cc2407387aacf1d2da96e1dad42703066b8e877261ef987fe60698a4", func := "vestry/vestrylaw05.AlgebraBack", spec := "algebraBack", inPlace := ["math/bits.Sub64", "math/bits.Add64"], unfollowed := true, recurses := true, apart := false, narrowed := true }
def AlgebraBackUptoSaid : Prop := algebraBackUptoRow.holds Try.pinned (OpenSpec.upto algebraBackSpec)

/-- 'vestrylaw05.AlgebraModule', WHERE WHAT IT READS IS OF BULK AT MOST 1048576: true; the input reads as it did. -/
def algebraModuleUptoRow : OpenClaim := { program := "ytpoikjcgdojjjaa", sum := "42ff7602cc2407387aacf1d2da96e1dad42703066b8e877261ef987fe60698a4", func := "vestry/vestrylaw05.AlgebraModule", spec := "algebraModule", inPlace := ["math/bits.Sub64", "math/bits.Add64"], unfollowed := true, recurses := true, apart := false, narrowed := true }
def AlgebraModuleUptoSaid : Prop := algebraModuleUptoRow.holds Try.pinned (OpenSpec.upto algebraModuleSpec)

end Rows
end Go.Proofs.Ytpoikjcgdojjjaa
