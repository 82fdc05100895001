/-
  No cell of these rows narrows 'for every input' (looked for: loops, veiled, ifaces, maps, wideKeys, modest, calm, conditions, laid).
  DERIVED. THE GIVEN ROWS OF THIS SEAT. 6 by the template 'for every input the law returns true; each argument reads behind the call as it read before'; 0 by the template 'total and deterministic' (their statements: YtdkmcpbjicnfmaaGreatTotals.lean).
  GIVEN WITH THE SEED: the statements are not yours to turn. If you find one false, say at which input.
  Laid BY PROGRAM, IN A SANDBOX (cutbox-rows.mjs): the forced cells as the released guide's own fill.sh prints them over the translation c94c13c0b28fa747… (all of the seat's roots in one cut). By AI agents, Wed Nov 11 2026. No macro, syntax, notation, axiom, sorry.
-/
import Derived.Test.YtdkmcpbjicnfmaaGreatChecked
import GoSem.Claim
import GoSem.ClaimJoined
import GoSem.ClaimMapViews
import Derived.JoinedTies
import Derived.KernelRfl
namespace Go.Proofs.YtdkmcpbjicnfmaaGreat
/- THE CELL 'sum', in the pinned program and in every row, IS THE sha256 OF THE DUMP (.gsa) THAT YtdkmcpbjicnfmaaGreatProg.lean LOADS. Nothing in Lean hashes anything: it is a label: what it is worth is what the hold of that sum in a sandbox is worth. -/
noncomputable def Tryz.pinned : Pinned := { name := "ytdkmcpbjicnfmaagreat", sum := "c94c13c0b28fa747ecedcc4d6e886608d8879e43e58ff80b1b9ef79b20b1c720", checked := Tryz.checked }
namespace Rows
def none {H : Type} : Left H := { results := [], args := [] }

/-- 'vestrylaw10.BindPlays': WHATEVER THE INPUT: true; the input reads as it did. -/
def bindPlaysSpec : ChangeSpec := { name := "bindPlays", fn := fun _ => fun
  | [d1, d2] => { results := [.lit (.bool true)], args := [d1, d2] }
  | _ => none }
def bindPlaysRow : OpenClaim := { program := "ytdkmcpbjicnfmaagreat", sum := "c94c13c0b28fa747ecedcc4d6e886608d8879e43e58ff80b1b9ef79b20b1c720", func := "vestry/vestrylaw10.BindPlays", spec := "bindPlays", inPlace := ["math/bits.Sub64", "math/bits.Add64"], apart := false }
def BindPlaysSaid : Prop := bindPlaysRow.holds Tryz.pinned (OpenSpec.ofChange bindPlaysSpec)

/-- ITS FALSE NEIGHBOUR: 'it returns false'. Refute it at one input. -/
def bindPlaysWrong : ChangeSpec := { name := "bindPlays", fn := fun _ => fun
  | [d1, d2] => { results := [.lit (.bool false)], args := [d1, d2] }
  | _ => none }
def BindPlaysWrongFalsely : Prop := bindPlaysRow.holds Tryz.pinned (OpenSpec.ofChange bindPlaysWrong)

/-- 'vestrylaw12.SignSigns': WHATEVER THE INPUT: true; the input reads as it did. -/
def signSignsSpec : ChangeSpec := { name := "signSigns", fn := fun _ => fun
  | [d1, d2] => { results := [.lit (.bool true)], args := [d1, d2] }
  | _ => none }
def signSignsRow : OpenClaim := { program := "ytdkmcpbjicnfmaagreat", sum := "c94c13c0b28fa747ecedcc4d6e886608d8879e43e58ff80b1b9ef79b20b1c720", func := "vestry/vestrylaw12.SignSigns", spec := "signSigns", inPlace := ["math/bits.Sub64", "math/bits.Add64"], unfollowed := true, recurses := true, apart := false }
def SignSignsSaid : Prop := signSignsRow.holds Tryz.pinned (OpenSpec.ofChange signSignsSpec)

/-- ITS FALSE NEIGHBOUR: 'it returns false'. Refute it at one input. -/
def signSignsWrong : ChangeSpec := { name := "signSigns", fn := fun _ => fun
  | [d1, d2] => { results := [.lit (.bool false)], args := [d1, d2] }
  | _ => none }
def SignSignsWrongFalsely : Prop := signSignsRow.holds Tryz.pinned (OpenSpec.ofChange signSignsWrong)

/-- 'vestrylaw12.SignVerifies': WHATEVER THE INPUT: true; the input reads as it did. -/
def signVerifiesSpec : ChangeSpec := { name := "signVerifies", fn := fun _ => fun
  | [d1, d2, d3] => { results := [.lit (.bool true)], args := [d1, d2, d3] }
  | _ => none }
def signVerifiesRow : OpenClaim := { program := "ytdkmcpbjicnfmaagreat", sum := "c94c13c0b28fa747ecedcc4d6e886608d8879e43e58ff80b1b9ef79b20b1c720", func := "vestry/vestrylaw12.SignVerifies", spec := "signVerifies", inPlace := ["math/bits.Sub64", "math/bits.Add64"], unfollowed := true, recurses := true, apart := false }
def SignVerifiesSaid : Prop := signVerifiesRow.holds Tryz.pinned (OpenSpec.ofChange signVerifiesSpec)

/-- ITS FALSE NEIGHBOUR: 'it returns false'. Refute it at one input. -/
def signVerifiesWrong : ChangeSpec := { name := "signVerifies", fn := fun _ => fun
  | [d1, d2, d3] => { results := [.lit (.bool false)], args := [d1, d2, d3] }
  | _ => none }
def SignVerifiesWrongFalsely : Prop := signVerifiesRow.holds Tryz.pinned (OpenSpec.ofChange signVerifiesWrong)

/-- 'vestrylaw11.RelateProves': WHATEVER THE INPUT: true; the input reads as it did. -/
def relateProvesSpec : ChangeSpec := { name := "relateProves", fn := fun _ => fun
  | [d1, d2, d3, d4] => { results := [.lit (.bool true)], args := [d1, d2, d3, d4] }
  | _ => none }
def relateProvesRow : OpenClaim := { program := "ytdkmcpbjicnfmaagreat", sum := "c94c13c0b28fa747ecedcc4d6e886608d8879e43e58ff80b1b9ef79b20b1c720", func := "vestry/vestrylaw11.RelateProves", spec := "relateProves", inPlace := ["math/bits.Sub64", "math/bits.Add64"], unfollowed := true, recurses := true, apart := false }
def RelateProvesSaid : Prop := relateProvesRow.holds Tryz.pinned (OpenSpec.ofChange relateProvesSpec)

/-- ITS FALSE NEIGHBOUR: 'it returns false'. Refute it at one input. -/
def relateProvesWrong : ChangeSpec := { name := "relateProves", fn := fun _ => fun
  | [d1, d2, d3, d4] => { results := [.lit (.bool false)], args := [d1, d2, d3, d4] }
  | _ => none }
def RelateProvesWrongFalsely : Prop := relateProvesRow.holds Tryz.pinned (OpenSpec.ofChange relateProvesWrong)

/-- 'vestrylaw11.RelateVerifies': WHATEVER THE INPUT: true; the input reads as it did. -/
def relateVerifiesSpec : ChangeSpec := { name := "relateVerifies", fn := fun _ => fun
  | [d1, d2, d3, d4] => { results := [.lit (.bool true)], args := [d1, d2, d3, d4] }
  | _ => none }
def relateVerifiesRow : OpenClaim := { program := "ytdkmcpbjicnfmaagreat", sum := "c94c13c0b28fa747ecedcc4d6e886608d8879e43e58ff80b1b9ef79b20b1c720", func := "vestry/vestrylaw11.RelateVerifies", spec := "relateVerifies", inPlace := ["math/bits.Sub64", "math/bits.Add64"], unfollowed := true, recurses := true, apart := false }
def RelateVerifiesSaid : Prop := relateVerifiesRow.holds Tryz.pinned (OpenSpec.ofChange relateVerifiesSpec)

/-- ITS FALSE NEIGHBOUR: 'it returns false'. Refute it at one input. -/
def relateVerifiesWrong : ChangeSpec := { name := "relateVerifies", fn := fun _ => fun
  | [d1, d2, d3, d4] => { results := [.lit (.bool false)], args := [d1, d2, d3, d4] }
  | _ => none }
def RelateVerifiesWrongFalsely : Prop := relateVerifiesRow.holds Tryz.pinned (OpenSpec.ofChange relateVerifiesWrong)

/-- 'vestrylaw11.RelateComplete': WHATEVER THE INPUT: true; the input reads as it did. -/
def relateCompleteSpec : ChangeSpec := { name := "relateComplete", fn := fun _ => fun
  | [d1, d2, d3, d4, d5] => { results := [.lit (.bool true)], args := [d1, d2, d3, d4, d5] }
  | _ => none }
def relateCompleteRow : OpenClaim := { program := "ytdkmcpbjicnfmaagreat", sum := "c94c13c0b28fa747ecedcc4d6e886608d8879e43e58ff80b1b9ef79b20b1c720", func := "vestry/vestrylaw11.RelateComplete", spec := "relateComplete", inPlace := ["math/bits.Sub64", "math/bits.Add64"], unfollowed := true, recurses := true, apart := false }
def RelateCompleteSaid : Prop := relateCompleteRow.holds Tryz.pinned (OpenSpec.ofChange relateCompleteSpec)

/-- ITS FALSE NEIGHBOUR: 'it returns false'. Refute it at one input. -/
def relateCompleteWrong : ChangeSpec := { name := "relateComplete", fn := fun _ => fun
  | [d1, d2, d3, d4, d5] => { results := [.lit (.bool false)], args := [d1, d2, d3, d4, d5] }
  | _ => none }
def RelateCompleteWrongFalsely : Prop := relateCompleteRow.holds Tryz.pinned (OpenSpec.ofChange relateCompleteWrong)

/- THE SECOND FORM. 'bulk': how many values and letters a reading holds, each counted each time it is reached (what is shared counts as often as it is met; a slice's spare places count too). A statement '..UptoSaid' is the law's where the arguments, and the package variables that the reading takes, are together of bulk at most 1048576: NARROWER than '..Said'. Prove '..Said' where nothing that the law and all that it calls make is longer than what came in: it says more and counts as full. Else prove '..UptoSaid'. A law counts once. -/
mutual
def uptoBulk {H : Type} : DataW H → Nat
  | .lit (.string bytes) => bytes.length + 1
  | .lit _ => 1
  | .nil => 1
  | .ptr d => uptoBulk d + 1
  | .slice elems spare => uptoBulkAll elems + uptoBulkAll spare + 1
  | .agg parts => uptoBulkAll parts + 1
  | .iface _ d => uptoBulk d + 1
  | .map entries => uptoBulkEntries entries + 1
  | .held _ => 1
def uptoBulkAll {H : Type} : List (DataW H) → Nat
  | [] => 0
  | d :: r => uptoBulk d + uptoBulkAll r
def uptoBulkEntries {H : Type} : List (Lit × DataW H) → Nat
  | [] => 0
  | x :: r => uptoBulkEntry x + uptoBulkEntries r
def uptoBulkEntry {H : Type} : Lit × DataW H → Nat
  | (.string bytes, d) => bytes.length + uptoBulk d + 1
  | (_, d) => uptoBulk d + 1
 end
def uptoSmall : (H : Type) → List (DataW H) → Bool := fun _ ds => decide (uptoBulkAll ds ≤ 1048576)
def OpenSpec.upto (s : _root_.Go.ChangeSpec) : _root_.Go.OpenSpec := { _root_.Go.OpenSpec.ofChange s with cond := some uptoSmall }

/-- 'vestrylaw10.BindPlays', WHERE WHAT IT READS IS OF BULK AT MOST 1048576: true; the input reads as it did. -/
def bindPlaysUptoRow : OpenClaim := { program := "ytdkmcpbjicnfmaagreat", sum := "c94c13c0b28fa747ecedcc4d6e886608d8879e43e58ff80b1b9ef79b20b1c720", func := "vestry/vestrylaw10.BindPlays", spec := "bindPlays", inPlace := ["math/bits.Sub64", "math/bits.Add64"], apart := false, narrowed := true }
def BindPlaysUptoSaid : Prop := bindPlaysUptoRow.holds Tryz.pinned (OpenSpec.upto bindPlaysSpec)

/-- 'vestrylaw12.SignSigns', WHERE WHAT IT READS IS OF BULK AT MOST 1048576: true; the input reads as it did. -/
def signSignsUptoRow : OpenClaim := { program := "ytdkmcpbjicnfmaagreat", sum := "c94c13c0b28fa747ecedcc4d6e886608d8879e43e58ff80b1b9ef79b20b1c720", func := "vestry/vestrylaw12.SignSigns", spec := "signSigns", inPlace := ["math/bits.Sub64", "math/bits.Add64"], unfollowed := true, recurses := true, apart := false, narrowed := true }
def SignSignsUptoSaid : Prop := signSignsUptoRow.holds Tryz.pinned (OpenSpec.upto signSignsSpec)

/-- 'vestrylaw12.SignVerifies', WHERE WHAT IT READS IS OF BULK AT MOST 1048576: true; the input reads as it did. -/
def signVerifiesUptoRow : OpenClaim := { program := "ytdkmcpbjicnfmaagreat", sum := "c94c13c0b28fa747ecedcc4d6e886608d8879e43e58ff80b1b9ef79b20b1c720", func := "vestry/vestrylaw12.SignVerifies", spec := "signVerifies", inPlace := ["math/bits.Sub64", "math/bits.Add64"], unfollowed := true, recurses := true, apart := false, narrowed := true }
def SignVerifiesUptoSaid : Prop := signVerifiesUptoRow.holds Tryz.pinned (OpenSpec.upto signVerifiesSpec)

/-- 'vestrylaw11.RelateProves', WHERE WHAT IT READS IS OF BULK AT MOST 1048576: true; the input reads as it did. -/
def relateProvesUptoRow : OpenClaim := { program := "ytdkmcpbjicnfmaagreat", sum := "c94c13c0b28fa747ecedcc4d6e886608d8879e43e58ff80b1b9ef79b20b1c720", func := "vestry/vestrylaw11.RelateProves", spec := "relateProves", inPlace := ["math/bits.Sub64", "math/bits.Add64"], unfollowed := true, recurses := true, apart := false, narrowed := true }
def RelateProvesUptoSaid : Prop := relateProvesUptoRow.holds Tryz.pinned (OpenSpec.upto relateProvesSpec)

/-- 'vestrylaw11.RelateVerifies', WHERE WHAT IT READS IS OF BULK AT MOST 1048576: true; the input reads as it did. -/
def relateVerifiesUptoRow : OpenClaim := { program := "ytdkmcpbjicnfmaagreat", sum := "c94c13c0b28fa747ecedcc4d6e886608d8879e43e58ff80b1b9ef79b20b1c720", func := "vestry/vestrylaw11.RelateVerifies", spec := "relateVerifies", inPlace := ["math/bits.Sub64", "math/bits.Add64"], unfollowed := true, recurses := true, apart := false, narrowed := true }
def RelateVerifiesUptoSaid : Prop := relateVerifiesUptoRow.holds Tryz.pinned (OpenSpec.upto relateVerifiesSpec)

/-- 'vestrylaw11.RelateComplete', WHERE WHAT IT READS IS OF BULK AT MOST 1048576: true; the input reads as it did. -/
def relateCompleteUptoRow : OpenClaim := { program := "ytdkmcpbjicnfmaagreat", sum := "c94c13c0b28fa747ecedcc4d6e886608d8879e43e58ff80b1b9ef79b20b1c720", func := "vestry/vestrylaw11.RelateComplete", spec := "relateComplete", inPlace := ["math/bits.Sub64", "math/bits.Add64"], unfollowed := true, recurses := true, apart := false, narrowed := true }
def RelateCompleteUptoSaid : Prop := relateCompleteUptoRow.holds Tryz.pinned (OpenSpec.upto relateCompleteSpec)

end Rows
end Go.Proofs.YtdkmcpbjicnfmaaGreat
