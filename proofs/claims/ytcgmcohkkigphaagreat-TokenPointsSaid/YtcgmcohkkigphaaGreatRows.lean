/-
  No cell of these rows narrows 'for every input' (looked for: loops, veiled, ifaces, maps, wideKeys, modest, calm, conditions, laid).
  DERIVED. THE GIVEN ROWS OF THIS SEAT. 9 by the template 'for every input the law returns true; each argument reads behind the call as it read before'; 0 by the template 'total and deterministic' (their statements: YtcgmcohkkigphaaGreatTotals.lean).
  GIVEN WITH THE SEED: the statements are not yours to turn. If you find one false, say at which input.
  Laid BY PROGRAM, IN A SANDBOX (cutbox-rows.mjs): the forced cells as the released guide's own fill.sh prints them over the translation 10e78cce6166eda2… (all of the seat's roots in one cut). By AI agents, Wed Nov 11 2026. No macro, syntax, notation, axiom, sorry.
-/
import Derived.Test.YtcgmcohkkigphaaGreatChecked
import GoSem.Claim
import GoSem.ClaimJoined
import GoSem.ClaimMapViews
import Derived.JoinedTies
import Derived.KernelRfl
namespace Go.Proofs.YtcgmcohkkigphaaGreat
/- THE CELL 'sum', in the pinned program and in every row, IS THE sha256 OF THE DUMP (.gsa) THAT YtcgmcohkkigphaaGreatProg.lean LOADS. Nothing in Lean hashes anything: it is a label: what it is worth is what the hold of that sum in a sandbox is worth. -/
noncomputable def Tryz.pinned : Pinned := { name := "ytcgmcohkkigphaagreat", sum := "10e78cce6166eda2d559e3350b3d0e0460d460bad618759bfadad3200e71d544", checked := Tryz.checked }
namespace Rows
def none {H : Type} : Left H := { results := [], args := [] }

/-- 'vestrylaw14.TokenNumbers': WHATEVER THE INPUT: true; the input reads as it did. -/
def tokenNumbersSpec : ChangeSpec := { name := "tokenNumbers", fn := fun _ => fun
  | [d1, d2] => { results := [.lit (.bool true)], args := [d1, d2] }
  | _ => none }
def tokenNumbersRow : OpenClaim := { program := "ytcgmcohkkigphaagreat", sum := "10e78cce6166eda2d559e3350b3d0e0460d460bad618759bfadad3200e71d544", func := "vestry/vestrylaw14.TokenNumbers", spec := "tokenNumbers", inPlace := ["math/bits.Sub64", "math/bits.Add64"], unfollowed := true, recurses := true, apart := false }
def TokenNumbersSaid : Prop := tokenNumbersRow.holds Tryz.pinned (OpenSpec.ofChange tokenNumbersSpec)

/-- ITS FALSE NEIGHBOUR: 'it returns false'. Refute it at one input. -/
def tokenNumbersWrong : ChangeSpec := { name := "tokenNumbers", fn := fun _ => fun
  | [d1, d2] => { results := [.lit (.bool false)], args := [d1, d2] }
  | _ => none }
def TokenNumbersWrongFalsely : Prop := tokenNumbersRow.holds Tryz.pinned (OpenSpec.ofChange tokenNumbersWrong)

/-- 'vestrylaw14.TokenIssues': WHATEVER THE INPUT: true; the input reads as it did. -/
def tokenIssuesSpec : ChangeSpec := { name := "tokenIssues", fn := fun _ => fun
  | [d1, d2, d3, d4] => { results := [.lit (.bool true)], args := [d1, d2, d3, d4] }
  | _ => none }
def tokenIssuesRow : OpenClaim := { program := "ytcgmcohkkigphaagreat", sum := "10e78cce6166eda2d559e3350b3d0e0460d460bad618759bfadad3200e71d544", func := "vestry/vestrylaw14.TokenIssues", spec := "tokenIssues", inPlace := ["math/bits.Sub64", "math/bits.Add64"], unfollowed := true, recurses := true, apart := false }
def TokenIssuesSaid : Prop := tokenIssuesRow.holds Tryz.pinned (OpenSpec.ofChange tokenIssuesSpec)

/-- ITS FALSE NEIGHBOUR: 'it returns false'. Refute it at one input. -/
def tokenIssuesWrong : ChangeSpec := { name := "tokenIssues", fn := fun _ => fun
  | [d1, d2, d3, d4] => { results := [.lit (.bool false)], args := [d1, d2, d3, d4] }
  | _ => none }
def TokenIssuesWrongFalsely : Prop := tokenIssuesRow.holds Tryz.pinned (OpenSpec.ofChange tokenIssuesWrong)

/-- 'vestrylaw14.TokenCards': WHATEVER THE INPUT: true; the input reads as it did. -/
def tokenCardsSpec : ChangeSpec := { name := "tokenCards", fn := fun _ => fun
  | [d1, d2, d3, d4] => { results := [.lit (.bool true)], args := [d1, d2, d3, d4] }
  | _ => none }
def tokenCardsRow : OpenClaim := { program := "ytcgmcohkkigphaagreat", sum := "10e78cce6166eda2d559e3350b3d0e0460d460bad618759bfadad3200e71d544", func := "vestry/vestrylaw14.TokenCards", spec := "tokenCards", inPlace := ["math/bits.Sub64", "math/bits.Add64"], unfollowed := true, recurses := true, apart := false }
def TokenCardsSaid : Prop := tokenCardsRow.holds Tryz.pinned (OpenSpec.ofChange tokenCardsSpec)

/-- ITS FALSE NEIGHBOUR: 'it returns false'. Refute it at one input. -/
def tokenCardsWrong : ChangeSpec := { name := "tokenCards", fn := fun _ => fun
  | [d1, d2, d3, d4] => { results := [.lit (.bool false)], args := [d1, d2, d3, d4] }
  | _ => none }
def TokenCardsWrongFalsely : Prop := tokenCardsRow.holds Tryz.pinned (OpenSpec.ofChange tokenCardsWrong)

/-- 'vestrylaw14.TokenChecks': WHATEVER THE INPUT: true; the input reads as it did. -/
def tokenChecksSpec : ChangeSpec := { name := "tokenChecks", fn := fun _ => fun
  | [d1, d2, d3] => { results := [.lit (.bool true)], args := [d1, d2, d3] }
  | _ => none }
def tokenChecksRow : OpenClaim := { program := "ytcgmcohkkigphaagreat", sum := "10e78cce6166eda2d559e3350b3d0e0460d460bad618759bfadad3200e71d544", func := "vestry/vestrylaw14.TokenChecks", spec := "tokenChecks", inPlace := ["math/bits.Sub64", "math/bits.Add64"], unfollowed := true, recurses := true, apart := false }
def TokenChecksSaid : Prop := tokenChecksRow.holds Tryz.pinned (OpenSpec.ofChange tokenChecksSpec)

/-- ITS FALSE NEIGHBOUR: 'it returns false'. Refute it at one input. -/
def tokenChecksWrong : ChangeSpec := { name := "tokenChecks", fn := fun _ => fun
  | [d1, d2, d3] => { results := [.lit (.bool false)], args := [d1, d2, d3] }
  | _ => none }
def TokenChecksWrongFalsely : Prop := tokenChecksRow.holds Tryz.pinned (OpenSpec.ofChange tokenChecksWrong)

/-- 'vestrylaw14.TokenGood': WHATEVER THE INPUT: true; the input reads as it did. -/
def tokenGoodSpec : ChangeSpec := { name := "tokenGood", fn := fun _ => fun
  | [d1, d2, d3] => { results := [.lit (.bool true)], args := [d1, d2, d3] }
  | _ => none }
def tokenGoodRow : OpenClaim := { program := "ytcgmcohkkigphaagreat", sum := "10e78cce6166eda2d559e3350b3d0e0460d460bad618759bfadad3200e71d544", func := "vestry/vestrylaw14.TokenGood", spec := "tokenGood", inPlace := ["math/bits.Sub64", "math/bits.Add64"], unfollowed := true, recurses := true, apart := false }
def TokenGoodSaid : Prop := tokenGoodRow.holds Tryz.pinned (OpenSpec.ofChange tokenGoodSpec)

/-- ITS FALSE NEIGHBOUR: 'it returns false'. Refute it at one input. -/
def tokenGoodWrong : ChangeSpec := { name := "tokenGood", fn := fun _ => fun
  | [d1, d2, d3] => { results := [.lit (.bool false)], args := [d1, d2, d3] }
  | _ => none }
def TokenGoodWrongFalsely : Prop := tokenGoodRow.holds Tryz.pinned (OpenSpec.ofChange tokenGoodWrong)

/-- 'vestrylaw14.TokenWhole': WHATEVER THE INPUT: true; the input reads as it did. -/
def tokenWholeSpec : ChangeSpec := { name := "tokenWhole", fn := fun _ => fun
  | [d1, d2, d3, d4] => { results := [.lit (.bool true)], args := [d1, d2, d3, d4] }
  | _ => none }
def tokenWholeRow : OpenClaim := { program := "ytcgmcohkkigphaagreat", sum := "10e78cce6166eda2d559e3350b3d0e0460d460bad618759bfadad3200e71d544", func := "vestry/vestrylaw14.TokenWhole", spec := "tokenWhole", inPlace := ["math/bits.Sub64", "math/bits.Add64"], unfollowed := true, recurses := true, apart := false }
def TokenWholeSaid : Prop := tokenWholeRow.holds Tryz.pinned (OpenSpec.ofChange tokenWholeSpec)

/-- ITS FALSE NEIGHBOUR: 'it returns false'. Refute it at one input. -/
def tokenWholeWrong : ChangeSpec := { name := "tokenWhole", fn := fun _ => fun
  | [d1, d2, d3, d4] => { results := [.lit (.bool false)], args := [d1, d2, d3, d4] }
  | _ => none }
def TokenWholeWrongFalsely : Prop := tokenWholeRow.holds Tryz.pinned (OpenSpec.ofChange tokenWholeWrong)

/-- 'vestrylaw14.TokenScales': WHATEVER THE INPUT: true; the input reads as it did. -/
def tokenScalesSpec : ChangeSpec := { name := "tokenScales", fn := fun _ => fun
  | [d1, d2, d3, d4, d5] => { results := [.lit (.bool true)], args := [d1, d2, d3, d4, d5] }
  | _ => none }
def tokenScalesRow : OpenClaim := { program := "ytcgmcohkkigphaagreat", sum := "10e78cce6166eda2d559e3350b3d0e0460d460bad618759bfadad3200e71d544", func := "vestry/vestrylaw14.TokenScales", spec := "tokenScales", inPlace := ["math/bits.Sub64", "math/bits.Add64"], unfollowed := true, recurses := true, apart := false }
def TokenScalesSaid : Prop := tokenScalesRow.holds Tryz.pinned (OpenSpec.ofChange tokenScalesSpec)

/-- ITS FALSE NEIGHBOUR: 'it returns false'. Refute it at one input. -/
def tokenScalesWrong : ChangeSpec := { name := "tokenScales", fn := fun _ => fun
  | [d1, d2, d3, d4, d5] => { results := [.lit (.bool false)], args := [d1, d2, d3, d4, d5] }
  | _ => none }
def TokenScalesWrongFalsely : Prop := tokenScalesRow.holds Tryz.pinned (OpenSpec.ofChange tokenScalesWrong)

/-- 'vestrylaw14.TokenOthers': WHATEVER THE INPUT: true; the input reads as it did. -/
def tokenOthersSpec : ChangeSpec := { name := "tokenOthers", fn := fun _ => fun
  | [d1, d2, d3, d4] => { results := [.lit (.bool true)], args := [d1, d2, d3, d4] }
  | _ => none }
def tokenOthersRow : OpenClaim := { program := "ytcgmcohkkigphaagreat", sum := "10e78cce6166eda2d559e3350b3d0e0460d460bad618759bfadad3200e71d544", func := "vestry/vestrylaw14.TokenOthers", spec := "tokenOthers", inPlace := ["math/bits.Sub64", "math/bits.Add64"], unfollowed := true, recurses := true, apart := false }
def TokenOthersSaid : Prop := tokenOthersRow.holds Tryz.pinned (OpenSpec.ofChange tokenOthersSpec)

/-- ITS FALSE NEIGHBOUR: 'it returns false'. Refute it at one input. -/
def tokenOthersWrong : ChangeSpec := { name := "tokenOthers", fn := fun _ => fun
  | [d1, d2, d3, d4] => { results := [.lit (.bool false)], args := [d1, d2, d3, d4] }
  | _ => none }
def TokenOthersWrongFalsely : Prop := tokenOthersRow.holds Tryz.pinned (OpenSpec.ofChange tokenOthersWrong)

/-- 'vestrylaw14.TokenPoints': WHATEVER THE INPUT: true; the input reads as it did. -/
def tokenPointsSpec : ChangeSpec := { name := "tokenPoints", fn := fun _ => fun
  | [d1, d2, d3] => { results := [.lit (.bool true)], args := [d1, d2, d3] }
  | _ => none }
def tokenPointsRow : OpenClaim := { program := "ytcgmcohkkigphaagreat", sum := "10e78cce6166eda2d559e3350b3d0e0460d460bad618759bfadad3200e71d544", func := "vestry/vestrylaw14.TokenPoints", spec := "tokenPoints", inPlace := ["math/bits.Add64", "math/bits.Sub64"], unfollowed := true, recurses := true, apart := false }
def TokenPointsSaid : Prop := tokenPointsRow.holds Tryz.pinned (OpenSpec.ofChange tokenPointsSpec)

/-- ITS FALSE NEIGHBOUR: 'it returns false'. Refute it at one input. -/
def tokenPointsWrong : ChangeSpec := { name := "tokenPoints", fn := fun _ => fun
  | [d1, d2, d3] => { results := [.lit (.bool false)], args := [d1, d2, d3] }
  | _ => none }
def TokenPointsWrongFalsely : Prop := tokenPointsRow.holds Tryz.pinned (OpenSpec.ofChange tokenPointsWrong)

/- THE SECOND FORM. 'bulk': how many values and letters a reading holds, each counted each time it is reached (what is shared counts as often as it is met; a slice's spare places count too). A statement '..UptoSaid' is the law's where the arguments, and the package variables that the reading takes, are together of bulk at most 1048576: NARROWER than '..Said'. Prove '..Said' where nothing that the law and all that it calls make is longer than what came in: it says more and counts as full. Else prove '..UptoSaid'. A law counts once. -/
mutual
def uptoBulk {H : Type} : DataW H → Nat
  | .lit (.string bytes) => bytes.length + 1
  | .lit _ => 1
  | .nil => 1
  | .ptr d => uptoBulk d + 1
  | .slice elems spare => uptoBulkAll elems + uptoBulkAll spare + 1
  | .agg parts => uptoBulkAll parts + 1
  | .iface _ d => uptoBulk d + 1
  | .map entries => uptoBulkEntries entries + 1
  | .held _ => 1
def uptoBulkAll {H : Type} : List (DataW H) → Nat
  | [] => 0
  | d :: r => uptoBulk d + uptoBulkAll r
def uptoBulkEntries {H : Type} : List (Lit × DataW H) → Nat
  | [] => 0
  | x :: r => uptoBulkEntry x + uptoBulkEntries r
def uptoBulkEntry {H : Type} : Lit × DataW H → Nat
  | (.string bytes, d) => bytes.length + uptoBulk d + 1
  | (_, d) => uptoBulk d + 1
 end
def uptoSmall : (H : Type) → List (DataW H) → Bool := fun _ ds => decide (uptoBulkAll ds ≤ 1048576)
def OpenSpec.upto (s : _root_.Go.ChangeSpec) : _root_.Go.OpenSpec := { _root_.Go.OpenSpec.ofChange s with cond := some uptoSmall }

/-- 'vestrylaw14.TokenNumbers', WHERE WHAT IT READS IS OF BULK AT MOST 1048576: true; the input reads as it did. -/
def tokenNumbersUptoRow : OpenClaim := { program := "ytcgmcohkkigphaagreat", sum := "10e78cce6166eda2d559e3350b3d0e0460d460bad618759bfadad3200e71d544", func := "vestry/vestrylaw14.TokenNumbers", spec := "tokenNumbers", inPlace := ["math/bits.Sub64", "math/bits.Add64"], unfollowed := true, recurses := true, apart := false, narrowed := true }
def TokenNumbersUptoSaid : Prop := tokenNumbersUptoRow.holds Tryz.pinned (OpenSpec.upto tokenNumbersSpec)

/-- 'vestrylaw14.TokenIssues', WHERE WHAT IT READS IS OF BULK AT MOST 1048576: true; the input reads as it did. -/
def tokenIssuesUptoRow : OpenClaim := { program := "ytcgmcohkkigphaagreat", sum := "10e78cce6166eda2d559e3350b3d0e0460d460bad618759bfadad3200e71d544", func := "vestry/vestrylaw14.TokenIssues", spec := "tokenIssues", inPlace := ["math/bits.Sub64", "math/bits.Add64"], unfollowed := true, recurses := true, apart := false, narrowed := true }
def TokenIssuesUptoSaid : Prop := tokenIssuesUptoRow.holds Tryz.pinned (OpenSpec.upto tokenIssuesSpec)

/-- 'vestrylaw14.TokenCards', WHERE WHAT IT READS IS OF BULK AT MOST 1048576: true; the input reads as it did. -/
def tokenCardsUptoRow : OpenClaim := { program := "ytcgmcohkkigphaagreat", sum := "10e78cce6166eda2d559e3350b3d0e0460d460bad618759bfadad3200e71d544", func := "vestry/vestrylaw14.TokenCards", spec := "tokenCards", inPlace := ["math/bits.Sub64", "math/bits.Add64"], unfollowed := true, recurses := true, apart := false, narrowed := true }
def TokenCardsUptoSaid : Prop := tokenCardsUptoRow.holds Tryz.pinned (OpenSpec.upto tokenCardsSpec)

/-- 'vestrylaw14.TokenChecks', WHERE WHAT IT READS IS OF BULK AT MOST 1048576: true; the input reads as it did. -/
def tokenChecksUptoRow : OpenClaim := { program := "ytcgmcohkkigphaagreat", sum := "10e78cce6166eda2d559e3350b3d0e0460d460bad618759bfadad3200e71d544", func := "vestry/vestrylaw14.TokenChecks", spec := "tokenChecks", inPlace := ["math/bits.Sub64", "math/bits.Add64"], unfollowed := true, recurses := true, apart := false, narrowed := true }
def TokenChecksUptoSaid : Prop := tokenChecksUptoRow.holds Tryz.pinned (OpenSpec.upto tokenChecksSpec)

/-- 'vestrylaw14.TokenGood', WHERE WHAT IT READS IS OF BULK AT MOST 1048576: true; the input reads as it did. -/
def tokenGoodUptoRow : OpenClaim := { program := "ytcgmcohkkigphaagreat", sum := "10e78cce6166eda2d559e3350b3d0e0460d460bad618759bfadad3200e71d544", func := "vestry/vestrylaw14.TokenGood", spec := "tokenGood", inPlace := ["math/bits.Sub64", "math/bits.Add64"], unfollowed := true, recurses := true, apart := false, narrowed := true }
def TokenGoodUptoSaid : Prop := tokenGoodUptoRow.holds Tryz.pinned (OpenSpec.upto tokenGoodSpec)

/-- 'vestrylaw14.TokenWhole', WHERE WHAT IT READS IS OF BULK AT MOST 1048576: true; the input reads as it did. -/
def tokenWholeUptoRow : OpenClaim := { program := "ytcgmcohkkigphaagreat", sum := "10e78cce6166eda2d559e3350b3d0e0460d460bad618759bfadad3200e71d544", func := "vestry/vestrylaw14.TokenWhole", spec := "tokenWhole", inPlace := ["math/bits.Sub64", "math/bits.Add64"], unfollowed := true, recurses := true, apart := false, narrowed := true }
def TokenWholeUptoSaid : Prop := tokenWholeUptoRow.holds Tryz.pinned (OpenSpec.upto tokenWholeSpec)

/-- 'vestrylaw14.TokenScales', WHERE WHAT IT READS IS OF BULK AT MOST 1048576: true; the input reads as it did. -/
def tokenScalesUptoRow : OpenClaim := { program := "ytcgmcohkkigphaagreat", sum := "10e78cce6166eda2d559e3350b3d0e0460d460bad618759bfadad3200e71d544", func := "vestry/vestrylaw14.TokenScales", spec := "tokenScales", inPlace := ["math/bits.Sub64", "math/bits.Add64"], unfollowed := true, recurses := true, apart := false, narrowed := true }
def TokenScalesUptoSaid : Prop := tokenScalesUptoRow.holds Tryz.pinned (OpenSpec.upto tokenScalesSpec)

/-- 'vestrylaw14.TokenOthers', WHERE WHAT IT READS IS OF BULK AT MOST 1048576: true; the input reads as it did. -/
def tokenOthersUptoRow : OpenClaim := { program := "ytcgmcohkkigphaagreat", sum := "10e78cce6166eda2d559e3350b3d0e0460d460bad618759bfadad3200e71d544", func := "vestry/vestrylaw14.TokenOthers", spec := "tokenOthers", inPlace := ["math/bits.Sub64", "math/bits.Add64"], unfollowed := true, recurses := true, apart := false, narrowed := true }
def TokenOthersUptoSaid : Prop := tokenOthersUptoRow.holds Tryz.pinned (OpenSpec.upto tokenOthersSpec)

/-- 'vestrylaw14.TokenPoints', WHERE WHAT IT READS IS OF BULK AT MOST 1048576: true; the input reads as it did. -/
def tokenPointsUptoRow : OpenClaim := { program := "ytcgmcohkkigphaagreat", sum := "10e78cce6166eda2d559e3350b3d0e0460d460bad618759bfadad3200e71d544", func := "vestry/vestrylaw14.TokenPoints", spec := "tokenPoints", inPlace := ["math/bits.Add64", "math/bits.Sub64"], unfollowed := true, recurses := true, apart := false, narrowed := true }
def TokenPointsUptoSaid : Prop := tokenPointsUptoRow.holds Tryz.pinned (OpenSpec.upto tokenPointsSpec)

end Rows
end Go.Proofs.YtcgmcohkkigphaaGreat
