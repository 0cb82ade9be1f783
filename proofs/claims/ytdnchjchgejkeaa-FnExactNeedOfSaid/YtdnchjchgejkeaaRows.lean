/-
  No cell of these rows narrows 'for every input' (looked for: loops, veiled, ifaces, maps, wideKeys, modest, calm, conditions, laid).
  DERIVED. THE GIVEN ROWS OF THIS SEAT. 13 by the template 'for every input the law returns true; each argument reads behind the call as it read before'; 0 by the template 'total and deterministic' (their statements: YtdnchjchgejkeaaTotals.lean).
  GIVEN WITH THE SEED: the statements are not yours to turn. If you find one false, say at which input.
  Laid BY PROGRAM, IN A SANDBOX (cutbox-rows.mjs): the forced cells as the released guide's own fill.sh prints them over the translation e4ec0dad55e9ee82… (all of the seat's roots in one cut). By AI agents, Wed Nov 11 2026. No macro, syntax, notation, axiom, sorry.
-/
import Derived.Test.YtdnchjchgejkeaaChecked
import GoSem.Claim
import GoSem.ClaimJoined
import GoSem.ClaimMapViews
import Derived.JoinedTies
import Derived.KernelRfl
namespace Go.Proofs.Ytdnchjchgejkeaa
/- THE CELL 'sum', in the pinned program and in every row, IS THE sha256 OF THE DUMP (.gsa) THAT YtdnchjchgejkeaaProg.lean LOADS. Nothing in Lean hashes anything: it is a label: what it is worth is what the hold of that sum in a sandbox is worth. -/
noncomputable def Try.pinned : Pinned := { name := "ytdnchjchgejkeaa", sum := "e4ec0dad55e9ee827af21f47bcc05e9586a80839cf4acf51d9e4f3330532e38b", checked := Try.checked }
namespace Rows
def none {H : Type} : Left H := { results := [], args := [] }

/-- 'laws.FnExactValidPieces': WHATEVER THE INPUT: true; the input reads as it did. -/
def fnExactValidPiecesSpec : ChangeSpec := { name := "fnExactValidPieces", fn := fun _ => fun
  | [d] => { results := [.lit (.bool true)], args := [d] }
  | _ => none }
def fnExactValidPiecesRow : OpenClaim := { program := "ytdnchjchgejkeaa", sum := "e4ec0dad55e9ee827af21f47bcc05e9586a80839cf4acf51d9e4f3330532e38b", func := "loop.example/g00856/laws.FnExactValidPieces", spec := "fnExactValidPieces", recurses := true, apart := false }
def FnExactValidPiecesSaid : Prop := fnExactValidPiecesRow.holds Try.pinned (OpenSpec.ofChange fnExactValidPiecesSpec)

/-- ITS FALSE NEIGHBOUR: 'it returns false'. Refute it at one input. -/
def fnExactValidPiecesWrong : ChangeSpec := { name := "fnExactValidPieces", fn := fun _ => fun
  | [d] => { results := [.lit (.bool false)], args := [d] }
  | _ => none }
def FnExactValidPiecesWrongFalsely : Prop := fnExactValidPiecesRow.holds Try.pinned (OpenSpec.ofChange fnExactValidPiecesWrong)

/-- 'laws.FnExactPackLetters': WHATEVER THE INPUT: true; the input reads as it did. -/
def fnExactPackLettersSpec : ChangeSpec := { name := "fnExactPackLetters", fn := fun _ => fun
  | [d] => { results := [.lit (.bool true)], args := [d] }
  | _ => none }
def fnExactPackLettersRow : OpenClaim := { program := "ytdnchjchgejkeaa", sum := "e4ec0dad55e9ee827af21f47bcc05e9586a80839cf4acf51d9e4f3330532e38b", func := "loop.example/g00856/laws.FnExactPackLetters", spec := "fnExactPackLetters", unfollowed := true, recurses := true, apart := false }
def FnExactPackLettersSaid : Prop := fnExactPackLettersRow.holds Try.pinned (OpenSpec.ofChange fnExactPackLettersSpec)

/-- ITS FALSE NEIGHBOUR: 'it returns false'. Refute it at one input. -/
def fnExactPackLettersWrong : ChangeSpec := { name := "fnExactPackLetters", fn := fun _ => fun
  | [d] => { results := [.lit (.bool false)], args := [d] }
  | _ => none }
def FnExactPackLettersWrongFalsely : Prop := fnExactPackLettersRow.holds Try.pinned (OpenSpec.ofChange fnExactPackLettersWrong)

/-- 'laws.FnExactRowOfLetters': WHATEVER THE INPUT: true; the input reads as it did. -/
def fnExactRowOfLettersSpec : ChangeSpec := { name := "fnExactRowOfLetters", fn := fun _ => fun
  | [d1, d2, d3, d4] => { results := [.lit (.bool true)], args := [d1, d2, d3, d4] }
  | _ => none }
def fnExactRowOfLettersRow : OpenClaim := { program := "ytdnchjchgejkeaa", sum := "e4ec0dad55e9ee827af21f47bcc05e9586a80839cf4acf51d9e4f3330532e38b", func := "loop.example/g00856/laws.FnExactRowOfLetters", spec := "fnExactRowOfLetters", unfollowed := true, recurses := true, apart := false }
def FnExactRowOfLettersSaid : Prop := fnExactRowOfLettersRow.holds Try.pinned (OpenSpec.ofChange fnExactRowOfLettersSpec)

/-- ITS FALSE NEIGHBOUR: 'it returns false'. Refute it at one input. -/
def fnExactRowOfLettersWrong : ChangeSpec := { name := "fnExactRowOfLetters", fn := fun _ => fun
  | [d1, d2, d3, d4] => { results := [.lit (.bool false)], args := [d1, d2, d3, d4] }
  | _ => none }
def FnExactRowOfLettersWrongFalsely : Prop := fnExactRowOfLettersRow.holds Try.pinned (OpenSpec.ofChange fnExactRowOfLettersWrong)

/-- 'laws.FnExactNeedOf': WHATEVER THE INPUT: true; the input reads as it did. -/
def fnExactNeedOfSpec : ChangeSpec := { name := "fnExactNeedOf", fn := fun _ => fun
  | [d] => { results := [.lit (.bool true)], args := [d] }
  | _ => none }
def fnExactNeedOfRow : OpenClaim := { program := "ytdnchjchgejkeaa", sum := "e4ec0dad55e9ee827af21f47bcc05e9586a80839cf4acf51d9e4f3330532e38b", func := "loop.example/g00856/laws.FnExactNeedOf", spec := "fnExactNeedOf", unfollowed := true, recurses := true, apart := false }
def FnExactNeedOfSaid : Prop := fnExactNeedOfRow.holds Try.pinned (OpenSpec.ofChange fnExactNeedOfSpec)

/-- ITS FALSE NEIGHBOUR: 'it returns false'. Refute it at one input. -/
def fnExactNeedOfWrong : ChangeSpec := { name := "fnExactNeedOf", fn := fun _ => fun
  | [d] => { results := [.lit (.bool false)], args := [d] }
  | _ => none }
def FnExactNeedOfWrongFalsely : Prop := fnExactNeedOfRow.holds Try.pinned (OpenSpec.ofChange fnExactNeedOfWrong)

/-- 'laws.FnExactLongestFloat': WHATEVER THE INPUT: true; the input reads as it did. -/
def fnExactLongestFloatSpec : ChangeSpec := { name := "fnExactLongestFloat", fn := fun _ => fun
  | [d] => { results := [.lit (.bool true)], args := [d] }
  | _ => none }
def fnExactLongestFloatRow : OpenClaim := { program := "ytdnchjchgejkeaa", sum := "e4ec0dad55e9ee827af21f47bcc05e9586a80839cf4acf51d9e4f3330532e38b", func := "loop.example/g00856/laws.FnExactLongestFloat", spec := "fnExactLongestFloat", unfollowed := true, recurses := true, apart := false }
def FnExactLongestFloatSaid : Prop := fnExactLongestFloatRow.holds Try.pinned (OpenSpec.ofChange fnExactLongestFloatSpec)

/-- ITS FALSE NEIGHBOUR: 'it returns false'. Refute it at one input. -/
def fnExactLongestFloatWrong : ChangeSpec := { name := "fnExactLongestFloat", fn := fun _ => fun
  | [d] => { results := [.lit (.bool false)], args := [d] }
  | _ => none }
def FnExactLongestFloatWrongFalsely : Prop := fnExactLongestFloatRow.holds Try.pinned (OpenSpec.ofChange fnExactLongestFloatWrong)

/-- 'laws.FnExactReadStitches': WHATEVER THE INPUT: true; the input reads as it did. -/
def fnExactReadStitchesSpec : ChangeSpec := { name := "fnExactReadStitches", fn := fun _ => fun
  | [d] => { results := [.lit (.bool true)], args := [d] }
  | _ => none }
def fnExactReadStitchesRow : OpenClaim := { program := "ytdnchjchgejkeaa", sum := "e4ec0dad55e9ee827af21f47bcc05e9586a80839cf4acf51d9e4f3330532e38b", func := "loop.example/g00856/laws.FnExactReadStitches", spec := "fnExactReadStitches", inPlace := ["internal/bytealg.IndexByteString", "internal/bytealg.IndexString"], unfollowed := true, recurses := true, named := ["internal/bytealg.MaxLen"], apart := false }
def FnExactReadStitchesSaid : Prop := fnExactReadStitchesRow.holds Try.pinned (OpenSpec.ofChange fnExactReadStitchesSpec)

/-- ITS FALSE NEIGHBOUR: 'it returns false'. Refute it at one input. -/
def fnExactReadStitchesWrong : ChangeSpec := { name := "fnExactReadStitches", fn := fun _ => fun
  | [d] => { results := [.lit (.bool false)], args := [d] }
  | _ => none }
def FnExactReadStitchesWrongFalsely : Prop := fnExactReadStitchesRow.holds Try.pinned (OpenSpec.ofChange fnExactReadStitchesWrong)

/-- 'laws.FnExactMirrorColours': WHATEVER THE INPUT: true; the input reads as it did. -/
def fnExactMirrorColoursSpec : ChangeSpec := { name := "fnExactMirrorColours", fn := fun _ => fun
  | [d] => { results := [.lit (.bool true)], args := [d] }
  | _ => none }
def fnExactMirrorColoursRow : OpenClaim := { program := "ytdnchjchgejkeaa", sum := "e4ec0dad55e9ee827af21f47bcc05e9586a80839cf4acf51d9e4f3330532e38b", func := "loop.example/g00856/laws.FnExactMirrorColours", spec := "fnExactMirrorColours", unfollowed := true, recurses := true, apart := false }
def FnExactMirrorColoursSaid : Prop := fnExactMirrorColoursRow.holds Try.pinned (OpenSpec.ofChange fnExactMirrorColoursSpec)

/-- ITS FALSE NEIGHBOUR: 'it returns false'. Refute it at one input. -/
def fnExactMirrorColoursWrong : ChangeSpec := { name := "fnExactMirrorColours", fn := fun _ => fun
  | [d] => { results := [.lit (.bool false)], args := [d] }
  | _ => none }
def FnExactMirrorColoursWrongFalsely : Prop := fnExactMirrorColoursRow.holds Try.pinned (OpenSpec.ofChange fnExactMirrorColoursWrong)

/-- 'laws.FnExactEventCounts': WHATEVER THE INPUT: true; the input reads as it did. -/
def fnExactEventCountsSpec : ChangeSpec := { name := "fnExactEventCounts", fn := fun _ => fun
  | [d] => { results := [.lit (.bool true)], args := [d] }
  | _ => none }
def fnExactEventCountsRow : OpenClaim := { program := "ytdnchjchgejkeaa", sum := "e4ec0dad55e9ee827af21f47bcc05e9586a80839cf4acf51d9e4f3330532e38b", func := "loop.example/g00856/laws.FnExactEventCounts", spec := "fnExactEventCounts", apart := false }
def FnExactEventCountsSaid : Prop := fnExactEventCountsRow.holds Try.pinned (OpenSpec.ofChange fnExactEventCountsSpec)

/-- ITS FALSE NEIGHBOUR: 'it returns false'. Refute it at one input. -/
def fnExactEventCountsWrong : ChangeSpec := { name := "fnExactEventCounts", fn := fun _ => fun
  | [d] => { results := [.lit (.bool false)], args := [d] }
  | _ => none }
def FnExactEventCountsWrongFalsely : Prop := fnExactEventCountsRow.holds Try.pinned (OpenSpec.ofChange fnExactEventCountsWrong)

/-- 'laws.FnExactStacksAfter': WHATEVER THE INPUT: true; the input reads as it did. -/
def fnExactStacksAfterSpec : ChangeSpec := { name := "fnExactStacksAfter", fn := fun _ => fun
  | [d1, d2] => { results := [.lit (.bool true)], args := [d1, d2] }
  | _ => none }
def fnExactStacksAfterRow : OpenClaim := { program := "ytdnchjchgejkeaa", sum := "e4ec0dad55e9ee827af21f47bcc05e9586a80839cf4acf51d9e4f3330532e38b", func := "loop.example/g00856/laws.FnExactStacksAfter", spec := "fnExactStacksAfter", unfollowed := true, recurses := true, apart := false }
def FnExactStacksAfterSaid : Prop := fnExactStacksAfterRow.holds Try.pinned (OpenSpec.ofChange fnExactStacksAfterSpec)

/-- ITS FALSE NEIGHBOUR: 'it returns false'. Refute it at one input. -/
def fnExactStacksAfterWrong : ChangeSpec := { name := "fnExactStacksAfter", fn := fun _ => fun
  | [d1, d2] => { results := [.lit (.bool false)], args := [d1, d2] }
  | _ => none }
def FnExactStacksAfterWrongFalsely : Prop := fnExactStacksAfterRow.holds Try.pinned (OpenSpec.ofChange fnExactStacksAfterWrong)

/-- 'laws.FnExactRowLetters': WHATEVER THE INPUT: true; the input reads as it did. -/
def fnExactRowLettersSpec : ChangeSpec := { name := "fnExactRowLetters", fn := fun _ => fun
  | [d] => { results := [.lit (.bool true)], args := [d] }
  | _ => none }
def fnExactRowLettersRow : OpenClaim := { program := "ytdnchjchgejkeaa", sum := "e4ec0dad55e9ee827af21f47bcc05e9586a80839cf4acf51d9e4f3330532e38b", func := "loop.example/g00856/laws.FnExactRowLetters", spec := "fnExactRowLetters", unfollowed := true, recurses := true, apart := false }
def FnExactRowLettersSaid : Prop := fnExactRowLettersRow.holds Try.pinned (OpenSpec.ofChange fnExactRowLettersSpec)

/-- ITS FALSE NEIGHBOUR: 'it returns false'. Refute it at one input. -/
def fnExactRowLettersWrong : ChangeSpec := { name := "fnExactRowLetters", fn := fun _ => fun
  | [d] => { results := [.lit (.bool false)], args := [d] }
  | _ => none }
def FnExactRowLettersWrongFalsely : Prop := fnExactRowLettersRow.holds Try.pinned (OpenSpec.ofChange fnExactRowLettersWrong)

/-- 'laws.FnExactFloatsOf': WHATEVER THE INPUT: true; the input reads as it did. -/
def fnExactFloatsOfSpec : ChangeSpec := { name := "fnExactFloatsOf", fn := fun _ => fun
  | [d] => { results := [.lit (.bool true)], args := [d] }
  | _ => none }
def fnExactFloatsOfRow : OpenClaim := { program := "ytdnchjchgejkeaa", sum := "e4ec0dad55e9ee827af21f47bcc05e9586a80839cf4acf51d9e4f3330532e38b", func := "loop.example/g00856/laws.FnExactFloatsOf", spec := "fnExactFloatsOf", unfollowed := true, recurses := true, apart := false }
def FnExactFloatsOfSaid : Prop := fnExactFloatsOfRow.holds Try.pinned (OpenSpec.ofChange fnExactFloatsOfSpec)

/-- ITS FALSE NEIGHBOUR: 'it returns false'. Refute it at one input. -/
def fnExactFloatsOfWrong : ChangeSpec := { name := "fnExactFloatsOf", fn := fun _ => fun
  | [d] => { results := [.lit (.bool false)], args := [d] }
  | _ => none }
def FnExactFloatsOfWrongFalsely : Prop := fnExactFloatsOfRow.holds Try.pinned (OpenSpec.ofChange fnExactFloatsOfWrong)

/-- 'laws.FnExactExpandPieces': WHATEVER THE INPUT: true; the input reads as it did. -/
def fnExactExpandPiecesSpec : ChangeSpec := { name := "fnExactExpandPieces", fn := fun _ => fun
  | [d1, d2] => { results := [.lit (.bool true)], args := [d1, d2] }
  | _ => none }
def fnExactExpandPiecesRow : OpenClaim := { program := "ytdnchjchgejkeaa", sum := "e4ec0dad55e9ee827af21f47bcc05e9586a80839cf4acf51d9e4f3330532e38b", func := "loop.example/g00856/laws.FnExactExpandPieces", spec := "fnExactExpandPieces", unfollowed := true, recurses := true, apart := false }
def FnExactExpandPiecesSaid : Prop := fnExactExpandPiecesRow.holds Try.pinned (OpenSpec.ofChange fnExactExpandPiecesSpec)

/-- ITS FALSE NEIGHBOUR: 'it returns false'. Refute it at one input. -/
def fnExactExpandPiecesWrong : ChangeSpec := { name := "fnExactExpandPieces", fn := fun _ => fun
  | [d1, d2] => { results := [.lit (.bool false)], args := [d1, d2] }
  | _ => none }
def FnExactExpandPiecesWrongFalsely : Prop := fnExactExpandPiecesRow.holds Try.pinned (OpenSpec.ofChange fnExactExpandPiecesWrong)

/-- 'laws.FnExactChartOfBraid': WHATEVER THE INPUT: true; the input reads as it did. -/
def fnExactChartOfBraidSpec : ChangeSpec := { name := "fnExactChartOfBraid", fn := fun _ => fun
  | [d1, d2] => { results := [.lit (.bool true)], args := [d1, d2] }
  | _ => none }
def fnExactChartOfBraidRow : OpenClaim := { program := "ytdnchjchgejkeaa", sum := "e4ec0dad55e9ee827af21f47bcc05e9586a80839cf4acf51d9e4f3330532e38b", func := "loop.example/g00856/laws.FnExactChartOfBraid", spec := "fnExactChartOfBraid", unfollowed := true, recurses := true, apart := false }
def FnExactChartOfBraidSaid : Prop := fnExactChartOfBraidRow.holds Try.pinned (OpenSpec.ofChange fnExactChartOfBraidSpec)

/-- ITS FALSE NEIGHBOUR: 'it returns false'. Refute it at one input. -/
def fnExactChartOfBraidWrong : ChangeSpec := { name := "fnExactChartOfBraid", fn := fun _ => fun
  | [d1, d2] => { results := [.lit (.bool false)], args := [d1, d2] }
  | _ => none }
def FnExactChartOfBraidWrongFalsely : Prop := fnExactChartOfBraidRow.holds Try.pinned (OpenSpec.ofChange fnExactChartOfBraidWrong)

/- THE SECOND FORM. 'bulk': how many values and letters a reading holds, each counted each time it is reached (what is shared counts as often as it is met; a slice's spare places count too). A statement '..UptoSaid' is the law's where the arguments, and the package variables that the reading takes, are together of bulk at most 1048576: NARROWER than '..Said'. Prove '..Said' where nothing that the law and all that it calls make is longer than what came in: it says more and counts as full. Else prove '..UptoSaid'. A law counts once. -/
mutual
def uptoBulk {H : Type} : DataW H → Nat
  | .lit (.string bytes) => bytes.length + 1
  | .lit _ => 1
  | .nil => 1
  | .ptr d => uptoBulk d + 1
  | .slice elems spare => uptoBulkAll elems + uptoBulkAll spare + 1
  | .agg parts => uptoBulkAll parts + 1
  | .iface _ d => uptoBulk d + 1
  | .map entries => uptoBulkEntries entries + 1
  | .held _ => 1
def uptoBulkAll {H : Type} : List (DataW H) → Nat
  | [] => 0
  | d :: r => uptoBulk d + uptoBulkAll r
def uptoBulkEntries {H : Type} : List (Lit × DataW H) → Nat
  | [] => 0
  | x :: r => uptoBulkEntry x + uptoBulkEntries r
def uptoBulkEntry {H : Type} : Lit × DataW H → Nat
  | (.string bytes, d) => bytes.length + uptoBulk d + 1
  | (_, d) => uptoBulk d + 1
 end
def uptoSmall : (H : Type) → List (DataW H) → Bool := fun _ ds => decide (uptoBulkAll ds ≤ 1048576)
def OpenSpec.upto (s : _root_.Go.ChangeSpec) : _root_.Go.OpenSpec := { _root_.Go.OpenSpec.ofChange s with cond := some uptoSmall }

/-- 'laws.FnExactValidPieces', WHERE WHAT IT READS IS OF BULK AT MOST 1048576: true; the input reads as it did. -/
def fnExactValidPiecesUptoRow : OpenClaim := { program := "ytdnchjchgejkeaa", sum := "e4ec0dad55e9ee827af21f47bcc05e9586a80839cf4acf51d9e4f3330532e38b", func := "loop.example/g00856/laws.FnExactValidPieces", spec := "fnExactValidPieces", recurses := true, apart := false, narrowed := true }
def FnExactValidPiecesUptoSaid : Prop := fnExactValidPiecesUptoRow.holds Try.pinned (OpenSpec.upto fnExactValidPiecesSpec)

/-- 'laws.FnExactPackLetters', WHERE WHAT IT READS IS OF BULK AT MOST 1048576: true; the input reads as it did. -/
def fnExactPackLettersUptoRow : OpenClaim := { program := "ytdnchjchgejkeaa", sum := "e4ec0dad55e9ee827af21f47bcc05e9586a80839cf4acf51d9e4f3330532e38b", func := "loop.example/g00856/laws.FnExactPackLetters", spec := "fnExactPackLetters", unfollowed := true, recurses := true, apart := false, narrowed := true }
def FnExactPackLettersUptoSaid : Prop := fnExactPackLettersUptoRow.holds Try.pinned (OpenSpec.upto fnExactPackLettersSpec)

/-- 'laws.FnExactRowOfLetters', WHERE WHAT IT READS IS OF BULK AT MOST 1048576: true; the input reads as it did. -/
def fnExactRowOfLettersUptoRow : OpenClaim := { program := "ytdnchjchgejkeaa", sum := "e4ec0dad55e9ee827af21f47bcc05e9586a80839cf4acf51d9e4f3330532e38b", func := "loop.example/g00856/laws.FnExactRowOfLetters", spec := "fnExactRowOfLetters", unfollowed := true, recurses := true, apart := false, narrowed := true }
def FnExactRowOfLettersUptoSaid : Prop := fnExactRowOfLettersUptoRow.holds Try.pinned (OpenSpec.upto fnExactRowOfLettersSpec)

/-- 'laws.FnExactNeedOf', WHERE WHAT IT READS IS OF BULK AT MOST 1048576: true; the input reads as it did. -/
def fnExactNeedOfUptoRow : OpenClaim := { program := "ytdnchjchgejkeaa", sum := "e4ec0dad55e9ee827af21f47bcc05e9586a80839cf4acf51d9e4f3330532e38b", func := "loop.example/g00856/laws.FnExactNeedOf", spec := "fnExactNeedOf", unfollowed := true, recurses := true, apart := false, narrowed := true }
def FnExactNeedOfUptoSaid : Prop := fnExactNeedOfUptoRow.holds Try.pinned (OpenSpec.upto fnExactNeedOfSpec)

/-- 'laws.FnExactLongestFloat', WHERE WHAT IT READS IS OF BULK AT MOST 1048576: true; the input reads as it did. -/
def fnExactLongestFloatUptoRow : OpenClaim := { program := "ytdnchjchgejkeaa", sum := "e4ec0dad55e9ee827af21f47bcc05e9586a80839cf4acf51d9e4f3330532e38b", func := "loop.example/g00856/laws.FnExactLongestFloat", spec := "fnExactLongestFloat", unfollowed := true, recurses := true, apart := false, narrowed := true }
def FnExactLongestFloatUptoSaid : Prop := fnExactLongestFloatUptoRow.holds Try.pinned (OpenSpec.upto fnExactLongestFloatSpec)

/-- 'laws.FnExactReadStitches', WHERE WHAT IT READS IS OF BULK AT MOST 1048576: true; the input reads as it did. -/
def fnExactReadStitchesUptoRow : OpenClaim := { program := "ytdnchjchgejkeaa", sum := "e4ec0dad55e9ee827af21f47bcc05e9586a80839cf4acf51d9e4f3330532e38b", func := "loop.example/g00856/laws.FnExactReadStitches", spec := "fnExactReadStitches", inPlace := ["internal/bytealg.IndexByteString", "internal/bytealg.IndexString"], unfollowed := true, recurses := true, named := ["internal/bytealg.MaxLen"], apart := false, narrowed := true }
def FnExactReadStitchesUptoSaid : Prop := fnExactReadStitchesUptoRow.holds Try.pinned (OpenSpec.upto fnExactReadStitchesSpec)

/-- 'laws.FnExactMirrorColours', WHERE WHAT IT READS IS OF BULK AT MOST 1048576: true; the input reads as it did. -/
def fnExactMirrorColoursUptoRow : OpenClaim := { program := "ytdnchjchgejkeaa", sum := "e4ec0dad55e9ee827af21f47bcc05e9586a80839cf4acf51d9e4f3330532e38b", func := "loop.example/g00856/laws.FnExactMirrorColours", spec := "fnExactMirrorColours", unfollowed := true, recurses := true, apart := false, narrowed := true }
def FnExactMirrorColoursUptoSaid : Prop := fnExactMirrorColoursUptoRow.holds Try.pinned (OpenSpec.upto fnExactMirrorColoursSpec)

/-- 'laws.FnExactEventCounts', WHERE WHAT IT READS IS OF BULK AT MOST 1048576: true; the input reads as it did. -/
def fnExactEventCountsUptoRow : OpenClaim := { program := "ytdnchjchgejkeaa", sum := "e4ec0dad55e9ee827af21f47bcc05e9586a80839cf4acf51d9e4f3330532e38b", func := "loop.example/g00856/laws.FnExactEventCounts", spec := "fnExactEventCounts", apart := false, narrowed := true }
def FnExactEventCountsUptoSaid : Prop := fnExactEventCountsUptoRow.holds Try.pinned (OpenSpec.upto fnExactEventCountsSpec)

/-- 'laws.FnExactStacksAfter', WHERE WHAT IT READS IS OF BULK AT MOST 1048576: true; the input reads as it did. -/
def fnExactStacksAfterUptoRow : OpenClaim := { program := "ytdnchjchgejkeaa", sum := "e4ec0dad55e9ee827af21f47bcc05e9586a80839cf4acf51d9e4f3330532e38b", func := "loop.example/g00856/laws.FnExactStacksAfter", spec := "fnExactStacksAfter", unfollowed := true, recurses := true, apart := false, narrowed := true }
def FnExactStacksAfterUptoSaid : Prop := fnExactStacksAfterUptoRow.holds Try.pinned (OpenSpec.upto fnExactStacksAfterSpec)

/-- 'laws.FnExactRowLetters', WHERE WHAT IT READS IS OF BULK AT MOST 1048576: true; the input reads as it did. -/
def fnExactRowLettersUptoRow : OpenClaim := { program := "ytdnchjchgejkeaa", sum := "e4ec0dad55e9ee827af21f47bcc05e9586a80839cf4acf51d9e4f3330532e38b", func := "loop.example/g00856/laws.FnExactRowLetters", spec := "fnExactRowLetters", unfollowed := true, recurses := true, apart := false, narrowed := true }
def FnExactRowLettersUptoSaid : Prop := fnExactRowLettersUptoRow.holds Try.pinned (OpenSpec.upto fnExactRowLettersSpec)

/-- 'laws.FnExactFloatsOf', WHERE WHAT IT READS IS OF BULK AT MOST 1048576: true; the input reads as it did. -/
def fnExactFloatsOfUptoRow : OpenClaim := { program := "ytdnchjchgejkeaa", sum := "e4ec0dad55e9ee827af21f47bcc05e9586a80839cf4acf51d9e4f3330532e38b", func := "loop.example/g00856/laws.FnExactFloatsOf", spec := "fnExactFloatsOf", unfollowed := true, recurses := true, apart := false, narrowed := true }
def FnExactFloatsOfUptoSaid : Prop := fnExactFloatsOfUptoRow.holds Try.pinned (OpenSpec.upto fnExactFloatsOfSpec)

/-- 'laws.FnExactExpandPieces', WHERE WHAT IT READS IS OF BULK AT MOST 1048576: true; the input reads as it did. -/
def fnExactExpandPiecesUptoRow : OpenClaim := { program := "ytdnchjchgejkeaa", sum := "e4ec0dad55e9ee827af21f47bcc05e9586a80839cf4acf51d9e4f3330532e38b", func := "loop.example/g00856/laws.FnExactExpandPieces", spec := "fnExactExpandPieces", unfollowed := true, recurses := true, apart := false, narrowed := true }
def FnExactExpandPiecesUptoSaid : Prop := fnExactExpandPiecesUptoRow.holds Try.pinned (OpenSpec.upto fnExactExpandPiecesSpec)

/-- 'laws.FnExactChartOfBraid', WHERE WHAT IT READS IS OF BULK AT MOST 1048576: true; the input reads as it did. -/
def fnExactChartOfBraidUptoRow : OpenClaim := { program := "ytdnchjchgejkeaa", sum := "e4ec0dad55e9ee827af21f47bcc05e9586a80839cf4acf51d9e4f3330532e38b", func := "loop.example/g00856/laws.FnExactChartOfBraid", spec := "fnExactChartOfBraid", unfollowed := true, recurses := true, apart := false, narrowed := true }
def FnExactChartOfBraidUptoSaid : Prop := fnExactChartOfBraidUptoRow.holds Try.pinned (OpenSpec.upto fnExactChartOfBraidSpec)

end Rows
end Go.Proofs.Ytdnchjchgejkeaa
