/-
  No cell of these rows narrows 'for every input' (looked for: loops, veiled, ifaces, maps, wideKeys, modest, calm, conditions, laid).
  DERIVED. THE GIVEN ROWS OF THIS SEAT. 12 by the template 'for every input the law returns true; each argument reads behind the call as it read before'; 0 by the template 'total and deterministic' (their statements: YtdipejcndpkmfaaTotals.lean).
  GIVEN WITH THE SEED: the statements are not yours to turn. If you find one false, say at which input.
  Laid BY PROGRAM, IN A SANDBOX (cutbox-rows.mjs): the forced cells as the released guide's own fill.sh prints them over the translation b65dfc57d3eaf7b1… (all of the seat's roots in one cut). By AI agents, Wed Nov 11 2026. No macro, syntax, notation, axiom, sorry.
-/
import Derived.Test.YtdipejcndpkmfaaChecked
import GoSem.Claim
import GoSem.ClaimJoined
import GoSem.ClaimMapViews
import Derived.JoinedTies
import Derived.KernelRfl
namespace Go.Proofs.Ytdipejcndpkmfaa
/- THE CELL 'sum', in the pinned program and in every row, IS THE sha256 OF THE DUMP (.gsa) THAT YtdipejcndpkmfaaProg.lean LOADS. Nothing in Lean hashes anything: it is a label: what it is worth is what the hold of that sum in a sandbox is worth. -/
noncomputable def Try.pinned : Pinned := { name := "ytdipejcndpkmfaa", sum := "b65dfc57d3eaf7b13623ba1f8f35fbe87be6af667277454e4714ca5adb32987b", checked := Try.checked }
namespace Rows
def none {H : Type} : Left H := { results := [], args := [] }

/-- 'laws.FnExactValidSizes': WHATEVER THE INPUT: true; the input reads as it did. -/
def fnExactValidSizesSpec : ChangeSpec := { name := "fnExactValidSizes", fn := fun _ => fun
  | [d] => { results := [.lit (.bool true)], args := [d] }
  | _ => none }
def fnExactValidSizesRow : OpenClaim := { program := "ytdipejcndpkmfaa", sum := "b65dfc57d3eaf7b13623ba1f8f35fbe87be6af667277454e4714ca5adb32987b", func := "loop.example/g00856/laws.FnExactValidSizes", spec := "fnExactValidSizes", unfollowed := true, recurses := true, apart := false }
def FnExactValidSizesSaid : Prop := fnExactValidSizesRow.holds Try.pinned (OpenSpec.ofChange fnExactValidSizesSpec)

/-- ITS FALSE NEIGHBOUR: 'it returns false'. Refute it at one input. -/
def fnExactValidSizesWrong : ChangeSpec := { name := "fnExactValidSizes", fn := fun _ => fun
  | [d] => { results := [.lit (.bool false)], args := [d] }
  | _ => none }
def FnExactValidSizesWrongFalsely : Prop := fnExactValidSizesRow.holds Try.pinned (OpenSpec.ofChange fnExactValidSizesWrong)

/-- 'laws.FnExactFirstOf': WHATEVER THE INPUT: true; the input reads as it did. -/
def fnExactFirstOfSpec : ChangeSpec := { name := "fnExactFirstOf", fn := fun _ => fun
  | [d1, d2] => { results := [.lit (.bool true)], args := [d1, d2] }
  | _ => none }
def fnExactFirstOfRow : OpenClaim := { program := "ytdipejcndpkmfaa", sum := "b65dfc57d3eaf7b13623ba1f8f35fbe87be6af667277454e4714ca5adb32987b", func := "loop.example/g00856/laws.FnExactFirstOf", spec := "fnExactFirstOf", unfollowed := true, recurses := true, apart := false }
def FnExactFirstOfSaid : Prop := fnExactFirstOfRow.holds Try.pinned (OpenSpec.ofChange fnExactFirstOfSpec)

/-- ITS FALSE NEIGHBOUR: 'it returns false'. Refute it at one input. -/
def fnExactFirstOfWrong : ChangeSpec := { name := "fnExactFirstOf", fn := fun _ => fun
  | [d1, d2] => { results := [.lit (.bool false)], args := [d1, d2] }
  | _ => none }
def FnExactFirstOfWrongFalsely : Prop := fnExactFirstOfRow.holds Try.pinned (OpenSpec.ofChange fnExactFirstOfWrong)

/-- 'laws.FnExactColumnAt': WHATEVER THE INPUT: true; the input reads as it did. -/
def fnExactColumnAtSpec : ChangeSpec := { name := "fnExactColumnAt", fn := fun _ => fun
  | [d1, d2] => { results := [.lit (.bool true)], args := [d1, d2] }
  | _ => none }
def fnExactColumnAtRow : OpenClaim := { program := "ytdipejcndpkmfaa", sum := "b65dfc57d3eaf7b13623ba1f8f35fbe87be6af667277454e4714ca5adb32987b", func := "loop.example/g00856/laws.FnExactColumnAt", spec := "fnExactColumnAt", unfollowed := true, recurses := true, apart := false }
def FnExactColumnAtSaid : Prop := fnExactColumnAtRow.holds Try.pinned (OpenSpec.ofChange fnExactColumnAtSpec)

/-- ITS FALSE NEIGHBOUR: 'it returns false'. Refute it at one input. -/
def fnExactColumnAtWrong : ChangeSpec := { name := "fnExactColumnAt", fn := fun _ => fun
  | [d1, d2] => { results := [.lit (.bool false)], args := [d1, d2] }
  | _ => none }
def FnExactColumnAtWrongFalsely : Prop := fnExactColumnAtRow.holds Try.pinned (OpenSpec.ofChange fnExactColumnAtWrong)

/-- 'laws.FnExactValidRow': WHATEVER THE INPUT: true; the input reads as it did. -/
def fnExactValidRowSpec : ChangeSpec := { name := "fnExactValidRow", fn := fun _ => fun
  | [d] => { results := [.lit (.bool true)], args := [d] }
  | _ => none }
def fnExactValidRowRow : OpenClaim := { program := "ytdipejcndpkmfaa", sum := "b65dfc57d3eaf7b13623ba1f8f35fbe87be6af667277454e4714ca5adb32987b", func := "loop.example/g00856/laws.FnExactValidRow", spec := "fnExactValidRow", unfollowed := true, recurses := true, apart := false }
def FnExactValidRowSaid : Prop := fnExactValidRowRow.holds Try.pinned (OpenSpec.ofChange fnExactValidRowSpec)

/-- ITS FALSE NEIGHBOUR: 'it returns false'. Refute it at one input. -/
def fnExactValidRowWrong : ChangeSpec := { name := "fnExactValidRow", fn := fun _ => fun
  | [d] => { results := [.lit (.bool false)], args := [d] }
  | _ => none }
def FnExactValidRowWrongFalsely : Prop := fnExactValidRowRow.holds Try.pinned (OpenSpec.ofChange fnExactValidRowWrong)

/-- 'laws.FnExactValidPieces': WHATEVER THE INPUT: true; the input reads as it did. -/
def fnExactValidPiecesSpec : ChangeSpec := { name := "fnExactValidPieces", fn := fun _ => fun
  | [d] => { results := [.lit (.bool true)], args := [d] }
  | _ => none }
def fnExactValidPiecesRow : OpenClaim := { program := "ytdipejcndpkmfaa", sum := "b65dfc57d3eaf7b13623ba1f8f35fbe87be6af667277454e4714ca5adb32987b", func := "loop.example/g00856/laws.FnExactValidPieces", spec := "fnExactValidPieces", recurses := true, apart := false }
def FnExactValidPiecesSaid : Prop := fnExactValidPiecesRow.holds Try.pinned (OpenSpec.ofChange fnExactValidPiecesSpec)

/-- ITS FALSE NEIGHBOUR: 'it returns false'. Refute it at one input. -/
def fnExactValidPiecesWrong : ChangeSpec := { name := "fnExactValidPieces", fn := fun _ => fun
  | [d] => { results := [.lit (.bool false)], args := [d] }
  | _ => none }
def FnExactValidPiecesWrongFalsely : Prop := fnExactValidPiecesRow.holds Try.pinned (OpenSpec.ofChange fnExactValidPiecesWrong)

/-- 'laws.FnExactValidColours': WHATEVER THE INPUT: true; the input reads as it did. -/
def fnExactValidColoursSpec : ChangeSpec := { name := "fnExactValidColours", fn := fun _ => fun
  | [d] => { results := [.lit (.bool true)], args := [d] }
  | _ => none }
def fnExactValidColoursRow : OpenClaim := { program := "ytdipejcndpkmfaa", sum := "b65dfc57d3eaf7b13623ba1f8f35fbe87be6af667277454e4714ca5adb32987b", func := "loop.example/g00856/laws.FnExactValidColours", spec := "fnExactValidColours", unfollowed := true, recurses := true, apart := false }
def FnExactValidColoursSaid : Prop := fnExactValidColoursRow.holds Try.pinned (OpenSpec.ofChange fnExactValidColoursSpec)

/-- ITS FALSE NEIGHBOUR: 'it returns false'. Refute it at one input. -/
def fnExactValidColoursWrong : ChangeSpec := { name := "fnExactValidColours", fn := fun _ => fun
  | [d] => { results := [.lit (.bool false)], args := [d] }
  | _ => none }
def FnExactValidColoursWrongFalsely : Prop := fnExactValidColoursRow.holds Try.pinned (OpenSpec.ofChange fnExactValidColoursWrong)

/-- 'laws.FnExactSameColours': WHATEVER THE INPUT: true; the input reads as it did. -/
def fnExactSameColoursSpec : ChangeSpec := { name := "fnExactSameColours", fn := fun _ => fun
  | [d1, d2] => { results := [.lit (.bool true)], args := [d1, d2] }
  | _ => none }
def fnExactSameColoursRow : OpenClaim := { program := "ytdipejcndpkmfaa", sum := "b65dfc57d3eaf7b13623ba1f8f35fbe87be6af667277454e4714ca5adb32987b", func := "loop.example/g00856/laws.FnExactSameColours", spec := "fnExactSameColours", unfollowed := true, recurses := true, apart := false }
def FnExactSameColoursSaid : Prop := fnExactSameColoursRow.holds Try.pinned (OpenSpec.ofChange fnExactSameColoursSpec)

/-- ITS FALSE NEIGHBOUR: 'it returns false'. Refute it at one input. -/
def fnExactSameColoursWrong : ChangeSpec := { name := "fnExactSameColours", fn := fun _ => fun
  | [d1, d2] => { results := [.lit (.bool false)], args := [d1, d2] }
  | _ => none }
def FnExactSameColoursWrongFalsely : Prop := fnExactSameColoursRow.holds Try.pinned (OpenSpec.ofChange fnExactSameColoursWrong)

/-- 'laws.FnExactCompressRow': WHATEVER THE INPUT: true; the input reads as it did. -/
def fnExactCompressRowSpec : ChangeSpec := { name := "fnExactCompressRow", fn := fun _ => fun
  | [d] => { results := [.lit (.bool true)], args := [d] }
  | _ => none }
def fnExactCompressRowRow : OpenClaim := { program := "ytdipejcndpkmfaa", sum := "b65dfc57d3eaf7b13623ba1f8f35fbe87be6af667277454e4714ca5adb32987b", func := "loop.example/g00856/laws.FnExactCompressRow", spec := "fnExactCompressRow", unfollowed := true, recurses := true, apart := false }
def FnExactCompressRowSaid : Prop := fnExactCompressRowRow.holds Try.pinned (OpenSpec.ofChange fnExactCompressRowSpec)

/-- ITS FALSE NEIGHBOUR: 'it returns false'. Refute it at one input. -/
def fnExactCompressRowWrong : ChangeSpec := { name := "fnExactCompressRow", fn := fun _ => fun
  | [d] => { results := [.lit (.bool false)], args := [d] }
  | _ => none }
def FnExactCompressRowWrongFalsely : Prop := fnExactCompressRowRow.holds Try.pinned (OpenSpec.ofChange fnExactCompressRowWrong)

/-- 'laws.FnExactYarnOrder': WHATEVER THE INPUT: true; the input reads as it did. -/
def fnExactYarnOrderSpec : ChangeSpec := { name := "fnExactYarnOrder", fn := fun _ => fun
  | [d] => { results := [.lit (.bool true)], args := [d] }
  | _ => none }
def fnExactYarnOrderRow : OpenClaim := { program := "ytdipejcndpkmfaa", sum := "b65dfc57d3eaf7b13623ba1f8f35fbe87be6af667277454e4714ca5adb32987b", func := "loop.example/g00856/laws.FnExactYarnOrder", spec := "fnExactYarnOrder", unfollowed := true, recurses := true, apart := false }
def FnExactYarnOrderSaid : Prop := fnExactYarnOrderRow.holds Try.pinned (OpenSpec.ofChange fnExactYarnOrderSpec)

/-- ITS FALSE NEIGHBOUR: 'it returns false'. Refute it at one input. -/
def fnExactYarnOrderWrong : ChangeSpec := { name := "fnExactYarnOrder", fn := fun _ => fun
  | [d] => { results := [.lit (.bool false)], args := [d] }
  | _ => none }
def FnExactYarnOrderWrongFalsely : Prop := fnExactYarnOrderRow.holds Try.pinned (OpenSpec.ofChange fnExactYarnOrderWrong)

/-- 'laws.FnExactSameChart': WHATEVER THE INPUT: true; the input reads as it did. -/
def fnExactSameChartSpec : ChangeSpec := { name := "fnExactSameChart", fn := fun _ => fun
  | [d1, d2] => { results := [.lit (.bool true)], args := [d1, d2] }
  | _ => none }
def fnExactSameChartRow : OpenClaim := { program := "ytdipejcndpkmfaa", sum := "b65dfc57d3eaf7b13623ba1f8f35fbe87be6af667277454e4714ca5adb32987b", func := "loop.example/g00856/laws.FnExactSameChart", spec := "fnExactSameChart", unfollowed := true, recurses := true, apart := false }
def FnExactSameChartSaid : Prop := fnExactSameChartRow.holds Try.pinned (OpenSpec.ofChange fnExactSameChartSpec)

/-- ITS FALSE NEIGHBOUR: 'it returns false'. Refute it at one input. -/
def fnExactSameChartWrong : ChangeSpec := { name := "fnExactSameChart", fn := fun _ => fun
  | [d1, d2] => { results := [.lit (.bool false)], args := [d1, d2] }
  | _ => none }
def FnExactSameChartWrongFalsely : Prop := fnExactSameChartRow.holds Try.pinned (OpenSpec.ofChange fnExactSameChartWrong)

/-- 'laws.FnExactCountColours': WHATEVER THE INPUT: true; the input reads as it did. -/
def fnExactCountColoursSpec : ChangeSpec := { name := "fnExactCountColours", fn := fun _ => fun
  | [d] => { results := [.lit (.bool true)], args := [d] }
  | _ => none }
def fnExactCountColoursRow : OpenClaim := { program := "ytdipejcndpkmfaa", sum := "b65dfc57d3eaf7b13623ba1f8f35fbe87be6af667277454e4714ca5adb32987b", func := "loop.example/g00856/laws.FnExactCountColours", spec := "fnExactCountColours", unfollowed := true, recurses := true, apart := false }
def FnExactCountColoursSaid : Prop := fnExactCountColoursRow.holds Try.pinned (OpenSpec.ofChange fnExactCountColoursSpec)

/-- ITS FALSE NEIGHBOUR: 'it returns false'. Refute it at one input. -/
def fnExactCountColoursWrong : ChangeSpec := { name := "fnExactCountColours", fn := fun _ => fun
  | [d] => { results := [.lit (.bool false)], args := [d] }
  | _ => none }
def FnExactCountColoursWrongFalsely : Prop := fnExactCountColoursRow.holds Try.pinned (OpenSpec.ofChange fnExactCountColoursWrong)

/-- 'laws.FnExactPackLetters': WHATEVER THE INPUT: true; the input reads as it did. -/
def fnExactPackLettersSpec : ChangeSpec := { name := "fnExactPackLetters", fn := fun _ => fun
  | [d] => { results := [.lit (.bool true)], args := [d] }
  | _ => none }
def fnExactPackLettersRow : OpenClaim := { program := "ytdipejcndpkmfaa", sum := "b65dfc57d3eaf7b13623ba1f8f35fbe87be6af667277454e4714ca5adb32987b", func := "loop.example/g00856/laws.FnExactPackLetters", spec := "fnExactPackLetters", unfollowed := true, recurses := true, apart := false }
def FnExactPackLettersSaid : Prop := fnExactPackLettersRow.holds Try.pinned (OpenSpec.ofChange fnExactPackLettersSpec)

/-- ITS FALSE NEIGHBOUR: 'it returns false'. Refute it at one input. -/
def fnExactPackLettersWrong : ChangeSpec := { name := "fnExactPackLetters", fn := fun _ => fun
  | [d] => { results := [.lit (.bool false)], args := [d] }
  | _ => none }
def FnExactPackLettersWrongFalsely : Prop := fnExactPackLettersRow.holds Try.pinned (OpenSpec.ofChange fnExactPackLettersWrong)

/- THE SECOND FORM. 'bulk': how many values and letters a reading holds, each counted each time it is reached (what is shared counts as often as it is met; a slice's spare places count too). A statement '..UptoSaid' is the law's where the arguments, and the package variables that the reading takes, are together of bulk at most 1048576: NARROWER than '..Said'. Prove '..Said' where nothing that the law and all that it calls make is longer than what came in: it says more and counts as full. Else prove '..UptoSaid'. A law counts once. -/
mutual
def uptoBulk {H : Type} : DataW H → Nat
  | .lit (.string bytes) => bytes.length + 1
  | .lit _ => 1
  | .nil => 1
  | .ptr d => uptoBulk d + 1
  | .slice elems spare => uptoBulkAll elems + uptoBulkAll spare + 1
  | .agg parts => uptoBulkAll parts + 1
  | .iface _ d => uptoBulk d + 1
  | .map entries => uptoBulkEntries entries + 1
  | .held _ => 1
def uptoBulkAll {H : Type} : List (DataW H) → Nat
  | [] => 0
  | d :: r => uptoBulk d + uptoBulkAll r
def uptoBulkEntries {H : Type} : List (Lit × DataW H) → Nat
  | [] => 0
  | x :: r => uptoBulkEntry x + uptoBulkEntries r
def uptoBulkEntry {H : Type} : Lit × DataW H → Nat
  | (.string bytes, d) => bytes.length + uptoBulk d + 1
  | (_, d) => uptoBulk d + 1
 end
def uptoSmall : (H : Type) → List (DataW H) → Bool := fun _ ds => decide (uptoBulkAll ds ≤ 1048576)
def OpenSpec.upto (s : _root_.Go.ChangeSpec) : _root_.Go.OpenSpec := { _root_.Go.OpenSpec.ofChange s with cond := some uptoSmall }

/-- 'laws.FnExactValidSizes', WHERE WHAT IT READS IS OF BULK AT MOST 1048576: true; the input reads as it did. -/
def fnExactValidSizesUptoRow : OpenClaim := { program := "ytdipejcndpkmfaa", sum := "b65dfc57d3eaf7b13623ba1f8f35fbe87be6af667277454e4714ca5adb32987b", func := "loop.example/g00856/laws.FnExactValidSizes", spec := "fnExactValidSizes", unfollowed := true, recurses := true, apart := false, narrowed := true }
def FnExactValidSizesUptoSaid : Prop := fnExactValidSizesUptoRow.holds Try.pinned (OpenSpec.upto fnExactValidSizesSpec)

/-- 'laws.FnExactFirstOf', WHERE WHAT IT READS IS OF BULK AT MOST 1048576: true; the input reads as it did. -/
def fnExactFirstOfUptoRow : OpenClaim := { program := "ytdipejcndpkmfaa", sum := "b65dfc57d3eaf7b13623ba1f8f35fbe87be6af667277454e4714ca5adb32987b", func := "loop.example/g00856/laws.FnExactFirstOf", spec := "fnExactFirstOf", unfollowed := true, recurses := true, apart := false, narrowed := true }
def FnExactFirstOfUptoSaid : Prop := fnExactFirstOfUptoRow.holds Try.pinned (OpenSpec.upto fnExactFirstOfSpec)

/-- 'laws.FnExactColumnAt', WHERE WHAT IT READS IS OF BULK AT MOST 1048576: true; the input reads as it did. -/
def fnExactColumnAtUptoRow : OpenClaim := { program := "ytdipejcndpkmfaa", sum := "b65dfc57d3eaf7b13623ba1f8f35fbe87be6af667277454e4714ca5adb32987b", func := "loop.example/g00856/laws.FnExactColumnAt", spec := "fnExactColumnAt", unfollowed := true, recurses := true, apart := false, narrowed := true }
def FnExactColumnAtUptoSaid : Prop := fnExactColumnAtUptoRow.holds Try.pinned (OpenSpec.upto fnExactColumnAtSpec)

/-- 'laws.FnExactValidRow', WHERE WHAT IT READS IS OF BULK AT MOST 1048576: true; the input reads as it did. -/
def fnExactValidRowUptoRow : OpenClaim := { program := "ytdipejcndpkmfaa", sum := "b65dfc57d3eaf7b13623ba1f8f35fbe87be6af667277454e4714ca5adb32987b", func := "loop.example/g00856/laws.FnExactValidRow", spec := "fnExactValidRow", unfollowed := true, recurses := true, apart := false, narrowed := true }
def FnExactValidRowUptoSaid : Prop := fnExactValidRowUptoRow.holds Try.pinned (OpenSpec.upto fnExactValidRowSpec)

/-- 'laws.FnExactValidPieces', WHERE WHAT IT READS IS OF BULK AT MOST 1048576: true; the input reads as it did. -/
def fnExactValidPiecesUptoRow : OpenClaim := { program := "ytdipejcndpkmfaa", sum := "b65dfc57d3eaf7b13623ba1f8f35fbe87be6af667277454e4714ca5adb32987b", func := "loop.example/g00856/laws.FnExactValidPieces", spec := "fnExactValidPieces", recurses := true, apart := false, narrowed := true }
def FnExactValidPiecesUptoSaid : Prop := fnExactValidPiecesUptoRow.holds Try.pinned (OpenSpec.upto fnExactValidPiecesSpec)

/-- 'laws.FnExactValidColours', WHERE WHAT IT READS IS OF BULK AT MOST 1048576: true; the input reads as it did. -/
def fnExactValidColoursUptoRow : OpenClaim := { program := "ytdipejcndpkmfaa", sum := "b65dfc57d3eaf7b13623ba1f8f35fbe87be6af667277454e4714ca5adb32987b", func := "loop.example/g00856/laws.FnExactValidColours", spec := "fnExactValidColours", unfollowed := true, recurses := true, apart := false, narrowed := true }
def FnExactValidColoursUptoSaid : Prop := fnExactValidColoursUptoRow.holds Try.pinned (OpenSpec.upto fnExactValidColoursSpec)

/-- 'laws.FnExactSameColours', WHERE WHAT IT READS IS OF BULK AT MOST 1048576: true; the input reads as it did. -/
def fnExactSameColoursUptoRow : OpenClaim := { program := "ytdipejcndpkmfaa", sum := "b65dfc57d3eaf7b13623ba1f8f35fbe87be6af667277454e4714ca5adb32987b", func := "loop.example/g00856/laws.FnExactSameColours", spec := "fnExactSameColours", unfollowed := true, recurses := true, apart := false, narrowed := true }
def FnExactSameColoursUptoSaid : Prop := fnExactSameColoursUptoRow.holds Try.pinned (OpenSpec.upto fnExactSameColoursSpec)

/-- 'laws.FnExactCompressRow', WHERE WHAT IT READS IS OF BULK AT MOST 1048576: true; the input reads as it did. -/
def fnExactCompressRowUptoRow : OpenClaim := { program := "ytdipejcndpkmfaa", sum := "b65dfc57d3eaf7b13623ba1f8f35fbe87be6af667277454e4714ca5adb32987b", func := "loop.example/g00856/laws.FnExactCompressRow", spec := "fnExactCompressRow", unfollowed := true, recurses := true, apart := false, narrowed := true }
def FnExactCompressRowUptoSaid : Prop := fnExactCompressRowUptoRow.holds Try.pinned (OpenSpec.upto fnExactCompressRowSpec)

/-- 'laws.FnExactYarnOrder', WHERE WHAT IT READS IS OF BULK AT MOST 1048576: true; the input reads as it did. -/
def fnExactYarnOrderUptoRow : OpenClaim := { program := "ytdipejcndpkmfaa", sum := "b65dfc57d3eaf7b13623ba1f8f35fbe87be6af667277454e4714ca5adb32987b", func := "loop.example/g00856/laws.FnExactYarnOrder", spec := "fnExactYarnOrder", unfollowed := true, recurses := true, apart := false, narrowed := true }
def FnExactYarnOrderUptoSaid : Prop := fnExactYarnOrderUptoRow.holds Try.pinned (OpenSpec.upto fnExactYarnOrderSpec)

/-- 'laws.FnExactSameChart', WHERE WHAT IT READS IS OF BULK AT MOST 1048576: true; the input reads as it did. -/
def fnExactSameChartUptoRow : OpenClaim := { program := "ytdipejcndpkmfaa", sum := "b65dfc57d3eaf7b13623ba1f8f35fbe87be6af667277454e4714ca5adb32987b", func := "loop.example/g00856/laws.FnExactSameChart", spec := "fnExactSameChart", unfollowed := true, recurses := true, apart := false, narrowed := true }
def FnExactSameChartUptoSaid : Prop := fnExactSameChartUptoRow.holds Try.pinned (OpenSpec.upto fnExactSameChartSpec)

/-- 'laws.FnExactCountColours', WHERE WHAT IT READS IS OF BULK AT MOST 1048576: true; the input reads as it did. -/
def fnExactCountColoursUptoRow : OpenClaim := { program := "ytdipejcndpkmfaa", sum := "b65dfc57d3eaf7b13623ba1f8f35fbe87be6af667277454e4714ca5adb32987b", func := "loop.example/g00856/laws.FnExactCountColours", spec := "fnExactCountColours", unfollowed := true, recurses := true, apart := false, narrowed := true }
def FnExactCountColoursUptoSaid : Prop := fnExactCountColoursUptoRow.holds Try.pinned (OpenSpec.upto fnExactCountColoursSpec)

/-- 'laws.FnExactPackLetters', WHERE WHAT IT READS IS OF BULK AT MOST 1048576: true; the input reads as it did. -/
def fnExactPackLettersUptoRow : OpenClaim := { program := "ytdipejcndpkmfaa", sum := "b65dfc57d3eaf7b13623ba1f8f35fbe87be6af667277454e4714ca5adb32987b", func := "loop.example/g00856/laws.FnExactPackLetters", spec := "fnExactPackLetters", unfollowed := true, recurses := true, apart := false, narrowed := true }
def FnExactPackLettersUptoSaid : Prop := fnExactPackLettersUptoRow.holds Try.pinned (OpenSpec.upto fnExactPackLettersSpec)

end Rows
end Go.Proofs.Ytdipejcndpkmfaa
