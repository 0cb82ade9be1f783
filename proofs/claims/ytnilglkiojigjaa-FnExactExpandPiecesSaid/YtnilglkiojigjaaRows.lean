/-
  No cell of these rows narrows 'for every input' (looked for: loops, veiled, ifaces, maps, wideKeys, modest, calm, conditions, laid).
  DERIVED. THE GIVEN ROWS OF THIS SEAT. 8 by the template 'for every input the law returns true; each argument reads behind the call as it read before'; 0 by the template 'total and deterministic' (their statements: YtnilglkiojigjaaTotals.lean).
  GIVEN WITH THE SEED: the statements are not yours to turn. If you find one false, say at which input.
  Laid BY PROGRAM, IN A SANDBOX (cutbox-rows.mjs): the forced cells as the released guide's own fill.sh prints them over the translation e3fde58e86570778… (all of the seat's roots in one cut). By AI agents, Wed Nov 11 2026. No macro, syntax, notation, axiom, sorry.
-/
import Derived.Test.YtnilglkiojigjaaChecked
import GoSem.Claim
import GoSem.ClaimJoined
import GoSem.ClaimMapViews
import Derived.JoinedTies
import Derived.KernelRfl
namespace Go.Proofs.Ytnilglkiojigjaa
/- THE CELL 'sum', in the pinned program and in every row, IS THE sha256 OF THE DUMP (.gsa) THAT YtnilglkiojigjaaProg.lean LOADS. Nothing in Lean hashes anything: it is a label: what it is worth is what the hold of that sum in a sandbox is worth. -/
noncomputable def Try.pinned : Pinned := { name := "ytnilglkiojigjaa", sum := "e3fde58e865707787ce9e0742e0e304171d80f640eb1e0b3c473d8eb2a41094d", checked := Try.checked }
namespace Rows
def none {H : Type} : Left H := { results := [], args := [] }

/-- 'laws.FnExactChartOfPermutation': WHATEVER THE INPUT: true; the input reads as it did. -/
def fnExactChartOfPermutationSpec : ChangeSpec := { name := "fnExactChartOfPermutation", fn := fun _ => fun
  | [d1, d2] => { results := [.lit (.bool true)], args := [d1, d2] }
  | _ => none }
def fnExactChartOfPermutationRow : OpenClaim := { program := "ytnilglkiojigjaa", sum := "e3fde58e865707787ce9e0742e0e304171d80f640eb1e0b3c473d8eb2a41094d", func := "loop.example/g00856/laws.FnExactChartOfPermutation", spec := "fnExactChartOfPermutation", unfollowed := true, recurses := true, apart := false }
def FnExactChartOfPermutationSaid : Prop := fnExactChartOfPermutationRow.holds Try.pinned (OpenSpec.ofChange fnExactChartOfPermutationSpec)

/-- ITS FALSE NEIGHBOUR: 'it returns false'. Refute it at one input. -/
def fnExactChartOfPermutationWrong : ChangeSpec := { name := "fnExactChartOfPermutation", fn := fun _ => fun
  | [d1, d2] => { results := [.lit (.bool false)], args := [d1, d2] }
  | _ => none }
def FnExactChartOfPermutationWrongFalsely : Prop := fnExactChartOfPermutationRow.holds Try.pinned (OpenSpec.ofChange fnExactChartOfPermutationWrong)

/-- 'laws.FnExactEventCounts': WHATEVER THE INPUT: true; the input reads as it did. -/
def fnExactEventCountsSpec : ChangeSpec := { name := "fnExactEventCounts", fn := fun _ => fun
  | [d] => { results := [.lit (.bool true)], args := [d] }
  | _ => none }
def fnExactEventCountsRow : OpenClaim := { program := "ytnilglkiojigjaa", sum := "e3fde58e865707787ce9e0742e0e304171d80f640eb1e0b3c473d8eb2a41094d", func := "loop.example/g00856/laws.FnExactEventCounts", spec := "fnExactEventCounts", apart := false }
def FnExactEventCountsSaid : Prop := fnExactEventCountsRow.holds Try.pinned (OpenSpec.ofChange fnExactEventCountsSpec)

/-- ITS FALSE NEIGHBOUR: 'it returns false'. Refute it at one input. -/
def fnExactEventCountsWrong : ChangeSpec := { name := "fnExactEventCounts", fn := fun _ => fun
  | [d] => { results := [.lit (.bool false)], args := [d] }
  | _ => none }
def FnExactEventCountsWrongFalsely : Prop := fnExactEventCountsRow.holds Try.pinned (OpenSpec.ofChange fnExactEventCountsWrong)

/-- 'laws.FnExactExpandPieces': WHATEVER THE INPUT: true; the input reads as it did. -/
def fnExactExpandPiecesSpec : ChangeSpec := { name := "fnExactExpandPieces", fn := fun _ => fun
  | [d1, d2] => { results := [.lit (.bool true)], args := [d1, d2] }
  | _ => none }
def fnExactExpandPiecesRow : OpenClaim := { program := "ytnilglkiojigjaa", sum := "e3fde58e865707787ce9e0742e0e304171d80f640eb1e0b3c473d8eb2a41094d", func := "loop.example/g00856/laws.FnExactExpandPieces", spec := "fnExactExpandPieces", unfollowed := true, recurses := true, apart := false }
def FnExactExpandPiecesSaid : Prop := fnExactExpandPiecesRow.holds Try.pinned (OpenSpec.ofChange fnExactExpandPiecesSpec)

/-- ITS FALSE NEIGHBOUR: 'it returns false'. Refute it at one input. -/
def fnExactExpandPiecesWrong : ChangeSpec := { name := "fnExactExpandPieces", fn := fun _ => fun
  | [d1, d2] => { results := [.lit (.bool false)], args := [d1, d2] }
  | _ => none }
def FnExactExpandPiecesWrongFalsely : Prop := fnExactExpandPiecesRow.holds Try.pinned (OpenSpec.ofChange fnExactExpandPiecesWrong)

/-- 'laws.FnExactChartOfColours': WHATEVER THE INPUT: true; the input reads as it did. -/
def fnExactChartOfColoursSpec : ChangeSpec := { name := "fnExactChartOfColours", fn := fun _ => fun
  | [d] => { results := [.lit (.bool true)], args := [d] }
  | _ => none }
def fnExactChartOfColoursRow : OpenClaim := { program := "ytnilglkiojigjaa", sum := "e3fde58e865707787ce9e0742e0e304171d80f640eb1e0b3c473d8eb2a41094d", func := "loop.example/g00856/laws.FnExactChartOfColours", spec := "fnExactChartOfColours", unfollowed := true, recurses := true, apart := false }
def FnExactChartOfColoursSaid : Prop := fnExactChartOfColoursRow.holds Try.pinned (OpenSpec.ofChange fnExactChartOfColoursSpec)

/-- ITS FALSE NEIGHBOUR: 'it returns false'. Refute it at one input. -/
def fnExactChartOfColoursWrong : ChangeSpec := { name := "fnExactChartOfColours", fn := fun _ => fun
  | [d] => { results := [.lit (.bool false)], args := [d] }
  | _ => none }
def FnExactChartOfColoursWrongFalsely : Prop := fnExactChartOfColoursRow.holds Try.pinned (OpenSpec.ofChange fnExactChartOfColoursWrong)

/-- 'laws.FnExactHandRow': WHATEVER THE INPUT: true; the input reads as it did. -/
def fnExactHandRowSpec : ChangeSpec := { name := "fnExactHandRow", fn := fun _ => fun
  | [d1, d2] => { results := [.lit (.bool true)], args := [d1, d2] }
  | _ => none }
def fnExactHandRowRow : OpenClaim := { program := "ytnilglkiojigjaa", sum := "e3fde58e865707787ce9e0742e0e304171d80f640eb1e0b3c473d8eb2a41094d", func := "loop.example/g00856/laws.FnExactHandRow", spec := "fnExactHandRow", unfollowed := true, recurses := true, apart := false }
def FnExactHandRowSaid : Prop := fnExactHandRowRow.holds Try.pinned (OpenSpec.ofChange fnExactHandRowSpec)

/-- ITS FALSE NEIGHBOUR: 'it returns false'. Refute it at one input. -/
def fnExactHandRowWrong : ChangeSpec := { name := "fnExactHandRow", fn := fun _ => fun
  | [d1, d2] => { results := [.lit (.bool false)], args := [d1, d2] }
  | _ => none }
def FnExactHandRowWrongFalsely : Prop := fnExactHandRowRow.holds Try.pinned (OpenSpec.ofChange fnExactHandRowWrong)

/-- 'laws.FnRepeated': WHATEVER THE INPUT: true; the input reads as it did. -/
def fnRepeatedSpec : ChangeSpec := { name := "fnRepeated", fn := fun _ => fun
  | [d] => { results := [.lit (.bool true)], args := [d] }
  | _ => none }
def fnRepeatedRow : OpenClaim := { program := "ytnilglkiojigjaa", sum := "e3fde58e865707787ce9e0742e0e304171d80f640eb1e0b3c473d8eb2a41094d", func := "loop.example/g00856/laws.FnRepeated", spec := "fnRepeated", unfollowed := true, recurses := true, apart := false }
def FnRepeatedSaid : Prop := fnRepeatedRow.holds Try.pinned (OpenSpec.ofChange fnRepeatedSpec)

/-- ITS FALSE NEIGHBOUR: 'it returns false'. Refute it at one input. -/
def fnRepeatedWrong : ChangeSpec := { name := "fnRepeated", fn := fun _ => fun
  | [d] => { results := [.lit (.bool false)], args := [d] }
  | _ => none }
def FnRepeatedWrongFalsely : Prop := fnRepeatedRow.holds Try.pinned (OpenSpec.ofChange fnRepeatedWrong)

/-- 'laws.FnMirrored': WHATEVER THE INPUT: true; the input reads as it did. -/
def fnMirroredSpec : ChangeSpec := { name := "fnMirrored", fn := fun _ => fun
  | [d] => { results := [.lit (.bool true)], args := [d] }
  | _ => none }
def fnMirroredRow : OpenClaim := { program := "ytnilglkiojigjaa", sum := "e3fde58e865707787ce9e0742e0e304171d80f640eb1e0b3c473d8eb2a41094d", func := "loop.example/g00856/laws.FnMirrored", spec := "fnMirrored", unfollowed := true, recurses := true, apart := false }
def FnMirroredSaid : Prop := fnMirroredRow.holds Try.pinned (OpenSpec.ofChange fnMirroredSpec)

/-- ITS FALSE NEIGHBOUR: 'it returns false'. Refute it at one input. -/
def fnMirroredWrong : ChangeSpec := { name := "fnMirrored", fn := fun _ => fun
  | [d] => { results := [.lit (.bool false)], args := [d] }
  | _ => none }
def FnMirroredWrongFalsely : Prop := fnMirroredRow.holds Try.pinned (OpenSpec.ofChange fnMirroredWrong)

/-- 'laws.FnCablePermutations': WHATEVER THE INPUT: true; the input reads as it did. -/
def fnCablePermutationsSpec : ChangeSpec := { name := "fnCablePermutations", fn := fun _ => fun
  | [d] => { results := [.lit (.bool true)], args := [d] }
  | _ => none }
def fnCablePermutationsRow : OpenClaim := { program := "ytnilglkiojigjaa", sum := "e3fde58e865707787ce9e0742e0e304171d80f640eb1e0b3c473d8eb2a41094d", func := "loop.example/g00856/laws.FnCablePermutations", spec := "fnCablePermutations", unfollowed := true, recurses := true, apart := false }
def FnCablePermutationsSaid : Prop := fnCablePermutationsRow.holds Try.pinned (OpenSpec.ofChange fnCablePermutationsSpec)

/-- ITS FALSE NEIGHBOUR: 'it returns false'. Refute it at one input. -/
def fnCablePermutationsWrong : ChangeSpec := { name := "fnCablePermutations", fn := fun _ => fun
  | [d] => { results := [.lit (.bool false)], args := [d] }
  | _ => none }
def FnCablePermutationsWrongFalsely : Prop := fnCablePermutationsRow.holds Try.pinned (OpenSpec.ofChange fnCablePermutationsWrong)

/- THE SECOND FORM. 'bulk': how many values and letters a reading holds, each counted each time it is reached (what is shared counts as often as it is met; a slice's spare places count too). A statement '..UptoSaid' is the law's where the arguments, and the package variables that the reading takes, are together of bulk at most 1048576: NARROWER than '..Said'. Prove '..Said' where nothing that the law and all that it calls make is longer than what came in: it says more and counts as full. Else prove '..UptoSaid'. A law counts once. -/
mutual
def uptoBulk {H : Type} : DataW H → Nat
  | .lit (.string bytes) => bytes.length + 1
  | .lit _ => 1
  | .nil => 1
  | .ptr d => uptoBulk d + 1
  | .slice elems spare => uptoBulkAll elems + uptoBulkAll spare + 1
  | .agg parts => uptoBulkAll parts + 1
  | .iface _ d => uptoBulk d + 1
  | .map entries => uptoBulkEntries entries + 1
  | .held _ => 1
def uptoBulkAll {H : Type} : List (DataW H) → Nat
  | [] => 0
  | d :: r => uptoBulk d + uptoBulkAll r
def uptoBulkEntries {H : Type} : List (Lit × DataW H) → Nat
  | [] => 0
  | x :: r => uptoBulkEntry x + uptoBulkEntries r
def uptoBulkEntry {H : Type} : Lit × DataW H → Nat
  | (.string bytes, d) => bytes.length + uptoBulk d + 1
  | (_, d) => uptoBulk d + 1
 end
def uptoSmall : (H : Type) → List (DataW H) → Bool := fun _ ds => decide (uptoBulkAll ds ≤ 1048576)
def OpenSpec.upto (s : _root_.Go.ChangeSpec) : _root_.Go.OpenSpec := { _root_.Go.OpenSpec.ofChange s with cond := some uptoSmall }

/-- 'laws.FnExactChartOfPermutation', WHERE WHAT IT READS IS OF BULK AT MOST 1048576: true; the input reads as it did. -/
def fnExactChartOfPermutationUptoRow : OpenClaim := { program := "ytnilglkiojigjaa", sum := "e3fde58e865707787ce9e0742e0e304171d80f640eb1e0b3c473d8eb2a41094d", func := "loop.example/g00856/laws.FnExactChartOfPermutation", spec := "fnExactChartOfPermutation", unfollowed := true, recurses := true, apart := false, narrowed := true }
def FnExactChartOfPermutationUptoSaid : Prop := fnExactChartOfPermutationUptoRow.holds Try.pinned (OpenSpec.upto fnExactChartOfPermutationSpec)

/-- 'laws.FnExactEventCounts', WHERE WHAT IT READS IS OF BULK AT MOST 1048576: true; the input reads as it did. -/
def fnExactEventCountsUptoRow : OpenClaim := { program := "ytnilglkiojigjaa", sum := "e3fde58e865707787ce9e0742e0e304171d80f640eb1e0b3c473d8eb2a41094d", func := "loop.example/g00856/laws.FnExactEventCounts", spec := "fnExactEventCounts", apart := false, narrowed := true }
def FnExactEventCountsUptoSaid : Prop := fnExactEventCountsUptoRow.holds Try.pinned (OpenSpec.upto fnExactEventCountsSpec)

/-- 'laws.FnExactExpandPieces', WHERE WHAT IT READS IS OF BULK AT MOST 1048576: true; the input reads as it did. -/
def fnExactExpandPiecesUptoRow : OpenClaim := { program := "ytnilglkiojigjaa", sum := "e3fde58e865707787ce9e0742e0e304171d80f640eb1e0b3c473d8eb2a41094d", func := "loop.example/g00856/laws.FnExactExpandPieces", spec := "fnExactExpandPieces", unfollowed := true, recurses := true, apart := false, narrowed := true }
def FnExactExpandPiecesUptoSaid : Prop := fnExactExpandPiecesUptoRow.holds Try.pinned (OpenSpec.upto fnExactExpandPiecesSpec)

/-- 'laws.FnExactChartOfColours', WHERE WHAT IT READS IS OF BULK AT MOST 1048576: true; the input reads as it did. -/
def fnExactChartOfColoursUptoRow : OpenClaim := { program := "ytnilglkiojigjaa", sum := "e3fde58e865707787ce9e0742e0e304171d80f640eb1e0b3c473d8eb2a41094d", func := "loop.example/g00856/laws.FnExactChartOfColours", spec := "fnExactChartOfColours", unfollowed := true, recurses := true, apart := false, narrowed := true }
def FnExactChartOfColoursUptoSaid : Prop := fnExactChartOfColoursUptoRow.holds Try.pinned (OpenSpec.upto fnExactChartOfColoursSpec)

/-- 'laws.FnExactHandRow', WHERE WHAT IT READS IS OF BULK AT MOST 1048576: true; the input reads as it did. -/
def fnExactHandRowUptoRow : OpenClaim := { program := "ytnilglkiojigjaa", sum := "e3fde58e865707787ce9e0742e0e304171d80f640eb1e0b3c473d8eb2a41094d", func := "loop.example/g00856/laws.FnExactHandRow", spec := "fnExactHandRow", unfollowed := true, recurses := true, apart := false, narrowed := true }
def FnExactHandRowUptoSaid : Prop := fnExactHandRowUptoRow.holds Try.pinned (OpenSpec.upto fnExactHandRowSpec)

/-- 'laws.FnRepeated', WHERE WHAT IT READS IS OF BULK AT MOST 1048576: true; the input reads as it did. -/
def fnRepeatedUptoRow : OpenClaim := { program := "ytnilglkiojigjaa", sum := "e3fde58e865707787ce9e0742e0e304171d80f640eb1e0b3c473d8eb2a41094d", func := "loop.example/g00856/laws.FnRepeated", spec := "fnRepeated", unfollowed := true, recurses := true, apart := false, narrowed := true }
def FnRepeatedUptoSaid : Prop := fnRepeatedUptoRow.holds Try.pinned (OpenSpec.upto fnRepeatedSpec)

/-- 'laws.FnMirrored', WHERE WHAT IT READS IS OF BULK AT MOST 1048576: true; the input reads as it did. -/
def fnMirroredUptoRow : OpenClaim := { program := "ytnilglkiojigjaa", sum := "e3fde58e865707787ce9e0742e0e304171d80f640eb1e0b3c473d8eb2a41094d", func := "loop.example/g00856/laws.FnMirrored", spec := "fnMirrored", unfollowed := true, recurses := true, apart := false, narrowed := true }
def FnMirroredUptoSaid : Prop := fnMirroredUptoRow.holds Try.pinned (OpenSpec.upto fnMirroredSpec)

/-- 'laws.FnCablePermutations', WHERE WHAT IT READS IS OF BULK AT MOST 1048576: true; the input reads as it did. -/
def fnCablePermutationsUptoRow : OpenClaim := { program := "ytnilglkiojigjaa", sum := "e3fde58e865707787ce9e0742e0e304171d80f640eb1e0b3c473d8eb2a41094d", func := "loop.example/g00856/laws.FnCablePermutations", spec := "fnCablePermutations", unfollowed := true, recurses := true, apart := false, narrowed := true }
def FnCablePermutationsUptoSaid : Prop := fnCablePermutationsUptoRow.holds Try.pinned (OpenSpec.upto fnCablePermutationsSpec)

end Rows
end Go.Proofs.Ytnilglkiojigjaa
