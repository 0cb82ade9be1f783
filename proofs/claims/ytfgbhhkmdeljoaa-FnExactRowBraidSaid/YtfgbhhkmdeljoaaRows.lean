/-
  No cell of these rows narrows 'for every input' (looked for: loops, veiled, ifaces, maps, wideKeys, modest, calm, conditions, laid).
  DERIVED. THE GIVEN ROWS OF THIS SEAT. 11 by the template 'for every input the law returns true; each argument reads behind the call as it read before'; 0 by the template 'total and deterministic' (their statements: YtfgbhhkmdeljoaaTotals.lean).
  GIVEN WITH THE SEED: the statements are not yours to turn. If you find one false, say at which input.
  Laid BY PROGRAM, IN A SANDBOX (cutbox-rows.mjs): the forced cells as the released guide's own fill.sh prints them over the translation 1f88085922be0487… (all of the seat's roots in one cut). By AI agents, Wed Nov 11 2026. No macro, syntax, notation, axiom, sorry.
-/
import Derived.Test.YtfgbhhkmdeljoaaChecked
import GoSem.Claim
import GoSem.ClaimJoined
import GoSem.ClaimMapViews
import Derived.JoinedTies
import Derived.KernelRfl
namespace Go.Proofs.Ytfgbhhkmdeljoaa
/- THE CELL 'sum', in the pinned program and in every row, IS THE sha256 OF THE DUMP (.gsa) THAT YtfgbhhkmdeljoaaProg.lean LOADS. Nothing in Lean hashes anything: it is a label: what it is worth is what the hold of that sum in a sandbox is worth. -/
noncomputable def Try.pinned : Pinned := { name := "ytfgbhhkmdeljoaa", sum := "1f88085922be0487e19c648e14a0a006995300746d620376f4cf9119b12fe812", checked := Try.checked }
namespace Rows
def none {H : Type} : Left H := { results := [], args := [] }

/-- 'laws.FnExactValidChart': WHATEVER THE INPUT: true; the input reads as it did. -/
def fnExactValidChartSpec : ChangeSpec := { name := "fnExactValidChart", fn := fun _ => fun
  | [d] => { results := [.lit (.bool true)], args := [d] }
  | _ => none }
def fnExactValidChartRow : OpenClaim := { program := "ytfgbhhkmdeljoaa", sum := "1f88085922be0487e19c648e14a0a006995300746d620376f4cf9119b12fe812", func := "loop.example/g00856/laws.FnExactValidChart", spec := "fnExactValidChart", unfollowed := true, recurses := true, apart := false }
def FnExactValidChartSaid : Prop := fnExactValidChartRow.holds Try.pinned (OpenSpec.ofChange fnExactValidChartSpec)

/-- ITS FALSE NEIGHBOUR: 'it returns false'. Refute it at one input. -/
def fnExactValidChartWrong : ChangeSpec := { name := "fnExactValidChart", fn := fun _ => fun
  | [d] => { results := [.lit (.bool false)], args := [d] }
  | _ => none }
def FnExactValidChartWrongFalsely : Prop := fnExactValidChartRow.holds Try.pinned (OpenSpec.ofChange fnExactValidChartWrong)

/-- 'laws.FnExactColumnsAfter': WHATEVER THE INPUT: true; the input reads as it did. -/
def fnExactColumnsAfterSpec : ChangeSpec := { name := "fnExactColumnsAfter", fn := fun _ => fun
  | [d] => { results := [.lit (.bool true)], args := [d] }
  | _ => none }
def fnExactColumnsAfterRow : OpenClaim := { program := "ytfgbhhkmdeljoaa", sum := "1f88085922be0487e19c648e14a0a006995300746d620376f4cf9119b12fe812", func := "loop.example/g00856/laws.FnExactColumnsAfter", spec := "fnExactColumnsAfter", unfollowed := true, recurses := true, apart := false }
def FnExactColumnsAfterSaid : Prop := fnExactColumnsAfterRow.holds Try.pinned (OpenSpec.ofChange fnExactColumnsAfterSpec)

/-- ITS FALSE NEIGHBOUR: 'it returns false'. Refute it at one input. -/
def fnExactColumnsAfterWrong : ChangeSpec := { name := "fnExactColumnsAfter", fn := fun _ => fun
  | [d] => { results := [.lit (.bool false)], args := [d] }
  | _ => none }
def FnExactColumnsAfterWrongFalsely : Prop := fnExactColumnsAfterRow.holds Try.pinned (OpenSpec.ofChange fnExactColumnsAfterWrong)

/-- 'laws.FnExactStacksOf': WHATEVER THE INPUT: true; the input reads as it did. -/
def fnExactStacksOfSpec : ChangeSpec := { name := "fnExactStacksOf", fn := fun _ => fun
  | [d] => { results := [.lit (.bool true)], args := [d] }
  | _ => none }
def fnExactStacksOfRow : OpenClaim := { program := "ytfgbhhkmdeljoaa", sum := "1f88085922be0487e19c648e14a0a006995300746d620376f4cf9119b12fe812", func := "loop.example/g00856/laws.FnExactStacksOf", spec := "fnExactStacksOf", unfollowed := true, recurses := true, apart := false }
def FnExactStacksOfSaid : Prop := fnExactStacksOfRow.holds Try.pinned (OpenSpec.ofChange fnExactStacksOfSpec)

/-- ITS FALSE NEIGHBOUR: 'it returns false'. Refute it at one input. -/
def fnExactStacksOfWrong : ChangeSpec := { name := "fnExactStacksOf", fn := fun _ => fun
  | [d] => { results := [.lit (.bool false)], args := [d] }
  | _ => none }
def FnExactStacksOfWrongFalsely : Prop := fnExactStacksOfRow.holds Try.pinned (OpenSpec.ofChange fnExactStacksOfWrong)

/-- 'laws.FnExactMirrorChart': WHATEVER THE INPUT: true; the input reads as it did. -/
def fnExactMirrorChartSpec : ChangeSpec := { name := "fnExactMirrorChart", fn := fun _ => fun
  | [d] => { results := [.lit (.bool true)], args := [d] }
  | _ => none }
def fnExactMirrorChartRow : OpenClaim := { program := "ytfgbhhkmdeljoaa", sum := "1f88085922be0487e19c648e14a0a006995300746d620376f4cf9119b12fe812", func := "loop.example/g00856/laws.FnExactMirrorChart", spec := "fnExactMirrorChart", unfollowed := true, recurses := true, apart := false }
def FnExactMirrorChartSaid : Prop := fnExactMirrorChartRow.holds Try.pinned (OpenSpec.ofChange fnExactMirrorChartSpec)

/-- ITS FALSE NEIGHBOUR: 'it returns false'. Refute it at one input. -/
def fnExactMirrorChartWrong : ChangeSpec := { name := "fnExactMirrorChart", fn := fun _ => fun
  | [d] => { results := [.lit (.bool false)], args := [d] }
  | _ => none }
def FnExactMirrorChartWrongFalsely : Prop := fnExactMirrorChartRow.holds Try.pinned (OpenSpec.ofChange fnExactMirrorChartWrong)

/-- 'laws.FnExactRepeatChart': WHATEVER THE INPUT: true; the input reads as it did. -/
def fnExactRepeatChartSpec : ChangeSpec := { name := "fnExactRepeatChart", fn := fun _ => fun
  | [d1, d2] => { results := [.lit (.bool true)], args := [d1, d2] }
  | _ => none }
def fnExactRepeatChartRow : OpenClaim := { program := "ytfgbhhkmdeljoaa", sum := "1f88085922be0487e19c648e14a0a006995300746d620376f4cf9119b12fe812", func := "loop.example/g00856/laws.FnExactRepeatChart", spec := "fnExactRepeatChart", unfollowed := true, recurses := true, apart := false }
def FnExactRepeatChartSaid : Prop := fnExactRepeatChartRow.holds Try.pinned (OpenSpec.ofChange fnExactRepeatChartSpec)

/-- ITS FALSE NEIGHBOUR: 'it returns false'. Refute it at one input. -/
def fnExactRepeatChartWrong : ChangeSpec := { name := "fnExactRepeatChart", fn := fun _ => fun
  | [d1, d2] => { results := [.lit (.bool false)], args := [d1, d2] }
  | _ => none }
def FnExactRepeatChartWrongFalsely : Prop := fnExactRepeatChartRow.holds Try.pinned (OpenSpec.ofChange fnExactRepeatChartWrong)

/-- 'laws.FnExactBesideCharts': WHATEVER THE INPUT: true; the input reads as it did. -/
def fnExactBesideChartsSpec : ChangeSpec := { name := "fnExactBesideCharts", fn := fun _ => fun
  | [d1, d2] => { results := [.lit (.bool true)], args := [d1, d2] }
  | _ => none }
def fnExactBesideChartsRow : OpenClaim := { program := "ytfgbhhkmdeljoaa", sum := "1f88085922be0487e19c648e14a0a006995300746d620376f4cf9119b12fe812", func := "loop.example/g00856/laws.FnExactBesideCharts", spec := "fnExactBesideCharts", unfollowed := true, recurses := true, apart := false }
def FnExactBesideChartsSaid : Prop := fnExactBesideChartsRow.holds Try.pinned (OpenSpec.ofChange fnExactBesideChartsSpec)

/-- ITS FALSE NEIGHBOUR: 'it returns false'. Refute it at one input. -/
def fnExactBesideChartsWrong : ChangeSpec := { name := "fnExactBesideCharts", fn := fun _ => fun
  | [d1, d2] => { results := [.lit (.bool false)], args := [d1, d2] }
  | _ => none }
def FnExactBesideChartsWrongFalsely : Prop := fnExactBesideChartsRow.holds Try.pinned (OpenSpec.ofChange fnExactBesideChartsWrong)

/-- 'laws.FnExactStackCharts': WHATEVER THE INPUT: true; the input reads as it did. -/
def fnExactStackChartsSpec : ChangeSpec := { name := "fnExactStackCharts", fn := fun _ => fun
  | [d1, d2] => { results := [.lit (.bool true)], args := [d1, d2] }
  | _ => none }
def fnExactStackChartsRow : OpenClaim := { program := "ytfgbhhkmdeljoaa", sum := "1f88085922be0487e19c648e14a0a006995300746d620376f4cf9119b12fe812", func := "loop.example/g00856/laws.FnExactStackCharts", spec := "fnExactStackCharts", unfollowed := true, recurses := true, apart := false }
def FnExactStackChartsSaid : Prop := fnExactStackChartsRow.holds Try.pinned (OpenSpec.ofChange fnExactStackChartsSpec)

/-- ITS FALSE NEIGHBOUR: 'it returns false'. Refute it at one input. -/
def fnExactStackChartsWrong : ChangeSpec := { name := "fnExactStackCharts", fn := fun _ => fun
  | [d1, d2] => { results := [.lit (.bool false)], args := [d1, d2] }
  | _ => none }
def FnExactStackChartsWrongFalsely : Prop := fnExactStackChartsRow.holds Try.pinned (OpenSpec.ofChange fnExactStackChartsWrong)

/-- 'laws.FnExactIsCable': WHATEVER THE INPUT: true; the input reads as it did. -/
def fnExactIsCableSpec : ChangeSpec := { name := "fnExactIsCable", fn := fun _ => fun
  | [d] => { results := [.lit (.bool true)], args := [d] }
  | _ => none }
def fnExactIsCableRow : OpenClaim := { program := "ytfgbhhkmdeljoaa", sum := "1f88085922be0487e19c648e14a0a006995300746d620376f4cf9119b12fe812", func := "loop.example/g00856/laws.FnExactIsCable", spec := "fnExactIsCable", unfollowed := true, recurses := true, apart := false }
def FnExactIsCableSaid : Prop := fnExactIsCableRow.holds Try.pinned (OpenSpec.ofChange fnExactIsCableSpec)

/-- ITS FALSE NEIGHBOUR: 'it returns false'. Refute it at one input. -/
def fnExactIsCableWrong : ChangeSpec := { name := "fnExactIsCable", fn := fun _ => fun
  | [d] => { results := [.lit (.bool false)], args := [d] }
  | _ => none }
def FnExactIsCableWrongFalsely : Prop := fnExactIsCableRow.holds Try.pinned (OpenSpec.ofChange fnExactIsCableWrong)

/-- 'laws.FnExactCableBraid': WHATEVER THE INPUT: true; the input reads as it did. -/
def fnExactCableBraidSpec : ChangeSpec := { name := "fnExactCableBraid", fn := fun _ => fun
  | [d] => { results := [.lit (.bool true)], args := [d] }
  | _ => none }
def fnExactCableBraidRow : OpenClaim := { program := "ytfgbhhkmdeljoaa", sum := "1f88085922be0487e19c648e14a0a006995300746d620376f4cf9119b12fe812", func := "loop.example/g00856/laws.FnExactCableBraid", spec := "fnExactCableBraid", unfollowed := true, recurses := true, apart := false }
def FnExactCableBraidSaid : Prop := fnExactCableBraidRow.holds Try.pinned (OpenSpec.ofChange fnExactCableBraidSpec)

/-- ITS FALSE NEIGHBOUR: 'it returns false'. Refute it at one input. -/
def fnExactCableBraidWrong : ChangeSpec := { name := "fnExactCableBraid", fn := fun _ => fun
  | [d] => { results := [.lit (.bool false)], args := [d] }
  | _ => none }
def FnExactCableBraidWrongFalsely : Prop := fnExactCableBraidRow.holds Try.pinned (OpenSpec.ofChange fnExactCableBraidWrong)

/-- 'laws.FnExactRowBraid': WHATEVER THE INPUT: true; the input reads as it did. -/
def fnExactRowBraidSpec : ChangeSpec := { name := "fnExactRowBraid", fn := fun _ => fun
  | [d1, d2] => { results := [.lit (.bool true)], args := [d1, d2] }
  | _ => none }
def fnExactRowBraidRow : OpenClaim := { program := "ytfgbhhkmdeljoaa", sum := "1f88085922be0487e19c648e14a0a006995300746d620376f4cf9119b12fe812", func := "loop.example/g00856/laws.FnExactRowBraid", spec := "fnExactRowBraid", unfollowed := true, recurses := true, apart := false }
def FnExactRowBraidSaid : Prop := fnExactRowBraidRow.holds Try.pinned (OpenSpec.ofChange fnExactRowBraidSpec)

/-- ITS FALSE NEIGHBOUR: 'it returns false'. Refute it at one input. -/
def fnExactRowBraidWrong : ChangeSpec := { name := "fnExactRowBraid", fn := fun _ => fun
  | [d1, d2] => { results := [.lit (.bool false)], args := [d1, d2] }
  | _ => none }
def FnExactRowBraidWrongFalsely : Prop := fnExactRowBraidRow.holds Try.pinned (OpenSpec.ofChange fnExactRowBraidWrong)

/-- 'laws.FnExactChartOfPermutation': WHATEVER THE INPUT: true; the input reads as it did. -/
def fnExactChartOfPermutationSpec : ChangeSpec := { name := "fnExactChartOfPermutation", fn := fun _ => fun
  | [d1, d2] => { results := [.lit (.bool true)], args := [d1, d2] }
  | _ => none }
def fnExactChartOfPermutationRow : OpenClaim := { program := "ytfgbhhkmdeljoaa", sum := "1f88085922be0487e19c648e14a0a006995300746d620376f4cf9119b12fe812", func := "loop.example/g00856/laws.FnExactChartOfPermutation", spec := "fnExactChartOfPermutation", unfollowed := true, recurses := true, apart := false }
def FnExactChartOfPermutationSaid : Prop := fnExactChartOfPermutationRow.holds Try.pinned (OpenSpec.ofChange fnExactChartOfPermutationSpec)

/-- ITS FALSE NEIGHBOUR: 'it returns false'. Refute it at one input. -/
def fnExactChartOfPermutationWrong : ChangeSpec := { name := "fnExactChartOfPermutation", fn := fun _ => fun
  | [d1, d2] => { results := [.lit (.bool false)], args := [d1, d2] }
  | _ => none }
def FnExactChartOfPermutationWrongFalsely : Prop := fnExactChartOfPermutationRow.holds Try.pinned (OpenSpec.ofChange fnExactChartOfPermutationWrong)

/- THE SECOND FORM. 'bulk': how many values and letters a reading holds, each counted each time it is reached (what is shared counts as often as it is met; a slice's spare places count too). A statement '..UptoSaid' is the law's where the arguments, and the package variables that the reading takes, are together of bulk at most 1048576: NARROWER than '..Said'. Prove '..Said' where nothing that the law and all that it calls make is longer than what came in: it says more and counts as full. Else prove '..UptoSaid'. A law counts once. -/
mutual
def uptoBulk {H : Type} : DataW H → Nat
  | .lit (.string bytes) => bytes.length + 1
  | .lit _ => 1
  | .nil => 1
  | .ptr d => uptoBulk d + 1
  | .slice elems spare => uptoBulkAll elems + uptoBulkAll spare + 1
  | .agg parts => uptoBulkAll parts + 1
  | .iface _ d => uptoBulk d + 1
  | .map entries => uptoBulkEntries entries + 1
  | .held _ => 1
def uptoBulkAll {H : Type} : List (DataW H) → Nat
  | [] => 0
  | d :: r => uptoBulk d + uptoBulkAll r
def uptoBulkEntries {H : Type} : List (Lit × DataW H) → Nat
  | [] => 0
  | x :: r => uptoBulkEntry x + uptoBulkEntries r
def uptoBulkEntry {H : Type} : Lit × DataW H → Nat
  | (.string bytes, d) => bytes.length + uptoBulk d + 1
  | (_, d) => uptoBulk d + 1
 end
def uptoSmall : (H : Type) → List (DataW H) → Bool := fun _ ds => decide (uptoBulkAll ds ≤ 1048576)
def OpenSpec.upto (s : _root_.Go.ChangeSpec) : _root_.Go.OpenSpec := { _root_.Go.OpenSpec.ofChange s with cond := some uptoSmall }

/-- 'laws.FnExactValidChart', WHERE WHAT IT READS IS OF BULK AT MOST 1048576: true; the input reads as it did. -/
def fnExactValidChartUptoRow : OpenClaim := { program := "ytfgbhhkmdeljoaa", sum := "1f88085922be0487e19c648e14a0a006995300746d620376f4cf9119b12fe812", func := "loop.example/g00856/laws.FnExactValidChart", spec := "fnExactValidChart", unfollowed := true, recurses := true, apart := false, narrowed := true }
def FnExactValidChartUptoSaid : Prop := fnExactValidChartUptoRow.holds Try.pinned (OpenSpec.upto fnExactValidChartSpec)

/-- 'laws.FnExactColumnsAfter', WHERE WHAT IT READS IS OF BULK AT MOST 1048576: true; the input reads as it did. -/
def fnExactColumnsAfterUptoRow : OpenClaim := { program := "ytfgbhhkmdeljoaa", sum := "1f88085922be0487e19c648e14a0a006995300746d620376f4cf9119b12fe812", func := "loop.example/g00856/laws.FnExactColumnsAfter", spec := "fnExactColumnsAfter", unfollowed := true, recurses := true, apart := false, narrowed := true }
def FnExactColumnsAfterUptoSaid : Prop := fnExactColumnsAfterUptoRow.holds Try.pinned (OpenSpec.upto fnExactColumnsAfterSpec)

/-- 'laws.FnExactStacksOf', WHERE WHAT IT READS IS OF BULK AT MOST 1048576: true; the input reads as it did. -/
def fnExactStacksOfUptoRow : OpenClaim := { program := "ytfgbhhkmdeljoaa", sum := "1f88085922be0487e19c648e14a0a006995300746d620376f4cf9119b12fe812", func := "loop.example/g00856/laws.FnExactStacksOf", spec := "fnExactStacksOf", unfollowed := true, recurses := true, apart := false, narrowed := true }
def FnExactStacksOfUptoSaid : Prop := fnExactStacksOfUptoRow.holds Try.pinned (OpenSpec.upto fnExactStacksOfSpec)

/-- 'laws.FnExactMirrorChart', WHERE WHAT IT READS IS OF BULK AT MOST 1048576: true; the input reads as it did. -/
def fnExactMirrorChartUptoRow : OpenClaim := { program := "ytfgbhhkmdeljoaa", sum := "1f88085922be0487e19c648e14a0a006995300746d620376f4cf9119b12fe812", func := "loop.example/g00856/laws.FnExactMirrorChart", spec := "fnExactMirrorChart", unfollowed := true, recurses := true, apart := false, narrowed := true }
def FnExactMirrorChartUptoSaid : Prop := fnExactMirrorChartUptoRow.holds Try.pinned (OpenSpec.upto fnExactMirrorChartSpec)

/-- 'laws.FnExactRepeatChart', WHERE WHAT IT READS IS OF BULK AT MOST 1048576: true; the input reads as it did. -/
def fnExactRepeatChartUptoRow : OpenClaim := { program := "ytfgbhhkmdeljoaa", sum := "1f88085922be0487e19c648e14a0a006995300746d620376f4cf9119b12fe812", func := "loop.example/g00856/laws.FnExactRepeatChart", spec := "fnExactRepeatChart", unfollowed := true, recurses := true, apart := false, narrowed := true }
def FnExactRepeatChartUptoSaid : Prop := fnExactRepeatChartUptoRow.holds Try.pinned (OpenSpec.upto fnExactRepeatChartSpec)

/-- 'laws.FnExactBesideCharts', WHERE WHAT IT READS IS OF BULK AT MOST 1048576: true; the input reads as it did. -/
def fnExactBesideChartsUptoRow : OpenClaim := { program := "ytfgbhhkmdeljoaa", sum := "1f88085922be0487e19c648e14a0a006995300746d620376f4cf9119b12fe812", func := "loop.example/g00856/laws.FnExactBesideCharts", spec := "fnExactBesideCharts", unfollowed := true, recurses := true, apart := false, narrowed := true }
def FnExactBesideChartsUptoSaid : Prop := fnExactBesideChartsUptoRow.holds Try.pinned (OpenSpec.upto fnExactBesideChartsSpec)

/-- 'laws.FnExactStackCharts', WHERE WHAT IT READS IS OF BULK AT MOST 1048576: true; the input reads as it did. -/
def fnExactStackChartsUptoRow : OpenClaim := { program := "ytfgbhhkmdeljoaa", sum := "1f88085922be0487e19c648e14a0a006995300746d620376f4cf9119b12fe812", func := "loop.example/g00856/laws.FnExactStackCharts", spec := "fnExactStackCharts", unfollowed := true, recurses := true, apart := false, narrowed := true }
def FnExactStackChartsUptoSaid : Prop := fnExactStackChartsUptoRow.holds Try.pinned (OpenSpec.upto fnExactStackChartsSpec)

/-- 'laws.FnExactIsCable', WHERE WHAT IT READS IS OF BULK AT MOST 1048576: true; the input reads as it did. -/
def fnExactIsCableUptoRow : OpenClaim := { program := "ytfgbhhkmdeljoaa", sum := "1f88085922be0487e19c648e14a0a006995300746d620376f4cf9119b12fe812", func := "loop.example/g00856/laws.FnExactIsCable", spec := "fnExactIsCable", unfollowed := true, recurses := true, apart := false, narrowed := true }
def FnExactIsCableUptoSaid : Prop := fnExactIsCableUptoRow.holds Try.pinned (OpenSpec.upto fnExactIsCableSpec)

/-- 'laws.FnExactCableBraid', WHERE WHAT IT READS IS OF BULK AT MOST 1048576: true; the input reads as it did. -/
def fnExactCableBraidUptoRow : OpenClaim := { program := "ytfgbhhkmdeljoaa", sum := "1f88085922be0487e19c648e14a0a006995300746d620376f4cf9119b12fe812", func := "loop.example/g00856/laws.FnExactCableBraid", spec := "fnExactCableBraid", unfollowed := true, recurses := true, apart := false, narrowed := true }
def FnExactCableBraidUptoSaid : Prop := fnExactCableBraidUptoRow.holds Try.pinned (OpenSpec.upto fnExactCableBraidSpec)

/-- 'laws.FnExactRowBraid', WHERE WHAT IT READS IS OF BULK AT MOST 1048576: true; the input reads as it did. -/
def fnExactRowBraidUptoRow : OpenClaim := { program := "ytfgbhhkmdeljoaa", sum := "1f88085922be0487e19c648e14a0a006995300746d620376f4cf9119b12fe812", func := "loop.example/g00856/laws.FnExactRowBraid", spec := "fnExactRowBraid", unfollowed := true, recurses := true, apart := false, narrowed := true }
def FnExactRowBraidUptoSaid : Prop := fnExactRowBraidUptoRow.holds Try.pinned (OpenSpec.upto fnExactRowBraidSpec)

/-- 'laws.FnExactChartOfPermutation', WHERE WHAT IT READS IS OF BULK AT MOST 1048576: true; the input reads as it did. -/
def fnExactChartOfPermutationUptoRow : OpenClaim := { program := "ytfgbhhkmdeljoaa", sum := "1f88085922be0487e19c648e14a0a006995300746d620376f4cf9119b12fe812", func := "loop.example/g00856/laws.FnExactChartOfPermutation", spec := "fnExactChartOfPermutation", unfollowed := true, recurses := true, apart := false, narrowed := true }
def FnExactChartOfPermutationUptoSaid : Prop := fnExactChartOfPermutationUptoRow.holds Try.pinned (OpenSpec.upto fnExactChartOfPermutationSpec)

end Rows
end Go.Proofs.Ytfgbhhkmdeljoaa
