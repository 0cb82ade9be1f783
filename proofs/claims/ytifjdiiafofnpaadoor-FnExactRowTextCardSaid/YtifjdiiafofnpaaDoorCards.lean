/-
  DERIVED. GIVEN WITH THE SEED: THE CARDS: each row of YtifjdiiafofnpaaDoorRows.lean that lists a variable, with what it lists TIED to the program's text (the seventh form; the later family's looks); each row that meets fmt, with fmt's text TOLD by the authors' own Lean function (tested against real Go, not proved from fmt's source: count such statements apart). THE CARD IS WHAT COUNTS. Prove the row's statement (the work); the ties are given (YtifjdiiafofnpaaDoorTie.lean); close each card by the builder's one call (the guide's Derived/Test/ToyasCard.lean, 'card_holds'). Laid BY PROGRAM, IN A SANDBOX (cutbox-door.mjs). By AI agents, Wed Nov 11 2026. No macro, syntax, notation, axiom, sorry.
-/
import Derived.Test.YtifjdiiafofnpaaDoorRows
import GoSem.ClaimSeven
namespace Go.Proofs.YtifjdiiafofnpaaDoor
namespace Rows

/-- THE TIED CARD OF 'laws.FnExactRowText'. -/
def fnExactRowTextCard : Claim7 := { stood := { row := fnExactRowTextRow, standIns := [], harness := (true, "fe3456263c889669055576eefe37687ffbbe886250e2e0c80b94cbd88b30c469"), looks := false }, kinds := [], alts := [], laidByText := true, laidKinds := [.data, .data, .data], laidTests := true, laidLooks := .later }
def FnExactRowTextCardSaid : Prop := Claim7.holds Tryd.pinned (.plain (OpenSpec.ofChange fnExactRowTextSpec)) fnExactRowTextCard

/-- THE TIED CARD OF 'laws.FnExactPiecesText'. -/
def fnExactPiecesTextCard : Claim7 := { stood := { row := fnExactPiecesTextRow, standIns := [], harness := (true, "fe3456263c889669055576eefe37687ffbbe886250e2e0c80b94cbd88b30c469"), looks := false }, kinds := [], alts := [], laidByText := true, laidKinds := [.data, .data, .data], laidTests := true, laidLooks := .later }
def FnExactPiecesTextCardSaid : Prop := Claim7.holds Tryd.pinned (.plain (OpenSpec.ofChange fnExactPiecesTextSpec)) fnExactPiecesTextCard

/-- THE TIED CARD OF 'laws.FnExactChartText'. -/
def fnExactChartTextCard : Claim7 := { stood := { row := fnExactChartTextRow, standIns := [], harness := (true, "fe3456263c889669055576eefe37687ffbbe886250e2e0c80b94cbd88b30c469"), looks := false }, kinds := [], alts := [], laidByText := true, laidKinds := [.data, .data, .data], laidTests := true, laidLooks := .later }
def FnExactChartTextCardSaid : Prop := Claim7.holds Tryd.pinned (.plain (OpenSpec.ofChange fnExactChartTextSpec)) fnExactChartTextCard

/-- THE TIED CARD OF 'laws.FnExactColoursText'. -/
def fnExactColoursTextCard : Claim7 := { stood := { row := fnExactColoursTextRow, standIns := [], harness := (true, "fe3456263c889669055576eefe37687ffbbe886250e2e0c80b94cbd88b30c469"), looks := false }, kinds := [], alts := [], laidByText := true, laidKinds := [.data, .data, .data], laidTests := true, laidLooks := .later }
def FnExactColoursTextCardSaid : Prop := Claim7.holds Tryd.pinned (.plain (OpenSpec.ofChange fnExactColoursTextSpec)) fnExactColoursTextCard

/-- THE TIED CARD OF 'laws.FnExactReadColours'. -/
def fnExactReadColoursCard : Claim7 := { stood := { row := fnExactReadColoursRow, standIns := [], harness := (true, "fe3456263c889669055576eefe37687ffbbe886250e2e0c80b94cbd88b30c469"), looks := false }, kinds := [], alts := [], laidByText := true, laidKinds := [.data, .pinned], laidTests := true, laidLooks := .later }
def FnExactReadColoursCardSaid : Prop := Claim7.holds Tryd.pinned (.plain (OpenSpec.ofChange fnExactReadColoursSpec)) fnExactReadColoursCard

/-- THE SECOND FORM's CARD OF 'laws.FnExactRowText'. -/
def fnExactRowTextUptoCard : Claim7 := { stood := { row := fnExactRowTextUptoRow, standIns := [], harness := (true, "fe3456263c889669055576eefe37687ffbbe886250e2e0c80b94cbd88b30c469"), looks := false }, kinds := [], alts := [], laidByText := true, laidKinds := [.data, .data, .data], laidTests := true, laidLooks := .later }
def FnExactRowTextUptoCardSaid : Prop := Claim7.holds Tryd.pinned (.plain (OpenSpec.upto fnExactRowTextSpec)) fnExactRowTextUptoCard

/-- THE SECOND FORM's CARD OF 'laws.FnExactPiecesText'. -/
def fnExactPiecesTextUptoCard : Claim7 := { stood := { row := fnExactPiecesTextUptoRow, standIns := [], harness := (true, "fe3456263c889669055576eefe37687ffbbe886250e2e0c80b94cbd88b30c469"), looks := false }, kinds := [], alts := [], laidByText := true, laidKinds := [.data, .data, .data], laidTests := true, laidLooks := .later }
def FnExactPiecesTextUptoCardSaid : Prop := Claim7.holds Tryd.pinned (.plain (OpenSpec.upto fnExactPiecesTextSpec)) fnExactPiecesTextUptoCard

/-- THE SECOND FORM's CARD OF 'laws.FnExactChartText'. -/
def fnExactChartTextUptoCard : Claim7 := { stood := { row := fnExactChartTextUptoRow, standIns := [], harness := (true, "fe3456263c889669055576eefe37687ffbbe886250e2e0c80b94cbd88b30c469"), looks := false }, kinds := [], alts := [], laidByText := true, laidKinds := [.data, .data, .data], laidTests := true, laidLooks := .later }
def FnExactChartTextUptoCardSaid : Prop := Claim7.holds Tryd.pinned (.plain (OpenSpec.upto fnExactChartTextSpec)) fnExactChartTextUptoCard

/-- THE SECOND FORM's CARD OF 'laws.FnExactColoursText'. -/
def fnExactColoursTextUptoCard : Claim7 := { stood := { row := fnExactColoursTextUptoRow, standIns := [], harness := (true, "fe3456263c889669055576eefe37687ffbbe886250e2e0c80b94cbd88b30c469"), looks := false }, kinds := [], alts := [], laidByText := true, laidKinds := [.data, .data, .data], laidTests := true, laidLooks := .later }
def FnExactColoursTextUptoCardSaid : Prop := Claim7.holds Tryd.pinned (.plain (OpenSpec.upto fnExactColoursTextSpec)) fnExactColoursTextUptoCard

/-- THE SECOND FORM's CARD OF 'laws.FnExactReadColours'. -/
def fnExactReadColoursUptoCard : Claim7 := { stood := { row := fnExactReadColoursUptoRow, standIns := [], harness := (true, "fe3456263c889669055576eefe37687ffbbe886250e2e0c80b94cbd88b30c469"), looks := false }, kinds := [], alts := [], laidByText := true, laidKinds := [.data, .pinned], laidTests := true, laidLooks := .later }
def FnExactReadColoursUptoCardSaid : Prop := Claim7.holds Tryd.pinned (.plain (OpenSpec.upto fnExactReadColoursSpec)) fnExactReadColoursUptoCard
end Rows
end Go.Proofs.YtifjdiiafofnpaaDoor
