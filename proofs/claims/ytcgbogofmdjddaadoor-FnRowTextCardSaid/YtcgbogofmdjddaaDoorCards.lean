/-
  DERIVED. GIVEN WITH THE SEED: THE CARDS: each row of YtcgbogofmdjddaaDoorRows.lean that lists a variable, with what it lists TIED to the program's text (the seventh form; the later family's looks); each row that meets fmt, with fmt's text TOLD by the authors' own Lean function (tested against real Go, not proved from fmt's source: count such statements apart). THE CARD IS WHAT COUNTS. Prove the row's statement (the work); the ties are given (YtcgbogofmdjddaaDoorTie.lean); close each card by the builder's one call (the guide's Derived/Test/ToyasCard.lean, 'card_holds'). Laid BY PROGRAM, IN A SANDBOX (cutbox-door.mjs). By AI agents, Wed Nov 11 2026. No macro, syntax, notation, axiom, sorry.
-/
import Derived.Test.YtcgbogofmdjddaaDoorRows
import GoSem.ClaimSeven
namespace Go.Proofs.YtcgbogofmdjddaaDoor
namespace Rows

/-- THE TIED CARD OF 'laws.FnExactReadColours'. -/
def fnExactReadColoursCard : Claim7 := { stood := { row := fnExactReadColoursRow, standIns := [], harness := (true, "5c9fe0693684e96c811a2cb4267b6dc6ef0ed036af74d065bf56d13eec5b92c1"), looks := false }, kinds := [], alts := [], laidByText := true, laidKinds := [.data, .pinned], laidTests := true, laidLooks := .later }
def FnExactReadColoursCardSaid : Prop := Claim7.holds Tryd.pinned (.plain (OpenSpec.ofChange fnExactReadColoursSpec)) fnExactReadColoursCard

/-- THE TIED CARD OF 'laws.FnExactReadPieces'. -/
def fnExactReadPiecesCard : Claim7 := { stood := { row := fnExactReadPiecesRow, standIns := [], harness := (true, "5c9fe0693684e96c811a2cb4267b6dc6ef0ed036af74d065bf56d13eec5b92c1"), looks := false }, kinds := [], alts := [], laidByText := true, laidKinds := [.data, .data, .data], laidTests := true, laidLooks := .later }
def FnExactReadPiecesCardSaid : Prop := Claim7.holds Tryd.pinned (.plain (OpenSpec.ofChange fnExactReadPiecesSpec)) fnExactReadPiecesCard

/-- THE TIED CARD OF 'laws.FnExactShortRow'. -/
def fnExactShortRowCard : Claim7 := { stood := { row := fnExactShortRowRow, standIns := [], harness := (true, "5c9fe0693684e96c811a2cb4267b6dc6ef0ed036af74d065bf56d13eec5b92c1"), looks := false }, kinds := [], alts := [], laidByText := true, laidKinds := [.data, .data, .data], laidTests := true, laidLooks := .later }
def FnExactShortRowCardSaid : Prop := Claim7.holds Tryd.pinned (.plain (OpenSpec.ofChange fnExactShortRowSpec)) fnExactShortRowCard

/-- THE TIED CARD OF 'laws.FnRowText'. -/
def fnRowTextCard : Claim7 := { stood := { row := fnRowTextRow, standIns := [], harness := (true, "5c9fe0693684e96c811a2cb4267b6dc6ef0ed036af74d065bf56d13eec5b92c1"), looks := false }, kinds := [], alts := [], laidByText := true, laidKinds := [.data, .data, .data], laidTests := true, laidLooks := .later }
def FnRowTextCardSaid : Prop := Claim7.holds Tryd.pinned (.plain (OpenSpec.ofChange fnRowTextSpec)) fnRowTextCard

/-- THE TIED CARD OF 'laws.FnExactExpandRow'. -/
def fnExactExpandRowCard : Claim7 := { stood := { row := fnExactExpandRowRow, standIns := [], harness := (true, "5c9fe0693684e96c811a2cb4267b6dc6ef0ed036af74d065bf56d13eec5b92c1"), looks := false }, kinds := [], alts := [], laidByText := true, laidKinds := [.data, .data, .data], laidTests := true, laidLooks := .later }
def FnExactExpandRowCardSaid : Prop := Claim7.holds Tryd.pinned (.plain (OpenSpec.ofChange fnExactExpandRowSpec)) fnExactExpandRowCard

/-- THE TIED CARD OF 'laws.FnExpand'. -/
def fnExpandCard : Claim7 := { stood := { row := fnExpandRow, standIns := [], harness := (true, "5c9fe0693684e96c811a2cb4267b6dc6ef0ed036af74d065bf56d13eec5b92c1"), looks := false }, kinds := [], alts := [], laidByText := true, laidKinds := [.data, .data, .data], laidTests := true, laidLooks := .later }
def FnExpandCardSaid : Prop := Claim7.holds Tryd.pinned (.plain (OpenSpec.ofChange fnExpandSpec)) fnExpandCard

/-- THE SECOND FORM's CARD OF 'laws.FnExactReadColours'. -/
def fnExactReadColoursUptoCard : Claim7 := { stood := { row := fnExactReadColoursUptoRow, standIns := [], harness := (true, "5c9fe0693684e96c811a2cb4267b6dc6ef0ed036af74d065bf56d13eec5b92c1"), looks := false }, kinds := [], alts := [], laidByText := true, laidKinds := [.data, .pinned], laidTests := true, laidLooks := .later }
def FnExactReadColoursUptoCardSaid : Prop := Claim7.holds Tryd.pinned (.plain (OpenSpec.upto fnExactReadColoursSpec)) fnExactReadColoursUptoCard

/-- THE SECOND FORM's CARD OF 'laws.FnExactReadPieces'. -/
def fnExactReadPiecesUptoCard : Claim7 := { stood := { row := fnExactReadPiecesUptoRow, standIns := [], harness := (true, "5c9fe0693684e96c811a2cb4267b6dc6ef0ed036af74d065bf56d13eec5b92c1"), looks := false }, kinds := [], alts := [], laidByText := true, laidKinds := [.data, .data, .data], laidTests := true, laidLooks := .later }
def FnExactReadPiecesUptoCardSaid : Prop := Claim7.holds Tryd.pinned (.plain (OpenSpec.upto fnExactReadPiecesSpec)) fnExactReadPiecesUptoCard

/-- THE SECOND FORM's CARD OF 'laws.FnExactShortRow'. -/
def fnExactShortRowUptoCard : Claim7 := { stood := { row := fnExactShortRowUptoRow, standIns := [], harness := (true, "5c9fe0693684e96c811a2cb4267b6dc6ef0ed036af74d065bf56d13eec5b92c1"), looks := false }, kinds := [], alts := [], laidByText := true, laidKinds := [.data, .data, .data], laidTests := true, laidLooks := .later }
def FnExactShortRowUptoCardSaid : Prop := Claim7.holds Tryd.pinned (.plain (OpenSpec.upto fnExactShortRowSpec)) fnExactShortRowUptoCard

/-- THE SECOND FORM's CARD OF 'laws.FnRowText'. -/
def fnRowTextUptoCard : Claim7 := { stood := { row := fnRowTextUptoRow, standIns := [], harness := (true, "5c9fe0693684e96c811a2cb4267b6dc6ef0ed036af74d065bf56d13eec5b92c1"), looks := false }, kinds := [], alts := [], laidByText := true, laidKinds := [.data, .data, .data], laidTests := true, laidLooks := .later }
def FnRowTextUptoCardSaid : Prop := Claim7.holds Tryd.pinned (.plain (OpenSpec.upto fnRowTextSpec)) fnRowTextUptoCard

/-- THE SECOND FORM's CARD OF 'laws.FnExactExpandRow'. -/
def fnExactExpandRowUptoCard : Claim7 := { stood := { row := fnExactExpandRowUptoRow, standIns := [], harness := (true, "5c9fe0693684e96c811a2cb4267b6dc6ef0ed036af74d065bf56d13eec5b92c1"), looks := false }, kinds := [], alts := [], laidByText := true, laidKinds := [.data, .data, .data], laidTests := true, laidLooks := .later }
def FnExactExpandRowUptoCardSaid : Prop := Claim7.holds Tryd.pinned (.plain (OpenSpec.upto fnExactExpandRowSpec)) fnExactExpandRowUptoCard

/-- THE SECOND FORM's CARD OF 'laws.FnExpand'. -/
def fnExpandUptoCard : Claim7 := { stood := { row := fnExpandUptoRow, standIns := [], harness := (true, "5c9fe0693684e96c811a2cb4267b6dc6ef0ed036af74d065bf56d13eec5b92c1"), looks := false }, kinds := [], alts := [], laidByText := true, laidKinds := [.data, .data, .data], laidTests := true, laidLooks := .later }
def FnExpandUptoCardSaid : Prop := Claim7.holds Tryd.pinned (.plain (OpenSpec.upto fnExpandSpec)) fnExpandUptoCard
end Rows
end Go.Proofs.YtcgbogofmdjddaaDoor
