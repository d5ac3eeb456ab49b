/-
  DERIVED. GIVEN WITH THE SEED: THE CARDS: each row of YtakhgoifgpdgiaaDoorRows.lean that lists a variable, with what it lists TIED to the program's text (the seventh form; the later family's looks); each row that meets fmt, with fmt's text TOLD by the authors' own Lean function (tested against real Go, not proved from fmt's source: count such statements apart). THE CARD IS WHAT COUNTS. Prove the row's statement (the work); the ties are given (YtakhgoifgpdgiaaDoorTie.lean); close each card by the builder's one call (the guide's Derived/Test/ToyasCard.lean, 'card_holds'). Laid BY PROGRAM, IN A SANDBOX (cutbox-door.mjs). By AI agents, Wed Nov 11 2026. No macro, syntax, notation, axiom, sorry.
-/
import Derived.Test.YtakhgoifgpdgiaaDoorRows
import GoSem.ClaimSeven
namespace Go.Proofs.YtakhgoifgpdgiaaDoor
namespace Rows

/-- THE TIED CARD OF 'posthornlaw08.LineTells'. -/
def lineTellsCard : Claim7 := { stood := { row := lineTellsRow, standIns := [], harness := (true, "3b7b166b4f44fce0dd6757709cd2b9b459bff60cb4d2c23c7de25db8a07a604f"), looks := false }, kinds := [], alts := [], laidByText := true, laidKinds := [.data, .pinned], laidTests := true, laidLooks := .later }
def LineTellsCardSaid : Prop := Claim7.holds Tryd.pinned (.plain (OpenSpec.ofChange lineTellsSpec)) lineTellsCard

/-- THE TIED CARD OF 'posthornlaw08.LineReads'. -/
def lineReadsCard : Claim7 := { stood := { row := lineReadsRow, standIns := [], harness := (true, "3b7b166b4f44fce0dd6757709cd2b9b459bff60cb4d2c23c7de25db8a07a604f"), looks := false }, kinds := [], alts := [], laidByText := true, laidKinds := [.data, .pinned], laidTests := true, laidLooks := .later }
def LineReadsCardSaid : Prop := Claim7.holds Tryd.pinned (.plain (OpenSpec.ofChange lineReadsSpec)) lineReadsCard

/-- THE TIED CARD OF 'posthornlaw08.LinePieces'. -/
def linePiecesCard : Claim7 := { stood := { row := linePiecesRow, standIns := [], harness := (true, "3b7b166b4f44fce0dd6757709cd2b9b459bff60cb4d2c23c7de25db8a07a604f"), looks := false }, kinds := [], alts := [], laidByText := true, laidKinds := [.data, .pinned], laidTests := true, laidLooks := .later }
def LinePiecesCardSaid : Prop := Claim7.holds Tryd.pinned (.plain (OpenSpec.ofChange linePiecesSpec)) linePiecesCard

/-- THE TIED CARD OF 'posthornlaw08.LineBack'. -/
def lineBackCard : Claim7 := { stood := { row := lineBackRow, standIns := [], harness := (true, "3b7b166b4f44fce0dd6757709cd2b9b459bff60cb4d2c23c7de25db8a07a604f"), looks := false }, kinds := [], alts := [], laidByText := true, laidKinds := [.data, .pinned], laidTests := true, laidLooks := .later }
def LineBackCardSaid : Prop := Claim7.holds Tryd.pinned (.plain (OpenSpec.ofChange lineBackSpec)) lineBackCard

/-- THE TIED CARD OF 'posthornlaw08.LineStuffed'. -/
def lineStuffedCard : Claim7 := { stood := { row := lineStuffedRow, standIns := [], harness := (true, "3b7b166b4f44fce0dd6757709cd2b9b459bff60cb4d2c23c7de25db8a07a604f"), looks := false }, kinds := [], alts := [], laidByText := true, laidKinds := [.data, .pinned], laidTests := true, laidLooks := .later }
def LineStuffedCardSaid : Prop := Claim7.holds Tryd.pinned (.plain (OpenSpec.ofChange lineStuffedSpec)) lineStuffedCard

/-- THE TIED CARD OF 'posthornlaw08.LineDots'. -/
def lineDotsCard : Claim7 := { stood := { row := lineDotsRow, standIns := [], harness := (true, "3b7b166b4f44fce0dd6757709cd2b9b459bff60cb4d2c23c7de25db8a07a604f"), looks := false }, kinds := [], alts := [], laidByText := true, laidKinds := [.data, .pinned], laidTests := true, laidLooks := .later }
def LineDotsCardSaid : Prop := Claim7.holds Tryd.pinned (.plain (OpenSpec.ofChange lineDotsSpec)) lineDotsCard

/-- THE SECOND FORM's CARD OF 'posthornlaw08.LineTells'. -/
def lineTellsUptoCard : Claim7 := { stood := { row := lineTellsUptoRow, standIns := [], harness := (true, "3b7b166b4f44fce0dd6757709cd2b9b459bff60cb4d2c23c7de25db8a07a604f"), looks := false }, kinds := [], alts := [], laidByText := true, laidKinds := [.data, .pinned], laidTests := true, laidLooks := .later }
def LineTellsUptoCardSaid : Prop := Claim7.holds Tryd.pinned (.plain (OpenSpec.upto lineTellsSpec)) lineTellsUptoCard

/-- THE SECOND FORM's CARD OF 'posthornlaw08.LineReads'. -/
def lineReadsUptoCard : Claim7 := { stood := { row := lineReadsUptoRow, standIns := [], harness := (true, "3b7b166b4f44fce0dd6757709cd2b9b459bff60cb4d2c23c7de25db8a07a604f"), looks := false }, kinds := [], alts := [], laidByText := true, laidKinds := [.data, .pinned], laidTests := true, laidLooks := .later }
def LineReadsUptoCardSaid : Prop := Claim7.holds Tryd.pinned (.plain (OpenSpec.upto lineReadsSpec)) lineReadsUptoCard

/-- THE SECOND FORM's CARD OF 'posthornlaw08.LinePieces'. -/
def linePiecesUptoCard : Claim7 := { stood := { row := linePiecesUptoRow, standIns := [], harness := (true, "3b7b166b4f44fce0dd6757709cd2b9b459bff60cb4d2c23c7de25db8a07a604f"), looks := false }, kinds := [], alts := [], laidByText := true, laidKinds := [.data, .pinned], laidTests := true, laidLooks := .later }
def LinePiecesUptoCardSaid : Prop := Claim7.holds Tryd.pinned (.plain (OpenSpec.upto linePiecesSpec)) linePiecesUptoCard

/-- THE SECOND FORM's CARD OF 'posthornlaw08.LineBack'. -/
def lineBackUptoCard : Claim7 := { stood := { row := lineBackUptoRow, standIns := [], harness := (true, "3b7b166b4f44fce0dd6757709cd2b9b459bff60cb4d2c23c7de25db8a07a604f"), looks := false }, kinds := [], alts := [], laidByText := true, laidKinds := [.data, .pinned], laidTests := true, laidLooks := .later }
def LineBackUptoCardSaid : Prop := Claim7.holds Tryd.pinned (.plain (OpenSpec.upto lineBackSpec)) lineBackUptoCard

/-- THE SECOND FORM's CARD OF 'posthornlaw08.LineStuffed'. -/
def lineStuffedUptoCard : Claim7 := { stood := { row := lineStuffedUptoRow, standIns := [], harness := (true, "3b7b166b4f44fce0dd6757709cd2b9b459bff60cb4d2c23c7de25db8a07a604f"), looks := false }, kinds := [], alts := [], laidByText := true, laidKinds := [.data, .pinned], laidTests := true, laidLooks := .later }
def LineStuffedUptoCardSaid : Prop := Claim7.holds Tryd.pinned (.plain (OpenSpec.upto lineStuffedSpec)) lineStuffedUptoCard

/-- THE SECOND FORM's CARD OF 'posthornlaw08.LineDots'. -/
def lineDotsUptoCard : Claim7 := { stood := { row := lineDotsUptoRow, standIns := [], harness := (true, "3b7b166b4f44fce0dd6757709cd2b9b459bff60cb4d2c23c7de25db8a07a604f"), looks := false }, kinds := [], alts := [], laidByText := true, laidKinds := [.data, .pinned], laidTests := true, laidLooks := .later }
def LineDotsUptoCardSaid : Prop := Claim7.holds Tryd.pinned (.plain (OpenSpec.upto lineDotsSpec)) lineDotsUptoCard
end Rows
end Go.Proofs.YtakhgoifgpdgiaaDoor
