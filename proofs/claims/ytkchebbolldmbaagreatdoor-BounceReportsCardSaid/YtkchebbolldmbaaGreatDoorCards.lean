/-
  DERIVED. GIVEN WITH THE SEED: THE CARDS: each row of YtkchebbolldmbaaGreatDoorRows.lean that lists a variable, with what it lists TIED to the program's text (the seventh form; the later family's looks); each row that meets fmt, with fmt's text TOLD by the authors' own Lean function (tested against real Go, not proved from fmt's source: count such statements apart). THE CARD IS WHAT COUNTS. Prove the row's statement (the work); the ties are given (YtkchebbolldmbaaGreatDoorTie.lean); close each card by the builder's one call (the guide's Derived/Test/ToyasCard.lean, 'card_holds'). Laid BY PROGRAM, IN A SANDBOX (cutbox-door.mjs). By AI agents, Wed Nov 11 2026. No macro, syntax, notation, axiom, sorry.
-/
import Derived.Test.YtkchebbolldmbaaGreatDoorRows
import GoSem.ClaimSeven
namespace Go.Proofs.YtkchebbolldmbaaGreatDoor
namespace Rows

/-- THE TIED CARD OF 'posthornlaw20.BounceHops'. -/
def bounceHopsCard : Claim7 := { stood := { row := bounceHopsRow, standIns := [], harness := (true, "c6f4bc78ac88bcf50f5c5c649a421876606e98f5947e2255e4eee7f6f4465c30"), looks := true }, kinds := [], alts := [], laidByText := true, laidKinds := [.data, .data, .data, .data, .pinned], laidTests := true, laidLooks := .later }
def BounceHopsCardSaid : Prop := Claim7.holds Tryz.pinned (.plain (OpenSpec.ofChange bounceHopsSpec)) bounceHopsCard

/-- THE TIED CARD OF 'posthornlaw20.BounceReports'. -/
def bounceReportsCard : Claim7 := { stood := { row := bounceReportsRow, standIns := [], harness := (true, "c6f4bc78ac88bcf50f5c5c649a421876606e98f5947e2255e4eee7f6f4465c30"), looks := true }, kinds := [], alts := [], laidByText := true, laidKinds := [.data, .data, .data, .data, .pinned], laidTests := true, laidLooks := .later }
def BounceReportsCardSaid : Prop := Claim7.holds Tryz.pinned (.plain (OpenSpec.ofChange bounceReportsSpec)) bounceReportsCard

/-- THE SECOND FORM's CARD OF 'posthornlaw20.BounceHops'. -/
def bounceHopsUptoCard : Claim7 := { stood := { row := bounceHopsUptoRow, standIns := [], harness := (true, "c6f4bc78ac88bcf50f5c5c649a421876606e98f5947e2255e4eee7f6f4465c30"), looks := true }, kinds := [], alts := [], laidByText := true, laidKinds := [.data, .data, .data, .data, .pinned], laidTests := true, laidLooks := .later }
def BounceHopsUptoCardSaid : Prop := Claim7.holds Tryz.pinned (.plain (OpenSpec.upto bounceHopsSpec)) bounceHopsUptoCard

/-- THE SECOND FORM's CARD OF 'posthornlaw20.BounceReports'. -/
def bounceReportsUptoCard : Claim7 := { stood := { row := bounceReportsUptoRow, standIns := [], harness := (true, "c6f4bc78ac88bcf50f5c5c649a421876606e98f5947e2255e4eee7f6f4465c30"), looks := true }, kinds := [], alts := [], laidByText := true, laidKinds := [.data, .data, .data, .data, .pinned], laidTests := true, laidLooks := .later }
def BounceReportsUptoCardSaid : Prop := Claim7.holds Tryz.pinned (.plain (OpenSpec.upto bounceReportsSpec)) bounceReportsUptoCard
end Rows
end Go.Proofs.YtkchebbolldmbaaGreatDoor
