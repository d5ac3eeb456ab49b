/-
  DERIVED. GIVEN WITH THE SEED: THE CARDS: each row of YtifheakepegjcaaDoorRows.lean that lists a variable, with what it lists TIED to the program's text (the seventh form; the later family's looks); each row that meets fmt, with fmt's text TOLD by the authors' own Lean function (tested against real Go, not proved from fmt's source: count such statements apart). THE CARD IS WHAT COUNTS. Prove the row's statement (the work); the ties are given (YtifheakepegjcaaDoorTie.lean); close each card by the builder's one call (the guide's Derived/Test/ToyasCard.lean, 'card_holds'). Laid BY PROGRAM, IN A SANDBOX (cutbox-door.mjs). By AI agents, Wed Nov 11 2026. No macro, syntax, notation, axiom, sorry.
-/
import Derived.Test.YtifheakepegjcaaDoorRows
import GoSem.ClaimSeven
namespace Go.Proofs.YtifheakepegjcaaDoor
namespace Rows

/-- THE TIED CARD OF 'posthornlaw09.AddrReads'. -/
def addrReadsCard : Claim7 := { stood := { row := addrReadsRow, standIns := [], harness := (true, "950e883fc15045b8a8688b61c21cfac6a0855ef9e73ef7cbed677d6172733149"), looks := true }, kinds := [], alts := [], laidByText := true, laidKinds := [.data, .pinned], laidTests := true, laidLooks := .later }
def AddrReadsCardSaid : Prop := Claim7.holds Tryd.pinned (.plain (OpenSpec.ofChange addrReadsSpec)) addrReadsCard

/-- THE TIED CARD OF 'posthornlaw09.AddrTells'. -/
def addrTellsCard : Claim7 := { stood := { row := addrTellsRow, standIns := [], harness := (true, "950e883fc15045b8a8688b61c21cfac6a0855ef9e73ef7cbed677d6172733149"), looks := true }, kinds := [], alts := [], laidByText := true, laidKinds := [.data, .pinned], laidTests := true, laidLooks := .later }
def AddrTellsCardSaid : Prop := Claim7.holds Tryd.pinned (.plain (OpenSpec.ofChange addrTellsSpec)) addrTellsCard

/-- THE TIED CARD OF 'posthornlaw09.AddrWrites'. -/
def addrWritesCard : Claim7 := { stood := { row := addrWritesRow, standIns := [], harness := (true, "950e883fc15045b8a8688b61c21cfac6a0855ef9e73ef7cbed677d6172733149"), looks := true }, kinds := [], alts := [], laidByText := true, laidKinds := [.data, .pinned], laidTests := true, laidLooks := .later }
def AddrWritesCardSaid : Prop := Claim7.holds Tryd.pinned (.plain (OpenSpec.ofChange addrWritesSpec)) addrWritesCard

/-- THE TIED CARD OF 'posthornlaw09.AddrBack'. -/
def addrBackCard : Claim7 := { stood := { row := addrBackRow, standIns := [], harness := (true, "950e883fc15045b8a8688b61c21cfac6a0855ef9e73ef7cbed677d6172733149"), looks := true }, kinds := [], alts := [], laidByText := true, laidKinds := [.data, .pinned], laidTests := true, laidLooks := .later }
def AddrBackCardSaid : Prop := Claim7.holds Tryd.pinned (.plain (OpenSpec.ofChange addrBackSpec)) addrBackCard

/-- THE TIED CARD OF 'posthornlaw09.AddrSmall'. -/
def addrSmallCard : Claim7 := { stood := { row := addrSmallRow, standIns := [], harness := (true, "950e883fc15045b8a8688b61c21cfac6a0855ef9e73ef7cbed677d6172733149"), looks := true }, kinds := [], alts := [], laidByText := true, laidKinds := [.data, .pinned], laidTests := true, laidLooks := .later }
def AddrSmallCardSaid : Prop := Claim7.holds Tryd.pinned (.plain (OpenSpec.ofChange addrSmallSpec)) addrSmallCard

/-- THE TIED CARD OF 'posthornlaw09.AddrRoutes'. -/
def addrRoutesCard : Claim7 := { stood := { row := addrRoutesRow, standIns := [], harness := (true, "950e883fc15045b8a8688b61c21cfac6a0855ef9e73ef7cbed677d6172733149"), looks := true }, kinds := [], alts := [], laidByText := true, laidKinds := [.data, .pinned], laidTests := true, laidLooks := .later }
def AddrRoutesCardSaid : Prop := Claim7.holds Tryd.pinned (.plain (OpenSpec.ofChange addrRoutesSpec)) addrRoutesCard

/-- THE TIED CARD OF 'posthornlaw09.AddrQuotes'. -/
def addrQuotesCard : Claim7 := { stood := { row := addrQuotesRow, standIns := [], harness := (true, "950e883fc15045b8a8688b61c21cfac6a0855ef9e73ef7cbed677d6172733149"), looks := true }, kinds := [], alts := [], laidByText := true, laidKinds := [.data, .pinned], laidTests := true, laidLooks := .later }
def AddrQuotesCardSaid : Prop := Claim7.holds Tryd.pinned (.plain (OpenSpec.ofChange addrQuotesSpec)) addrQuotesCard

/-- THE SECOND FORM's CARD OF 'posthornlaw09.AddrReads'. -/
def addrReadsUptoCard : Claim7 := { stood := { row := addrReadsUptoRow, standIns := [], harness := (true, "950e883fc15045b8a8688b61c21cfac6a0855ef9e73ef7cbed677d6172733149"), looks := true }, kinds := [], alts := [], laidByText := true, laidKinds := [.data, .pinned], laidTests := true, laidLooks := .later }
def AddrReadsUptoCardSaid : Prop := Claim7.holds Tryd.pinned (.plain (OpenSpec.upto addrReadsSpec)) addrReadsUptoCard

/-- THE SECOND FORM's CARD OF 'posthornlaw09.AddrTells'. -/
def addrTellsUptoCard : Claim7 := { stood := { row := addrTellsUptoRow, standIns := [], harness := (true, "950e883fc15045b8a8688b61c21cfac6a0855ef9e73ef7cbed677d6172733149"), looks := true }, kinds := [], alts := [], laidByText := true, laidKinds := [.data, .pinned], laidTests := true, laidLooks := .later }
def AddrTellsUptoCardSaid : Prop := Claim7.holds Tryd.pinned (.plain (OpenSpec.upto addrTellsSpec)) addrTellsUptoCard

/-- THE SECOND FORM's CARD OF 'posthornlaw09.AddrWrites'. -/
def addrWritesUptoCard : Claim7 := { stood := { row := addrWritesUptoRow, standIns := [], harness := (true, "950e883fc15045b8a8688b61c21cfac6a0855ef9e73ef7cbed677d6172733149"), looks := true }, kinds := [], alts := [], laidByText := true, laidKinds := [.data, .pinned], laidTests := true, laidLooks := .later }
def AddrWritesUptoCardSaid : Prop := Claim7.holds Tryd.pinned (.plain (OpenSpec.upto addrWritesSpec)) addrWritesUptoCard

/-- THE SECOND FORM's CARD OF 'posthornlaw09.AddrBack'. -/
def addrBackUptoCard : Claim7 := { stood := { row := addrBackUptoRow, standIns := [], harness := (true, "950e883fc15045b8a8688b61c21cfac6a0855ef9e73ef7cbed677d6172733149"), looks := true }, kinds := [], alts := [], laidByText := true, laidKinds := [.data, .pinned], laidTests := true, laidLooks := .later }
def AddrBackUptoCardSaid : Prop := Claim7.holds Tryd.pinned (.plain (OpenSpec.upto addrBackSpec)) addrBackUptoCard

/-- THE SECOND FORM's CARD OF 'posthornlaw09.AddrSmall'. -/
def addrSmallUptoCard : Claim7 := { stood := { row := addrSmallUptoRow, standIns := [], harness := (true, "950e883fc15045b8a8688b61c21cfac6a0855ef9e73ef7cbed677d6172733149"), looks := true }, kinds := [], alts := [], laidByText := true, laidKinds := [.data, .pinned], laidTests := true, laidLooks := .later }
def AddrSmallUptoCardSaid : Prop := Claim7.holds Tryd.pinned (.plain (OpenSpec.upto addrSmallSpec)) addrSmallUptoCard

/-- THE SECOND FORM's CARD OF 'posthornlaw09.AddrRoutes'. -/
def addrRoutesUptoCard : Claim7 := { stood := { row := addrRoutesUptoRow, standIns := [], harness := (true, "950e883fc15045b8a8688b61c21cfac6a0855ef9e73ef7cbed677d6172733149"), looks := true }, kinds := [], alts := [], laidByText := true, laidKinds := [.data, .pinned], laidTests := true, laidLooks := .later }
def AddrRoutesUptoCardSaid : Prop := Claim7.holds Tryd.pinned (.plain (OpenSpec.upto addrRoutesSpec)) addrRoutesUptoCard

/-- THE SECOND FORM's CARD OF 'posthornlaw09.AddrQuotes'. -/
def addrQuotesUptoCard : Claim7 := { stood := { row := addrQuotesUptoRow, standIns := [], harness := (true, "950e883fc15045b8a8688b61c21cfac6a0855ef9e73ef7cbed677d6172733149"), looks := true }, kinds := [], alts := [], laidByText := true, laidKinds := [.data, .pinned], laidTests := true, laidLooks := .later }
def AddrQuotesUptoCardSaid : Prop := Claim7.holds Tryd.pinned (.plain (OpenSpec.upto addrQuotesSpec)) addrQuotesUptoCard
end Rows
end Go.Proofs.YtifheakepegjcaaDoor
