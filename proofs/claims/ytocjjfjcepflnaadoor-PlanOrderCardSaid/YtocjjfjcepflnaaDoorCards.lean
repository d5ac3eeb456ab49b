/-
  DERIVED. GIVEN WITH THE SEED: THE CARDS: each row of YtocjjfjcepflnaaDoorRows.lean that lists a variable, with what it lists TIED to the program's text (the seventh form; the later family's looks); each row that meets fmt, with fmt's text TOLD by the authors' own Lean function (tested against real Go, not proved from fmt's source: count such statements apart). THE CARD IS WHAT COUNTS. Prove the row's statement (the work); the ties are given (YtocjjfjcepflnaaDoorTie.lean); close each card by the builder's one call (the guide's Derived/Test/ToyasCard.lean, 'card_holds'). Laid BY PROGRAM, IN A SANDBOX (cutbox-door.mjs). By AI agents, Wed Nov 11 2026. No macro, syntax, notation, axiom, sorry.
-/
import Derived.Test.YtocjjfjcepflnaaDoorRows
import GoSem.ClaimSeven
namespace Go.Proofs.YtocjjfjcepflnaaDoor
namespace Rows

/-- THE TIED CARD OF 'posthornlaw18.PlanRoutes'. -/
def planRoutesCard : Claim7 := { stood := { row := planRoutesRow, standIns := [], harness := (true, "ae0614ee08668fbd773e9daa93d655ba5196be74361585729710c5f6a4e46e5b"), looks := false }, kinds := [], alts := [], laidByText := true, laidKinds := [.data, .pinned], laidTests := true, laidLooks := .later }
def PlanRoutesCardSaid : Prop := Claim7.holds Tryd.pinned (.plain (OpenSpec.ofChange planRoutesSpec)) planRoutesCard

/-- THE TIED CARD OF 'posthornlaw18.PlanTimes'. -/
def planTimesCard : Claim7 := { stood := { row := planTimesRow, standIns := [], harness := (true, "ae0614ee08668fbd773e9daa93d655ba5196be74361585729710c5f6a4e46e5b"), looks := false }, kinds := [], alts := [], laidByText := true, laidKinds := [.data, .pinned], laidTests := true, laidLooks := .later }
def PlanTimesCardSaid : Prop := Claim7.holds Tryd.pinned (.plain (OpenSpec.ofChange planTimesSpec)) planTimesCard

/-- THE TIED CARD OF 'posthornlaw18.PlanDue'. -/
def planDueCard : Claim7 := { stood := { row := planDueRow, standIns := [], harness := (true, "ae0614ee08668fbd773e9daa93d655ba5196be74361585729710c5f6a4e46e5b"), looks := false }, kinds := [], alts := [], laidByText := true, laidKinds := [.data, .pinned], laidTests := true, laidLooks := .later }
def PlanDueCardSaid : Prop := Claim7.holds Tryd.pinned (.plain (OpenSpec.ofChange planDueSpec)) planDueCard

/-- THE TIED CARD OF 'posthornlaw18.PlanNear'. -/
def planNearCard : Claim7 := { stood := { row := planNearRow, standIns := [], harness := (true, "ae0614ee08668fbd773e9daa93d655ba5196be74361585729710c5f6a4e46e5b"), looks := false }, kinds := [], alts := [], laidByText := true, laidKinds := [.data, .pinned], laidTests := true, laidLooks := .later }
def PlanNearCardSaid : Prop := Claim7.holds Tryd.pinned (.plain (OpenSpec.ofChange planNearSpec)) planNearCard

/-- THE TIED CARD OF 'posthornlaw18.PlanEnds'. -/
def planEndsCard : Claim7 := { stood := { row := planEndsRow, standIns := [], harness := (true, "ae0614ee08668fbd773e9daa93d655ba5196be74361585729710c5f6a4e46e5b"), looks := false }, kinds := [], alts := [], laidByText := true, laidKinds := [.data, .pinned], laidTests := true, laidLooks := .later }
def PlanEndsCardSaid : Prop := Claim7.holds Tryd.pinned (.plain (OpenSpec.ofChange planEndsSpec)) planEndsCard

/-- THE TIED CARD OF 'posthornlaw18.PlanOrder'. -/
def planOrderCard : Claim7 := { stood := { row := planOrderRow, standIns := [], harness := (true, "ae0614ee08668fbd773e9daa93d655ba5196be74361585729710c5f6a4e46e5b"), looks := false }, kinds := [], alts := [], laidByText := true, laidKinds := [.data, .pinned], laidTests := true, laidLooks := .later }
def PlanOrderCardSaid : Prop := Claim7.holds Tryd.pinned (.plain (OpenSpec.ofChange planOrderSpec)) planOrderCard

/-- THE TIED CARD OF 'posthornlaw18.PlanLetters'. -/
def planLettersCard : Claim7 := { stood := { row := planLettersRow, standIns := [], harness := (true, "ae0614ee08668fbd773e9daa93d655ba5196be74361585729710c5f6a4e46e5b"), looks := false }, kinds := [], alts := [], laidByText := true, laidKinds := [.data, .pinned], laidTests := true, laidLooks := .later }
def PlanLettersCardSaid : Prop := Claim7.holds Tryd.pinned (.plain (OpenSpec.ofChange planLettersSpec)) planLettersCard

/-- THE SECOND FORM's CARD OF 'posthornlaw18.PlanRoutes'. -/
def planRoutesUptoCard : Claim7 := { stood := { row := planRoutesUptoRow, standIns := [], harness := (true, "ae0614ee08668fbd773e9daa93d655ba5196be74361585729710c5f6a4e46e5b"), looks := false }, kinds := [], alts := [], laidByText := true, laidKinds := [.data, .pinned], laidTests := true, laidLooks := .later }
def PlanRoutesUptoCardSaid : Prop := Claim7.holds Tryd.pinned (.plain (OpenSpec.upto planRoutesSpec)) planRoutesUptoCard

/-- THE SECOND FORM's CARD OF 'posthornlaw18.PlanTimes'. -/
def planTimesUptoCard : Claim7 := { stood := { row := planTimesUptoRow, standIns := [], harness := (true, "ae0614ee08668fbd773e9daa93d655ba5196be74361585729710c5f6a4e46e5b"), looks := false }, kinds := [], alts := [], laidByText := true, laidKinds := [.data, .pinned], laidTests := true, laidLooks := .later }
def PlanTimesUptoCardSaid : Prop := Claim7.holds Tryd.pinned (.plain (OpenSpec.upto planTimesSpec)) planTimesUptoCard

/-- THE SECOND FORM's CARD OF 'posthornlaw18.PlanDue'. -/
def planDueUptoCard : Claim7 := { stood := { row := planDueUptoRow, standIns := [], harness := (true, "ae0614ee08668fbd773e9daa93d655ba5196be74361585729710c5f6a4e46e5b"), looks := false }, kinds := [], alts := [], laidByText := true, laidKinds := [.data, .pinned], laidTests := true, laidLooks := .later }
def PlanDueUptoCardSaid : Prop := Claim7.holds Tryd.pinned (.plain (OpenSpec.upto planDueSpec)) planDueUptoCard

/-- THE SECOND FORM's CARD OF 'posthornlaw18.PlanNear'. -/
def planNearUptoCard : Claim7 := { stood := { row := planNearUptoRow, standIns := [], harness := (true, "ae0614ee08668fbd773e9daa93d655ba5196be74361585729710c5f6a4e46e5b"), looks := false }, kinds := [], alts := [], laidByText := true, laidKinds := [.data, .pinned], laidTests := true, laidLooks := .later }
def PlanNearUptoCardSaid : Prop := Claim7.holds Tryd.pinned (.plain (OpenSpec.upto planNearSpec)) planNearUptoCard

/-- THE SECOND FORM's CARD OF 'posthornlaw18.PlanEnds'. -/
def planEndsUptoCard : Claim7 := { stood := { row := planEndsUptoRow, standIns := [], harness := (true, "ae0614ee08668fbd773e9daa93d655ba5196be74361585729710c5f6a4e46e5b"), looks := false }, kinds := [], alts := [], laidByText := true, laidKinds := [.data, .pinned], laidTests := true, laidLooks := .later }
def PlanEndsUptoCardSaid : Prop := Claim7.holds Tryd.pinned (.plain (OpenSpec.upto planEndsSpec)) planEndsUptoCard

/-- THE SECOND FORM's CARD OF 'posthornlaw18.PlanOrder'. -/
def planOrderUptoCard : Claim7 := { stood := { row := planOrderUptoRow, standIns := [], harness := (true, "ae0614ee08668fbd773e9daa93d655ba5196be74361585729710c5f6a4e46e5b"), looks := false }, kinds := [], alts := [], laidByText := true, laidKinds := [.data, .pinned], laidTests := true, laidLooks := .later }
def PlanOrderUptoCardSaid : Prop := Claim7.holds Tryd.pinned (.plain (OpenSpec.upto planOrderSpec)) planOrderUptoCard

/-- THE SECOND FORM's CARD OF 'posthornlaw18.PlanLetters'. -/
def planLettersUptoCard : Claim7 := { stood := { row := planLettersUptoRow, standIns := [], harness := (true, "ae0614ee08668fbd773e9daa93d655ba5196be74361585729710c5f6a4e46e5b"), looks := false }, kinds := [], alts := [], laidByText := true, laidKinds := [.data, .pinned], laidTests := true, laidLooks := .later }
def PlanLettersUptoCardSaid : Prop := Claim7.holds Tryd.pinned (.plain (OpenSpec.upto planLettersSpec)) planLettersUptoCard
end Rows
end Go.Proofs.YtocjjfjcepflnaaDoor
