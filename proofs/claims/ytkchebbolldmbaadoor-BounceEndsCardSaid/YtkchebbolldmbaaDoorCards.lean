/-
  DERIVED. GIVEN WITH THE SEED: THE CARDS: each row of YtkchebbolldmbaaDoorRows.lean that lists a variable, with what it lists TIED to the program's text (the seventh form; the later family's looks); each row that meets fmt, with fmt's text TOLD by the authors' own Lean function (tested against real Go, not proved from fmt's source: count such statements apart). THE CARD IS WHAT COUNTS. Prove the row's statement (the work); the ties are given (YtkchebbolldmbaaDoorTie.lean); close each card by the builder's one call (the guide's Derived/Test/ToyasCard.lean, 'card_holds'). Laid BY PROGRAM, IN A SANDBOX (cutbox-door.mjs). By AI agents, Wed Nov 11 2026. No macro, syntax, notation, axiom, sorry.
-/
import Derived.Test.YtkchebbolldmbaaDoorRows
import GoSem.ClaimSeven
namespace Go.Proofs.YtkchebbolldmbaaDoor
namespace Rows

/-- THE TIED CARD OF 'posthornlaw20.BounceTells'. -/
def bounceTellsCard : Claim7 := { stood := { row := bounceTellsRow, standIns := [], harness := (true, "e309011fb4df293730cad825cda9f527d698a2913e16649150d38f66f0b77a73"), looks := true }, kinds := [], alts := [], laidByText := true, laidKinds := [.data, .data, .data, .data, .pinned], laidTests := true, laidLooks := .later }
def BounceTellsCardSaid : Prop := Claim7.holds Tryd.pinned (.plain (OpenSpec.ofChange bounceTellsSpec)) bounceTellsCard

/-- THE TIED CARD OF 'posthornlaw20.BounceEnds'. -/
def bounceEndsCard : Claim7 := { stood := { row := bounceEndsRow, standIns := [], harness := (true, "e309011fb4df293730cad825cda9f527d698a2913e16649150d38f66f0b77a73"), looks := true }, kinds := [], alts := [], laidByText := true, laidKinds := [.data, .data, .data, .data, .pinned], laidTests := true, laidLooks := .later }
def BounceEndsCardSaid : Prop := Claim7.holds Tryd.pinned (.plain (OpenSpec.ofChange bounceEndsSpec)) bounceEndsCard

/-- THE TIED CARD OF 'posthornlaw20.BounceStamps'. -/
def bounceStampsCard : Claim7 := { stood := { row := bounceStampsRow, standIns := [], harness := (true, "e309011fb4df293730cad825cda9f527d698a2913e16649150d38f66f0b77a73"), looks := true }, kinds := [], alts := [], laidByText := true, laidKinds := [.data, .data, .data, .data, .pinned], laidTests := true, laidLooks := .later }
def BounceStampsCardSaid : Prop := Claim7.holds Tryd.pinned (.plain (OpenSpec.ofChange bounceStampsSpec)) bounceStampsCard

/-- THE TIED CARD OF 'posthornlaw20.BounceBody'. -/
def bounceBodyCard : Claim7 := { stood := { row := bounceBodyRow, standIns := [], harness := (true, "e309011fb4df293730cad825cda9f527d698a2913e16649150d38f66f0b77a73"), looks := true }, kinds := [], alts := [], laidByText := true, laidKinds := [.data, .data, .data, .data, .pinned], laidTests := true, laidLooks := .later }
def BounceBodyCardSaid : Prop := Claim7.holds Tryd.pinned (.plain (OpenSpec.ofChange bounceBodySpec)) bounceBodyCard

/-- THE SECOND FORM's CARD OF 'posthornlaw20.BounceTells'. -/
def bounceTellsUptoCard : Claim7 := { stood := { row := bounceTellsUptoRow, standIns := [], harness := (true, "e309011fb4df293730cad825cda9f527d698a2913e16649150d38f66f0b77a73"), looks := true }, kinds := [], alts := [], laidByText := true, laidKinds := [.data, .data, .data, .data, .pinned], laidTests := true, laidLooks := .later }
def BounceTellsUptoCardSaid : Prop := Claim7.holds Tryd.pinned (.plain (OpenSpec.upto bounceTellsSpec)) bounceTellsUptoCard

/-- THE SECOND FORM's CARD OF 'posthornlaw20.BounceEnds'. -/
def bounceEndsUptoCard : Claim7 := { stood := { row := bounceEndsUptoRow, standIns := [], harness := (true, "e309011fb4df293730cad825cda9f527d698a2913e16649150d38f66f0b77a73"), looks := true }, kinds := [], alts := [], laidByText := true, laidKinds := [.data, .data, .data, .data, .pinned], laidTests := true, laidLooks := .later }
def BounceEndsUptoCardSaid : Prop := Claim7.holds Tryd.pinned (.plain (OpenSpec.upto bounceEndsSpec)) bounceEndsUptoCard

/-- THE SECOND FORM's CARD OF 'posthornlaw20.BounceStamps'. -/
def bounceStampsUptoCard : Claim7 := { stood := { row := bounceStampsUptoRow, standIns := [], harness := (true, "e309011fb4df293730cad825cda9f527d698a2913e16649150d38f66f0b77a73"), looks := true }, kinds := [], alts := [], laidByText := true, laidKinds := [.data, .data, .data, .data, .pinned], laidTests := true, laidLooks := .later }
def BounceStampsUptoCardSaid : Prop := Claim7.holds Tryd.pinned (.plain (OpenSpec.upto bounceStampsSpec)) bounceStampsUptoCard

/-- THE SECOND FORM's CARD OF 'posthornlaw20.BounceBody'. -/
def bounceBodyUptoCard : Claim7 := { stood := { row := bounceBodyUptoRow, standIns := [], harness := (true, "e309011fb4df293730cad825cda9f527d698a2913e16649150d38f66f0b77a73"), looks := true }, kinds := [], alts := [], laidByText := true, laidKinds := [.data, .data, .data, .data, .pinned], laidTests := true, laidLooks := .later }
def BounceBodyUptoCardSaid : Prop := Claim7.holds Tryd.pinned (.plain (OpenSpec.upto bounceBodySpec)) bounceBodyUptoCard
end Rows
end Go.Proofs.YtkchebbolldmbaaDoor
