/-
  DERIVED. GIVEN WITH THE SEED: THE CARDS: each row of YteeenlgoildmiabDoorRows.lean that lists a variable, with what it lists TIED to the program's text (the seventh form; the later family's looks); each row that meets fmt, with fmt's text TOLD by the authors' own Lean function (tested against real Go, not proved from fmt's source: count such statements apart). THE CARD IS WHAT COUNTS. Prove the row's statement (the work); the ties are given (YteeenlgoildmiabDoorTie.lean); close each card by the builder's one call (the guide's Derived/Test/ToyasCard.lean, 'card_holds'). Laid BY PROGRAM, IN A SANDBOX (cutbox-door.mjs). By AI agents, Wed Nov 11 2026. No macro, syntax, notation, axiom, sorry.
-/
import Derived.Test.YteeenlgoildmiabDoorRows
import GoSem.ClaimSeven
namespace Go.Proofs.YteeenlgoildmiabDoor
namespace Rows

/-- THE TIED CARD OF 'airlinelaw48.CheckinBags'. -/
def checkinBagsCard : Claim7 := { stood := { row := checkinBagsRow, standIns := [], harness := (true, "7c5efd1403266df4da38624d5edd6c591e83402b7452c0a75fcff1741fd08597"), looks := false }, kinds := [], alts := [], laidByText := true, laidKinds := [.data, .data, .data], laidTests := true, laidLooks := .later }
def CheckinBagsCardSaid : Prop := Claim7.holds Tryd.pinned (.plain (OpenSpec.ofChange checkinBagsSpec)) checkinBagsCard

/-- THE TIED CARD OF 'airlinelaw48.CheckinOrders'. -/
def checkinOrdersCard : Claim7 := { stood := { row := checkinOrdersRow, standIns := [], harness := (true, "7c5efd1403266df4da38624d5edd6c591e83402b7452c0a75fcff1741fd08597"), looks := false }, kinds := [], alts := [], laidByText := true, laidKinds := [.data, .data, .data], laidTests := true, laidLooks := .later }
def CheckinOrdersCardSaid : Prop := Claim7.holds Tryd.pinned (.plain (OpenSpec.ofChange checkinOrdersSpec)) checkinOrdersCard

/-- THE TIED CARD OF 'airlinelaw48.CheckinRanks'. -/
def checkinRanksCard : Claim7 := { stood := { row := checkinRanksRow, standIns := [], harness := (true, "7c5efd1403266df4da38624d5edd6c591e83402b7452c0a75fcff1741fd08597"), looks := false }, kinds := [], alts := [], laidByText := true, laidKinds := [.data, .data, .data], laidTests := true, laidLooks := .later }
def CheckinRanksCardSaid : Prop := Claim7.holds Tryd.pinned (.plain (OpenSpec.ofChange checkinRanksSpec)) checkinRanksCard

/-- THE TIED CARD OF 'airlinelaw48.CheckinTags'. -/
def checkinTagsCard : Claim7 := { stood := { row := checkinTagsRow, standIns := [], harness := (true, "7c5efd1403266df4da38624d5edd6c591e83402b7452c0a75fcff1741fd08597"), looks := false }, kinds := [], alts := [], laidByText := true, laidKinds := [.data, .data, .data], laidTests := true, laidLooks := .later }
def CheckinTagsCardSaid : Prop := Claim7.holds Tryd.pinned (.plain (OpenSpec.ofChange checkinTagsSpec)) checkinTagsCard

/-- THE TIED CARD OF 'airlinelaw48.CheckinWeights'. -/
def checkinWeightsCard : Claim7 := { stood := { row := checkinWeightsRow, standIns := [], harness := (true, "7c5efd1403266df4da38624d5edd6c591e83402b7452c0a75fcff1741fd08597"), looks := false }, kinds := [], alts := [], laidByText := true, laidKinds := [.data, .data, .data], laidTests := true, laidLooks := .later }
def CheckinWeightsCardSaid : Prop := Claim7.holds Tryd.pinned (.plain (OpenSpec.ofChange checkinWeightsSpec)) checkinWeightsCard

/-- THE SECOND FORM's CARD OF 'airlinelaw48.CheckinBags'. -/
def checkinBagsUptoCard : Claim7 := { stood := { row := checkinBagsUptoRow, standIns := [], harness := (true, "7c5efd1403266df4da38624d5edd6c591e83402b7452c0a75fcff1741fd08597"), looks := false }, kinds := [], alts := [], laidByText := true, laidKinds := [.data, .data, .data], laidTests := true, laidLooks := .later }
def CheckinBagsUptoCardSaid : Prop := Claim7.holds Tryd.pinned (.plain (OpenSpec.upto checkinBagsSpec)) checkinBagsUptoCard

/-- THE SECOND FORM's CARD OF 'airlinelaw48.CheckinOrders'. -/
def checkinOrdersUptoCard : Claim7 := { stood := { row := checkinOrdersUptoRow, standIns := [], harness := (true, "7c5efd1403266df4da38624d5edd6c591e83402b7452c0a75fcff1741fd08597"), looks := false }, kinds := [], alts := [], laidByText := true, laidKinds := [.data, .data, .data], laidTests := true, laidLooks := .later }
def CheckinOrdersUptoCardSaid : Prop := Claim7.holds Tryd.pinned (.plain (OpenSpec.upto checkinOrdersSpec)) checkinOrdersUptoCard

/-- THE SECOND FORM's CARD OF 'airlinelaw48.CheckinRanks'. -/
def checkinRanksUptoCard : Claim7 := { stood := { row := checkinRanksUptoRow, standIns := [], harness := (true, "7c5efd1403266df4da38624d5edd6c591e83402b7452c0a75fcff1741fd08597"), looks := false }, kinds := [], alts := [], laidByText := true, laidKinds := [.data, .data, .data], laidTests := true, laidLooks := .later }
def CheckinRanksUptoCardSaid : Prop := Claim7.holds Tryd.pinned (.plain (OpenSpec.upto checkinRanksSpec)) checkinRanksUptoCard

/-- THE SECOND FORM's CARD OF 'airlinelaw48.CheckinTags'. -/
def checkinTagsUptoCard : Claim7 := { stood := { row := checkinTagsUptoRow, standIns := [], harness := (true, "7c5efd1403266df4da38624d5edd6c591e83402b7452c0a75fcff1741fd08597"), looks := false }, kinds := [], alts := [], laidByText := true, laidKinds := [.data, .data, .data], laidTests := true, laidLooks := .later }
def CheckinTagsUptoCardSaid : Prop := Claim7.holds Tryd.pinned (.plain (OpenSpec.upto checkinTagsSpec)) checkinTagsUptoCard

/-- THE SECOND FORM's CARD OF 'airlinelaw48.CheckinWeights'. -/
def checkinWeightsUptoCard : Claim7 := { stood := { row := checkinWeightsUptoRow, standIns := [], harness := (true, "7c5efd1403266df4da38624d5edd6c591e83402b7452c0a75fcff1741fd08597"), looks := false }, kinds := [], alts := [], laidByText := true, laidKinds := [.data, .data, .data], laidTests := true, laidLooks := .later }
def CheckinWeightsUptoCardSaid : Prop := Claim7.holds Tryd.pinned (.plain (OpenSpec.upto checkinWeightsSpec)) checkinWeightsUptoCard
end Rows
end Go.Proofs.YteeenlgoildmiabDoor
