/-
  DERIVED. GIVEN WITH THE SEED: THE CARDS: each row of YteeenlgoildmiaaDoorRows.lean that lists a variable, with what it lists TIED to the program's text (the seventh form; the later family's looks); each row that meets fmt, with fmt's text TOLD by the authors' own Lean function (tested against real Go, not proved from fmt's source: count such statements apart). THE CARD IS WHAT COUNTS. Prove the row's statement (the work); the ties are given (YteeenlgoildmiaaDoorTie.lean); close each card by the builder's one call (the guide's Derived/Test/ToyasCard.lean, 'card_holds'). Laid BY PROGRAM, IN A SANDBOX (cutbox-door.mjs). By AI agents, Wed Nov 11 2026. No macro, syntax, notation, axiom, sorry.
-/
import Derived.Test.YteeenlgoildmiaaDoorRows
import GoSem.ClaimSeven
namespace Go.Proofs.YteeenlgoildmiaaDoor
namespace Rows

/-- THE TIED CARD OF 'airlinelaw47.SeatsAssigns'. -/
def seatsAssignsCard : Claim7 := { stood := { row := seatsAssignsRow, standIns := [], harness := (true, "0bd0244d427fa47bad64c9095d286d2ebc018ce0a2e4dfc02d4250a2a54896b1"), looks := false }, kinds := [], alts := [], laidByText := true, laidKinds := [.data, .data, .data], laidTests := true, laidLooks := .later }
def SeatsAssignsCardSaid : Prop := Claim7.holds Tryd.pinned (.plain (OpenSpec.ofChange seatsAssignsSpec)) seatsAssignsCard

/-- THE TIED CARD OF 'airlinelaw47.SeatsChecks'. -/
def seatsChecksCard : Claim7 := { stood := { row := seatsChecksRow, standIns := [], harness := (true, "0bd0244d427fa47bad64c9095d286d2ebc018ce0a2e4dfc02d4250a2a54896b1"), looks := false }, kinds := [], alts := [], laidByText := true, laidKinds := [.data, .data, .data], laidTests := true, laidLooks := .later }
def SeatsChecksCardSaid : Prop := Claim7.holds Tryd.pinned (.plain (OpenSpec.ofChange seatsChecksSpec)) seatsChecksCard

/-- THE TIED CARD OF 'airlinelaw47.SeatsLess'. -/
def seatsLessCard : Claim7 := { stood := { row := seatsLessRow, standIns := [], harness := (true, "0bd0244d427fa47bad64c9095d286d2ebc018ce0a2e4dfc02d4250a2a54896b1"), looks := false }, kinds := [], alts := [], laidByText := true, laidKinds := [.data, .data, .data], laidTests := true, laidLooks := .later }
def SeatsLessCardSaid : Prop := Claim7.holds Tryd.pinned (.plain (OpenSpec.ofChange seatsLessSpec)) seatsLessCard

/-- THE TIED CARD OF 'airlinelaw47.SeatsMost'. -/
def seatsMostCard : Claim7 := { stood := { row := seatsMostRow, standIns := [], harness := (true, "0bd0244d427fa47bad64c9095d286d2ebc018ce0a2e4dfc02d4250a2a54896b1"), looks := false }, kinds := [], alts := [], laidByText := true, laidKinds := [.data, .data, .data], laidTests := true, laidLooks := .later }
def SeatsMostCardSaid : Prop := Claim7.holds Tryd.pinned (.plain (OpenSpec.ofChange seatsMostSpec)) seatsMostCard

/-- THE TIED CARD OF 'airlinelaw47.SeatsOrders'. -/
def seatsOrdersCard : Claim7 := { stood := { row := seatsOrdersRow, standIns := [], harness := (true, "0bd0244d427fa47bad64c9095d286d2ebc018ce0a2e4dfc02d4250a2a54896b1"), looks := false }, kinds := [], alts := [], laidByText := true, laidKinds := [.data, .data, .data], laidTests := true, laidLooks := .later }
def SeatsOrdersCardSaid : Prop := Claim7.holds Tryd.pinned (.plain (OpenSpec.ofChange seatsOrdersSpec)) seatsOrdersCard

/-- THE TIED CARD OF 'airlinelaw47.SeatsValid'. -/
def seatsValidCard : Claim7 := { stood := { row := seatsValidRow, standIns := [], harness := (true, "0bd0244d427fa47bad64c9095d286d2ebc018ce0a2e4dfc02d4250a2a54896b1"), looks := false }, kinds := [], alts := [], laidByText := true, laidKinds := [.data, .data, .data], laidTests := true, laidLooks := .later }
def SeatsValidCardSaid : Prop := Claim7.holds Tryd.pinned (.plain (OpenSpec.ofChange seatsValidSpec)) seatsValidCard

/-- THE SECOND FORM's CARD OF 'airlinelaw47.SeatsAssigns'. -/
def seatsAssignsUptoCard : Claim7 := { stood := { row := seatsAssignsUptoRow, standIns := [], harness := (true, "0bd0244d427fa47bad64c9095d286d2ebc018ce0a2e4dfc02d4250a2a54896b1"), looks := false }, kinds := [], alts := [], laidByText := true, laidKinds := [.data, .data, .data], laidTests := true, laidLooks := .later }
def SeatsAssignsUptoCardSaid : Prop := Claim7.holds Tryd.pinned (.plain (OpenSpec.upto seatsAssignsSpec)) seatsAssignsUptoCard

/-- THE SECOND FORM's CARD OF 'airlinelaw47.SeatsChecks'. -/
def seatsChecksUptoCard : Claim7 := { stood := { row := seatsChecksUptoRow, standIns := [], harness := (true, "0bd0244d427fa47bad64c9095d286d2ebc018ce0a2e4dfc02d4250a2a54896b1"), looks := false }, kinds := [], alts := [], laidByText := true, laidKinds := [.data, .data, .data], laidTests := true, laidLooks := .later }
def SeatsChecksUptoCardSaid : Prop := Claim7.holds Tryd.pinned (.plain (OpenSpec.upto seatsChecksSpec)) seatsChecksUptoCard

/-- THE SECOND FORM's CARD OF 'airlinelaw47.SeatsLess'. -/
def seatsLessUptoCard : Claim7 := { stood := { row := seatsLessUptoRow, standIns := [], harness := (true, "0bd0244d427fa47bad64c9095d286d2ebc018ce0a2e4dfc02d4250a2a54896b1"), looks := false }, kinds := [], alts := [], laidByText := true, laidKinds := [.data, .data, .data], laidTests := true, laidLooks := .later }
def SeatsLessUptoCardSaid : Prop := Claim7.holds Tryd.pinned (.plain (OpenSpec.upto seatsLessSpec)) seatsLessUptoCard

/-- THE SECOND FORM's CARD OF 'airlinelaw47.SeatsMost'. -/
def seatsMostUptoCard : Claim7 := { stood := { row := seatsMostUptoRow, standIns := [], harness := (true, "0bd0244d427fa47bad64c9095d286d2ebc018ce0a2e4dfc02d4250a2a54896b1"), looks := false }, kinds := [], alts := [], laidByText := true, laidKinds := [.data, .data, .data], laidTests := true, laidLooks := .later }
def SeatsMostUptoCardSaid : Prop := Claim7.holds Tryd.pinned (.plain (OpenSpec.upto seatsMostSpec)) seatsMostUptoCard

/-- THE SECOND FORM's CARD OF 'airlinelaw47.SeatsOrders'. -/
def seatsOrdersUptoCard : Claim7 := { stood := { row := seatsOrdersUptoRow, standIns := [], harness := (true, "0bd0244d427fa47bad64c9095d286d2ebc018ce0a2e4dfc02d4250a2a54896b1"), looks := false }, kinds := [], alts := [], laidByText := true, laidKinds := [.data, .data, .data], laidTests := true, laidLooks := .later }
def SeatsOrdersUptoCardSaid : Prop := Claim7.holds Tryd.pinned (.plain (OpenSpec.upto seatsOrdersSpec)) seatsOrdersUptoCard

/-- THE SECOND FORM's CARD OF 'airlinelaw47.SeatsValid'. -/
def seatsValidUptoCard : Claim7 := { stood := { row := seatsValidUptoRow, standIns := [], harness := (true, "0bd0244d427fa47bad64c9095d286d2ebc018ce0a2e4dfc02d4250a2a54896b1"), looks := false }, kinds := [], alts := [], laidByText := true, laidKinds := [.data, .data, .data], laidTests := true, laidLooks := .later }
def SeatsValidUptoCardSaid : Prop := Claim7.holds Tryd.pinned (.plain (OpenSpec.upto seatsValidSpec)) seatsValidUptoCard
end Rows
end Go.Proofs.YteeenlgoildmiaaDoor
