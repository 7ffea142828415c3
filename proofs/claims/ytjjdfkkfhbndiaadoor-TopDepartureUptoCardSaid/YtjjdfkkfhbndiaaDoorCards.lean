/-
  DERIVED. GIVEN WITH THE SEED: THE CARDS: each row of YtjjdfkkfhbndiaaDoorRows.lean that lists a variable, with what it lists TIED to the program's text (the seventh form; the later family's looks); each row that meets fmt, with fmt's text TOLD by the authors' own Lean function (tested against real Go, not proved from fmt's source: count such statements apart). THE CARD IS WHAT COUNTS. Prove the row's statement (the work); the ties are given (YtjjdfkkfhbndiaaDoorTie.lean); close each card by the builder's one call (the guide's Derived/Test/ToyasCard.lean, 'card_holds'). Laid BY PROGRAM, IN A SANDBOX (cutbox-door.mjs). By AI agents, Wed Nov 11 2026. No macro, syntax, notation, axiom, sorry.
-/
import Derived.Test.YtjjdfkkfhbndiaaDoorRows
import GoSem.ClaimSeven
namespace Go.Proofs.YtjjdfkkfhbndiaaDoor
namespace Rows

/-- THE TIED CARD OF 'airlinetop.TopDeparture'. -/
def topDepartureCard : Claim7 := { stood := { row := topDepartureRow, standIns := [], harness := (true, "259d01ea392472eca52ac088dfe49d967f2782bea62a9da5e7a4e434846fdfbb"), looks := false }, kinds := [], alts := [], laidByText := true, laidKinds := [.data, .data, .data, .data], laidTests := true, laidLooks := .later }
def TopDepartureCardSaid : Prop := Claim7.holds Tryd.pinned (.plain (OpenSpec.ofChange topDepartureSpec)) topDepartureCard

/-- THE SECOND FORM's CARD OF 'airlinetop.TopDeparture'. -/
def topDepartureUptoCard : Claim7 := { stood := { row := topDepartureUptoRow, standIns := [], harness := (true, "259d01ea392472eca52ac088dfe49d967f2782bea62a9da5e7a4e434846fdfbb"), looks := false }, kinds := [], alts := [], laidByText := true, laidKinds := [.data, .data, .data, .data], laidTests := true, laidLooks := .later }
def TopDepartureUptoCardSaid : Prop := Claim7.holds Tryd.pinned (.plain (OpenSpec.upto topDepartureSpec)) topDepartureUptoCard
end Rows
end Go.Proofs.YtjjdfkkfhbndiaaDoor
