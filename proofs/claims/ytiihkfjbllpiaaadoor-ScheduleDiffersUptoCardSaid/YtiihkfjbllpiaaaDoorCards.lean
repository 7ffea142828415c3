/-
  DERIVED. GIVEN WITH THE SEED: THE CARDS: each row of YtiihkfjbllpiaaaDoorRows.lean that lists a variable, with what it lists TIED to the program's text (the seventh form; the later family's looks); each row that meets fmt, with fmt's text TOLD by the authors' own Lean function (tested against real Go, not proved from fmt's source: count such statements apart). THE CARD IS WHAT COUNTS. Prove the row's statement (the work); the ties are given (YtiihkfjbllpiaaaDoorTie.lean); close each card by the builder's one call (the guide's Derived/Test/ToyasCard.lean, 'card_holds'). Laid BY PROGRAM, IN A SANDBOX (cutbox-door.mjs). By AI agents, Wed Nov 11 2026. No macro, syntax, notation, axiom, sorry.
-/
import Derived.Test.YtiihkfjbllpiaaaDoorRows
import GoSem.ClaimSeven
namespace Go.Proofs.YtiihkfjbllpiaaaDoor
namespace Rows

/-- THE TIED CARD OF 'airlinelaw08.ScheduleDiffers'. -/
def scheduleDiffersCard : Claim7 := { stood := { row := scheduleDiffersRow, standIns := [], harness := (true, "324299f15f6dd56e6a8df341d507f98fff8c9c4964fa73c5c07b6c74e75e93e0"), looks := false }, kinds := [], alts := [], laidByText := true, laidKinds := [.data, .data, .data, .data], laidTests := true, laidLooks := .later }
def ScheduleDiffersCardSaid : Prop := Claim7.holds Tryd.pinned (.plain (OpenSpec.ofChange scheduleDiffersSpec)) scheduleDiffersCard

/-- THE SECOND FORM's CARD OF 'airlinelaw08.ScheduleDiffers'. -/
def scheduleDiffersUptoCard : Claim7 := { stood := { row := scheduleDiffersUptoRow, standIns := [], harness := (true, "324299f15f6dd56e6a8df341d507f98fff8c9c4964fa73c5c07b6c74e75e93e0"), looks := false }, kinds := [], alts := [], laidByText := true, laidKinds := [.data, .data, .data, .data], laidTests := true, laidLooks := .later }
def ScheduleDiffersUptoCardSaid : Prop := Claim7.holds Tryd.pinned (.plain (OpenSpec.upto scheduleDiffersSpec)) scheduleDiffersUptoCard
end Rows
end Go.Proofs.YtiihkfjbllpiaaaDoor
