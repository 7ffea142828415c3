/-
  DERIVED. GIVEN WITH THE SEED: THE CARDS: each row of YtfgkgmmnldocaaaGreatDoorRows.lean that lists a variable, with what it lists TIED to the program's text (the seventh form; the later family's looks); each row that meets fmt, with fmt's text TOLD by the authors' own Lean function (tested against real Go, not proved from fmt's source: count such statements apart). THE CARD IS WHAT COUNTS. Prove the row's statement (the work); the ties are given (YtfgkgmmnldocaaaGreatDoorTie.lean); close each card by the builder's one call (the guide's Derived/Test/ToyasCard.lean, 'card_holds'). Laid BY PROGRAM, IN A SANDBOX (cutbox-door.mjs). By AI agents, Wed Nov 11 2026. No macro, syntax, notation, axiom, sorry.
-/
import Derived.Test.YtfgkgmmnldocaaaGreatDoorRows
import GoSem.ClaimSeven
namespace Go.Proofs.YtfgkgmmnldocaaaGreatDoor
namespace Rows

/-- THE TIED CARD OF 'airlinetop.TopCheapest'. -/
def topCheapestCard : Claim7 := { stood := { row := topCheapestRow, standIns := [], harness := (true, "6ee91e4d70d3fa2555df6ed16c7adc7095f513d937d098d3e9ad235687569c3b"), looks := false }, kinds := [], alts := [], laidByText := true, laidKinds := [.data], laidTests := true, laidLooks := .later }
def TopCheapestCardSaid : Prop := Claim7.holds Tryz.pinned (.plain (OpenSpec.ofChange topCheapestSpec)) topCheapestCard

/-- THE SECOND FORM's CARD OF 'airlinetop.TopCheapest'. -/
def topCheapestUptoCard : Claim7 := { stood := { row := topCheapestUptoRow, standIns := [], harness := (true, "6ee91e4d70d3fa2555df6ed16c7adc7095f513d937d098d3e9ad235687569c3b"), looks := false }, kinds := [], alts := [], laidByText := true, laidKinds := [.data], laidTests := true, laidLooks := .later }
def TopCheapestUptoCardSaid : Prop := Claim7.holds Tryz.pinned (.plain (OpenSpec.upto topCheapestSpec)) topCheapestUptoCard
end Rows
end Go.Proofs.YtfgkgmmnldocaaaGreatDoor
