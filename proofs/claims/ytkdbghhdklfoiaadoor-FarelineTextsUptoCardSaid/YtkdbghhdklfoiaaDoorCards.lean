/-
  DERIVED. GIVEN WITH THE SEED: THE CARDS: each row of YtkdbghhdklfoiaaDoorRows.lean that lists a variable, with what it lists TIED to the program's text (the seventh form; the later family's looks); each row that meets fmt, with fmt's text TOLD by the authors' own Lean function (tested against real Go, not proved from fmt's source: count such statements apart). THE CARD IS WHAT COUNTS. Prove the row's statement (the work); the ties are given (YtkdbghhdklfoiaaDoorTie.lean); close each card by the builder's one call (the guide's Derived/Test/ToyasCard.lean, 'card_holds'). Laid BY PROGRAM, IN A SANDBOX (cutbox-door.mjs). By AI agents, Wed Nov 11 2026. No macro, syntax, notation, axiom, sorry.
-/
import Derived.Test.YtkdbghhdklfoiaaDoorRows
import GoSem.ClaimSeven
namespace Go.Proofs.YtkdbghhdklfoiaaDoor
namespace Rows

/-- THE TIED CARD OF 'airlinelaw29.FarelineOf'. -/
def farelineOfCard : Claim7 := { stood := { row := farelineOfRow, standIns := [], harness := (true, "be3701885b82c8fe4333b22ce3ae207cc69e0b993396ef01413eb3fe9c7fc915"), looks := false }, kinds := [], alts := [], laidByText := true, laidKinds := [.data, .data, .data], laidTests := true, laidLooks := .later }
def FarelineOfCardSaid : Prop := Claim7.holds Tryd.pinned (.plain (OpenSpec.ofChange farelineOfSpec)) farelineOfCard

/-- THE TIED CARD OF 'airlinelaw29.FarelinePrices'. -/
def farelinePricesCard : Claim7 := { stood := { row := farelinePricesRow, standIns := [], harness := (true, "be3701885b82c8fe4333b22ce3ae207cc69e0b993396ef01413eb3fe9c7fc915"), looks := false }, kinds := [], alts := [], laidByText := true, laidKinds := [.data, .data, .data], laidTests := true, laidLooks := .later }
def FarelinePricesCardSaid : Prop := Claim7.holds Tryd.pinned (.plain (OpenSpec.ofChange farelinePricesSpec)) farelinePricesCard

/-- THE TIED CARD OF 'airlinelaw29.FarelineTexts'. -/
def farelineTextsCard : Claim7 := { stood := { row := farelineTextsRow, standIns := [], harness := (true, "be3701885b82c8fe4333b22ce3ae207cc69e0b993396ef01413eb3fe9c7fc915"), looks := false }, kinds := [], alts := [], laidByText := true, laidKinds := [.data, .data, .data], laidTests := true, laidLooks := .later }
def FarelineTextsCardSaid : Prop := Claim7.holds Tryd.pinned (.plain (OpenSpec.ofChange farelineTextsSpec)) farelineTextsCard

/-- THE SECOND FORM's CARD OF 'airlinelaw29.FarelineOf'. -/
def farelineOfUptoCard : Claim7 := { stood := { row := farelineOfUptoRow, standIns := [], harness := (true, "be3701885b82c8fe4333b22ce3ae207cc69e0b993396ef01413eb3fe9c7fc915"), looks := false }, kinds := [], alts := [], laidByText := true, laidKinds := [.data, .data, .data], laidTests := true, laidLooks := .later }
def FarelineOfUptoCardSaid : Prop := Claim7.holds Tryd.pinned (.plain (OpenSpec.upto farelineOfSpec)) farelineOfUptoCard

/-- THE SECOND FORM's CARD OF 'airlinelaw29.FarelinePrices'. -/
def farelinePricesUptoCard : Claim7 := { stood := { row := farelinePricesUptoRow, standIns := [], harness := (true, "be3701885b82c8fe4333b22ce3ae207cc69e0b993396ef01413eb3fe9c7fc915"), looks := false }, kinds := [], alts := [], laidByText := true, laidKinds := [.data, .data, .data], laidTests := true, laidLooks := .later }
def FarelinePricesUptoCardSaid : Prop := Claim7.holds Tryd.pinned (.plain (OpenSpec.upto farelinePricesSpec)) farelinePricesUptoCard

/-- THE SECOND FORM's CARD OF 'airlinelaw29.FarelineTexts'. -/
def farelineTextsUptoCard : Claim7 := { stood := { row := farelineTextsUptoRow, standIns := [], harness := (true, "be3701885b82c8fe4333b22ce3ae207cc69e0b993396ef01413eb3fe9c7fc915"), looks := false }, kinds := [], alts := [], laidByText := true, laidKinds := [.data, .data, .data], laidTests := true, laidLooks := .later }
def FarelineTextsUptoCardSaid : Prop := Claim7.holds Tryd.pinned (.plain (OpenSpec.upto farelineTextsSpec)) farelineTextsUptoCard
end Rows
end Go.Proofs.YtkdbghhdklfoiaaDoor
