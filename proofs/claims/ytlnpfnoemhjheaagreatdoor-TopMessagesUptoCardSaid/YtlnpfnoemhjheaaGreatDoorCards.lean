/-
  DERIVED. GIVEN WITH THE SEED: THE CARDS: each row of YtlnpfnoemhjheaaGreatDoorRows.lean that lists a variable, with what it lists TIED to the program's text (the seventh form; the later family's looks); each row that meets fmt, with fmt's text TOLD by the authors' own Lean function (tested against real Go, not proved from fmt's source: count such statements apart). THE CARD IS WHAT COUNTS. Prove the row's statement (the work); the ties are given (YtlnpfnoemhjheaaGreatDoorTie.lean); close each card by the builder's one call (the guide's Derived/Test/ToyasCard.lean, 'card_holds'). Laid BY PROGRAM, IN A SANDBOX (cutbox-door.mjs). By AI agents, Wed Nov 11 2026. No macro, syntax, notation, axiom, sorry.
-/
import Derived.Test.YtlnpfnoemhjheaaGreatDoorRows
import GoSem.ClaimSeven
namespace Go.Proofs.YtlnpfnoemhjheaaGreatDoor
namespace Rows

/-- THE TIED CARD OF 'airlinelaw46.ReconcileTexts'. -/
def reconcileTextsCard : Claim7 := { stood := { row := reconcileTextsRow, standIns := [], harness := (true, "a97329f245575ad41451580249993edf1f792ba21de61c70559566308a88462e"), looks := true }, kinds := [], alts := [], laidByText := true, laidKinds := [.data, .data, .data, .sentinel, .sentinel], laidTests := true, laidLooks := .later }
def ReconcileTextsCardSaid : Prop := Claim7.holds Tryz.pinned (.plain (OpenSpec.ofChange reconcileTextsSpec)) reconcileTextsCard

/-- THE TIED CARD OF 'airlinetop.TopMessages'. -/
def topMessagesCard : Claim7 := { stood := { row := topMessagesRow, standIns := [], harness := (true, "a97329f245575ad41451580249993edf1f792ba21de61c70559566308a88462e"), looks := true }, kinds := [], alts := [], laidByText := true, laidKinds := [.data, .data, .data, .data, .sentinel, .sentinel], laidTests := true, laidLooks := .later }
def TopMessagesCardSaid : Prop := Claim7.holds Tryz.pinned (.plain (OpenSpec.ofChange topMessagesSpec)) topMessagesCard

/-- THE SECOND FORM's CARD OF 'airlinelaw46.ReconcileTexts'. -/
def reconcileTextsUptoCard : Claim7 := { stood := { row := reconcileTextsUptoRow, standIns := [], harness := (true, "a97329f245575ad41451580249993edf1f792ba21de61c70559566308a88462e"), looks := true }, kinds := [], alts := [], laidByText := true, laidKinds := [.data, .data, .data, .sentinel, .sentinel], laidTests := true, laidLooks := .later }
def ReconcileTextsUptoCardSaid : Prop := Claim7.holds Tryz.pinned (.plain (OpenSpec.upto reconcileTextsSpec)) reconcileTextsUptoCard

/-- THE SECOND FORM's CARD OF 'airlinetop.TopMessages'. -/
def topMessagesUptoCard : Claim7 := { stood := { row := topMessagesUptoRow, standIns := [], harness := (true, "a97329f245575ad41451580249993edf1f792ba21de61c70559566308a88462e"), looks := true }, kinds := [], alts := [], laidByText := true, laidKinds := [.data, .data, .data, .data, .sentinel, .sentinel], laidTests := true, laidLooks := .later }
def TopMessagesUptoCardSaid : Prop := Claim7.holds Tryz.pinned (.plain (OpenSpec.upto topMessagesSpec)) topMessagesUptoCard
end Rows
end Go.Proofs.YtlnpfnoemhjheaaGreatDoor
