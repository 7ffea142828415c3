/-
  DERIVED. GIVEN WITH THE SEED: THE CARDS: each row of YtiihkfjbllpiaaaGreatDoorRows.lean that lists a variable, with what it lists TIED to the program's text (the seventh form; the later family's looks); each row that meets fmt, with fmt's text TOLD by the authors' own Lean function (tested against real Go, not proved from fmt's source: count such statements apart). THE CARD IS WHAT COUNTS. Prove the row's statement (the work); the ties are given (YtiihkfjbllpiaaaGreatDoorTie.lean); close each card by the builder's one call (the guide's Derived/Test/ToyasCard.lean, 'card_holds'). Laid BY PROGRAM, IN A SANDBOX (cutbox-door.mjs). By AI agents, Wed Nov 11 2026. No macro, syntax, notation, axiom, sorry.
-/
import Derived.Test.YtiihkfjbllpiaaaGreatDoorRows
import GoSem.ClaimSeven
namespace Go.Proofs.YtiihkfjbllpiaaaGreatDoor
namespace Rows

/-- THE TIED CARD OF 'airlinelaw08.ScheduleChecks'. -/
def scheduleChecksCard : Claim7 := { stood := { row := scheduleChecksRow, standIns := [], harness := (true, "19f14d7300a9e1293a654bb7e70a07375f1b849d0026de23ad19d784c2d9e49d"), looks := false }, kinds := [], alts := [], laidByText := true, laidKinds := [.data, .data, .data, .data], laidTests := true, laidLooks := .later }
def ScheduleChecksCardSaid : Prop := Claim7.holds Tryz.pinned (.plain (OpenSpec.ofChange scheduleChecksSpec)) scheduleChecksCard

/-- THE TIED CARD OF 'airlinelaw08.ScheduleDays'. -/
def scheduleDaysCard : Claim7 := { stood := { row := scheduleDaysRow, standIns := [], harness := (true, "19f14d7300a9e1293a654bb7e70a07375f1b849d0026de23ad19d784c2d9e49d"), looks := false }, kinds := [], alts := [], laidByText := true, laidKinds := [.data, .data, .data, .data], laidTests := true, laidLooks := .later }
def ScheduleDaysCardSaid : Prop := Claim7.holds Tryz.pinned (.plain (OpenSpec.ofChange scheduleDaysSpec)) scheduleDaysCard

/-- THE TIED CARD OF 'airlinelaw08.ScheduleFinds'. -/
def scheduleFindsCard : Claim7 := { stood := { row := scheduleFindsRow, standIns := [], harness := (true, "19f14d7300a9e1293a654bb7e70a07375f1b849d0026de23ad19d784c2d9e49d"), looks := false }, kinds := [], alts := [], laidByText := true, laidKinds := [.data, .data, .data, .data], laidTests := true, laidLooks := .later }
def ScheduleFindsCardSaid : Prop := Claim7.holds Tryz.pinned (.plain (OpenSpec.ofChange scheduleFindsSpec)) scheduleFindsCard

/-- THE TIED CARD OF 'airlinelaw08.ScheduleSegs'. -/
def scheduleSegsCard : Claim7 := { stood := { row := scheduleSegsRow, standIns := [], harness := (true, "19f14d7300a9e1293a654bb7e70a07375f1b849d0026de23ad19d784c2d9e49d"), looks := false }, kinds := [], alts := [], laidByText := true, laidKinds := [.data, .data, .data, .data], laidTests := true, laidLooks := .later }
def ScheduleSegsCardSaid : Prop := Claim7.holds Tryz.pinned (.plain (OpenSpec.ofChange scheduleSegsSpec)) scheduleSegsCard

/-- THE TIED CARD OF 'airlinelaw09.CodeshareChecks'. -/
def codeshareChecksCard : Claim7 := { stood := { row := codeshareChecksRow, standIns := [], harness := (true, "19f14d7300a9e1293a654bb7e70a07375f1b849d0026de23ad19d784c2d9e49d"), looks := false }, kinds := [], alts := [], laidByText := true, laidKinds := [.data, .data, .data], laidTests := true, laidLooks := .later }
def CodeshareChecksCardSaid : Prop := Claim7.holds Tryz.pinned (.plain (OpenSpec.ofChange codeshareChecksSpec)) codeshareChecksCard

/-- THE TIED CARD OF 'airlinelaw09.CodeshareCovers'. -/
def codeshareCoversCard : Claim7 := { stood := { row := codeshareCoversRow, standIns := [], harness := (true, "19f14d7300a9e1293a654bb7e70a07375f1b849d0026de23ad19d784c2d9e49d"), looks := false }, kinds := [], alts := [], laidByText := true, laidKinds := [.data, .data, .data], laidTests := true, laidLooks := .later }
def CodeshareCoversCardSaid : Prop := Claim7.holds Tryz.pinned (.plain (OpenSpec.ofChange codeshareCoversSpec)) codeshareCoversCard

/-- THE TIED CARD OF 'airlinelaw09.CodeshareFinds'. -/
def codeshareFindsCard : Claim7 := { stood := { row := codeshareFindsRow, standIns := [], harness := (true, "19f14d7300a9e1293a654bb7e70a07375f1b849d0026de23ad19d784c2d9e49d"), looks := false }, kinds := [], alts := [], laidByText := true, laidKinds := [.data, .data, .data], laidTests := true, laidLooks := .later }
def CodeshareFindsCardSaid : Prop := Claim7.holds Tryz.pinned (.plain (OpenSpec.ofChange codeshareFindsSpec)) codeshareFindsCard

/-- THE TIED CARD OF 'airlinelaw09.CodeshareSame'. -/
def codeshareSameCard : Claim7 := { stood := { row := codeshareSameRow, standIns := [], harness := (true, "19f14d7300a9e1293a654bb7e70a07375f1b849d0026de23ad19d784c2d9e49d"), looks := false }, kinds := [], alts := [], laidByText := true, laidKinds := [.data, .data, .data], laidTests := true, laidLooks := .later }
def CodeshareSameCardSaid : Prop := Claim7.holds Tryz.pinned (.plain (OpenSpec.ofChange codeshareSameSpec)) codeshareSameCard

/-- THE TIED CARD OF 'airlinelaw09.CodeshareSold'. -/
def codeshareSoldCard : Claim7 := { stood := { row := codeshareSoldRow, standIns := [], harness := (true, "19f14d7300a9e1293a654bb7e70a07375f1b849d0026de23ad19d784c2d9e49d"), looks := false }, kinds := [], alts := [], laidByText := true, laidKinds := [.data, .data, .data], laidTests := true, laidLooks := .later }
def CodeshareSoldCardSaid : Prop := Claim7.holds Tryz.pinned (.plain (OpenSpec.ofChange codeshareSoldSpec)) codeshareSoldCard

/-- THE SECOND FORM's CARD OF 'airlinelaw08.ScheduleChecks'. -/
def scheduleChecksUptoCard : Claim7 := { stood := { row := scheduleChecksUptoRow, standIns := [], harness := (true, "19f14d7300a9e1293a654bb7e70a07375f1b849d0026de23ad19d784c2d9e49d"), looks := false }, kinds := [], alts := [], laidByText := true, laidKinds := [.data, .data, .data, .data], laidTests := true, laidLooks := .later }
def ScheduleChecksUptoCardSaid : Prop := Claim7.holds Tryz.pinned (.plain (OpenSpec.upto scheduleChecksSpec)) scheduleChecksUptoCard

/-- THE SECOND FORM's CARD OF 'airlinelaw08.ScheduleDays'. -/
def scheduleDaysUptoCard : Claim7 := { stood := { row := scheduleDaysUptoRow, standIns := [], harness := (true, "19f14d7300a9e1293a654bb7e70a07375f1b849d0026de23ad19d784c2d9e49d"), looks := false }, kinds := [], alts := [], laidByText := true, laidKinds := [.data, .data, .data, .data], laidTests := true, laidLooks := .later }
def ScheduleDaysUptoCardSaid : Prop := Claim7.holds Tryz.pinned (.plain (OpenSpec.upto scheduleDaysSpec)) scheduleDaysUptoCard

/-- THE SECOND FORM's CARD OF 'airlinelaw08.ScheduleFinds'. -/
def scheduleFindsUptoCard : Claim7 := { stood := { row := scheduleFindsUptoRow, standIns := [], harness := (true, "19f14d7300a9e1293a654bb7e70a07375f1b849d0026de23ad19d784c2d9e49d"), looks := false }, kinds := [], alts := [], laidByText := true, laidKinds := [.data, .data, .data, .data], laidTests := true, laidLooks := .later }
def ScheduleFindsUptoCardSaid : Prop := Claim7.holds Tryz.pinned (.plain (OpenSpec.upto scheduleFindsSpec)) scheduleFindsUptoCard

/-- THE SECOND FORM's CARD OF 'airlinelaw08.ScheduleSegs'. -/
def scheduleSegsUptoCard : Claim7 := { stood := { row := scheduleSegsUptoRow, standIns := [], harness := (true, "19f14d7300a9e1293a654bb7e70a07375f1b849d0026de23ad19d784c2d9e49d"), looks := false }, kinds := [], alts := [], laidByText := true, laidKinds := [.data, .data, .data, .data], laidTests := true, laidLooks := .later }
def ScheduleSegsUptoCardSaid : Prop := Claim7.holds Tryz.pinned (.plain (OpenSpec.upto scheduleSegsSpec)) scheduleSegsUptoCard

/-- THE SECOND FORM's CARD OF 'airlinelaw09.CodeshareChecks'. -/
def codeshareChecksUptoCard : Claim7 := { stood := { row := codeshareChecksUptoRow, standIns := [], harness := (true, "19f14d7300a9e1293a654bb7e70a07375f1b849d0026de23ad19d784c2d9e49d"), looks := false }, kinds := [], alts := [], laidByText := true, laidKinds := [.data, .data, .data], laidTests := true, laidLooks := .later }
def CodeshareChecksUptoCardSaid : Prop := Claim7.holds Tryz.pinned (.plain (OpenSpec.upto codeshareChecksSpec)) codeshareChecksUptoCard

/-- THE SECOND FORM's CARD OF 'airlinelaw09.CodeshareCovers'. -/
def codeshareCoversUptoCard : Claim7 := { stood := { row := codeshareCoversUptoRow, standIns := [], harness := (true, "19f14d7300a9e1293a654bb7e70a07375f1b849d0026de23ad19d784c2d9e49d"), looks := false }, kinds := [], alts := [], laidByText := true, laidKinds := [.data, .data, .data], laidTests := true, laidLooks := .later }
def CodeshareCoversUptoCardSaid : Prop := Claim7.holds Tryz.pinned (.plain (OpenSpec.upto codeshareCoversSpec)) codeshareCoversUptoCard

/-- THE SECOND FORM's CARD OF 'airlinelaw09.CodeshareFinds'. -/
def codeshareFindsUptoCard : Claim7 := { stood := { row := codeshareFindsUptoRow, standIns := [], harness := (true, "19f14d7300a9e1293a654bb7e70a07375f1b849d0026de23ad19d784c2d9e49d"), looks := false }, kinds := [], alts := [], laidByText := true, laidKinds := [.data, .data, .data], laidTests := true, laidLooks := .later }
def CodeshareFindsUptoCardSaid : Prop := Claim7.holds Tryz.pinned (.plain (OpenSpec.upto codeshareFindsSpec)) codeshareFindsUptoCard

/-- THE SECOND FORM's CARD OF 'airlinelaw09.CodeshareSame'. -/
def codeshareSameUptoCard : Claim7 := { stood := { row := codeshareSameUptoRow, standIns := [], harness := (true, "19f14d7300a9e1293a654bb7e70a07375f1b849d0026de23ad19d784c2d9e49d"), looks := false }, kinds := [], alts := [], laidByText := true, laidKinds := [.data, .data, .data], laidTests := true, laidLooks := .later }
def CodeshareSameUptoCardSaid : Prop := Claim7.holds Tryz.pinned (.plain (OpenSpec.upto codeshareSameSpec)) codeshareSameUptoCard

/-- THE SECOND FORM's CARD OF 'airlinelaw09.CodeshareSold'. -/
def codeshareSoldUptoCard : Claim7 := { stood := { row := codeshareSoldUptoRow, standIns := [], harness := (true, "19f14d7300a9e1293a654bb7e70a07375f1b849d0026de23ad19d784c2d9e49d"), looks := false }, kinds := [], alts := [], laidByText := true, laidKinds := [.data, .data, .data], laidTests := true, laidLooks := .later }
def CodeshareSoldUptoCardSaid : Prop := Claim7.holds Tryz.pinned (.plain (OpenSpec.upto codeshareSoldSpec)) codeshareSoldUptoCard
end Rows
end Go.Proofs.YtiihkfjbllpiaaaGreatDoor
