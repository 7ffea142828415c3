/-
  No cell of these rows narrows 'for every input' (looked for: loops, veiled, ifaces, maps, wideKeys, modest, calm, conditions, laid).
  DERIVED. THE GIVEN ROWS OF THIS SEAT. 5 by the template 'for every input the law returns true; each argument reads behind the call as it read before'; 0 by the template 'total and deterministic' (their statements: YtpblahljlbakdaaTotals.lean).
  GIVEN WITH THE SEED: the statements are not yours to turn. If you find one false, say at which input.
  Laid BY PROGRAM, IN A SANDBOX (cutbox-rows.mjs): the forced cells as the released guide's own fill.sh prints them over the translation e7076815aa92a910… (all of the seat's roots in one cut). By AI agents, Wed Nov 11 2026. No macro, syntax, notation, axiom, sorry.
-/
import Derived.Test.YtpblahljlbakdaaChecked
import GoSem.Claim
import GoSem.ClaimJoined
import GoSem.ClaimMapViews
import Derived.JoinedTies
import Derived.KernelRfl
namespace Go.Proofs.Ytpblahljlbakdaa
/- THE CELL 'sum', in the pinned program and in every row, IS THE sha256 OF THE DUMP (.gsa) THAT YtpblahljlbakdaaProg.lean LOADS. Nothing in Lean hashes anything: it is a label: what it is worth is what the hold of that sum in a sandbox is worth. -/
noncomputable def Try.pinned : Pinned := { name := "ytpblahljlbakdaa", sum := "e7076815aa92a910c6dcc122968f91da8bb8d391281211c3fb872527ea1b0dae", checked := Try.checked }
namespace Rows
def none {H : Type} : Left H := { results := [], args := [] }

/-- 'airlinelaw43.EdiPrints': WHATEVER THE INPUT: true; the input reads as it did. -/
def ediPrintsSpec : ChangeSpec := { name := "ediPrints", fn := fun _ => fun
  | [d1, d2] => { results := [.lit (.bool true)], args := [d1, d2] }
  | _ => none }
def ediPrintsRow : OpenClaim := { program := "ytpblahljlbakdaa", sum := "e7076815aa92a910c6dcc122968f91da8bb8d391281211c3fb872527ea1b0dae", func := "airline/airlinelaw43.EdiPrints", spec := "ediPrints", inPlace := ["internal/abi.NoEscape", "internal/bytealg.IndexByteString"], unfollowed := true, recurses := true, apart := false }
def EdiPrintsSaid : Prop := ediPrintsRow.holds Try.pinned (OpenSpec.ofChange ediPrintsSpec)

/-- ITS FALSE NEIGHBOUR: 'it returns false'. Refute it at one input. -/
def ediPrintsWrong : ChangeSpec := { name := "ediPrints", fn := fun _ => fun
  | [d1, d2] => { results := [.lit (.bool false)], args := [d1, d2] }
  | _ => none }
def EdiPrintsWrongFalsely : Prop := ediPrintsRow.holds Try.pinned (OpenSpec.ofChange ediPrintsWrong)

/-- 'airlinelaw43.EdiParses': WHATEVER THE INPUT: true; the input reads as it did. -/
def ediParsesSpec : ChangeSpec := { name := "ediParses", fn := fun _ => fun
  | [d] => { results := [.lit (.bool true)], args := [d] }
  | _ => none }
def ediParsesRow : OpenClaim := { program := "ytpblahljlbakdaa", sum := "e7076815aa92a910c6dcc122968f91da8bb8d391281211c3fb872527ea1b0dae", func := "airline/airlinelaw43.EdiParses", spec := "ediParses", inPlace := ["internal/abi.NoEscape", "internal/bytealg.IndexByteString"], unfollowed := true, recurses := true, apart := false }
def EdiParsesSaid : Prop := ediParsesRow.holds Try.pinned (OpenSpec.ofChange ediParsesSpec)

/-- ITS FALSE NEIGHBOUR: 'it returns false'. Refute it at one input. -/
def ediParsesWrong : ChangeSpec := { name := "ediParses", fn := fun _ => fun
  | [d] => { results := [.lit (.bool false)], args := [d] }
  | _ => none }
def EdiParsesWrongFalsely : Prop := ediParsesRow.holds Try.pinned (OpenSpec.ofChange ediParsesWrong)

/-- 'airlinelaw43.EdiGets': WHATEVER THE INPUT: true; the input reads as it did. -/
def ediGetsSpec : ChangeSpec := { name := "ediGets", fn := fun _ => fun
  | [d1, d2, d3] => { results := [.lit (.bool true)], args := [d1, d2, d3] }
  | _ => none }
def ediGetsRow : OpenClaim := { program := "ytpblahljlbakdaa", sum := "e7076815aa92a910c6dcc122968f91da8bb8d391281211c3fb872527ea1b0dae", func := "airline/airlinelaw43.EdiGets", spec := "ediGets", inPlace := ["internal/abi.NoEscape", "internal/bytealg.IndexByteString"], unfollowed := true, recurses := true, apart := false }
def EdiGetsSaid : Prop := ediGetsRow.holds Try.pinned (OpenSpec.ofChange ediGetsSpec)

/-- ITS FALSE NEIGHBOUR: 'it returns false'. Refute it at one input. -/
def ediGetsWrong : ChangeSpec := { name := "ediGets", fn := fun _ => fun
  | [d1, d2, d3] => { results := [.lit (.bool false)], args := [d1, d2, d3] }
  | _ => none }
def EdiGetsWrongFalsely : Prop := ediGetsRow.holds Try.pinned (OpenSpec.ofChange ediGetsWrong)

/-- 'airlinelaw43.EdiBack': WHATEVER THE INPUT: true; the input reads as it did. -/
def ediBackSpec : ChangeSpec := { name := "ediBack", fn := fun _ => fun
  | [d1, d2, d3] => { results := [.lit (.bool true)], args := [d1, d2, d3] }
  | _ => none }
def ediBackRow : OpenClaim := { program := "ytpblahljlbakdaa", sum := "e7076815aa92a910c6dcc122968f91da8bb8d391281211c3fb872527ea1b0dae", func := "airline/airlinelaw43.EdiBack", spec := "ediBack", inPlace := ["internal/abi.NoEscape", "internal/bytealg.IndexByteString"], unfollowed := true, recurses := true, apart := false }
def EdiBackSaid : Prop := ediBackRow.holds Try.pinned (OpenSpec.ofChange ediBackSpec)

/-- ITS FALSE NEIGHBOUR: 'it returns false'. Refute it at one input. -/
def ediBackWrong : ChangeSpec := { name := "ediBack", fn := fun _ => fun
  | [d1, d2, d3] => { results := [.lit (.bool false)], args := [d1, d2, d3] }
  | _ => none }
def EdiBackWrongFalsely : Prop := ediBackRow.holds Try.pinned (OpenSpec.ofChange ediBackWrong)

/-- 'airlinelaw43.EdiPlaces': WHATEVER THE INPUT: true; the input reads as it did. -/
def ediPlacesSpec : ChangeSpec := { name := "ediPlaces", fn := fun _ => fun
  | [d] => { results := [.lit (.bool true)], args := [d] }
  | _ => none }
def ediPlacesRow : OpenClaim := { program := "ytpblahljlbakdaa", sum := "e7076815aa92a910c6dcc122968f91da8bb8d391281211c3fb872527ea1b0dae", func := "airline/airlinelaw43.EdiPlaces", spec := "ediPlaces", inPlace := ["internal/abi.NoEscape", "internal/bytealg.IndexByteString"], unfollowed := true, recurses := true, apart := false }
def EdiPlacesSaid : Prop := ediPlacesRow.holds Try.pinned (OpenSpec.ofChange ediPlacesSpec)

/-- ITS FALSE NEIGHBOUR: 'it returns false'. Refute it at one input. -/
def ediPlacesWrong : ChangeSpec := { name := "ediPlaces", fn := fun _ => fun
  | [d] => { results := [.lit (.bool false)], args := [d] }
  | _ => none }
def EdiPlacesWrongFalsely : Prop := ediPlacesRow.holds Try.pinned (OpenSpec.ofChange ediPlacesWrong)

/- THE SECOND FORM. 'bulk': how many values and letters a reading holds, each counted each time it is reached (what is shared counts as often as it is met; a slice's spare places count too). A statement '..UptoSaid' is the law's where the arguments, and the package variables that the reading takes, are together of bulk at most 1048576: NARROWER than '..Said'. Prove '..Said' where nothing that the law and all that it calls make is longer than what came in: it says more and counts as full. Else prove '..UptoSaid'. A law counts once. -/
mutual
def uptoBulk {H : Type} : DataW H → Nat
  | .lit (.string bytes) => bytes.length + 1
  | .lit _ => 1
  | .nil => 1
  | .ptr d => uptoBulk d + 1
  | .slice elems spare => uptoBulkAll elems + uptoBulkAll spare + 1
  | .agg parts => uptoBulkAll parts + 1
  | .iface _ d => uptoBulk d + 1
  | .map entries => uptoBulkEntries entries + 1
  | .held _ => 1
def uptoBulkAll {H : Type} : List (DataW H) → Nat
  | [] => 0
  | d :: r => uptoBulk d + uptoBulkAll r
def uptoBulkEntries {H : Type} : List (Lit × DataW H) → Nat
  | [] => 0
  | x :: r => uptoBulkEntry x + uptoBulkEntries r
def uptoBulkEntry {H : Type} : Lit × DataW H → Nat
  | (.string bytes, d) => bytes.length + uptoBulk d + 1
  | (_, d) => uptoBulk d + 1
 end
def uptoSmall : (H : Type) → List (DataW H) → Bool := fun _ ds => decide (uptoBulkAll ds ≤ 1048576)
def OpenSpec.upto (s : _root_.Go.ChangeSpec) : _root_.Go.OpenSpec := { _root_.Go.OpenSpec.ofChange s with cond := some uptoSmall }

/-- 'airlinelaw43.EdiPrints', WHERE WHAT IT READS IS OF BULK AT MOST 1048576: true; the input reads as it did. -/
def ediPrintsUptoRow : OpenClaim := { program := "ytpblahljlbakdaa", sum := "e7076815aa92a910c6dcc122968f91da8bb8d391281211c3fb872527ea1b0dae", func := "airline/airlinelaw43.EdiPrints", spec := "ediPrints", inPlace := ["internal/abi.NoEscape", "internal/bytealg.IndexByteString"], unfollowed := true, recurses := true, apart := false, narrowed := true }
def EdiPrintsUptoSaid : Prop := ediPrintsUptoRow.holds Try.pinned (OpenSpec.upto ediPrintsSpec)

/-- 'airlinelaw43.EdiParses', WHERE WHAT IT READS IS OF BULK AT MOST 1048576: true; the input reads as it did. -/
def ediParsesUptoRow : OpenClaim := { program := "ytpblahljlbakdaa", sum := "e7076815aa92a910c6dcc122968f91da8bb8d391281211c3fb872527ea1b0dae", func := "airline/airlinelaw43.EdiParses", spec := "ediParses", inPlace := ["internal/abi.NoEscape", "internal/bytealg.IndexByteString"], unfollowed := true, recurses := true, apart := false, narrowed := true }
def EdiParsesUptoSaid : Prop := ediParsesUptoRow.holds Try.pinned (OpenSpec.upto ediParsesSpec)

/-- 'airlinelaw43.EdiGets', WHERE WHAT IT READS IS OF BULK AT MOST 1048576: true; the input reads as it did. -/
def ediGetsUptoRow : OpenClaim := { program := "ytpblahljlbakdaa", sum := "e7076815aa92a910c6dcc122968f91da8bb8d391281211c3fb872527ea1b0dae", func := "airline/airlinelaw43.EdiGets", spec := "ediGets", inPlace := ["internal/abi.NoEscape", "internal/bytealg.IndexByteString"], unfollowed := true, recurses := true, apart := false, narrowed := true }
def EdiGetsUptoSaid : Prop := ediGetsUptoRow.holds Try.pinned (OpenSpec.upto ediGetsSpec)

/-- 'airlinelaw43.EdiBack', WHERE WHAT IT READS IS OF BULK AT MOST 1048576: true; the input reads as it did. -/
def ediBackUptoRow : OpenClaim := { program := "ytpblahljlbakdaa", sum := "e7076815aa92a910c6dcc122968f91da8bb8d391281211c3fb872527ea1b0dae", func := "airline/airlinelaw43.EdiBack", spec := "ediBack", inPlace := ["internal/abi.NoEscape", "internal/bytealg.IndexByteString"], unfollowed := true, recurses := true, apart := false, narrowed := true }
def EdiBackUptoSaid : Prop := ediBackUptoRow.holds Try.pinned (OpenSpec.upto ediBackSpec)

/-- 'airlinelaw43.EdiPlaces', WHERE WHAT IT READS IS OF BULK AT MOST 1048576: true; the input reads as it did. -/
def ediPlacesUptoRow : OpenClaim := { program := "ytpblahljlbakdaa", sum := "e7076815aa92a910c6dcc122968f91da8bb8d391281211c3fb872527ea1b0dae", func := "airline/airlinelaw43.EdiPlaces", spec := "ediPlaces", inPlace := ["internal/abi.NoEscape", "internal/bytealg.IndexByteString"], unfollowed := true, recurses := true, apart := false, narrowed := true }
def EdiPlacesUptoSaid : Prop := ediPlacesUptoRow.holds Try.pinned (OpenSpec.upto ediPlacesSpec)

end Rows
end Go.Proofs.Ytpblahljlbakdaa
