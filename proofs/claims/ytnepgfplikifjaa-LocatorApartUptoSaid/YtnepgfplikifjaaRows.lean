/-
  No cell of these rows narrows 'for every input' (looked for: loops, veiled, ifaces, maps, wideKeys, modest, calm, conditions, laid).
  DERIVED. THE GIVEN ROWS OF THIS SEAT. 3 by the template 'for every input the law returns true; each argument reads behind the call as it read before'; 0 by the template 'total and deterministic' (their statements: YtnepgfplikifjaaTotals.lean).
  GIVEN WITH THE SEED: the statements are not yours to turn. If you find one false, say at which input.
  Laid BY PROGRAM, IN A SANDBOX (cutbox-rows.mjs): the forced cells as the released guide's own fill.sh prints them over the translation 8d795a054f6c05c7… (all of the seat's roots in one cut). By AI agents, Wed Nov 11 2026. No macro, syntax, notation, axiom, sorry.
-/
import Derived.Test.YtnepgfplikifjaaChecked
import GoSem.Claim
import GoSem.ClaimJoined
import GoSem.ClaimMapViews
import Derived.JoinedTies
import Derived.KernelRfl
namespace Go.Proofs.Ytnepgfplikifjaa
/- THE CELL 'sum', in the pinned program and in every row, IS THE sha256 OF THE DUMP (.gsa) THAT YtnepgfplikifjaaProg.lean LOADS. Nothing in Lean hashes anything: it is a label: what it is worth is what the hold of that sum in a sandbox is worth. -/
noncomputable def Try.pinned : Pinned := { name := "ytnepgfplikifjaa", sum := "8d795a054f6c05c7ade55072f171f82ff6ca85830c3f8bced3facbc2222afbfa", checked := Try.checked }
namespace Rows
def none {H : Type} : Left H := { results := [], args := [] }

/-- 'airlinelaw34.LocatorTells': WHATEVER THE INPUT: true; the input reads as it did. -/
def locatorTellsSpec : ChangeSpec := { name := "locatorTells", fn := fun _ => fun
  | [d1, d2] => { results := [.lit (.bool true)], args := [d1, d2] }
  | _ => none }
def locatorTellsRow : OpenClaim := { program := "ytnepgfplikifjaa", sum := "8d795a054f6c05c7ade55072f171f82ff6ca85830c3f8bced3facbc2222afbfa", func := "airline/airlinelaw34.LocatorTells", spec := "locatorTells", inPlace := ["internal/bytealg.IndexByteString"], unfollowed := true, recurses := true, apart := false }
def LocatorTellsSaid : Prop := locatorTellsRow.holds Try.pinned (OpenSpec.ofChange locatorTellsSpec)

/-- ITS FALSE NEIGHBOUR: 'it returns false'. Refute it at one input. -/
def locatorTellsWrong : ChangeSpec := { name := "locatorTells", fn := fun _ => fun
  | [d1, d2] => { results := [.lit (.bool false)], args := [d1, d2] }
  | _ => none }
def LocatorTellsWrongFalsely : Prop := locatorTellsRow.holds Try.pinned (OpenSpec.ofChange locatorTellsWrong)

/-- 'airlinelaw34.LocatorBack': WHATEVER THE INPUT: true; the input reads as it did. -/
def locatorBackSpec : ChangeSpec := { name := "locatorBack", fn := fun _ => fun
  | [d1, d2] => { results := [.lit (.bool true)], args := [d1, d2] }
  | _ => none }
def locatorBackRow : OpenClaim := { program := "ytnepgfplikifjaa", sum := "8d795a054f6c05c7ade55072f171f82ff6ca85830c3f8bced3facbc2222afbfa", func := "airline/airlinelaw34.LocatorBack", spec := "locatorBack", inPlace := ["internal/bytealg.IndexByteString"], unfollowed := true, recurses := true, apart := false }
def LocatorBackSaid : Prop := locatorBackRow.holds Try.pinned (OpenSpec.ofChange locatorBackSpec)

/-- ITS FALSE NEIGHBOUR: 'it returns false'. Refute it at one input. -/
def locatorBackWrong : ChangeSpec := { name := "locatorBack", fn := fun _ => fun
  | [d1, d2] => { results := [.lit (.bool false)], args := [d1, d2] }
  | _ => none }
def LocatorBackWrongFalsely : Prop := locatorBackRow.holds Try.pinned (OpenSpec.ofChange locatorBackWrong)

/-- 'airlinelaw34.LocatorApart': WHATEVER THE INPUT: true; the input reads as it did. -/
def locatorApartSpec : ChangeSpec := { name := "locatorApart", fn := fun _ => fun
  | [d1, d2, d3, d4] => { results := [.lit (.bool true)], args := [d1, d2, d3, d4] }
  | _ => none }
def locatorApartRow : OpenClaim := { program := "ytnepgfplikifjaa", sum := "8d795a054f6c05c7ade55072f171f82ff6ca85830c3f8bced3facbc2222afbfa", func := "airline/airlinelaw34.LocatorApart", spec := "locatorApart", inPlace := ["internal/bytealg.IndexByteString"], unfollowed := true, recurses := true, apart := false }
def LocatorApartSaid : Prop := locatorApartRow.holds Try.pinned (OpenSpec.ofChange locatorApartSpec)

/-- ITS FALSE NEIGHBOUR: 'it returns false'. Refute it at one input. -/
def locatorApartWrong : ChangeSpec := { name := "locatorApart", fn := fun _ => fun
  | [d1, d2, d3, d4] => { results := [.lit (.bool false)], args := [d1, d2, d3, d4] }
  | _ => none }
def LocatorApartWrongFalsely : Prop := locatorApartRow.holds Try.pinned (OpenSpec.ofChange locatorApartWrong)

/- THE SECOND FORM. 'bulk': how many values and letters a reading holds, each counted each time it is reached (what is shared counts as often as it is met; a slice's spare places count too). A statement '..UptoSaid' is the law's where the arguments, and the package variables that the reading takes, are together of bulk at most 1048576: NARROWER than '..Said'. Prove '..Said' where nothing that the law and all that it calls make is longer than what came in: it says more and counts as full. Else prove '..UptoSaid'. A law counts once. -/
mutual
def uptoBulk {H : Type} : DataW H → Nat
  | .lit (.string bytes) => bytes.length + 1
  | .lit _ => 1
  | .nil => 1
  | .ptr d => uptoBulk d + 1
  | .slice elems spare => uptoBulkAll elems + uptoBulkAll spare + 1
  | .agg parts => uptoBulkAll parts + 1
  | .iface _ d => uptoBulk d + 1
  | .map entries => uptoBulkEntries entries + 1
  | .held _ => 1
def uptoBulkAll {H : Type} : List (DataW H) → Nat
  | [] => 0
  | d :: r => uptoBulk d + uptoBulkAll r
def uptoBulkEntries {H : Type} : List (Lit × DataW H) → Nat
  | [] => 0
  | x :: r => uptoBulkEntry x + uptoBulkEntries r
def uptoBulkEntry {H : Type} : Lit × DataW H → Nat
  | (.string bytes, d) => bytes.length + uptoBulk d + 1
  | (_, d) => uptoBulk d + 1
 end
def uptoSmall : (H : Type) → List (DataW H) → Bool := fun _ ds => decide (uptoBulkAll ds ≤ 1048576)
def OpenSpec.upto (s : _root_.Go.ChangeSpec) : _root_.Go.OpenSpec := { _root_.Go.OpenSpec.ofChange s with cond := some uptoSmall }

/-- 'airlinelaw34.LocatorTells', WHERE WHAT IT READS IS OF BULK AT MOST 1048576: true; the input reads as it did. -/
def locatorTellsUptoRow : OpenClaim := { program := "ytnepgfplikifjaa", sum := "8d795a054f6c05c7ade55072f171f82ff6ca85830c3f8bced3facbc2222afbfa", func := "airline/airlinelaw34.LocatorTells", spec := "locatorTells", inPlace := ["internal/bytealg.IndexByteString"], unfollowed := true, recurses := true, apart := false, narrowed := true }
def LocatorTellsUptoSaid : Prop := locatorTellsUptoRow.holds Try.pinned (OpenSpec.upto locatorTellsSpec)

/-- 'airlinelaw34.LocatorBack', WHERE WHAT IT READS IS OF BULK AT MOST 1048576: true; the input reads as it did. -/
def locatorBackUptoRow : OpenClaim := { program := "ytnepgfplikifjaa", sum := "8d795a054f6c05c7ade55072f171f82ff6ca85830c3f8bced3facbc2222afbfa", func := "airline/airlinelaw34.LocatorBack", spec := "locatorBack", inPlace := ["internal/bytealg.IndexByteString"], unfollowed := true, recurses := true, apart := false, narrowed := true }
def LocatorBackUptoSaid : Prop := locatorBackUptoRow.holds Try.pinned (OpenSpec.upto locatorBackSpec)

/-- 'airlinelaw34.LocatorApart', WHERE WHAT IT READS IS OF BULK AT MOST 1048576: true; the input reads as it did. -/
def locatorApartUptoRow : OpenClaim := { program := "ytnepgfplikifjaa", sum := "8d795a054f6c05c7ade55072f171f82ff6ca85830c3f8bced3facbc2222afbfa", func := "airline/airlinelaw34.LocatorApart", spec := "locatorApart", inPlace := ["internal/bytealg.IndexByteString"], unfollowed := true, recurses := true, apart := false, narrowed := true }
def LocatorApartUptoSaid : Prop := locatorApartUptoRow.holds Try.pinned (OpenSpec.upto locatorApartSpec)

end Rows
end Go.Proofs.Ytnepgfplikifjaa
