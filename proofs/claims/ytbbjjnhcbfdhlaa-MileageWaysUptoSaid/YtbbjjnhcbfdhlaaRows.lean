/-
  No cell of these rows narrows 'for every input' (looked for: loops, veiled, ifaces, maps, wideKeys, modest, calm, conditions, laid).
  DERIVED. THE GIVEN ROWS OF THIS SEAT. 3 by the template 'for every input the law returns true; each argument reads behind the call as it read before'; 0 by the template 'total and deterministic' (their statements: YtbbjjnhcbfdhlaaTotals.lean).
  GIVEN WITH THE SEED: the statements are not yours to turn. If you find one false, say at which input.
  Laid BY PROGRAM, IN A SANDBOX (cutbox-rows.mjs): the forced cells as the released guide's own fill.sh prints them over the translation 18375cc58d48961a… (all of the seat's roots in one cut). By AI agents, Wed Nov 11 2026. No macro, syntax, notation, axiom, sorry.
-/
import Derived.Test.YtbbjjnhcbfdhlaaChecked
import GoSem.Claim
import GoSem.ClaimJoined
import GoSem.ClaimMapViews
import Derived.JoinedTies
import Derived.KernelRfl
namespace Go.Proofs.Ytbbjjnhcbfdhlaa
/- THE CELL 'sum', in the pinned program and in every row, IS THE sha256 OF THE DUMP (.gsa) THAT YtbbjjnhcbfdhlaaProg.lean LOADS. Nothing in Lean hashes anything: it is a label: what it is worth is what the hold of that sum in a sandbox is worth. -/
noncomputable def Try.pinned : Pinned := { name := "ytbbjjnhcbfdhlaa", sum := "18375cc58d48961a3ba9ee767a5442af610fc9e4fd5024c374b154f11c344266", checked := Try.checked }
namespace Rows
def none {H : Type} : Left H := { results := [], args := [] }

/-- 'airlinelaw23.MileageLevels': WHATEVER THE INPUT: true; the input reads as it did. -/
def mileageLevelsSpec : ChangeSpec := { name := "mileageLevels", fn := fun _ => fun
  | [d1, d2, d3] => { results := [.lit (.bool true)], args := [d1, d2, d3] }
  | _ => none }
def mileageLevelsRow : OpenClaim := { program := "ytbbjjnhcbfdhlaa", sum := "18375cc58d48961a3ba9ee767a5442af610fc9e4fd5024c374b154f11c344266", func := "airline/airlinelaw23.MileageLevels", spec := "mileageLevels", unfollowed := true, recurses := true, named := ["math/bits.divideError", "math/bits.overflowError"], apart := false }
def MileageLevelsSaid : Prop := mileageLevelsRow.holds Try.pinned (OpenSpec.ofChange mileageLevelsSpec)

/-- ITS FALSE NEIGHBOUR: 'it returns false'. Refute it at one input. -/
def mileageLevelsWrong : ChangeSpec := { name := "mileageLevels", fn := fun _ => fun
  | [d1, d2, d3] => { results := [.lit (.bool false)], args := [d1, d2, d3] }
  | _ => none }
def MileageLevelsWrongFalsely : Prop := mileageLevelsRow.holds Try.pinned (OpenSpec.ofChange mileageLevelsWrong)

/-- 'airlinelaw23.MileageWays': WHATEVER THE INPUT: true; the input reads as it did. -/
def mileageWaysSpec : ChangeSpec := { name := "mileageWays", fn := fun _ => fun
  | [d1, d2, d3] => { results := [.lit (.bool true)], args := [d1, d2, d3] }
  | _ => none }
def mileageWaysRow : OpenClaim := { program := "ytbbjjnhcbfdhlaa", sum := "18375cc58d48961a3ba9ee767a5442af610fc9e4fd5024c374b154f11c344266", func := "airline/airlinelaw23.MileageWays", spec := "mileageWays", unfollowed := true, recurses := true, named := ["math/bits.divideError", "math/bits.overflowError"], apart := false }
def MileageWaysSaid : Prop := mileageWaysRow.holds Try.pinned (OpenSpec.ofChange mileageWaysSpec)

/-- ITS FALSE NEIGHBOUR: 'it returns false'. Refute it at one input. -/
def mileageWaysWrong : ChangeSpec := { name := "mileageWays", fn := fun _ => fun
  | [d1, d2, d3] => { results := [.lit (.bool false)], args := [d1, d2, d3] }
  | _ => none }
def MileageWaysWrongFalsely : Prop := mileageWaysRow.holds Try.pinned (OpenSpec.ofChange mileageWaysWrong)

/-- 'airlinelaw23.MileageLeast': WHATEVER THE INPUT: true; the input reads as it did. -/
def mileageLeastSpec : ChangeSpec := { name := "mileageLeast", fn := fun _ => fun
  | [d1, d2, d3] => { results := [.lit (.bool true)], args := [d1, d2, d3] }
  | _ => none }
def mileageLeastRow : OpenClaim := { program := "ytbbjjnhcbfdhlaa", sum := "18375cc58d48961a3ba9ee767a5442af610fc9e4fd5024c374b154f11c344266", func := "airline/airlinelaw23.MileageLeast", spec := "mileageLeast", unfollowed := true, recurses := true, named := ["math/bits.divideError", "math/bits.overflowError"], apart := false }
def MileageLeastSaid : Prop := mileageLeastRow.holds Try.pinned (OpenSpec.ofChange mileageLeastSpec)

/-- ITS FALSE NEIGHBOUR: 'it returns false'. Refute it at one input. -/
def mileageLeastWrong : ChangeSpec := { name := "mileageLeast", fn := fun _ => fun
  | [d1, d2, d3] => { results := [.lit (.bool false)], args := [d1, d2, d3] }
  | _ => none }
def MileageLeastWrongFalsely : Prop := mileageLeastRow.holds Try.pinned (OpenSpec.ofChange mileageLeastWrong)

/- THE SECOND FORM. 'bulk': how many values and letters a reading holds, each counted each time it is reached (what is shared counts as often as it is met; a slice's spare places count too). A statement '..UptoSaid' is the law's where the arguments, and the package variables that the reading takes, are together of bulk at most 1048576: NARROWER than '..Said'. Prove '..Said' where nothing that the law and all that it calls make is longer than what came in: it says more and counts as full. Else prove '..UptoSaid'. A law counts once. -/
mutual
def uptoBulk {H : Type} : DataW H → Nat
  | .lit (.string bytes) => bytes.length + 1
  | .lit _ => 1
  | .nil => 1
  | .ptr d => uptoBulk d + 1
  | .slice elems spare => uptoBulkAll elems + uptoBulkAll spare + 1
  | .agg parts => uptoBulkAll parts + 1
  | .iface _ d => uptoBulk d + 1
  | .map entries => uptoBulkEntries entries + 1
  | .held _ => 1
def uptoBulkAll {H : Type} : List (DataW H) → Nat
  | [] => 0
  | d :: r => uptoBulk d + uptoBulkAll r
def uptoBulkEntries {H : Type} : List (Lit × DataW H) → Nat
  | [] => 0
  | x :: r => uptoBulkEntry x + uptoBulkEntries r
def uptoBulkEntry {H : Type} : Lit × DataW H → Nat
  | (.string bytes, d) => bytes.length + uptoBulk d + 1
  | (_, d) => uptoBulk d + 1
 end
def uptoSmall : (H : Type) → List (DataW H) → Bool := fun _ ds => decide (uptoBulkAll ds ≤ 1048576)
def OpenSpec.upto (s : _root_.Go.ChangeSpec) : _root_.Go.OpenSpec := { _root_.Go.OpenSpec.ofChange s with cond := some uptoSmall }

/-- 'airlinelaw23.MileageLevels', WHERE WHAT IT READS IS OF BULK AT MOST 1048576: true; the input reads as it did. -/
def mileageLevelsUptoRow : OpenClaim := { program := "ytbbjjnhcbfdhlaa", sum := "18375cc58d48961a3ba9ee767a5442af610fc9e4fd5024c374b154f11c344266", func := "airline/airlinelaw23.MileageLevels", spec := "mileageLevels", unfollowed := true, recurses := true, named := ["math/bits.divideError", "math/bits.overflowError"], apart := false, narrowed := true }
def MileageLevelsUptoSaid : Prop := mileageLevelsUptoRow.holds Try.pinned (OpenSpec.upto mileageLevelsSpec)

/-- 'airlinelaw23.MileageWays', WHERE WHAT IT READS IS OF BULK AT MOST 1048576: true; the input reads as it did. -/
def mileageWaysUptoRow : OpenClaim := { program := "ytbbjjnhcbfdhlaa", sum := "18375cc58d48961a3ba9ee767a5442af610fc9e4fd5024c374b154f11c344266", func := "airline/airlinelaw23.MileageWays", spec := "mileageWays", unfollowed := true, recurses := true, named := ["math/bits.divideError", "math/bits.overflowError"], apart := false, narrowed := true }
def MileageWaysUptoSaid : Prop := mileageWaysUptoRow.holds Try.pinned (OpenSpec.upto mileageWaysSpec)

/-- 'airlinelaw23.MileageLeast', WHERE WHAT IT READS IS OF BULK AT MOST 1048576: true; the input reads as it did. -/
def mileageLeastUptoRow : OpenClaim := { program := "ytbbjjnhcbfdhlaa", sum := "18375cc58d48961a3ba9ee767a5442af610fc9e4fd5024c374b154f11c344266", func := "airline/airlinelaw23.MileageLeast", spec := "mileageLeast", unfollowed := true, recurses := true, named := ["math/bits.divideError", "math/bits.overflowError"], apart := false, narrowed := true }
def MileageLeastUptoSaid : Prop := mileageLeastUptoRow.holds Try.pinned (OpenSpec.upto mileageLeastSpec)

end Rows
end Go.Proofs.Ytbbjjnhcbfdhlaa
