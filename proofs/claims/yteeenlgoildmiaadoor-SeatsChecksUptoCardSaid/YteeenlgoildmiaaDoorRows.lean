/-
  NARROWER THAN 'FOR EVERY INPUT', by the rows' own cells (each row's printed sentence says how): SeatsAssigns: laid · SeatsChecks: laid · SeatsLess: laid · SeatsMost: laid · SeatsOrders: laid · SeatsValid: laid.
  DERIVED. THE GIVEN ROWS OF THIS SEAT. 6 by the template 'for every input the law returns true; each argument reads behind the call as it read before'; 0 by the template 'total and deterministic' (their statements: YteeenlgoildmiaaDoorTotals.lean).
  GIVEN WITH THE SEED: the statements are not yours to turn. If you find one false, say at which input.
  Laid BY PROGRAM, IN A SANDBOX (cutbox-rows.mjs): the forced cells as the released guide's own fill.sh prints them over the translation 5559c5ecb9c67ea7… (all of the seat's roots in one cut). By AI agents, Wed Nov 11 2026. No macro, syntax, notation, axiom, sorry.
-/
import Derived.Test.YteeenlgoildmiaaDoorChecked
import GoSem.Claim
import GoSem.ClaimJoined
import GoSem.ClaimMapViews
import Derived.JoinedTies
import Derived.KernelRfl
namespace Go.Proofs.YteeenlgoildmiaaDoor
/- THE CELL 'sum', in the pinned program and in every row, IS THE sha256 OF THE DUMP (.gsa) THAT YteeenlgoildmiaaDoorProg.lean LOADS. Nothing in Lean hashes anything: it is a label: what it is worth is what the hold of that sum in a sandbox is worth. -/
noncomputable def Tryd.pinned : Pinned := { name := "yteeenlgoildmiaadoor", sum := "5559c5ecb9c67ea7be5fd239b021b7d00d1f995638bda25807dbb1d7aca0ec08", checked := Tryd.checked }
namespace Rows
def none {H : Type} : Left H := { results := [], args := [] }

/- WHAT THE LISTED PACKAGE-LEVEL VARIABLES READ AS WHEN THE CALL BEGINS. Each datum BY PROGRAM (the guide's laid-datum.mjs) off the statement by which the dump's own 'gosem.cut.vars' lays the variable. In a bare row this is a premise. The card (YteeenlgoildmiaaDoorCards.lean) ties it to the program's text. -/
def laid_math_bits_deBruijn32tab {H : Type} : DataW H := .agg [.lit (.int .u8 0), .lit (.int .u8 1), .lit (.int .u8 28), .lit (.int .u8 2), .lit (.int .u8 29), .lit (.int .u8 14), .lit (.int .u8 24), .lit (.int .u8 3), .lit (.int .u8 30), .lit (.int .u8 22), .lit (.int .u8 20), .lit (.int .u8 15), .lit (.int .u8 25), .lit (.int .u8 17), .lit (.int .u8 4), .lit (.int .u8 8), .lit (.int .u8 31), .lit (.int .u8 27), .lit (.int .u8 13), .lit (.int .u8 23), .lit (.int .u8 21), .lit (.int .u8 19), .lit (.int .u8 16), .lit (.int .u8 7), .lit (.int .u8 26), .lit (.int .u8 12), .lit (.int .u8 18), .lit (.int .u8 6), .lit (.int .u8 11), .lit (.int .u8 5), .lit (.int .u8 10), .lit (.int .u8 9)]
def laid_math_bits_deBruijn64tab {H : Type} : DataW H := .agg [.lit (.int .u8 0), .lit (.int .u8 1), .lit (.int .u8 56), .lit (.int .u8 2), .lit (.int .u8 57), .lit (.int .u8 49), .lit (.int .u8 28), .lit (.int .u8 3), .lit (.int .u8 61), .lit (.int .u8 58), .lit (.int .u8 42), .lit (.int .u8 50), .lit (.int .u8 38), .lit (.int .u8 29), .lit (.int .u8 17), .lit (.int .u8 4), .lit (.int .u8 62), .lit (.int .u8 47), .lit (.int .u8 59), .lit (.int .u8 36), .lit (.int .u8 45), .lit (.int .u8 43), .lit (.int .u8 51), .lit (.int .u8 22), .lit (.int .u8 53), .lit (.int .u8 39), .lit (.int .u8 33), .lit (.int .u8 30), .lit (.int .u8 24), .lit (.int .u8 18), .lit (.int .u8 12), .lit (.int .u8 5), .lit (.int .u8 63), .lit (.int .u8 55), .lit (.int .u8 48), .lit (.int .u8 27), .lit (.int .u8 60), .lit (.int .u8 41), .lit (.int .u8 37), .lit (.int .u8 16), .lit (.int .u8 46), .lit (.int .u8 35), .lit (.int .u8 44), .lit (.int .u8 21), .lit (.int .u8 52), .lit (.int .u8 32), .lit (.int .u8 23), .lit (.int .u8 11), .lit (.int .u8 54), .lit (.int .u8 26), .lit (.int .u8 40), .lit (.int .u8 15), .lit (.int .u8 34), .lit (.int .u8 20), .lit (.int .u8 31), .lit (.int .u8 10), .lit (.int .u8 25), .lit (.int .u8 14), .lit (.int .u8 19), .lit (.int .u8 9), .lit (.int .u8 13), .lit (.int .u8 8), .lit (.int .u8 7), .lit (.int .u8 6)]
def laid_internal_strconv_uint64pow10 {H : Type} : DataW H := .agg [.lit (.int .u64 1), .lit (.int .u64 10), .lit (.int .u64 100), .lit (.int .u64 1000), .lit (.int .u64 10000), .lit (.int .u64 100000), .lit (.int .u64 1000000), .lit (.int .u64 10000000), .lit (.int .u64 100000000), .lit (.int .u64 1000000000), .lit (.int .u64 10000000000), .lit (.int .u64 100000000000), .lit (.int .u64 1000000000000), .lit (.int .u64 10000000000000), .lit (.int .u64 100000000000000), .lit (.int .u64 1000000000000000), .lit (.int .u64 10000000000000000), .lit (.int .u64 100000000000000000), .lit (.int .u64 1000000000000000000), .lit (.int .u64 10000000000000000000)]

/-- 'airlinelaw47.SeatsAssigns': WHATEVER THE INPUT: true; the input reads as it did. -/
def seatsAssignsSpec : ChangeSpec := { name := "seatsAssigns", fn := fun _ => fun
  | [d1, d2] => { results := [.lit (.bool true)], args := [d1, d2] }
  | _ => none }
def seatsAssignsRow : OpenClaim := { program := "yteeenlgoildmiaadoor", sum := "5559c5ecb9c67ea7be5fd239b021b7d00d1f995638bda25807dbb1d7aca0ec08", func := "airline/airlinelaw47.SeatsAssigns", spec := "seatsAssigns", unfollowed := true, recurses := true, named := ["internal/strconv.uint64pow10", "math/bits.deBruijn32tab", "math/bits.deBruijn64tab"], apart := false, laid := [("math/bits.deBruijn32tab", laid_math_bits_deBruijn32tab), ("math/bits.deBruijn64tab", laid_math_bits_deBruijn64tab), ("internal/strconv.uint64pow10", laid_internal_strconv_uint64pow10)] }
def SeatsAssignsSaid : Prop := seatsAssignsRow.holds Tryd.pinned (OpenSpec.ofChange seatsAssignsSpec)

/-- ITS FALSE NEIGHBOUR: 'it returns false'. Refute it at one input. -/
def seatsAssignsWrong : ChangeSpec := { name := "seatsAssigns", fn := fun _ => fun
  | [d1, d2] => { results := [.lit (.bool false)], args := [d1, d2] }
  | _ => none }
def SeatsAssignsWrongFalsely : Prop := seatsAssignsRow.holds Tryd.pinned (OpenSpec.ofChange seatsAssignsWrong)

/-- 'airlinelaw47.SeatsChecks': WHATEVER THE INPUT: true; the input reads as it did. -/
def seatsChecksSpec : ChangeSpec := { name := "seatsChecks", fn := fun _ => fun
  | [d] => { results := [.lit (.bool true)], args := [d] }
  | _ => none }
def seatsChecksRow : OpenClaim := { program := "yteeenlgoildmiaadoor", sum := "5559c5ecb9c67ea7be5fd239b021b7d00d1f995638bda25807dbb1d7aca0ec08", func := "airline/airlinelaw47.SeatsChecks", spec := "seatsChecks", unfollowed := true, recurses := true, named := ["internal/strconv.uint64pow10", "math/bits.deBruijn32tab", "math/bits.deBruijn64tab"], apart := false, laid := [("math/bits.deBruijn32tab", laid_math_bits_deBruijn32tab), ("math/bits.deBruijn64tab", laid_math_bits_deBruijn64tab), ("internal/strconv.uint64pow10", laid_internal_strconv_uint64pow10)] }
def SeatsChecksSaid : Prop := seatsChecksRow.holds Tryd.pinned (OpenSpec.ofChange seatsChecksSpec)

/-- ITS FALSE NEIGHBOUR: 'it returns false'. Refute it at one input. -/
def seatsChecksWrong : ChangeSpec := { name := "seatsChecks", fn := fun _ => fun
  | [d] => { results := [.lit (.bool false)], args := [d] }
  | _ => none }
def SeatsChecksWrongFalsely : Prop := seatsChecksRow.holds Tryd.pinned (OpenSpec.ofChange seatsChecksWrong)

/-- 'airlinelaw47.SeatsLess': WHATEVER THE INPUT: true; the input reads as it did. -/
def seatsLessSpec : ChangeSpec := { name := "seatsLess", fn := fun _ => fun
  | [d1, d2, d3] => { results := [.lit (.bool true)], args := [d1, d2, d3] }
  | _ => none }
def seatsLessRow : OpenClaim := { program := "yteeenlgoildmiaadoor", sum := "5559c5ecb9c67ea7be5fd239b021b7d00d1f995638bda25807dbb1d7aca0ec08", func := "airline/airlinelaw47.SeatsLess", spec := "seatsLess", unfollowed := true, recurses := true, named := ["internal/strconv.uint64pow10", "math/bits.deBruijn32tab", "math/bits.deBruijn64tab"], apart := false, laid := [("math/bits.deBruijn32tab", laid_math_bits_deBruijn32tab), ("math/bits.deBruijn64tab", laid_math_bits_deBruijn64tab), ("internal/strconv.uint64pow10", laid_internal_strconv_uint64pow10)] }
def SeatsLessSaid : Prop := seatsLessRow.holds Tryd.pinned (OpenSpec.ofChange seatsLessSpec)

/-- ITS FALSE NEIGHBOUR: 'it returns false'. Refute it at one input. -/
def seatsLessWrong : ChangeSpec := { name := "seatsLess", fn := fun _ => fun
  | [d1, d2, d3] => { results := [.lit (.bool false)], args := [d1, d2, d3] }
  | _ => none }
def SeatsLessWrongFalsely : Prop := seatsLessRow.holds Tryd.pinned (OpenSpec.ofChange seatsLessWrong)

/-- 'airlinelaw47.SeatsMost': WHATEVER THE INPUT: true; the input reads as it did. -/
def seatsMostSpec : ChangeSpec := { name := "seatsMost", fn := fun _ => fun
  | [d1, d2] => { results := [.lit (.bool true)], args := [d1, d2] }
  | _ => none }
def seatsMostRow : OpenClaim := { program := "yteeenlgoildmiaadoor", sum := "5559c5ecb9c67ea7be5fd239b021b7d00d1f995638bda25807dbb1d7aca0ec08", func := "airline/airlinelaw47.SeatsMost", spec := "seatsMost", unfollowed := true, recurses := true, named := ["internal/strconv.uint64pow10", "math/bits.deBruijn32tab", "math/bits.deBruijn64tab"], apart := false, laid := [("math/bits.deBruijn32tab", laid_math_bits_deBruijn32tab), ("math/bits.deBruijn64tab", laid_math_bits_deBruijn64tab), ("internal/strconv.uint64pow10", laid_internal_strconv_uint64pow10)] }
def SeatsMostSaid : Prop := seatsMostRow.holds Tryd.pinned (OpenSpec.ofChange seatsMostSpec)

/-- ITS FALSE NEIGHBOUR: 'it returns false'. Refute it at one input. -/
def seatsMostWrong : ChangeSpec := { name := "seatsMost", fn := fun _ => fun
  | [d1, d2] => { results := [.lit (.bool false)], args := [d1, d2] }
  | _ => none }
def SeatsMostWrongFalsely : Prop := seatsMostRow.holds Tryd.pinned (OpenSpec.ofChange seatsMostWrong)

/-- 'airlinelaw47.SeatsOrders': WHATEVER THE INPUT: true; the input reads as it did. -/
def seatsOrdersSpec : ChangeSpec := { name := "seatsOrders", fn := fun _ => fun
  | [d1, d2, d3] => { results := [.lit (.bool true)], args := [d1, d2, d3] }
  | _ => none }
def seatsOrdersRow : OpenClaim := { program := "yteeenlgoildmiaadoor", sum := "5559c5ecb9c67ea7be5fd239b021b7d00d1f995638bda25807dbb1d7aca0ec08", func := "airline/airlinelaw47.SeatsOrders", spec := "seatsOrders", unfollowed := true, recurses := true, named := ["internal/strconv.uint64pow10", "math/bits.deBruijn32tab", "math/bits.deBruijn64tab"], apart := false, laid := [("math/bits.deBruijn32tab", laid_math_bits_deBruijn32tab), ("math/bits.deBruijn64tab", laid_math_bits_deBruijn64tab), ("internal/strconv.uint64pow10", laid_internal_strconv_uint64pow10)] }
def SeatsOrdersSaid : Prop := seatsOrdersRow.holds Tryd.pinned (OpenSpec.ofChange seatsOrdersSpec)

/-- ITS FALSE NEIGHBOUR: 'it returns false'. Refute it at one input. -/
def seatsOrdersWrong : ChangeSpec := { name := "seatsOrders", fn := fun _ => fun
  | [d1, d2, d3] => { results := [.lit (.bool false)], args := [d1, d2, d3] }
  | _ => none }
def SeatsOrdersWrongFalsely : Prop := seatsOrdersRow.holds Tryd.pinned (OpenSpec.ofChange seatsOrdersWrong)

/-- 'airlinelaw47.SeatsValid': WHATEVER THE INPUT: true; the input reads as it did. -/
def seatsValidSpec : ChangeSpec := { name := "seatsValid", fn := fun _ => fun
  | [d1, d2, d3] => { results := [.lit (.bool true)], args := [d1, d2, d3] }
  | _ => none }
def seatsValidRow : OpenClaim := { program := "yteeenlgoildmiaadoor", sum := "5559c5ecb9c67ea7be5fd239b021b7d00d1f995638bda25807dbb1d7aca0ec08", func := "airline/airlinelaw47.SeatsValid", spec := "seatsValid", unfollowed := true, recurses := true, named := ["internal/strconv.uint64pow10", "math/bits.deBruijn32tab", "math/bits.deBruijn64tab"], apart := false, laid := [("math/bits.deBruijn32tab", laid_math_bits_deBruijn32tab), ("math/bits.deBruijn64tab", laid_math_bits_deBruijn64tab), ("internal/strconv.uint64pow10", laid_internal_strconv_uint64pow10)] }
def SeatsValidSaid : Prop := seatsValidRow.holds Tryd.pinned (OpenSpec.ofChange seatsValidSpec)

/-- ITS FALSE NEIGHBOUR: 'it returns false'. Refute it at one input. -/
def seatsValidWrong : ChangeSpec := { name := "seatsValid", fn := fun _ => fun
  | [d1, d2, d3] => { results := [.lit (.bool false)], args := [d1, d2, d3] }
  | _ => none }
def SeatsValidWrongFalsely : Prop := seatsValidRow.holds Tryd.pinned (OpenSpec.ofChange seatsValidWrong)

/- THE SECOND FORM. 'bulk': how many values and letters a reading holds, each counted each time it is reached (what is shared counts as often as it is met; a slice's spare places count too). A statement '..UptoSaid' is the law's where the arguments, and the package variables that the reading takes, are together of bulk at most 1048576: NARROWER than '..Said'. Prove '..Said' where nothing that the law and all that it calls make is longer than what came in: it says more and counts as full. Else prove '..UptoSaid'. A law counts once. -/
mutual
def uptoBulk {H : Type} : DataW H → Nat
  | .lit (.string bytes) => bytes.length + 1
  | .lit _ => 1
  | .nil => 1
  | .ptr d => uptoBulk d + 1
  | .slice elems spare => uptoBulkAll elems + uptoBulkAll spare + 1
  | .agg parts => uptoBulkAll parts + 1
  | .iface _ d => uptoBulk d + 1
  | .map entries => uptoBulkEntries entries + 1
  | .held _ => 1
def uptoBulkAll {H : Type} : List (DataW H) → Nat
  | [] => 0
  | d :: r => uptoBulk d + uptoBulkAll r
def uptoBulkEntries {H : Type} : List (Lit × DataW H) → Nat
  | [] => 0
  | x :: r => uptoBulkEntry x + uptoBulkEntries r
def uptoBulkEntry {H : Type} : Lit × DataW H → Nat
  | (.string bytes, d) => bytes.length + uptoBulk d + 1
  | (_, d) => uptoBulk d + 1
 end
def uptoSmall : (H : Type) → List (DataW H) → Bool := fun _ ds => decide (uptoBulkAll ds ≤ 1048576)
def OpenSpec.upto (s : _root_.Go.ChangeSpec) : _root_.Go.OpenSpec := { _root_.Go.OpenSpec.ofChange s with cond := some uptoSmall }

/-- 'airlinelaw47.SeatsAssigns', WHERE WHAT IT READS IS OF BULK AT MOST 1048576: true; the input reads as it did. -/
def seatsAssignsUptoRow : OpenClaim := { program := "yteeenlgoildmiaadoor", sum := "5559c5ecb9c67ea7be5fd239b021b7d00d1f995638bda25807dbb1d7aca0ec08", func := "airline/airlinelaw47.SeatsAssigns", spec := "seatsAssigns", unfollowed := true, recurses := true, named := ["internal/strconv.uint64pow10", "math/bits.deBruijn32tab", "math/bits.deBruijn64tab"], apart := false, laid := [("math/bits.deBruijn32tab", laid_math_bits_deBruijn32tab), ("math/bits.deBruijn64tab", laid_math_bits_deBruijn64tab), ("internal/strconv.uint64pow10", laid_internal_strconv_uint64pow10)], narrowed := true }
def SeatsAssignsUptoSaid : Prop := seatsAssignsUptoRow.holds Tryd.pinned (OpenSpec.upto seatsAssignsSpec)

/-- 'airlinelaw47.SeatsChecks', WHERE WHAT IT READS IS OF BULK AT MOST 1048576: true; the input reads as it did. -/
def seatsChecksUptoRow : OpenClaim := { program := "yteeenlgoildmiaadoor", sum := "5559c5ecb9c67ea7be5fd239b021b7d00d1f995638bda25807dbb1d7aca0ec08", func := "airline/airlinelaw47.SeatsChecks", spec := "seatsChecks", unfollowed := true, recurses := true, named := ["internal/strconv.uint64pow10", "math/bits.deBruijn32tab", "math/bits.deBruijn64tab"], apart := false, laid := [("math/bits.deBruijn32tab", laid_math_bits_deBruijn32tab), ("math/bits.deBruijn64tab", laid_math_bits_deBruijn64tab), ("internal/strconv.uint64pow10", laid_internal_strconv_uint64pow10)], narrowed := true }
def SeatsChecksUptoSaid : Prop := seatsChecksUptoRow.holds Tryd.pinned (OpenSpec.upto seatsChecksSpec)

/-- 'airlinelaw47.SeatsLess', WHERE WHAT IT READS IS OF BULK AT MOST 1048576: true; the input reads as it did. -/
def seatsLessUptoRow : OpenClaim := { program := "yteeenlgoildmiaadoor", sum := "5559c5ecb9c67ea7be5fd239b021b7d00d1f995638bda25807dbb1d7aca0ec08", func := "airline/airlinelaw47.SeatsLess", spec := "seatsLess", unfollowed := true, recurses := true, named := ["internal/strconv.uint64pow10", "math/bits.deBruijn32tab", "math/bits.deBruijn64tab"], apart := false, laid := [("math/bits.deBruijn32tab", laid_math_bits_deBruijn32tab), ("math/bits.deBruijn64tab", laid_math_bits_deBruijn64tab), ("internal/strconv.uint64pow10", laid_internal_strconv_uint64pow10)], narrowed := true }
def SeatsLessUptoSaid : Prop := seatsLessUptoRow.holds Tryd.pinned (OpenSpec.upto seatsLessSpec)

/-- 'airlinelaw47.SeatsMost', WHERE WHAT IT READS IS OF BULK AT MOST 1048576: true; the input reads as it did. -/
def seatsMostUptoRow : OpenClaim := { program := "yteeenlgoildmiaadoor", sum := "5559c5ecb9c67ea7be5fd239b021b7d00d1f995638bda25807dbb1d7aca0ec08", func := "airline/airlinelaw47.SeatsMost", spec := "seatsMost", unfollowed := true, recurses := true, named := ["internal/strconv.uint64pow10", "math/bits.deBruijn32tab", "math/bits.deBruijn64tab"], apart := false, laid := [("math/bits.deBruijn32tab", laid_math_bits_deBruijn32tab), ("math/bits.deBruijn64tab", laid_math_bits_deBruijn64tab), ("internal/strconv.uint64pow10", laid_internal_strconv_uint64pow10)], narrowed := true }
def SeatsMostUptoSaid : Prop := seatsMostUptoRow.holds Tryd.pinned (OpenSpec.upto seatsMostSpec)

/-- 'airlinelaw47.SeatsOrders', WHERE WHAT IT READS IS OF BULK AT MOST 1048576: true; the input reads as it did. -/
def seatsOrdersUptoRow : OpenClaim := { program := "yteeenlgoildmiaadoor", sum := "5559c5ecb9c67ea7be5fd239b021b7d00d1f995638bda25807dbb1d7aca0ec08", func := "airline/airlinelaw47.SeatsOrders", spec := "seatsOrders", unfollowed := true, recurses := true, named := ["internal/strconv.uint64pow10", "math/bits.deBruijn32tab", "math/bits.deBruijn64tab"], apart := false, laid := [("math/bits.deBruijn32tab", laid_math_bits_deBruijn32tab), ("math/bits.deBruijn64tab", laid_math_bits_deBruijn64tab), ("internal/strconv.uint64pow10", laid_internal_strconv_uint64pow10)], narrowed := true }
def SeatsOrdersUptoSaid : Prop := seatsOrdersUptoRow.holds Tryd.pinned (OpenSpec.upto seatsOrdersSpec)

/-- 'airlinelaw47.SeatsValid', WHERE WHAT IT READS IS OF BULK AT MOST 1048576: true; the input reads as it did. -/
def seatsValidUptoRow : OpenClaim := { program := "yteeenlgoildmiaadoor", sum := "5559c5ecb9c67ea7be5fd239b021b7d00d1f995638bda25807dbb1d7aca0ec08", func := "airline/airlinelaw47.SeatsValid", spec := "seatsValid", unfollowed := true, recurses := true, named := ["internal/strconv.uint64pow10", "math/bits.deBruijn32tab", "math/bits.deBruijn64tab"], apart := false, laid := [("math/bits.deBruijn32tab", laid_math_bits_deBruijn32tab), ("math/bits.deBruijn64tab", laid_math_bits_deBruijn64tab), ("internal/strconv.uint64pow10", laid_internal_strconv_uint64pow10)], narrowed := true }
def SeatsValidUptoSaid : Prop := seatsValidUptoRow.holds Tryd.pinned (OpenSpec.upto seatsValidSpec)

end Rows
end Go.Proofs.YteeenlgoildmiaaDoor
