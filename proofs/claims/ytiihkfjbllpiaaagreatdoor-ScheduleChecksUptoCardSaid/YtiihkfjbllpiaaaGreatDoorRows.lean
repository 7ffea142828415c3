/-
  NARROWER THAN 'FOR EVERY INPUT', by the rows' own cells (each row's printed sentence says how): ScheduleChecks: laid · ScheduleDays: laid · ScheduleFinds: laid · ScheduleSegs: laid · CodeshareChecks: laid · CodeshareCovers: laid · CodeshareFinds: laid · CodeshareSame: laid · CodeshareSold: laid.
  DERIVED. THE GIVEN ROWS OF THIS SEAT. 9 by the template 'for every input the law returns true; each argument reads behind the call as it read before'; 0 by the template 'total and deterministic' (their statements: YtiihkfjbllpiaaaGreatDoorTotals.lean).
  GIVEN WITH THE SEED: the statements are not yours to turn. If you find one false, say at which input.
  Laid BY PROGRAM, IN A SANDBOX (cutbox-rows.mjs): the forced cells as the released guide's own fill.sh prints them over the translation e3b14eb13416ef9f… (all of the seat's roots in one cut). By AI agents, Wed Nov 11 2026. No macro, syntax, notation, axiom, sorry.
-/
import Derived.Test.YtiihkfjbllpiaaaGreatDoorChecked
import GoSem.Claim
import GoSem.ClaimJoined
import GoSem.ClaimMapViews
import Derived.JoinedTies
import Derived.KernelRfl
namespace Go.Proofs.YtiihkfjbllpiaaaGreatDoor
/- THE CELL 'sum', in the pinned program and in every row, IS THE sha256 OF THE DUMP (.gsa) THAT YtiihkfjbllpiaaaGreatDoorProg.lean LOADS. Nothing in Lean hashes anything: it is a label: what it is worth is what the hold of that sum in a sandbox is worth. -/
noncomputable def Tryz.pinned : Pinned := { name := "ytiihkfjbllpiaaagreatdoor", sum := "e3b14eb13416ef9ffd3e2ba9596f75d125ed5cbaf2578426176e74cf155ca8ed", checked := Tryz.checked }
namespace Rows
def none {H : Type} : Left H := { results := [], args := [] }

/- WHAT THE LISTED PACKAGE-LEVEL VARIABLES READ AS WHEN THE CALL BEGINS. Each datum BY PROGRAM (the guide's laid-datum.mjs) off the statement by which the dump's own 'gosem.cut.vars' lays the variable. In a bare row this is a premise. The card (YtiihkfjbllpiaaaGreatDoorCards.lean) ties it to the program's text. -/
def laid_airline_calendar_lengths {H : Type} : DataW H := .agg [.lit (.int .i64 31), .lit (.int .i64 28), .lit (.int .i64 31), .lit (.int .i64 30), .lit (.int .i64 31), .lit (.int .i64 30), .lit (.int .i64 31), .lit (.int .i64 31), .lit (.int .i64 30), .lit (.int .i64 31), .lit (.int .i64 30), .lit (.int .i64 31)]
def laid_math_bits_deBruijn32tab {H : Type} : DataW H := .agg [.lit (.int .u8 0), .lit (.int .u8 1), .lit (.int .u8 28), .lit (.int .u8 2), .lit (.int .u8 29), .lit (.int .u8 14), .lit (.int .u8 24), .lit (.int .u8 3), .lit (.int .u8 30), .lit (.int .u8 22), .lit (.int .u8 20), .lit (.int .u8 15), .lit (.int .u8 25), .lit (.int .u8 17), .lit (.int .u8 4), .lit (.int .u8 8), .lit (.int .u8 31), .lit (.int .u8 27), .lit (.int .u8 13), .lit (.int .u8 23), .lit (.int .u8 21), .lit (.int .u8 19), .lit (.int .u8 16), .lit (.int .u8 7), .lit (.int .u8 26), .lit (.int .u8 12), .lit (.int .u8 18), .lit (.int .u8 6), .lit (.int .u8 11), .lit (.int .u8 5), .lit (.int .u8 10), .lit (.int .u8 9)]
def laid_math_bits_deBruijn64tab {H : Type} : DataW H := .agg [.lit (.int .u8 0), .lit (.int .u8 1), .lit (.int .u8 56), .lit (.int .u8 2), .lit (.int .u8 57), .lit (.int .u8 49), .lit (.int .u8 28), .lit (.int .u8 3), .lit (.int .u8 61), .lit (.int .u8 58), .lit (.int .u8 42), .lit (.int .u8 50), .lit (.int .u8 38), .lit (.int .u8 29), .lit (.int .u8 17), .lit (.int .u8 4), .lit (.int .u8 62), .lit (.int .u8 47), .lit (.int .u8 59), .lit (.int .u8 36), .lit (.int .u8 45), .lit (.int .u8 43), .lit (.int .u8 51), .lit (.int .u8 22), .lit (.int .u8 53), .lit (.int .u8 39), .lit (.int .u8 33), .lit (.int .u8 30), .lit (.int .u8 24), .lit (.int .u8 18), .lit (.int .u8 12), .lit (.int .u8 5), .lit (.int .u8 63), .lit (.int .u8 55), .lit (.int .u8 48), .lit (.int .u8 27), .lit (.int .u8 60), .lit (.int .u8 41), .lit (.int .u8 37), .lit (.int .u8 16), .lit (.int .u8 46), .lit (.int .u8 35), .lit (.int .u8 44), .lit (.int .u8 21), .lit (.int .u8 52), .lit (.int .u8 32), .lit (.int .u8 23), .lit (.int .u8 11), .lit (.int .u8 54), .lit (.int .u8 26), .lit (.int .u8 40), .lit (.int .u8 15), .lit (.int .u8 34), .lit (.int .u8 20), .lit (.int .u8 31), .lit (.int .u8 10), .lit (.int .u8 25), .lit (.int .u8 14), .lit (.int .u8 19), .lit (.int .u8 9), .lit (.int .u8 13), .lit (.int .u8 8), .lit (.int .u8 7), .lit (.int .u8 6)]
def laid_internal_strconv_uint64pow10 {H : Type} : DataW H := .agg [.lit (.int .u64 1), .lit (.int .u64 10), .lit (.int .u64 100), .lit (.int .u64 1000), .lit (.int .u64 10000), .lit (.int .u64 100000), .lit (.int .u64 1000000), .lit (.int .u64 10000000), .lit (.int .u64 100000000), .lit (.int .u64 1000000000), .lit (.int .u64 10000000000), .lit (.int .u64 100000000000), .lit (.int .u64 1000000000000), .lit (.int .u64 10000000000000), .lit (.int .u64 100000000000000), .lit (.int .u64 1000000000000000), .lit (.int .u64 10000000000000000), .lit (.int .u64 100000000000000000), .lit (.int .u64 1000000000000000000), .lit (.int .u64 10000000000000000000)]

/-- 'airlinelaw08.ScheduleChecks': WHATEVER THE INPUT: true; the input reads as it did. -/
def scheduleChecksSpec : ChangeSpec := { name := "scheduleChecks", fn := fun _ => fun
  | [d1, d2] => { results := [.lit (.bool true)], args := [d1, d2] }
  | _ => none }
def scheduleChecksRow : OpenClaim := { program := "ytiihkfjbllpiaaagreatdoor", sum := "e3b14eb13416ef9ffd3e2ba9596f75d125ed5cbaf2578426176e74cf155ca8ed", func := "airline/airlinelaw08.ScheduleChecks", spec := "scheduleChecks", unfollowed := true, recurses := true, named := ["internal/strconv.uint64pow10", "math/bits.deBruijn32tab", "math/bits.deBruijn64tab", "airline/calendar.lengths"], apart := false, laid := [("airline/calendar.lengths", laid_airline_calendar_lengths), ("math/bits.deBruijn32tab", laid_math_bits_deBruijn32tab), ("math/bits.deBruijn64tab", laid_math_bits_deBruijn64tab), ("internal/strconv.uint64pow10", laid_internal_strconv_uint64pow10)] }
def ScheduleChecksSaid : Prop := scheduleChecksRow.holds Tryz.pinned (OpenSpec.ofChange scheduleChecksSpec)

/-- ITS FALSE NEIGHBOUR: 'it returns false'. Refute it at one input. -/
def scheduleChecksWrong : ChangeSpec := { name := "scheduleChecks", fn := fun _ => fun
  | [d1, d2] => { results := [.lit (.bool false)], args := [d1, d2] }
  | _ => none }
def ScheduleChecksWrongFalsely : Prop := scheduleChecksRow.holds Tryz.pinned (OpenSpec.ofChange scheduleChecksWrong)

/-- 'airlinelaw08.ScheduleDays': WHATEVER THE INPUT: true; the input reads as it did. -/
def scheduleDaysSpec : ChangeSpec := { name := "scheduleDays", fn := fun _ => fun
  | [d1, d2, d3] => { results := [.lit (.bool true)], args := [d1, d2, d3] }
  | _ => none }
def scheduleDaysRow : OpenClaim := { program := "ytiihkfjbllpiaaagreatdoor", sum := "e3b14eb13416ef9ffd3e2ba9596f75d125ed5cbaf2578426176e74cf155ca8ed", func := "airline/airlinelaw08.ScheduleDays", spec := "scheduleDays", unfollowed := true, recurses := true, named := ["internal/strconv.uint64pow10", "math/bits.deBruijn32tab", "math/bits.deBruijn64tab", "airline/calendar.lengths"], apart := false, laid := [("airline/calendar.lengths", laid_airline_calendar_lengths), ("math/bits.deBruijn32tab", laid_math_bits_deBruijn32tab), ("math/bits.deBruijn64tab", laid_math_bits_deBruijn64tab), ("internal/strconv.uint64pow10", laid_internal_strconv_uint64pow10)] }
def ScheduleDaysSaid : Prop := scheduleDaysRow.holds Tryz.pinned (OpenSpec.ofChange scheduleDaysSpec)

/-- ITS FALSE NEIGHBOUR: 'it returns false'. Refute it at one input. -/
def scheduleDaysWrong : ChangeSpec := { name := "scheduleDays", fn := fun _ => fun
  | [d1, d2, d3] => { results := [.lit (.bool false)], args := [d1, d2, d3] }
  | _ => none }
def ScheduleDaysWrongFalsely : Prop := scheduleDaysRow.holds Tryz.pinned (OpenSpec.ofChange scheduleDaysWrong)

/-- 'airlinelaw08.ScheduleFinds': WHATEVER THE INPUT: true; the input reads as it did. -/
def scheduleFindsSpec : ChangeSpec := { name := "scheduleFinds", fn := fun _ => fun
  | [d1, d2, d3] => { results := [.lit (.bool true)], args := [d1, d2, d3] }
  | _ => none }
def scheduleFindsRow : OpenClaim := { program := "ytiihkfjbllpiaaagreatdoor", sum := "e3b14eb13416ef9ffd3e2ba9596f75d125ed5cbaf2578426176e74cf155ca8ed", func := "airline/airlinelaw08.ScheduleFinds", spec := "scheduleFinds", unfollowed := true, recurses := true, named := ["internal/strconv.uint64pow10", "math/bits.deBruijn32tab", "math/bits.deBruijn64tab", "airline/calendar.lengths"], apart := false, laid := [("airline/calendar.lengths", laid_airline_calendar_lengths), ("math/bits.deBruijn32tab", laid_math_bits_deBruijn32tab), ("math/bits.deBruijn64tab", laid_math_bits_deBruijn64tab), ("internal/strconv.uint64pow10", laid_internal_strconv_uint64pow10)] }
def ScheduleFindsSaid : Prop := scheduleFindsRow.holds Tryz.pinned (OpenSpec.ofChange scheduleFindsSpec)

/-- ITS FALSE NEIGHBOUR: 'it returns false'. Refute it at one input. -/
def scheduleFindsWrong : ChangeSpec := { name := "scheduleFinds", fn := fun _ => fun
  | [d1, d2, d3] => { results := [.lit (.bool false)], args := [d1, d2, d3] }
  | _ => none }
def ScheduleFindsWrongFalsely : Prop := scheduleFindsRow.holds Tryz.pinned (OpenSpec.ofChange scheduleFindsWrong)

/-- 'airlinelaw08.ScheduleSegs': WHATEVER THE INPUT: true; the input reads as it did. -/
def scheduleSegsSpec : ChangeSpec := { name := "scheduleSegs", fn := fun _ => fun
  | [d1, d2, d3, d4] => { results := [.lit (.bool true)], args := [d1, d2, d3, d4] }
  | _ => none }
def scheduleSegsRow : OpenClaim := { program := "ytiihkfjbllpiaaagreatdoor", sum := "e3b14eb13416ef9ffd3e2ba9596f75d125ed5cbaf2578426176e74cf155ca8ed", func := "airline/airlinelaw08.ScheduleSegs", spec := "scheduleSegs", unfollowed := true, recurses := true, named := ["internal/strconv.uint64pow10", "math/bits.deBruijn32tab", "math/bits.deBruijn64tab", "airline/calendar.lengths"], apart := false, laid := [("airline/calendar.lengths", laid_airline_calendar_lengths), ("math/bits.deBruijn32tab", laid_math_bits_deBruijn32tab), ("math/bits.deBruijn64tab", laid_math_bits_deBruijn64tab), ("internal/strconv.uint64pow10", laid_internal_strconv_uint64pow10)] }
def ScheduleSegsSaid : Prop := scheduleSegsRow.holds Tryz.pinned (OpenSpec.ofChange scheduleSegsSpec)

/-- ITS FALSE NEIGHBOUR: 'it returns false'. Refute it at one input. -/
def scheduleSegsWrong : ChangeSpec := { name := "scheduleSegs", fn := fun _ => fun
  | [d1, d2, d3, d4] => { results := [.lit (.bool false)], args := [d1, d2, d3, d4] }
  | _ => none }
def ScheduleSegsWrongFalsely : Prop := scheduleSegsRow.holds Tryz.pinned (OpenSpec.ofChange scheduleSegsWrong)

/-- 'airlinelaw09.CodeshareChecks': WHATEVER THE INPUT: true; the input reads as it did. -/
def codeshareChecksSpec : ChangeSpec := { name := "codeshareChecks", fn := fun _ => fun
  | [d1, d2, d3] => { results := [.lit (.bool true)], args := [d1, d2, d3] }
  | _ => none }
def codeshareChecksRow : OpenClaim := { program := "ytiihkfjbllpiaaagreatdoor", sum := "e3b14eb13416ef9ffd3e2ba9596f75d125ed5cbaf2578426176e74cf155ca8ed", func := "airline/airlinelaw09.CodeshareChecks", spec := "codeshareChecks", unfollowed := true, recurses := true, named := ["internal/strconv.uint64pow10", "math/bits.deBruijn32tab", "math/bits.deBruijn64tab"], apart := false, laid := [("math/bits.deBruijn32tab", laid_math_bits_deBruijn32tab), ("math/bits.deBruijn64tab", laid_math_bits_deBruijn64tab), ("internal/strconv.uint64pow10", laid_internal_strconv_uint64pow10)] }
def CodeshareChecksSaid : Prop := codeshareChecksRow.holds Tryz.pinned (OpenSpec.ofChange codeshareChecksSpec)

/-- ITS FALSE NEIGHBOUR: 'it returns false'. Refute it at one input. -/
def codeshareChecksWrong : ChangeSpec := { name := "codeshareChecks", fn := fun _ => fun
  | [d1, d2, d3] => { results := [.lit (.bool false)], args := [d1, d2, d3] }
  | _ => none }
def CodeshareChecksWrongFalsely : Prop := codeshareChecksRow.holds Tryz.pinned (OpenSpec.ofChange codeshareChecksWrong)

/-- 'airlinelaw09.CodeshareCovers': WHATEVER THE INPUT: true; the input reads as it did. -/
def codeshareCoversSpec : ChangeSpec := { name := "codeshareCovers", fn := fun _ => fun
  | [d1, d2, d3, d4] => { results := [.lit (.bool true)], args := [d1, d2, d3, d4] }
  | _ => none }
def codeshareCoversRow : OpenClaim := { program := "ytiihkfjbllpiaaagreatdoor", sum := "e3b14eb13416ef9ffd3e2ba9596f75d125ed5cbaf2578426176e74cf155ca8ed", func := "airline/airlinelaw09.CodeshareCovers", spec := "codeshareCovers", unfollowed := true, recurses := true, named := ["internal/strconv.uint64pow10", "math/bits.deBruijn32tab", "math/bits.deBruijn64tab"], apart := false, laid := [("math/bits.deBruijn32tab", laid_math_bits_deBruijn32tab), ("math/bits.deBruijn64tab", laid_math_bits_deBruijn64tab), ("internal/strconv.uint64pow10", laid_internal_strconv_uint64pow10)] }
def CodeshareCoversSaid : Prop := codeshareCoversRow.holds Tryz.pinned (OpenSpec.ofChange codeshareCoversSpec)

/-- ITS FALSE NEIGHBOUR: 'it returns false'. Refute it at one input. -/
def codeshareCoversWrong : ChangeSpec := { name := "codeshareCovers", fn := fun _ => fun
  | [d1, d2, d3, d4] => { results := [.lit (.bool false)], args := [d1, d2, d3, d4] }
  | _ => none }
def CodeshareCoversWrongFalsely : Prop := codeshareCoversRow.holds Tryz.pinned (OpenSpec.ofChange codeshareCoversWrong)

/-- 'airlinelaw09.CodeshareFinds': WHATEVER THE INPUT: true; the input reads as it did. -/
def codeshareFindsSpec : ChangeSpec := { name := "codeshareFinds", fn := fun _ => fun
  | [d1, d2, d3, d4] => { results := [.lit (.bool true)], args := [d1, d2, d3, d4] }
  | _ => none }
def codeshareFindsRow : OpenClaim := { program := "ytiihkfjbllpiaaagreatdoor", sum := "e3b14eb13416ef9ffd3e2ba9596f75d125ed5cbaf2578426176e74cf155ca8ed", func := "airline/airlinelaw09.CodeshareFinds", spec := "codeshareFinds", unfollowed := true, recurses := true, named := ["internal/strconv.uint64pow10", "math/bits.deBruijn32tab", "math/bits.deBruijn64tab"], apart := false, laid := [("math/bits.deBruijn32tab", laid_math_bits_deBruijn32tab), ("math/bits.deBruijn64tab", laid_math_bits_deBruijn64tab), ("internal/strconv.uint64pow10", laid_internal_strconv_uint64pow10)] }
def CodeshareFindsSaid : Prop := codeshareFindsRow.holds Tryz.pinned (OpenSpec.ofChange codeshareFindsSpec)

/-- ITS FALSE NEIGHBOUR: 'it returns false'. Refute it at one input. -/
def codeshareFindsWrong : ChangeSpec := { name := "codeshareFinds", fn := fun _ => fun
  | [d1, d2, d3, d4] => { results := [.lit (.bool false)], args := [d1, d2, d3, d4] }
  | _ => none }
def CodeshareFindsWrongFalsely : Prop := codeshareFindsRow.holds Tryz.pinned (OpenSpec.ofChange codeshareFindsWrong)

/-- 'airlinelaw09.CodeshareSame': WHATEVER THE INPUT: true; the input reads as it did. -/
def codeshareSameSpec : ChangeSpec := { name := "codeshareSame", fn := fun _ => fun
  | [d1, d2, d3, d4] => { results := [.lit (.bool true)], args := [d1, d2, d3, d4] }
  | _ => none }
def codeshareSameRow : OpenClaim := { program := "ytiihkfjbllpiaaagreatdoor", sum := "e3b14eb13416ef9ffd3e2ba9596f75d125ed5cbaf2578426176e74cf155ca8ed", func := "airline/airlinelaw09.CodeshareSame", spec := "codeshareSame", unfollowed := true, recurses := true, named := ["internal/strconv.uint64pow10", "math/bits.deBruijn32tab", "math/bits.deBruijn64tab"], apart := false, laid := [("math/bits.deBruijn32tab", laid_math_bits_deBruijn32tab), ("math/bits.deBruijn64tab", laid_math_bits_deBruijn64tab), ("internal/strconv.uint64pow10", laid_internal_strconv_uint64pow10)] }
def CodeshareSameSaid : Prop := codeshareSameRow.holds Tryz.pinned (OpenSpec.ofChange codeshareSameSpec)

/-- ITS FALSE NEIGHBOUR: 'it returns false'. Refute it at one input. -/
def codeshareSameWrong : ChangeSpec := { name := "codeshareSame", fn := fun _ => fun
  | [d1, d2, d3, d4] => { results := [.lit (.bool false)], args := [d1, d2, d3, d4] }
  | _ => none }
def CodeshareSameWrongFalsely : Prop := codeshareSameRow.holds Tryz.pinned (OpenSpec.ofChange codeshareSameWrong)

/-- 'airlinelaw09.CodeshareSold': WHATEVER THE INPUT: true; the input reads as it did. -/
def codeshareSoldSpec : ChangeSpec := { name := "codeshareSold", fn := fun _ => fun
  | [d1, d2, d3, d4] => { results := [.lit (.bool true)], args := [d1, d2, d3, d4] }
  | _ => none }
def codeshareSoldRow : OpenClaim := { program := "ytiihkfjbllpiaaagreatdoor", sum := "e3b14eb13416ef9ffd3e2ba9596f75d125ed5cbaf2578426176e74cf155ca8ed", func := "airline/airlinelaw09.CodeshareSold", spec := "codeshareSold", unfollowed := true, recurses := true, named := ["internal/strconv.uint64pow10", "math/bits.deBruijn32tab", "math/bits.deBruijn64tab"], apart := false, laid := [("math/bits.deBruijn32tab", laid_math_bits_deBruijn32tab), ("math/bits.deBruijn64tab", laid_math_bits_deBruijn64tab), ("internal/strconv.uint64pow10", laid_internal_strconv_uint64pow10)] }
def CodeshareSoldSaid : Prop := codeshareSoldRow.holds Tryz.pinned (OpenSpec.ofChange codeshareSoldSpec)

/-- ITS FALSE NEIGHBOUR: 'it returns false'. Refute it at one input. -/
def codeshareSoldWrong : ChangeSpec := { name := "codeshareSold", fn := fun _ => fun
  | [d1, d2, d3, d4] => { results := [.lit (.bool false)], args := [d1, d2, d3, d4] }
  | _ => none }
def CodeshareSoldWrongFalsely : Prop := codeshareSoldRow.holds Tryz.pinned (OpenSpec.ofChange codeshareSoldWrong)

/- THE SECOND FORM. 'bulk': how many values and letters a reading holds, each counted each time it is reached (what is shared counts as often as it is met; a slice's spare places count too). A statement '..UptoSaid' is the law's where the arguments, and the package variables that the reading takes, are together of bulk at most 1048576: NARROWER than '..Said'. Prove '..Said' where nothing that the law and all that it calls make is longer than what came in: it says more and counts as full. Else prove '..UptoSaid'. A law counts once. -/
mutual
def uptoBulk {H : Type} : DataW H → Nat
  | .lit (.string bytes) => bytes.length + 1
  | .lit _ => 1
  | .nil => 1
  | .ptr d => uptoBulk d + 1
  | .slice elems spare => uptoBulkAll elems + uptoBulkAll spare + 1
  | .agg parts => uptoBulkAll parts + 1
  | .iface _ d => uptoBulk d + 1
  | .map entries => uptoBulkEntries entries + 1
  | .held _ => 1
def uptoBulkAll {H : Type} : List (DataW H) → Nat
  | [] => 0
  | d :: r => uptoBulk d + uptoBulkAll r
def uptoBulkEntries {H : Type} : List (Lit × DataW H) → Nat
  | [] => 0
  | x :: r => uptoBulkEntry x + uptoBulkEntries r
def uptoBulkEntry {H : Type} : Lit × DataW H → Nat
  | (.string bytes, d) => bytes.length + uptoBulk d + 1
  | (_, d) => uptoBulk d + 1
 end
def uptoSmall : (H : Type) → List (DataW H) → Bool := fun _ ds => decide (uptoBulkAll ds ≤ 1048576)
def OpenSpec.upto (s : _root_.Go.ChangeSpec) : _root_.Go.OpenSpec := { _root_.Go.OpenSpec.ofChange s with cond := some uptoSmall }

/-- 'airlinelaw08.ScheduleChecks', WHERE WHAT IT READS IS OF BULK AT MOST 1048576: true; the input reads as it did. -/
def scheduleChecksUptoRow : OpenClaim := { program := "ytiihkfjbllpiaaagreatdoor", sum := "e3b14eb13416ef9ffd3e2ba9596f75d125ed5cbaf2578426176e74cf155ca8ed", func := "airline/airlinelaw08.ScheduleChecks", spec := "scheduleChecks", unfollowed := true, recurses := true, named := ["internal/strconv.uint64pow10", "math/bits.deBruijn32tab", "math/bits.deBruijn64tab", "airline/calendar.lengths"], apart := false, laid := [("airline/calendar.lengths", laid_airline_calendar_lengths), ("math/bits.deBruijn32tab", laid_math_bits_deBruijn32tab), ("math/bits.deBruijn64tab", laid_math_bits_deBruijn64tab), ("internal/strconv.uint64pow10", laid_internal_strconv_uint64pow10)], narrowed := true }
def ScheduleChecksUptoSaid : Prop := scheduleChecksUptoRow.holds Tryz.pinned (OpenSpec.upto scheduleChecksSpec)

/-- 'airlinelaw08.ScheduleDays', WHERE WHAT IT READS IS OF BULK AT MOST 1048576: true; the input reads as it did. -/
def scheduleDaysUptoRow : OpenClaim := { program := "ytiihkfjbllpiaaagreatdoor", sum := "e3b14eb13416ef9ffd3e2ba9596f75d125ed5cbaf2578426176e74cf155ca8ed", func := "airline/airlinelaw08.ScheduleDays", spec := "scheduleDays", unfollowed := true, recurses := true, named := ["internal/strconv.uint64pow10", "math/bits.deBruijn32tab", "math/bits.deBruijn64tab", "airline/calendar.lengths"], apart := false, laid := [("airline/calendar.lengths", laid_airline_calendar_lengths), ("math/bits.deBruijn32tab", laid_math_bits_deBruijn32tab), ("math/bits.deBruijn64tab", laid_math_bits_deBruijn64tab), ("internal/strconv.uint64pow10", laid_internal_strconv_uint64pow10)], narrowed := true }
def ScheduleDaysUptoSaid : Prop := scheduleDaysUptoRow.holds Tryz.pinned (OpenSpec.upto scheduleDaysSpec)

/-- 'airlinelaw08.ScheduleFinds', WHERE WHAT IT READS IS OF BULK AT MOST 1048576: true; the input reads as it did. -/
def scheduleFindsUptoRow : OpenClaim := { program := "ytiihkfjbllpiaaagreatdoor", sum := "e3b14eb13416ef9ffd3e2ba9596f75d125ed5cbaf2578426176e74cf155ca8ed", func := "airline/airlinelaw08.ScheduleFinds", spec := "scheduleFinds", unfollowed := true, recurses := true, named := ["internal/strconv.uint64pow10", "math/bits.deBruijn32tab", "math/bits.deBruijn64tab", "airline/calendar.lengths"], apart := false, laid := [("airline/calendar.lengths", laid_airline_calendar_lengths), ("math/bits.deBruijn32tab", laid_math_bits_deBruijn32tab), ("math/bits.deBruijn64tab", laid_math_bits_deBruijn64tab), ("internal/strconv.uint64pow10", laid_internal_strconv_uint64pow10)], narrowed := true }
def ScheduleFindsUptoSaid : Prop := scheduleFindsUptoRow.holds Tryz.pinned (OpenSpec.upto scheduleFindsSpec)

/-- 'airlinelaw08.ScheduleSegs', WHERE WHAT IT READS IS OF BULK AT MOST 1048576: true; the input reads as it did. -/
def scheduleSegsUptoRow : OpenClaim := { program := "ytiihkfjbllpiaaagreatdoor", sum := "e3b14eb13416ef9ffd3e2ba9596f75d125ed5cbaf2578426176e74cf155ca8ed", func := "airline/airlinelaw08.ScheduleSegs", spec := "scheduleSegs", unfollowed := true, recurses := true, named := ["internal/strconv.uint64pow10", "math/bits.deBruijn32tab", "math/bits.deBruijn64tab", "airline/calendar.lengths"], apart := false, laid := [("airline/calendar.lengths", laid_airline_calendar_lengths), ("math/bits.deBruijn32tab", laid_math_bits_deBruijn32tab), ("math/bits.deBruijn64tab", laid_math_bits_deBruijn64tab), ("internal/strconv.uint64pow10", laid_internal_strconv_uint64pow10)], narrowed := true }
def ScheduleSegsUptoSaid : Prop := scheduleSegsUptoRow.holds Tryz.pinned (OpenSpec.upto scheduleSegsSpec)

/-- 'airlinelaw09.CodeshareChecks', WHERE WHAT IT READS IS OF BULK AT MOST 1048576: true; the input reads as it did. -/
def codeshareChecksUptoRow : OpenClaim := { program := "ytiihkfjbllpiaaagreatdoor", sum := "e3b14eb13416ef9ffd3e2ba9596f75d125ed5cbaf2578426176e74cf155ca8ed", func := "airline/airlinelaw09.CodeshareChecks", spec := "codeshareChecks", unfollowed := true, recurses := true, named := ["internal/strconv.uint64pow10", "math/bits.deBruijn32tab", "math/bits.deBruijn64tab"], apart := false, laid := [("math/bits.deBruijn32tab", laid_math_bits_deBruijn32tab), ("math/bits.deBruijn64tab", laid_math_bits_deBruijn64tab), ("internal/strconv.uint64pow10", laid_internal_strconv_uint64pow10)], narrowed := true }
def CodeshareChecksUptoSaid : Prop := codeshareChecksUptoRow.holds Tryz.pinned (OpenSpec.upto codeshareChecksSpec)

/-- 'airlinelaw09.CodeshareCovers', WHERE WHAT IT READS IS OF BULK AT MOST 1048576: true; the input reads as it did. -/
def codeshareCoversUptoRow : OpenClaim := { program := "ytiihkfjbllpiaaagreatdoor", sum := "e3b14eb13416ef9ffd3e2ba9596f75d125ed5cbaf2578426176e74cf155ca8ed", func := "airline/airlinelaw09.CodeshareCovers", spec := "codeshareCovers", unfollowed := true, recurses := true, named := ["internal/strconv.uint64pow10", "math/bits.deBruijn32tab", "math/bits.deBruijn64tab"], apart := false, laid := [("math/bits.deBruijn32tab", laid_math_bits_deBruijn32tab), ("math/bits.deBruijn64tab", laid_math_bits_deBruijn64tab), ("internal/strconv.uint64pow10", laid_internal_strconv_uint64pow10)], narrowed := true }
def CodeshareCoversUptoSaid : Prop := codeshareCoversUptoRow.holds Tryz.pinned (OpenSpec.upto codeshareCoversSpec)

/-- 'airlinelaw09.CodeshareFinds', WHERE WHAT IT READS IS OF BULK AT MOST 1048576: true; the input reads as it did. -/
def codeshareFindsUptoRow : OpenClaim := { program := "ytiihkfjbllpiaaagreatdoor", sum := "e3b14eb13416ef9ffd3e2ba9596f75d125ed5cbaf2578426176e74cf155ca8ed", func := "airline/airlinelaw09.CodeshareFinds", spec := "codeshareFinds", unfollowed := true, recurses := true, named := ["internal/strconv.uint64pow10", "math/bits.deBruijn32tab", "math/bits.deBruijn64tab"], apart := false, laid := [("math/bits.deBruijn32tab", laid_math_bits_deBruijn32tab), ("math/bits.deBruijn64tab", laid_math_bits_deBruijn64tab), ("internal/strconv.uint64pow10", laid_internal_strconv_uint64pow10)], narrowed := true }
def CodeshareFindsUptoSaid : Prop := codeshareFindsUptoRow.holds Tryz.pinned (OpenSpec.upto codeshareFindsSpec)

/-- 'airlinelaw09.CodeshareSame', WHERE WHAT IT READS IS OF BULK AT MOST 1048576: true; the input reads as it did. -/
def codeshareSameUptoRow : OpenClaim := { program := "ytiihkfjbllpiaaagreatdoor", sum := "e3b14eb13416ef9ffd3e2ba9596f75d125ed5cbaf2578426176e74cf155ca8ed", func := "airline/airlinelaw09.CodeshareSame", spec := "codeshareSame", unfollowed := true, recurses := true, named := ["internal/strconv.uint64pow10", "math/bits.deBruijn32tab", "math/bits.deBruijn64tab"], apart := false, laid := [("math/bits.deBruijn32tab", laid_math_bits_deBruijn32tab), ("math/bits.deBruijn64tab", laid_math_bits_deBruijn64tab), ("internal/strconv.uint64pow10", laid_internal_strconv_uint64pow10)], narrowed := true }
def CodeshareSameUptoSaid : Prop := codeshareSameUptoRow.holds Tryz.pinned (OpenSpec.upto codeshareSameSpec)

/-- 'airlinelaw09.CodeshareSold', WHERE WHAT IT READS IS OF BULK AT MOST 1048576: true; the input reads as it did. -/
def codeshareSoldUptoRow : OpenClaim := { program := "ytiihkfjbllpiaaagreatdoor", sum := "e3b14eb13416ef9ffd3e2ba9596f75d125ed5cbaf2578426176e74cf155ca8ed", func := "airline/airlinelaw09.CodeshareSold", spec := "codeshareSold", unfollowed := true, recurses := true, named := ["internal/strconv.uint64pow10", "math/bits.deBruijn32tab", "math/bits.deBruijn64tab"], apart := false, laid := [("math/bits.deBruijn32tab", laid_math_bits_deBruijn32tab), ("math/bits.deBruijn64tab", laid_math_bits_deBruijn64tab), ("internal/strconv.uint64pow10", laid_internal_strconv_uint64pow10)], narrowed := true }
def CodeshareSoldUptoSaid : Prop := codeshareSoldUptoRow.holds Tryz.pinned (OpenSpec.upto codeshareSoldSpec)

end Rows
end Go.Proofs.YtiihkfjbllpiaaaGreatDoor
