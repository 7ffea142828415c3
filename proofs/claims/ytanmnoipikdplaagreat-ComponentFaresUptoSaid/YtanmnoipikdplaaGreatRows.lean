/-
  NARROWER THAN 'FOR EVERY INPUT', by the rows' own cells (each row's printed sentence says how): ComponentWhys: loops · ComponentFares: loops · ComponentOrder: loops.
  DERIVED. THE GIVEN ROWS OF THIS SEAT. 4 by the template 'for every input the law returns true; each argument reads behind the call as it read before'; 0 by the template 'total and deterministic' (their statements: YtanmnoipikdplaaGreatTotals.lean).
  GIVEN WITH THE SEED: the statements are not yours to turn. If you find one false, say at which input.
  Laid BY PROGRAM, IN A SANDBOX (cutbox-rows.mjs): the forced cells as the released guide's own fill.sh prints them over the translation 998a58d6e2974d62… (all of the seat's roots in one cut). By AI agents, Wed Nov 11 2026. No macro, syntax, notation, axiom, sorry.
-/
import Derived.Test.YtanmnoipikdplaaGreatChecked
import GoSem.Claim
import GoSem.ClaimJoined
import GoSem.ClaimMapViews
import Derived.JoinedTies
import Derived.KernelRfl
namespace Go.Proofs.YtanmnoipikdplaaGreat
/- THE CELL 'sum', in the pinned program and in every row, IS THE sha256 OF THE DUMP (.gsa) THAT YtanmnoipikdplaaGreatProg.lean LOADS. Nothing in Lean hashes anything: it is a label: what it is worth is what the hold of that sum in a sandbox is worth. -/
noncomputable def Tryz.pinned : Pinned := { name := "ytanmnoipikdplaagreat", sum := "998a58d6e2974d6296c69c3d085581e0016027f9821f29384b262245009f209e", checked := Tryz.checked }
namespace Rows
def none {H : Type} : Left H := { results := [], args := [] }

/-- 'airlinelaw25.ComponentTrips': WHATEVER THE INPUT: true; the input reads as it did. -/
def componentTripsSpec : ChangeSpec := { name := "componentTrips", fn := fun _ => fun
  | [d1, d2, d3, d4] => { results := [.lit (.bool true)], args := [d1, d2, d3, d4] }
  | _ => none }
def componentTripsRow : OpenClaim := { program := "ytanmnoipikdplaagreat", sum := "998a58d6e2974d6296c69c3d085581e0016027f9821f29384b262245009f209e", func := "airline/airlinelaw25.ComponentTrips", spec := "componentTrips", unfollowed := true, recurses := true, named := ["math/bits.divideError", "math/bits.overflowError"], apart := false }
def ComponentTripsSaid : Prop := componentTripsRow.holds Tryz.pinned (OpenSpec.ofChange componentTripsSpec)

/-- ITS FALSE NEIGHBOUR: 'it returns false'. Refute it at one input. -/
def componentTripsWrong : ChangeSpec := { name := "componentTrips", fn := fun _ => fun
  | [d1, d2, d3, d4] => { results := [.lit (.bool false)], args := [d1, d2, d3, d4] }
  | _ => none }
def ComponentTripsWrongFalsely : Prop := componentTripsRow.holds Tryz.pinned (OpenSpec.ofChange componentTripsWrong)

/-- 'airlinelaw25.ComponentWhys': WHATEVER THE INPUT: true; the input reads as it did. -/
def componentWhysSpec : ChangeSpec := { name := "componentWhys", fn := fun _ => fun
  | [d] => { results := [.lit (.bool true)], args := [d] }
  | _ => none }
def componentWhysRow : OpenClaim := { program := "ytanmnoipikdplaagreat", sum := "998a58d6e2974d6296c69c3d085581e0016027f9821f29384b262245009f209e", func := "airline/airlinelaw25.ComponentWhys", spec := "componentWhys", unfollowed := true, recurses := true, named := ["math/bits.divideError", "math/bits.overflowError"], loops := true, apart := false }
def ComponentWhysSaid : Prop := componentWhysRow.holds Tryz.pinned (OpenSpec.ofChange componentWhysSpec)

/-- ITS FALSE NEIGHBOUR: 'it returns false'. Refute it at one input. -/
def componentWhysWrong : ChangeSpec := { name := "componentWhys", fn := fun _ => fun
  | [d] => { results := [.lit (.bool false)], args := [d] }
  | _ => none }
def ComponentWhysWrongFalsely : Prop := componentWhysRow.holds Tryz.pinned (OpenSpec.ofChange componentWhysWrong)

/-- 'airlinelaw25.ComponentFares': WHATEVER THE INPUT: true; the input reads as it did. -/
def componentFaresSpec : ChangeSpec := { name := "componentFares", fn := fun _ => fun
  | [d] => { results := [.lit (.bool true)], args := [d] }
  | _ => none }
def componentFaresRow : OpenClaim := { program := "ytanmnoipikdplaagreat", sum := "998a58d6e2974d6296c69c3d085581e0016027f9821f29384b262245009f209e", func := "airline/airlinelaw25.ComponentFares", spec := "componentFares", unfollowed := true, recurses := true, named := ["math/bits.divideError", "math/bits.overflowError"], loops := true, apart := false }
def ComponentFaresSaid : Prop := componentFaresRow.holds Tryz.pinned (OpenSpec.ofChange componentFaresSpec)

/-- ITS FALSE NEIGHBOUR: 'it returns false'. Refute it at one input. -/
def componentFaresWrong : ChangeSpec := { name := "componentFares", fn := fun _ => fun
  | [d] => { results := [.lit (.bool false)], args := [d] }
  | _ => none }
def ComponentFaresWrongFalsely : Prop := componentFaresRow.holds Tryz.pinned (OpenSpec.ofChange componentFaresWrong)

/-- 'airlinelaw25.ComponentOrder': WHATEVER THE INPUT: true; the input reads as it did. -/
def componentOrderSpec : ChangeSpec := { name := "componentOrder", fn := fun _ => fun
  | [d] => { results := [.lit (.bool true)], args := [d] }
  | _ => none }
def componentOrderRow : OpenClaim := { program := "ytanmnoipikdplaagreat", sum := "998a58d6e2974d6296c69c3d085581e0016027f9821f29384b262245009f209e", func := "airline/airlinelaw25.ComponentOrder", spec := "componentOrder", unfollowed := true, recurses := true, named := ["math/bits.divideError", "math/bits.overflowError"], loops := true, apart := false }
def ComponentOrderSaid : Prop := componentOrderRow.holds Tryz.pinned (OpenSpec.ofChange componentOrderSpec)

/-- ITS FALSE NEIGHBOUR: 'it returns false'. Refute it at one input. -/
def componentOrderWrong : ChangeSpec := { name := "componentOrder", fn := fun _ => fun
  | [d] => { results := [.lit (.bool false)], args := [d] }
  | _ => none }
def ComponentOrderWrongFalsely : Prop := componentOrderRow.holds Tryz.pinned (OpenSpec.ofChange componentOrderWrong)

/- THE SECOND FORM. 'bulk': how many values and letters a reading holds, each counted each time it is reached (what is shared counts as often as it is met; a slice's spare places count too). A statement '..UptoSaid' is the law's where the arguments, and the package variables that the reading takes, are together of bulk at most 1048576: NARROWER than '..Said'. Prove '..Said' where nothing that the law and all that it calls make is longer than what came in: it says more and counts as full. Else prove '..UptoSaid'. A law counts once. -/
mutual
def uptoBulk {H : Type} : DataW H → Nat
  | .lit (.string bytes) => bytes.length + 1
  | .lit _ => 1
  | .nil => 1
  | .ptr d => uptoBulk d + 1
  | .slice elems spare => uptoBulkAll elems + uptoBulkAll spare + 1
  | .agg parts => uptoBulkAll parts + 1
  | .iface _ d => uptoBulk d + 1
  | .map entries => uptoBulkEntries entries + 1
  | .held _ => 1
def uptoBulkAll {H : Type} : List (DataW H) → Nat
  | [] => 0
  | d :: r => uptoBulk d + uptoBulkAll r
def uptoBulkEntries {H : Type} : List (Lit × DataW H) → Nat
  | [] => 0
  | x :: r => uptoBulkEntry x + uptoBulkEntries r
def uptoBulkEntry {H : Type} : Lit × DataW H → Nat
  | (.string bytes, d) => bytes.length + uptoBulk d + 1
  | (_, d) => uptoBulk d + 1
 end
def uptoSmall : (H : Type) → List (DataW H) → Bool := fun _ ds => decide (uptoBulkAll ds ≤ 1048576)
def OpenSpec.upto (s : _root_.Go.ChangeSpec) : _root_.Go.OpenSpec := { _root_.Go.OpenSpec.ofChange s with cond := some uptoSmall }

/-- 'airlinelaw25.ComponentTrips', WHERE WHAT IT READS IS OF BULK AT MOST 1048576: true; the input reads as it did. -/
def componentTripsUptoRow : OpenClaim := { program := "ytanmnoipikdplaagreat", sum := "998a58d6e2974d6296c69c3d085581e0016027f9821f29384b262245009f209e", func := "airline/airlinelaw25.ComponentTrips", spec := "componentTrips", unfollowed := true, recurses := true, named := ["math/bits.divideError", "math/bits.overflowError"], apart := false, narrowed := true }
def ComponentTripsUptoSaid : Prop := componentTripsUptoRow.holds Tryz.pinned (OpenSpec.upto componentTripsSpec)

/-- 'airlinelaw25.ComponentWhys', WHERE WHAT IT READS IS OF BULK AT MOST 1048576: true; the input reads as it did. -/
def componentWhysUptoRow : OpenClaim := { program := "ytanmnoipikdplaagreat", sum := "998a58d6e2974d6296c69c3d085581e0016027f9821f29384b262245009f209e", func := "airline/airlinelaw25.ComponentWhys", spec := "componentWhys", unfollowed := true, recurses := true, named := ["math/bits.divideError", "math/bits.overflowError"], loops := true, apart := false, narrowed := true }
def ComponentWhysUptoSaid : Prop := componentWhysUptoRow.holds Tryz.pinned (OpenSpec.upto componentWhysSpec)

/-- 'airlinelaw25.ComponentFares', WHERE WHAT IT READS IS OF BULK AT MOST 1048576: true; the input reads as it did. -/
def componentFaresUptoRow : OpenClaim := { program := "ytanmnoipikdplaagreat", sum := "998a58d6e2974d6296c69c3d085581e0016027f9821f29384b262245009f209e", func := "airline/airlinelaw25.ComponentFares", spec := "componentFares", unfollowed := true, recurses := true, named := ["math/bits.divideError", "math/bits.overflowError"], loops := true, apart := false, narrowed := true }
def ComponentFaresUptoSaid : Prop := componentFaresUptoRow.holds Tryz.pinned (OpenSpec.upto componentFaresSpec)

/-- 'airlinelaw25.ComponentOrder', WHERE WHAT IT READS IS OF BULK AT MOST 1048576: true; the input reads as it did. -/
def componentOrderUptoRow : OpenClaim := { program := "ytanmnoipikdplaagreat", sum := "998a58d6e2974d6296c69c3d085581e0016027f9821f29384b262245009f209e", func := "airline/airlinelaw25.ComponentOrder", spec := "componentOrder", unfollowed := true, recurses := true, named := ["math/bits.divideError", "math/bits.overflowError"], loops := true, apart := false, narrowed := true }
def ComponentOrderUptoSaid : Prop := componentOrderUptoRow.holds Tryz.pinned (OpenSpec.upto componentOrderSpec)

end Rows
end Go.Proofs.YtanmnoipikdplaaGreat
