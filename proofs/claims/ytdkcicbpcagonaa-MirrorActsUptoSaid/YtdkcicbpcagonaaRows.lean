/-
  No cell of these rows narrows 'for every input' (looked for: loops, veiled, ifaces, maps, wideKeys, modest, calm, conditions, laid).
  DERIVED. THE GIVEN ROWS OF THIS SEAT. 6 by the template 'for every input the law returns true; each argument reads behind the call as it read before'; 0 by the template 'total and deterministic' (their statements: YtdkcicbpcagonaaTotals.lean).
  GIVEN WITH THE SEED: the statements are not yours to turn. If you find one false, say at which input.
  Laid BY PROGRAM, IN A SANDBOX (cutbox-rows.mjs): the forced cells as the released guide's own fill.sh prints them over the translation 0bf167dc5b511d47… (all of the seat's roots in one cut). By AI agents, Wed Nov 11 2026. No macro, syntax, notation, axiom, sorry.
-/
import Derived.Test.YtdkcicbpcagonaaChecked
import GoSem.Claim
import GoSem.ClaimJoined
import GoSem.ClaimMapViews
import Derived.JoinedTies
import Derived.KernelRfl
namespace Go.Proofs.Ytdkcicbpcagonaa
/- THE CELL 'sum', in the pinned program and in every row, IS THE sha256 OF THE DUMP (.gsa) THAT YtdkcicbpcagonaaProg.lean LOADS. Nothing in Lean hashes anything: it is a label: what it is worth is what the hold of that sum in a sandbox is worth. -/
noncomputable def Try.pinned : Pinned := { name := "ytdkcicbpcagonaa", sum := "0bf167dc5b511d47e89efb1804662160127cd1bc9e0cd8dfcff3d8868dc4a0aa", checked := Try.checked }
namespace Rows
def none {H : Type} : Left H := { results := [], args := [] }

/-- 'airlinelaw45.MirrorActs': WHATEVER THE INPUT: true; the input reads as it did. -/
def mirrorActsSpec : ChangeSpec := { name := "mirrorActs", fn := fun _ => fun
  | [d1, d2] => { results := [.lit (.bool true)], args := [d1, d2] }
  | _ => none }
def mirrorActsRow : OpenClaim := { program := "ytdkcicbpcagonaa", sum := "0bf167dc5b511d47e89efb1804662160127cd1bc9e0cd8dfcff3d8868dc4a0aa", func := "airline/airlinelaw45.MirrorActs", spec := "mirrorActs", unfollowed := true, recurses := true, plainKeys := false, apart := false }
def MirrorActsSaid : Prop := mirrorActsRow.holds Try.pinned (OpenSpec.ofChange mirrorActsSpec)

/-- ITS FALSE NEIGHBOUR: 'it returns false'. Refute it at one input. -/
def mirrorActsWrong : ChangeSpec := { name := "mirrorActs", fn := fun _ => fun
  | [d1, d2] => { results := [.lit (.bool false)], args := [d1, d2] }
  | _ => none }
def MirrorActsWrongFalsely : Prop := mirrorActsRow.holds Try.pinned (OpenSpec.ofChange mirrorActsWrong)

/-- 'airlinelaw45.MirrorFollows': WHATEVER THE INPUT: true; the input reads as it did. -/
def mirrorFollowsSpec : ChangeSpec := { name := "mirrorFollows", fn := fun _ => fun
  | [d1, d2] => { results := [.lit (.bool true)], args := [d1, d2] }
  | _ => none }
def mirrorFollowsRow : OpenClaim := { program := "ytdkcicbpcagonaa", sum := "0bf167dc5b511d47e89efb1804662160127cd1bc9e0cd8dfcff3d8868dc4a0aa", func := "airline/airlinelaw45.MirrorFollows", spec := "mirrorFollows", unfollowed := true, recurses := true, plainKeys := false, apart := false }
def MirrorFollowsSaid : Prop := mirrorFollowsRow.holds Try.pinned (OpenSpec.ofChange mirrorFollowsSpec)

/-- ITS FALSE NEIGHBOUR: 'it returns false'. Refute it at one input. -/
def mirrorFollowsWrong : ChangeSpec := { name := "mirrorFollows", fn := fun _ => fun
  | [d1, d2] => { results := [.lit (.bool false)], args := [d1, d2] }
  | _ => none }
def MirrorFollowsWrongFalsely : Prop := mirrorFollowsRow.holds Try.pinned (OpenSpec.ofChange mirrorFollowsWrong)

/-- 'airlinelaw45.MirrorNil': WHATEVER THE INPUT: true; the input reads as it did. -/
def mirrorNilSpec : ChangeSpec := { name := "mirrorNil", fn := fun _ => fun
  | [d1, d2, d3] => { results := [.lit (.bool true)], args := [d1, d2, d3] }
  | _ => none }
def mirrorNilRow : OpenClaim := { program := "ytdkcicbpcagonaa", sum := "0bf167dc5b511d47e89efb1804662160127cd1bc9e0cd8dfcff3d8868dc4a0aa", func := "airline/airlinelaw45.MirrorNil", spec := "mirrorNil", unfollowed := true, recurses := true, plainKeys := false, apart := false }
def MirrorNilSaid : Prop := mirrorNilRow.holds Try.pinned (OpenSpec.ofChange mirrorNilSpec)

/-- ITS FALSE NEIGHBOUR: 'it returns false'. Refute it at one input. -/
def mirrorNilWrong : ChangeSpec := { name := "mirrorNil", fn := fun _ => fun
  | [d1, d2, d3] => { results := [.lit (.bool false)], args := [d1, d2, d3] }
  | _ => none }
def MirrorNilWrongFalsely : Prop := mirrorNilRow.holds Try.pinned (OpenSpec.ofChange mirrorNilWrong)

/-- 'airlinelaw45.MirrorOrder': WHATEVER THE INPUT: true; the input reads as it did. -/
def mirrorOrderSpec : ChangeSpec := { name := "mirrorOrder", fn := fun _ => fun
  | [d] => { results := [.lit (.bool true)], args := [d] }
  | _ => none }
def mirrorOrderRow : OpenClaim := { program := "ytdkcicbpcagonaa", sum := "0bf167dc5b511d47e89efb1804662160127cd1bc9e0cd8dfcff3d8868dc4a0aa", func := "airline/airlinelaw45.MirrorOrder", spec := "mirrorOrder", unfollowed := true, recurses := true, plainKeys := false, apart := false }
def MirrorOrderSaid : Prop := mirrorOrderRow.holds Try.pinned (OpenSpec.ofChange mirrorOrderSpec)

/-- ITS FALSE NEIGHBOUR: 'it returns false'. Refute it at one input. -/
def mirrorOrderWrong : ChangeSpec := { name := "mirrorOrder", fn := fun _ => fun
  | [d] => { results := [.lit (.bool false)], args := [d] }
  | _ => none }
def MirrorOrderWrongFalsely : Prop := mirrorOrderRow.holds Try.pinned (OpenSpec.ofChange mirrorOrderWrong)

/-- 'airlinelaw45.MirrorVersions': WHATEVER THE INPUT: true; the input reads as it did. -/
def mirrorVersionsSpec : ChangeSpec := { name := "mirrorVersions", fn := fun _ => fun
  | [d] => { results := [.lit (.bool true)], args := [d] }
  | _ => none }
def mirrorVersionsRow : OpenClaim := { program := "ytdkcicbpcagonaa", sum := "0bf167dc5b511d47e89efb1804662160127cd1bc9e0cd8dfcff3d8868dc4a0aa", func := "airline/airlinelaw45.MirrorVersions", spec := "mirrorVersions", unfollowed := true, recurses := true, plainKeys := false, apart := false }
def MirrorVersionsSaid : Prop := mirrorVersionsRow.holds Try.pinned (OpenSpec.ofChange mirrorVersionsSpec)

/-- ITS FALSE NEIGHBOUR: 'it returns false'. Refute it at one input. -/
def mirrorVersionsWrong : ChangeSpec := { name := "mirrorVersions", fn := fun _ => fun
  | [d] => { results := [.lit (.bool false)], args := [d] }
  | _ => none }
def MirrorVersionsWrongFalsely : Prop := mirrorVersionsRow.holds Try.pinned (OpenSpec.ofChange mirrorVersionsWrong)

/-- 'airlinelaw46.ReconcileLists': WHATEVER THE INPUT: true; the input reads as it did. -/
def reconcileListsSpec : ChangeSpec := { name := "reconcileLists", fn := fun _ => fun
  | [d1, d2] => { results := [.lit (.bool true)], args := [d1, d2] }
  | _ => none }
def reconcileListsRow : OpenClaim := { program := "ytdkcicbpcagonaa", sum := "0bf167dc5b511d47e89efb1804662160127cd1bc9e0cd8dfcff3d8868dc4a0aa", func := "airline/airlinelaw46.ReconcileLists", spec := "reconcileLists", unfollowed := true, recurses := true, plainKeys := false, apart := false }
def ReconcileListsSaid : Prop := reconcileListsRow.holds Try.pinned (OpenSpec.ofChange reconcileListsSpec)

/-- ITS FALSE NEIGHBOUR: 'it returns false'. Refute it at one input. -/
def reconcileListsWrong : ChangeSpec := { name := "reconcileLists", fn := fun _ => fun
  | [d1, d2] => { results := [.lit (.bool false)], args := [d1, d2] }
  | _ => none }
def ReconcileListsWrongFalsely : Prop := reconcileListsRow.holds Try.pinned (OpenSpec.ofChange reconcileListsWrong)

/- THE SECOND FORM. 'bulk': how many values and letters a reading holds, each counted each time it is reached (what is shared counts as often as it is met; a slice's spare places count too). A statement '..UptoSaid' is the law's where the arguments, and the package variables that the reading takes, are together of bulk at most 1048576: NARROWER than '..Said'. Prove '..Said' where nothing that the law and all that it calls make is longer than what came in: it says more and counts as full. Else prove '..UptoSaid'. A law counts once. -/
mutual
def uptoBulk {H : Type} : DataW H → Nat
  | .lit (.string bytes) => bytes.length + 1
  | .lit _ => 1
  | .nil => 1
  | .ptr d => uptoBulk d + 1
  | .slice elems spare => uptoBulkAll elems + uptoBulkAll spare + 1
  | .agg parts => uptoBulkAll parts + 1
  | .iface _ d => uptoBulk d + 1
  | .map entries => uptoBulkEntries entries + 1
  | .held _ => 1
def uptoBulkAll {H : Type} : List (DataW H) → Nat
  | [] => 0
  | d :: r => uptoBulk d + uptoBulkAll r
def uptoBulkEntries {H : Type} : List (Lit × DataW H) → Nat
  | [] => 0
  | x :: r => uptoBulkEntry x + uptoBulkEntries r
def uptoBulkEntry {H : Type} : Lit × DataW H → Nat
  | (.string bytes, d) => bytes.length + uptoBulk d + 1
  | (_, d) => uptoBulk d + 1
 end
def uptoSmall : (H : Type) → List (DataW H) → Bool := fun _ ds => decide (uptoBulkAll ds ≤ 1048576)
def OpenSpec.upto (s : _root_.Go.ChangeSpec) : _root_.Go.OpenSpec := { _root_.Go.OpenSpec.ofChange s with cond := some uptoSmall }

/-- 'airlinelaw45.MirrorActs', WHERE WHAT IT READS IS OF BULK AT MOST 1048576: true; the input reads as it did. -/
def mirrorActsUptoRow : OpenClaim := { program := "ytdkcicbpcagonaa", sum := "0bf167dc5b511d47e89efb1804662160127cd1bc9e0cd8dfcff3d8868dc4a0aa", func := "airline/airlinelaw45.MirrorActs", spec := "mirrorActs", unfollowed := true, recurses := true, plainKeys := false, apart := false, narrowed := true }
def MirrorActsUptoSaid : Prop := mirrorActsUptoRow.holds Try.pinned (OpenSpec.upto mirrorActsSpec)

/-- 'airlinelaw45.MirrorFollows', WHERE WHAT IT READS IS OF BULK AT MOST 1048576: true; the input reads as it did. -/
def mirrorFollowsUptoRow : OpenClaim := { program := "ytdkcicbpcagonaa", sum := "0bf167dc5b511d47e89efb1804662160127cd1bc9e0cd8dfcff3d8868dc4a0aa", func := "airline/airlinelaw45.MirrorFollows", spec := "mirrorFollows", unfollowed := true, recurses := true, plainKeys := false, apart := false, narrowed := true }
def MirrorFollowsUptoSaid : Prop := mirrorFollowsUptoRow.holds Try.pinned (OpenSpec.upto mirrorFollowsSpec)

/-- 'airlinelaw45.MirrorNil', WHERE WHAT IT READS IS OF BULK AT MOST 1048576: true; the input reads as it did. -/
def mirrorNilUptoRow : OpenClaim := { program := "ytdkcicbpcagonaa", sum := "0bf167dc5b511d47e89efb1804662160127cd1bc9e0cd8dfcff3d8868dc4a0aa", func := "airline/airlinelaw45.MirrorNil", spec := "mirrorNil", unfollowed := true, recurses := true, plainKeys := false, apart := false, narrowed := true }
def MirrorNilUptoSaid : Prop := mirrorNilUptoRow.holds Try.pinned (OpenSpec.upto mirrorNilSpec)

/-- 'airlinelaw45.MirrorOrder', WHERE WHAT IT READS IS OF BULK AT MOST 1048576: true; the input reads as it did. -/
def mirrorOrderUptoRow : OpenClaim := { program := "ytdkcicbpcagonaa", sum := "0bf167dc5b511d47e89efb1804662160127cd1bc9e0cd8dfcff3d8868dc4a0aa", func := "airline/airlinelaw45.MirrorOrder", spec := "mirrorOrder", unfollowed := true, recurses := true, plainKeys := false, apart := false, narrowed := true }
def MirrorOrderUptoSaid : Prop := mirrorOrderUptoRow.holds Try.pinned (OpenSpec.upto mirrorOrderSpec)

/-- 'airlinelaw45.MirrorVersions', WHERE WHAT IT READS IS OF BULK AT MOST 1048576: true; the input reads as it did. -/
def mirrorVersionsUptoRow : OpenClaim := { program := "ytdkcicbpcagonaa", sum := "0bf167dc5b511d47e89efb1804662160127cd1bc9e0cd8dfcff3d8868dc4a0aa", func := "airline/airlinelaw45.MirrorVersions", spec := "mirrorVersions", unfollowed := true, recurses := true, plainKeys := false, apart := false, narrowed := true }
def MirrorVersionsUptoSaid : Prop := mirrorVersionsUptoRow.holds Try.pinned (OpenSpec.upto mirrorVersionsSpec)

/-- 'airlinelaw46.ReconcileLists', WHERE WHAT IT READS IS OF BULK AT MOST 1048576: true; the input reads as it did. -/
def reconcileListsUptoRow : OpenClaim := { program := "ytdkcicbpcagonaa", sum := "0bf167dc5b511d47e89efb1804662160127cd1bc9e0cd8dfcff3d8868dc4a0aa", func := "airline/airlinelaw46.ReconcileLists", spec := "reconcileLists", unfollowed := true, recurses := true, plainKeys := false, apart := false, narrowed := true }
def ReconcileListsUptoSaid : Prop := reconcileListsUptoRow.holds Try.pinned (OpenSpec.upto reconcileListsSpec)

end Rows
end Go.Proofs.Ytdkcicbpcagonaa
