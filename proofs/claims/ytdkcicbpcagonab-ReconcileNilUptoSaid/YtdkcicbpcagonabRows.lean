/-
  No cell of these rows narrows 'for every input' (looked for: loops, veiled, ifaces, maps, wideKeys, modest, calm, conditions, laid).
  DERIVED. THE GIVEN ROWS OF THIS SEAT. 3 by the template 'for every input the law returns true; each argument reads behind the call as it read before'; 0 by the template 'total and deterministic' (their statements: YtdkcicbpcagonabTotals.lean).
  GIVEN WITH THE SEED: the statements are not yours to turn. If you find one false, say at which input.
  Laid BY PROGRAM, IN A SANDBOX (cutbox-rows.mjs): the forced cells as the released guide's own fill.sh prints them over the translation 8d9b85ab0bfe0e35… (all of the seat's roots in one cut). By AI agents, Wed Nov 11 2026. No macro, syntax, notation, axiom, sorry.
-/
import Derived.Test.YtdkcicbpcagonabChecked
import GoSem.Claim
import GoSem.ClaimJoined
import GoSem.ClaimMapViews
import Derived.JoinedTies
import Derived.KernelRfl
namespace Go.Proofs.Ytdkcicbpcagonab
/- THE CELL 'sum', in the pinned program and in every row, IS THE sha256 OF THE DUMP (.gsa) THAT YtdkcicbpcagonabProg.lean LOADS. Nothing in Lean hashes anything: it is a label: what it is worth is what the hold of that sum in a sandbox is worth. -/
noncomputable def Try.pinned : Pinned := { name := "ytdkcicbpcagonab", sum := "8d9b85ab0bfe0e35187e6903ac22ee6d95ee08f58783918ea8223acd6db4854d", checked := Try.checked }
namespace Rows
def none {H : Type} : Left H := { results := [], args := [] }

/-- 'airlinelaw46.ReconcileMerges': WHATEVER THE INPUT: true; the input reads as it did. -/
def reconcileMergesSpec : ChangeSpec := { name := "reconcileMerges", fn := fun _ => fun
  | [d1, d2] => { results := [.lit (.bool true)], args := [d1, d2] }
  | _ => none }
def reconcileMergesRow : OpenClaim := { program := "ytdkcicbpcagonab", sum := "8d9b85ab0bfe0e35187e6903ac22ee6d95ee08f58783918ea8223acd6db4854d", func := "airline/airlinelaw46.ReconcileMerges", spec := "reconcileMerges", unfollowed := true, recurses := true, plainKeys := false, apart := false }
def ReconcileMergesSaid : Prop := reconcileMergesRow.holds Try.pinned (OpenSpec.ofChange reconcileMergesSpec)

/-- ITS FALSE NEIGHBOUR: 'it returns false'. Refute it at one input. -/
def reconcileMergesWrong : ChangeSpec := { name := "reconcileMerges", fn := fun _ => fun
  | [d1, d2] => { results := [.lit (.bool false)], args := [d1, d2] }
  | _ => none }
def ReconcileMergesWrongFalsely : Prop := reconcileMergesRow.holds Try.pinned (OpenSpec.ofChange reconcileMergesWrong)

/-- 'airlinelaw46.ReconcileNil': WHATEVER THE INPUT: true; the input reads as it did. -/
def reconcileNilSpec : ChangeSpec := { name := "reconcileNil", fn := fun _ => fun
  | [d] => { results := [.lit (.bool true)], args := [d] }
  | _ => none }
def reconcileNilRow : OpenClaim := { program := "ytdkcicbpcagonab", sum := "8d9b85ab0bfe0e35187e6903ac22ee6d95ee08f58783918ea8223acd6db4854d", func := "airline/airlinelaw46.ReconcileNil", spec := "reconcileNil", unfollowed := true, recurses := true, plainKeys := false, apart := false }
def ReconcileNilSaid : Prop := reconcileNilRow.holds Try.pinned (OpenSpec.ofChange reconcileNilSpec)

/-- ITS FALSE NEIGHBOUR: 'it returns false'. Refute it at one input. -/
def reconcileNilWrong : ChangeSpec := { name := "reconcileNil", fn := fun _ => fun
  | [d] => { results := [.lit (.bool false)], args := [d] }
  | _ => none }
def ReconcileNilWrongFalsely : Prop := reconcileNilRow.holds Try.pinned (OpenSpec.ofChange reconcileNilWrong)

/-- 'airlinelaw46.ReconcileRepairs': WHATEVER THE INPUT: true; the input reads as it did. -/
def reconcileRepairsSpec : ChangeSpec := { name := "reconcileRepairs", fn := fun _ => fun
  | [d1, d2] => { results := [.lit (.bool true)], args := [d1, d2] }
  | _ => none }
def reconcileRepairsRow : OpenClaim := { program := "ytdkcicbpcagonab", sum := "8d9b85ab0bfe0e35187e6903ac22ee6d95ee08f58783918ea8223acd6db4854d", func := "airline/airlinelaw46.ReconcileRepairs", spec := "reconcileRepairs", unfollowed := true, recurses := true, plainKeys := false, apart := false }
def ReconcileRepairsSaid : Prop := reconcileRepairsRow.holds Try.pinned (OpenSpec.ofChange reconcileRepairsSpec)

/-- ITS FALSE NEIGHBOUR: 'it returns false'. Refute it at one input. -/
def reconcileRepairsWrong : ChangeSpec := { name := "reconcileRepairs", fn := fun _ => fun
  | [d1, d2] => { results := [.lit (.bool false)], args := [d1, d2] }
  | _ => none }
def ReconcileRepairsWrongFalsely : Prop := reconcileRepairsRow.holds Try.pinned (OpenSpec.ofChange reconcileRepairsWrong)

/- THE SECOND FORM. 'bulk': how many values and letters a reading holds, each counted each time it is reached (what is shared counts as often as it is met; a slice's spare places count too). A statement '..UptoSaid' is the law's where the arguments, and the package variables that the reading takes, are together of bulk at most 1048576: NARROWER than '..Said'. Prove '..Said' where nothing that the law and all that it calls make is longer than what came in: it says more and counts as full. Else prove '..UptoSaid'. A law counts once. -/
mutual
def uptoBulk {H : Type} : DataW H → Nat
  | .lit (.string bytes) => bytes.length + 1
  | .lit _ => 1
  | .nil => 1
  | .ptr d => uptoBulk d + 1
  | .slice elems spare => uptoBulkAll elems + uptoBulkAll spare + 1
  | .agg parts => uptoBulkAll parts + 1
  | .iface _ d => uptoBulk d + 1
  | .map entries => uptoBulkEntries entries + 1
  | .held _ => 1
def uptoBulkAll {H : Type} : List (DataW H) → Nat
  | [] => 0
  | d :: r => uptoBulk d + uptoBulkAll r
def uptoBulkEntries {H : Type} : List (Lit × DataW H) → Nat
  | [] => 0
  | x :: r => uptoBulkEntry x + uptoBulkEntries r
def uptoBulkEntry {H : Type} : Lit × DataW H → Nat
  | (.string bytes, d) => bytes.length + uptoBulk d + 1
  | (_, d) => uptoBulk d + 1
 end
def uptoSmall : (H : Type) → List (DataW H) → Bool := fun _ ds => decide (uptoBulkAll ds ≤ 1048576)
def OpenSpec.upto (s : _root_.Go.ChangeSpec) : _root_.Go.OpenSpec := { _root_.Go.OpenSpec.ofChange s with cond := some uptoSmall }

/-- 'airlinelaw46.ReconcileMerges', WHERE WHAT IT READS IS OF BULK AT MOST 1048576: true; the input reads as it did. -/
def reconcileMergesUptoRow : OpenClaim := { program := "ytdkcicbpcagonab", sum := "8d9b85ab0bfe0e35187e6903ac22ee6d95ee08f58783918ea8223acd6db4854d", func := "airline/airlinelaw46.ReconcileMerges", spec := "reconcileMerges", unfollowed := true, recurses := true, plainKeys := false, apart := false, narrowed := true }
def ReconcileMergesUptoSaid : Prop := reconcileMergesUptoRow.holds Try.pinned (OpenSpec.upto reconcileMergesSpec)

/-- 'airlinelaw46.ReconcileNil', WHERE WHAT IT READS IS OF BULK AT MOST 1048576: true; the input reads as it did. -/
def reconcileNilUptoRow : OpenClaim := { program := "ytdkcicbpcagonab", sum := "8d9b85ab0bfe0e35187e6903ac22ee6d95ee08f58783918ea8223acd6db4854d", func := "airline/airlinelaw46.ReconcileNil", spec := "reconcileNil", unfollowed := true, recurses := true, plainKeys := false, apart := false, narrowed := true }
def ReconcileNilUptoSaid : Prop := reconcileNilUptoRow.holds Try.pinned (OpenSpec.upto reconcileNilSpec)

/-- 'airlinelaw46.ReconcileRepairs', WHERE WHAT IT READS IS OF BULK AT MOST 1048576: true; the input reads as it did. -/
def reconcileRepairsUptoRow : OpenClaim := { program := "ytdkcicbpcagonab", sum := "8d9b85ab0bfe0e35187e6903ac22ee6d95ee08f58783918ea8223acd6db4854d", func := "airline/airlinelaw46.ReconcileRepairs", spec := "reconcileRepairs", unfollowed := true, recurses := true, plainKeys := false, apart := false, narrowed := true }
def ReconcileRepairsUptoSaid : Prop := reconcileRepairsUptoRow.holds Try.pinned (OpenSpec.upto reconcileRepairsSpec)

end Rows
end Go.Proofs.Ytdkcicbpcagonab
