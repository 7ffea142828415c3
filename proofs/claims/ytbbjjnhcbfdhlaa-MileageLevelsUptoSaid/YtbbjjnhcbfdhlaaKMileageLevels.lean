/- MileageLevels returns true for every input of bulk at most 1048576, and the input reads as it did. No further condition. -/
import Derived.Test.YtbbjjnhcbfdhlaaAlC
import Derived.Test.YtbbjjnhcbfdhlaaMil10
import Derived.WalkKit
import Derived.ProofKit
import Derived.OpenShut
import Derived.JoinedCond
namespace Go.Proofs.Ytbbjjnhcbfdhlaa.mileageLevels
open Go Go.AL Go.ChangeShapes Go.WideShapes Go.ChangeAt Go.RowKit
set_option linter.unusedVariables false

theorem own : ownKnob Try.prog.godebug = none := by kernel_rfl

def en (p : Int × Int × Int × Unit) : List V := [.int .i64 p.1, .int .i64 p.2.1, .int .i64 p.2.2.1]
def wf (p : Int × Int × Int × Unit) : Prop := (IntKind.i64.min ≤ p.1 ∧ p.1 ≤ IntKind.i64.max) ∧ (IntKind.i64.min ≤ p.2.1 ∧ p.2.1 ≤ IntKind.i64.max) ∧ (IntKind.i64.min ≤ p.2.2.1 ∧ p.2.2.1 ≤ IntKind.i64.max) ∧ True
theorem opens : ArgsOpen Try.prog Try.f3.params.toList en wf :=
  ArgsOpen.cons (Opens.argOpen (Opens.int (k := .i64) (by kernel_rfl)) (by kernel_rfl)) (ArgsOpen.cons (Opens.argOpen (Opens.int (k := .i64) (by kernel_rfl)) (by kernel_rfl)) (ArgsOpen.cons (Opens.argOpen (Opens.int (k := .i64) (by kernel_rfl)) (by kernel_rfl)) ArgsOpen.nil))
theorem called (p : Int × Int × Int × Unit) (_ : wf p) (_ : cellsBulk (en p) ≤ 1048576) : CallA Try.prog 3 (en p) [] fun r _ => r = .bool true :=
  (law_levels p.1 p.2.1 p.2.2.1 []).mono fun r S' h => h.1

theorem contract (H : Type) (enc : TypeId × Value → H) (W : World) (base : Nat) (args : Array Value) (ds gs : List (DataW H)) (before : List MemPlace)
    (hval : ∀ (j : Nat) t v, Try.f3.params[j]? = some t → args[j]? = some v → Value.okWide Try.prog W .any base t v)
    (hW : DataW.Whole enc Try.prog Try.f3.params.toList Rows.mileageLevelsSpec.vars false W args.toList ds gs before) (hk : Rows.uptoSmall H (ds ++ gs) = true) :
    Calls Try.prog 3 args W fun e W' => ∃ v, e = .returned v ∧ Rows.mileageLevelsSpec.post enc Try.prog Try.f3 false true false false W args v W' :=
  law_contract (tb := 4) opens called rfl (by kernel_rfl) (by kernel_rfl) (fun H ds h => by
    have h' : ds.length = 3 := h
    match ds, h' with
    | [d1, d2, d3], _ => exact ⟨rfl, rfl, rfl⟩) hval hW hk

set_option maxRecDepth 100000 in
theorem lifted (os : Os) (started : os.Started) (H : Type) (enc : TypeId × Value → H) (F : Stop.Interp) :
    ReturnsInHanded {} Try.checked os 3 .any ((Rows.OpenSpec.upto Rows.mileageLevelsSpec).pre6 enc Try.prog Try.f3 Rows.mileageLevelsUptoRow.domain false) (((Rows.OpenSpec.upto Rows.mileageLevelsSpec).at F).post enc Try.prog Try.f3 false true false false) := by
  refine returnsInHanded_of_cond (C := Try.checked) (s := Rows.OpenSpec.upto Rows.mileageLevelsSpec) (k := Rows.uptoSmall) rfl own started (by kernel_rfl) Try.func3
    (OpenSpec.witness (enc := enc) (C := Try.checked) (s := Rows.OpenSpec.upto Rows.mileageLevelsSpec) (k := Rows.uptoSmall) rfl false ⟨#[], #[.int .i64 0, .int .i64 0, .int .i64 0], []⟩ 8 (by kernel_rfl) (by kernel_rfl) (by kernel_rfl)
      (x := ([.lit (.int .i64 0), .lit (.int .i64 0), .lit (.int .i64 0)], [], [])) (by kernel_rfl) rfl (by kernel_rfl)) ?_
  intro W base args ds gs before hval hW _ hk _
  exact contract H enc W base args ds gs before hval hW hk

theorem over : Rows.mileageLevelsUptoRow.holds Try.pinned (Rows.OpenSpec.upto Rows.mileageLevelsSpec) :=
  OpenClaim.holds_of_cond 3 Try.f3 rfl rfl rfl rfl rfl rfl rfl ⟨rfl, rfl, rfl, rfl, rfl⟩ rfl rfl rfl rfl rfl (by kernel_rfl) Try.func3 (by kernel_rfl)
    (of_decide_eq_true (by kernel_rfl)) (by unfold Func.isWrapper; first | (rw [if_pos (by decide +kernel)]; kernel_rfl) | (rw [if_neg (by decide +kernel)]; exact ⟨rfl, rfl⟩))
    (fun os started H enc _ F => lifted os started H enc F)

theorem proved : Rows.MileageLevelsUptoSaid :=
  over
end Go.Proofs.Ytbbjjnhcbfdhlaa.mileageLevels
