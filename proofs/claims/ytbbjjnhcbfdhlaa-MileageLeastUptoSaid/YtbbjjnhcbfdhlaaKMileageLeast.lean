/- MileageLeast returns true for every input of bulk at most 1048576, and the input reads as it did. No further condition. -/
import Derived.Test.YtbbjjnhcbfdhlaaAlC
import Derived.Test.YtbbjjnhcbfdhlaaMil11
import Derived.WalkKit
import Derived.ProofKit
import Derived.OpenShut
import Derived.JoinedCond
namespace Go.Proofs.Ytbbjjnhcbfdhlaa.mileageLeast
open Go Go.AL Go.ChangeShapes Go.WideShapes Go.ChangeAt Go.RowKit
set_option linter.unusedVariables false

theorem own : ownKnob Try.prog.godebug = none := by kernel_rfl

def en (p : Int × Int × Int × Unit) : List V := [.int .u32 p.1, .int .u32 p.2.1, .int .i32 p.2.2.1]
def wf (p : Int × Int × Int × Unit) : Prop := (IntKind.u32.min ≤ p.1 ∧ p.1 ≤ IntKind.u32.max) ∧ (IntKind.u32.min ≤ p.2.1 ∧ p.2.1 ≤ IntKind.u32.max) ∧ (IntKind.i32.min ≤ p.2.2.1 ∧ p.2.2.1 ≤ IntKind.i32.max) ∧ True
theorem opens : ArgsOpen Try.prog Try.f5.params.toList en wf :=
  ArgsOpen.cons (Opens.argOpen (Opens.int (k := .u32) (by kernel_rfl)) (by kernel_rfl)) (ArgsOpen.cons (Opens.argOpen (Opens.int (k := .u32) (by kernel_rfl)) (by kernel_rfl)) (ArgsOpen.cons (Opens.argOpen (Opens.int (k := .i32) (by kernel_rfl)) (by kernel_rfl)) ArgsOpen.nil))
theorem u32 {n : Int} (h : IntKind.u32.min ≤ n ∧ n ≤ IntKind.u32.max) : 0 ≤ n ∧ n ≤ 4294967295 := h
theorem i32 {n : Int} (h : IntKind.i32.min ≤ n ∧ n ≤ IntKind.i32.max) : -2147483648 ≤ n ∧ n ≤ 2147483647 := h
theorem called (p : Int × Int × Int × Unit) (hw : wf p) (_ : cellsBulk (en p) ≤ 1048576) : CallA Try.prog 5 (en p) [] fun r _ => r = .bool true :=
  (law_least p.1 p.2.1 p.2.2.1 [] (u32 hw.1).1 (u32 hw.1).2 (u32 hw.2.1).1 (u32 hw.2.1).2 (i32 hw.2.2.1).1 (i32 hw.2.2.1).2).mono fun r S' h => h.1

theorem contract (H : Type) (enc : TypeId × Value → H) (W : World) (base : Nat) (args : Array Value) (ds gs : List (DataW H)) (before : List MemPlace)
    (hval : ∀ (j : Nat) t v, Try.f5.params[j]? = some t → args[j]? = some v → Value.okWide Try.prog W .any base t v)
    (hW : DataW.Whole enc Try.prog Try.f5.params.toList Rows.mileageLeastSpec.vars false W args.toList ds gs before) (hk : Rows.uptoSmall H (ds ++ gs) = true) :
    Calls Try.prog 5 args W fun e W' => ∃ v, e = .returned v ∧ Rows.mileageLeastSpec.post enc Try.prog Try.f5 false true false false W args v W' :=
  law_contract (tb := 4) opens called rfl (by kernel_rfl) (by kernel_rfl) (fun H ds h => by
    have h' : ds.length = 3 := h
    match ds, h' with
    | [d1, d2, d3], _ => exact ⟨rfl, rfl, rfl⟩) hval hW hk

set_option maxRecDepth 100000 in
theorem lifted (os : Os) (started : os.Started) (H : Type) (enc : TypeId × Value → H) (F : Stop.Interp) :
    ReturnsInHanded {} Try.checked os 5 .any ((Rows.OpenSpec.upto Rows.mileageLeastSpec).pre6 enc Try.prog Try.f5 Rows.mileageLeastUptoRow.domain false) (((Rows.OpenSpec.upto Rows.mileageLeastSpec).at F).post enc Try.prog Try.f5 false true false false) := by
  refine returnsInHanded_of_cond (C := Try.checked) (s := Rows.OpenSpec.upto Rows.mileageLeastSpec) (k := Rows.uptoSmall) rfl own started (by kernel_rfl) Try.func5
    (OpenSpec.witness (enc := enc) (C := Try.checked) (s := Rows.OpenSpec.upto Rows.mileageLeastSpec) (k := Rows.uptoSmall) rfl false ⟨#[], #[.int .u32 0, .int .u32 0, .int .i32 0], []⟩ 8 (by kernel_rfl) (by kernel_rfl) (by kernel_rfl)
      (x := ([.lit (.int .u32 0), .lit (.int .u32 0), .lit (.int .i32 0)], [], [])) (by kernel_rfl) rfl (by kernel_rfl)) ?_
  intro W base args ds gs before hval hW _ hk _
  exact contract H enc W base args ds gs before hval hW hk

theorem over : Rows.mileageLeastUptoRow.holds Try.pinned (Rows.OpenSpec.upto Rows.mileageLeastSpec) :=
  OpenClaim.holds_of_cond 5 Try.f5 rfl rfl rfl rfl rfl rfl rfl ⟨rfl, rfl, rfl, rfl, rfl⟩ rfl rfl rfl rfl rfl (by kernel_rfl) Try.func5 (by kernel_rfl)
    (of_decide_eq_true (by kernel_rfl)) (by unfold Func.isWrapper; first | (rw [if_pos (by decide +kernel)]; kernel_rfl) | (rw [if_neg (by decide +kernel)]; exact ⟨rfl, rfl⟩))
    (fun os started H enc _ F => lifted os started H enc F)

theorem proved : Rows.MileageLeastUptoSaid :=
  over
end Go.Proofs.Ytbbjjnhcbfdhlaa.mileageLeast
