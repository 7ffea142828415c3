/- LocatorBack returns true for every input of bulk at most 1048576, and the input reads as it did. No further condition. -/
import Derived.Test.YtnepgfplikifjaaAlC
import Derived.Test.YtnepgfplikifjaaLoc9
import Derived.WalkKit
import Derived.ProofKit
import Derived.OpenShut
import Derived.JoinedCond
namespace Go.Proofs.Ytnepgfplikifjaa.locatorBack
open Go Go.AL Go.ChangeShapes Go.WideShapes Go.ChangeAt Go.RowKit
set_option linter.unusedVariables false

theorem own : ownKnob Try.prog.godebug = none := by kernel_rfl

def en (p : Int × List UInt8 × Unit) : List V := [.int .i64 p.1, .str p.2.1]
def wf (p : Int × List UInt8 × Unit) : Prop := (IntKind.i64.min ≤ p.1 ∧ p.1 ≤ IntKind.i64.max) ∧ True ∧ True
theorem opens : ArgsOpen Try.prog Try.f4.params.toList en wf :=
  ArgsOpen.cons (Opens.argOpen (Opens.int (k := .i64) (by kernel_rfl)) (by kernel_rfl)) (ArgsOpen.cons (Opens.argOpen (Opens.str (by kernel_rfl)) (by kernel_rfl)) ArgsOpen.nil)
theorem called (p : Int × List UInt8 × Unit) (_ : wf p) (_ : cellsBulk (en p) ≤ 1048576) : CallA Try.prog 4 (en p) [] fun r _ => r = .bool true :=
  (back_A p.1 p.2.1 []).mono fun r S h => h.1

theorem contract (H : Type) (enc : TypeId × Value → H) (W : World) (base : Nat) (args : Array Value) (ds gs : List (DataW H)) (before : List MemPlace)
    (hval : ∀ (j : Nat) t v, Try.f4.params[j]? = some t → args[j]? = some v → Value.okWide Try.prog W .any base t v)
    (hW : DataW.Whole enc Try.prog Try.f4.params.toList Rows.locatorBackSpec.vars false W args.toList ds gs before) (hk : Rows.uptoSmall H (ds ++ gs) = true) :
    Calls Try.prog 4 args W fun e W' => ∃ v, e = .returned v ∧ Rows.locatorBackSpec.post enc Try.prog Try.f4 false true false false W args v W' :=
  law_contract (tb := 4) opens called rfl (by kernel_rfl) (by kernel_rfl) (fun H ds h => by
    have h' : ds.length = 2 := h
    match ds, h' with
    | [d1, d2], _ => exact ⟨rfl, rfl, rfl⟩) hval hW hk

set_option maxRecDepth 100000 in
theorem lifted (os : Os) (started : os.Started) (H : Type) (enc : TypeId × Value → H) (F : Stop.Interp) :
    ReturnsInHanded {} Try.checked os 4 .any ((Rows.OpenSpec.upto Rows.locatorBackSpec).pre6 enc Try.prog Try.f4 Rows.locatorBackUptoRow.domain false) (((Rows.OpenSpec.upto Rows.locatorBackSpec).at F).post enc Try.prog Try.f4 false true false false) := by
  refine returnsInHanded_of_cond (C := Try.checked) (s := Rows.OpenSpec.upto Rows.locatorBackSpec) (k := Rows.uptoSmall) rfl own started (by kernel_rfl) Try.func4
    (OpenSpec.witness (enc := enc) (C := Try.checked) (s := Rows.OpenSpec.upto Rows.locatorBackSpec) (k := Rows.uptoSmall) rfl false ⟨#[], #[.int .i64 0, .string ⟨#[]⟩], []⟩ 8 (by kernel_rfl) (by kernel_rfl) (by kernel_rfl)
      (x := ([.lit (.int .i64 0), .lit (.string [])], [], [])) (by kernel_rfl) rfl (by kernel_rfl)) ?_
  intro W base args ds gs before hval hW _ hk _
  exact contract H enc W base args ds gs before hval hW hk

theorem over : Rows.locatorBackUptoRow.holds Try.pinned (Rows.OpenSpec.upto Rows.locatorBackSpec) :=
  OpenClaim.holds_of_cond 4 Try.f4 rfl rfl rfl rfl rfl rfl rfl ⟨rfl, rfl, rfl, rfl, rfl⟩ rfl rfl rfl rfl rfl (by kernel_rfl) Try.func4 (by kernel_rfl)
    (of_decide_eq_true (by kernel_rfl)) (by unfold Func.isWrapper; first | (rw [if_pos (by decide +kernel)]; kernel_rfl) | (rw [if_neg (by decide +kernel)]; exact ⟨rfl, rfl⟩))
    (fun os started H enc _ F => lifted os started H enc F)

theorem proved : Rows.LocatorBackUptoSaid :=
  over
end Go.Proofs.Ytnepgfplikifjaa.locatorBack
