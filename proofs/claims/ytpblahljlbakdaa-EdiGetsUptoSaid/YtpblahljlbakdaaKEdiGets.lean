/- EdiGets returns true for every input of bulk at most 1048576, and the input reads as it did. No further condition. -/
import Derived.Test.YtpblahljlbakdaaAlC
import Derived.Test.YtpblahljlbakdaaEdi24
import Derived.WalkKit
import Derived.ProofKit
import Derived.OpenShut
import Derived.JoinedCond
namespace Go.Proofs.Ytpblahljlbakdaa.ediGets
open Go Go.AL Go.ChangeShapes Go.WideShapes Go.ChangeAt Go.RowKit
set_option linter.unusedVariables false

theorem own : ownKnob Try.prog.godebug = none := by kernel_rfl

def en (p : Ln × Int × Int × Unit) : List V := [.agg (lnR p.1), .int .i64 p.2.1, .int .i64 p.2.2.1]
def wf (p : Ln × Int × Int × Unit) : Prop := True ∧ (IntKind.i64.min ≤ p.2.1 ∧ p.2.1 ≤ IntKind.i64.max) ∧ (IntKind.i64.min ≤ p.2.2.1 ∧ p.2.2.1 ≤ IntKind.i64.max) ∧ True
theorem opens : ArgsOpen Try.prog Try.f5.params.toList en wf :=
  ArgsOpen.cons (Opens.argsOpen Try.underlying35 opensLn) (ArgsOpen.cons (Opens.argOpen (Opens.int (k := .i64) (by kernel_rfl)) (by kernel_rfl)) (ArgsOpen.cons (Opens.argOpen (Opens.int (k := .i64) (by kernel_rfl)) (by kernel_rfl)) (ArgsOpen.nil)))
theorem called (p : Ln × Int × Int × Unit) (_ : wf p) (hb : cellsBulk (en p) ≤ 1048576) : CallA Try.prog 5 (en p) [] fun r _ => r = .bool true := by
  simp only [en, cellsBulk, V.bulk] at hb
  have h := bulkX p.1
  exact (gets_A p.1 p.2.1 p.2.2.1 [] (fitX_of (by omega))).mono fun r S h => h.1

theorem contract (H : Type) (enc : TypeId × Value → H) (W : World) (base : Nat) (args : Array Value) (ds gs : List (DataW H)) (before : List MemPlace)
    (hval : ∀ (j : Nat) t v, Try.f5.params[j]? = some t → args[j]? = some v → Value.okWide Try.prog W .any base t v)
    (hW : DataW.Whole enc Try.prog Try.f5.params.toList Rows.ediGetsSpec.vars false W args.toList ds gs before) (hk : Rows.uptoSmall H (ds ++ gs) = true) :
    Calls Try.prog 5 args W fun e W' => ∃ v, e = .returned v ∧ Rows.ediGetsSpec.post enc Try.prog Try.f5 false true false false W args v W' :=
  law_contract (tb := 4) opens called rfl (by kernel_rfl) (by kernel_rfl) (fun H ds h => by
    have h' : ds.length = 3 := h
    match ds, h' with
    | [d1, d2, d3], _ => exact ⟨rfl, rfl, rfl⟩) hval hW hk

set_option maxRecDepth 100000 in
theorem lifted (os : Os) (started : os.Started) (H : Type) (enc : TypeId × Value → H) (F : Stop.Interp) :
    ReturnsInHanded {} Try.checked os 5 .any ((Rows.OpenSpec.upto Rows.ediGetsSpec).pre6 enc Try.prog Try.f5 Rows.ediGetsUptoRow.domain false) (((Rows.OpenSpec.upto Rows.ediGetsSpec).at F).post enc Try.prog Try.f5 false true false false) := by
  refine returnsInHanded_of_cond (C := Try.checked) (s := Rows.OpenSpec.upto Rows.ediGetsSpec) (k := Rows.uptoSmall) rfl own started (by kernel_rfl) Try.func5
    (OpenSpec.witness (enc := enc) (C := Try.checked) (s := Rows.OpenSpec.upto Rows.ediGetsSpec) (k := Rows.uptoSmall) rfl false ⟨#[], #[.agg #[.string ⟨#[]⟩, .slice none 0 0], .int .i64 0, .int .i64 0], []⟩ 8 (by kernel_rfl) (by kernel_rfl) (by kernel_rfl)
      (x := ([.agg [.lit (.string []), .nil], .lit (.int .i64 0), .lit (.int .i64 0)], [], [])) (by kernel_rfl) rfl (by kernel_rfl)) ?_
  intro W base args ds gs before hval hW _ hk _
  exact contract H enc W base args ds gs before hval hW hk

theorem over : Rows.ediGetsUptoRow.holds Try.pinned (Rows.OpenSpec.upto Rows.ediGetsSpec) :=
  OpenClaim.holds_of_cond 5 Try.f5 rfl rfl rfl rfl rfl rfl rfl ⟨rfl, rfl, rfl, rfl, rfl⟩ rfl rfl rfl rfl rfl (by kernel_rfl) Try.func5 (by kernel_rfl)
    (of_decide_eq_true (by kernel_rfl)) (by unfold Func.isWrapper; first | (rw [if_pos (by decide +kernel)]; kernel_rfl) | (rw [if_neg (by decide +kernel)]; exact ⟨rfl, rfl⟩))
    (fun os started H enc _ F => lifted os started H enc F)

theorem proved : Rows.EdiGetsUptoSaid :=
  over
end Go.Proofs.Ytpblahljlbakdaa.ediGets
