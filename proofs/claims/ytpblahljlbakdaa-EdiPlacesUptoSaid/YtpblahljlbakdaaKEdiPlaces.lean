/- EdiPlaces returns true for every input of bulk at most 1048576, and the input reads as it did. No further condition. -/
import Derived.Test.YtpblahljlbakdaaAlC
import Derived.Test.YtpblahljlbakdaaEdi24
import Derived.WalkKit
import Derived.ProofKit
import Derived.OpenShut
import Derived.JoinedCond
namespace Go.Proofs.Ytpblahljlbakdaa.ediPlaces
open Go Go.AL Go.ChangeShapes Go.WideShapes Go.ChangeAt Go.RowKit
set_option linter.unusedVariables false

theorem own : ownKnob Try.prog.godebug = none := by kernel_rfl

def en (p : List UInt8 × Unit) : List V := [.str p.1]
def wf (p : List UInt8 × Unit) : Prop := True ∧ True
theorem opens : ArgsOpen Try.prog Try.f7.params.toList en wf :=
  ArgsOpen.cons (Opens.argOpen (Opens.str (by kernel_rfl)) (by kernel_rfl)) (ArgsOpen.nil)
theorem called (p : List UInt8 × Unit) (_ : wf p) (hb : cellsBulk (en p) ≤ 1048576) : CallA Try.prog 7 (en p) [] fun r _ => r = .bool true := by
  exact (places_A p.1 []).mono fun r S h => h.1

theorem contract (H : Type) (enc : TypeId × Value → H) (W : World) (base : Nat) (args : Array Value) (ds gs : List (DataW H)) (before : List MemPlace)
    (hval : ∀ (j : Nat) t v, Try.f7.params[j]? = some t → args[j]? = some v → Value.okWide Try.prog W .any base t v)
    (hW : DataW.Whole enc Try.prog Try.f7.params.toList Rows.ediPlacesSpec.vars false W args.toList ds gs before) (hk : Rows.uptoSmall H (ds ++ gs) = true) :
    Calls Try.prog 7 args W fun e W' => ∃ v, e = .returned v ∧ Rows.ediPlacesSpec.post enc Try.prog Try.f7 false true false false W args v W' :=
  law_contract (tb := 4) opens called rfl (by kernel_rfl) (by kernel_rfl) (fun H ds h => by
    have h' : ds.length = 1 := h
    match ds, h' with
    | [d1], _ => exact ⟨rfl, rfl, rfl⟩) hval hW hk

set_option maxRecDepth 100000 in
theorem lifted (os : Os) (started : os.Started) (H : Type) (enc : TypeId × Value → H) (F : Stop.Interp) :
    ReturnsInHanded {} Try.checked os 7 .any ((Rows.OpenSpec.upto Rows.ediPlacesSpec).pre6 enc Try.prog Try.f7 Rows.ediPlacesUptoRow.domain false) (((Rows.OpenSpec.upto Rows.ediPlacesSpec).at F).post enc Try.prog Try.f7 false true false false) := by
  refine returnsInHanded_of_cond (C := Try.checked) (s := Rows.OpenSpec.upto Rows.ediPlacesSpec) (k := Rows.uptoSmall) rfl own started (by kernel_rfl) Try.func7
    (OpenSpec.witness (enc := enc) (C := Try.checked) (s := Rows.OpenSpec.upto Rows.ediPlacesSpec) (k := Rows.uptoSmall) rfl false ⟨#[], #[.string ⟨#[]⟩], []⟩ 8 (by kernel_rfl) (by kernel_rfl) (by kernel_rfl)
      (x := ([.lit (.string [])], [], [])) (by kernel_rfl) rfl (by kernel_rfl)) ?_
  intro W base args ds gs before hval hW _ hk _
  exact contract H enc W base args ds gs before hval hW hk

theorem over : Rows.ediPlacesUptoRow.holds Try.pinned (Rows.OpenSpec.upto Rows.ediPlacesSpec) :=
  OpenClaim.holds_of_cond 7 Try.f7 rfl rfl rfl rfl rfl rfl rfl ⟨rfl, rfl, rfl, rfl, rfl⟩ rfl rfl rfl rfl rfl (by kernel_rfl) Try.func7 (by kernel_rfl)
    (of_decide_eq_true (by kernel_rfl)) (by unfold Func.isWrapper; first | (rw [if_pos (by decide +kernel)]; kernel_rfl) | (rw [if_neg (by decide +kernel)]; exact ⟨rfl, rfl⟩))
    (fun os started H enc _ F => lifted os started H enc F)

theorem proved : Rows.EdiPlacesUptoSaid :=
  over
end Go.Proofs.Ytpblahljlbakdaa.ediPlaces
