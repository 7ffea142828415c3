/- LocatorApart returns true for every input of bulk at most 1048576, and the input reads as it did. No further condition. -/
import Derived.Test.YtnepgfplikifjaaAlC
import Derived.Test.YtnepgfplikifjaaLoc10
import Derived.WalkKit
import Derived.ProofKit
import Derived.OpenShut
import Derived.JoinedCond
namespace Go.Proofs.Ytnepgfplikifjaa.locatorApart
open Go Go.AL Go.ChangeShapes Go.WideShapes Go.ChangeAt Go.RowKit
set_option linter.unusedVariables false

theorem own : ownKnob Try.prog.godebug = none := by kernel_rfl

def en (p : Int × Int × Int × Int × Unit) : List V := [.int .u32 p.1, .int .u32 p.2.1, .int .u8 p.2.2.1, .int .u8 p.2.2.2.1]
def wf (p : Int × Int × Int × Int × Unit) : Prop := (IntKind.u32.min ≤ p.1 ∧ p.1 ≤ IntKind.u32.max) ∧ (IntKind.u32.min ≤ p.2.1 ∧ p.2.1 ≤ IntKind.u32.max) ∧ (IntKind.u8.min ≤ p.2.2.1 ∧ p.2.2.1 ≤ IntKind.u8.max) ∧ (IntKind.u8.min ≤ p.2.2.2.1 ∧ p.2.2.2.1 ≤ IntKind.u8.max) ∧ True
theorem opens : ArgsOpen Try.prog Try.f5.params.toList en wf :=
  ArgsOpen.cons (Opens.argOpen (Opens.int (k := .u32) (by kernel_rfl)) (by kernel_rfl)) (ArgsOpen.cons (Opens.argOpen (Opens.int (k := .u32) (by kernel_rfl)) (by kernel_rfl)) (ArgsOpen.cons (Opens.argOpen (Opens.int (k := .u8) (by kernel_rfl)) (by kernel_rfl)) (ArgsOpen.cons (Opens.argOpen (Opens.int (k := .u8) (by kernel_rfl)) (by kernel_rfl)) (ArgsOpen.nil))))
theorem u32 {n : Int} (h : IntKind.u32.min ≤ n ∧ n ≤ IntKind.u32.max) : 0 ≤ n ∧ n ≤ 4294967295 := h
theorem u8 {n : Int} (h : IntKind.u8.min ≤ n ∧ n ≤ IntKind.u8.max) : 0 ≤ n ∧ n ≤ 255 := h
theorem called (p : Int × Int × Int × Int × Unit) (hw : wf p) (_ : cellsBulk (en p) ≤ 1048576) : CallA Try.prog 5 (en p) [] fun r _ => r = .bool true := by
  have hc := u8 hw.2.2.2.1
  have e : (((UInt8.ofNat p.2.2.2.1.toNat).toNat : Nat) : Int) = p.2.2.2.1 := by
    rw [UInt8.toNat_ofNat']
    omega
  have := apart_A p.1 p.2.1 p.2.2.1 (UInt8.ofNat p.2.2.2.1.toNat) [] (u32 hw.1) (u32 hw.2.1) (u8 hw.2.2.1)
  rw [e] at this
  exact this.mono fun r S h => h.1

theorem contract (H : Type) (enc : TypeId × Value → H) (W : World) (base : Nat) (args : Array Value) (ds gs : List (DataW H)) (before : List MemPlace)
    (hval : ∀ (j : Nat) t v, Try.f5.params[j]? = some t → args[j]? = some v → Value.okWide Try.prog W .any base t v)
    (hW : DataW.Whole enc Try.prog Try.f5.params.toList Rows.locatorApartSpec.vars false W args.toList ds gs before) (hk : Rows.uptoSmall H (ds ++ gs) = true) :
    Calls Try.prog 5 args W fun e W' => ∃ v, e = .returned v ∧ Rows.locatorApartSpec.post enc Try.prog Try.f5 false true false false W args v W' :=
  law_contract (tb := 4) opens called rfl (by kernel_rfl) (by kernel_rfl) (fun H ds h => by
    have h' : ds.length = 4 := h
    match ds, h' with
    | [d1, d2, d3, d4], _ => exact ⟨rfl, rfl, rfl⟩) hval hW hk

set_option maxRecDepth 100000 in
theorem lifted (os : Os) (started : os.Started) (H : Type) (enc : TypeId × Value → H) (F : Stop.Interp) :
    ReturnsInHanded {} Try.checked os 5 .any ((Rows.OpenSpec.upto Rows.locatorApartSpec).pre6 enc Try.prog Try.f5 Rows.locatorApartUptoRow.domain false) (((Rows.OpenSpec.upto Rows.locatorApartSpec).at F).post enc Try.prog Try.f5 false true false false) := by
  refine returnsInHanded_of_cond (C := Try.checked) (s := Rows.OpenSpec.upto Rows.locatorApartSpec) (k := Rows.uptoSmall) rfl own started (by kernel_rfl) Try.func5
    (OpenSpec.witness (enc := enc) (C := Try.checked) (s := Rows.OpenSpec.upto Rows.locatorApartSpec) (k := Rows.uptoSmall) rfl false ⟨#[], #[.int .u32 0, .int .u32 0, .int .u8 0, .int .u8 0], []⟩ 8 (by kernel_rfl) (by kernel_rfl) (by kernel_rfl)
      (x := ([.lit (.int .u32 0), .lit (.int .u32 0), .lit (.int .u8 0), .lit (.int .u8 0)], [], [])) (by kernel_rfl) rfl (by kernel_rfl)) ?_
  intro W base args ds gs before hval hW _ hk _
  exact contract H enc W base args ds gs before hval hW hk

theorem over : Rows.locatorApartUptoRow.holds Try.pinned (Rows.OpenSpec.upto Rows.locatorApartSpec) :=
  OpenClaim.holds_of_cond 5 Try.f5 rfl rfl rfl rfl rfl rfl rfl ⟨rfl, rfl, rfl, rfl, rfl⟩ rfl rfl rfl rfl rfl (by kernel_rfl) Try.func5 (by kernel_rfl)
    (of_decide_eq_true (by kernel_rfl)) (by unfold Func.isWrapper; first | (rw [if_pos (by decide +kernel)]; kernel_rfl) | (rw [if_neg (by decide +kernel)]; exact ⟨rfl, rfl⟩))
    (fun os started H enc _ F => lifted os started H enc F)

theorem proved : Rows.LocatorApartUptoSaid :=
  over
end Go.Proofs.Ytnepgfplikifjaa.locatorApart
