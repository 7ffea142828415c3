/- BidTells returns true for every input of bulk at most 1048576, and the input reads as it did. No further condition. -/
import Derived.Test.YtoidchljifelgaaAlC
import Derived.Test.YtoidchljifelgaaBid14
import Derived.WalkKit
import Derived.ProofKit
import Derived.OpenShut
import Derived.JoinedCond
namespace Go.Proofs.Ytoidchljifelgaa.bidTells
open Go Go.AL Go.ChangeShapes Go.WideShapes Go.ChangeAt Go.RowKit
set_option linter.unusedVariables false

theorem own : ownKnob Try.prog.godebug = none := by kernel_rfl

def en (p : List Int × Int × Unit) : List V := [iSl p.1, .int .i64 p.2.1]
def wf (p : List Int × Int × Unit) : Prop := (∀ a ∈ p.1, IntKind.i64.min ≤ a ∧ a ≤ IntKind.i64.max) ∧ (IntKind.i64.min ≤ p.2.1 ∧ p.2.1 ≤ IntKind.i64.max) ∧ True
theorem opens : ArgsOpen Try.prog Try.f4.params.toList en wf :=
  ArgsOpen.cons (Opens.argOpen (Opens.slice (q := 3) (sz := 1) (by kernel_rfl) (by kernel_rfl) (by omega) (fun _ => rfl) (Opens.int (k := .i64) (by kernel_rfl))) (by kernel_rfl)) (ArgsOpen.cons (Opens.argOpen (Opens.int (k := .i64) (by kernel_rfl)) (by kernel_rfl)) ArgsOpen.nil)
theorem called (p : List Int × Int × Unit) (_ : wf p) (hb : cellsBulk (en p) ≤ 1048576) : CallA Try.prog 4 (en p) [] fun r _ => r = .bool true := by
  refine (tells_A p.1 p.2.1 [] ?_).mono fun r S' h => h.1
  have h1 := cellsBulk_mem (vs := en p) (v := iSl p.1) (by simp [en])
  have h2 := rowsBulk_len (p.1.map fun n => [V.int .i64 n]) (fun r hr => by obtain ⟨n, _, rfl⟩ := List.mem_map.1 hr; exact Nat.le_refl _)
  simp only [iSl, V.bulk, List.length_map] at h1 h2
  omega

theorem contract (H : Type) (enc : TypeId × Value → H) (W : World) (base : Nat) (args : Array Value) (ds gs : List (DataW H)) (before : List MemPlace)
    (hval : ∀ (j : Nat) t v, Try.f4.params[j]? = some t → args[j]? = some v → Value.okWide Try.prog W .any base t v)
    (hW : DataW.Whole enc Try.prog Try.f4.params.toList Rows.bidTellsSpec.vars false W args.toList ds gs before) (hk : Rows.uptoSmall H (ds ++ gs) = true) :
    Calls Try.prog 4 args W fun e W' => ∃ v, e = .returned v ∧ Rows.bidTellsSpec.post enc Try.prog Try.f4 false true false false W args v W' :=
  law_contract (tb := 4) opens called rfl (by kernel_rfl) (by kernel_rfl) (fun H ds h => by
    have h' : ds.length = 2 := h
    match ds, h' with
    | [d1, d2], _ => exact ⟨rfl, rfl, rfl⟩) hval hW hk

set_option maxRecDepth 100000 in
theorem lifted (os : Os) (started : os.Started) (H : Type) (enc : TypeId × Value → H) (F : Stop.Interp) :
    ReturnsInHanded {} Try.checked os 4 .any ((Rows.OpenSpec.upto Rows.bidTellsSpec).pre6 enc Try.prog Try.f4 Rows.bidTellsUptoRow.domain false) (((Rows.OpenSpec.upto Rows.bidTellsSpec).at F).post enc Try.prog Try.f4 false true false false) := by
  refine returnsInHanded_of_cond (C := Try.checked) (s := Rows.OpenSpec.upto Rows.bidTellsSpec) (k := Rows.uptoSmall) rfl own started (by kernel_rfl) Try.func4
    (OpenSpec.witness (enc := enc) (C := Try.checked) (s := Rows.OpenSpec.upto Rows.bidTellsSpec) (k := Rows.uptoSmall) rfl false ⟨#[], #[.slice none 0 0, .int .i64 0], []⟩ 8 (by kernel_rfl) (by kernel_rfl) (by kernel_rfl)
      (x := ([.nil, .lit (.int .i64 0)], [], [])) (by kernel_rfl) rfl (by kernel_rfl)) ?_
  intro W base args ds gs before hval hW _ hk _
  exact contract H enc W base args ds gs before hval hW hk

theorem over : Rows.bidTellsUptoRow.holds Try.pinned (Rows.OpenSpec.upto Rows.bidTellsSpec) :=
  OpenClaim.holds_of_cond 4 Try.f4 rfl rfl rfl rfl rfl rfl rfl ⟨rfl, rfl, rfl, rfl, rfl⟩ rfl rfl rfl rfl rfl (by kernel_rfl) Try.func4 (by kernel_rfl)
    (of_decide_eq_true (by kernel_rfl)) (by unfold Func.isWrapper; first | (rw [if_pos (by decide +kernel)]; kernel_rfl) | (rw [if_neg (by decide +kernel)]; exact ⟨rfl, rfl⟩))
    (fun os started H enc _ F => lifted os started H enc F)

theorem proved : Rows.BidTellsUptoSaid :=
  over
end Go.Proofs.Ytoidchljifelgaa.bidTells
