/- ReconcileNil returns true for every input of bulk at most 1048576, and the input reads as it did. No further condition. -/
import Derived.Test.YtdkcicbpcagonabAlC
import Derived.Test.YtdkcicbpcagonabRep6
import Derived.WalkKit
import Derived.ProofKit
import Derived.OpenShut
import Derived.JoinedCond
namespace Go.Proofs.Ytdkcicbpcagonab.reconcileNil
open Go Go.AL Go.ChangeShapes Go.WideShapes Go.ChangeAt Go.RowKit
set_option linter.unusedVariables false

theorem own : ownKnob Try.prog.godebug = none := by kernel_rfl

def wfS (x : St) : Prop := (IntKind.i64.min ≤ x.t ∧ x.t ≤ IntKind.i64.max) ∧ (IntKind.i64.min ≤ x.c ∧ x.c ≤ IntKind.i64.max) ∧ (IntKind.i64.min ≤ x.v ∧ x.v ≤ IntKind.i64.max) ∧ (IntKind.i64.min ≤ x.s ∧ x.s ≤ IntKind.i64.max)
theorem one : Opens Try.prog 27 stR wfS :=
  Opens.as (Opens.struct Try.underlying27 (by kernel_rfl) (OpensL.cons (Opens.int (k := .i64) (by kernel_rfl)) (OpensL.cons (Opens.int (k := .i64) (by kernel_rfl)) (OpensL.cons (Opens.int (k := .i64) (by kernel_rfl)) (OpensL.one (Opens.int (k := .i64) (by kernel_rfl))))))) stR wfS (fun p : Int × Int × Int × Int => St.mk p.1 p.2.1 p.2.2.1 p.2.2.2) (fun _ => rfl) (fun _ h => h)
theorem sts : Opens Try.prog 22 (fun l : List St => [stSl l]) (fun l => ∀ d ∈ l, wfS d) :=
  Opens.slice (q := 27) (sz := 4) (by kernel_rfl) (by kernel_rfl) (by omega) (fun _ => rfl) one
theorem small {l : List St} (h : (stSl l).bulk ≤ 1048576) : l.length ≤ 1048576 := by
  have h2 := rowsBulk_len (l.map stR) (fun r hr => by obtain ⟨n, _, rfl⟩ := List.mem_map.1 hr; simp [cellsBulk, stR, V.bulk])
  simp only [stSl, V.bulk, List.length_map] at h h2
  omega
def en (p : List St × Unit) : List V := [stSl p.1]
def wf (p : List St × Unit) : Prop := (∀ d ∈ p.1, wfS d) ∧ True
theorem opens : ArgsOpen Try.prog Try.f4.params.toList en wf :=
  ArgsOpen.cons (Opens.argOpen sts (by kernel_rfl)) ArgsOpen.nil
theorem called (p : List St × Unit) (hw : wf p) (hb : cellsBulk (en p) ≤ 1048576) : CallA Try.prog 4 (en p) [] fun r _ => r = .bool true := by
  have h1 := cellsBulk_mem (vs := en p) (v := stSl p.1) (by simp [en])
  have h3 := small (l := p.1) (by omega)
  exact (law_rnil p.1 [] (by omega)).mono fun r S h => h.1

set_option maxRecDepth 100000 in
theorem contract (H : Type) (enc : TypeId × Value → H) (W : World) (base : Nat) (args : Array Value) (ds gs : List (DataW H)) (before : List MemPlace)
    (hval : ∀ (j : Nat) t v, Try.f4.params[j]? = some t → args[j]? = some v → Value.okWide Try.prog W .any base t v)
    (hW : DataW.Whole enc Try.prog Try.f4.params.toList Rows.reconcileNilSpec.vars false W args.toList ds gs before) (hk : Rows.uptoSmall H (ds ++ gs) = true) :
    Calls Try.prog 4 args W fun e W' => ∃ v, e = .returned v ∧ Rows.reconcileNilSpec.post enc Try.prog Try.f4 false true false false W args v W' :=
  law_contract (tb := 4) opens called rfl (by kernel_rfl) (by kernel_rfl) (fun H ds h => by
    have h' : ds.length = 1 := h
    match ds, h' with
    | [d1], _ => exact ⟨rfl, rfl, rfl⟩) hval hW hk

set_option maxRecDepth 100000 in
theorem lifted (os : Os) (started : os.Started) (H : Type) (enc : TypeId × Value → H) (F : Stop.Interp) :
    ReturnsInHanded {} Try.checked os 4 .any ((Rows.OpenSpec.upto Rows.reconcileNilSpec).pre6 enc Try.prog Try.f4 Rows.reconcileNilUptoRow.domain false) (((Rows.OpenSpec.upto Rows.reconcileNilSpec).at F).post enc Try.prog Try.f4 false true false false) := by
  refine returnsInHanded_of_cond (C := Try.checked) (s := Rows.OpenSpec.upto Rows.reconcileNilSpec) (k := Rows.uptoSmall) rfl own started (by kernel_rfl) Try.func4
    (OpenSpec.witness (enc := enc) (C := Try.checked) (s := Rows.OpenSpec.upto Rows.reconcileNilSpec) (k := Rows.uptoSmall) rfl false ⟨#[], #[.slice none 0 0], []⟩ 8 (by kernel_rfl) (by kernel_rfl) (by kernel_rfl)
      (x := ([.nil], [], [])) (by kernel_rfl) rfl (by kernel_rfl)) ?_
  intro W base args ds gs before hval hW _ hk _
  exact contract H enc W base args ds gs before hval hW hk

theorem over : Rows.reconcileNilUptoRow.holds Try.pinned (Rows.OpenSpec.upto Rows.reconcileNilSpec) :=
  OpenClaim.holds_of_cond 4 Try.f4 rfl rfl rfl rfl rfl rfl rfl ⟨rfl, rfl, rfl, rfl, rfl⟩ rfl rfl rfl rfl rfl (by kernel_rfl) Try.func4 (by kernel_rfl)
    (of_decide_eq_true (by kernel_rfl)) (by unfold Func.isWrapper; first | (rw [if_pos (by decide +kernel)]; kernel_rfl) | (rw [if_neg (by decide +kernel)]; exact ⟨rfl, rfl⟩))
    (fun os started H enc _ F => lifted os started H enc F)

theorem proved : Rows.ReconcileNilUptoSaid :=
  over
end Go.Proofs.Ytdkcicbpcagonab.reconcileNil
