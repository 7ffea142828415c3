/- BidRises returns true for every input of bulk at most 1048576, and the input reads as it did. No further condition. -/
import Derived.Test.YtoidchljifelgaaAlC
import Derived.Test.YtoidchljifelgaaBid19
import Derived.WalkKit
import Derived.ProofKit
import Derived.OpenShut
import Derived.JoinedCond
namespace Go.Proofs.Ytoidchljifelgaa.bidRises
open Go Go.AL Go.ChangeShapes Go.WideShapes Go.ChangeAt Go.RowKit
set_option linter.unusedVariables false

theorem own : ownKnob Try.prog.godebug = none := by kernel_rfl

def wfd (d : Int × Int) : Prop := (IntKind.i64.min ≤ d.1 ∧ d.1 ≤ IntKind.i64.max) ∧ (IntKind.i64.min ≤ d.2 ∧ d.2 ≤ IntKind.i64.max)
theorem one : Opens Try.prog 40 dem wfd :=
  Opens.struct Try.underlying40 (by kernel_rfl) (OpensL.cons (Opens.int (k := .i64) (by kernel_rfl)) (OpensL.one (Opens.int (k := .i64) (by kernel_rfl))))
theorem dems : Opens Try.prog 22 (fun l : List (Int × Int) => [demSl l]) (fun l => ∀ d ∈ l, wfd d) :=
  Opens.slice (q := 40) (sz := 2) (by kernel_rfl) (by kernel_rfl) (by omega) (fun _ => rfl) one
theorem small {l : List (Int × Int)} (h : (demSl l).bulk ≤ 1048576) : l.length ≤ 1048576 := by
  have h2 := rowsBulk_len (l.map dem) (fun r hr => by obtain ⟨n, _, rfl⟩ := List.mem_map.1 hr; simp [cellsBulk, dem, V.bulk])
  simp only [demSl, V.bulk, List.length_map] at h h2
  omega
def en (p : List (Int × Int) × (Int × Int) × Int × Unit) : List V := [demSl p.1, .agg (dem p.2.1), .int .i64 p.2.2.1]
def wf (p : List (Int × Int) × (Int × Int) × Int × Unit) : Prop := (∀ d ∈ p.1, wfd d) ∧ wfd p.2.1 ∧ (IntKind.i64.min ≤ p.2.2.1 ∧ p.2.2.1 ≤ IntKind.i64.max) ∧ True
theorem opens : ArgsOpen Try.prog Try.f6.params.toList en wf :=
  ArgsOpen.cons (Opens.argOpen dems (by kernel_rfl)) (ArgsOpen.cons (Opens.argsOpen Try.underlying40 one) (ArgsOpen.cons (Opens.argOpen (Opens.int (k := .i64) (by kernel_rfl)) (by kernel_rfl)) ArgsOpen.nil))
theorem called (p : List (Int × Int) × (Int × Int) × Int × Unit) (hw : wf p) (hb : cellsBulk (en p) ≤ 1048576) : CallA Try.prog 6 (en p) [] fun r _ => r = .bool true := by
  have h1 := cellsBulk_mem (vs := en p) (v := demSl p.1) (by simp [en])
  exact (rises_A p.1 p.2.1 p.2.2.1 [] (small (by omega))).mono fun r S h => h.1

theorem contract (H : Type) (enc : TypeId × Value → H) (W : World) (base : Nat) (args : Array Value) (ds gs : List (DataW H)) (before : List MemPlace)
    (hval : ∀ (j : Nat) t v, Try.f6.params[j]? = some t → args[j]? = some v → Value.okWide Try.prog W .any base t v)
    (hW : DataW.Whole enc Try.prog Try.f6.params.toList Rows.bidRisesSpec.vars false W args.toList ds gs before) (hk : Rows.uptoSmall H (ds ++ gs) = true) :
    Calls Try.prog 6 args W fun e W' => ∃ v, e = .returned v ∧ Rows.bidRisesSpec.post enc Try.prog Try.f6 false true false false W args v W' :=
  law_contract (tb := 4) opens called rfl (by kernel_rfl) (by kernel_rfl) (fun H ds h => by
    have h' : ds.length = 3 := h
    match ds, h' with
    | [d1, d2, d3], _ => exact ⟨rfl, rfl, rfl⟩) hval hW hk

set_option maxRecDepth 100000 in
theorem lifted (os : Os) (started : os.Started) (H : Type) (enc : TypeId × Value → H) (F : Stop.Interp) :
    ReturnsInHanded {} Try.checked os 6 .any ((Rows.OpenSpec.upto Rows.bidRisesSpec).pre6 enc Try.prog Try.f6 Rows.bidRisesUptoRow.domain false) (((Rows.OpenSpec.upto Rows.bidRisesSpec).at F).post enc Try.prog Try.f6 false true false false) := by
  refine returnsInHanded_of_cond (C := Try.checked) (s := Rows.OpenSpec.upto Rows.bidRisesSpec) (k := Rows.uptoSmall) rfl own started (by kernel_rfl) Try.func6
    (OpenSpec.witness (enc := enc) (C := Try.checked) (s := Rows.OpenSpec.upto Rows.bidRisesSpec) (k := Rows.uptoSmall) rfl false ⟨#[], #[.slice none 0 0, .agg #[.int .i64 0, .int .i64 0], .int .i64 0], []⟩ 8 (by kernel_rfl) (by kernel_rfl) (by kernel_rfl)
      (x := ([.nil, .agg [.lit (.int .i64 0), .lit (.int .i64 0)], .lit (.int .i64 0)], [], [])) (by kernel_rfl) rfl (by kernel_rfl)) ?_
  intro W base args ds gs before hval hW _ hk _
  exact contract H enc W base args ds gs before hval hW hk

theorem over : Rows.bidRisesUptoRow.holds Try.pinned (Rows.OpenSpec.upto Rows.bidRisesSpec) :=
  OpenClaim.holds_of_cond 6 Try.f6 rfl rfl rfl rfl rfl rfl rfl ⟨rfl, rfl, rfl, rfl, rfl⟩ rfl rfl rfl rfl rfl (by kernel_rfl) Try.func6 (by kernel_rfl)
    (of_decide_eq_true (by kernel_rfl)) (by unfold Func.isWrapper; first | (rw [if_pos (by decide +kernel)]; kernel_rfl) | (rw [if_neg (by decide +kernel)]; exact ⟨rfl, rfl⟩))
    (fun os started H enc _ F => lifted os started H enc F)

theorem proved : Rows.BidRisesUptoSaid :=
  over
end Go.Proofs.Ytoidchljifelgaa.bidRises
