/- MileageWays returns true for every input of bulk at most 1048576, and the input reads as it did. No further condition. -/
import Derived.Test.YtbbjjnhcbfdhlaaAlC
import Derived.Test.YtbbjjnhcbfdhlaaMil10
import Derived.WalkKit
import Derived.ProofKit
import Derived.OpenShut
import Derived.JoinedCond
namespace Go.Proofs.Ytbbjjnhcbfdhlaa.mileageWays
open Go Go.AL Go.ChangeShapes Go.WideShapes Go.ChangeAt Go.RowKit
set_option linter.unusedVariables false

theorem own : ownKnob Try.prog.godebug = none := by kernel_rfl

theorem shifts : Opens Try.prog 37 (fun l : List (Int × Int) => [shV l]) (fun l => ∀ s ∈ l, True) :=
  Opens.slice (q := 90) (sz := 2) (by kernel_rfl) (by kernel_rfl) (by omega) (fun _ => rfl)
    (Opens.as (Opens.struct Try.underlying90 (by kernel_rfl) (OpensL.cons (Opens.int (k := .i64) (by kernel_rfl)) (OpensL.one (Opens.int (k := .i64) (by kernel_rfl))))) (fun p : Int × Int => [.int .i64 p.1, .int .i64 p.2]) (fun _ => True) (fun p => p) (fun _ => rfl) (fun _ _ => trivial))
theorem apt : Opens Try.prog 41 aptR (fun _ => True) :=
  Opens.as (Opens.struct Try.underlying41 (by kernel_rfl) (OpensL.cons (Opens.str (by kernel_rfl)) (OpensL.cons (Opens.str (by kernel_rfl)) (OpensL.cons (Opens.str (by kernel_rfl))
    (OpensL.one (Opens.struct Try.underlying39 (by kernel_rfl) (OpensL.cons (Opens.int (k := .i64) (by kernel_rfl)) (OpensL.one shifts)))))))) aptR (fun _ => True) (fun p : Txt × Txt × Txt × Int × List (Int × Int) => Apt.mk p.1 p.2.1 p.2.2.1 p.2.2.2.1 p.2.2.2.2) (fun _ => rfl) (fun _ _ => trivial)
theorem dst : Opens Try.prog 43 dstR (fun _ => True) :=
  Opens.as (Opens.struct Try.underlying43 (by kernel_rfl) (OpensL.cons (Opens.str (by kernel_rfl)) (OpensL.cons (Opens.str (by kernel_rfl)) (OpensL.one (Opens.int (k := .i64) (by kernel_rfl)))))) dstR (fun _ => True) (fun p : Txt × Txt × Int => Dst.mk p.1 p.2.1 p.2.2) (fun _ => rfl) (fun _ _ => trivial)
theorem places : Opens Try.prog 30 (fun p : List Apt × List Dst => [aSl p.1, dSl p.2]) (fun _ => True) :=
  Opens.as (Opens.struct Try.underlying30 (by kernel_rfl) (OpensL.cons (Opens.slice (q := 41) (sz := 5) (by kernel_rfl) (by kernel_rfl) (by omega) (fun _ => rfl) apt) (OpensL.one (Opens.slice (q := 43) (sz := 3) (by kernel_rfl) (by kernel_rfl) (by omega) (fun _ => rfl) dst)))) (fun p : List Apt × List Dst => [aSl p.1, dSl p.2]) (fun _ => True) (fun p => p) (fun _ => rfl) (fun _ _ => trivial)
def en (p : (List Apt × List Dst) × List Txt × Int × Unit) : List V := [.agg [aSl p.1.1, dSl p.1.2], sSl p.2.1, .int .i64 p.2.2.1]
def wf (p : (List Apt × List Dst) × List Txt × Int × Unit) : Prop := True ∧ (∀ s ∈ p.2.1, True) ∧ (IntKind.i64.min ≤ p.2.2.1 ∧ p.2.2.1 ≤ IntKind.i64.max) ∧ True
theorem opens : ArgsOpen Try.prog Try.f4.params.toList en wf :=
  ArgsOpen.cons (Opens.argsOpen Try.underlying30 places) (ArgsOpen.cons (Opens.argOpen (Opens.slice (q := 9) (sz := 1) (by kernel_rfl) (by kernel_rfl) (by omega) (fun _ => rfl) (Opens.str (by kernel_rfl))) (by kernel_rfl)) (ArgsOpen.cons (Opens.argOpen (Opens.int (k := .i64) (by kernel_rfl)) (by kernel_rfl)) ArgsOpen.nil))
theorem called (p : (List Apt × List Dst) × List Txt × Int × Unit) (hw : wf p) (hb : cellsBulk (en p) ≤ 1048576) : CallA Try.prog 4 (en p) [] fun r _ => r = .bool true := by
  have h1 := rowsBulk_len (p.1.1.map aptR) (fun r hr => by obtain ⟨n, _, rfl⟩ := List.mem_map.1 hr; simp only [cellsBulk, aptR, V.bulk]; omega)
  have h2 := rowsBulk_len (p.1.2.map dstR) (fun r hr => by obtain ⟨n, _, rfl⟩ := List.mem_map.1 hr; simp only [cellsBulk, dstR, V.bulk]; omega)
  have h3 := rowsBulk_len (p.2.1.map fun s => [V.str s]) (fun r hr => by obtain ⟨n, _, rfl⟩ := List.mem_map.1 hr; simp only [cellsBulk, V.bulk]; omega)
  simp only [List.length_map] at h1 h2 h3
  simp only [en, cellsBulk, V.bulk, aSl, dSl, sSl] at hb
  exact (law_ways p.1 p.2.1 p.2.2.1 [] (by omega) (by omega) (by omega)).mono fun r S h => h.1

theorem contract (H : Type) (enc : TypeId × Value → H) (W : World) (base : Nat) (args : Array Value) (ds gs : List (DataW H)) (before : List MemPlace)
    (hval : ∀ (j : Nat) t v, Try.f4.params[j]? = some t → args[j]? = some v → Value.okWide Try.prog W .any base t v)
    (hW : DataW.Whole enc Try.prog Try.f4.params.toList Rows.mileageWaysSpec.vars false W args.toList ds gs before) (hk : Rows.uptoSmall H (ds ++ gs) = true) :
    Calls Try.prog 4 args W fun e W' => ∃ v, e = .returned v ∧ Rows.mileageWaysSpec.post enc Try.prog Try.f4 false true false false W args v W' :=
  law_contract (tb := 4) opens called rfl (by kernel_rfl) (by kernel_rfl) (fun H ds h => by
    have h' : ds.length = 3 := h
    match ds, h' with
    | [d1, d2, d3], _ => exact ⟨rfl, rfl, rfl⟩) hval hW hk

set_option maxRecDepth 100000 in
theorem lifted (os : Os) (started : os.Started) (H : Type) (enc : TypeId × Value → H) (F : Stop.Interp) :
    ReturnsInHanded {} Try.checked os 4 .any ((Rows.OpenSpec.upto Rows.mileageWaysSpec).pre6 enc Try.prog Try.f4 Rows.mileageWaysUptoRow.domain false) (((Rows.OpenSpec.upto Rows.mileageWaysSpec).at F).post enc Try.prog Try.f4 false true false false) := by
  refine returnsInHanded_of_cond (C := Try.checked) (s := Rows.OpenSpec.upto Rows.mileageWaysSpec) (k := Rows.uptoSmall) rfl own started (by kernel_rfl) Try.func4
    (OpenSpec.witness (enc := enc) (C := Try.checked) (s := Rows.OpenSpec.upto Rows.mileageWaysSpec) (k := Rows.uptoSmall) rfl false ⟨#[], #[.agg #[.slice none 0 0, .slice none 0 0], .slice none 0 0, .int .i64 0], []⟩ 8 (by kernel_rfl) (by kernel_rfl) (by kernel_rfl)
      (x := ([.agg [.nil, .nil], .nil, .lit (.int .i64 0)], [], [])) (by kernel_rfl) rfl (by kernel_rfl)) ?_
  intro W base args ds gs before hval hW _ hk _
  exact contract H enc W base args ds gs before hval hW hk

theorem over : Rows.mileageWaysUptoRow.holds Try.pinned (Rows.OpenSpec.upto Rows.mileageWaysSpec) :=
  OpenClaim.holds_of_cond 4 Try.f4 rfl rfl rfl rfl rfl rfl rfl ⟨rfl, rfl, rfl, rfl, rfl⟩ rfl rfl rfl rfl rfl (by kernel_rfl) Try.func4 (by kernel_rfl)
    (of_decide_eq_true (by kernel_rfl)) (by unfold Func.isWrapper; first | (rw [if_pos (by decide +kernel)]; kernel_rfl) | (rw [if_neg (by decide +kernel)]; exact ⟨rfl, rfl⟩))
    (fun os started H enc _ F => lifted os started H enc F)

theorem proved : Rows.MileageWaysUptoSaid :=
  over
end Go.Proofs.Ytbbjjnhcbfdhlaa.mileageWays
