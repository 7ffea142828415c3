/- BidSeats returns true for every input of bulk at most 1048576, and the input reads as it did. No further condition. -/
import Derived.Test.YtoidchljifelgaaAlC
import Derived.Test.YtoidchljifelgaaBid16
import Derived.WalkKit
import Derived.ProofKit
import Derived.OpenShut
import Derived.JoinedCond
namespace Go.Proofs.Ytoidchljifelgaa.bidSeats
open Go Go.AL Go.ChangeShapes Go.WideShapes Go.ChangeAt Go.RowKit
set_option linter.unusedVariables false

theorem own : ownKnob Try.prog.godebug = none := by kernel_rfl

def en (p : (List (List Int) × List Int) × Int × Int × Unit) : List V := [.agg [cSl p.1.1, iSl p.1.2], .int .i64 p.2.1, .int .i64 p.2.2.1]
def wf (p : (List (List Int) × List Int) × Int × Int × Unit) : Prop := ((∀ l ∈ p.1.1, ∀ a ∈ l, IntKind.i64.min ≤ a ∧ a ≤ IntKind.i64.max) ∧ (∀ a ∈ p.1.2, IntKind.i64.min ≤ a ∧ a ≤ IntKind.i64.max)) ∧ (IntKind.i64.min ≤ p.2.1 ∧ p.2.1 ≤ IntKind.i64.max) ∧ (IntKind.i64.min ≤ p.2.2.1 ∧ p.2.2.1 ≤ IntKind.i64.max) ∧ True
theorem ints : Opens Try.prog 24 (fun l : List Int => [.sl 1 (l.map fun n => [.int .i64 n])]) (fun l => ∀ a ∈ l, IntKind.i64.min ≤ a ∧ a ≤ IntKind.i64.max) :=
  Opens.slice (q := 3) (sz := 1) (by kernel_rfl) (by kernel_rfl) (by omega) (fun _ => rfl) (Opens.int (k := .i64) (by kernel_rfl))
theorem case : Opens Try.prog 35 (fun p : List (List Int) × List Int => [cSl p.1, iSl p.2]) (fun p => (∀ l ∈ p.1, ∀ a ∈ l, IntKind.i64.min ≤ a ∧ a ≤ IntKind.i64.max) ∧ (∀ a ∈ p.2, IntKind.i64.min ≤ a ∧ a ≤ IntKind.i64.max)) :=
  Opens.struct Try.underlying35 (by kernel_rfl) (OpensL.cons (Opens.slice (q := 24) (sz := 1) (by kernel_rfl) (by kernel_rfl) (by omega) (fun _ => rfl) ints) (OpensL.one ints))
theorem opens : ArgsOpen Try.prog Try.f5.params.toList en wf :=
  ArgsOpen.cons (Opens.argsOpen Try.underlying35 case) (ArgsOpen.cons (Opens.argOpen (Opens.int (k := .i64) (by kernel_rfl)) (by kernel_rfl)) (ArgsOpen.cons (Opens.argOpen (Opens.int (k := .i64) (by kernel_rfl)) (by kernel_rfl)) ArgsOpen.nil))
theorem small (p : (List (List Int) × List Int) × Int × Int × Unit) (hb : cellsBulk (en p) ≤ 1048576) : p.1.1.length ≤ 1048576 ∧ (∀ l ∈ p.1.1, l.length ≤ 1048576) ∧ p.1.2.length ≤ 1048576 := by
  have h0 : ∀ l : List Int, l.length + 1 ≤ (iSl l).bulk := fun l => by
    have h2 := rowsBulk_len (l.map fun n => [V.int .i64 n]) (fun r hr => by obtain ⟨n, _, rfl⟩ := List.mem_map.1 hr; exact Nat.le_refl _)
    simp only [iSl, V.bulk, List.length_map] at h2 ⊢
    omega
  simp only [en, cellsBulk, V.bulk, cSl] at hb
  have h1 := h0 p.1.2
  have h2 := rowsBulk_len (p.1.1.map fun l => [iSl l]) (fun r hr => by obtain ⟨n, _, rfl⟩ := List.mem_map.1 hr; simp only [cellsBulk, iSl, V.bulk]; omega)
  refine ⟨by simp only [List.length_map] at h2; omega, fun l hl => ?_, by omega⟩
  have h3 := rowsBulk_mem (rows := p.1.1.map fun l => [iSl l]) (r := [iSl l]) (List.mem_map_of_mem hl)
  have h4 := h0 l
  simp only [cellsBulk] at h3
  omega
theorem i64 {n : Int} (h : IntKind.i64.min ≤ n ∧ n ≤ IntKind.i64.max) : -9223372036854775808 ≤ n ∧ n ≤ 9223372036854775807 := h
theorem called (p : (List (List Int) × List Int) × Int × Int × Unit) (hw : wf p) (hb : cellsBulk (en p) ≤ 1048576) : CallA Try.prog 5 (en p) [] fun r _ => r = .bool true := by
  obtain ⟨h1, h2, h3⟩ := small p hb
  exact (bidseats_A p.1.1 p.1.2 p.2.1 p.2.2.1 [] h1 h2 h3 fun x hx => (i64 (hw.1.2 x hx)).2).mono fun r S h => h.1

theorem contract (H : Type) (enc : TypeId × Value → H) (W : World) (base : Nat) (args : Array Value) (ds gs : List (DataW H)) (before : List MemPlace)
    (hval : ∀ (j : Nat) t v, Try.f5.params[j]? = some t → args[j]? = some v → Value.okWide Try.prog W .any base t v)
    (hW : DataW.Whole enc Try.prog Try.f5.params.toList Rows.bidSeatsSpec.vars false W args.toList ds gs before) (hk : Rows.uptoSmall H (ds ++ gs) = true) :
    Calls Try.prog 5 args W fun e W' => ∃ v, e = .returned v ∧ Rows.bidSeatsSpec.post enc Try.prog Try.f5 false true false false W args v W' :=
  law_contract (tb := 4) opens called rfl (by kernel_rfl) (by kernel_rfl) (fun H ds h => by
    have h' : ds.length = 3 := h
    match ds, h' with
    | [d1, d2, d3], _ => exact ⟨rfl, rfl, rfl⟩) hval hW hk

set_option maxRecDepth 100000 in
theorem lifted (os : Os) (started : os.Started) (H : Type) (enc : TypeId × Value → H) (F : Stop.Interp) :
    ReturnsInHanded {} Try.checked os 5 .any ((Rows.OpenSpec.upto Rows.bidSeatsSpec).pre6 enc Try.prog Try.f5 Rows.bidSeatsUptoRow.domain false) (((Rows.OpenSpec.upto Rows.bidSeatsSpec).at F).post enc Try.prog Try.f5 false true false false) := by
  refine returnsInHanded_of_cond (C := Try.checked) (s := Rows.OpenSpec.upto Rows.bidSeatsSpec) (k := Rows.uptoSmall) rfl own started (by kernel_rfl) Try.func5
    (OpenSpec.witness (enc := enc) (C := Try.checked) (s := Rows.OpenSpec.upto Rows.bidSeatsSpec) (k := Rows.uptoSmall) rfl false ⟨#[], #[.agg #[.slice none 0 0, .slice none 0 0], .int .i64 0, .int .i64 0], []⟩ 8 (by kernel_rfl) (by kernel_rfl) (by kernel_rfl)
      (x := ([.agg [.nil, .nil], .lit (.int .i64 0), .lit (.int .i64 0)], [], [])) (by kernel_rfl) rfl (by kernel_rfl)) ?_
  intro W base args ds gs before hval hW _ hk _
  exact contract H enc W base args ds gs before hval hW hk

theorem over : Rows.bidSeatsUptoRow.holds Try.pinned (Rows.OpenSpec.upto Rows.bidSeatsSpec) :=
  OpenClaim.holds_of_cond 5 Try.f5 rfl rfl rfl rfl rfl rfl rfl ⟨rfl, rfl, rfl, rfl, rfl⟩ rfl rfl rfl rfl rfl (by kernel_rfl) Try.func5 (by kernel_rfl)
    (of_decide_eq_true (by kernel_rfl)) (by unfold Func.isWrapper; first | (rw [if_pos (by decide +kernel)]; kernel_rfl) | (rw [if_neg (by decide +kernel)]; exact ⟨rfl, rfl⟩))
    (fun os started H enc _ F => lifted os started H enc F)

theorem proved : Rows.BidSeatsUptoSaid :=
  over
end Go.Proofs.Ytoidchljifelgaa.bidSeats
