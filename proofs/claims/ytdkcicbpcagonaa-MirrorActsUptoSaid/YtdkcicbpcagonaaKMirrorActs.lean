/- MirrorActs returns true for every input of bulk at most 1048576, and the input reads as it did. No further condition. -/
import Derived.Test.YtdkcicbpcagonaaAlC
import Derived.Test.YtdkcicbpcagonaaMir20
import Derived.WalkKit
import Derived.ProofKit
import Derived.OpenShut
import Derived.JoinedCond
namespace Go.Proofs.Ytdkcicbpcagonaa.mirrorActs
open Go Go.AL Go.ChangeShapes Go.WideShapes Go.ChangeAt Go.RowKit
set_option linter.unusedVariables false

theorem own : ownKnob Try.prog.godebug = none := by kernel_rfl

def wfS (x : St) : Prop := (IntKind.i64.min ≤ x.t ∧ x.t ≤ IntKind.i64.max) ∧ (IntKind.i64.min ≤ x.c ∧ x.c ≤ IntKind.i64.max) ∧ (IntKind.i64.min ≤ x.v ∧ x.v ≤ IntKind.i64.max) ∧ (IntKind.i64.min ≤ x.s ∧ x.s ≤ IntKind.i64.max)
theorem one : Opens Try.prog 29 stR wfS :=
  Opens.as (Opens.struct Try.underlying29 (by kernel_rfl) (OpensL.cons (Opens.int (k := .i64) (by kernel_rfl)) (OpensL.cons (Opens.int (k := .i64) (by kernel_rfl)) (OpensL.cons (Opens.int (k := .i64) (by kernel_rfl)) (OpensL.one (Opens.int (k := .i64) (by kernel_rfl))))))) stR wfS (fun p : Int × Int × Int × Int => St.mk p.1 p.2.1 p.2.2.1 p.2.2.2) (fun _ => rfl) (fun _ h => h)
def wfA (a : Act) : Prop := (IntKind.u8.min ≤ a.k ∧ a.k ≤ IntKind.u8.max) ∧ wfS a.x ∧ (IntKind.i64.min ≤ a.n ∧ a.n ≤ IntKind.i64.max)
theorem two : Opens Try.prog 34 actR wfA :=
  Opens.as (Opens.struct Try.underlying34 (by kernel_rfl) (OpensL.cons (Opens.int (k := .u8) (by kernel_rfl)) (OpensL.cons one (OpensL.one (Opens.int (k := .i64) (by kernel_rfl)))))) actR wfA (fun p : Int × St × Int => Act.mk p.1 p.2.1 p.2.2) (fun _ => rfl) (fun _ h => h)
theorem acts : Opens Try.prog 22 (fun l : List Act => [actSl l]) (fun l => ∀ a ∈ l, wfA a) :=
  Opens.slice (q := 34) (sz := 6) (by kernel_rfl) (by kernel_rfl) (by omega) (fun _ => rfl) two
theorem small {l : List Act} (h : (actSl l).bulk ≤ 1048576) : l.length ≤ 1048576 := by
  have h2 := rowsBulk_len (l.map actR) (fun r hr => by obtain ⟨n, _, rfl⟩ := List.mem_map.1 hr; simp [cellsBulk, actR, V.bulk])
  simp only [actSl, V.bulk, List.length_map] at h h2
  omega
theorem vs {l : List Act} (h : ∀ a ∈ l, wfA a) : ∀ a ∈ l, i64r a.x.v := fun a ha => (h a ha).2.1.2.2.1
def en (p : List Act × Int × Unit) : List V := [actSl p.1, .int .i64 p.2.1]
def wf (p : List Act × Int × Unit) : Prop := (∀ a ∈ p.1, wfA a) ∧ (IntKind.i64.min ≤ p.2.1 ∧ p.2.1 ≤ IntKind.i64.max) ∧ True
theorem opens : ArgsOpen Try.prog Try.f3.params.toList en wf :=
  ArgsOpen.cons (Opens.argOpen acts (by kernel_rfl)) (ArgsOpen.cons (Opens.argOpen (Opens.int (k := .i64) (by kernel_rfl)) (by kernel_rfl)) ArgsOpen.nil)
theorem called (p : List Act × Int × Unit) (hw : wf p) (hb : cellsBulk (en p) ≤ 1048576) : CallA Try.prog 3 (en p) [] fun r _ => r = .bool true := by
  have h1 := cellsBulk_mem (vs := en p) (v := actSl p.1) (by simp [en])
  exact (law_acts p.1 p.2.1 [] (Nat.le_trans (small (l := p.1) (by omega)) (by omega)) (vs hw.1)).mono fun r S h => h.1

set_option maxRecDepth 100000 in
theorem contract (H : Type) (enc : TypeId × Value → H) (W : World) (base : Nat) (args : Array Value) (ds gs : List (DataW H)) (before : List MemPlace)
    (hval : ∀ (j : Nat) t v, Try.f3.params[j]? = some t → args[j]? = some v → Value.okWide Try.prog W .any base t v)
    (hW : DataW.Whole enc Try.prog Try.f3.params.toList Rows.mirrorActsSpec.vars false W args.toList ds gs before) (hk : Rows.uptoSmall H (ds ++ gs) = true) :
    Calls Try.prog 3 args W fun e W' => ∃ v, e = .returned v ∧ Rows.mirrorActsSpec.post enc Try.prog Try.f3 false true false false W args v W' :=
  law_contract (tb := 4) opens called rfl (by kernel_rfl) (by kernel_rfl) (fun H ds h => by
    have h' : ds.length = 2 := h
    match ds, h' with
    | [d1, d2], _ => exact ⟨rfl, rfl, rfl⟩) hval hW hk

set_option maxRecDepth 100000 in
theorem lifted (os : Os) (started : os.Started) (H : Type) (enc : TypeId × Value → H) (F : Stop.Interp) :
    ReturnsInHanded {} Try.checked os 3 .any ((Rows.OpenSpec.upto Rows.mirrorActsSpec).pre6 enc Try.prog Try.f3 Rows.mirrorActsUptoRow.domain false) (((Rows.OpenSpec.upto Rows.mirrorActsSpec).at F).post enc Try.prog Try.f3 false true false false) := by
  refine returnsInHanded_of_cond (C := Try.checked) (s := Rows.OpenSpec.upto Rows.mirrorActsSpec) (k := Rows.uptoSmall) rfl own started (by kernel_rfl) Try.func3
    (OpenSpec.witness (enc := enc) (C := Try.checked) (s := Rows.OpenSpec.upto Rows.mirrorActsSpec) (k := Rows.uptoSmall) rfl false ⟨#[], #[.slice none 0 0, .int .i64 0], []⟩ 8 (by kernel_rfl) (by kernel_rfl) (by kernel_rfl)
      (x := ([.nil, .lit (.int .i64 0)], [], [])) (by kernel_rfl) rfl (by kernel_rfl)) ?_
  intro W base args ds gs before hval hW _ hk _
  exact contract H enc W base args ds gs before hval hW hk

theorem over : Rows.mirrorActsUptoRow.holds Try.pinned (Rows.OpenSpec.upto Rows.mirrorActsSpec) :=
  OpenClaim.holds_of_cond 3 Try.f3 rfl rfl rfl rfl rfl rfl rfl ⟨rfl, rfl, rfl, rfl, rfl⟩ rfl rfl rfl rfl rfl (by kernel_rfl) Try.func3 (by kernel_rfl)
    (of_decide_eq_true (by kernel_rfl)) (by unfold Func.isWrapper; first | (rw [if_pos (by decide +kernel)]; kernel_rfl) | (rw [if_neg (by decide +kernel)]; exact ⟨rfl, rfl⟩))
    (fun os started H enc _ F => lifted os started H enc F)

theorem proved : Rows.MirrorActsUptoSaid :=
  over
end Go.Proofs.Ytdkcicbpcagonaa.mirrorActs
