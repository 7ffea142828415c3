/- HoldExpires returns true for every input of bulk at most 1048576, and the input reads as it did. No further condition. -/
import Derived.Test.YthdcajfjglgiiaaAlC
import Derived.Test.YthdcajfjglgiiaaHoldI
import Derived.WalkKit
import Derived.ProofKit
import Derived.OpenShut
import Derived.JoinedCond
namespace Go.Proofs.Ythdcajfjglgiiaa.holdExpires
open Go Go.AL Go.ChangeShapes Go.WideShapes Go.ChangeAt Go.RowKit
instance modeI : Go.AL.Mode := ⟨False⟩
instance looseI : Go.AL.LooseM := ⟨fun h => h⟩
set_option linter.unusedVariables false

theorem own : ownKnob Try.prog.godebug = none := by kernel_rfl

theorem leg : Opens Try.prog 45 lgR (fun _ => True) :=
  Opens.as (Opens.struct Try.underlying45 (by kernel_rfl) (OpensL.cons (Opens.str (by kernel_rfl)) (OpensL.cons (Opens.int (k := .i64) (by kernel_rfl)) (OpensL.cons (Opens.int (k := .i64) (by kernel_rfl)) (OpensL.one (Opens.str (by kernel_rfl))))))) lgR (fun _ => True) (fun p : List UInt8 × Int × Int × List UInt8 => Lg.mk p.1 p.2.1 p.2.2.1 p.2.2.2) (fun _ => rfl) (fun _ _ => trivial)
theorem legs : Opens Try.prog 26 (fun l : List Lg => [.sl 4 (l.map lgR)]) (fun l => ∀ s ∈ l, True) :=
  Opens.slice (q := 45) (sz := 4) (by kernel_rfl) (by kernel_rfl) (by omega) (fun _ => rfl) leg
theorem hd : Opens Try.prog 28 hdR (fun _ => True) :=
  Opens.as (Opens.struct Try.underlying28 (by kernel_rfl) (OpensL.cons (Opens.int (k := .i64) (by kernel_rfl)) (OpensL.cons legs (OpensL.cons (Opens.str (by kernel_rfl)) (OpensL.cons (Opens.int (k := .i64) (by kernel_rfl)) (OpensL.one (Opens.int (k := .i64) (by kernel_rfl)))))))) hdR (fun _ => True) (fun p : Int × List Lg × List UInt8 × Int × Int => Hd.mk p.1 p.2.1 p.2.2.1 p.2.2.2.1 p.2.2.2.2) (fun _ => rfl) (fun _ _ => trivial)
theorem hds : Opens Try.prog 22 (fun l : List Hd => [.sl 5 (l.map hdR)]) (fun l => ∀ s ∈ l, True) :=
  Opens.slice (q := 28) (sz := 5) (by kernel_rfl) (by kernel_rfl) (by omega) (fun _ => rfl) hd
theorem few {l : List Hd} (h : V.bulk (.sl 5 (l.map hdR)) ≤ 1048576) : l.length ≤ 2000000 := by
  have h2 := rowsBulk_len (l.map hdR) (fun r hr => by obtain ⟨n, _, rfl⟩ := List.mem_map.1 hr; simp only [cellsBulk, hdR, V.bulk]; omega)
  simp only [V.bulk, List.length_map] at h h2
  omega
theorem legsLen {x : Hd} {l : List Hd} (hx : x ∈ l) (h : rowsBulk (l.map hdR) ≤ 1048576) : x.legs.length ≤ 2000000 := by
  have h1 := rowsBulk_mem (rows := l.map hdR) (r := hdR x) (List.mem_map.2 ⟨x, hx, rfl⟩)
  have h2 := rowsBulk_len (x.legs.map lgR) (fun r hr => by obtain ⟨n, _, rfl⟩ := List.mem_map.1 hr; simp only [cellsBulk, lgR, V.bulk]; omega)
  simp only [List.length_map] at h2
  simp only [hdR, cellsBulk, V.bulk] at h1
  omega
def en (p : List Hd × Int × Unit) : List V := [.sl 5 (p.1.map hdR), .int .i64 p.2.1]
def wf (p : List Hd × Int × Unit) : Prop := (∀ s ∈ p.1, True) ∧ (IntKind.i64.min ≤ p.2.1 ∧ p.2.1 ≤ IntKind.i64.max) ∧ True
theorem opens : ArgsOpen Try.prog Try.f3.params.toList en wf :=
  ArgsOpen.cons (Opens.argOpen hds (by kernel_rfl)) (ArgsOpen.cons (Opens.argOpen (Opens.int (k := .i64) (by kernel_rfl)) (by kernel_rfl)) ArgsOpen.nil)
theorem called (p : List Hd × Int × Unit) (_ : wf p) (hb : cellsBulk (en p) ≤ 1048576) : CallA Try.prog 3 (en p) [] fun r _ => r = .bool true := by
  simp only [en, cellsBulk, V.bulk] at hb
  refine (law_expires p.1 p.2.1 (few (by simp only [V.bulk]; omega)) (fun x hx => legsLen hx (by omega)) []).mono fun r S h => h.1

set_option maxRecDepth 100000 in
theorem contract (H : Type) (enc : TypeId × Value → H) (W : World) (base : Nat) (args : Array Value) (ds gs : List (DataW H)) (before : List MemPlace)
    (hval : ∀ (j : Nat) t v, Try.f3.params[j]? = some t → args[j]? = some v → Value.okWide Try.prog W .any base t v)
    (hW : DataW.Whole enc Try.prog Try.f3.params.toList Rows.holdExpiresSpec.vars false W args.toList ds gs before) (hk : Rows.uptoSmall H (ds ++ gs) = true) :
    Calls Try.prog 3 args W fun e W' => ∃ v, e = .returned v ∧ Rows.holdExpiresSpec.post enc Try.prog Try.f3 false true false false W args v W' :=
  law_contract (tb := 4) opens called rfl (by kernel_rfl) (by kernel_rfl) (fun H ds h => by
    have h' : ds.length = 2 := h
    match ds, h' with
    | [d1, d2], _ => exact ⟨rfl, rfl, rfl⟩) hval hW hk

set_option maxRecDepth 100000 in
theorem lifted (os : Os) (started : os.Started) (H : Type) (enc : TypeId × Value → H) (F : Stop.Interp) :
    ReturnsInHanded {} Try.checked os 3 .any ((Rows.OpenSpec.upto Rows.holdExpiresSpec).pre6 enc Try.prog Try.f3 Rows.holdExpiresUptoRow.domain false) (((Rows.OpenSpec.upto Rows.holdExpiresSpec).at F).post enc Try.prog Try.f3 false true false false) := by
  refine returnsInHanded_of_cond (C := Try.checked) (s := Rows.OpenSpec.upto Rows.holdExpiresSpec) (k := Rows.uptoSmall) rfl own started (by kernel_rfl) Try.func3
    (OpenSpec.witness (enc := enc) (C := Try.checked) (s := Rows.OpenSpec.upto Rows.holdExpiresSpec) (k := Rows.uptoSmall) rfl false ⟨#[], #[.slice none 0 0, .int .i64 0], []⟩ 8 (by kernel_rfl) (by kernel_rfl) (by kernel_rfl)
      (x := ([.nil, .lit (.int .i64 0)], [], [])) (by kernel_rfl) rfl (by kernel_rfl)) ?_
  intro W base args ds gs before hval hW _ hk _
  exact contract H enc W base args ds gs before hval hW hk

theorem over : Rows.holdExpiresUptoRow.holds Try.pinned (Rows.OpenSpec.upto Rows.holdExpiresSpec) :=
  OpenClaim.holds_of_cond 3 Try.f3 rfl rfl rfl rfl rfl rfl rfl ⟨rfl, rfl, rfl, rfl, rfl⟩ rfl rfl rfl rfl rfl (by kernel_rfl) Try.func3 (by kernel_rfl)
    (of_decide_eq_true (by kernel_rfl)) (by unfold Func.isWrapper; first | (rw [if_pos (by decide +kernel)]; kernel_rfl) | (rw [if_neg (by decide +kernel)]; exact ⟨rfl, rfl⟩))
    (fun os started H enc _ F => lifted os started H enc F)

theorem proved : Rows.HoldExpiresUptoSaid :=
  over
end Go.Proofs.Ythdcajfjglgiiaa.holdExpires
