/- HoldPlays returns true for every input of bulk at most 1048576, and the input reads as it did. No further condition. -/
import Derived.Test.YthdcajfjglgiiaaAlC
import Derived.Test.YthdcajfjglgiiaaHoldD
import Derived.WalkKit
import Derived.ProofKit
import Derived.OpenShut
import Derived.JoinedCond
namespace Go.Proofs.Ythdcajfjglgiiaa.holdPlays
open Go Go.AL Go.ChangeShapes Go.WideShapes Go.ChangeAt Go.RowKit
instance modeI : Go.AL.Mode := ⟨False⟩
instance looseI : Go.AL.LooseM := ⟨fun h => h⟩
set_option linter.unusedVariables false

theorem own : ownKnob Try.prog.godebug = none := by kernel_rfl

theorem leg : Opens Try.prog 45 lgR (fun _ => True) :=
  Opens.as (Opens.struct Try.underlying45 (by kernel_rfl) (OpensL.cons (Opens.str (by kernel_rfl)) (OpensL.cons (Opens.int (k := .i64) (by kernel_rfl)) (OpensL.cons (Opens.int (k := .i64) (by kernel_rfl)) (OpensL.one (Opens.str (by kernel_rfl))))))) lgR (fun _ => True) (fun p : List UInt8 × Int × Int × List UInt8 => Lg.mk p.1 p.2.1 p.2.2.1 p.2.2.2) (fun _ => rfl) (fun _ _ => trivial)
theorem legs : Opens Try.prog 26 (fun l : List Lg => [.sl 4 (l.map lgR)]) (fun l => ∀ s ∈ l, True) :=
  Opens.slice (q := 45) (sz := 4) (by kernel_rfl) (by kernel_rfl) (by omega) (fun _ => rfl) leg
theorem hd : Opens Try.prog 28 hdR (fun _ => True) :=
  Opens.as (Opens.struct Try.underlying28 (by kernel_rfl) (OpensL.cons (Opens.int (k := .i64) (by kernel_rfl)) (OpensL.cons legs (OpensL.cons (Opens.str (by kernel_rfl)) (OpensL.cons (Opens.int (k := .i64) (by kernel_rfl)) (OpensL.one (Opens.int (k := .i64) (by kernel_rfl)))))))) hdR (fun _ => True) (fun p : Int × List Lg × List UInt8 × Int × Int => Hd.mk p.1 p.2.1 p.2.2.1 p.2.2.2.1 p.2.2.2.2) (fun _ => rfl) (fun _ _ => trivial)
theorem hds : Opens Try.prog 22 (fun l : List Hd => [.sl 5 (l.map hdR)]) (fun l => ∀ s ∈ l, True) :=
  Opens.slice (q := 28) (sz := 5) (by kernel_rfl) (by kernel_rfl) (by omega) (fun _ => rfl) hd
theorem few {l : List Hd} (h : V.bulk (.sl 5 (l.map hdR)) ≤ 1048576) : l.length ≤ 2000000 := by
  have h2 := rowsBulk_len (l.map hdR) (fun r hr => by obtain ⟨n, _, rfl⟩ := List.mem_map.1 hr; simp only [cellsBulk, hdR, V.bulk]; omega)
  simp only [V.bulk, List.length_map] at h h2
  omega
theorem act : Opens Try.prog 52 acR (fun _ => True) :=
  Opens.as (Opens.struct Try.underlying52 (by kernel_rfl) (OpensL.cons (Opens.int (k := .i64) (by kernel_rfl)) (OpensL.cons (Opens.int (k := .i64) (by kernel_rfl)) (OpensL.one hd)))) acR (fun _ => True) (fun p : Int × Int × Hd => Ac.mk p.1 p.2.1 p.2.2) (fun _ => rfl) (fun _ _ => trivial)
theorem acts : Opens Try.prog 47 (fun l : List Ac => [.sl 7 (l.map acR)]) (fun l => ∀ s ∈ l, True) :=
  Opens.slice (q := 52) (sz := 7) (by kernel_rfl) (by kernel_rfl) (by omega) (fun _ => rfl) act
def en (p : List Ac × Unit) : List V := [.sl 7 (p.1.map acR)]
def wf (p : List Ac × Unit) : Prop := (∀ s ∈ p.1, True) ∧ True
theorem opens : ArgsOpen Try.prog Try.f5.params.toList en wf :=
  ArgsOpen.cons (Opens.argOpen acts (by kernel_rfl)) ArgsOpen.nil
theorem called (p : List Ac × Unit) (_ : wf p) (hb : cellsBulk (en p) ≤ 1048576) : CallA Try.prog 5 (en p) [] fun r _ => r = .bool true := by
  have h2 := rowsBulk_len (p.1.map acR) (fun r hr => by obtain ⟨n, _, rfl⟩ := List.mem_map.1 hr; simp only [cellsBulk, acR, V.bulk]; omega)
  simp only [List.length_map] at h2
  simp only [en, cellsBulk, V.bulk] at hb
  exact (law_plays p.1 (by omega) []).mono fun r S h => h.1

set_option maxRecDepth 100000 in
theorem contract (H : Type) (enc : TypeId × Value → H) (W : World) (base : Nat) (args : Array Value) (ds gs : List (DataW H)) (before : List MemPlace)
    (hval : ∀ (j : Nat) t v, Try.f5.params[j]? = some t → args[j]? = some v → Value.okWide Try.prog W .any base t v)
    (hW : DataW.Whole enc Try.prog Try.f5.params.toList Rows.holdPlaysSpec.vars false W args.toList ds gs before) (hk : Rows.uptoSmall H (ds ++ gs) = true) :
    Calls Try.prog 5 args W fun e W' => ∃ v, e = .returned v ∧ Rows.holdPlaysSpec.post enc Try.prog Try.f5 false true false false W args v W' :=
  law_contract (tb := 4) opens called rfl (by kernel_rfl) (by kernel_rfl) (fun H ds h => by
    have h' : ds.length = 1 := h
    match ds, h' with
    | [d1], _ => exact ⟨rfl, rfl, rfl⟩) hval hW hk

set_option maxRecDepth 100000 in
theorem lifted (os : Os) (started : os.Started) (H : Type) (enc : TypeId × Value → H) (F : Stop.Interp) :
    ReturnsInHanded {} Try.checked os 5 .any ((Rows.OpenSpec.upto Rows.holdPlaysSpec).pre6 enc Try.prog Try.f5 Rows.holdPlaysUptoRow.domain false) (((Rows.OpenSpec.upto Rows.holdPlaysSpec).at F).post enc Try.prog Try.f5 false true false false) := by
  refine returnsInHanded_of_cond (C := Try.checked) (s := Rows.OpenSpec.upto Rows.holdPlaysSpec) (k := Rows.uptoSmall) rfl own started (by kernel_rfl) Try.func5
    (OpenSpec.witness (enc := enc) (C := Try.checked) (s := Rows.OpenSpec.upto Rows.holdPlaysSpec) (k := Rows.uptoSmall) rfl false ⟨#[], #[.slice none 0 0], []⟩ 8 (by kernel_rfl) (by kernel_rfl) (by kernel_rfl)
      (x := ([.nil], [], [])) (by kernel_rfl) rfl (by kernel_rfl)) ?_
  intro W base args ds gs before hval hW _ hk _
  exact contract H enc W base args ds gs before hval hW hk

theorem over : Rows.holdPlaysUptoRow.holds Try.pinned (Rows.OpenSpec.upto Rows.holdPlaysSpec) :=
  OpenClaim.holds_of_cond 5 Try.f5 rfl rfl rfl rfl rfl rfl rfl ⟨rfl, rfl, rfl, rfl, rfl⟩ rfl rfl rfl rfl rfl (by kernel_rfl) Try.func5 (by kernel_rfl)
    (of_decide_eq_true (by kernel_rfl)) (by unfold Func.isWrapper; first | (rw [if_pos (by decide +kernel)]; kernel_rfl) | (rw [if_neg (by decide +kernel)]; exact ⟨rfl, rfl⟩))
    (fun os started H enc _ F => lifted os started H enc F)

theorem proved : Rows.HoldPlaysUptoSaid :=
  over
end Go.Proofs.Ythdcajfjglgiiaa.holdPlays
