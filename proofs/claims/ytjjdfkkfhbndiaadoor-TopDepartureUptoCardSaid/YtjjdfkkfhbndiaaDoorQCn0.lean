/- Component: neat stores, object by object. -/
import Derived.Test.YtjjdfkkfhbndiaaDoorQAlM
namespace Go.Proofs.YtjjdfkkfhbndiaaDoor
open Go Go.AL
set_option linter.unusedSectionVars false
variable [Go.AL.Mode] [Go.AL.LooseM]
set_option linter.unusedSimpArgs false
set_option linter.unusedVariables false
def objN (n : Nat) (o : AL.Obj) : Prop := match o.st with
  | none => True
  | some (.arr e sz rows) => ∀ r ∈ rows, r.length = sz ∧ V.allUnder n r = true
  | some (.mp m) => (∀ p ∈ m.rows, p.1.under n = true ∧ p.2.under n = true ∧ isKV m.kd p.1 = true) ∧ ∀ of p, m.x = .iter of (some p) → p.1.under n = true ∧ p.2.under n = true
theorem neat_iff {S : Store} : Neat S ↔ ∀ o ∈ S, objN S.length o := by
  constructor
  · intro h o ho
    obtain ⟨id, hid⟩ := List.getElem?_of_mem ho
    obtain ⟨ver, st⟩ := o
    cases st with
    | none => trivial
    | some ct =>
      cases ct with
      | arr e sz rows => exact h.1 id ver e sz rows hid
      | mp m => exact h.2 id ver m hid
  · intro h
    refine ⟨fun id ver e sz rows hid => ?_, fun id ver m hid => ?_⟩
    · exact h _ (List.mem_of_getElem? hid)
    · exact h _ (List.mem_of_getElem? hid)
theorem objN.self {S S1 : Store} {o : AL.Obj} (h : objN S1.length o) : objF S S1 o o.st := by
  obtain ⟨ver, st⟩ := o
  cases st with
  | none => trivial
  | some ct =>
    cases ct with
    | arr e sz rows => exact ⟨rows, rfl, .under h⟩
    | mp m =>
      refine ⟨m, rfl, .same fun of p hp => .inl (h.2 of p hp), rfl, rfl, fun p hp => (h.1 p hp).2.2, fun i p1 p h1 h2 => ?_⟩
      rw [h1] at h2
      cases h2
      obtain ⟨k1, k2, _⟩ := h.1 p1 (List.mem_of_getElem? h1)
      exact ⟨.same (.inl k1), .same (.inl k2)⟩
end Go.Proofs.YtjjdfkkfhbndiaaDoor
