/- Places, cities, what is too big: taken over from component's texts by takecmp.py. -/
import Derived.Test.YtkdbghhdklfoiaaDoorSFc1
namespace Go.Proofs.YtkdbghhdklfoiaaDoor.Cm
open Go Go.AL
set_option linter.unusedSectionVars false
variable [Go.AL.Mode] [Go.AL.LooseM]
set_option linter.unusedSimpArgs false
set_option linter.unusedVariables false
namespace Ml
end Ml
structure Tar where
  fares : List Fr
  rules : List Rul
  routs : List Rou
theorem mx (n : Nat) (h : n ≤ maxLen) : n ≤ 9223372036854775807 := by unfold maxLen at h; omega
theorem tx_imm (l : List Txt) : ∀ r ∈ l.map txR, r.length = 1 ∧ V.allImm r = true := fun r hr => by
  obtain ⟨x, _, rfl⟩ := List.mem_map.1 hr
  exact ⟨rfl, rfl⟩
def WOk (l : List Wnt) : Prop := ∀ w ∈ l, (0 ≤ w.s.dep ∧ w.s.dep < 52596000) ∧ 0 ≤ w.s.arr ∧ w.s.arr < 52596000
structure Sml (p : Pls) (t : Tar) (l : List Wnt) : Prop where
  apts : p.1.length ≤ 20
  dsts : p.2.length ≤ 40
  fares : t.fares.length ≤ 40
  rules : t.rules.length ≤ 10
  routs : t.routs.length ≤ 10
  segs : l.length ≤ 8
  w : WOk l
def r0 : Rul := ⟨1, .mk 1 [] 0 0 ⟨0, 0, 0⟩ [], [], 0, 0, 0, 0, []⟩
end Go.Proofs.YtkdbghhdklfoiaaDoor.Cm
