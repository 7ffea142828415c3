/- Shares: the one that fits; the segment that is operated; the segment that is sold. -/
import Derived.Test.YtiihkfjbllpiaaaGreatDoorWScdC
import Derived.Test.YtiihkfjbllpiaaaGreatDoorWSchF
import Derived.Test.YtiihkfjbllpiaaaGreatDoorWSchQ
namespace Go.Proofs.YtiihkfjbllpiaaaGreatDoor
open Go Go.AL
set_option linter.unusedSectionVars false
variable [Go.AL.Mode] [Go.AL.LooseM]
set_option linter.unusedSimpArgs false
set_option linter.unusedVariables false
end Go.Proofs.YtiihkfjbllpiaaaGreatDoor
/- The segments that are sold on a day. The legs that a segment covers. Lists compared. -/
namespace Go.Proofs.YtiihkfjbllpiaaaGreatDoor
open Go Go.AL
set_option linter.unusedSectionVars false
variable [Go.AL.Mode] [Go.AL.LooseM]
set_option linter.unusedSimpArgs false
set_option linter.unusedVariables false
theorem take_ne {α : Type} {a b : List α} {k : Nat} {x y : α} (hx : a[k]? = some x) (hy : b[k]? = some y) (h : x ≠ y) : a ≠ b:=fun he=>by
  subst he
  rw[hx] at hy
  cases hy
  exact h rfl
theorem take_all {α : Type} {a b : List α} (hl : a.length = b.length) (h : a.take a.length = b.take a.length) : a = b:=by
  rwa [List.take_length,hl,List.take_length] at h
end Go.Proofs.YtiihkfjbllpiaaaGreatDoor
