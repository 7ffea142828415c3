/- States as messages: the law. -/
import Derived.Test.YtlnpfnoemhjheaaGreatDoorMRn7
import Derived.Test.YtlnpfnoemhjheaaGreatDoorMRec6
namespace Go.Proofs.YtlnpfnoemhjheaaGreatDoor
open Go Go.AL
set_option linter.unusedSectionVars false
variable [Go.AL.Mode] [Go.AL.LooseM]
set_option linter.unusedSimpArgs false
set_option linter.unusedVariables false
theorem decF_back (l : List St) (hx : ∀ x ∈ l, okX x) (hl : l.length ≤ 60) (hr : Ed.rightL (l.map lnOf) = true) : decF (Ed.outL (l.map lnOf)) = (l, 0) := by
  have h1 := Ed.outL_len (l.map lnOf)
  have h2 := szL_of l hx
  unfold decF
  rw [Ed.back_one hr (by omega)]
  simp only [ne_eq, not_true_eq_false, if_false, allF_of l hx]
end Go.Proofs.YtlnpfnoemhjheaaGreatDoor
