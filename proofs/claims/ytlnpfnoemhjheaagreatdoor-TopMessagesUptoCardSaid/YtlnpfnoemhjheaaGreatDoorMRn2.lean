/- Numbers: what the reference writes and reads. -/
import Derived.Test.YtlnpfnoemhjheaaGreatDoorMRn0
import Derived.Test.YtlnpfnoemhjheaaGreatDoorMAlM
namespace Go.Proofs.YtlnpfnoemhjheaaGreatDoor
open Go Go.AL
set_option linter.unusedSectionVars false
variable [Go.AL.Mode] [Go.AL.LooseM]
set_option linter.unusedSimpArgs false
set_option linter.unusedVariables false
end Go.Proofs.YtlnpfnoemhjheaaGreatDoor
/- Numbers: what the reference reads. -/
namespace Go.Proofs.YtlnpfnoemhjheaaGreatDoor
open Go Go.AL
set_option linter.unusedSectionVars false
variable [Go.AL.Mode] [Go.AL.LooseM]
set_option linter.unusedSimpArgs false
set_option linter.unusedVariables false
end Go.Proofs.YtlnpfnoemhjheaaGreatDoor
