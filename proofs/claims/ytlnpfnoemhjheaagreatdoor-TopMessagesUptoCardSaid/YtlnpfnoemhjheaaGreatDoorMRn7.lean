/- States as messages: what the reference writes. -/
import Derived.Test.YtlnpfnoemhjheaaGreatDoorMRn4
import Derived.Test.YtlnpfnoemhjheaaGreatDoorMRn2
namespace Go.Proofs.YtlnpfnoemhjheaaGreatDoor
open Go Go.AL
set_option linter.unusedSectionVars false
variable [Go.AL.Mode] [Go.AL.LooseM]
set_option linter.unusedSimpArgs false
set_option linter.unusedVariables false
end Go.Proofs.YtlnpfnoemhjheaaGreatDoor
/- States as messages: what the reference reads. -/
namespace Go.Proofs.YtlnpfnoemhjheaaGreatDoor
open Go Go.AL
set_option linter.unusedSectionVars false
variable [Go.AL.Mode] [Go.AL.LooseM]
set_option linter.unusedSimpArgs false
set_option linter.unusedVariables false
end Go.Proofs.YtlnpfnoemhjheaaGreatDoor
