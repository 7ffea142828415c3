/- The reference's reader: a line. -/
import Derived.Test.YtlnpfnoemhjheaaGreatDoorMEdEdi15
import Derived.Test.YtlnpfnoemhjheaaGreatDoorMAlX
namespace Go.Proofs.YtlnpfnoemhjheaaGreatDoor.Ed
open Go Go.AL
set_option linter.unusedSectionVars false
variable [Go.AL.Mode] [Go.AL.LooseM]
set_option linter.unusedSimpArgs false
set_option linter.unusedVariables false
end Go.Proofs.YtlnpfnoemhjheaaGreatDoor.Ed
/- The reference's Parse. -/
namespace Go.Proofs.YtlnpfnoemhjheaaGreatDoor.Ed
open Go Go.AL
set_option linter.unusedSectionVars false
variable [Go.AL.Mode] [Go.AL.LooseM]
set_option linter.unusedSimpArgs false
set_option linter.unusedVariables false
end Go.Proofs.YtlnpfnoemhjheaaGreatDoor.Ed
