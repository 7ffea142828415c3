/- Places, cities, what is too big: taken over from component's texts by takecmp.py. -/
import Derived.Test.YtkdbghhdklfoiaaDoorSFc1
namespace Go.Proofs.YtkdbghhdklfoiaaDoor.Cm
open Go Go.AL
set_option linter.unusedSectionVars false
variable [Go.AL.Mode] [Go.AL.LooseM]
set_option linter.unusedSimpArgs false
set_option linter.unusedVariables false
end Go.Proofs.YtkdbghhdklfoiaaDoor.Cm
