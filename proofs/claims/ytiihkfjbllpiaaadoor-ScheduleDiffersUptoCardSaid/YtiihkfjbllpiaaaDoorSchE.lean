/- The reference's dates, as texts. The reference's look at places: that it comes to an end, and that zones are short where it finds nothing. -/
import Derived.Test.YtiihkfjbllpiaaaDoorScaC
import Derived.Test.YtiihkfjbllpiaaaDoorSchQ
namespace Go.Proofs.YtiihkfjbllpiaaaDoor
open Go Go.AL
set_option linter.unusedSectionVars false
variable [Go.AL.Mode] [Go.AL.LooseM]
set_option linter.unusedSimpArgs false
set_option linter.unusedVariables false

def monL (y m : Nat) : Nat := if m = 4 ∨ m = 6 ∨ m = 9 ∨ m = 11 then 30 else if m = 2 then (if y % 4 = 0 then 29 else 28) else 31
/-- A date, from a day of a month on. -/
def dateL : Nat → Nat → Nat → Nat → Nat × Nat × Nat
  | 0, y, m, d => (y, m, d + 1)
  | n + 1, y, m, d => if d < monL y m then (y, m, d + 1) else if m = 12 then dateL n (y + 1) 1 (d - monL y m) else dateL n y (m + 1) (d - monL y m)
def dateF (d : Nat) : Nat × Nat × Nat := dateL d 2000 1 d
def twoB (n : Nat) : Txt := [UInt8.ofNat (48 + n / 10), UInt8.ofNat (48 + n % 10)]
def prtF (d : Nat) : Txt := twoB ((dateF d).1 / 100) ++ (twoB ((dateF d).1 % 100) ++ ([45] ++ (twoB (dateF d).2.1 ++ ([45] ++ twoB (dateF d).2.2))))
theorem prtF_len (d : Nat) : (prtF d).length = 10 := rfl
/-! ### Numbers of any size -/
/-! ### Codes of three letters, and of two -/
/-! ### Zones -/
/-! ### An airport -/
end Go.Proofs.YtiihkfjbllpiaaaDoor
