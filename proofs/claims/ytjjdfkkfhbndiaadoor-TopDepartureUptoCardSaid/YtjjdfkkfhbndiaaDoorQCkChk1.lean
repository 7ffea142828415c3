/- Numbers' digits, tags, lists of numbers and of violations compared. -/
import Derived.Test.YtjjdfkkfhbndiaaDoorQAlX
import Derived.Test.YtjjdfkkfhbndiaaDoorQCkSrt5
namespace Go.Proofs.YtjjdfkkfhbndiaaDoor.Ck
open Go Go.AL
set_option linter.unusedSectionVars false
variable [Go.AL.Mode] [Go.AL.LooseM]
set_option linter.unusedSimpArgs false
set_option linter.unusedVariables false
abbrev Txt := List UInt8
def iSl (l : List Int) : V := .sl 1 (l.map fun n => [.int .i64 n])
def decB (n : Nat) : Txt := if n < 10 then [UInt8.ofNat (48 + n)] else [UInt8.ofNat (48 + n / 10), UInt8.ofNat (48 + n % 10)]
def dg36 : Txt := [48, 49, 50, 51, 52, 53, 54, 55, 56, 57, 97, 98, 99, 100, 101, 102, 103, 104, 105, 106, 107, 108, 109, 110, 111, 112, 113, 114, 115, 116, 117, 118, 119, 120, 121, 122]
def dg100 : Txt := (List.range 100).flatMap fun n => [UInt8.ofNat (48 + n / 10), UInt8.ofNat (48 + n % 10)]
theorem dg36_at {n : Nat} (h : n < 10) : (dg36.drop n).take 1 = decB n := by
  have : ∀ n : Fin 10, (dg36.drop n.val).take 1 = decB n.val := by decide +kernel
  exact this ⟨n, h⟩
theorem dg100_at {n : Nat} (h : n < 100) (h2 : ¬ n < 10) : (dg100.drop (2 * n)).take 2 = decB n := by
  have : ∀ n : Fin 100, ¬ n.val < 10 → (dg100.drop (2 * n.val)).take 2 = decB n.val := by decide +kernel
  exact this ⟨n, h⟩ h2
structure Flt where
  err : Int
  at_ : Txt
  deriving DecidableEq
end Go.Proofs.YtjjdfkkfhbndiaaDoor.Ck
