/- The reference's lists of coupons. -/
import Derived.Test.YtlnpfnoemhjheaaGreatDoorMRec5
namespace Go.Proofs.YtlnpfnoemhjheaaGreatDoor
open Go Go.AL
set_option linter.unusedSectionVars false
variable [Go.AL.Mode] [Go.AL.LooseM]
set_option linter.unusedSimpArgs false
set_option linter.unusedVariables false
def st0 : St := ⟨0, 0, 0, 0⟩
end Go.Proofs.YtlnpfnoemhjheaaGreatDoor
/- The reference's lists of coupons: the walk; its differences. -/
namespace Go.Proofs.YtlnpfnoemhjheaaGreatDoor
open Go Go.AL
set_option linter.unusedSectionVars false
variable [Go.AL.Mode] [Go.AL.LooseM]
set_option linter.unusedSimpArgs false
set_option linter.unusedVariables false
end Go.Proofs.YtlnpfnoemhjheaaGreatDoor
/- A list that grows. -/
namespace Go.Proofs.YtlnpfnoemhjheaaGreatDoor
open Go Go.AL
set_option linter.unusedSectionVars false
variable [Go.AL.Mode] [Go.AL.LooseM]
set_option linter.unusedSimpArgs false
set_option linter.unusedVariables false
end Go.Proofs.YtlnpfnoemhjheaaGreatDoor
/- The reference's merged states; short lists; the example; the law of lists. -/
namespace Go.Proofs.YtlnpfnoemhjheaaGreatDoor
open Go Go.AL
set_option linter.unusedSectionVars false
variable [Go.AL.Mode] [Go.AL.LooseM]
set_option linter.unusedSimpArgs false
set_option linter.unusedVariables false
theorem LoopA.forget {P : Program} {N : Nat} {σ : Base} {b : ACode} {Q : Exit → Env → Store → Prop} {E E1 : Env} {S S1 : Store} (h : LoopA P N σ b Q E1 S1) (hf : Fgt S S1) (hs : subF S S1 E1 E) (hl : σ.S.length ≤ S1.length) : LoopA P N σ b Q E S :=
  fun c own hc ρ a w hx hr => h c own hc ρ a w (hx.forget hf hl) (hr.forget hf hs)
theorem map_find {f : St → St} (hf : ∀ z, sameS z (f z) = true) (w : St) : ∀ (l : List St), (l.map f).find? (sameS w) = (l.find? (sameS w)).map f
  | [] => rfl
  | x :: l => by
    rw [List.map_cons, List.find?_cons, List.find?_cons, map_find hf w l]
    have : sameS w (f x) = sameS w x := by
      rw [same_sym w (f x), same_sym w x]
      exact (same_same w (hf x)).symm
    rw [this]
    cases sameS w x <;> rfl
end Go.Proofs.YtlnpfnoemhjheaaGreatDoor
/- Short lists; the example. -/
namespace Go.Proofs.YtlnpfnoemhjheaaGreatDoor
open Go Go.AL
set_option linter.unusedSectionVars false
variable [Go.AL.Mode] [Go.AL.LooseM]
set_option linter.unusedSimpArgs false
set_option linter.unusedVariables false
end Go.Proofs.YtlnpfnoemhjheaaGreatDoor
