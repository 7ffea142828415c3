/- States by coupons, plainly. -/
import Derived.Test.YtlnpfnoemhjheaaGreatDoorMMirZ
namespace Go.Proofs.YtlnpfnoemhjheaaGreatDoor
open Go Go.AL
set_option linter.unusedSectionVars false
variable [Go.AL.Mode] [Go.AL.LooseM]
set_option linter.unusedSimpArgs false
set_option linter.unusedVariables false
abbrev Qs := List (Nat × Int × Int)
abbrev Cs := List (Nat × List St)
def gR (M : Mi) (w : St) : Option St := (findR M.R w).map (·.1)
theorem gR_find (M : Mi) (w : St) : gR M w = (M.R.map (·.1)).find? (sameS w) := by
  rw [List.find?_map]; rfl
theorem isAll_find {M : Mi} {d : List St} (h : isAll M d) (w : St) : d.find? (sameS w) = gR M w := by
  rw [gR_find]
  exact h.1.apart.find_perm h.2 w
theorem isAll_eq {M M' : Mi} {d d' : List St} (h : isAll M d) (h' : isAll M' d') (hg : ∀ w, gR M w = gR M' w) : d = d' :=
  h.1.uniqF h'.1 fun w => by rw [isAll_find h, isAll_find h', hg]
end Go.Proofs.YtlnpfnoemhjheaaGreatDoor
/- Two mirrors in the store. -/
namespace Go.Proofs.YtlnpfnoemhjheaaGreatDoor
open Go Go.AL
set_option linter.unusedSectionVars false
variable [Go.AL.Mode] [Go.AL.LooseM]
set_option linter.unusedSimpArgs false
set_option linter.unusedVariables false
def mobs (n : Nat) (M : Mi) (Q : Qs) (C : Cs) : Store :=
  [mapO (.st [.int .i64, .int .i64]) (M.R.map entM) .free, mapO (.one (.int .i64)) (Q.map entQ) .free, mapO (.one (.int .i64)) (C.map entC) .free, ⟨0, some (.arr 86 4 [[.mapv n 0, .mapv (n + 1) 0, .mapv (n + 2) 0, .int .i64 (M.N : Nat)]])⟩]
def two (S : Store) (M : Mi) (Q : Qs) (C : Cs) (M' : Mi) (Q' : Qs) (C' : Cs) : Store := mst S (mobs (S.length + 4) M' Q' C') M Q C
section
variable {S : Store} {M : Mi} {Q : Qs} {C : Cs} {M' : Mi} {Q' : Qs} {C' : Cs}
variable (S : Store) (M : Mi) (Q : Qs) (C : Cs) (M' : Mi) (Q' : Qs) (C' : Cs)
end
end Go.Proofs.YtlnpfnoemhjheaaGreatDoor
