/- The functions of mirror and reconcile, compiled (printed by gen.sh). -/
import Derived.Test.YtkdbghhdklfoiaaDoorSAlX
import Derived.Test.YtkdbghhdklfoiaaDoorProg
namespace Go.Proofs.YtkdbghhdklfoiaaDoor
open Go Go.AL
def a641 : AFun := ⟨9, [.tmp 2], (.seq (.reg [⟨some 2, none, .p (.mv (.c (.bool false)))⟩]) (.seq (.reg [⟨some 3, none, .p (.mv (.t 0))⟩,⟨some 4, none, .p (.bin .geq (.t 3) (.c (.int .u8 65)))⟩,⟨some 5, none, .p (.mv (.t 4))⟩,⟨some 6, (some (5, true)), .p (.mv (.t 0))⟩,⟨some 7, (some (5, true)), .p (.bin .leq (.t 6) (.c (.int .u8 90)))⟩,⟨some 8, none, .p (.pick (.t 5) (.t 7) (.c (.bool false)))⟩,⟨some 2, none, .p (.mv (.t 8))⟩]) .ret))⟩
theorem c641 : compF Tryd.prog ⟨fun s => [].contains s, fun _ => []⟩ Tryd.f59 = some a641 := by kernel_rfl
def a658 : AFun := ⟨21, [.tmp 4], (.seq (.reg [⟨some 4, none, .p (.mv (.c (.bool false)))⟩]) (.seq (.seq (.reg [⟨some 5, none, .p (.mv (.c (.int .i64 0)))⟩]) (.block 0 (.loop (.seq (.seq (.reg [⟨some 6, none, .p (.mv (.t 5))⟩,⟨some 7, none, .p (.mv (.t 0))⟩,⟨some 8, none, .p (.lenS (.t 7))⟩,⟨some 9, none, .p (.bin .lss (.t 6) (.t 8))⟩]) (.cond (.t 9) .skip (.exit 0))) (.seq (.block 1 (.seq (.reg [⟨some 12, none, .p (.mv (.t 0))⟩,⟨some 13, none, .p (.mv (.t 5))⟩,⟨some 14, none, .p (.idxS (.t 12) (.t 13))⟩,⟨some 15, none, .call 59 [(.t 14)]⟩,⟨some 16, none, .p (.not (.t 15))⟩]) (.cond (.t 16) (.seq (.reg [⟨some 4, none, .p (.mv (.c (.bool false)))⟩]) .ret) .skip))) (.reg [⟨some 10, none, .p (.mv (.t 5))⟩,⟨some 11, none, .p (.bin .add (.t 10) (.c (.int .i64 1)))⟩,⟨some 5, none, .p (.mv (.t 11))⟩])))))) (.seq (.reg [⟨some 17, none, .p (.mv (.t 0))⟩,⟨some 18, none, .p (.lenS (.t 17))⟩,⟨some 19, none, .p (.mv (.t 1))⟩,⟨some 20, none, .p (.bin .eql (.t 18) (.t 19))⟩,⟨some 4, none, .p (.mv (.t 20))⟩]) .ret)))⟩
theorem c658 : compF Tryd.prog ⟨fun s => [].contains s, fun _ => []⟩ Tryd.f90 = some a658 := by kernel_rfl
end Go.Proofs.YtkdbghhdklfoiaaDoor
