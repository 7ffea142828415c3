/- The functions of seats, compiled (printed by gen.sh). -/
import Derived.Test.YteeenlgoildmiaaDoorAlM
import Derived.Test.YteeenlgoildmiaaDoorProg
namespace Go.Proofs.YteeenlgoildmiaaDoor
open Go Go.AL

/- airline/airlinelaw47.SeatsAssigns -/
def a3 : AFun := ⟨52, [.tmp 4], (.seq (.reg [⟨(some 4), none, .p (.mv (.c (.bool false)))⟩])
  (.seq (.seq (.reg [⟨(some 8), none, .p (.mv (.t 0))⟩,
    ⟨(some 9), none, .p (.lenA (.t 8))⟩,
    ⟨(some 10), none, .p (.bin .gtr (.t 9) (.c (.int .i64 8)))⟩,
    ⟨(some 11), none, .p (.mv (.t 10))⟩,
    ⟨(some 12), (some (11, false)), .p (.mv (.t 1))⟩,
    ⟨(some 13), (some (11, false)), .p (.lenA (.t 12))⟩,
    ⟨(some 14), (some (11, false)), .p (.bin .gtr (.t 13) (.c (.int .i64 6)))⟩,
    ⟨(some 15), none, .p (.pick (.t 11) (.c (.bool true)) (.t 14))⟩])
  (.cond (.t 15) (.seq (.reg [⟨(some 16), none, .call 9 []⟩,
    ⟨(some 4), none, .p (.mv (.t 16))⟩])
  .ret) .skip))
  (.seq (.reg [⟨(some 17), none, .p (.mv (.t 0))⟩,
    ⟨(some 18), none, .p (.mv (.t 1))⟩,
    ⟨(some 19), none, .call 10 [(.t 17), (.t 18)]⟩,
    ⟨(some 20), none, .p (.mv (.t 0))⟩,
    ⟨(some 21), none, .p (.mv (.t 1))⟩,
    ⟨(some 22), none, .call 11 [(.t 20), (.t 21)]⟩,
    ⟨(some 5), none, .p (.mv (.t 19))⟩,
    ⟨(some 6), none, .p (.mv (.t 22))⟩])
  (.seq (.seq (.reg [⟨(some 23), none, .p (.mv (.t 5))⟩,
    ⟨(some 24), none, .p (.lenA (.t 23))⟩,
    ⟨(some 25), none, .p (.mv (.t 1))⟩,
    ⟨(some 26), none, .p (.lenA (.t 25))⟩,
    ⟨(some 27), none, .p (.bin .neq (.t 24) (.t 26))⟩,
    ⟨(some 28), none, .p (.mv (.t 27))⟩,
    ⟨(some 29), (some (28, false)), .p (.mv (.t 0))⟩,
    ⟨(some 30), (some (28, false)), .p (.mv (.t 1))⟩,
    ⟨(some 31), (some (28, false)), .p (.mv (.t 5))⟩,
    ⟨(some 32), (some (28, false)), .call 12 [(.t 29), (.t 30), (.t 31)]⟩,
    ⟨(some 33), (some (28, false)), .p (.not (.t 32))⟩,
    ⟨(some 34), none, .p (.pick (.t 28) (.c (.bool true)) (.t 33))⟩])
  (.cond (.t 34) (.seq (.reg [⟨(some 4), none, .p (.mv (.c (.bool false)))⟩])
  .ret) .skip))
  (.seq (.seq (.reg [⟨(some 7), none, .p (.mv (.c (.int .i64 0)))⟩])
  (.block 0 (.loop (.seq (.seq (.reg [⟨(some 35), none, .p (.mv (.t 7))⟩,
    ⟨(some 36), none, .p (.mv (.t 1))⟩,
    ⟨(some 37), none, .p (.lenA (.t 36))⟩,
    ⟨(some 38), none, .p (.bin .lss (.t 35) (.t 37))⟩])
  (.cond (.t 38) .skip (.exit 0)))
  (.seq (.block 1 (.seq (.oreg [(.quiet, ⟨(some 41), none, .p (.mv (.t 5))⟩),
    (.quiet, ⟨(some 42), none, .p (.mv (.t 7))⟩),
    (.quiet, ⟨(some 43), none, .p (.idxA 1 (.t 41) (.t 42))⟩),
    (.quiet, ⟨(some 44), none, .p (.ld1 (.t 43))⟩),
    (.quiet, ⟨(some 45), none, .p (.bin .geq (.t 44) (.c (.int .i64 0)))⟩),
    (.quiet, ⟨(some 46), none, .p (.mv (.t 6))⟩),
    (.quiet, ⟨(some 47), none, .p (.mv (.t 7))⟩),
    (.quiet, ⟨(some 48), none, .p (.idxA 1 (.t 46) (.t 47))⟩),
    (.quiet, ⟨(some 49), none, .p (.ld1 (.t 48))⟩),
    (.quiet, ⟨(some 50), none, .p (.eqb true (.t 45) (.t 49))⟩)])
  (.cond (.t 50) (.seq (.reg [⟨(some 4), none, .p (.mv (.c (.bool false)))⟩])
  .ret) .skip)))
  (.reg [⟨(some 39), none, .p (.mv (.t 7))⟩,
    ⟨(some 40), none, .p (.bin .add (.t 39) (.c (.int .i64 1)))⟩,
    ⟨(some 7), none, .p (.mv (.t 40))⟩]))))))
  (.seq (.reg [⟨(some 51), none, .call 9 []⟩,
    ⟨(some 4), none, .p (.mv (.t 51))⟩])
  .ret))))))⟩
theorem c3 : compF Tryd.prog ⟨fun s => [].contains s, fun r => match r with | 9 => [(0, .quiet), (1, .quiet), (2, .quiet), (3, .quiet), (4, .quiet), (5, .quiet), (6, .quiet), (7, .quiet), (8, .quiet), (9, .quiet)] | _ => []⟩ Tryd.f3 = some a3 := by kernel_rfl

/- airline/airlinelaw47.SeatsChecks -/
def a4 : AFun := ⟨35, [.tmp 2], (.seq (.reg [⟨(some 2), none, .p (.mv (.c (.bool false)))⟩])
  (.seq (.seq (.reg [⟨(some 4), none, .p (.mv (.t 0))⟩,
    ⟨(some 5), none, .p (.lenA (.t 4))⟩,
    ⟨(some 6), none, .p (.bin .gtr (.t 5) (.c (.int .i64 200)))⟩,
    ⟨(some 7), none, .p (.mv (.t 6))⟩,
    ⟨(some 8), (some (7, true)), .p (.mv (.t 0))⟩,
    ⟨(some 9), (some (7, true)), .p (.lenA (.t 8))⟩,
    ⟨(some 10), (some (7, true)), .p (.bin .leq (.t 9) (.c (.int .i64 999)))⟩,
    ⟨(some 11), none, .p (.pick (.t 7) (.t 10) (.c (.bool false)))⟩])
  (.cond (.t 11) (.seq (.reg [⟨(some 12), none, .call 9 []⟩,
    ⟨(some 2), none, .p (.mv (.t 12))⟩])
  .ret) .skip))
  (.seq (.seq (.reg [⟨(some 3), none, .p (.mv (.c (.int .i64 0)))⟩])
  (.block 0 (.loop (.seq (.seq (.reg [⟨(some 13), none, .p (.mv (.t 3))⟩,
    ⟨(some 14), none, .p (.mv (.t 0))⟩,
    ⟨(some 15), none, .p (.lenA (.t 14))⟩,
    ⟨(some 16), none, .p (.bin .lss (.t 13) (.t 15))⟩])
  (.cond (.t 16) .skip (.exit 0)))
  (.seq (.block 1 (.seq (.reg [⟨(some 19), none, .p (.mv (.t 0))⟩,
    ⟨(some 20), none, .p (.mv (.t 3))⟩,
    ⟨(some 21), none, .p (.idxA 3 (.t 19) (.t 20))⟩,
    ⟨(some 22), none, .p (.faddr 1 (.t 21))⟩,
    ⟨(some 23), none, .p (.ld1 (.t 22))⟩,
    ⟨(some 24), none, .p (.lenS (.t 23))⟩,
    ⟨(some 25), none, .p (.bin .gtr (.t 24) (.c (.int .i64 100)))⟩])
  (.cond (.t 25) (.seq (.reg [⟨(some 26), none, .call 9 []⟩,
    ⟨(some 2), none, .p (.mv (.t 26))⟩])
  .ret) .skip)))
  (.reg [⟨(some 17), none, .p (.mv (.t 3))⟩,
    ⟨(some 18), none, .p (.bin .add (.t 17) (.c (.int .i64 1)))⟩,
    ⟨(some 3), none, .p (.mv (.t 18))⟩]))))))
  (.seq (.reg [⟨(some 27), none, .p (.mv (.t 0))⟩,
    ⟨(some 28), none, .call 14 [(.t 27)]⟩,
    ⟨(some 29), none, .p (.mv (.t 0))⟩,
    ⟨(some 30), none, .call 15 [(.t 29)]⟩,
    ⟨(some 31), none, .call 13 [(.t 28), (.t 30)]⟩,
    ⟨(some 32), none, .p (.mv (.t 31))⟩,
    ⟨(some 33), (some (32, true)), .call 9 []⟩,
    ⟨(some 34), none, .p (.pick (.t 32) (.t 33) (.c (.bool false)))⟩,
    ⟨(some 2), none, .p (.mv (.t 34))⟩])
  .ret))))⟩
theorem c4 : compF Tryd.prog ⟨fun s => [].contains s, fun _ => []⟩ Tryd.f4 = some a4 := by kernel_rfl

/- airline/airlinelaw47.SeatsLess -/
def a5 : AFun := ⟨85, [.tmp 6], (.seq (.reg [⟨(some 6), none, .p (.mv (.c (.bool false)))⟩])
  (.seq (.seq (.reg [⟨(some 13), none, .p (.mv (.t 0))⟩,
    ⟨(some 14), none, .p (.lenA (.t 13))⟩,
    ⟨(some 15), none, .p (.bin .gtr (.t 14) (.c (.int .i64 60)))⟩,
    ⟨(some 16), none, .p (.mv (.t 15))⟩,
    ⟨(some 17), (some (16, false)), .p (.mv (.t 1))⟩,
    ⟨(some 18), (some (16, false)), .p (.lenA (.t 17))⟩,
    ⟨(some 19), (some (16, false)), .p (.bin .gtr (.t 18) (.c (.int .i64 60)))⟩,
    ⟨(some 20), none, .p (.pick (.t 16) (.c (.bool true)) (.t 19))⟩])
  (.cond (.t 20) (.seq (.reg [⟨(some 21), none, .call 9 []⟩,
    ⟨(some 6), none, .p (.mv (.t 21))⟩])
  .ret) .skip))
  (.seq (.reg [⟨(some 7), none, .p (.mv (.c .nilSl))⟩])
  (.seq (.reg [⟨(some 8), none, .p (.mv (.c .nilSl))⟩])
  (.seq (.seq (.reg [⟨(some 9), none, .p (.mv (.c (.int .i64 0)))⟩])
  (.block 0 (.loop (.seq (.seq (.reg [⟨(some 22), none, .p (.mv (.t 9))⟩,
    ⟨(some 23), none, .p (.mv (.t 1))⟩,
    ⟨(some 24), none, .p (.lenA (.t 23))⟩,
    ⟨(some 25), none, .p (.bin .lss (.t 22) (.t 24))⟩])
  (.cond (.t 25) .skip (.exit 0)))
  (.seq (.block 1 (.seq (.reg [⟨(some 28), none, .p (.mv (.t 1))⟩,
    ⟨(some 29), none, .p (.mv (.t 9))⟩,
    ⟨(some 30), none, .p (.idxA 4 (.t 28) (.t 29))⟩,
    ⟨(some 31), none, .p (.faddr 3 (.t 30))⟩,
    ⟨(some 32), none, .p (.ld1 (.t 31))⟩,
    ⟨(some 33), none, .p (.mv (.t 2))⟩,
    ⟨(some 34), none, .p (.bin .geq (.t 32) (.t 33))⟩])
  (.cond (.t 34) (.seq (.reg [⟨(some 35), none, .p (.mv (.t 7))⟩,
    ⟨(some 36), none, .p (.mv (.t 1))⟩,
    ⟨(some 37), none, .p (.mv (.t 9))⟩,
    ⟨(some 38), none, .p (.idxA 4 (.t 36) (.t 37))⟩,
    ⟨(some 39), none, .p (.ldn 4 (.t 38))⟩,
    ⟨(some 40), none, .p (.bsl 4 [(.int .i64 0), (.int .i64 0), (.int .i64 0), (.int .i64 0)] 1 [(0, (.t 39))])⟩,
    ⟨(some 41), none, .app 38 4 (.t 35) (.t 40)⟩,
    ⟨(some 7), none, .p (.mv (.t 41))⟩])
  (.reg [⟨(some 42), none, .p (.mv (.t 8))⟩,
    ⟨(some 43), none, .p (.mv (.t 9))⟩,
    ⟨(some 44), none, .p (.bsl 1 [(.int .i64 0)] 1 [(0, (.t 43))])⟩,
    ⟨(some 45), none, .app 3 1 (.t 42) (.t 44)⟩,
    ⟨(some 8), none, .p (.mv (.t 45))⟩])) .skip)))
  (.reg [⟨(some 26), none, .p (.mv (.t 9))⟩,
    ⟨(some 27), none, .p (.bin .add (.t 26) (.c (.int .i64 1)))⟩,
    ⟨(some 9), none, .p (.mv (.t 27))⟩]))))))
  (.seq (.reg [⟨(some 46), none, .p (.mv (.t 0))⟩,
    ⟨(some 47), none, .p (.mv (.t 1))⟩,
    ⟨(some 48), none, .call 10 [(.t 46), (.t 47)]⟩,
    ⟨(some 49), none, .p (.mv (.t 0))⟩,
    ⟨(some 50), none, .p (.mv (.t 7))⟩,
    ⟨(some 51), none, .call 10 [(.t 49), (.t 50)]⟩,
    ⟨(some 10), none, .p (.mv (.t 48))⟩,
    ⟨(some 11), none, .p (.mv (.t 51))⟩])
  (.seq (.seq (.reg [⟨(some 52), none, .p (.mv (.t 10))⟩,
    ⟨(some 53), none, .p (.lenA (.t 52))⟩,
    ⟨(some 54), none, .p (.mv (.t 1))⟩,
    ⟨(some 55), none, .p (.lenA (.t 54))⟩,
    ⟨(some 56), none, .p (.bin .neq (.t 53) (.t 55))⟩,
    ⟨(some 57), none, .p (.mv (.t 56))⟩,
    ⟨(some 58), (some (57, false)), .p (.mv (.t 11))⟩,
    ⟨(some 59), (some (57, false)), .p (.lenA (.t 58))⟩,
    ⟨(some 60), (some (57, false)), .p (.mv (.t 7))⟩,
    ⟨(some 61), (some (57, false)), .p (.lenA (.t 60))⟩,
    ⟨(some 62), (some (57, false)), .p (.bin .neq (.t 59) (.t 61))⟩,
    ⟨(some 63), none, .p (.pick (.t 57) (.c (.bool true)) (.t 62))⟩])
  (.cond (.t 63) (.seq (.reg [⟨(some 6), none, .p (.mv (.c (.bool false)))⟩])
  .ret) .skip))
  (.seq (.seq (.reg [⟨(some 12), none, .p (.mv (.c (.int .i64 0)))⟩])
  (.block 2 (.loop (.seq (.seq (.reg [⟨(some 64), none, .p (.mv (.t 12))⟩,
    ⟨(some 65), none, .p (.mv (.t 7))⟩,
    ⟨(some 66), none, .p (.lenA (.t 65))⟩,
    ⟨(some 67), none, .p (.bin .lss (.t 64) (.t 66))⟩])
  (.cond (.t 67) .skip (.exit 2)))
  (.seq (.block 3 (.seq (.oreg [(.quiet, ⟨(some 70), none, .p (.mv (.t 11))⟩),
    (.quiet, ⟨(some 71), none, .p (.mv (.t 12))⟩),
    (.quiet, ⟨(some 72), none, .p (.idxA 1 (.t 70) (.t 71))⟩),
    (.quiet, ⟨(some 73), none, .p (.ld1 (.t 72))⟩),
    (.quiet, ⟨(some 74), none, .p (.bin .geq (.t 73) (.c (.int .i64 0)))⟩),
    (.quiet, ⟨(some 75), none, .p (.mv (.t 10))⟩),
    (.quiet, ⟨(some 76), none, .p (.mv (.t 8))⟩),
    (.quiet, ⟨(some 77), none, .p (.mv (.t 12))⟩),
    (.quiet, ⟨(some 78), none, .p (.idxA 1 (.t 76) (.t 77))⟩),
    (.quiet, ⟨(some 79), none, .p (.ld1 (.t 78))⟩),
    (.quiet, ⟨(some 80), none, .p (.idxA 1 (.t 75) (.t 79))⟩),
    (.quiet, ⟨(some 81), none, .p (.ld1 (.t 80))⟩),
    (.quiet, ⟨(some 82), none, .p (.bin .geq (.t 81) (.c (.int .i64 0)))⟩),
    (.quiet, ⟨(some 83), none, .p (.eqb true (.t 74) (.t 82))⟩)])
  (.cond (.t 83) (.seq (.reg [⟨(some 6), none, .p (.mv (.c (.bool false)))⟩])
  .ret) .skip)))
  (.reg [⟨(some 68), none, .p (.mv (.t 12))⟩,
    ⟨(some 69), none, .p (.bin .add (.t 68) (.c (.int .i64 1)))⟩,
    ⟨(some 12), none, .p (.mv (.t 69))⟩]))))))
  (.seq (.reg [⟨(some 84), none, .call 9 []⟩,
    ⟨(some 6), none, .p (.mv (.t 84))⟩])
  .ret)))))))))⟩
theorem c5 : compF Tryd.prog ⟨fun s => [].contains s, fun r => match r with | 17 => [(0, .quiet), (1, .quiet), (2, .quiet), (3, .quiet), (4, .quiet), (5, .quiet), (6, .quiet), (7, .quiet), (8, .quiet), (9, .quiet), (10, .quiet), (11, .quiet), (12, .quiet), (13, .quiet)] | _ => []⟩ Tryd.f5 = some a5 := by kernel_rfl

/- airline/airlinelaw47.SeatsMost -/
def a6 : AFun := ⟨25, [.tmp 4], (.seq (.reg [⟨(some 4), none, .p (.mv (.c (.bool false)))⟩])
  (.seq (.reg [⟨(some 5), none, .p (.mv (.t 0))⟩,
    ⟨(some 6), none, .p (.lenA (.t 5))⟩,
    ⟨(some 7), none, .p (.bin .gtr (.t 6) (.c (.int .i64 6)))⟩,
    ⟨(some 8), none, .p (.mv (.t 7))⟩,
    ⟨(some 9), (some (8, false)), .p (.mv (.t 1))⟩,
    ⟨(some 10), (some (8, false)), .p (.lenA (.t 9))⟩,
    ⟨(some 11), (some (8, false)), .p (.bin .gtr (.t 10) (.c (.int .i64 6)))⟩,
    ⟨(some 12), none, .p (.pick (.t 8) (.c (.bool true)) (.t 11))⟩,
    ⟨(some 13), none, .p (.mv (.t 12))⟩,
    ⟨(some 14), (some (13, false)), .p (.mv (.t 0))⟩,
    ⟨(some 15), (some (13, false)), .p (.mv (.t 1))⟩,
    ⟨(some 16), (some (13, false)), .call 16 [(.t 14), (.t 15)]⟩,
    ⟨(some 17), (some (13, false)), .p (.mv (.t 0))⟩,
    ⟨(some 18), (some (13, false)), .p (.mv (.t 1))⟩,
    ⟨(some 19), (some (13, false)), .call 17 [(.t 17), (.t 18)]⟩,
    ⟨(some 20), (some (13, false)), .p (.bin .eql (.t 16) (.t 19))⟩,
    ⟨(some 21), none, .p (.pick (.t 13) (.c (.bool true)) (.t 20))⟩,
    ⟨(some 22), none, .p (.mv (.t 21))⟩,
    ⟨(some 23), (some (22, true)), .call 9 []⟩,
    ⟨(some 24), none, .p (.pick (.t 22) (.t 23) (.c (.bool false)))⟩,
    ⟨(some 4), none, .p (.mv (.t 24))⟩])
  .ret))⟩
theorem c6 : compF Tryd.prog ⟨fun s => [].contains s, fun _ => []⟩ Tryd.f6 = some a6 := by kernel_rfl

/- airline/airlinelaw47.SeatsOrders -/
def a7 : AFun := ⟨99, [.tmp 6], (.seq (.reg [⟨(some 5), none, .p (.boxI (.t 2))⟩,
    ⟨(some 6), none, .p (.mv (.c (.bool false)))⟩])
  (.seq (.seq (.reg [⟨(some 11), none, .p (.mv (.t 0))⟩,
    ⟨(some 12), none, .p (.lenA (.t 11))⟩,
    ⟨(some 13), none, .p (.bin .gtr (.t 12) (.c (.int .i64 60)))⟩,
    ⟨(some 14), none, .p (.mv (.t 13))⟩,
    ⟨(some 15), (some (14, false)), .p (.mv (.t 1))⟩,
    ⟨(some 16), (some (14, false)), .p (.lenA (.t 15))⟩,
    ⟨(some 17), (some (14, false)), .p (.bin .gtr (.t 16) (.c (.int .i64 60)))⟩,
    ⟨(some 18), none, .p (.pick (.t 14) (.c (.bool true)) (.t 17))⟩])
  (.cond (.t 18) (.seq (.reg [⟨(some 19), none, .call 9 []⟩,
    ⟨(some 6), none, .p (.mv (.t 19))⟩])
  .ret) .skip))
  (.seq (.reg [⟨(some 20), none, .p (.mv (.t 0))⟩,
    ⟨(some 21), none, .p (.mv (.t 1))⟩,
    ⟨(some 22), none, .call 10 [(.t 20), (.t 21)]⟩,
    ⟨(some 7), none, .p (.mv (.t 22))⟩])
  (.seq (.oreg [(.stable, ⟨(some 24), none, .p (.mv (.t 0))⟩),
    (.stable, ⟨(some 26), none, .p (.ldn 3 (.t 5))⟩),
    (.stable, ⟨(some 27), none, .p (.bsl 3 [(.int .i64 0), (.str []), (.int .i64 0)] 1 [(0, (.t 26))])⟩),
    (.stable, ⟨(some 29), none, .p (.mv (.t 1))⟩),
    (.loud, ⟨(some 23), none, .bslO 32 3 [(.int .i64 0), (.str []), (.int .i64 0)] 0 []⟩),
    (.loud, ⟨(some 25), none, .app 32 3 (.t 23) (.t 24)⟩),
    (.loud, ⟨(some 28), none, .app 32 3 (.t 25) (.t 27)⟩),
    (.loud, ⟨(some 30), none, .call 10 [(.t 28), (.t 29)]⟩),
    (.quiet, ⟨(some 8), none, .p (.mv (.t 30))⟩)])
  (.seq (.seq (.reg [⟨(some 31), none, .p (.mv (.t 0))⟩,
    ⟨(some 32), none, .p (.mv (.t 1))⟩,
    ⟨(some 33), none, .p (.mv (.t 7))⟩,
    ⟨(some 34), none, .call 18 [(.t 31), (.t 32), (.t 33)]⟩,
    ⟨(some 35), none, .p (.not (.t 34))⟩,
    ⟨(some 36), none, .p (.mv (.t 35))⟩,
    ⟨(some 37), (some (36, false)), .p (.mv (.t 7))⟩,
    ⟨(some 38), (some (36, false)), .p (.lenA (.t 37))⟩,
    ⟨(some 39), (some (36, false)), .p (.mv (.t 1))⟩,
    ⟨(some 40), (some (36, false)), .p (.lenA (.t 39))⟩,
    ⟨(some 41), (some (36, false)), .p (.bin .neq (.t 38) (.t 40))⟩,
    ⟨(some 42), none, .p (.pick (.t 36) (.c (.bool true)) (.t 41))⟩,
    ⟨(some 43), none, .p (.mv (.t 42))⟩,
    ⟨(some 44), (some (43, false)), .p (.mv (.t 8))⟩,
    ⟨(some 45), (some (43, false)), .p (.lenA (.t 44))⟩,
    ⟨(some 46), (some (43, false)), .p (.mv (.t 1))⟩,
    ⟨(some 47), (some (43, false)), .p (.lenA (.t 46))⟩,
    ⟨(some 48), (some (43, false)), .p (.bin .neq (.t 45) (.t 47))⟩,
    ⟨(some 49), none, .p (.pick (.t 43) (.c (.bool true)) (.t 48))⟩])
  (.cond (.t 49) (.seq (.reg [⟨(some 6), none, .p (.mv (.c (.bool false)))⟩])
  .ret) .skip))
  (.seq (.reg [⟨(some 9), none, .p (.mv (.c (.int .i64 0)))⟩])
  (.seq (.seq (.reg [⟨(some 10), none, .p (.mv (.c (.int .i64 0)))⟩])
  (.block 0 (.loop (.seq (.seq (.reg [⟨(some 50), none, .p (.mv (.t 10))⟩,
    ⟨(some 51), none, .p (.mv (.t 1))⟩,
    ⟨(some 52), none, .p (.lenA (.t 51))⟩,
    ⟨(some 53), none, .p (.bin .lss (.t 50) (.t 52))⟩])
  (.cond (.t 53) .skip (.exit 0)))
  (.seq (.block 1 (.seq (.seq (.reg [⟨(some 56), none, .p (.mv (.t 7))⟩,
    ⟨(some 57), none, .p (.mv (.t 10))⟩,
    ⟨(some 58), none, .p (.idxA 1 (.t 56) (.t 57))⟩,
    ⟨(some 59), none, .p (.ld1 (.t 58))⟩,
    ⟨(some 60), none, .p (.bin .geq (.t 59) (.c (.int .i64 0)))⟩])
  (.cond (.t 60) (.reg [⟨(some 61), none, .p (.mv (.t 9))⟩,
    ⟨(some 62), none, .p (.bin .add (.t 61) (.c (.int .i64 1)))⟩,
    ⟨(some 9), none, .p (.mv (.t 62))⟩]) .skip))
  (.seq (.reg [⟨(some 63), none, .p (.mv (.t 7))⟩,
    ⟨(some 64), none, .p (.mv (.t 10))⟩,
    ⟨(some 65), none, .p (.idxA 1 (.t 63) (.t 64))⟩,
    ⟨(some 66), none, .p (.ld1 (.t 65))⟩,
    ⟨(some 67), none, .p (.bin .geq (.t 66) (.c (.int .i64 0)))⟩,
    ⟨(some 68), none, .p (.mv (.t 67))⟩,
    ⟨(some 69), (some (68, true)), .p (.mv (.t 8))⟩,
    ⟨(some 70), (some (68, true)), .p (.mv (.t 10))⟩,
    ⟨(some 71), (some (68, true)), .p (.idxA 1 (.t 69) (.t 70))⟩,
    ⟨(some 72), (some (68, true)), .p (.ld1 (.t 71))⟩,
    ⟨(some 73), (some (68, true)), .p (.bin .lss (.t 72) (.c (.int .i64 0)))⟩,
    ⟨(some 74), none, .p (.pick (.t 68) (.t 73) (.c (.bool false)))⟩,
    ⟨(some 75), none, .p (.mv (.t 74))⟩,
    ⟨(some 76), (some (75, false)), .p (.mv (.t 7))⟩,
    ⟨(some 77), (some (75, false)), .p (.mv (.t 10))⟩,
    ⟨(some 78), (some (75, false)), .p (.idxA 1 (.t 76) (.t 77))⟩,
    ⟨(some 79), (some (75, false)), .p (.ld1 (.t 78))⟩,
    ⟨(some 80), (some (75, false)), .p (.bin .lss (.t 79) (.c (.int .i64 0)))⟩,
    ⟨(some 81), (some (75, false)), .p (.mv (.t 80))⟩,
    ⟨(some 82), (some (81, true)), .p (.mv (.t 0))⟩,
    ⟨(some 83), (some (81, true)), .p (.mv (.t 7))⟩,
    ⟨(some 84), (some (81, true)), .p (.mv (.t 1))⟩,
    ⟨(some 85), (some (81, true)), .p (.mv (.t 10))⟩,
    ⟨(some 86), (some (81, true)), .p (.idxA 4 (.t 84) (.t 85))⟩,
    ⟨(some 87), (some (81, true)), .p (.ldn 4 (.t 86))⟩,
    ⟨(some 88), (some (81, true)), .call 19 [(.t 82), (.t 83), (.t 87)]⟩,
    ⟨(some 89), (some (75, false)), .p (.pick (.t 81) (.t 88) (.c (.bool false)))⟩,
    ⟨(some 90), none, .p (.pick (.t 75) (.c (.bool true)) (.t 89))⟩])
  (.cond (.t 90) (.seq (.reg [⟨(some 6), none, .p (.mv (.c (.bool false)))⟩])
  .ret) .skip))))
  (.reg [⟨(some 54), none, .p (.mv (.t 10))⟩,
    ⟨(some 55), none, .p (.bin .add (.t 54) (.c (.int .i64 1)))⟩,
    ⟨(some 10), none, .p (.mv (.t 55))⟩]))))))
  (.seq (.reg [⟨(some 91), none, .p (.mv (.t 9))⟩,
    ⟨(some 92), none, .p (.mv (.t 0))⟩,
    ⟨(some 93), none, .p (.mv (.t 1))⟩,
    ⟨(some 94), none, .call 16 [(.t 92), (.t 93)]⟩,
    ⟨(some 95), none, .p (.bin .eql (.t 91) (.t 94))⟩,
    ⟨(some 96), none, .p (.mv (.t 95))⟩,
    ⟨(some 97), (some (96, true)), .call 9 []⟩,
    ⟨(some 98), none, .p (.pick (.t 96) (.t 97) (.c (.bool false)))⟩,
    ⟨(some 6), none, .p (.mv (.t 98))⟩])
  .ret))))))))⟩
theorem c7 : compF Tryd.prog ⟨fun s => [23].contains s, fun r => match r with | 4 => [(1, .stable), (3, .stable), (4, .stable), (6, .stable), (0, .loud), (2, .loud), (5, .loud), (7, .loud), (8, .quiet)] | _ => []⟩ Tryd.f7 = some a7 := by kernel_rfl

/- airline/airlinelaw47.SeatsValid -/
def a8 : AFun := ⟨65, [.tmp 6], (.seq (.reg [⟨(some 6), none, .p (.mv (.c (.bool false)))⟩])
  (.seq (.seq (.reg [⟨(some 8), none, .p (.mv (.t 0))⟩,
    ⟨(some 9), none, .p (.lenA (.t 8))⟩,
    ⟨(some 10), none, .p (.bin .gtr (.t 9) (.c (.int .i64 100)))⟩,
    ⟨(some 11), none, .p (.mv (.t 10))⟩,
    ⟨(some 12), (some (11, false)), .p (.mv (.t 1))⟩,
    ⟨(some 13), (some (11, false)), .p (.lenA (.t 12))⟩,
    ⟨(some 14), (some (11, false)), .p (.bin .gtr (.t 13) (.c (.int .i64 100)))⟩,
    ⟨(some 15), none, .p (.pick (.t 11) (.c (.bool true)) (.t 14))⟩,
    ⟨(some 16), none, .p (.mv (.t 15))⟩,
    ⟨(some 17), (some (16, false)), .p (.mv (.t 2))⟩,
    ⟨(some 18), (some (16, false)), .p (.lenA (.t 17))⟩,
    ⟨(some 19), (some (16, false)), .p (.bin .gtr (.t 18) (.c (.int .i64 100)))⟩,
    ⟨(some 20), none, .p (.pick (.t 16) (.c (.bool true)) (.t 19))⟩])
  (.cond (.t 20) (.seq (.reg [⟨(some 21), none, .call 9 []⟩,
    ⟨(some 6), none, .p (.mv (.t 21))⟩])
  .ret) .skip))
  (.seq (.seq (.reg [⟨(some 7), none, .p (.mv (.c (.int .i64 0)))⟩])
  (.block 0 (.loop (.seq (.seq (.reg [⟨(some 22), none, .p (.mv (.t 7))⟩,
    ⟨(some 23), none, .p (.mv (.t 0))⟩,
    ⟨(some 24), none, .p (.lenA (.t 23))⟩,
    ⟨(some 25), none, .p (.bin .lss (.t 22) (.t 24))⟩,
    ⟨(some 26), none, .p (.mv (.t 25))⟩,
    ⟨(some 27), (some (26, true)), .p (.mv (.t 7))⟩,
    ⟨(some 28), (some (26, true)), .p (.mv (.t 1))⟩,
    ⟨(some 29), (some (26, true)), .p (.lenA (.t 28))⟩,
    ⟨(some 30), (some (26, true)), .p (.bin .lss (.t 27) (.t 29))⟩,
    ⟨(some 31), none, .p (.pick (.t 26) (.t 30) (.c (.bool false)))⟩])
  (.cond (.t 31) .skip (.exit 0)))
  (.seq (.block 1 (.seq (.oreg [(.quiet, ⟨(some 34), none, .p (.mv (.t 0))⟩),
    (.quiet, ⟨(some 35), none, .p (.mv (.t 7))⟩),
    (.quiet, ⟨(some 36), none, .p (.idxA 3 (.t 34) (.t 35))⟩),
    (.quiet, ⟨(some 37), none, .p (.ldn 3 (.t 36))⟩),
    (.quiet, ⟨(some 38), none, .p (.mv (.t 1))⟩),
    (.quiet, ⟨(some 39), none, .p (.mv (.t 7))⟩),
    (.quiet, ⟨(some 40), none, .p (.idxA 4 (.t 38) (.t 39))⟩),
    (.quiet, ⟨(some 41), none, .p (.ldn 4 (.t 40))⟩),
    (.quiet, ⟨(some 43), none, .p (.mv (.t 0))⟩),
    (.quiet, ⟨(some 44), none, .p (.mv (.t 7))⟩),
    (.quiet, ⟨(some 45), none, .p (.idxA 3 (.t 43) (.t 44))⟩),
    (.quiet, ⟨(some 46), none, .p (.ldn 3 (.t 45))⟩),
    (.quiet, ⟨(some 47), none, .p (.mv (.t 1))⟩),
    (.quiet, ⟨(some 48), none, .p (.mv (.t 7))⟩),
    (.quiet, ⟨(some 49), none, .p (.idxA 4 (.t 47) (.t 48))⟩),
    (.quiet, ⟨(some 50), none, .p (.ldn 4 (.t 49))⟩),
    (.quiet, ⟨(some 42), none, .call 20 [(.t 37), (.t 41)]⟩),
    (.loud, ⟨(some 51), none, .call 21 [(.t 46), (.t 50)]⟩),
    (.quiet, ⟨(some 52), none, .p (.eqb true (.t 42) (.t 51))⟩)])
  (.cond (.t 52) (.seq (.reg [⟨(some 6), none, .p (.mv (.c (.bool false)))⟩])
  .ret) .skip)))
  (.reg [⟨(some 32), none, .p (.mv (.t 7))⟩,
    ⟨(some 33), none, .p (.bin .add (.t 32) (.c (.int .i64 1)))⟩,
    ⟨(some 7), none, .p (.mv (.t 33))⟩]))))))
  (.seq (.reg [⟨(some 53), none, .p (.mv (.t 0))⟩,
    ⟨(some 54), none, .p (.mv (.t 1))⟩,
    ⟨(some 55), none, .p (.mv (.t 2))⟩,
    ⟨(some 56), none, .call 18 [(.t 53), (.t 54), (.t 55)]⟩,
    ⟨(some 57), none, .p (.mv (.t 0))⟩,
    ⟨(some 58), none, .p (.mv (.t 1))⟩,
    ⟨(some 59), none, .p (.mv (.t 2))⟩,
    ⟨(some 60), none, .call 12 [(.t 57), (.t 58), (.t 59)]⟩,
    ⟨(some 61), none, .p (.eqb false (.t 56) (.t 60))⟩,
    ⟨(some 62), none, .p (.mv (.t 61))⟩,
    ⟨(some 63), (some (62, true)), .call 9 []⟩,
    ⟨(some 64), none, .p (.pick (.t 62) (.t 63) (.c (.bool false)))⟩,
    ⟨(some 6), none, .p (.mv (.t 64))⟩])
  .ret))))⟩
theorem c8 : compF Tryd.prog ⟨fun s => [].contains s, fun r => match r with | 6 => [(0, .quiet), (1, .quiet), (2, .quiet), (3, .quiet), (4, .quiet), (5, .quiet), (6, .quiet), (7, .quiet), (9, .quiet), (10, .quiet), (11, .quiet), (12, .quiet), (13, .quiet), (14, .quiet), (15, .quiet), (16, .quiet), (8, .quiet), (17, .loud), (18, .quiet)] | _ => []⟩ Tryd.f8 = some a8 := by kernel_rfl

/- airline/airlinelaw47.knows -/
def a9 : AFun := ⟨75, [.tmp 0], (.seq (.reg [⟨(some 0), none, .p (.mv (.c (.bool false)))⟩])
  (.seq (.reg [⟨(some 5), none, .p (.build [(.int .i64 0), (.str []), (.int .i64 0)] [(0, 1, (.c (.int .i64 12))), (1, 1, (.c (.str [65]))), (2, 1, (.c (.int .i64 1)))])⟩,
    ⟨(some 6), none, .p (.build [(.int .i64 0), (.str []), (.int .i64 0)] [(0, 1, (.c (.int .i64 12))), (1, 1, (.c (.str [66])))])⟩,
    ⟨(some 7), none, .p (.bsl 3 [(.int .i64 0), (.str []), (.int .i64 0)] 2 [(0, (.t 5)), (1, (.t 6))])⟩,
    ⟨(some 1), none, .p (.mv (.t 7))⟩])
  (.seq (.reg [⟨(some 8), none, .p (.build [(.int .i64 0), (.int .i64 0), (.int .i64 0), (.int .i64 0)] [(0, 1, (.c (.int .i64 1))), (3, 1, (.c (.int .i64 2)))])⟩,
    ⟨(some 9), none, .p (.build [(.int .i64 0), (.int .i64 0), (.int .i64 0), (.int .i64 0)] [(0, 1, (.c (.int .i64 2))), (1, 1, (.c (.int .i64 1))), (3, 1, (.c (.int .i64 1)))])⟩,
    ⟨(some 10), none, .p (.bsl 4 [(.int .i64 0), (.int .i64 0), (.int .i64 0), (.int .i64 0)] 2 [(0, (.t 8)), (1, (.t 9))])⟩,
    ⟨(some 2), none, .p (.mv (.t 10))⟩])
  (.seq (.reg [⟨(some 11), none, .p (.mv (.t 1))⟩,
    ⟨(some 12), none, .p (.mv (.t 2))⟩,
    ⟨(some 13), none, .call 10 [(.t 11), (.t 12)]⟩,
    ⟨(some 3), none, .p (.mv (.t 13))⟩])
  (.seq (.oreg [(.quiet, ⟨(some 14), none, .p (.mv (.t 1))⟩),
    (.quiet, ⟨(some 15), none, .p (.idxA 3 (.t 14) (.c (.int .i64 0)))⟩),
    (.quiet, ⟨(some 16), none, .p (.ldn 3 (.t 15))⟩),
    (.quiet, ⟨(some 17), none, .p (.mv (.t 1))⟩),
    (.quiet, ⟨(some 18), none, .p (.idxA 3 (.t 17) (.c (.int .i64 0)))⟩),
    (.quiet, ⟨(some 19), none, .p (.ldn 3 (.t 18))⟩),
    (.quiet, ⟨(some 20), none, .p (.bsl 3 [(.int .i64 0), (.str []), (.int .i64 0)] 2 [(0, (.t 16)), (1, (.t 19))])⟩),
    (.loud, ⟨(some 21), none, .call 14 [(.t 20)]⟩),
    (.quiet, ⟨(some 4), none, .p (.mv (.t 21))⟩)])
  (.seq (.oreg [(.quiet, ⟨(some 22), none, .p (.mv (.t 3))⟩),
    (.quiet, ⟨(some 23), none, .p (.lenA (.t 22))⟩),
    (.quiet, ⟨(some 24), none, .p (.bin .eql (.t 23) (.c (.int .i64 2)))⟩),
    (.quiet, ⟨(some 25), none, .p (.mv (.t 24))⟩),
    (.quiet, ⟨(some 26), (some (25, true)), .p (.mv (.t 3))⟩),
    (.quiet, ⟨(some 27), (some (25, true)), .p (.idxA 1 (.t 26) (.c (.int .i64 0)))⟩),
    (.quiet, ⟨(some 28), (some (25, true)), .p (.ld1 (.t 27))⟩),
    (.quiet, ⟨(some 29), (some (25, true)), .p (.bin .eql (.t 28) (.c (.int .i64 1)))⟩),
    (.quiet, ⟨(some 30), none, .p (.pick (.t 25) (.t 29) (.c (.bool false)))⟩),
    (.quiet, ⟨(some 31), none, .p (.mv (.t 30))⟩),
    (.quiet, ⟨(some 32), (some (31, true)), .p (.mv (.t 3))⟩),
    (.quiet, ⟨(some 33), (some (31, true)), .p (.idxA 1 (.t 32) (.c (.int .i64 1)))⟩),
    (.quiet, ⟨(some 34), (some (31, true)), .p (.ld1 (.t 33))⟩),
    (.quiet, ⟨(some 35), (some (31, true)), .p (.bin .eql (.t 34) (.c (.int .i64 0)))⟩),
    (.quiet, ⟨(some 36), none, .p (.pick (.t 31) (.t 35) (.c (.bool false)))⟩),
    (.quiet, ⟨(some 37), none, .p (.mv (.t 36))⟩),
    (.quiet, ⟨(some 38), (some (37, true)), .p (.mv (.t 4))⟩),
    (.quiet, ⟨(some 39), (some (37, true)), .p (.lenA (.t 38))⟩),
    (.quiet, ⟨(some 40), (some (37, true)), .p (.bin .eql (.t 39) (.c (.int .i64 1)))⟩),
    (.quiet, ⟨(some 41), none, .p (.pick (.t 37) (.t 40) (.c (.bool false)))⟩),
    (.quiet, ⟨(some 42), none, .p (.mv (.t 41))⟩),
    (.quiet, ⟨(some 43), (some (42, true)), .p (.mv (.t 4))⟩),
    (.quiet, ⟨(some 44), (some (42, true)), .p (.idxA 2 (.t 43) (.c (.int .i64 0)))⟩),
    (.quiet, ⟨(some 45), (some (42, true)), .p (.ldn 2 (.t 44))⟩),
    (.quiet, ⟨(some 46), (some (42, true)), .p (.build [(.int .i64 0), (.str [])] [(0, 1, (.c (.int .i64 6))), (1, 1, (.c (.str [115, 101, 97, 116, 32, 49])))])⟩),
    (.quiet, ⟨(some 47), (some (42, true)), .p (.xo (.eqA [(.int .i64), .str] false) [(.t 45), (.t 46)])⟩),
    (.quiet, ⟨(some 48), none, .p (.pick (.t 42) (.t 47) (.c (.bool false)))⟩),
    (.quiet, ⟨(some 49), none, .p (.mv (.t 48))⟩),
    (.quiet, ⟨(some 50), (some (49, true)), .p (.mv (.t 1))⟩),
    (.quiet, ⟨(some 51), (some (49, true)), .p (.mv (.t 2))⟩),
    (.quiet, ⟨(some 52), (some (49, true)), .p (.bsl 1 [(.int .i64 0)] 2 [(0, (.c (.int .i64 0))), (1, (.c (.int .i64 0)))])⟩),
    (.loud, ⟨(some 53), (some (49, true)), .call 18 [(.t 50), (.t 51), (.t 52)]⟩),
    (.quiet, ⟨(some 54), (some (49, true)), .p (.not (.t 53))⟩),
    (.quiet, ⟨(some 55), none, .p (.pick (.t 49) (.t 54) (.c (.bool false)))⟩),
    (.quiet, ⟨(some 56), none, .p (.mv (.t 55))⟩),
    (.quiet, ⟨(some 57), (some (56, true)), .p (.mv (.t 1))⟩),
    (.quiet, ⟨(some 58), (some (56, true)), .p (.slA 3 (.t 57) none (some (.c (.int .i64 1))))⟩),
    (.quiet, ⟨(some 59), (some (56, true)), .p (.mv (.t 2))⟩),
    (.quiet, ⟨(some 60), (some (56, true)), .p (.idxA 4 (.t 59) (.c (.int .i64 1)))⟩),
    (.quiet, ⟨(some 61), (some (56, true)), .p (.ldn 4 (.t 60))⟩),
    (.quiet, ⟨(some 62), (some (56, true)), .p (.mv (.t 2))⟩),
    (.quiet, ⟨(some 63), (some (56, true)), .p (.idxA 4 (.t 62) (.c (.int .i64 1)))⟩),
    (.quiet, ⟨(some 64), (some (56, true)), .p (.ldn 4 (.t 63))⟩),
    (.quiet, ⟨(some 65), (some (56, true)), .p (.bsl 4 [(.int .i64 0), (.int .i64 0), (.int .i64 0), (.int .i64 0)] 2 [(0, (.t 61)), (1, (.t 64))])⟩),
    (.loud, ⟨(some 66), (some (56, true)), .call 16 [(.t 58), (.t 65)]⟩),
    (.quiet, ⟨(some 67), (some (56, true)), .p (.bin .eql (.t 66) (.c (.int .i64 1)))⟩),
    (.quiet, ⟨(some 68), none, .p (.pick (.t 56) (.t 67) (.c (.bool false)))⟩),
    (.quiet, ⟨(some 69), none, .p (.mv (.t 68))⟩),
    (.quiet, ⟨(some 70), (some (69, true)), .p (.build [(.int .i64 0), (.str []), (.int .i64 0)] [(2, 1, (.c (.int .i64 5)))])⟩),
    (.quiet, ⟨(some 71), (some (69, true)), .p (.build [(.int .i64 0), (.int .i64 0), (.int .i64 0), (.int .i64 0)] [(2, 1, (.c (.int .i64 4)))])⟩),
    (.loud, ⟨(some 72), (some (69, true)), .call 20 [(.t 70), (.t 71)]⟩),
    (.quiet, ⟨(some 73), (some (69, true)), .p (.not (.t 72))⟩),
    (.quiet, ⟨(some 74), none, .p (.pick (.t 69) (.t 73) (.c (.bool false)))⟩),
    (.quiet, ⟨(some 0), none, .p (.mv (.t 74))⟩)])
  .ret))))))⟩
theorem c9 : compF Tryd.prog ⟨fun s => [].contains s, fun r => match r with | 4 => [(0, .quiet), (1, .quiet), (2, .quiet), (3, .quiet), (4, .quiet), (5, .quiet), (6, .quiet), (7, .loud), (8, .quiet)]  | 5 => [(0, .quiet), (1, .quiet), (2, .quiet), (3, .quiet), (4, .quiet), (5, .quiet), (6, .quiet), (7, .quiet), (8, .quiet), (9, .quiet), (10, .quiet), (11, .quiet), (12, .quiet), (13, .quiet), (14, .quiet), (15, .quiet), (16, .quiet), (17, .quiet), (18, .quiet), (19, .quiet), (20, .quiet), (21, .quiet), (22, .quiet), (23, .quiet), (24, .quiet), (25, .quiet), (26, .quiet), (27, .quiet), (28, .quiet), (29, .quiet), (30, .quiet), (31, .loud), (32, .quiet), (33, .quiet), (34, .quiet), (35, .quiet), (36, .quiet), (37, .quiet), (38, .quiet), (39, .quiet), (40, .quiet), (41, .quiet), (42, .quiet), (43, .quiet), (44, .loud), (45, .quiet), (46, .quiet), (47, .quiet), (48, .quiet), (49, .quiet), (50, .loud), (51, .quiet), (52, .quiet), (53, .quiet)] | _ => []⟩ Tryd.f9 = some a9 := by kernel_rfl

/- airline/seats.Assign -/
def a10 : AFun := ⟨53, [.tmp 4], (.seq (.reg [⟨(some 3), none, .p (.boxI (.t 1))⟩,
    ⟨(some 4), none, .p (.mv (.c .nilSl))⟩])
  (.seq (.oreg [(.stable, ⟨(some 10), none, .p (.mv (.t 0))⟩),
    (.stable, ⟨(some 11), none, .p (.ld1 (.t 3))⟩),
    (.quiet, ⟨(some 12), none, .p (.ld1 (.t 3))⟩),
    (.quiet, ⟨(some 13), none, .p (.lenA (.t 12))⟩),
    (.stable, ⟨(some 15), none, .p (.mv (.t 0))⟩),
    (.stable, ⟨(some 16), none, .p (.lenA (.t 15))⟩),
    (.loud, ⟨(some 14), none, .call 22 [(.t 13)]⟩),
    (.loud, ⟨(some 17), none, .call 22 [(.t 16)]⟩),
    (.quiet, ⟨(some 18), none, .p (.build [.nilSl, .nilSl, .nilSl, .nilSl] [(0, 1, (.t 10)), (1, 1, (.t 11)), (2, 1, (.t 14)), (3, 1, (.t 17))])⟩),
    (.loud, ⟨(some 19), none, .boxO 50 (.t 18)⟩),
    (.quiet, ⟨(some 5), none, .p (.mv (.t 19))⟩)])
  (.seq (.reg [⟨(some 20), none, .p (.ld1 (.t 3))⟩,
    ⟨(some 21), none, .p (.lenA (.t 20))⟩,
    ⟨(some 22), none, .mksl 3 1 [(.int .i64 0)] (.t 21) (.t 21)⟩,
    ⟨(some 6), none, .p (.mv (.t 22))⟩])
  (.seq (.seq (.reg [⟨(some 23), none, .p (.mv (.t 6))⟩,
    ⟨(some 24), none, .p (.lenA (.t 23))⟩,
    ⟨(some 25), none, .p (.mv (.c (.int .i64 0)))⟩])
  (.block 0 (.loop (.seq (.reg [⟨(some 26), none, .p (.bin .lss (.t 25) (.t 24))⟩])
  (.seq (.cond (.t 26) .skip (.exit 0))
  (.seq (.block 1 (.seq (.reg [⟨(some 27), none, .p (.mv (.t 25))⟩,
    ⟨(some 7), none, .p (.mv (.t 27))⟩])
  (.reg [⟨(some 28), none, .p (.mv (.t 6))⟩,
    ⟨(some 29), none, .p (.mv (.t 7))⟩,
    ⟨(some 30), none, .p (.mv (.t 7))⟩,
    ⟨(some 31), none, .p (.idxA 1 (.t 28) (.t 29))⟩,
    ⟨none, none, .st 1 (.t 31) (.t 30)⟩])))
  (.reg [⟨(some 32), none, .p (.bin .add (.t 25) (.c (.int .i64 1)))⟩,
    ⟨(some 25), none, .p (.mv (.t 32))⟩])))))))
  (.seq (.reg [⟨(some 33), none, .p (.mv (.t 6))⟩,
    ⟨(some 34), none, .p (.mkfn 24 [] [(.t 3)])⟩,
    ⟨(some 35), none, .call 23 [(.t 33), (.t 34)]⟩])
  (.seq (.seq (.reg [⟨(some 36), none, .p (.mv (.t 6))⟩,
    ⟨(some 37), none, .p (.lenA (.t 36))⟩,
    ⟨(some 38), none, .p (.mv (.c (.int .i64 0)))⟩])
  (.block 2 (.loop (.seq (.reg [⟨(some 39), none, .p (.bin .lss (.t 38) (.t 37))⟩])
  (.seq (.cond (.t 39) .skip (.exit 2))
  (.seq (.block 3 (.seq (.reg [⟨(some 40), none, .p (.idxA 1 (.t 36) (.t 38))⟩,
    ⟨(some 41), none, .p (.ld1 (.t 40))⟩,
    ⟨(some 9), none, .p (.mv (.t 41))⟩])
  (.reg [⟨(some 42), none, .p (.mv (.t 5))⟩,
    ⟨(some 43), none, .p (.mv (.t 9))⟩,
    ⟨(some 44), none, .p (.mv (.t 0))⟩,
    ⟨(some 45), none, .p (.lenA (.t 44))⟩,
    ⟨(some 46), none, .mksl 4 1 [(.bool false)] (.t 45) (.t 45)⟩,
    ⟨(some 47), none, .call 26 [(.t 42), (.t 43), (.t 46)]⟩])))
  (.reg [⟨(some 48), none, .p (.bin .add (.t 38) (.c (.int .i64 1)))⟩,
    ⟨(some 38), none, .p (.mv (.t 48))⟩])))))))
  (.seq (.reg [⟨(some 49), none, .p (.mv (.t 5))⟩,
    ⟨(some 50), none, .p (.nilChk (.t 49))⟩,
    ⟨(some 51), none, .p (.faddr 2 (.t 50))⟩,
    ⟨(some 52), none, .p (.ld1 (.t 51))⟩,
    ⟨(some 4), none, .p (.mv (.t 52))⟩])
  .ret)))))))⟩
theorem c10 : compF Tryd.prog ⟨fun s => [14, 17, 19].contains s, fun r => match r with | 1 => [(0, .stable), (1, .stable), (2, .quiet), (3, .quiet), (5, .stable), (6, .stable), (4, .loud), (7, .loud), (8, .quiet), (9, .loud), (10, .quiet)] | _ => []⟩ Tryd.f10 = some a10 := by kernel_rfl

/- airline/airlineref47.Served -/
def a11 : AFun := ⟨47, [.tmp 4], (.seq (.reg [⟨(some 4), none, .p (.mv (.c .nilSl))⟩])
  (.seq (.reg [⟨(some 10), none, .p (.mv (.t 1))⟩,
    ⟨(some 11), none, .p (.lenA (.t 10))⟩,
    ⟨(some 12), none, .mksl 4 1 [(.bool false)] (.t 11) (.t 11)⟩,
    ⟨(some 5), none, .p (.mv (.t 12))⟩])
  (.seq (.reg [⟨(some 13), none, .p (.mv (.t 1))⟩,
    ⟨(some 14), none, .p (.lenA (.t 13))⟩,
    ⟨(some 15), none, .mksl 4 1 [(.bool false)] (.t 14) (.t 14)⟩,
    ⟨(some 6), none, .p (.mv (.t 15))⟩])
  (.seq (.reg [⟨(some 7), none, .p (.mv (.c .nilSl))⟩])
  (.seq (.seq (.reg [⟨(some 16), none, .p (.mv (.t 1))⟩,
    ⟨(some 17), none, .p (.mv (.t 5))⟩,
    ⟨(some 18), none, .call 27 [(.t 16), (.t 17)]⟩,
    ⟨(some 8), none, .p (.mv (.t 18))⟩])
  (.block 0 (.loop (.seq (.seq (.reg [⟨(some 19), none, .p (.mv (.t 8))⟩,
    ⟨(some 20), none, .p (.bin .geq (.t 19) (.c (.int .i64 0)))⟩])
  (.cond (.t 20) .skip (.exit 0)))
  (.seq (.block 1 (.seq (.reg [⟨(some 24), none, .p (.mv (.t 5))⟩,
    ⟨(some 25), none, .p (.mv (.t 8))⟩,
    ⟨(some 26), none, .p (.idxA 1 (.t 24) (.t 25))⟩,
    ⟨none, none, .st 1 (.t 26) (.c (.bool true))⟩])
  (.seq (.oreg [(.stable, ⟨(some 28), none, .p (.mv (.t 7))⟩),
    (.stable, ⟨(some 30), none, .p (.mv (.t 1))⟩),
    (.stable, ⟨(some 31), none, .p (.mv (.t 8))⟩),
    (.stable, ⟨(some 32), none, .p (.idxA 4 (.t 30) (.t 31))⟩),
    (.stable, ⟨(some 33), none, .p (.ldn 4 (.t 32))⟩),
    (.stable, ⟨(some 34), none, .p (.bsl 4 [(.int .i64 0), (.int .i64 0), (.int .i64 0), (.int .i64 0)] 1 [(0, (.t 33))])⟩),
    (.loud, ⟨(some 27), none, .bslO 38 4 [(.int .i64 0), (.int .i64 0), (.int .i64 0), (.int .i64 0)] 0 []⟩),
    (.loud, ⟨(some 29), none, .app 38 4 (.t 27) (.t 28)⟩),
    (.loud, ⟨(some 35), none, .app 38 4 (.t 29) (.t 34)⟩),
    (.quiet, ⟨(some 9), none, .p (.mv (.t 35))⟩)])
  (.seq (.reg [⟨(some 36), none, .p (.mv (.t 0))⟩,
    ⟨(some 37), none, .p (.mv (.t 9))⟩,
    ⟨(some 38), none, .p (.mv (.t 0))⟩,
    ⟨(some 39), none, .p (.lenA (.t 38))⟩,
    ⟨(some 40), none, .mksl 4 1 [(.bool false)] (.t 39) (.t 39)⟩,
    ⟨(some 41), none, .call 28 [(.t 36), (.t 37), (.c (.int .i64 0)), (.t 40)]⟩])
  (.cond (.t 41) (.seq (.reg [⟨(some 42), none, .p (.mv (.t 9))⟩,
    ⟨(some 7), none, .p (.mv (.t 42))⟩])
  (.reg [⟨(some 43), none, .p (.mv (.t 6))⟩,
    ⟨(some 44), none, .p (.mv (.t 8))⟩,
    ⟨(some 45), none, .p (.idxA 1 (.t 43) (.t 44))⟩,
    ⟨none, none, .st 1 (.t 45) (.c (.bool true))⟩])) .skip)))))
  (.reg [⟨(some 21), none, .p (.mv (.t 1))⟩,
    ⟨(some 22), none, .p (.mv (.t 5))⟩,
    ⟨(some 23), none, .call 27 [(.t 21), (.t 22)]⟩,
    ⟨(some 8), none, .p (.mv (.t 23))⟩]))))))
  (.seq (.reg [⟨(some 46), none, .p (.mv (.t 6))⟩,
    ⟨(some 4), none, .p (.mv (.t 46))⟩])
  .ret))))))⟩
theorem c11 : compF Tryd.prog ⟨fun s => [27].contains s, fun r => match r with | 8 => [(1, .stable), (3, .stable), (4, .stable), (5, .stable), (6, .stable), (7, .stable), (0, .loud), (2, .loud), (8, .loud), (9, .quiet)] | _ => []⟩ Tryd.f11 = some a11 := by kernel_rfl

/- airline/airlineref47.Valid -/
def a12 : AFun := ⟨77, [.tmp 6], (.seq (.reg [⟨(some 6), none, .p (.mv (.c (.bool false)))⟩])
  (.seq (.seq (.reg [⟨(some 9), none, .p (.mv (.t 2))⟩,
    ⟨(some 10), none, .p (.lenA (.t 9))⟩,
    ⟨(some 11), none, .p (.mv (.t 1))⟩,
    ⟨(some 12), none, .p (.lenA (.t 11))⟩,
    ⟨(some 13), none, .p (.bin .neq (.t 10) (.t 12))⟩])
  (.cond (.t 13) (.seq (.reg [⟨(some 6), none, .p (.mv (.c (.bool false)))⟩])
  .ret) .skip))
  (.seq (.seq (.reg [⟨(some 7), none, .p (.mv (.c (.int .i64 0)))⟩])
  (.block 0 (.loop (.seq (.seq (.reg [⟨(some 14), none, .p (.mv (.t 7))⟩,
    ⟨(some 15), none, .p (.mv (.t 2))⟩,
    ⟨(some 16), none, .p (.lenA (.t 15))⟩,
    ⟨(some 17), none, .p (.bin .lss (.t 14) (.t 16))⟩])
  (.cond (.t 17) .skip (.exit 0)))
  (.seq (.block 1 (.seq (.seq (.oreg [(.quiet, ⟨(some 20), none, .p (.mv (.t 2))⟩),
    (.quiet, ⟨(some 21), none, .p (.mv (.t 7))⟩),
    (.quiet, ⟨(some 22), none, .p (.idxA 1 (.t 20) (.t 21))⟩),
    (.quiet, ⟨(some 23), none, .p (.ld1 (.t 22))⟩),
    (.quiet, ⟨(some 24), none, .p (.bin .lss (.t 23) (.c (.int .i64 (-1))))⟩),
    (.quiet, ⟨(some 25), none, .p (.mv (.t 24))⟩),
    (.quiet, ⟨(some 26), (some (25, false)), .p (.mv (.t 2))⟩),
    (.quiet, ⟨(some 27), (some (25, false)), .p (.mv (.t 7))⟩),
    (.quiet, ⟨(some 28), (some (25, false)), .p (.idxA 1 (.t 26) (.t 27))⟩),
    (.quiet, ⟨(some 29), (some (25, false)), .p (.ld1 (.t 28))⟩),
    (.quiet, ⟨(some 30), (some (25, false)), .p (.mv (.t 0))⟩),
    (.quiet, ⟨(some 31), (some (25, false)), .p (.lenA (.t 30))⟩),
    (.quiet, ⟨(some 32), (some (25, false)), .p (.bin .geq (.t 29) (.t 31))⟩),
    (.quiet, ⟨(some 33), none, .p (.pick (.t 25) (.c (.bool true)) (.t 32))⟩),
    (.quiet, ⟨(some 34), none, .p (.mv (.t 33))⟩),
    (.quiet, ⟨(some 35), (some (34, false)), .p (.mv (.t 2))⟩),
    (.quiet, ⟨(some 36), (some (34, false)), .p (.mv (.t 7))⟩),
    (.quiet, ⟨(some 37), (some (34, false)), .p (.idxA 1 (.t 35) (.t 36))⟩),
    (.quiet, ⟨(some 38), (some (34, false)), .p (.ld1 (.t 37))⟩),
    (.quiet, ⟨(some 39), (some (34, false)), .p (.bin .geq (.t 38) (.c (.int .i64 0)))⟩),
    (.quiet, ⟨(some 40), (some (34, false)), .p (.mv (.t 39))⟩),
    (.quiet, ⟨(some 41), (some (40, true)), .p (.mv (.t 0))⟩),
    (.quiet, ⟨(some 42), (some (40, true)), .p (.mv (.t 2))⟩),
    (.quiet, ⟨(some 43), (some (40, true)), .p (.mv (.t 7))⟩),
    (.quiet, ⟨(some 44), (some (40, true)), .p (.idxA 1 (.t 42) (.t 43))⟩),
    (.quiet, ⟨(some 45), (some (40, true)), .p (.ld1 (.t 44))⟩),
    (.quiet, ⟨(some 46), (some (40, true)), .p (.idxA 3 (.t 41) (.t 45))⟩),
    (.quiet, ⟨(some 47), (some (40, true)), .p (.ldn 3 (.t 46))⟩),
    (.quiet, ⟨(some 48), (some (40, true)), .p (.mv (.t 1))⟩),
    (.quiet, ⟨(some 49), (some (40, true)), .p (.mv (.t 7))⟩),
    (.quiet, ⟨(some 50), (some (40, true)), .p (.idxA 4 (.t 48) (.t 49))⟩),
    (.quiet, ⟨(some 51), (some (40, true)), .p (.ldn 4 (.t 50))⟩),
    (.loud, ⟨(some 52), (some (40, true)), .call 21 [(.t 47), (.t 51)]⟩),
    (.quiet, ⟨(some 53), (some (40, true)), .p (.not (.t 52))⟩),
    (.quiet, ⟨(some 54), (some (34, false)), .p (.pick (.t 40) (.t 53) (.c (.bool false)))⟩),
    (.quiet, ⟨(some 55), none, .p (.pick (.t 34) (.c (.bool true)) (.t 54))⟩)])
  (.cond (.t 55) (.seq (.reg [⟨(some 6), none, .p (.mv (.c (.bool false)))⟩])
  .ret) .skip))
  (.seq (.reg [⟨(some 8), none, .p (.mv (.c (.int .i64 0)))⟩])
  (.block 2 (.loop (.seq (.seq (.reg [⟨(some 56), none, .p (.mv (.t 8))⟩,
    ⟨(some 57), none, .p (.mv (.t 7))⟩,
    ⟨(some 58), none, .p (.bin .lss (.t 56) (.t 57))⟩])
  (.cond (.t 58) .skip (.exit 2)))
  (.seq (.block 3 (.seq (.oreg [(.quiet, ⟨(some 61), none, .p (.mv (.t 2))⟩),
    (.quiet, ⟨(some 62), none, .p (.mv (.t 7))⟩),
    (.quiet, ⟨(some 63), none, .p (.idxA 1 (.t 61) (.t 62))⟩),
    (.quiet, ⟨(some 64), none, .p (.ld1 (.t 63))⟩),
    (.quiet, ⟨(some 65), none, .p (.bin .geq (.t 64) (.c (.int .i64 0)))⟩),
    (.quiet, ⟨(some 66), none, .p (.mv (.t 65))⟩),
    (.quiet, ⟨(some 67), (some (66, true)), .p (.mv (.t 2))⟩),
    (.quiet, ⟨(some 68), (some (66, true)), .p (.mv (.t 8))⟩),
    (.quiet, ⟨(some 69), (some (66, true)), .p (.idxA 1 (.t 67) (.t 68))⟩),
    (.quiet, ⟨(some 70), (some (66, true)), .p (.ld1 (.t 69))⟩),
    (.quiet, ⟨(some 71), (some (66, true)), .p (.mv (.t 2))⟩),
    (.quiet, ⟨(some 72), (some (66, true)), .p (.mv (.t 7))⟩),
    (.quiet, ⟨(some 73), (some (66, true)), .p (.idxA 1 (.t 71) (.t 72))⟩),
    (.quiet, ⟨(some 74), (some (66, true)), .p (.ld1 (.t 73))⟩),
    (.quiet, ⟨(some 75), (some (66, true)), .p (.bin .eql (.t 70) (.t 74))⟩),
    (.quiet, ⟨(some 76), none, .p (.pick (.t 66) (.t 75) (.c (.bool false)))⟩)])
  (.cond (.t 76) (.seq (.reg [⟨(some 6), none, .p (.mv (.c (.bool false)))⟩])
  .ret) .skip)))
  (.reg [⟨(some 59), none, .p (.mv (.t 8))⟩,
    ⟨(some 60), none, .p (.bin .add (.t 59) (.c (.int .i64 1)))⟩,
    ⟨(some 8), none, .p (.mv (.t 60))⟩]))))))))
  (.reg [⟨(some 18), none, .p (.mv (.t 7))⟩,
    ⟨(some 19), none, .p (.bin .add (.t 18) (.c (.int .i64 1)))⟩,
    ⟨(some 7), none, .p (.mv (.t 19))⟩]))))))
  (.seq (.reg [⟨(some 6), none, .p (.mv (.c (.bool true)))⟩])
  .ret))))⟩
theorem c12 : compF Tryd.prog ⟨fun s => [].contains s, fun r => match r with | 6 => [(0, .quiet), (1, .quiet), (2, .quiet), (3, .quiet), (4, .quiet), (5, .quiet), (6, .quiet), (7, .quiet), (8, .quiet), (9, .quiet), (10, .quiet), (11, .quiet), (12, .quiet), (13, .quiet), (14, .quiet), (15, .quiet), (16, .quiet), (17, .quiet), (18, .quiet), (19, .quiet), (20, .quiet), (21, .quiet), (22, .quiet), (23, .quiet), (24, .quiet), (25, .quiet), (26, .quiet), (27, .quiet), (28, .quiet), (29, .quiet), (30, .quiet), (31, .quiet), (32, .loud), (33, .quiet), (34, .quiet), (35, .quiet)]  | 11 => [(0, .quiet), (1, .quiet), (2, .quiet), (3, .quiet), (4, .quiet), (5, .quiet), (6, .quiet), (7, .quiet), (8, .quiet), (9, .quiet), (10, .quiet), (11, .quiet), (12, .quiet), (13, .quiet), (14, .quiet), (15, .quiet)] | _ => []⟩ Tryd.f12 = some a12 := by kernel_rfl

/- airline/airlineref07.SameFaults -/
def a13 : AFun := ⟨26, [.tmp 4], (.seq (.reg [⟨(some 4), none, .p (.mv (.c (.bool false)))⟩])
  (.seq (.seq (.reg [⟨(some 6), none, .p (.mv (.t 0))⟩,
    ⟨(some 7), none, .p (.lenA (.t 6))⟩,
    ⟨(some 8), none, .p (.mv (.t 1))⟩,
    ⟨(some 9), none, .p (.lenA (.t 8))⟩,
    ⟨(some 10), none, .p (.bin .neq (.t 7) (.t 9))⟩])
  (.cond (.t 10) (.seq (.reg [⟨(some 4), none, .p (.mv (.c (.bool false)))⟩])
  .ret) .skip))
  (.seq (.seq (.reg [⟨(some 5), none, .p (.mv (.c (.int .i64 0)))⟩])
  (.block 0 (.loop (.seq (.seq (.reg [⟨(some 11), none, .p (.mv (.t 5))⟩,
    ⟨(some 12), none, .p (.mv (.t 0))⟩,
    ⟨(some 13), none, .p (.lenA (.t 12))⟩,
    ⟨(some 14), none, .p (.bin .lss (.t 11) (.t 13))⟩])
  (.cond (.t 14) .skip (.exit 0)))
  (.seq (.block 1 (.seq (.oreg [(.quiet, ⟨(some 17), none, .p (.mv (.t 0))⟩),
    (.quiet, ⟨(some 18), none, .p (.mv (.t 5))⟩),
    (.quiet, ⟨(some 19), none, .p (.idxA 2 (.t 17) (.t 18))⟩),
    (.quiet, ⟨(some 20), none, .p (.ldn 2 (.t 19))⟩),
    (.quiet, ⟨(some 21), none, .p (.mv (.t 1))⟩),
    (.quiet, ⟨(some 22), none, .p (.mv (.t 5))⟩),
    (.quiet, ⟨(some 23), none, .p (.idxA 2 (.t 21) (.t 22))⟩),
    (.quiet, ⟨(some 24), none, .p (.ldn 2 (.t 23))⟩),
    (.quiet, ⟨(some 25), none, .p (.xo (.eqA [(.int .i64), .str] true) [(.t 20), (.t 24)])⟩)])
  (.cond (.t 25) (.seq (.reg [⟨(some 4), none, .p (.mv (.c (.bool false)))⟩])
  .ret) .skip)))
  (.reg [⟨(some 15), none, .p (.mv (.t 5))⟩,
    ⟨(some 16), none, .p (.bin .add (.t 15) (.c (.int .i64 1)))⟩,
    ⟨(some 5), none, .p (.mv (.t 16))⟩]))))))
  (.seq (.reg [⟨(some 4), none, .p (.mv (.c (.bool true)))⟩])
  .ret))))⟩
theorem c13 : compF Tryd.prog ⟨fun s => [].contains s, fun r => match r with | 6 => [(0, .quiet), (1, .quiet), (2, .quiet), (3, .quiet), (4, .quiet), (5, .quiet), (6, .quiet), (7, .quiet), (8, .quiet)] | _ => []⟩ Tryd.f13 = some a13 := by kernel_rfl

/- airline/seats.Check -/
def a14 : AFun := ⟨78, [.tmp 2], (.seq (.reg [⟨(some 2), none, .p (.mv (.c .nilSl))⟩])
  (.seq (.seq (.reg [⟨(some 7), none, .p (.mv (.t 0))⟩,
    ⟨(some 8), none, .p (.lenA (.t 7))⟩,
    ⟨(some 9), none, .p (.bin .gtr (.t 8) (.c (.int .i64 999)))⟩])
  (.cond (.t 9) (.seq (.reg [⟨(some 10), none, .p (.build [(.int .i64 0), (.str [])] [(0, 1, (.c (.int .i64 4))), (1, 1, (.c (.str [115, 101, 97, 116, 115])))])⟩,
    ⟨(some 11), none, .p (.bsl 2 [(.int .i64 0), (.str [])] 1 [(0, (.t 10))])⟩,
    ⟨(some 2), none, .p (.mv (.t 11))⟩])
  .ret) .skip))
  (.seq (.reg [⟨(some 3), none, .p (.mv (.c .nilSl))⟩])
  (.seq (.seq (.reg [⟨(some 12), none, .p (.mv (.t 0))⟩,
    ⟨(some 13), none, .p (.lenA (.t 12))⟩,
    ⟨(some 14), none, .p (.mv (.c (.int .i64 0)))⟩])
  (.block 0 (.loop (.seq (.reg [⟨(some 15), none, .p (.bin .lss (.t 14) (.t 13))⟩])
  (.seq (.cond (.t 15) .skip (.exit 0))
  (.seq (.block 1 (.seq (.reg [⟨(some 16), none, .p (.mv (.t 14))⟩,
    ⟨(some 17), none, .p (.idxA 3 (.t 12) (.t 14))⟩,
    ⟨(some 18), none, .p (.ldn 3 (.t 17))⟩,
    ⟨(some 5), none, .newO 32 [(.int .i64 0), (.str []), (.int .i64 0)]⟩,
    ⟨(some 4), none, .p (.mv (.t 16))⟩,
    ⟨none, none, .st 3 (.t 5) (.t 18)⟩])
  (.seq (.reg [⟨(some 19), none, .p (.mv (.t 4))⟩,
    ⟨(some 20), none, .call 29 [(.t 19)]⟩,
    ⟨(some 21), none, .p (.bin .add (.c (.str [115, 101, 97, 116, 32])) (.t 20))⟩,
    ⟨(some 6), none, .p (.mv (.t 21))⟩])
  (.seq (.seq (.reg [⟨(some 22), none, .p (.faddr 0 (.t 5))⟩,
    ⟨(some 23), none, .p (.ld1 (.t 22))⟩,
    ⟨(some 24), none, .p (.bin .lss (.t 23) (.c (.int .i64 1)))⟩,
    ⟨(some 25), none, .p (.mv (.t 24))⟩,
    ⟨(some 26), (some (25, false)), .p (.faddr 0 (.t 5))⟩,
    ⟨(some 27), (some (25, false)), .p (.ld1 (.t 26))⟩,
    ⟨(some 28), (some (25, false)), .p (.bin .gtr (.t 27) (.c (.int .i64 999)))⟩,
    ⟨(some 29), none, .p (.pick (.t 25) (.c (.bool true)) (.t 28))⟩,
    ⟨(some 30), none, .p (.mv (.t 29))⟩,
    ⟨(some 31), (some (30, false)), .p (.faddr 2 (.t 5))⟩,
    ⟨(some 32), (some (30, false)), .p (.ld1 (.t 31))⟩,
    ⟨(some 33), (some (30, false)), .p (.bin .lss (.t 32) (.c (.int .i64 0)))⟩,
    ⟨(some 34), none, .p (.pick (.t 30) (.c (.bool true)) (.t 33))⟩,
    ⟨(some 35), none, .p (.mv (.t 34))⟩,
    ⟨(some 36), (some (35, false)), .p (.faddr 2 (.t 5))⟩,
    ⟨(some 37), (some (35, false)), .p (.ld1 (.t 36))⟩,
    ⟨(some 38), (some (35, false)), .p (.bin .gtr (.t 37) (.c (.int .i64 15)))⟩,
    ⟨(some 39), none, .p (.pick (.t 35) (.c (.bool true)) (.t 38))⟩])
  (.cond (.t 39) (.reg [⟨(some 40), none, .p (.mv (.t 3))⟩,
    ⟨(some 41), none, .p (.mv (.t 6))⟩,
    ⟨(some 42), none, .p (.build [(.int .i64 0), (.str [])] [(0, 1, (.c (.int .i64 2))), (1, 1, (.t 41))])⟩,
    ⟨(some 43), none, .p (.bsl 2 [(.int .i64 0), (.str [])] 1 [(0, (.t 42))])⟩,
    ⟨(some 44), none, .app 46 2 (.t 40) (.t 43)⟩,
    ⟨(some 3), none, .p (.mv (.t 44))⟩]) .skip))
  (.seq (.seq (.reg [⟨(some 45), none, .p (.faddr 1 (.t 5))⟩,
    ⟨(some 46), none, .p (.ld1 (.t 45))⟩,
    ⟨(some 47), none, .p (.lenS (.t 46))⟩,
    ⟨(some 48), none, .p (.bin .neq (.t 47) (.c (.int .i64 1)))⟩,
    ⟨(some 49), none, .p (.mv (.t 48))⟩,
    ⟨(some 50), (some (49, false)), .p (.faddr 1 (.t 5))⟩,
    ⟨(some 51), (some (49, false)), .p (.ld1 (.t 50))⟩,
    ⟨(some 52), (some (49, false)), .p (.idxS (.t 51) (.c (.int .i64 0)))⟩,
    ⟨(some 53), (some (49, false)), .p (.bin .lss (.t 52) (.c (.int .u8 65)))⟩,
    ⟨(some 54), none, .p (.pick (.t 49) (.c (.bool true)) (.t 53))⟩,
    ⟨(some 55), none, .p (.mv (.t 54))⟩,
    ⟨(some 56), (some (55, false)), .p (.faddr 1 (.t 5))⟩,
    ⟨(some 57), (some (55, false)), .p (.ld1 (.t 56))⟩,
    ⟨(some 58), (some (55, false)), .p (.idxS (.t 57) (.c (.int .i64 0)))⟩,
    ⟨(some 59), (some (55, false)), .p (.bin .gtr (.t 58) (.c (.int .u8 90)))⟩,
    ⟨(some 60), none, .p (.pick (.t 55) (.c (.bool true)) (.t 59))⟩])
  (.cond (.t 60) (.reg [⟨(some 61), none, .p (.mv (.t 3))⟩,
    ⟨(some 62), none, .p (.mv (.t 6))⟩,
    ⟨(some 63), none, .p (.build [(.int .i64 0), (.str [])] [(0, 1, (.c (.int .i64 5))), (1, 1, (.t 62))])⟩,
    ⟨(some 64), none, .p (.bsl 2 [(.int .i64 0), (.str [])] 1 [(0, (.t 63))])⟩,
    ⟨(some 65), none, .app 46 2 (.t 61) (.t 64)⟩,
    ⟨(some 3), none, .p (.mv (.t 65))⟩]) .skip))
  (.seq (.reg [⟨(some 66), none, .p (.mv (.t 0))⟩,
    ⟨(some 67), none, .p (.mv (.t 4))⟩,
    ⟨(some 68), none, .p (.slA 3 (.t 66) none (some (.t 67)))⟩,
    ⟨(some 69), none, .p (.mkfn 31 [] [(.t 5)])⟩,
    ⟨(some 70), none, .call 30 [(.t 68), (.t 69)]⟩])
  (.cond (.t 70) (.reg [⟨(some 71), none, .p (.mv (.t 3))⟩,
    ⟨(some 72), none, .p (.mv (.t 6))⟩,
    ⟨(some 73), none, .p (.build [(.int .i64 0), (.str [])] [(0, 1, (.c (.int .i64 6))), (1, 1, (.t 72))])⟩,
    ⟨(some 74), none, .p (.bsl 2 [(.int .i64 0), (.str [])] 1 [(0, (.t 73))])⟩,
    ⟨(some 75), none, .app 46 2 (.t 71) (.t 74)⟩,
    ⟨(some 3), none, .p (.mv (.t 75))⟩]) .skip)))))))
  (.reg [⟨(some 76), none, .p (.bin .add (.t 14) (.c (.int .i64 1)))⟩,
    ⟨(some 14), none, .p (.mv (.t 76))⟩])))))))
  (.seq (.reg [⟨(some 77), none, .p (.mv (.t 3))⟩,
    ⟨(some 2), none, .p (.mv (.t 77))⟩])
  .ret)))))⟩
theorem c14 : compF Tryd.prog ⟨fun s => [].contains s, fun _ => []⟩ Tryd.f14 = some a14 := by kernel_rfl

/- airline/airlineref47.Check -/
def a15 : AFun := ⟨92, [.tmp 2], (.seq (.reg [⟨(some 2), none, .p (.mv (.c .nilSl))⟩])
  (.seq (.seq (.reg [⟨(some 9), none, .p (.mv (.t 0))⟩,
    ⟨(some 10), none, .p (.lenA (.t 9))⟩,
    ⟨(some 11), none, .p (.bin .gtr (.t 10) (.c (.int .i64 999)))⟩])
  (.cond (.t 11) (.seq (.reg [⟨(some 12), none, .p (.build [(.int .i64 0), (.str [])] [(0, 1, (.c (.int .i64 4))), (1, 1, (.c (.str [115, 101, 97, 116, 115])))])⟩,
    ⟨(some 13), none, .p (.bsl 2 [(.int .i64 0), (.str [])] 1 [(0, (.t 12))])⟩,
    ⟨(some 2), none, .p (.mv (.t 13))⟩])
  .ret) .skip))
  (.seq (.reg [⟨(some 3), none, .p (.mv (.c .nilSl))⟩])
  (.seq (.seq (.reg [⟨(some 4), none, .p (.mv (.c (.int .i64 0)))⟩])
  (.block 0 (.loop (.seq (.seq (.reg [⟨(some 14), none, .p (.mv (.t 4))⟩,
    ⟨(some 15), none, .p (.mv (.t 0))⟩,
    ⟨(some 16), none, .p (.lenA (.t 15))⟩,
    ⟨(some 17), none, .p (.bin .lss (.t 14) (.t 16))⟩])
  (.cond (.t 17) .skip (.exit 0)))
  (.seq (.block 1 (.seq (.reg [⟨(some 20), none, .p (.mv (.t 0))⟩,
    ⟨(some 21), none, .p (.mv (.t 4))⟩,
    ⟨(some 22), none, .p (.idxA 3 (.t 20) (.t 21))⟩,
    ⟨(some 23), none, .p (.ldn 3 (.t 22))⟩,
    ⟨(some 5), none, .newO 32 [(.int .i64 0), (.str []), (.int .i64 0)]⟩,
    ⟨none, none, .st 3 (.t 5) (.t 23)⟩])
  (.seq (.reg [⟨(some 24), none, .p (.mv (.t 4))⟩,
    ⟨(some 25), none, .call 32 [(.t 24)]⟩,
    ⟨(some 26), none, .p (.bin .add (.c (.str [115, 101, 97, 116, 32])) (.t 25))⟩,
    ⟨(some 6), none, .p (.mv (.t 26))⟩])
  (.seq (.seq (.reg [⟨(some 27), none, .p (.faddr 0 (.t 5))⟩,
    ⟨(some 28), none, .p (.ld1 (.t 27))⟩,
    ⟨(some 29), none, .p (.bin .lss (.t 28) (.c (.int .i64 1)))⟩,
    ⟨(some 30), none, .p (.mv (.t 29))⟩,
    ⟨(some 31), (some (30, false)), .p (.faddr 0 (.t 5))⟩,
    ⟨(some 32), (some (30, false)), .p (.ld1 (.t 31))⟩,
    ⟨(some 33), (some (30, false)), .p (.bin .gtr (.t 32) (.c (.int .i64 999)))⟩,
    ⟨(some 34), none, .p (.pick (.t 30) (.c (.bool true)) (.t 33))⟩,
    ⟨(some 35), none, .p (.mv (.t 34))⟩,
    ⟨(some 36), (some (35, false)), .p (.faddr 2 (.t 5))⟩,
    ⟨(some 37), (some (35, false)), .p (.ld1 (.t 36))⟩,
    ⟨(some 38), (some (35, false)), .p (.bin .lss (.t 37) (.c (.int .i64 0)))⟩,
    ⟨(some 39), none, .p (.pick (.t 35) (.c (.bool true)) (.t 38))⟩,
    ⟨(some 40), none, .p (.mv (.t 39))⟩,
    ⟨(some 41), (some (40, false)), .p (.faddr 2 (.t 5))⟩,
    ⟨(some 42), (some (40, false)), .p (.ld1 (.t 41))⟩,
    ⟨(some 43), (some (40, false)), .p (.bin .gtr (.t 42) (.c (.int .i64 15)))⟩,
    ⟨(some 44), none, .p (.pick (.t 40) (.c (.bool true)) (.t 43))⟩])
  (.cond (.t 44) (.reg [⟨(some 45), none, .p (.mv (.t 3))⟩,
    ⟨(some 46), none, .p (.mv (.t 6))⟩,
    ⟨(some 47), none, .p (.build [(.int .i64 0), (.str [])] [(0, 1, (.c (.int .i64 2))), (1, 1, (.t 46))])⟩,
    ⟨(some 48), none, .p (.bsl 2 [(.int .i64 0), (.str [])] 1 [(0, (.t 47))])⟩,
    ⟨(some 49), none, .app 46 2 (.t 45) (.t 48)⟩,
    ⟨(some 3), none, .p (.mv (.t 49))⟩]) .skip))
  (.seq (.seq (.reg [⟨(some 50), none, .p (.faddr 1 (.t 5))⟩,
    ⟨(some 51), none, .p (.ld1 (.t 50))⟩,
    ⟨(some 52), none, .call 33 [(.t 51)]⟩,
    ⟨(some 53), none, .p (.not (.t 52))⟩])
  (.cond (.t 53) (.reg [⟨(some 54), none, .p (.mv (.t 3))⟩,
    ⟨(some 55), none, .p (.mv (.t 6))⟩,
    ⟨(some 56), none, .p (.build [(.int .i64 0), (.str [])] [(0, 1, (.c (.int .i64 5))), (1, 1, (.t 55))])⟩,
    ⟨(some 57), none, .p (.bsl 2 [(.int .i64 0), (.str [])] 1 [(0, (.t 56))])⟩,
    ⟨(some 58), none, .app 46 2 (.t 54) (.t 57)⟩,
    ⟨(some 3), none, .p (.mv (.t 58))⟩]) .skip))
  (.seq (.reg [⟨(some 7), none, .p (.mv (.c (.bool false)))⟩])
  (.seq (.seq (.reg [⟨(some 8), none, .p (.mv (.c (.int .i64 0)))⟩])
  (.block 2 (.loop (.seq (.seq (.reg [⟨(some 59), none, .p (.mv (.t 8))⟩,
    ⟨(some 60), none, .p (.mv (.t 4))⟩,
    ⟨(some 61), none, .p (.bin .lss (.t 59) (.t 60))⟩])
  (.cond (.t 61) .skip (.exit 2)))
  (.seq (.block 3 (.oreg [(.quiet, ⟨(some 64), none, .p (.mv (.t 7))⟩),
    (.quiet, ⟨(some 65), none, .p (.mv (.t 64))⟩),
    (.quiet, ⟨(some 66), (some (65, false)), .p (.mv (.t 0))⟩),
    (.quiet, ⟨(some 67), (some (65, false)), .p (.mv (.t 8))⟩),
    (.quiet, ⟨(some 68), (some (65, false)), .p (.idxA 3 (.t 66) (.t 67))⟩),
    (.quiet, ⟨(some 69), (some (65, false)), .p (.faddr 0 (.t 68))⟩),
    (.quiet, ⟨(some 70), (some (65, false)), .p (.ld1 (.t 69))⟩),
    (.quiet, ⟨(some 71), (some (65, false)), .p (.faddr 0 (.t 5))⟩),
    (.quiet, ⟨(some 72), (some (65, false)), .p (.ld1 (.t 71))⟩),
    (.quiet, ⟨(some 73), (some (65, false)), .p (.bin .eql (.t 70) (.t 72))⟩),
    (.quiet, ⟨(some 74), (some (65, false)), .p (.mv (.t 73))⟩),
    (.quiet, ⟨(some 75), (some (74, true)), .p (.mv (.t 0))⟩),
    (.quiet, ⟨(some 76), (some (74, true)), .p (.mv (.t 8))⟩),
    (.quiet, ⟨(some 77), (some (74, true)), .p (.idxA 3 (.t 75) (.t 76))⟩),
    (.quiet, ⟨(some 78), (some (74, true)), .p (.faddr 1 (.t 77))⟩),
    (.quiet, ⟨(some 79), (some (74, true)), .p (.ld1 (.t 78))⟩),
    (.quiet, ⟨(some 80), (some (74, true)), .p (.faddr 1 (.t 5))⟩),
    (.quiet, ⟨(some 81), (some (74, true)), .p (.ld1 (.t 80))⟩),
    (.quiet, ⟨(some 82), (some (74, true)), .p (.bin .eql (.t 79) (.t 81))⟩),
    (.quiet, ⟨(some 83), (some (65, false)), .p (.pick (.t 74) (.t 82) (.c (.bool false)))⟩),
    (.quiet, ⟨(some 84), none, .p (.pick (.t 65) (.c (.bool true)) (.t 83))⟩),
    (.quiet, ⟨(some 7), none, .p (.mv (.t 84))⟩)]))
  (.reg [⟨(some 62), none, .p (.mv (.t 8))⟩,
    ⟨(some 63), none, .p (.bin .add (.t 62) (.c (.int .i64 1)))⟩,
    ⟨(some 8), none, .p (.mv (.t 63))⟩]))))))
  (.seq (.reg [⟨(some 85), none, .p (.mv (.t 7))⟩])
  (.cond (.t 85) (.reg [⟨(some 86), none, .p (.mv (.t 3))⟩,
    ⟨(some 87), none, .p (.mv (.t 6))⟩,
    ⟨(some 88), none, .p (.build [(.int .i64 0), (.str [])] [(0, 1, (.c (.int .i64 6))), (1, 1, (.t 87))])⟩,
    ⟨(some 89), none, .p (.bsl 2 [(.int .i64 0), (.str [])] 1 [(0, (.t 88))])⟩,
    ⟨(some 90), none, .app 46 2 (.t 86) (.t 89)⟩,
    ⟨(some 3), none, .p (.mv (.t 90))⟩]) .skip)))))))))
  (.reg [⟨(some 18), none, .p (.mv (.t 4))⟩,
    ⟨(some 19), none, .p (.bin .add (.t 18) (.c (.int .i64 1)))⟩,
    ⟨(some 4), none, .p (.mv (.t 19))⟩]))))))
  (.seq (.reg [⟨(some 91), none, .p (.mv (.t 3))⟩,
    ⟨(some 2), none, .p (.mv (.t 91))⟩])
  .ret)))))⟩
theorem c15 : compF Tryd.prog ⟨fun s => [].contains s, fun r => match r with | 17 => [(0, .quiet), (1, .quiet), (2, .quiet), (3, .quiet), (4, .quiet), (5, .quiet), (6, .quiet), (7, .quiet), (8, .quiet), (9, .quiet), (10, .quiet), (11, .quiet), (12, .quiet), (13, .quiet), (14, .quiet), (15, .quiet), (16, .quiet), (17, .quiet), (18, .quiet), (19, .quiet), (20, .quiet), (21, .quiet)] | _ => []⟩ Tryd.f15 = some a15 := by kernel_rfl

/- airline/seats.Most -/
def a16 : AFun := ⟨22, [.tmp 4], (.seq (.reg [⟨(some 4), none, .p (.mv (.c (.int .i64 0)))⟩])
  (.seq (.reg [⟨(some 5), none, .p (.mv (.c (.int .i64 0)))⟩])
  (.seq (.seq (.reg [⟨(some 8), none, .p (.mv (.t 0))⟩,
    ⟨(some 9), none, .p (.mv (.t 1))⟩,
    ⟨(some 10), none, .call 10 [(.t 8), (.t 9)]⟩,
    ⟨(some 11), none, .p (.lenA (.t 10))⟩,
    ⟨(some 12), none, .p (.mv (.c (.int .i64 0)))⟩])
  (.block 0 (.loop (.seq (.reg [⟨(some 13), none, .p (.bin .lss (.t 12) (.t 11))⟩])
  (.seq (.cond (.t 13) .skip (.exit 0))
  (.seq (.block 1 (.seq (.reg [⟨(some 14), none, .p (.idxA 1 (.t 10) (.t 12))⟩,
    ⟨(some 15), none, .p (.ld1 (.t 14))⟩,
    ⟨(some 7), none, .p (.mv (.t 15))⟩])
  (.seq (.reg [⟨(some 16), none, .p (.mv (.t 7))⟩,
    ⟨(some 17), none, .p (.bin .geq (.t 16) (.c (.int .i64 0)))⟩])
  (.cond (.t 17) (.reg [⟨(some 18), none, .p (.mv (.t 5))⟩,
    ⟨(some 19), none, .p (.bin .add (.t 18) (.c (.int .i64 1)))⟩,
    ⟨(some 5), none, .p (.mv (.t 19))⟩]) .skip))))
  (.reg [⟨(some 20), none, .p (.bin .add (.t 12) (.c (.int .i64 1)))⟩,
    ⟨(some 12), none, .p (.mv (.t 20))⟩])))))))
  (.seq (.reg [⟨(some 21), none, .p (.mv (.t 5))⟩,
    ⟨(some 4), none, .p (.mv (.t 21))⟩])
  .ret))))⟩
theorem c16 : compF Tryd.prog ⟨fun s => [].contains s, fun _ => []⟩ Tryd.f16 = some a16 := by kernel_rfl

/- airline/airlineref47.Most -/
def a17 : AFun := ⟨11, [.tmp 4], (.seq (.reg [⟨(some 4), none, .p (.mv (.c (.int .i64 0)))⟩])
  (.seq (.reg [⟨(some 5), none, .p (.mv (.t 0))⟩,
    ⟨(some 6), none, .p (.mv (.t 1))⟩,
    ⟨(some 7), none, .p (.mv (.t 0))⟩,
    ⟨(some 8), none, .p (.lenA (.t 7))⟩,
    ⟨(some 9), none, .mksl 4 1 [(.bool false)] (.t 8) (.t 8)⟩,
    ⟨(some 10), none, .call 34 [(.t 5), (.t 6), (.c (.int .i64 0)), (.t 9)]⟩,
    ⟨(some 4), none, .p (.mv (.t 10))⟩])
  .ret))⟩
theorem c17 : compF Tryd.prog ⟨fun s => [].contains s, fun _ => []⟩ Tryd.f17 = some a17 := by kernel_rfl

/- airline/seats.Valid -/
def a18 : AFun := ⟨51, [.tmp 6], (.seq (.reg [⟨(some 6), none, .p (.mv (.c (.bool false)))⟩])
  (.seq (.seq (.reg [⟨(some 9), none, .p (.mv (.t 2))⟩,
    ⟨(some 10), none, .p (.lenA (.t 9))⟩,
    ⟨(some 11), none, .p (.mv (.t 1))⟩,
    ⟨(some 12), none, .p (.lenA (.t 11))⟩,
    ⟨(some 13), none, .p (.bin .neq (.t 10) (.t 12))⟩])
  (.cond (.t 13) (.seq (.reg [⟨(some 6), none, .p (.mv (.c (.bool false)))⟩])
  .ret) .skip))
  (.seq (.seq (.reg [⟨(some 14), none, .p (.mv (.t 2))⟩,
    ⟨(some 15), none, .p (.lenA (.t 14))⟩,
    ⟨(some 16), none, .p (.mv (.c (.int .i64 0)))⟩])
  (.block 0 (.loop (.seq (.reg [⟨(some 17), none, .p (.bin .lss (.t 16) (.t 15))⟩])
  (.seq (.cond (.t 17) .skip (.exit 0))
  (.seq (.block 1 (.seq (.reg [⟨(some 18), none, .p (.mv (.t 16))⟩,
    ⟨(some 19), none, .p (.idxA 1 (.t 14) (.t 16))⟩,
    ⟨(some 20), none, .p (.ld1 (.t 19))⟩,
    ⟨(some 7), none, .p (.mv (.t 18))⟩,
    ⟨(some 8), none, .p (.mv (.t 20))⟩])
  (.seq (.seq (.reg [⟨(some 21), none, .p (.mv (.t 8))⟩,
    ⟨(some 22), none, .p (.bin .eql (.t 21) (.c (.int .i64 (-1))))⟩])
  (.cond (.t 22) (.exit 1) .skip))
  (.seq (.oreg [(.quiet, ⟨(some 23), none, .p (.mv (.t 8))⟩),
    (.quiet, ⟨(some 24), none, .p (.bin .lss (.t 23) (.c (.int .i64 0)))⟩),
    (.quiet, ⟨(some 25), none, .p (.mv (.t 24))⟩),
    (.quiet, ⟨(some 26), (some (25, false)), .p (.mv (.t 8))⟩),
    (.quiet, ⟨(some 27), (some (25, false)), .p (.mv (.t 0))⟩),
    (.quiet, ⟨(some 28), (some (25, false)), .p (.lenA (.t 27))⟩),
    (.quiet, ⟨(some 29), (some (25, false)), .p (.bin .geq (.t 26) (.t 28))⟩),
    (.quiet, ⟨(some 30), none, .p (.pick (.t 25) (.c (.bool true)) (.t 29))⟩),
    (.quiet, ⟨(some 31), none, .p (.mv (.t 30))⟩),
    (.quiet, ⟨(some 32), (some (31, false)), .p (.mv (.t 0))⟩),
    (.quiet, ⟨(some 33), (some (31, false)), .p (.mv (.t 8))⟩),
    (.quiet, ⟨(some 34), (some (31, false)), .p (.idxA 3 (.t 32) (.t 33))⟩),
    (.quiet, ⟨(some 35), (some (31, false)), .p (.ldn 3 (.t 34))⟩),
    (.quiet, ⟨(some 36), (some (31, false)), .p (.mv (.t 1))⟩),
    (.quiet, ⟨(some 37), (some (31, false)), .p (.mv (.t 7))⟩),
    (.quiet, ⟨(some 38), (some (31, false)), .p (.idxA 4 (.t 36) (.t 37))⟩),
    (.quiet, ⟨(some 39), (some (31, false)), .p (.ldn 4 (.t 38))⟩),
    (.loud, ⟨(some 40), (some (31, false)), .call 20 [(.t 35), (.t 39)]⟩),
    (.quiet, ⟨(some 41), (some (31, false)), .p (.not (.t 40))⟩),
    (.quiet, ⟨(some 42), none, .p (.pick (.t 31) (.c (.bool true)) (.t 41))⟩),
    (.quiet, ⟨(some 43), none, .p (.mv (.t 42))⟩),
    (.quiet, ⟨(some 44), (some (43, false)), .p (.mv (.t 2))⟩),
    (.quiet, ⟨(some 45), (some (43, false)), .p (.mv (.t 7))⟩),
    (.quiet, ⟨(some 46), (some (43, false)), .p (.slA 1 (.t 44) none (some (.t 45)))⟩),
    (.quiet, ⟨(some 47), (some (43, false)), .p (.mv (.t 8))⟩),
    (.loud, ⟨(some 48), (some (43, false)), .call 35 [(.t 46), (.t 47)]⟩),
    (.quiet, ⟨(some 49), none, .p (.pick (.t 43) (.c (.bool true)) (.t 48))⟩)])
  (.cond (.t 49) (.seq (.reg [⟨(some 6), none, .p (.mv (.c (.bool false)))⟩])
  .ret) .skip)))))
  (.reg [⟨(some 50), none, .p (.bin .add (.t 16) (.c (.int .i64 1)))⟩,
    ⟨(some 16), none, .p (.mv (.t 50))⟩])))))))
  (.seq (.reg [⟨(some 6), none, .p (.mv (.c (.bool true)))⟩])
  .ret))))⟩
theorem c18 : compF Tryd.prog ⟨fun s => [].contains s, fun r => match r with | 7 => [(0, .quiet), (1, .quiet), (2, .quiet), (3, .quiet), (4, .quiet), (5, .quiet), (6, .quiet), (7, .quiet), (8, .quiet), (9, .quiet), (10, .quiet), (11, .quiet), (12, .quiet), (13, .quiet), (14, .quiet), (15, .quiet), (16, .quiet), (17, .loud), (18, .quiet), (19, .quiet), (20, .quiet), (21, .quiet), (22, .quiet), (23, .quiet), (24, .quiet), (25, .loud), (26, .quiet)] | _ => []⟩ Tryd.f18 = some a18 := by kernel_rfl

/- airline/airlinelaw47.spare -/
def a19 : AFun := ⟨57, [.tmp 6], (.seq (.reg [⟨(some 5), none, .p (.boxI (.t 2))⟩,
    ⟨(some 6), none, .p (.mv (.c (.bool false)))⟩])
  (.seq (.seq (.reg [⟨(some 7), none, .p (.mv (.c (.int .i64 0)))⟩])
  (.block 0 (.loop (.seq (.seq (.reg [⟨(some 10), none, .p (.mv (.t 7))⟩,
    ⟨(some 11), none, .p (.mv (.t 0))⟩,
    ⟨(some 12), none, .p (.lenA (.t 11))⟩,
    ⟨(some 13), none, .p (.bin .lss (.t 10) (.t 12))⟩])
  (.cond (.t 13) .skip (.exit 0)))
  (.seq (.block 1 (.seq (.reg [⟨(some 8), none, .p (.mv (.c (.bool false)))⟩])
  (.seq (.seq (.reg [⟨(some 9), none, .p (.mv (.c (.int .i64 0)))⟩])
  (.block 2 (.loop (.seq (.seq (.reg [⟨(some 16), none, .p (.mv (.t 9))⟩,
    ⟨(some 17), none, .p (.mv (.t 1))⟩,
    ⟨(some 18), none, .p (.lenA (.t 17))⟩,
    ⟨(some 19), none, .p (.bin .lss (.t 16) (.t 18))⟩])
  (.cond (.t 19) .skip (.exit 2)))
  (.seq (.block 3 (.reg [⟨(some 22), none, .p (.mv (.t 8))⟩,
    ⟨(some 23), none, .p (.mv (.t 22))⟩,
    ⟨(some 24), (some (23, false)), .p (.mv (.t 1))⟩,
    ⟨(some 25), (some (23, false)), .p (.mv (.t 9))⟩,
    ⟨(some 26), (some (23, false)), .p (.idxA 1 (.t 24) (.t 25))⟩,
    ⟨(some 27), (some (23, false)), .p (.ld1 (.t 26))⟩,
    ⟨(some 28), (some (23, false)), .p (.mv (.t 7))⟩,
    ⟨(some 29), (some (23, false)), .p (.bin .eql (.t 27) (.t 28))⟩,
    ⟨(some 30), none, .p (.pick (.t 23) (.c (.bool true)) (.t 29))⟩,
    ⟨(some 8), none, .p (.mv (.t 30))⟩]))
  (.reg [⟨(some 20), none, .p (.mv (.t 9))⟩,
    ⟨(some 21), none, .p (.bin .add (.t 20) (.c (.int .i64 1)))⟩,
    ⟨(some 9), none, .p (.mv (.t 21))⟩]))))))
  (.seq (.oreg [(.quiet, ⟨(some 31), none, .p (.mv (.t 8))⟩),
    (.quiet, ⟨(some 32), none, .p (.not (.t 31))⟩),
    (.quiet, ⟨(some 33), none, .p (.mv (.t 32))⟩),
    (.quiet, ⟨(some 34), (some (33, true)), .p (.mv (.t 0))⟩),
    (.quiet, ⟨(some 35), (some (33, true)), .p (.mv (.t 7))⟩),
    (.quiet, ⟨(some 36), (some (33, true)), .p (.idxA 3 (.t 34) (.t 35))⟩),
    (.quiet, ⟨(some 37), (some (33, true)), .p (.faddr 2 (.t 36))⟩),
    (.quiet, ⟨(some 38), (some (33, true)), .p (.ld1 (.t 37))⟩),
    (.quiet, ⟨(some 39), (some (33, true)), .p (.faddr 1 (.t 5))⟩),
    (.quiet, ⟨(some 40), (some (33, true)), .p (.ld1 (.t 39))⟩),
    (.quiet, ⟨(some 41), (some (33, true)), .p (.bin .and (.t 38) (.t 40))⟩),
    (.quiet, ⟨(some 42), (some (33, true)), .p (.faddr 1 (.t 5))⟩),
    (.quiet, ⟨(some 43), (some (33, true)), .p (.ld1 (.t 42))⟩),
    (.quiet, ⟨(some 44), (some (33, true)), .p (.bin .eql (.t 41) (.t 43))⟩),
    (.quiet, ⟨(some 45), none, .p (.pick (.t 33) (.t 44) (.c (.bool false)))⟩),
    (.quiet, ⟨(some 46), none, .p (.mv (.t 45))⟩),
    (.quiet, ⟨(some 47), (some (46, true)), .p (.mv (.t 0))⟩),
    (.quiet, ⟨(some 48), (some (46, true)), .p (.mv (.t 7))⟩),
    (.quiet, ⟨(some 49), (some (46, true)), .p (.idxA 3 (.t 47) (.t 48))⟩),
    (.quiet, ⟨(some 50), (some (46, true)), .p (.faddr 2 (.t 49))⟩),
    (.quiet, ⟨(some 51), (some (46, true)), .p (.ld1 (.t 50))⟩),
    (.quiet, ⟨(some 52), (some (46, true)), .p (.faddr 2 (.t 5))⟩),
    (.quiet, ⟨(some 53), (some (46, true)), .p (.ld1 (.t 52))⟩),
    (.quiet, ⟨(some 54), (some (46, true)), .p (.bin .and (.t 51) (.t 53))⟩),
    (.quiet, ⟨(some 55), (some (46, true)), .p (.bin .eql (.t 54) (.c (.int .i64 0)))⟩),
    (.quiet, ⟨(some 56), none, .p (.pick (.t 46) (.t 55) (.c (.bool false)))⟩)])
  (.cond (.t 56) (.seq (.reg [⟨(some 6), none, .p (.mv (.c (.bool true)))⟩])
  .ret) .skip)))))
  (.reg [⟨(some 14), none, .p (.mv (.t 7))⟩,
    ⟨(some 15), none, .p (.bin .add (.t 14) (.c (.int .i64 1)))⟩,
    ⟨(some 7), none, .p (.mv (.t 15))⟩]))))))
  (.seq (.reg [⟨(some 6), none, .p (.mv (.c (.bool false)))⟩])
  .ret)))⟩
theorem c19 : compF Tryd.prog ⟨fun s => [].contains s, fun r => match r with | 9 => [(0, .quiet), (1, .quiet), (2, .quiet), (3, .quiet), (4, .quiet), (5, .quiet), (6, .quiet), (7, .quiet), (8, .quiet), (9, .quiet), (10, .quiet), (11, .quiet), (12, .quiet), (13, .quiet), (14, .quiet), (15, .quiet), (16, .quiet), (17, .quiet), (18, .quiet), (19, .quiet), (20, .quiet), (21, .quiet), (22, .quiet), (23, .quiet), (24, .quiet), (25, .quiet)] | _ => []⟩ Tryd.f19 = some a19 := by kernel_rfl

/- airline/seats.Fits -/
def a20 : AFun := ⟨21, [.tmp 4], (.seq (.reg [⟨(some 2), none, .p (.boxI (.t 0))⟩,
    ⟨(some 3), none, .p (.boxI (.t 1))⟩,
    ⟨(some 4), none, .p (.mv (.c (.bool false)))⟩])
  (.seq (.reg [⟨(some 5), none, .p (.faddr 2 (.t 2))⟩,
    ⟨(some 6), none, .p (.ld1 (.t 5))⟩,
    ⟨(some 7), none, .p (.faddr 1 (.t 3))⟩,
    ⟨(some 8), none, .p (.ld1 (.t 7))⟩,
    ⟨(some 9), none, .p (.bin .and (.t 6) (.t 8))⟩,
    ⟨(some 10), none, .p (.faddr 1 (.t 3))⟩,
    ⟨(some 11), none, .p (.ld1 (.t 10))⟩,
    ⟨(some 12), none, .p (.bin .eql (.t 9) (.t 11))⟩,
    ⟨(some 13), none, .p (.mv (.t 12))⟩,
    ⟨(some 14), (some (13, true)), .p (.faddr 2 (.t 2))⟩,
    ⟨(some 15), (some (13, true)), .p (.ld1 (.t 14))⟩,
    ⟨(some 16), (some (13, true)), .p (.faddr 2 (.t 3))⟩,
    ⟨(some 17), (some (13, true)), .p (.ld1 (.t 16))⟩,
    ⟨(some 18), (some (13, true)), .p (.bin .and (.t 15) (.t 17))⟩,
    ⟨(some 19), (some (13, true)), .p (.bin .eql (.t 18) (.c (.int .i64 0)))⟩,
    ⟨(some 20), none, .p (.pick (.t 13) (.t 19) (.c (.bool false)))⟩,
    ⟨(some 4), none, .p (.mv (.t 20))⟩])
  .ret))⟩
theorem c20 : compF Tryd.prog ⟨fun s => [].contains s, fun _ => []⟩ Tryd.f20 = some a20 := by kernel_rfl

/- airline/airlineref47.Fits -/
def a21 : AFun := ⟨21, [.tmp 4], (.seq (.reg [⟨(some 2), none, .p (.boxI (.t 0))⟩,
    ⟨(some 3), none, .p (.boxI (.t 1))⟩,
    ⟨(some 4), none, .p (.mv (.c (.bool false)))⟩])
  (.seq (.reg [⟨(some 5), none, .p (.faddr 2 (.t 2))⟩,
    ⟨(some 6), none, .p (.ld1 (.t 5))⟩,
    ⟨(some 7), none, .p (.faddr 1 (.t 3))⟩,
    ⟨(some 8), none, .p (.ld1 (.t 7))⟩,
    ⟨(some 9), none, .p (.bin .and (.t 6) (.t 8))⟩,
    ⟨(some 10), none, .p (.faddr 1 (.t 3))⟩,
    ⟨(some 11), none, .p (.ld1 (.t 10))⟩,
    ⟨(some 12), none, .p (.bin .eql (.t 9) (.t 11))⟩,
    ⟨(some 13), none, .p (.mv (.t 12))⟩,
    ⟨(some 14), (some (13, true)), .p (.faddr 2 (.t 2))⟩,
    ⟨(some 15), (some (13, true)), .p (.ld1 (.t 14))⟩,
    ⟨(some 16), (some (13, true)), .p (.faddr 2 (.t 3))⟩,
    ⟨(some 17), (some (13, true)), .p (.ld1 (.t 16))⟩,
    ⟨(some 18), (some (13, true)), .p (.bin .and (.t 15) (.t 17))⟩,
    ⟨(some 19), (some (13, true)), .p (.bin .eql (.t 18) (.c (.int .i64 0)))⟩,
    ⟨(some 20), none, .p (.pick (.t 13) (.t 19) (.c (.bool false)))⟩,
    ⟨(some 4), none, .p (.mv (.t 20))⟩])
  .ret))⟩
theorem c21 : compF Tryd.prog ⟨fun s => [].contains s, fun _ => []⟩ Tryd.f21 = some a21 := by kernel_rfl

/- airline/seats.none -/
def a22 : AFun := ⟨17, [.tmp 2], (.seq (.reg [⟨(some 2), none, .p (.mv (.c .nilSl))⟩])
  (.seq (.reg [⟨(some 5), none, .p (.mv (.t 0))⟩,
    ⟨(some 6), none, .mksl 3 1 [(.int .i64 0)] (.t 5) (.t 5)⟩,
    ⟨(some 3), none, .p (.mv (.t 6))⟩])
  (.seq (.seq (.reg [⟨(some 7), none, .p (.mv (.t 3))⟩,
    ⟨(some 8), none, .p (.lenA (.t 7))⟩,
    ⟨(some 9), none, .p (.mv (.c (.int .i64 0)))⟩])
  (.block 0 (.loop (.seq (.reg [⟨(some 10), none, .p (.bin .lss (.t 9) (.t 8))⟩])
  (.seq (.cond (.t 10) .skip (.exit 0))
  (.seq (.block 1 (.seq (.reg [⟨(some 11), none, .p (.mv (.t 9))⟩,
    ⟨(some 4), none, .p (.mv (.t 11))⟩])
  (.reg [⟨(some 12), none, .p (.mv (.t 3))⟩,
    ⟨(some 13), none, .p (.mv (.t 4))⟩,
    ⟨(some 14), none, .p (.idxA 1 (.t 12) (.t 13))⟩,
    ⟨none, none, .st 1 (.t 14) (.c (.int .i64 (-1)))⟩])))
  (.reg [⟨(some 15), none, .p (.bin .add (.t 9) (.c (.int .i64 1)))⟩,
    ⟨(some 9), none, .p (.mv (.t 15))⟩])))))))
  (.seq (.reg [⟨(some 16), none, .p (.mv (.t 3))⟩,
    ⟨(some 2), none, .p (.mv (.t 16))⟩])
  .ret))))⟩
theorem c22 : compF Tryd.prog ⟨fun s => [].contains s, fun _ => []⟩ Tryd.f22 = some a22 := by kernel_rfl

/- slices.SortStableFunc[[]int,int] -/
def a23 : AFun := ⟨9, [], (.reg [⟨(some 4), none, .p (.mv (.t 0))⟩,
    ⟨(some 5), none, .p (.mv (.t 0))⟩,
    ⟨(some 6), none, .p (.lenA (.t 5))⟩,
    ⟨(some 7), none, .p (.mv (.t 1))⟩,
    ⟨(some 8), none, .call 36 [(.t 4), (.t 6), (.t 7)]⟩])⟩
theorem c23 : compF Tryd.prog ⟨fun s => [].contains s, fun _ => []⟩ Tryd.f23 = some a23 := by kernel_rfl

/- airline/seats.Assign$1 -/
def a24 : AFun := ⟨17, [.tmp 5], (.seq (.reg [⟨(some 5), none, .p (.mv (.c (.int .i64 0)))⟩])
  (.seq (.oreg [(.quiet, ⟨(some 6), none, .p (.ld1 (.t 2))⟩),
    (.quiet, ⟨(some 7), none, .p (.mv (.t 1))⟩),
    (.quiet, ⟨(some 8), none, .p (.idxA 4 (.t 6) (.t 7))⟩),
    (.quiet, ⟨(some 9), none, .p (.faddr 3 (.t 8))⟩),
    (.quiet, ⟨(some 10), none, .p (.ld1 (.t 9))⟩),
    (.quiet, ⟨(some 11), none, .p (.ld1 (.t 2))⟩),
    (.quiet, ⟨(some 12), none, .p (.mv (.t 0))⟩),
    (.quiet, ⟨(some 13), none, .p (.idxA 4 (.t 11) (.t 12))⟩),
    (.quiet, ⟨(some 14), none, .p (.faddr 3 (.t 13))⟩),
    (.quiet, ⟨(some 15), none, .p (.ld1 (.t 14))⟩),
    (.loud, ⟨(some 16), none, .call 25 [(.t 10), (.t 15)]⟩),
    (.quiet, ⟨(some 5), none, .p (.mv (.t 16))⟩)])
  .ret))⟩
theorem c24 : compF Tryd.prog ⟨fun s => [].contains s, fun r => match r with | 1 => [(0, .quiet), (1, .quiet), (2, .quiet), (3, .quiet), (4, .quiet), (5, .quiet), (6, .quiet), (7, .quiet), (8, .quiet), (9, .quiet), (10, .loud), (11, .quiet)] | _ => []⟩ Tryd.f24 = some a24 := by kernel_rfl

/- cmp.Compare[int] -/
def a25 : AFun := ⟨20, [.tmp 4], (.seq (.reg [⟨(some 4), none, .p (.mv (.c (.int .i64 0)))⟩])
  (.seq (.reg [⟨(some 7), none, .p (.mv (.t 0))⟩,
    ⟨(some 8), none, .call 37 [(.t 7)]⟩,
    ⟨(some 5), none, .p (.mv (.t 8))⟩])
  (.seq (.reg [⟨(some 9), none, .p (.mv (.t 1))⟩,
    ⟨(some 10), none, .call 37 [(.t 9)]⟩,
    ⟨(some 6), none, .p (.mv (.t 10))⟩])
  (.seq (.seq (.reg [⟨(some 11), none, .p (.mv (.t 5))⟩])
  (.cond (.t 11) (.seq (.seq (.reg [⟨(some 12), none, .p (.mv (.t 6))⟩])
  (.cond (.t 12) (.seq (.reg [⟨(some 4), none, .p (.mv (.c (.int .i64 0)))⟩])
  .ret) .skip))
  (.seq (.reg [⟨(some 4), none, .p (.mv (.c (.int .i64 (-1))))⟩])
  .ret)) .skip))
  (.seq (.seq (.reg [⟨(some 13), none, .p (.mv (.t 6))⟩])
  (.cond (.t 13) (.seq (.reg [⟨(some 4), none, .p (.mv (.c (.int .i64 1)))⟩])
  .ret) .skip))
  (.seq (.seq (.reg [⟨(some 14), none, .p (.mv (.t 0))⟩,
    ⟨(some 15), none, .p (.mv (.t 1))⟩,
    ⟨(some 16), none, .p (.bin .lss (.t 14) (.t 15))⟩])
  (.cond (.t 16) (.seq (.reg [⟨(some 4), none, .p (.mv (.c (.int .i64 (-1))))⟩])
  .ret) .skip))
  (.seq (.seq (.reg [⟨(some 17), none, .p (.mv (.t 0))⟩,
    ⟨(some 18), none, .p (.mv (.t 1))⟩,
    ⟨(some 19), none, .p (.bin .gtr (.t 17) (.t 18))⟩])
  (.cond (.t 19) (.seq (.reg [⟨(some 4), none, .p (.mv (.c (.int .i64 1)))⟩])
  .ret) .skip))
  (.seq (.reg [⟨(some 4), none, .p (.mv (.c (.int .i64 0)))⟩])
  .ret))))))))⟩
theorem c25 : compF Tryd.prog ⟨fun s => [].contains s, fun _ => []⟩ Tryd.f25 = some a25 := by kernel_rfl

/- (*airline/seats.plan).place -/
def a26 : AFun := ⟨73, [.tmp 6], (.seq (.reg [⟨(some 6), none, .p (.mv (.c (.bool false)))⟩])
  (.seq (.seq (.reg [⟨(some 9), none, .p (.mv (.t 0))⟩,
    ⟨(some 10), none, .p (.nilChk (.t 9))⟩,
    ⟨(some 11), none, .p (.faddr 0 (.t 10))⟩,
    ⟨(some 12), none, .p (.ld1 (.t 11))⟩,
    ⟨(some 13), none, .p (.lenA (.t 12))⟩,
    ⟨(some 14), none, .p (.mv (.c (.int .i64 0)))⟩])
  (.block 0 (.loop (.seq (.reg [⟨(some 15), none, .p (.bin .lss (.t 14) (.t 13))⟩])
  (.seq (.cond (.t 15) .skip (.exit 0))
  (.seq (.block 1 (.seq (.reg [⟨(some 16), none, .p (.mv (.t 14))⟩,
    ⟨(some 17), none, .p (.idxA 3 (.t 12) (.t 14))⟩,
    ⟨(some 18), none, .p (.ldn 3 (.t 17))⟩,
    ⟨(some 8), none, .newO 32 [(.int .i64 0), (.str []), (.int .i64 0)]⟩,
    ⟨(some 7), none, .p (.mv (.t 16))⟩,
    ⟨none, none, .st 3 (.t 8) (.t 18)⟩])
  (.seq (.seq (.oreg [(.quiet, ⟨(some 19), none, .p (.mv (.t 2))⟩),
    (.quiet, ⟨(some 20), none, .p (.mv (.t 7))⟩),
    (.quiet, ⟨(some 21), none, .p (.idxA 1 (.t 19) (.t 20))⟩),
    (.quiet, ⟨(some 22), none, .p (.ld1 (.t 21))⟩),
    (.quiet, ⟨(some 23), none, .p (.mv (.t 22))⟩),
    (.quiet, ⟨(some 24), (some (23, false)), .p (.ldn 3 (.t 8))⟩),
    (.quiet, ⟨(some 25), (some (23, false)), .p (.mv (.t 0))⟩),
    (.quiet, ⟨(some 26), (some (23, false)), .p (.nilChk (.t 25))⟩),
    (.quiet, ⟨(some 27), (some (23, false)), .p (.faddr 1 (.t 26))⟩),
    (.quiet, ⟨(some 28), (some (23, false)), .p (.ld1 (.t 27))⟩),
    (.quiet, ⟨(some 29), (some (23, false)), .p (.mv (.t 1))⟩),
    (.quiet, ⟨(some 30), (some (23, false)), .p (.idxA 4 (.t 28) (.t 29))⟩),
    (.quiet, ⟨(some 31), (some (23, false)), .p (.ldn 4 (.t 30))⟩),
    (.loud, ⟨(some 32), (some (23, false)), .call 20 [(.t 24), (.t 31)]⟩),
    (.quiet, ⟨(some 33), (some (23, false)), .p (.not (.t 32))⟩),
    (.quiet, ⟨(some 34), none, .p (.pick (.t 23) (.c (.bool true)) (.t 33))⟩)])
  (.cond (.t 34) (.exit 1) .skip))
  (.seq (.reg [⟨(some 35), none, .p (.mv (.t 2))⟩,
    ⟨(some 36), none, .p (.mv (.t 7))⟩,
    ⟨(some 37), none, .p (.idxA 1 (.t 35) (.t 36))⟩,
    ⟨none, none, .st 1 (.t 37) (.c (.bool true))⟩])
  (.seq (.reg [⟨(some 38), none, .p (.mv (.t 0))⟩,
    ⟨(some 39), none, .p (.nilChk (.t 38))⟩,
    ⟨(some 40), none, .p (.faddr 3 (.t 39))⟩,
    ⟨(some 41), none, .p (.ld1 (.t 40))⟩,
    ⟨(some 42), none, .p (.mv (.t 7))⟩,
    ⟨(some 43), none, .p (.idxA 1 (.t 41) (.t 42))⟩,
    ⟨(some 44), none, .p (.ld1 (.t 43))⟩,
    ⟨(some 45), none, .p (.bin .lss (.t 44) (.c (.int .i64 0)))⟩,
    ⟨(some 46), none, .p (.mv (.t 45))⟩,
    ⟨(some 47), (some (46, false)), .p (.mv (.t 0))⟩,
    ⟨(some 48), (some (46, false)), .p (.mv (.t 0))⟩,
    ⟨(some 49), (some (46, false)), .p (.nilChk (.t 48))⟩,
    ⟨(some 50), (some (46, false)), .p (.faddr 3 (.t 49))⟩,
    ⟨(some 51), (some (46, false)), .p (.ld1 (.t 50))⟩,
    ⟨(some 52), (some (46, false)), .p (.mv (.t 7))⟩,
    ⟨(some 53), (some (46, false)), .p (.idxA 1 (.t 51) (.t 52))⟩,
    ⟨(some 54), (some (46, false)), .p (.ld1 (.t 53))⟩,
    ⟨(some 55), (some (46, false)), .p (.mv (.t 2))⟩,
    ⟨(some 56), (some (46, false)), .call 26 [(.t 47), (.t 54), (.t 55)]⟩,
    ⟨(some 57), none, .p (.pick (.t 46) (.c (.bool true)) (.t 56))⟩])
  (.cond (.t 57) (.seq (.oreg [(.quiet, ⟨(some 58), none, .p (.mv (.t 0))⟩),
    (.quiet, ⟨(some 59), none, .p (.nilChk (.t 58))⟩),
    (.quiet, ⟨(some 60), none, .p (.faddr 3 (.t 59))⟩),
    (.quiet, ⟨(some 61), none, .p (.ld1 (.t 60))⟩),
    (.quiet, ⟨(some 62), none, .p (.mv (.t 7))⟩),
    (.quiet, ⟨(some 63), none, .p (.mv (.t 0))⟩),
    (.quiet, ⟨(some 64), none, .p (.nilChk (.t 63))⟩),
    (.quiet, ⟨(some 65), none, .p (.faddr 2 (.t 64))⟩),
    (.quiet, ⟨(some 66), none, .p (.ld1 (.t 65))⟩),
    (.stable, ⟨(some 67), none, .p (.mv (.t 1))⟩),
    (.quiet, ⟨(some 68), none, .p (.mv (.t 1))⟩),
    (.stable, ⟨(some 69), none, .p (.mv (.t 7))⟩),
    (.quiet, ⟨(some 70), none, .p (.idxA 1 (.t 61) (.t 62))⟩),
    (.loud, ⟨none, none, .st 1 (.t 70) (.t 68)⟩),
    (.quiet, ⟨(some 71), none, .p (.idxA 1 (.t 66) (.t 67))⟩),
    (.loud, ⟨none, none, .st 1 (.t 71) (.t 69)⟩)])
  (.seq (.reg [⟨(some 6), none, .p (.mv (.c (.bool true)))⟩])
  .ret)) .skip))))))
  (.reg [⟨(some 72), none, .p (.bin .add (.t 14) (.c (.int .i64 1)))⟩,
    ⟨(some 14), none, .p (.mv (.t 72))⟩])))))))
  (.seq (.reg [⟨(some 6), none, .p (.mv (.c (.bool false)))⟩])
  .ret)))⟩
theorem c26 : compF Tryd.prog ⟨fun s => [].contains s, fun r => match r with | 4 => [(0, .quiet), (1, .quiet), (2, .quiet), (3, .quiet), (4, .quiet), (5, .quiet), (6, .quiet), (7, .quiet), (8, .quiet), (9, .quiet), (10, .quiet), (11, .quiet), (12, .quiet), (13, .loud), (14, .quiet), (15, .quiet)]  | 7 => [(0, .quiet), (1, .quiet), (2, .quiet), (3, .quiet), (4, .quiet), (5, .quiet), (6, .quiet), (7, .quiet), (8, .quiet), (9, .stable), (10, .quiet), (11, .stable), (12, .quiet), (13, .loud), (14, .quiet), (15, .loud)] | _ => []⟩ Tryd.f26 = some a26 := by kernel_rfl

/- airline/airlineref47.first -/
def a27 : AFun := ⟨37, [.tmp 4], (.seq (.reg [⟨(some 4), none, .p (.mv (.c (.int .i64 0)))⟩])
  (.seq (.reg [⟨(some 5), none, .p (.mv (.c (.int .i64 (-1))))⟩])
  (.seq (.seq (.reg [⟨(some 6), none, .p (.mv (.c (.int .i64 0)))⟩])
  (.block 0 (.loop (.seq (.seq (.reg [⟨(some 7), none, .p (.mv (.t 6))⟩,
    ⟨(some 8), none, .p (.mv (.t 0))⟩,
    ⟨(some 9), none, .p (.lenA (.t 8))⟩,
    ⟨(some 10), none, .p (.bin .lss (.t 7) (.t 9))⟩])
  (.cond (.t 10) .skip (.exit 0)))
  (.seq (.block 1 (.seq (.oreg [(.quiet, ⟨(some 13), none, .p (.mv (.t 1))⟩),
    (.quiet, ⟨(some 14), none, .p (.mv (.t 6))⟩),
    (.quiet, ⟨(some 15), none, .p (.idxA 1 (.t 13) (.t 14))⟩),
    (.quiet, ⟨(some 16), none, .p (.ld1 (.t 15))⟩),
    (.quiet, ⟨(some 17), none, .p (.not (.t 16))⟩),
    (.quiet, ⟨(some 18), none, .p (.mv (.t 17))⟩),
    (.quiet, ⟨(some 19), (some (18, true)), .p (.mv (.t 5))⟩),
    (.quiet, ⟨(some 20), (some (18, true)), .p (.bin .lss (.t 19) (.c (.int .i64 0)))⟩),
    (.quiet, ⟨(some 21), (some (18, true)), .p (.mv (.t 20))⟩),
    (.quiet, ⟨(some 22), (some (21, false)), .p (.mv (.t 0))⟩),
    (.quiet, ⟨(some 23), (some (21, false)), .p (.mv (.t 6))⟩),
    (.quiet, ⟨(some 24), (some (21, false)), .p (.idxA 4 (.t 22) (.t 23))⟩),
    (.quiet, ⟨(some 25), (some (21, false)), .p (.faddr 3 (.t 24))⟩),
    (.quiet, ⟨(some 26), (some (21, false)), .p (.ld1 (.t 25))⟩),
    (.quiet, ⟨(some 27), (some (21, false)), .p (.mv (.t 0))⟩),
    (.quiet, ⟨(some 28), (some (21, false)), .p (.mv (.t 5))⟩),
    (.quiet, ⟨(some 29), (some (21, false)), .p (.idxA 4 (.t 27) (.t 28))⟩),
    (.quiet, ⟨(some 30), (some (21, false)), .p (.faddr 3 (.t 29))⟩),
    (.quiet, ⟨(some 31), (some (21, false)), .p (.ld1 (.t 30))⟩),
    (.quiet, ⟨(some 32), (some (21, false)), .p (.bin .gtr (.t 26) (.t 31))⟩),
    (.quiet, ⟨(some 33), (some (18, true)), .p (.pick (.t 21) (.c (.bool true)) (.t 32))⟩),
    (.quiet, ⟨(some 34), none, .p (.pick (.t 18) (.t 33) (.c (.bool false)))⟩)])
  (.cond (.t 34) (.reg [⟨(some 35), none, .p (.mv (.t 6))⟩,
    ⟨(some 5), none, .p (.mv (.t 35))⟩]) .skip)))
  (.reg [⟨(some 11), none, .p (.mv (.t 6))⟩,
    ⟨(some 12), none, .p (.bin .add (.t 11) (.c (.int .i64 1)))⟩,
    ⟨(some 6), none, .p (.mv (.t 12))⟩]))))))
  (.seq (.reg [⟨(some 36), none, .p (.mv (.t 5))⟩,
    ⟨(some 4), none, .p (.mv (.t 36))⟩])
  .ret))))⟩
theorem c27 : compF Tryd.prog ⟨fun s => [].contains s, fun r => match r with | 5 => [(0, .quiet), (1, .quiet), (2, .quiet), (3, .quiet), (4, .quiet), (5, .quiet), (6, .quiet), (7, .quiet), (8, .quiet), (9, .quiet), (10, .quiet), (11, .quiet), (12, .quiet), (13, .quiet), (14, .quiet), (15, .quiet), (16, .quiet), (17, .quiet), (18, .quiet), (19, .quiet), (20, .quiet), (21, .quiet)] | _ => []⟩ Tryd.f27 = some a27 := by kernel_rfl

/- airline/airlineref47.together -/
def a28 : AFun := ⟨50, [.tmp 8], (.seq (.reg [⟨(some 8), none, .p (.mv (.c (.bool false)))⟩])
  (.seq (.seq (.reg [⟨(some 11), none, .p (.mv (.t 2))⟩,
    ⟨(some 12), none, .p (.mv (.t 1))⟩,
    ⟨(some 13), none, .p (.lenA (.t 12))⟩,
    ⟨(some 14), none, .p (.bin .eql (.t 11) (.t 13))⟩])
  (.cond (.t 14) (.seq (.reg [⟨(some 8), none, .p (.mv (.c (.bool true)))⟩])
  .ret) .skip))
  (.seq (.seq (.reg [⟨(some 9), none, .p (.mv (.c (.int .i64 0)))⟩])
  (.block 0 (.loop (.seq (.seq (.reg [⟨(some 15), none, .p (.mv (.t 9))⟩,
    ⟨(some 16), none, .p (.mv (.t 0))⟩,
    ⟨(some 17), none, .p (.lenA (.t 16))⟩,
    ⟨(some 18), none, .p (.bin .lss (.t 15) (.t 17))⟩])
  (.cond (.t 18) .skip (.exit 0)))
  (.seq (.block 1 (.seq (.seq (.oreg [(.quiet, ⟨(some 21), none, .p (.mv (.t 3))⟩),
    (.quiet, ⟨(some 22), none, .p (.mv (.t 9))⟩),
    (.quiet, ⟨(some 23), none, .p (.idxA 1 (.t 21) (.t 22))⟩),
    (.quiet, ⟨(some 24), none, .p (.ld1 (.t 23))⟩),
    (.quiet, ⟨(some 25), none, .p (.mv (.t 24))⟩),
    (.quiet, ⟨(some 26), (some (25, false)), .p (.mv (.t 0))⟩),
    (.quiet, ⟨(some 27), (some (25, false)), .p (.mv (.t 9))⟩),
    (.quiet, ⟨(some 28), (some (25, false)), .p (.idxA 3 (.t 26) (.t 27))⟩),
    (.quiet, ⟨(some 29), (some (25, false)), .p (.ldn 3 (.t 28))⟩),
    (.quiet, ⟨(some 30), (some (25, false)), .p (.mv (.t 1))⟩),
    (.quiet, ⟨(some 31), (some (25, false)), .p (.mv (.t 2))⟩),
    (.quiet, ⟨(some 32), (some (25, false)), .p (.idxA 4 (.t 30) (.t 31))⟩),
    (.quiet, ⟨(some 33), (some (25, false)), .p (.ldn 4 (.t 32))⟩),
    (.loud, ⟨(some 34), (some (25, false)), .call 21 [(.t 29), (.t 33)]⟩),
    (.quiet, ⟨(some 35), (some (25, false)), .p (.not (.t 34))⟩),
    (.quiet, ⟨(some 36), none, .p (.pick (.t 25) (.c (.bool true)) (.t 35))⟩)])
  (.cond (.t 36) (.exit 1) .skip))
  (.seq (.reg [⟨(some 37), none, .p (.mv (.t 3))⟩,
    ⟨(some 38), none, .p (.mv (.t 9))⟩,
    ⟨(some 39), none, .p (.idxA 1 (.t 37) (.t 38))⟩,
    ⟨none, none, .st 1 (.t 39) (.c (.bool true))⟩])
  (.seq (.reg [⟨(some 40), none, .p (.mv (.t 0))⟩,
    ⟨(some 41), none, .p (.mv (.t 1))⟩,
    ⟨(some 42), none, .p (.mv (.t 2))⟩,
    ⟨(some 43), none, .p (.bin .add (.t 42) (.c (.int .i64 1)))⟩,
    ⟨(some 44), none, .p (.mv (.t 3))⟩,
    ⟨(some 45), none, .call 28 [(.t 40), (.t 41), (.t 43), (.t 44)]⟩,
    ⟨(some 10), none, .p (.mv (.t 45))⟩])
  (.seq (.reg [⟨(some 46), none, .p (.mv (.t 3))⟩,
    ⟨(some 47), none, .p (.mv (.t 9))⟩,
    ⟨(some 48), none, .p (.idxA 1 (.t 46) (.t 47))⟩,
    ⟨none, none, .st 1 (.t 48) (.c (.bool false))⟩])
  (.seq (.reg [⟨(some 49), none, .p (.mv (.t 10))⟩])
  (.cond (.t 49) (.seq (.reg [⟨(some 8), none, .p (.mv (.c (.bool true)))⟩])
  .ret) .skip)))))))
  (.reg [⟨(some 19), none, .p (.mv (.t 9))⟩,
    ⟨(some 20), none, .p (.bin .add (.t 19) (.c (.int .i64 1)))⟩,
    ⟨(some 9), none, .p (.mv (.t 20))⟩]))))))
  (.seq (.reg [⟨(some 8), none, .p (.mv (.c (.bool false)))⟩])
  .ret))))⟩
theorem c28 : compF Tryd.prog ⟨fun s => [].contains s, fun r => match r with | 6 => [(0, .quiet), (1, .quiet), (2, .quiet), (3, .quiet), (4, .quiet), (5, .quiet), (6, .quiet), (7, .quiet), (8, .quiet), (9, .quiet), (10, .quiet), (11, .quiet), (12, .quiet), (13, .loud), (14, .quiet), (15, .quiet)] | _ => []⟩ Tryd.f28 = some a28 := by kernel_rfl

/- strconv.Itoa -/
def a29 : AFun := ⟨5, [.tmp 2], (.seq (.reg [⟨(some 2), none, .p (.mv (.c (.str [])))⟩])
  (.seq (.reg [⟨(some 3), none, .p (.mv (.t 0))⟩,
    ⟨(some 4), none, .call 38 [(.t 3)]⟩,
    ⟨(some 2), none, .p (.mv (.t 4))⟩])
  .ret))⟩
theorem c29 : compF Tryd.prog ⟨fun s => [].contains s, fun _ => []⟩ Tryd.f29 = some a29 := by kernel_rfl

/- slices.ContainsFunc[[]airline/api.Seat,airline/api.Seat] -/
def a30 : AFun := ⟨9, [.tmp 4], (.seq (.reg [⟨(some 4), none, .p (.mv (.c (.bool false)))⟩])
  (.seq (.reg [⟨(some 5), none, .p (.mv (.t 0))⟩,
    ⟨(some 6), none, .p (.mv (.t 1))⟩,
    ⟨(some 7), none, .call 39 [(.t 5), (.t 6)]⟩,
    ⟨(some 8), none, .p (.bin .geq (.t 7) (.c (.int .i64 0)))⟩,
    ⟨(some 4), none, .p (.mv (.t 8))⟩])
  .ret))⟩
theorem c30 : compF Tryd.prog ⟨fun s => [].contains s, fun _ => []⟩ Tryd.f30 = some a30 := by kernel_rfl

/- airline/seats.Check$1 -/
def a31 : AFun := ⟨16, [.tmp 3], (.seq (.reg [⟨(some 2), none, .p (.boxI (.t 0))⟩,
    ⟨(some 3), none, .p (.mv (.c (.bool false)))⟩])
  (.seq (.reg [⟨(some 4), none, .p (.faddr 0 (.t 2))⟩,
    ⟨(some 5), none, .p (.ld1 (.t 4))⟩,
    ⟨(some 6), none, .p (.faddr 0 (.t 1))⟩,
    ⟨(some 7), none, .p (.ld1 (.t 6))⟩,
    ⟨(some 8), none, .p (.bin .eql (.t 5) (.t 7))⟩,
    ⟨(some 9), none, .p (.mv (.t 8))⟩,
    ⟨(some 10), (some (9, true)), .p (.faddr 1 (.t 2))⟩,
    ⟨(some 11), (some (9, true)), .p (.ld1 (.t 10))⟩,
    ⟨(some 12), (some (9, true)), .p (.faddr 1 (.t 1))⟩,
    ⟨(some 13), (some (9, true)), .p (.ld1 (.t 12))⟩,
    ⟨(some 14), (some (9, true)), .p (.bin .eql (.t 11) (.t 13))⟩,
    ⟨(some 15), none, .p (.pick (.t 9) (.t 14) (.c (.bool false)))⟩,
    ⟨(some 3), none, .p (.mv (.t 15))⟩])
  .ret))⟩
theorem c31 : compF Tryd.prog ⟨fun s => [].contains s, fun _ => []⟩ Tryd.f31 = some a31 := by kernel_rfl

/- airline/airlineref01.Decimal -/
def a32 : AFun := ⟨15, [.tmp 2], (.seq (.reg [⟨(some 2), none, .p (.mv (.c (.str [])))⟩])
  (.seq (.seq (.reg [⟨(some 3), none, .p (.mv (.t 0))⟩,
    ⟨(some 4), none, .p (.bin .lss (.t 3) (.c (.int .i64 0)))⟩])
  (.cond (.t 4) (.seq (.reg [⟨(some 5), none, .p (.mv (.t 0))⟩,
    ⟨(some 6), none, .p (.bin .add (.t 5) (.c (.int .i64 1)))⟩,
    ⟨(some 7), none, .p (.neg (.t 6))⟩,
    ⟨(some 8), none, .p (.conv .u64 (.t 7))⟩,
    ⟨(some 9), none, .p (.bin .add (.t 8) (.c (.int .u64 1)))⟩,
    ⟨(some 10), none, .call 40 [(.t 9)]⟩,
    ⟨(some 11), none, .p (.bin .add (.c (.str [45])) (.t 10))⟩,
    ⟨(some 2), none, .p (.mv (.t 11))⟩])
  .ret) .skip))
  (.seq (.reg [⟨(some 12), none, .p (.mv (.t 0))⟩,
    ⟨(some 13), none, .p (.conv .u64 (.t 12))⟩,
    ⟨(some 14), none, .call 40 [(.t 13)]⟩,
    ⟨(some 2), none, .p (.mv (.t 14))⟩])
  .ret)))⟩
theorem c32 : compF Tryd.prog ⟨fun s => [].contains s, fun _ => []⟩ Tryd.f32 = some a32 := by kernel_rfl

/- airline/airlineref01.Class -/
def a33 : AFun := ⟨5, [.tmp 2], (.seq (.reg [⟨(some 2), none, .p (.mv (.c (.bool false)))⟩])
  (.seq (.reg [⟨(some 3), none, .p (.mv (.t 0))⟩,
    ⟨(some 4), none, .call 41 [(.t 3), (.c (.int .i64 1))]⟩,
    ⟨(some 2), none, .p (.mv (.t 4))⟩])
  .ret))⟩
theorem c33 : compF Tryd.prog ⟨fun s => [].contains s, fun _ => []⟩ Tryd.f33 = some a33 := by kernel_rfl

/- airline/airlineref47.most -/
def a34 : AFun := ⟨59, [.tmp 8], (.seq (.reg [⟨(some 8), none, .p (.mv (.c (.int .i64 0)))⟩])
  (.seq (.seq (.reg [⟨(some 11), none, .p (.mv (.t 2))⟩,
    ⟨(some 12), none, .p (.mv (.t 1))⟩,
    ⟨(some 13), none, .p (.lenA (.t 12))⟩,
    ⟨(some 14), none, .p (.bin .eql (.t 11) (.t 13))⟩])
  (.cond (.t 14) (.seq (.reg [⟨(some 8), none, .p (.mv (.c (.int .i64 0)))⟩])
  .ret) .skip))
  (.seq (.reg [⟨(some 15), none, .p (.mv (.t 0))⟩,
    ⟨(some 16), none, .p (.mv (.t 1))⟩,
    ⟨(some 17), none, .p (.mv (.t 2))⟩,
    ⟨(some 18), none, .p (.bin .add (.t 17) (.c (.int .i64 1)))⟩,
    ⟨(some 19), none, .p (.mv (.t 3))⟩,
    ⟨(some 20), none, .call 34 [(.t 15), (.t 16), (.t 18), (.t 19)]⟩,
    ⟨(some 9), none, .p (.mv (.t 20))⟩])
  (.seq (.seq (.reg [⟨(some 10), none, .p (.mv (.c (.int .i64 0)))⟩])
  (.block 0 (.loop (.seq (.seq (.reg [⟨(some 21), none, .p (.mv (.t 10))⟩,
    ⟨(some 22), none, .p (.mv (.t 0))⟩,
    ⟨(some 23), none, .p (.lenA (.t 22))⟩,
    ⟨(some 24), none, .p (.bin .lss (.t 21) (.t 23))⟩])
  (.cond (.t 24) .skip (.exit 0)))
  (.seq (.block 1 (.seq (.oreg [(.quiet, ⟨(some 27), none, .p (.mv (.t 3))⟩),
    (.quiet, ⟨(some 28), none, .p (.mv (.t 10))⟩),
    (.quiet, ⟨(some 29), none, .p (.idxA 1 (.t 27) (.t 28))⟩),
    (.quiet, ⟨(some 30), none, .p (.ld1 (.t 29))⟩),
    (.quiet, ⟨(some 31), none, .p (.not (.t 30))⟩),
    (.quiet, ⟨(some 32), none, .p (.mv (.t 31))⟩),
    (.quiet, ⟨(some 33), (some (32, true)), .p (.mv (.t 0))⟩),
    (.quiet, ⟨(some 34), (some (32, true)), .p (.mv (.t 10))⟩),
    (.quiet, ⟨(some 35), (some (32, true)), .p (.idxA 3 (.t 33) (.t 34))⟩),
    (.quiet, ⟨(some 36), (some (32, true)), .p (.ldn 3 (.t 35))⟩),
    (.quiet, ⟨(some 37), (some (32, true)), .p (.mv (.t 1))⟩),
    (.quiet, ⟨(some 38), (some (32, true)), .p (.mv (.t 2))⟩),
    (.quiet, ⟨(some 39), (some (32, true)), .p (.idxA 4 (.t 37) (.t 38))⟩),
    (.quiet, ⟨(some 40), (some (32, true)), .p (.ldn 4 (.t 39))⟩),
    (.loud, ⟨(some 41), (some (32, true)), .call 21 [(.t 36), (.t 40)]⟩),
    (.quiet, ⟨(some 42), none, .p (.pick (.t 32) (.t 41) (.c (.bool false)))⟩)])
  (.cond (.t 42) (.seq (.reg [⟨(some 43), none, .p (.mv (.t 3))⟩,
    ⟨(some 44), none, .p (.mv (.t 10))⟩,
    ⟨(some 45), none, .p (.idxA 1 (.t 43) (.t 44))⟩,
    ⟨none, none, .st 1 (.t 45) (.c (.bool true))⟩])
  (.seq (.reg [⟨(some 46), none, .p (.mv (.t 9))⟩,
    ⟨(some 47), none, .p (.mv (.t 0))⟩,
    ⟨(some 48), none, .p (.mv (.t 1))⟩,
    ⟨(some 49), none, .p (.mv (.t 2))⟩,
    ⟨(some 50), none, .p (.bin .add (.t 49) (.c (.int .i64 1)))⟩,
    ⟨(some 51), none, .p (.mv (.t 3))⟩,
    ⟨(some 52), none, .call 34 [(.t 47), (.t 48), (.t 50), (.t 51)]⟩,
    ⟨(some 53), none, .p (.bin .add (.c (.int .i64 1)) (.t 52))⟩,
    ⟨(some 54), none, .p (.minmax false (.t 46) (.t 53))⟩,
    ⟨(some 9), none, .p (.mv (.t 54))⟩])
  (.reg [⟨(some 55), none, .p (.mv (.t 3))⟩,
    ⟨(some 56), none, .p (.mv (.t 10))⟩,
    ⟨(some 57), none, .p (.idxA 1 (.t 55) (.t 56))⟩,
    ⟨none, none, .st 1 (.t 57) (.c (.bool false))⟩]))) .skip)))
  (.reg [⟨(some 25), none, .p (.mv (.t 10))⟩,
    ⟨(some 26), none, .p (.bin .add (.t 25) (.c (.int .i64 1)))⟩,
    ⟨(some 10), none, .p (.mv (.t 26))⟩]))))))
  (.seq (.reg [⟨(some 58), none, .p (.mv (.t 9))⟩,
    ⟨(some 8), none, .p (.mv (.t 58))⟩])
  .ret)))))⟩
theorem c34 : compF Tryd.prog ⟨fun s => [].contains s, fun r => match r with | 7 => [(0, .quiet), (1, .quiet), (2, .quiet), (3, .quiet), (4, .quiet), (5, .quiet), (6, .quiet), (7, .quiet), (8, .quiet), (9, .quiet), (10, .quiet), (11, .quiet), (12, .quiet), (13, .quiet), (14, .loud), (15, .quiet)] | _ => []⟩ Tryd.f34 = some a34 := by kernel_rfl

/- slices.Contains[[]int,int] -/
def a35 : AFun := ⟨9, [.tmp 4], (.seq (.reg [⟨(some 4), none, .p (.mv (.c (.bool false)))⟩])
  (.seq (.reg [⟨(some 5), none, .p (.mv (.t 0))⟩,
    ⟨(some 6), none, .p (.mv (.t 1))⟩,
    ⟨(some 7), none, .call 42 [(.t 5), (.t 6)]⟩,
    ⟨(some 8), none, .p (.bin .geq (.t 7) (.c (.int .i64 0)))⟩,
    ⟨(some 4), none, .p (.mv (.t 8))⟩])
  .ret))⟩
theorem c35 : compF Tryd.prog ⟨fun s => [].contains s, fun _ => []⟩ Tryd.f35 = some a35 := by kernel_rfl

/- slices.stableCmpFunc[int] -/
def a36 : AFun := ⟨63, [], (.seq (.reg [⟨(some 6), none, .p (.mv (.c (.int .i64 20)))⟩])
  (.seq (.reg [⟨(some 10), none, .p (.mv (.t 6))⟩,
    ⟨(some 7), none, .p (.mv (.c (.int .i64 0)))⟩,
    ⟨(some 8), none, .p (.mv (.t 10))⟩])
  (.seq (.block 0 (.loop (.seq (.seq (.reg [⟨(some 11), none, .p (.mv (.t 8))⟩,
    ⟨(some 12), none, .p (.mv (.t 1))⟩,
    ⟨(some 13), none, .p (.bin .leq (.t 11) (.t 12))⟩])
  (.cond (.t 13) .skip (.exit 0)))
  (.block 1 (.seq (.reg [⟨(some 14), none, .p (.mv (.t 0))⟩,
    ⟨(some 15), none, .p (.mv (.t 7))⟩,
    ⟨(some 16), none, .p (.mv (.t 8))⟩,
    ⟨(some 17), none, .p (.mv (.t 2))⟩,
    ⟨(some 18), none, .call 43 [(.t 14), (.t 15), (.t 16), (.t 17)]⟩])
  (.seq (.reg [⟨(some 19), none, .p (.mv (.t 8))⟩,
    ⟨(some 7), none, .p (.mv (.t 19))⟩])
  (.reg [⟨(some 20), none, .p (.mv (.t 8))⟩,
    ⟨(some 21), none, .p (.mv (.t 6))⟩,
    ⟨(some 22), none, .p (.bin .add (.t 20) (.t 21))⟩,
    ⟨(some 8), none, .p (.mv (.t 22))⟩])))))))
  (.seq (.reg [⟨(some 23), none, .p (.mv (.t 0))⟩,
    ⟨(some 24), none, .p (.mv (.t 7))⟩,
    ⟨(some 25), none, .p (.mv (.t 1))⟩,
    ⟨(some 26), none, .p (.mv (.t 2))⟩,
    ⟨(some 27), none, .call 43 [(.t 23), (.t 24), (.t 25), (.t 26)]⟩])
  (.block 2 (.loop (.seq (.seq (.reg [⟨(some 28), none, .p (.mv (.t 6))⟩,
    ⟨(some 29), none, .p (.mv (.t 1))⟩,
    ⟨(some 30), none, .p (.bin .lss (.t 28) (.t 29))⟩])
  (.cond (.t 30) .skip (.exit 2)))
  (.block 3 (.seq (.reg [⟨(some 31), none, .p (.mv (.t 6))⟩,
    ⟨(some 32), none, .p (.bin .mul (.c (.int .i64 2)) (.t 31))⟩,
    ⟨(some 7), none, .p (.mv (.c (.int .i64 0)))⟩,
    ⟨(some 8), none, .p (.mv (.t 32))⟩])
  (.seq (.block 4 (.loop (.seq (.seq (.reg [⟨(some 33), none, .p (.mv (.t 8))⟩,
    ⟨(some 34), none, .p (.mv (.t 1))⟩,
    ⟨(some 35), none, .p (.bin .leq (.t 33) (.t 34))⟩])
  (.cond (.t 35) .skip (.exit 4)))
  (.block 5 (.seq (.reg [⟨(some 36), none, .p (.mv (.t 0))⟩,
    ⟨(some 37), none, .p (.mv (.t 7))⟩,
    ⟨(some 38), none, .p (.mv (.t 7))⟩,
    ⟨(some 39), none, .p (.mv (.t 6))⟩,
    ⟨(some 40), none, .p (.bin .add (.t 38) (.t 39))⟩,
    ⟨(some 41), none, .p (.mv (.t 8))⟩,
    ⟨(some 42), none, .p (.mv (.t 2))⟩,
    ⟨(some 43), none, .call 44 [(.t 36), (.t 37), (.t 40), (.t 41), (.t 42)]⟩])
  (.seq (.reg [⟨(some 44), none, .p (.mv (.t 8))⟩,
    ⟨(some 7), none, .p (.mv (.t 44))⟩])
  (.reg [⟨(some 45), none, .p (.mv (.t 8))⟩,
    ⟨(some 46), none, .p (.mv (.t 6))⟩,
    ⟨(some 47), none, .p (.bin .mul (.c (.int .i64 2)) (.t 46))⟩,
    ⟨(some 48), none, .p (.bin .add (.t 45) (.t 47))⟩,
    ⟨(some 8), none, .p (.mv (.t 48))⟩])))))))
  (.seq (.seq (.reg [⟨(some 49), none, .p (.mv (.t 7))⟩,
    ⟨(some 50), none, .p (.mv (.t 6))⟩,
    ⟨(some 51), none, .p (.bin .add (.t 49) (.t 50))⟩,
    ⟨(some 9), none, .p (.mv (.t 51))⟩])
  (.seq (.reg [⟨(some 52), none, .p (.mv (.t 9))⟩,
    ⟨(some 53), none, .p (.mv (.t 1))⟩,
    ⟨(some 54), none, .p (.bin .lss (.t 52) (.t 53))⟩])
  (.cond (.t 54) (.reg [⟨(some 55), none, .p (.mv (.t 0))⟩,
    ⟨(some 56), none, .p (.mv (.t 7))⟩,
    ⟨(some 57), none, .p (.mv (.t 9))⟩,
    ⟨(some 58), none, .p (.mv (.t 1))⟩,
    ⟨(some 59), none, .p (.mv (.t 2))⟩,
    ⟨(some 60), none, .call 44 [(.t 55), (.t 56), (.t 57), (.t 58), (.t 59)]⟩]) .skip)))
  (.reg [⟨(some 61), none, .p (.mv (.t 6))⟩,
    ⟨(some 62), none, .p (.bin .mul (.t 61) (.c (.int .i64 2)))⟩,
    ⟨(some 6), none, .p (.mv (.t 62))⟩]))))))))))))⟩
theorem c36 : compF Tryd.prog ⟨fun s => [].contains s, fun _ => []⟩ Tryd.f36 = some a36 := by kernel_rfl

/- cmp.isNaN[int] -/
def a37 : AFun := ⟨6, [.tmp 2], (.seq (.reg [⟨(some 2), none, .p (.mv (.c (.bool false)))⟩])
  (.seq (.reg [⟨(some 3), none, .p (.mv (.t 0))⟩,
    ⟨(some 4), none, .p (.mv (.t 0))⟩,
    ⟨(some 5), none, .p (.bin .neq (.t 3) (.t 4))⟩,
    ⟨(some 2), none, .p (.mv (.t 5))⟩])
  .ret))⟩
theorem c37 : compF Tryd.prog ⟨fun s => [].contains s, fun _ => []⟩ Tryd.f37 = some a37 := by kernel_rfl

/- internal/strconv.Itoa -/
def a38 : AFun := ⟨5, [.tmp 2], (.seq (.reg [⟨(some 2), none, .p (.mv (.c (.str [])))⟩])
  (.seq (.reg [⟨(some 3), none, .p (.mv (.t 0))⟩,
    ⟨(some 4), none, .call 45 [(.t 3), (.c (.int .i64 10))]⟩,
    ⟨(some 2), none, .p (.mv (.t 4))⟩])
  .ret))⟩
theorem c38 : compF Tryd.prog ⟨fun s => [].contains s, fun _ => []⟩ Tryd.f38 = some a38 := by kernel_rfl

/- slices.IndexFunc[[]airline/api.Seat,airline/api.Seat] -/
def a39 : AFun := ⟨19, [.tmp 4], (.seq (.reg [⟨(some 4), none, .p (.mv (.c (.int .i64 0)))⟩])
  (.seq (.seq (.reg [⟨(some 6), none, .p (.mv (.t 0))⟩,
    ⟨(some 7), none, .p (.lenA (.t 6))⟩,
    ⟨(some 8), none, .p (.mv (.c (.int .i64 0)))⟩])
  (.block 0 (.loop (.seq (.reg [⟨(some 9), none, .p (.bin .lss (.t 8) (.t 7))⟩])
  (.seq (.cond (.t 9) .skip (.exit 0))
  (.seq (.block 1 (.seq (.reg [⟨(some 10), none, .p (.mv (.t 8))⟩,
    ⟨(some 5), none, .p (.mv (.t 10))⟩])
  (.seq (.reg [⟨(some 11), none, .p (.mv (.t 1))⟩,
    ⟨(some 12), none, .p (.mv (.t 0))⟩,
    ⟨(some 13), none, .p (.mv (.t 5))⟩,
    ⟨(some 14), none, .p (.idxA 3 (.t 12) (.t 13))⟩,
    ⟨(some 15), none, .p (.ldn 3 (.t 14))⟩,
    ⟨(some 16), none, .callv (.t 11) [(.t 15)]⟩])
  (.cond (.t 16) (.seq (.reg [⟨(some 17), none, .p (.mv (.t 5))⟩,
    ⟨(some 4), none, .p (.mv (.t 17))⟩])
  .ret) .skip))))
  (.reg [⟨(some 18), none, .p (.bin .add (.t 8) (.c (.int .i64 1)))⟩,
    ⟨(some 8), none, .p (.mv (.t 18))⟩])))))))
  (.seq (.reg [⟨(some 4), none, .p (.mv (.c (.int .i64 (-1))))⟩])
  .ret)))⟩
theorem c39 : compF Tryd.prog ⟨fun s => [].contains s, fun _ => []⟩ Tryd.f39 = some a39 := by kernel_rfl

/- airline/airlineref01.digits -/
def a40 : AFun := ⟨19, [.tmp 2], (.seq (.reg [⟨(some 2), none, .p (.mv (.c (.str [])))⟩])
  (.seq (.seq (.reg [⟨(some 3), none, .p (.mv (.t 0))⟩,
    ⟨(some 4), none, .p (.bin .lss (.t 3) (.c (.int .u64 10)))⟩])
  (.cond (.t 4) (.seq (.reg [⟨(some 5), none, .p (.mv (.t 0))⟩,
    ⟨(some 6), none, .p (.mv (.t 0))⟩,
    ⟨(some 7), none, .p (.bin .add (.t 6) (.c (.int .u64 1)))⟩,
    ⟨(some 8), none, .p (.slS (.c (.str [48, 49, 50, 51, 52, 53, 54, 55, 56, 57])) (some (.t 5)) (some (.t 7)))⟩,
    ⟨(some 2), none, .p (.mv (.t 8))⟩])
  .ret) .skip))
  (.seq (.oreg [(.quiet, ⟨(some 9), none, .p (.mv (.t 0))⟩),
    (.quiet, ⟨(some 10), none, .p (.bin .quo (.t 9) (.c (.int .u64 10)))⟩),
    (.stable, ⟨(some 12), none, .p (.mv (.t 0))⟩),
    (.stable, ⟨(some 13), none, .p (.bin .rem (.t 12) (.c (.int .u64 10)))⟩),
    (.stable, ⟨(some 14), none, .p (.mv (.t 0))⟩),
    (.stable, ⟨(some 15), none, .p (.bin .rem (.t 14) (.c (.int .u64 10)))⟩),
    (.stable, ⟨(some 16), none, .p (.bin .add (.t 15) (.c (.int .u64 1)))⟩),
    (.stable, ⟨(some 17), none, .p (.slS (.c (.str [48, 49, 50, 51, 52, 53, 54, 55, 56, 57])) (some (.t 13)) (some (.t 16)))⟩),
    (.loud, ⟨(some 11), none, .call 40 [(.t 10)]⟩),
    (.quiet, ⟨(some 18), none, .p (.bin .add (.t 11) (.t 17))⟩),
    (.quiet, ⟨(some 2), none, .p (.mv (.t 18))⟩)])
  .ret)))⟩
theorem c40 : compF Tryd.prog ⟨fun s => [].contains s, fun r => match r with | 3 => [(0, .quiet), (1, .quiet), (3, .stable), (4, .stable), (5, .stable), (6, .stable), (7, .stable), (8, .stable), (2, .loud), (9, .quiet), (10, .quiet)] | _ => []⟩ Tryd.f40 = some a40 := by kernel_rfl

/- airline/airlineref01.letters -/
def a41 : AFun := ⟨21, [.tmp 4], (.seq (.reg [⟨(some 4), none, .p (.mv (.c (.bool false)))⟩])
  (.seq (.seq (.reg [⟨(some 5), none, .p (.mv (.c (.int .i64 0)))⟩])
  (.block 0 (.loop (.seq (.seq (.reg [⟨(some 6), none, .p (.mv (.t 5))⟩,
    ⟨(some 7), none, .p (.mv (.t 0))⟩,
    ⟨(some 8), none, .p (.lenS (.t 7))⟩,
    ⟨(some 9), none, .p (.bin .lss (.t 6) (.t 8))⟩])
  (.cond (.t 9) .skip (.exit 0)))
  (.seq (.block 1 (.seq (.reg [⟨(some 12), none, .p (.mv (.t 0))⟩,
    ⟨(some 13), none, .p (.mv (.t 5))⟩,
    ⟨(some 14), none, .p (.idxS (.t 12) (.t 13))⟩,
    ⟨(some 15), none, .call 46 [(.t 14)]⟩,
    ⟨(some 16), none, .p (.not (.t 15))⟩])
  (.cond (.t 16) (.seq (.reg [⟨(some 4), none, .p (.mv (.c (.bool false)))⟩])
  .ret) .skip)))
  (.reg [⟨(some 10), none, .p (.mv (.t 5))⟩,
    ⟨(some 11), none, .p (.bin .add (.t 10) (.c (.int .i64 1)))⟩,
    ⟨(some 5), none, .p (.mv (.t 11))⟩]))))))
  (.seq (.reg [⟨(some 17), none, .p (.mv (.t 0))⟩,
    ⟨(some 18), none, .p (.lenS (.t 17))⟩,
    ⟨(some 19), none, .p (.mv (.t 1))⟩,
    ⟨(some 20), none, .p (.bin .eql (.t 18) (.t 19))⟩,
    ⟨(some 4), none, .p (.mv (.t 20))⟩])
  .ret)))⟩
theorem c41 : compF Tryd.prog ⟨fun s => [].contains s, fun _ => []⟩ Tryd.f41 = some a41 := by kernel_rfl

/- slices.Index[[]int,int] -/
def a42 : AFun := ⟨19, [.tmp 4], (.seq (.reg [⟨(some 4), none, .p (.mv (.c (.int .i64 0)))⟩])
  (.seq (.seq (.reg [⟨(some 6), none, .p (.mv (.t 0))⟩,
    ⟨(some 7), none, .p (.lenA (.t 6))⟩,
    ⟨(some 8), none, .p (.mv (.c (.int .i64 0)))⟩])
  (.block 0 (.loop (.seq (.reg [⟨(some 9), none, .p (.bin .lss (.t 8) (.t 7))⟩])
  (.seq (.cond (.t 9) .skip (.exit 0))
  (.seq (.block 1 (.seq (.reg [⟨(some 10), none, .p (.mv (.t 8))⟩,
    ⟨(some 5), none, .p (.mv (.t 10))⟩])
  (.seq (.reg [⟨(some 11), none, .p (.mv (.t 1))⟩,
    ⟨(some 12), none, .p (.mv (.t 0))⟩,
    ⟨(some 13), none, .p (.mv (.t 5))⟩,
    ⟨(some 14), none, .p (.idxA 1 (.t 12) (.t 13))⟩,
    ⟨(some 15), none, .p (.ld1 (.t 14))⟩,
    ⟨(some 16), none, .p (.bin .eql (.t 11) (.t 15))⟩])
  (.cond (.t 16) (.seq (.reg [⟨(some 17), none, .p (.mv (.t 5))⟩,
    ⟨(some 4), none, .p (.mv (.t 17))⟩])
  .ret) .skip))))
  (.reg [⟨(some 18), none, .p (.bin .add (.t 8) (.c (.int .i64 1)))⟩,
    ⟨(some 8), none, .p (.mv (.t 18))⟩])))))))
  (.seq (.reg [⟨(some 4), none, .p (.mv (.c (.int .i64 (-1))))⟩])
  .ret)))⟩
theorem c42 : compF Tryd.prog ⟨fun s => [].contains s, fun _ => []⟩ Tryd.f42 = some a42 := by kernel_rfl

/- slices.insertionSortCmpFunc[int] -/
def a43 : AFun := ⟨53, [], (.seq (.reg [⟨(some 10), none, .p (.mv (.t 1))⟩,
    ⟨(some 11), none, .p (.bin .add (.t 10) (.c (.int .i64 1)))⟩,
    ⟨(some 8), none, .p (.mv (.t 11))⟩])
  (.block 0 (.loop (.seq (.seq (.reg [⟨(some 12), none, .p (.mv (.t 8))⟩,
    ⟨(some 13), none, .p (.mv (.t 2))⟩,
    ⟨(some 14), none, .p (.bin .lss (.t 12) (.t 13))⟩])
  (.cond (.t 14) .skip (.exit 0)))
  (.seq (.block 1 (.seq (.reg [⟨(some 17), none, .p (.mv (.t 8))⟩,
    ⟨(some 9), none, .p (.mv (.t 17))⟩])
  (.block 2 (.loop (.seq (.seq (.oreg [(.quiet, ⟨(some 18), none, .p (.mv (.t 9))⟩),
    (.quiet, ⟨(some 19), none, .p (.mv (.t 1))⟩),
    (.quiet, ⟨(some 20), none, .p (.bin .gtr (.t 18) (.t 19))⟩),
    (.quiet, ⟨(some 21), none, .p (.mv (.t 20))⟩),
    (.quiet, ⟨(some 22), (some (21, true)), .p (.mv (.t 3))⟩),
    (.quiet, ⟨(some 23), (some (21, true)), .p (.mv (.t 0))⟩),
    (.quiet, ⟨(some 24), (some (21, true)), .p (.mv (.t 9))⟩),
    (.quiet, ⟨(some 25), (some (21, true)), .p (.idxA 1 (.t 23) (.t 24))⟩),
    (.quiet, ⟨(some 26), (some (21, true)), .p (.ld1 (.t 25))⟩),
    (.quiet, ⟨(some 27), (some (21, true)), .p (.mv (.t 0))⟩),
    (.quiet, ⟨(some 28), (some (21, true)), .p (.mv (.t 9))⟩),
    (.quiet, ⟨(some 29), (some (21, true)), .p (.bin .sub (.t 28) (.c (.int .i64 1)))⟩),
    (.quiet, ⟨(some 30), (some (21, true)), .p (.idxA 1 (.t 27) (.t 29))⟩),
    (.quiet, ⟨(some 31), (some (21, true)), .p (.ld1 (.t 30))⟩),
    (.loud, ⟨(some 32), (some (21, true)), .callv (.t 22) [(.t 26), (.t 31)]⟩),
    (.quiet, ⟨(some 33), (some (21, true)), .p (.bin .lss (.t 32) (.c (.int .i64 0)))⟩),
    (.quiet, ⟨(some 34), none, .p (.pick (.t 21) (.t 33) (.c (.bool false)))⟩)])
  (.cond (.t 34) .skip (.exit 2)))
  (.seq (.block 3 (.oreg [(.quiet, ⟨(some 37), none, .p (.mv (.t 0))⟩),
    (.quiet, ⟨(some 38), none, .p (.mv (.t 9))⟩),
    (.stable, ⟨(some 39), none, .p (.mv (.t 0))⟩),
    (.stable, ⟨(some 40), none, .p (.mv (.t 9))⟩),
    (.stable, ⟨(some 41), none, .p (.bin .sub (.t 40) (.c (.int .i64 1)))⟩),
    (.quiet, ⟨(some 42), none, .p (.mv (.t 0))⟩),
    (.quiet, ⟨(some 43), none, .p (.mv (.t 9))⟩),
    (.quiet, ⟨(some 44), none, .p (.bin .sub (.t 43) (.c (.int .i64 1)))⟩),
    (.quiet, ⟨(some 45), none, .p (.idxA 1 (.t 42) (.t 44))⟩),
    (.quiet, ⟨(some 46), none, .p (.ld1 (.t 45))⟩),
    (.quiet, ⟨(some 47), none, .p (.mv (.t 0))⟩),
    (.quiet, ⟨(some 48), none, .p (.mv (.t 9))⟩),
    (.quiet, ⟨(some 49), none, .p (.idxA 1 (.t 47) (.t 48))⟩),
    (.quiet, ⟨(some 50), none, .p (.ld1 (.t 49))⟩),
    (.quiet, ⟨(some 51), none, .p (.idxA 1 (.t 37) (.t 38))⟩),
    (.loud, ⟨none, none, .st 1 (.t 51) (.t 46)⟩),
    (.quiet, ⟨(some 52), none, .p (.idxA 1 (.t 39) (.t 41))⟩),
    (.loud, ⟨none, none, .st 1 (.t 52) (.t 50)⟩)]))
  (.reg [⟨(some 35), none, .p (.mv (.t 9))⟩,
    ⟨(some 36), none, .p (.bin .sub (.t 35) (.c (.int .i64 1)))⟩,
    ⟨(some 9), none, .p (.mv (.t 36))⟩])))))))
  (.reg [⟨(some 15), none, .p (.mv (.t 8))⟩,
    ⟨(some 16), none, .p (.bin .add (.t 15) (.c (.int .i64 1)))⟩,
    ⟨(some 8), none, .p (.mv (.t 16))⟩]))))))⟩
theorem c43 : compF Tryd.prog ⟨fun s => [].contains s, fun r => match r with | 4 => [(0, .quiet), (1, .quiet), (2, .quiet), (3, .quiet), (4, .quiet), (5, .quiet), (6, .quiet), (7, .quiet), (8, .quiet), (9, .quiet), (10, .quiet), (11, .quiet), (12, .quiet), (13, .quiet), (14, .loud), (15, .quiet), (16, .quiet)]  | 6 => [(0, .quiet), (1, .quiet), (2, .stable), (3, .stable), (4, .stable), (5, .quiet), (6, .quiet), (7, .quiet), (8, .quiet), (9, .quiet), (10, .quiet), (11, .quiet), (12, .quiet), (13, .quiet), (14, .quiet), (15, .loud), (16, .quiet), (17, .loud)] | _ => []⟩ Tryd.f43 = some a43 := by kernel_rfl

/- slices.symMergeCmpFunc[int] -/
def a44 : AFun := ⟨220, [], (.seq (.seq (.reg [⟨(some 25), none, .p (.mv (.t 2))⟩,
    ⟨(some 26), none, .p (.mv (.t 1))⟩,
    ⟨(some 27), none, .p (.bin .sub (.t 25) (.t 26))⟩,
    ⟨(some 28), none, .p (.bin .eql (.t 27) (.c (.int .i64 1)))⟩])
  (.cond (.t 28) (.seq (.reg [⟨(some 29), none, .p (.mv (.t 2))⟩,
    ⟨(some 10), none, .p (.mv (.t 29))⟩])
  (.seq (.reg [⟨(some 30), none, .p (.mv (.t 3))⟩,
    ⟨(some 11), none, .p (.mv (.t 30))⟩])
  (.seq (.block 0 (.loop (.seq (.seq (.reg [⟨(some 31), none, .p (.mv (.t 10))⟩,
    ⟨(some 32), none, .p (.mv (.t 11))⟩,
    ⟨(some 33), none, .p (.bin .lss (.t 31) (.t 32))⟩])
  (.cond (.t 33) .skip (.exit 0)))
  (.block 1 (.seq (.reg [⟨(some 34), none, .p (.mv (.t 10))⟩,
    ⟨(some 35), none, .p (.mv (.t 11))⟩,
    ⟨(some 36), none, .p (.bin .add (.t 34) (.t 35))⟩,
    ⟨(some 37), none, .p (.conv .u64 (.t 36))⟩,
    ⟨(some 38), none, .p (.bin .shr (.t 37) (.c (.int .u64 1)))⟩,
    ⟨(some 39), none, .p (.conv .i64 (.t 38))⟩,
    ⟨(some 12), none, .p (.mv (.t 39))⟩])
  (.seq (.oreg [(.quiet, ⟨(some 40), none, .p (.mv (.t 4))⟩),
    (.quiet, ⟨(some 41), none, .p (.mv (.t 0))⟩),
    (.quiet, ⟨(some 42), none, .p (.mv (.t 12))⟩),
    (.quiet, ⟨(some 43), none, .p (.idxA 1 (.t 41) (.t 42))⟩),
    (.quiet, ⟨(some 44), none, .p (.ld1 (.t 43))⟩),
    (.quiet, ⟨(some 45), none, .p (.mv (.t 0))⟩),
    (.quiet, ⟨(some 46), none, .p (.mv (.t 1))⟩),
    (.quiet, ⟨(some 47), none, .p (.idxA 1 (.t 45) (.t 46))⟩),
    (.quiet, ⟨(some 48), none, .p (.ld1 (.t 47))⟩),
    (.loud, ⟨(some 49), none, .callv (.t 40) [(.t 44), (.t 48)]⟩),
    (.quiet, ⟨(some 50), none, .p (.bin .lss (.t 49) (.c (.int .i64 0)))⟩)])
  (.cond (.t 50) (.reg [⟨(some 51), none, .p (.mv (.t 12))⟩,
    ⟨(some 52), none, .p (.bin .add (.t 51) (.c (.int .i64 1)))⟩,
    ⟨(some 10), none, .p (.mv (.t 52))⟩]) (.reg [⟨(some 53), none, .p (.mv (.t 12))⟩,
    ⟨(some 11), none, .p (.mv (.t 53))⟩]))))))))
  (.seq (.seq (.reg [⟨(some 54), none, .p (.mv (.t 1))⟩,
    ⟨(some 13), none, .p (.mv (.t 54))⟩])
  (.block 2 (.loop (.seq (.seq (.reg [⟨(some 55), none, .p (.mv (.t 13))⟩,
    ⟨(some 56), none, .p (.mv (.t 10))⟩,
    ⟨(some 57), none, .p (.bin .sub (.t 56) (.c (.int .i64 1)))⟩,
    ⟨(some 58), none, .p (.bin .lss (.t 55) (.t 57))⟩])
  (.cond (.t 58) .skip (.exit 2)))
  (.seq (.block 3 (.oreg [(.quiet, ⟨(some 61), none, .p (.mv (.t 0))⟩),
    (.quiet, ⟨(some 62), none, .p (.mv (.t 13))⟩),
    (.stable, ⟨(some 63), none, .p (.mv (.t 0))⟩),
    (.stable, ⟨(some 64), none, .p (.mv (.t 13))⟩),
    (.stable, ⟨(some 65), none, .p (.bin .add (.t 64) (.c (.int .i64 1)))⟩),
    (.quiet, ⟨(some 66), none, .p (.mv (.t 0))⟩),
    (.quiet, ⟨(some 67), none, .p (.mv (.t 13))⟩),
    (.quiet, ⟨(some 68), none, .p (.bin .add (.t 67) (.c (.int .i64 1)))⟩),
    (.quiet, ⟨(some 69), none, .p (.idxA 1 (.t 66) (.t 68))⟩),
    (.quiet, ⟨(some 70), none, .p (.ld1 (.t 69))⟩),
    (.quiet, ⟨(some 71), none, .p (.mv (.t 0))⟩),
    (.quiet, ⟨(some 72), none, .p (.mv (.t 13))⟩),
    (.quiet, ⟨(some 73), none, .p (.idxA 1 (.t 71) (.t 72))⟩),
    (.quiet, ⟨(some 74), none, .p (.ld1 (.t 73))⟩),
    (.quiet, ⟨(some 75), none, .p (.idxA 1 (.t 61) (.t 62))⟩),
    (.loud, ⟨none, none, .st 1 (.t 75) (.t 70)⟩),
    (.quiet, ⟨(some 76), none, .p (.idxA 1 (.t 63) (.t 65))⟩),
    (.loud, ⟨none, none, .st 1 (.t 76) (.t 74)⟩)]))
  (.reg [⟨(some 59), none, .p (.mv (.t 13))⟩,
    ⟨(some 60), none, .p (.bin .add (.t 59) (.c (.int .i64 1)))⟩,
    ⟨(some 13), none, .p (.mv (.t 60))⟩]))))))
  .ret)))) .skip))
  (.seq (.seq (.reg [⟨(some 77), none, .p (.mv (.t 3))⟩,
    ⟨(some 78), none, .p (.mv (.t 2))⟩,
    ⟨(some 79), none, .p (.bin .sub (.t 77) (.t 78))⟩,
    ⟨(some 80), none, .p (.bin .eql (.t 79) (.c (.int .i64 1)))⟩])
  (.cond (.t 80) (.seq (.reg [⟨(some 81), none, .p (.mv (.t 1))⟩,
    ⟨(some 14), none, .p (.mv (.t 81))⟩])
  (.seq (.reg [⟨(some 82), none, .p (.mv (.t 2))⟩,
    ⟨(some 15), none, .p (.mv (.t 82))⟩])
  (.seq (.block 4 (.loop (.seq (.seq (.reg [⟨(some 83), none, .p (.mv (.t 14))⟩,
    ⟨(some 84), none, .p (.mv (.t 15))⟩,
    ⟨(some 85), none, .p (.bin .lss (.t 83) (.t 84))⟩])
  (.cond (.t 85) .skip (.exit 4)))
  (.block 5 (.seq (.reg [⟨(some 86), none, .p (.mv (.t 14))⟩,
    ⟨(some 87), none, .p (.mv (.t 15))⟩,
    ⟨(some 88), none, .p (.bin .add (.t 86) (.t 87))⟩,
    ⟨(some 89), none, .p (.conv .u64 (.t 88))⟩,
    ⟨(some 90), none, .p (.bin .shr (.t 89) (.c (.int .u64 1)))⟩,
    ⟨(some 91), none, .p (.conv .i64 (.t 90))⟩,
    ⟨(some 16), none, .p (.mv (.t 91))⟩])
  (.seq (.oreg [(.quiet, ⟨(some 92), none, .p (.mv (.t 4))⟩),
    (.quiet, ⟨(some 93), none, .p (.mv (.t 0))⟩),
    (.quiet, ⟨(some 94), none, .p (.mv (.t 2))⟩),
    (.quiet, ⟨(some 95), none, .p (.idxA 1 (.t 93) (.t 94))⟩),
    (.quiet, ⟨(some 96), none, .p (.ld1 (.t 95))⟩),
    (.quiet, ⟨(some 97), none, .p (.mv (.t 0))⟩),
    (.quiet, ⟨(some 98), none, .p (.mv (.t 16))⟩),
    (.quiet, ⟨(some 99), none, .p (.idxA 1 (.t 97) (.t 98))⟩),
    (.quiet, ⟨(some 100), none, .p (.ld1 (.t 99))⟩),
    (.loud, ⟨(some 101), none, .callv (.t 92) [(.t 96), (.t 100)]⟩),
    (.quiet, ⟨(some 102), none, .p (.bin .lss (.t 101) (.c (.int .i64 0)))⟩),
    (.quiet, ⟨(some 103), none, .p (.not (.t 102))⟩)])
  (.cond (.t 103) (.reg [⟨(some 104), none, .p (.mv (.t 16))⟩,
    ⟨(some 105), none, .p (.bin .add (.t 104) (.c (.int .i64 1)))⟩,
    ⟨(some 14), none, .p (.mv (.t 105))⟩]) (.reg [⟨(some 106), none, .p (.mv (.t 16))⟩,
    ⟨(some 15), none, .p (.mv (.t 106))⟩]))))))))
  (.seq (.seq (.reg [⟨(some 107), none, .p (.mv (.t 2))⟩,
    ⟨(some 17), none, .p (.mv (.t 107))⟩])
  (.block 6 (.loop (.seq (.seq (.reg [⟨(some 108), none, .p (.mv (.t 17))⟩,
    ⟨(some 109), none, .p (.mv (.t 14))⟩,
    ⟨(some 110), none, .p (.bin .gtr (.t 108) (.t 109))⟩])
  (.cond (.t 110) .skip (.exit 6)))
  (.seq (.block 7 (.oreg [(.quiet, ⟨(some 113), none, .p (.mv (.t 0))⟩),
    (.quiet, ⟨(some 114), none, .p (.mv (.t 17))⟩),
    (.stable, ⟨(some 115), none, .p (.mv (.t 0))⟩),
    (.stable, ⟨(some 116), none, .p (.mv (.t 17))⟩),
    (.stable, ⟨(some 117), none, .p (.bin .sub (.t 116) (.c (.int .i64 1)))⟩),
    (.quiet, ⟨(some 118), none, .p (.mv (.t 0))⟩),
    (.quiet, ⟨(some 119), none, .p (.mv (.t 17))⟩),
    (.quiet, ⟨(some 120), none, .p (.bin .sub (.t 119) (.c (.int .i64 1)))⟩),
    (.quiet, ⟨(some 121), none, .p (.idxA 1 (.t 118) (.t 120))⟩),
    (.quiet, ⟨(some 122), none, .p (.ld1 (.t 121))⟩),
    (.quiet, ⟨(some 123), none, .p (.mv (.t 0))⟩),
    (.quiet, ⟨(some 124), none, .p (.mv (.t 17))⟩),
    (.quiet, ⟨(some 125), none, .p (.idxA 1 (.t 123) (.t 124))⟩),
    (.quiet, ⟨(some 126), none, .p (.ld1 (.t 125))⟩),
    (.quiet, ⟨(some 127), none, .p (.idxA 1 (.t 113) (.t 114))⟩),
    (.loud, ⟨none, none, .st 1 (.t 127) (.t 122)⟩),
    (.quiet, ⟨(some 128), none, .p (.idxA 1 (.t 115) (.t 117))⟩),
    (.loud, ⟨none, none, .st 1 (.t 128) (.t 126)⟩)]))
  (.reg [⟨(some 111), none, .p (.mv (.t 17))⟩,
    ⟨(some 112), none, .p (.bin .sub (.t 111) (.c (.int .i64 1)))⟩,
    ⟨(some 17), none, .p (.mv (.t 112))⟩]))))))
  .ret)))) .skip))
  (.seq (.reg [⟨(some 129), none, .p (.mv (.t 1))⟩,
    ⟨(some 130), none, .p (.mv (.t 3))⟩,
    ⟨(some 131), none, .p (.bin .add (.t 129) (.t 130))⟩,
    ⟨(some 132), none, .p (.conv .u64 (.t 131))⟩,
    ⟨(some 133), none, .p (.bin .shr (.t 132) (.c (.int .u64 1)))⟩,
    ⟨(some 134), none, .p (.conv .i64 (.t 133))⟩,
    ⟨(some 18), none, .p (.mv (.t 134))⟩])
  (.seq (.reg [⟨(some 135), none, .p (.mv (.t 18))⟩,
    ⟨(some 136), none, .p (.mv (.t 2))⟩,
    ⟨(some 137), none, .p (.bin .add (.t 135) (.t 136))⟩,
    ⟨(some 19), none, .p (.mv (.t 137))⟩])
  (.seq (.reg [⟨(some 20), none, .p (.mv (.c (.int .i64 0)))⟩,
    ⟨(some 21), none, .p (.mv (.c (.int .i64 0)))⟩])
  (.seq (.seq (.reg [⟨(some 138), none, .p (.mv (.t 2))⟩,
    ⟨(some 139), none, .p (.mv (.t 18))⟩,
    ⟨(some 140), none, .p (.bin .gtr (.t 138) (.t 139))⟩])
  (.cond (.t 140) (.seq (.reg [⟨(some 141), none, .p (.mv (.t 19))⟩,
    ⟨(some 142), none, .p (.mv (.t 3))⟩,
    ⟨(some 143), none, .p (.bin .sub (.t 141) (.t 142))⟩,
    ⟨(some 20), none, .p (.mv (.t 143))⟩])
  (.reg [⟨(some 144), none, .p (.mv (.t 18))⟩,
    ⟨(some 21), none, .p (.mv (.t 144))⟩])) (.seq (.reg [⟨(some 145), none, .p (.mv (.t 1))⟩,
    ⟨(some 20), none, .p (.mv (.t 145))⟩])
  (.reg [⟨(some 146), none, .p (.mv (.t 2))⟩,
    ⟨(some 21), none, .p (.mv (.t 146))⟩]))))
  (.seq (.reg [⟨(some 147), none, .p (.mv (.t 19))⟩,
    ⟨(some 148), none, .p (.bin .sub (.t 147) (.c (.int .i64 1)))⟩,
    ⟨(some 22), none, .p (.mv (.t 148))⟩])
  (.seq (.block 8 (.loop (.seq (.seq (.reg [⟨(some 149), none, .p (.mv (.t 20))⟩,
    ⟨(some 150), none, .p (.mv (.t 21))⟩,
    ⟨(some 151), none, .p (.bin .lss (.t 149) (.t 150))⟩])
  (.cond (.t 151) .skip (.exit 8)))
  (.block 9 (.seq (.reg [⟨(some 152), none, .p (.mv (.t 20))⟩,
    ⟨(some 153), none, .p (.mv (.t 21))⟩,
    ⟨(some 154), none, .p (.bin .add (.t 152) (.t 153))⟩,
    ⟨(some 155), none, .p (.conv .u64 (.t 154))⟩,
    ⟨(some 156), none, .p (.bin .shr (.t 155) (.c (.int .u64 1)))⟩,
    ⟨(some 157), none, .p (.conv .i64 (.t 156))⟩,
    ⟨(some 23), none, .p (.mv (.t 157))⟩])
  (.seq (.oreg [(.quiet, ⟨(some 158), none, .p (.mv (.t 4))⟩),
    (.quiet, ⟨(some 159), none, .p (.mv (.t 0))⟩),
    (.quiet, ⟨(some 160), none, .p (.mv (.t 22))⟩),
    (.quiet, ⟨(some 161), none, .p (.mv (.t 23))⟩),
    (.quiet, ⟨(some 162), none, .p (.bin .sub (.t 160) (.t 161))⟩),
    (.quiet, ⟨(some 163), none, .p (.idxA 1 (.t 159) (.t 162))⟩),
    (.quiet, ⟨(some 164), none, .p (.ld1 (.t 163))⟩),
    (.quiet, ⟨(some 165), none, .p (.mv (.t 0))⟩),
    (.quiet, ⟨(some 166), none, .p (.mv (.t 23))⟩),
    (.quiet, ⟨(some 167), none, .p (.idxA 1 (.t 165) (.t 166))⟩),
    (.quiet, ⟨(some 168), none, .p (.ld1 (.t 167))⟩),
    (.loud, ⟨(some 169), none, .callv (.t 158) [(.t 164), (.t 168)]⟩),
    (.quiet, ⟨(some 170), none, .p (.bin .lss (.t 169) (.c (.int .i64 0)))⟩),
    (.quiet, ⟨(some 171), none, .p (.not (.t 170))⟩)])
  (.cond (.t 171) (.reg [⟨(some 172), none, .p (.mv (.t 23))⟩,
    ⟨(some 173), none, .p (.bin .add (.t 172) (.c (.int .i64 1)))⟩,
    ⟨(some 20), none, .p (.mv (.t 173))⟩]) (.reg [⟨(some 174), none, .p (.mv (.t 23))⟩,
    ⟨(some 21), none, .p (.mv (.t 174))⟩]))))))))
  (.seq (.reg [⟨(some 175), none, .p (.mv (.t 19))⟩,
    ⟨(some 176), none, .p (.mv (.t 20))⟩,
    ⟨(some 177), none, .p (.bin .sub (.t 175) (.t 176))⟩,
    ⟨(some 24), none, .p (.mv (.t 177))⟩])
  (.seq (.seq (.reg [⟨(some 178), none, .p (.mv (.t 20))⟩,
    ⟨(some 179), none, .p (.mv (.t 2))⟩,
    ⟨(some 180), none, .p (.bin .lss (.t 178) (.t 179))⟩,
    ⟨(some 181), none, .p (.mv (.t 180))⟩,
    ⟨(some 182), (some (181, true)), .p (.mv (.t 2))⟩,
    ⟨(some 183), (some (181, true)), .p (.mv (.t 24))⟩,
    ⟨(some 184), (some (181, true)), .p (.bin .lss (.t 182) (.t 183))⟩,
    ⟨(some 185), none, .p (.pick (.t 181) (.t 184) (.c (.bool false)))⟩])
  (.cond (.t 185) (.reg [⟨(some 186), none, .p (.mv (.t 0))⟩,
    ⟨(some 187), none, .p (.mv (.t 20))⟩,
    ⟨(some 188), none, .p (.mv (.t 2))⟩,
    ⟨(some 189), none, .p (.mv (.t 24))⟩,
    ⟨(some 190), none, .p (.mv (.t 4))⟩,
    ⟨(some 191), none, .call 47 [(.t 186), (.t 187), (.t 188), (.t 189), (.t 190)]⟩]) .skip))
  (.seq (.seq (.reg [⟨(some 192), none, .p (.mv (.t 1))⟩,
    ⟨(some 193), none, .p (.mv (.t 20))⟩,
    ⟨(some 194), none, .p (.bin .lss (.t 192) (.t 193))⟩,
    ⟨(some 195), none, .p (.mv (.t 194))⟩,
    ⟨(some 196), (some (195, true)), .p (.mv (.t 20))⟩,
    ⟨(some 197), (some (195, true)), .p (.mv (.t 18))⟩,
    ⟨(some 198), (some (195, true)), .p (.bin .lss (.t 196) (.t 197))⟩,
    ⟨(some 199), none, .p (.pick (.t 195) (.t 198) (.c (.bool false)))⟩])
  (.cond (.t 199) (.reg [⟨(some 200), none, .p (.mv (.t 0))⟩,
    ⟨(some 201), none, .p (.mv (.t 1))⟩,
    ⟨(some 202), none, .p (.mv (.t 20))⟩,
    ⟨(some 203), none, .p (.mv (.t 18))⟩,
    ⟨(some 204), none, .p (.mv (.t 4))⟩,
    ⟨(some 205), none, .call 44 [(.t 200), (.t 201), (.t 202), (.t 203), (.t 204)]⟩]) .skip))
  (.seq (.reg [⟨(some 206), none, .p (.mv (.t 18))⟩,
    ⟨(some 207), none, .p (.mv (.t 24))⟩,
    ⟨(some 208), none, .p (.bin .lss (.t 206) (.t 207))⟩,
    ⟨(some 209), none, .p (.mv (.t 208))⟩,
    ⟨(some 210), (some (209, true)), .p (.mv (.t 24))⟩,
    ⟨(some 211), (some (209, true)), .p (.mv (.t 3))⟩,
    ⟨(some 212), (some (209, true)), .p (.bin .lss (.t 210) (.t 211))⟩,
    ⟨(some 213), none, .p (.pick (.t 209) (.t 212) (.c (.bool false)))⟩])
  (.cond (.t 213) (.reg [⟨(some 214), none, .p (.mv (.t 0))⟩,
    ⟨(some 215), none, .p (.mv (.t 18))⟩,
    ⟨(some 216), none, .p (.mv (.t 24))⟩,
    ⟨(some 217), none, .p (.mv (.t 3))⟩,
    ⟨(some 218), none, .p (.mv (.t 4))⟩,
    ⟨(some 219), none, .call 44 [(.t 214), (.t 215), (.t 216), (.t 217), (.t 218)]⟩]) .skip)))))))))))))⟩
theorem c44 : compF Tryd.prog ⟨fun s => [].contains s, fun r => match r with | 5 => [(0, .quiet), (1, .quiet), (2, .quiet), (3, .quiet), (4, .quiet), (5, .quiet), (6, .quiet), (7, .quiet), (8, .quiet), (9, .loud), (10, .quiet)]  | 11 => [(0, .quiet), (1, .quiet), (2, .stable), (3, .stable), (4, .stable), (5, .quiet), (6, .quiet), (7, .quiet), (8, .quiet), (9, .quiet), (10, .quiet), (11, .quiet), (12, .quiet), (13, .quiet), (14, .quiet), (15, .loud), (16, .quiet), (17, .loud)]  | 17 => [(0, .quiet), (1, .quiet), (2, .quiet), (3, .quiet), (4, .quiet), (5, .quiet), (6, .quiet), (7, .quiet), (8, .quiet), (9, .loud), (10, .quiet), (11, .quiet)]  | 23 => [(0, .quiet), (1, .quiet), (2, .stable), (3, .stable), (4, .stable), (5, .quiet), (6, .quiet), (7, .quiet), (8, .quiet), (9, .quiet), (10, .quiet), (11, .quiet), (12, .quiet), (13, .quiet), (14, .quiet), (15, .loud), (16, .quiet), (17, .loud)]  | 35 => [(0, .quiet), (1, .quiet), (2, .quiet), (3, .quiet), (4, .quiet), (5, .quiet), (6, .quiet), (7, .quiet), (8, .quiet), (9, .quiet), (10, .quiet), (11, .loud), (12, .quiet), (13, .quiet)] | _ => []⟩ Tryd.f44 = some a44 := by kernel_rfl

/- internal/strconv.FormatInt -/
def a45 : AFun := ⟨54, [.tmp 4], (.seq (.reg [⟨(some 4), none, .p (.mv (.c (.str [])))⟩])
  (.seq (.seq (.reg [⟨(some 10), none, .p (.mv (.t 1))⟩,
    ⟨(some 11), none, .p (.bin .eql (.t 10) (.c (.int .i64 10)))⟩])
  (.cond (.t 11) (.seq (.seq (.reg [⟨(some 12), none, .p (.mv (.t 0))⟩,
    ⟨(some 13), none, .p (.bin .leq (.c (.int .i64 0)) (.t 12))⟩,
    ⟨(some 14), none, .p (.mv (.t 13))⟩,
    ⟨(some 15), (some (14, true)), .p (.mv (.t 0))⟩,
    ⟨(some 16), (some (14, true)), .p (.bin .lss (.t 15) (.c (.int .i64 100)))⟩,
    ⟨(some 17), none, .p (.pick (.t 14) (.t 16) (.c (.bool false)))⟩])
  (.cond (.t 17) (.seq (.reg [⟨(some 18), none, .p (.mv (.t 0))⟩,
    ⟨(some 19), none, .call 48 [(.t 18)]⟩,
    ⟨(some 4), none, .p (.mv (.t 19))⟩])
  .ret) .skip))
  (.seq (.reg [⟨(some 5), none, .newO 74 [(.int .u8 0), (.int .u8 0), (.int .u8 0), (.int .u8 0), (.int .u8 0), (.int .u8 0), (.int .u8 0), (.int .u8 0), (.int .u8 0), (.int .u8 0), (.int .u8 0), (.int .u8 0), (.int .u8 0), (.int .u8 0), (.int .u8 0), (.int .u8 0), (.int .u8 0), (.int .u8 0), (.int .u8 0), (.int .u8 0), (.int .u8 0), (.int .u8 0), (.int .u8 0), (.int .u8 0)]⟩])
  (.seq (.reg [⟨(some 20), none, .p (.mv (.t 0))⟩,
    ⟨(some 21), none, .p (.conv .u64 (.t 20))⟩,
    ⟨(some 6), none, .p (.mv (.t 21))⟩])
  (.seq (.seq (.reg [⟨(some 22), none, .p (.mv (.t 0))⟩,
    ⟨(some 23), none, .p (.bin .lss (.t 22) (.c (.int .i64 0)))⟩])
  (.cond (.t 23) (.reg [⟨(some 24), none, .p (.mv (.t 6))⟩,
    ⟨(some 25), none, .p (.neg (.t 24))⟩,
    ⟨(some 6), none, .p (.mv (.t 25))⟩]) .skip))
  (.seq (.reg [⟨(some 26), none, .p (.mv (.t 6))⟩,
    ⟨(some 27), none, .call 49 [(.t 26)]⟩,
    ⟨(some 7), none, .p (.mv (.t 27))⟩])
  (.seq (.reg [⟨(some 28), none, .p (.mv (.t 7))⟩,
    ⟨(some 29), none, .p (.bin .add (.c (.int .i64 1)) (.t 28))⟩,
    ⟨(some 30), none, .p (.xo .stuck [])⟩,
    ⟨(some 31), none, .p (.mv (.t 6))⟩,
    ⟨(some 32), none, .call 50 [(.t 30), (.t 31)]⟩])
  (.seq (.seq (.reg [⟨(some 33), none, .p (.mv (.t 0))⟩,
    ⟨(some 34), none, .p (.bin .lss (.t 33) (.c (.int .i64 0)))⟩])
  (.cond (.t 34) (.seq (.reg [⟨(some 35), none, .p (.idxR 24 1 (.t 5) (.c (.int .i64 0)))⟩,
    ⟨none, none, .st 1 (.t 35) (.c (.int .u8 45))⟩])
  (.seq (.reg [⟨(some 36), none, .p (.mv (.t 7))⟩,
    ⟨(some 37), none, .p (.bin .add (.c (.int .i64 1)) (.t 36))⟩,
    ⟨(some 38), none, .p (.xo .stuck [])⟩,
    ⟨(some 39), none, .p (.b2s (.t 38))⟩,
    ⟨(some 4), none, .p (.mv (.t 39))⟩])
  .ret)) .skip))
  (.seq (.reg [⟨(some 40), none, .p (.mv (.t 7))⟩,
    ⟨(some 41), none, .p (.bin .add (.c (.int .i64 1)) (.t 40))⟩,
    ⟨(some 42), none, .p (.xo .stuck [])⟩,
    ⟨(some 43), none, .p (.b2s (.t 42))⟩,
    ⟨(some 4), none, .p (.mv (.t 43))⟩])
  .ret)))))))) .skip))
  (.seq (.reg [⟨(some 45), none, .p (.mv (.t 0))⟩,
    ⟨(some 46), none, .p (.conv .u64 (.t 45))⟩,
    ⟨(some 47), none, .p (.mv (.t 1))⟩,
    ⟨(some 48), none, .p (.mv (.t 0))⟩,
    ⟨(some 49), none, .p (.bin .lss (.t 48) (.c (.int .i64 0)))⟩,
    ⟨(some 50), none, .call 51 [(.c .nilSl), (.t 46), (.t 47), (.t 49), (.c (.bool false))]⟩,
    ⟨(some 44), none, .p (.mv (.t 50))⟩,
    ⟨(some 51), none, .p (.ext 0 (.t 44))⟩,
    ⟨(some 52), none, .p (.ext 1 (.t 44))⟩,
    ⟨(some 8), none, .p (.mv (.t 51))⟩,
    ⟨(some 9), none, .p (.mv (.t 52))⟩])
  (.seq (.reg [⟨(some 53), none, .p (.mv (.t 9))⟩,
    ⟨(some 4), none, .p (.mv (.t 53))⟩])
  .ret))))⟩
theorem c45 : compF Tryd.prog ⟨fun s => [].contains s, fun _ => []⟩ Tryd.f45 = some a45 := by kernel_rfl

/- airline/airlineref01.upper -/
def a46 : AFun := ⟨9, [.tmp 2], (.seq (.reg [⟨(some 2), none, .p (.mv (.c (.bool false)))⟩])
  (.seq (.reg [⟨(some 3), none, .p (.mv (.t 0))⟩,
    ⟨(some 4), none, .p (.bin .geq (.t 3) (.c (.int .u8 65)))⟩,
    ⟨(some 5), none, .p (.mv (.t 4))⟩,
    ⟨(some 6), (some (5, true)), .p (.mv (.t 0))⟩,
    ⟨(some 7), (some (5, true)), .p (.bin .leq (.t 6) (.c (.int .u8 90)))⟩,
    ⟨(some 8), none, .p (.pick (.t 5) (.t 7) (.c (.bool false)))⟩,
    ⟨(some 2), none, .p (.mv (.t 8))⟩])
  .ret))⟩
theorem c46 : compF Tryd.prog ⟨fun s => [].contains s, fun _ => []⟩ Tryd.f46 = some a46 := by kernel_rfl

/- slices.rotateCmpFunc[int] -/
def a47 : AFun := ⟨58, [], (.seq (.reg [⟨(some 12), none, .p (.mv (.t 2))⟩,
    ⟨(some 13), none, .p (.mv (.t 1))⟩,
    ⟨(some 14), none, .p (.bin .sub (.t 12) (.t 13))⟩,
    ⟨(some 10), none, .p (.mv (.t 14))⟩])
  (.seq (.reg [⟨(some 15), none, .p (.mv (.t 3))⟩,
    ⟨(some 16), none, .p (.mv (.t 2))⟩,
    ⟨(some 17), none, .p (.bin .sub (.t 15) (.t 16))⟩,
    ⟨(some 11), none, .p (.mv (.t 17))⟩])
  (.seq (.block 0 (.loop (.seq (.seq (.reg [⟨(some 18), none, .p (.mv (.t 10))⟩,
    ⟨(some 19), none, .p (.mv (.t 11))⟩,
    ⟨(some 20), none, .p (.bin .neq (.t 18) (.t 19))⟩])
  (.cond (.t 20) .skip (.exit 0)))
  (.block 1 (.seq (.reg [⟨(some 21), none, .p (.mv (.t 10))⟩,
    ⟨(some 22), none, .p (.mv (.t 11))⟩,
    ⟨(some 23), none, .p (.bin .gtr (.t 21) (.t 22))⟩])
  (.cond (.t 23) (.seq (.reg [⟨(some 24), none, .p (.mv (.t 0))⟩,
    ⟨(some 25), none, .p (.mv (.t 2))⟩,
    ⟨(some 26), none, .p (.mv (.t 10))⟩,
    ⟨(some 27), none, .p (.bin .sub (.t 25) (.t 26))⟩,
    ⟨(some 28), none, .p (.mv (.t 2))⟩,
    ⟨(some 29), none, .p (.mv (.t 11))⟩,
    ⟨(some 30), none, .p (.mv (.t 4))⟩,
    ⟨(some 31), none, .call 52 [(.t 24), (.t 27), (.t 28), (.t 29), (.t 30)]⟩])
  (.reg [⟨(some 32), none, .p (.mv (.t 10))⟩,
    ⟨(some 33), none, .p (.mv (.t 11))⟩,
    ⟨(some 34), none, .p (.bin .sub (.t 32) (.t 33))⟩,
    ⟨(some 10), none, .p (.mv (.t 34))⟩])) (.seq (.reg [⟨(some 35), none, .p (.mv (.t 0))⟩,
    ⟨(some 36), none, .p (.mv (.t 2))⟩,
    ⟨(some 37), none, .p (.mv (.t 10))⟩,
    ⟨(some 38), none, .p (.bin .sub (.t 36) (.t 37))⟩,
    ⟨(some 39), none, .p (.mv (.t 2))⟩,
    ⟨(some 40), none, .p (.mv (.t 11))⟩,
    ⟨(some 41), none, .p (.bin .add (.t 39) (.t 40))⟩,
    ⟨(some 42), none, .p (.mv (.t 10))⟩,
    ⟨(some 43), none, .p (.bin .sub (.t 41) (.t 42))⟩,
    ⟨(some 44), none, .p (.mv (.t 10))⟩,
    ⟨(some 45), none, .p (.mv (.t 4))⟩,
    ⟨(some 46), none, .call 52 [(.t 35), (.t 38), (.t 43), (.t 44), (.t 45)]⟩])
  (.reg [⟨(some 47), none, .p (.mv (.t 11))⟩,
    ⟨(some 48), none, .p (.mv (.t 10))⟩,
    ⟨(some 49), none, .p (.bin .sub (.t 47) (.t 48))⟩,
    ⟨(some 11), none, .p (.mv (.t 49))⟩]))))))))
  (.reg [⟨(some 50), none, .p (.mv (.t 0))⟩,
    ⟨(some 51), none, .p (.mv (.t 2))⟩,
    ⟨(some 52), none, .p (.mv (.t 10))⟩,
    ⟨(some 53), none, .p (.bin .sub (.t 51) (.t 52))⟩,
    ⟨(some 54), none, .p (.mv (.t 2))⟩,
    ⟨(some 55), none, .p (.mv (.t 10))⟩,
    ⟨(some 56), none, .p (.mv (.t 4))⟩,
    ⟨(some 57), none, .call 52 [(.t 50), (.t 53), (.t 54), (.t 55), (.t 56)]⟩]))))⟩
theorem c47 : compF Tryd.prog ⟨fun s => [].contains s, fun _ => []⟩ Tryd.f47 = some a47 := by kernel_rfl

/- internal/strconv.small -/
def a48 : AFun := ⟨15, [.tmp 2], (.seq (.reg [⟨(some 2), none, .p (.mv (.c (.str [])))⟩])
  (.seq (.seq (.reg [⟨(some 3), none, .p (.mv (.t 0))⟩,
    ⟨(some 4), none, .p (.bin .lss (.t 3) (.c (.int .i64 10)))⟩])
  (.cond (.t 4) (.seq (.reg [⟨(some 5), none, .p (.mv (.t 0))⟩,
    ⟨(some 6), none, .p (.mv (.t 0))⟩,
    ⟨(some 7), none, .p (.bin .add (.t 6) (.c (.int .i64 1)))⟩,
    ⟨(some 8), none, .p (.slS (.c (.str [48, 49, 50, 51, 52, 53, 54, 55, 56, 57, 97, 98, 99, 100, 101, 102, 103, 104, 105, 106, 107, 108, 109, 110, 111, 112, 113, 114, 115, 116, 117, 118, 119, 120, 121, 122])) (some (.t 5)) (some (.t 7)))⟩,
    ⟨(some 2), none, .p (.mv (.t 8))⟩])
  .ret) .skip))
  (.seq (.reg [⟨(some 9), none, .p (.mv (.t 0))⟩,
    ⟨(some 10), none, .p (.bin .mul (.t 9) (.c (.int .i64 2)))⟩,
    ⟨(some 11), none, .p (.mv (.t 0))⟩,
    ⟨(some 12), none, .p (.bin .mul (.t 11) (.c (.int .i64 2)))⟩,
    ⟨(some 13), none, .p (.bin .add (.t 12) (.c (.int .i64 2)))⟩,
    ⟨(some 14), none, .p (.slS (.c (.str [48, 48, 48, 49, 48, 50, 48, 51, 48, 52, 48, 53, 48, 54, 48, 55, 48, 56, 48, 57, 49, 48, 49, 49, 49, 50, 49, 51, 49, 52, 49, 53, 49, 54, 49, 55, 49, 56, 49, 57, 50, 48, 50, 49, 50, 50, 50, 51, 50, 52, 50, 53, 50, 54, 50, 55, 50, 56, 50, 57, 51, 48, 51, 49, 51, 50, 51, 51, 51, 52, 51, 53, 51, 54, 51, 55, 51, 56, 51, 57, 52, 48, 52, 49, 52, 50, 52, 51, 52, 52, 52, 53, 52, 54, 52, 55, 52, 56, 52, 57, 53, 48, 53, 49, 53, 50, 53, 51, 53, 52, 53, 53, 53, 54, 53, 55, 53, 56, 53, 57, 54, 48, 54, 49, 54, 50, 54, 51, 54, 52, 54, 53, 54, 54, 54, 55, 54, 56, 54, 57, 55, 48, 55, 49, 55, 50, 55, 51, 55, 52, 55, 53, 55, 54, 55, 55, 55, 56, 55, 57, 56, 48, 56, 49, 56, 50, 56, 51, 56, 52, 56, 53, 56, 54, 56, 55, 56, 56, 56, 57, 57, 48, 57, 49, 57, 50, 57, 51, 57, 52, 57, 53, 57, 54, 57, 55, 57, 56, 57, 57])) (some (.t 10)) (some (.t 13)))⟩,
    ⟨(some 2), none, .p (.mv (.t 14))⟩])
  .ret)))⟩
theorem c48 : compF Tryd.prog ⟨fun s => [].contains s, fun _ => []⟩ Tryd.f48 = some a48 := by kernel_rfl

/- slices.swapRangeCmpFunc[int] -/
def a52 : AFun := ⟨38, [], (.seq (.reg [⟨(some 10), none, .p (.mv (.c (.int .i64 0)))⟩])
  (.block 0 (.loop (.seq (.seq (.reg [⟨(some 11), none, .p (.mv (.t 10))⟩,
    ⟨(some 12), none, .p (.mv (.t 3))⟩,
    ⟨(some 13), none, .p (.bin .lss (.t 11) (.t 12))⟩])
  (.cond (.t 13) .skip (.exit 0)))
  (.seq (.block 1 (.oreg [(.quiet, ⟨(some 16), none, .p (.mv (.t 0))⟩),
    (.quiet, ⟨(some 17), none, .p (.mv (.t 1))⟩),
    (.quiet, ⟨(some 18), none, .p (.mv (.t 10))⟩),
    (.quiet, ⟨(some 19), none, .p (.bin .add (.t 17) (.t 18))⟩),
    (.stable, ⟨(some 20), none, .p (.mv (.t 0))⟩),
    (.stable, ⟨(some 21), none, .p (.mv (.t 2))⟩),
    (.stable, ⟨(some 22), none, .p (.mv (.t 10))⟩),
    (.stable, ⟨(some 23), none, .p (.bin .add (.t 21) (.t 22))⟩),
    (.quiet, ⟨(some 24), none, .p (.mv (.t 0))⟩),
    (.quiet, ⟨(some 25), none, .p (.mv (.t 2))⟩),
    (.quiet, ⟨(some 26), none, .p (.mv (.t 10))⟩),
    (.quiet, ⟨(some 27), none, .p (.bin .add (.t 25) (.t 26))⟩),
    (.quiet, ⟨(some 28), none, .p (.idxA 1 (.t 24) (.t 27))⟩),
    (.quiet, ⟨(some 29), none, .p (.ld1 (.t 28))⟩),
    (.quiet, ⟨(some 30), none, .p (.mv (.t 0))⟩),
    (.quiet, ⟨(some 31), none, .p (.mv (.t 1))⟩),
    (.quiet, ⟨(some 32), none, .p (.mv (.t 10))⟩),
    (.quiet, ⟨(some 33), none, .p (.bin .add (.t 31) (.t 32))⟩),
    (.quiet, ⟨(some 34), none, .p (.idxA 1 (.t 30) (.t 33))⟩),
    (.quiet, ⟨(some 35), none, .p (.ld1 (.t 34))⟩),
    (.quiet, ⟨(some 36), none, .p (.idxA 1 (.t 16) (.t 19))⟩),
    (.loud, ⟨none, none, .st 1 (.t 36) (.t 29)⟩),
    (.quiet, ⟨(some 37), none, .p (.idxA 1 (.t 20) (.t 23))⟩),
    (.loud, ⟨none, none, .st 1 (.t 37) (.t 35)⟩)]))
  (.reg [⟨(some 14), none, .p (.mv (.t 10))⟩,
    ⟨(some 15), none, .p (.bin .add (.t 14) (.c (.int .i64 1)))⟩,
    ⟨(some 10), none, .p (.mv (.t 15))⟩]))))))⟩
theorem c52 : compF Tryd.prog ⟨fun s => [].contains s, fun r => match r with | 3 => [(0, .quiet), (1, .quiet), (2, .quiet), (3, .quiet), (4, .stable), (5, .stable), (6, .stable), (7, .stable), (8, .quiet), (9, .quiet), (10, .quiet), (11, .quiet), (12, .quiet), (13, .quiet), (14, .quiet), (15, .quiet), (16, .quiet), (17, .quiet), (18, .quiet), (19, .quiet), (20, .quiet), (21, .loud), (22, .quiet), (23, .loud)] | _ => []⟩ Tryd.f52 = some a52 := by kernel_rfl

end Go.Proofs.YteeenlgoildmiaaDoor
