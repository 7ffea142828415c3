/- The functions of 'locator', compiled (printed by gen.sh). -/
import Derived.Test.YtnepgfplikifjaaAlS
import Derived.Test.YtnepgfplikifjaaProg
namespace Go.Proofs.Ytnepgfplikifjaa
open Go Go.AL

/- gosem.cut.init -/
def a2 : AFun := ⟨1, [], (.reg [⟨(some 0), none, .call 1 []⟩])⟩
theorem c2 : compF Try.prog ⟨fun s => [].contains s, fun _ => []⟩ Try.f2 = some a2 := by kernel_rfl

/- airline/airlinelaw34.LocatorTells -/
def a3 : AFun := ⟨98, [.tmp 4], (.seq (.reg [⟨(some 4), none, .p (.mv (.c (.bool false)))⟩])
  (.seq (.seq (.reg [⟨(some 16), none, .p (.mv (.t 1))⟩,
    ⟨(some 17), none, .p (.lenS (.t 16))⟩,
    ⟨(some 18), none, .p (.bin .gtr (.t 17) (.c (.int .i64 1000)))⟩])
  (.cond (.t 18) (.seq (.reg [⟨(some 19), none, .call 6 []⟩,
    ⟨(some 4), none, .p (.mv (.t 19))⟩])
  .ret) .skip))
  (.seq (.reg [⟨(some 21), none, .p (.mv (.t 0))⟩,
    ⟨(some 22), none, .call 7 [(.t 21)]⟩,
    ⟨(some 20), none, .p (.mv (.t 22))⟩,
    ⟨(some 23), none, .p (.ext 0 (.t 20))⟩,
    ⟨(some 24), none, .p (.ext 1 (.t 20))⟩,
    ⟨(some 5), none, .p (.mv (.t 23))⟩,
    ⟨(some 6), none, .p (.mv (.t 24))⟩])
  (.seq (.reg [⟨(some 26), none, .p (.mv (.t 0))⟩,
    ⟨(some 27), none, .call 8 [(.t 26)]⟩,
    ⟨(some 25), none, .p (.mv (.t 27))⟩,
    ⟨(some 28), none, .p (.ext 0 (.t 25))⟩,
    ⟨(some 29), none, .p (.ext 1 (.t 25))⟩,
    ⟨(some 7), none, .p (.mv (.t 28))⟩,
    ⟨(some 8), none, .p (.mv (.t 29))⟩])
  (.seq (.reg [⟨(some 31), none, .p (.mv (.t 1))⟩,
    ⟨(some 32), none, .call 9 [(.t 31)]⟩,
    ⟨(some 30), none, .p (.mv (.t 32))⟩,
    ⟨(some 33), none, .p (.ext 0 (.t 30))⟩,
    ⟨(some 34), none, .p (.ext 1 (.t 30))⟩,
    ⟨(some 9), none, .p (.mv (.t 33))⟩,
    ⟨(some 10), none, .p (.mv (.t 34))⟩])
  (.seq (.reg [⟨(some 36), none, .p (.mv (.t 1))⟩,
    ⟨(some 37), none, .call 10 [(.t 36)]⟩,
    ⟨(some 35), none, .p (.mv (.t 37))⟩,
    ⟨(some 38), none, .p (.ext 0 (.t 35))⟩,
    ⟨(some 39), none, .p (.ext 1 (.t 35))⟩,
    ⟨(some 11), none, .p (.mv (.t 38))⟩,
    ⟨(some 12), none, .p (.mv (.t 39))⟩])
  (.seq (.seq (.reg [⟨(some 40), none, .p (.mv (.t 5))⟩,
    ⟨(some 41), none, .p (.mv (.t 7))⟩,
    ⟨(some 42), none, .p (.bin .neq (.t 40) (.t 41))⟩,
    ⟨(some 43), none, .p (.mv (.t 42))⟩,
    ⟨(some 44), (some (43, false)), .p (.mv (.t 6))⟩,
    ⟨(some 45), (some (43, false)), .p (.mv (.t 8))⟩,
    ⟨(some 46), (some (43, false)), .p (.bin .neq (.t 44) (.t 45))⟩,
    ⟨(some 47), none, .p (.pick (.t 43) (.c (.bool true)) (.t 46))⟩,
    ⟨(some 48), none, .p (.mv (.t 47))⟩,
    ⟨(some 49), (some (48, false)), .p (.mv (.t 9))⟩,
    ⟨(some 50), (some (48, false)), .p (.mv (.t 11))⟩,
    ⟨(some 51), (some (48, false)), .p (.bin .neq (.t 49) (.t 50))⟩,
    ⟨(some 52), none, .p (.pick (.t 48) (.c (.bool true)) (.t 51))⟩,
    ⟨(some 53), none, .p (.mv (.t 52))⟩,
    ⟨(some 54), (some (53, false)), .p (.mv (.t 10))⟩,
    ⟨(some 55), (some (53, false)), .p (.mv (.t 12))⟩,
    ⟨(some 56), (some (53, false)), .p (.bin .neq (.t 54) (.t 55))⟩,
    ⟨(some 57), none, .p (.pick (.t 53) (.c (.bool true)) (.t 56))⟩,
    ⟨(some 58), none, .p (.mv (.t 57))⟩,
    ⟨(some 59), (some (58, false)), .p (.mv (.t 1))⟩,
    ⟨(some 60), (some (58, false)), .call 11 [(.t 59)]⟩,
    ⟨(some 61), (some (58, false)), .p (.mv (.t 1))⟩,
    ⟨(some 62), (some (58, false)), .call 12 [(.t 61)]⟩,
    ⟨(some 63), (some (58, false)), .p (.eqb true (.t 60) (.t 62))⟩,
    ⟨(some 64), none, .p (.pick (.t 58) (.c (.bool true)) (.t 63))⟩])
  (.cond (.t 64) (.seq (.reg [⟨(some 4), none, .p (.mv (.c (.bool false)))⟩])
  .ret) .skip))
  (.seq (.reg [⟨(some 65), none, .p (.mv (.t 1))⟩,
    ⟨(some 66), none, .call 13 [(.t 65)]⟩,
    ⟨(some 67), none, .p (.mv (.t 1))⟩,
    ⟨(some 68), none, .call 14 [(.t 67)]⟩,
    ⟨(some 13), none, .p (.mv (.t 66))⟩,
    ⟨(some 14), none, .p (.mv (.t 68))⟩])
  (.seq (.seq (.reg [⟨(some 15), none, .p (.mv (.c (.int .i64 0)))⟩])
  (.block 0 (.loop (.seq (.seq (.reg [⟨(some 69), none, .p (.mv (.t 15))⟩,
    ⟨(some 70), none, .p (.mv (.t 13))⟩,
    ⟨(some 71), none, .p (.lenA (.t 70))⟩,
    ⟨(some 72), none, .p (.bin .lss (.t 69) (.t 71))⟩,
    ⟨(some 73), none, .p (.mv (.t 72))⟩,
    ⟨(some 74), (some (73, true)), .p (.mv (.t 15))⟩,
    ⟨(some 75), (some (73, true)), .p (.mv (.t 14))⟩,
    ⟨(some 76), (some (73, true)), .p (.lenA (.t 75))⟩,
    ⟨(some 77), (some (73, true)), .p (.bin .lss (.t 74) (.t 76))⟩,
    ⟨(some 78), none, .p (.pick (.t 73) (.t 77) (.c (.bool false)))⟩])
  (.cond (.t 78) .skip (.exit 0)))
  (.seq (.block 1 (.seq (.oreg [(.quiet, ⟨(some 81), none, .p (.mv (.t 13))⟩),
    (.quiet, ⟨(some 82), none, .p (.mv (.t 15))⟩),
    (.quiet, ⟨(some 83), none, .p (.idxA 1 (.t 81) (.t 82))⟩),
    (.quiet, ⟨(some 84), none, .p (.ld1 (.t 83))⟩),
    (.quiet, ⟨(some 85), none, .p (.mv (.t 14))⟩),
    (.quiet, ⟨(some 86), none, .p (.mv (.t 15))⟩),
    (.quiet, ⟨(some 87), none, .p (.idxA 1 (.t 85) (.t 86))⟩),
    (.quiet, ⟨(some 88), none, .p (.ld1 (.t 87))⟩),
    (.quiet, ⟨(some 89), none, .p (.bin .neq (.t 84) (.t 88))⟩)])
  (.cond (.t 89) (.seq (.reg [⟨(some 4), none, .p (.mv (.c (.bool false)))⟩])
  .ret) .skip)))
  (.reg [⟨(some 79), none, .p (.mv (.t 15))⟩,
    ⟨(some 80), none, .p (.bin .add (.t 79) (.c (.int .i64 1)))⟩,
    ⟨(some 15), none, .p (.mv (.t 80))⟩]))))))
  (.seq (.reg [⟨(some 90), none, .p (.mv (.t 13))⟩,
    ⟨(some 91), none, .p (.lenA (.t 90))⟩,
    ⟨(some 92), none, .p (.mv (.t 14))⟩,
    ⟨(some 93), none, .p (.lenA (.t 92))⟩,
    ⟨(some 94), none, .p (.bin .eql (.t 91) (.t 93))⟩,
    ⟨(some 95), none, .p (.mv (.t 94))⟩,
    ⟨(some 96), (some (95, true)), .call 6 []⟩,
    ⟨(some 97), none, .p (.pick (.t 95) (.t 96) (.c (.bool false)))⟩,
    ⟨(some 4), none, .p (.mv (.t 97))⟩])
  .ret))))))))))⟩
theorem c3 : compF Try.prog ⟨fun s => [].contains s, fun r => match r with | 13 => [(0, .quiet), (1, .quiet), (2, .quiet), (3, .quiet), (4, .quiet), (5, .quiet), (6, .quiet), (7, .quiet), (8, .quiet)] | _ => []⟩ Try.f3 = some a3 := by kernel_rfl

/- airline/airlinelaw34.LocatorBack -/
def a4 : AFun := ⟨90, [.tmp 4], (.seq (.reg [⟨(some 4), none, .p (.mv (.c (.bool false)))⟩])
  (.seq (.seq (.reg [⟨(some 13), none, .p (.mv (.t 1))⟩,
    ⟨(some 14), none, .p (.lenS (.t 13))⟩,
    ⟨(some 15), none, .p (.bin .gtr (.t 14) (.c (.int .i64 1000)))⟩])
  (.cond (.t 15) (.seq (.reg [⟨(some 16), none, .call 6 []⟩,
    ⟨(some 4), none, .p (.mv (.t 16))⟩])
  .ret) .skip))
  (.seq (.reg [⟨(some 18), none, .p (.mv (.t 0))⟩,
    ⟨(some 19), none, .call 7 [(.t 18)]⟩,
    ⟨(some 17), none, .p (.mv (.t 19))⟩,
    ⟨(some 20), none, .p (.ext 0 (.t 17))⟩,
    ⟨(some 21), none, .p (.ext 1 (.t 17))⟩,
    ⟨(some 5), none, .p (.mv (.t 20))⟩,
    ⟨(some 6), none, .p (.mv (.t 21))⟩])
  (.seq (.reg [⟨(some 23), none, .p (.mv (.t 5))⟩,
    ⟨(some 24), none, .call 9 [(.t 23)]⟩,
    ⟨(some 22), none, .p (.mv (.t 24))⟩,
    ⟨(some 25), none, .p (.ext 0 (.t 22))⟩,
    ⟨(some 26), none, .p (.ext 1 (.t 22))⟩,
    ⟨(some 7), none, .p (.mv (.t 25))⟩,
    ⟨(some 8), none, .p (.mv (.t 26))⟩])
  (.seq (.reg [⟨(some 28), none, .p (.mv (.t 1))⟩,
    ⟨(some 29), none, .call 9 [(.t 28)]⟩,
    ⟨(some 27), none, .p (.mv (.t 29))⟩,
    ⟨(some 30), none, .p (.ext 0 (.t 27))⟩,
    ⟨(some 31), none, .p (.ext 1 (.t 27))⟩,
    ⟨(some 9), none, .p (.mv (.t 30))⟩,
    ⟨(some 10), none, .p (.mv (.t 31))⟩])
  (.seq (.reg [⟨(some 33), none, .p (.mv (.t 9))⟩,
    ⟨(some 34), none, .call 7 [(.t 33)]⟩,
    ⟨(some 32), none, .p (.mv (.t 34))⟩,
    ⟨(some 35), none, .p (.ext 0 (.t 32))⟩,
    ⟨(some 36), none, .p (.ext 1 (.t 32))⟩,
    ⟨(some 11), none, .p (.mv (.t 35))⟩,
    ⟨(some 12), none, .p (.mv (.t 36))⟩])
  (.seq (.seq (.reg [⟨(some 37), none, .p (.mv (.t 6))⟩,
    ⟨(some 38), none, .p (.bin .eql (.t 37) (.c (.int .i64 0)))⟩,
    ⟨(some 39), none, .p (.mv (.t 0))⟩,
    ⟨(some 40), none, .p (.bin .geq (.t 39) (.c (.int .i64 0)))⟩,
    ⟨(some 41), none, .p (.mv (.t 40))⟩,
    ⟨(some 42), (some (41, true)), .p (.mv (.t 0))⟩,
    ⟨(some 43), (some (41, true)), .p (.bin .lss (.t 42) (.c (.int .i64 33554432)))⟩,
    ⟨(some 44), none, .p (.pick (.t 41) (.t 43) (.c (.bool false)))⟩,
    ⟨(some 45), none, .p (.eqb true (.t 38) (.t 44))⟩,
    ⟨(some 46), none, .p (.mv (.t 45))⟩,
    ⟨(some 47), (some (46, false)), .p (.mv (.t 6))⟩,
    ⟨(some 48), (some (46, false)), .p (.bin .eql (.t 47) (.c (.int .i64 0)))⟩,
    ⟨(some 49), (some (46, false)), .p (.mv (.t 48))⟩,
    ⟨(some 50), (some (49, true)), .p (.mv (.t 8))⟩,
    ⟨(some 51), (some (49, true)), .p (.bin .neq (.t 50) (.c (.int .i64 0)))⟩,
    ⟨(some 52), (some (49, true)), .p (.mv (.t 51))⟩,
    ⟨(some 53), (some (52, false)), .p (.mv (.t 7))⟩,
    ⟨(some 54), (some (52, false)), .p (.mv (.t 0))⟩,
    ⟨(some 55), (some (52, false)), .p (.bin .neq (.t 53) (.t 54))⟩,
    ⟨(some 56), (some (49, true)), .p (.pick (.t 52) (.c (.bool true)) (.t 55))⟩,
    ⟨(some 57), (some (49, true)), .p (.mv (.t 56))⟩,
    ⟨(some 58), (some (57, false)), .p (.mv (.t 5))⟩,
    ⟨(some 59), (some (57, false)), .p (.lenS (.t 58))⟩,
    ⟨(some 60), (some (57, false)), .p (.bin .neq (.t 59) (.c (.int .i64 6)))⟩,
    ⟨(some 61), (some (49, true)), .p (.pick (.t 57) (.c (.bool true)) (.t 60))⟩,
    ⟨(some 62), (some (49, true)), .p (.mv (.t 61))⟩,
    ⟨(some 63), (some (62, false)), .p (.mv (.t 5))⟩,
    ⟨(some 64), (some (62, false)), .call 11 [(.t 63)]⟩,
    ⟨(some 65), (some (62, false)), .p (.not (.t 64))⟩,
    ⟨(some 66), (some (49, true)), .p (.pick (.t 62) (.c (.bool true)) (.t 65))⟩,
    ⟨(some 67), (some (46, false)), .p (.pick (.t 49) (.t 66) (.c (.bool false)))⟩,
    ⟨(some 68), none, .p (.pick (.t 46) (.c (.bool true)) (.t 67))⟩])
  (.cond (.t 68) (.seq (.reg [⟨(some 4), none, .p (.mv (.c (.bool false)))⟩])
  .ret) .skip))
  (.seq (.reg [⟨(some 69), none, .p (.mv (.t 10))⟩,
    ⟨(some 70), none, .p (.bin .neq (.t 69) (.c (.int .i64 0)))⟩,
    ⟨(some 71), none, .p (.mv (.t 70))⟩,
    ⟨(some 72), (some (71, false)), .p (.mv (.t 12))⟩,
    ⟨(some 73), (some (71, false)), .p (.bin .eql (.t 72) (.c (.int .i64 0)))⟩,
    ⟨(some 74), (some (71, false)), .p (.mv (.t 73))⟩,
    ⟨(some 75), (some (74, true)), .p (.mv (.t 11))⟩,
    ⟨(some 76), (some (74, true)), .p (.mv (.t 1))⟩,
    ⟨(some 77), (some (74, true)), .p (.bin .eql (.t 75) (.t 76))⟩,
    ⟨(some 78), (some (71, false)), .p (.pick (.t 74) (.t 77) (.c (.bool false)))⟩,
    ⟨(some 79), none, .p (.pick (.t 71) (.c (.bool true)) (.t 78))⟩,
    ⟨(some 80), none, .p (.mv (.t 79))⟩,
    ⟨(some 81), (some (80, true)), .p (.mv (.t 1))⟩,
    ⟨(some 82), (some (80, true)), .call 11 [(.t 81)]⟩,
    ⟨(some 83), (some (80, true)), .p (.mv (.t 10))⟩,
    ⟨(some 84), (some (80, true)), .p (.bin .eql (.t 83) (.c (.int .i64 0)))⟩,
    ⟨(some 85), (some (80, true)), .p (.eqb false (.t 82) (.t 84))⟩,
    ⟨(some 86), none, .p (.pick (.t 80) (.t 85) (.c (.bool false)))⟩,
    ⟨(some 87), none, .p (.mv (.t 86))⟩,
    ⟨(some 88), (some (87, true)), .call 6 []⟩,
    ⟨(some 89), none, .p (.pick (.t 87) (.t 88) (.c (.bool false)))⟩,
    ⟨(some 4), none, .p (.mv (.t 89))⟩])
  .ret))))))))⟩
theorem c4 : compF Try.prog ⟨fun s => [].contains s, fun _ => []⟩ Try.f4 = some a4 := by kernel_rfl

/- airline/airlinelaw34.LocatorApart -/
def a5 : AFun := ⟨121, [.tmp 8], (.seq (.reg [⟨(some 8), none, .p (.mv (.c (.bool false)))⟩])
  (.seq (.reg [⟨(some 21), none, .p (.mv (.t 0))⟩,
    ⟨(some 22), none, .p (.bin .rem (.t 21) (.c (.int .u32 33554432)))⟩,
    ⟨(some 23), none, .p (.conv .i64 (.t 22))⟩,
    ⟨(some 24), none, .call 7 [(.t 23)]⟩,
    ⟨(some 20), none, .p (.mv (.t 24))⟩,
    ⟨(some 25), none, .p (.ext 0 (.t 20))⟩,
    ⟨(some 26), none, .p (.ext 1 (.t 20))⟩,
    ⟨(some 9), none, .p (.mv (.t 25))⟩,
    ⟨(some 10), none, .p (.mv (.t 26))⟩])
  (.seq (.reg [⟨(some 28), none, .p (.mv (.t 1))⟩,
    ⟨(some 29), none, .p (.bin .rem (.t 28) (.c (.int .u32 33554432)))⟩,
    ⟨(some 30), none, .p (.conv .i64 (.t 29))⟩,
    ⟨(some 31), none, .call 7 [(.t 30)]⟩,
    ⟨(some 27), none, .p (.mv (.t 31))⟩,
    ⟨(some 32), none, .p (.ext 0 (.t 27))⟩,
    ⟨(some 33), none, .p (.ext 1 (.t 27))⟩,
    ⟨(some 11), none, .p (.mv (.t 32))⟩,
    ⟨(some 12), none, .p (.mv (.t 33))⟩])
  (.seq (.seq (.reg [⟨(some 34), none, .p (.mv (.t 10))⟩,
    ⟨(some 35), none, .p (.bin .neq (.t 34) (.c (.int .i64 0)))⟩,
    ⟨(some 36), none, .p (.mv (.t 35))⟩,
    ⟨(some 37), (some (36, false)), .p (.mv (.t 12))⟩,
    ⟨(some 38), (some (36, false)), .p (.bin .neq (.t 37) (.c (.int .i64 0)))⟩,
    ⟨(some 39), none, .p (.pick (.t 36) (.c (.bool true)) (.t 38))⟩,
    ⟨(some 40), none, .p (.mv (.t 39))⟩,
    ⟨(some 41), (some (40, false)), .p (.mv (.t 9))⟩,
    ⟨(some 42), (some (40, false)), .p (.lenS (.t 41))⟩,
    ⟨(some 43), (some (40, false)), .p (.bin .neq (.t 42) (.c (.int .i64 6)))⟩,
    ⟨(some 44), none, .p (.pick (.t 40) (.c (.bool true)) (.t 43))⟩,
    ⟨(some 45), none, .p (.mv (.t 44))⟩,
    ⟨(some 46), (some (45, false)), .p (.mv (.t 11))⟩,
    ⟨(some 47), (some (45, false)), .p (.lenS (.t 46))⟩,
    ⟨(some 48), (some (45, false)), .p (.bin .neq (.t 47) (.c (.int .i64 6)))⟩,
    ⟨(some 49), none, .p (.pick (.t 45) (.c (.bool true)) (.t 48))⟩])
  (.cond (.t 49) (.seq (.reg [⟨(some 8), none, .p (.mv (.c (.bool false)))⟩])
  .ret) .skip))
  (.seq (.reg [⟨(some 13), none, .p (.mv (.c (.int .i64 0)))⟩])
  (.seq (.seq (.reg [⟨(some 14), none, .p (.mv (.c (.int .i64 0)))⟩])
  (.block 0 (.loop (.seq (.seq (.reg [⟨(some 50), none, .p (.mv (.t 14))⟩,
    ⟨(some 51), none, .p (.bin .lss (.t 50) (.c (.int .i64 6)))⟩])
  (.cond (.t 51) .skip (.exit 0)))
  (.seq (.block 1 (.seq (.oreg [(.quiet, ⟨(some 54), none, .p (.mv (.t 9))⟩),
    (.quiet, ⟨(some 55), none, .p (.mv (.t 14))⟩),
    (.quiet, ⟨(some 56), none, .p (.idxS (.t 54) (.t 55))⟩),
    (.quiet, ⟨(some 57), none, .p (.mv (.t 11))⟩),
    (.quiet, ⟨(some 58), none, .p (.mv (.t 14))⟩),
    (.quiet, ⟨(some 59), none, .p (.idxS (.t 57) (.t 58))⟩),
    (.quiet, ⟨(some 60), none, .p (.bin .neq (.t 56) (.t 59))⟩)])
  (.cond (.t 60) (.reg [⟨(some 61), none, .p (.mv (.t 13))⟩,
    ⟨(some 62), none, .p (.bin .add (.t 61) (.c (.int .i64 1)))⟩,
    ⟨(some 13), none, .p (.mv (.t 62))⟩]) .skip)))
  (.reg [⟨(some 52), none, .p (.mv (.t 14))⟩,
    ⟨(some 53), none, .p (.bin .add (.t 52) (.c (.int .i64 1)))⟩,
    ⟨(some 14), none, .p (.mv (.t 53))⟩]))))))
  (.seq (.seq (.reg [⟨(some 63), none, .p (.mv (.t 9))⟩,
    ⟨(some 64), none, .p (.mv (.t 11))⟩,
    ⟨(some 65), none, .p (.bin .neq (.t 63) (.t 64))⟩,
    ⟨(some 66), none, .p (.mv (.t 65))⟩,
    ⟨(some 67), (some (66, true)), .p (.mv (.t 13))⟩,
    ⟨(some 68), (some (66, true)), .p (.bin .lss (.t 67) (.c (.int .i64 2)))⟩,
    ⟨(some 69), none, .p (.pick (.t 66) (.t 68) (.c (.bool false)))⟩])
  (.cond (.t 69) (.seq (.reg [⟨(some 8), none, .p (.mv (.c (.bool false)))⟩])
  .ret) .skip))
  (.seq (.reg [⟨(some 70), none, .p (.mv (.t 2))⟩,
    ⟨(some 71), none, .p (.bin .rem (.t 70) (.c (.int .u8 6)))⟩,
    ⟨(some 72), none, .p (.conv .i64 (.t 71))⟩,
    ⟨(some 15), none, .p (.mv (.t 72))⟩])
  (.seq (.oreg [(.quiet, ⟨(some 73), none, .p (.mv (.t 9))⟩),
    (.quiet, ⟨(some 74), none, .p (.mv (.t 15))⟩),
    (.quiet, ⟨(some 75), none, .p (.slS (.t 73) none (some (.t 74)))⟩),
    (.quiet, ⟨(some 76), none, .p (.mv (.t 3))⟩),
    (.quiet, ⟨(some 77), none, .p (.bsl 1 [(.int .u8 0)] 1 [(0, (.t 76))])⟩),
    (.quiet, ⟨(some 78), none, .p (.b2s (.t 77))⟩),
    (.quiet, ⟨(some 79), none, .p (.bin .add (.t 75) (.t 78))⟩),
    (.quiet, ⟨(some 80), none, .p (.mv (.t 9))⟩),
    (.quiet, ⟨(some 81), none, .p (.mv (.t 15))⟩),
    (.quiet, ⟨(some 82), none, .p (.bin .add (.t 81) (.c (.int .i64 1)))⟩),
    (.quiet, ⟨(some 83), none, .p (.slS (.t 80) (some (.t 82)) none)⟩),
    (.quiet, ⟨(some 84), none, .p (.bin .add (.t 79) (.t 83))⟩),
    (.quiet, ⟨(some 16), none, .p (.mv (.t 84))⟩)])
  (.seq (.seq (.reg [⟨(some 85), none, .p (.mv (.t 16))⟩,
    ⟨(some 86), none, .p (.mv (.t 9))⟩,
    ⟨(some 87), none, .p (.bin .eql (.t 85) (.t 86))⟩])
  (.cond (.t 87) (.seq (.reg [⟨(some 88), none, .p (.mv (.t 16))⟩,
    ⟨(some 89), none, .call 13 [(.t 88)]⟩,
    ⟨(some 90), none, .p (.lenA (.t 89))⟩,
    ⟨(some 91), none, .p (.bin .eql (.t 90) (.c (.int .i64 0)))⟩,
    ⟨(some 92), none, .p (.mv (.t 91))⟩,
    ⟨(some 93), (some (92, true)), .call 6 []⟩,
    ⟨(some 94), none, .p (.pick (.t 92) (.t 93) (.c (.bool false)))⟩,
    ⟨(some 8), none, .p (.mv (.t 94))⟩])
  .ret) .skip))
  (.seq (.reg [⟨(some 17), none, .p (.mv (.c (.bool false)))⟩])
  (.seq (.reg [⟨(some 95), none, .p (.mv (.t 16))⟩,
    ⟨(some 96), none, .call 13 [(.t 95)]⟩,
    ⟨(some 18), none, .p (.mv (.t 96))⟩])
  (.seq (.seq (.reg [⟨(some 19), none, .p (.mv (.c (.int .i64 0)))⟩])
  (.block 2 (.loop (.seq (.seq (.reg [⟨(some 97), none, .p (.mv (.t 19))⟩,
    ⟨(some 98), none, .p (.mv (.t 18))⟩,
    ⟨(some 99), none, .p (.lenA (.t 98))⟩,
    ⟨(some 100), none, .p (.bin .lss (.t 97) (.t 99))⟩])
  (.cond (.t 100) .skip (.exit 2)))
  (.seq (.block 3 (.reg [⟨(some 103), none, .p (.mv (.t 17))⟩,
    ⟨(some 104), none, .p (.mv (.t 103))⟩,
    ⟨(some 105), (some (104, false)), .p (.mv (.t 18))⟩,
    ⟨(some 106), (some (104, false)), .p (.mv (.t 19))⟩,
    ⟨(some 107), (some (104, false)), .p (.idxA 1 (.t 105) (.t 106))⟩,
    ⟨(some 108), (some (104, false)), .p (.ld1 (.t 107))⟩,
    ⟨(some 109), (some (104, false)), .p (.mv (.t 9))⟩,
    ⟨(some 110), (some (104, false)), .p (.bin .eql (.t 108) (.t 109))⟩,
    ⟨(some 111), none, .p (.pick (.t 104) (.c (.bool true)) (.t 110))⟩,
    ⟨(some 17), none, .p (.mv (.t 111))⟩]))
  (.reg [⟨(some 101), none, .p (.mv (.t 19))⟩,
    ⟨(some 102), none, .p (.bin .add (.t 101) (.c (.int .i64 1)))⟩,
    ⟨(some 19), none, .p (.mv (.t 102))⟩]))))))
  (.seq (.reg [⟨(some 112), none, .p (.mv (.t 17))⟩,
    ⟨(some 113), none, .p (.mv (.t 112))⟩,
    ⟨(some 114), (some (113, true)), .p (.mv (.t 16))⟩,
    ⟨(some 115), (some (113, true)), .call 11 [(.t 114)]⟩,
    ⟨(some 116), (some (113, true)), .p (.not (.t 115))⟩,
    ⟨(some 117), none, .p (.pick (.t 113) (.t 116) (.c (.bool false)))⟩,
    ⟨(some 118), none, .p (.mv (.t 117))⟩,
    ⟨(some 119), (some (118, true)), .call 6 []⟩,
    ⟨(some 120), none, .p (.pick (.t 118) (.t 119) (.c (.bool false)))⟩,
    ⟨(some 8), none, .p (.mv (.t 120))⟩])
  .ret))))))))))))))⟩
theorem c5 : compF Try.prog ⟨fun s => [].contains s, fun r => match r with | 9 => [(0, .quiet), (1, .quiet), (2, .quiet), (3, .quiet), (4, .quiet), (5, .quiet), (6, .quiet)]  | 14 => [(0, .quiet), (1, .quiet), (2, .quiet), (3, .quiet), (4, .quiet), (5, .quiet), (6, .quiet), (7, .quiet), (8, .quiet), (9, .quiet), (10, .quiet), (11, .quiet), (12, .quiet)] | _ => []⟩ Try.f5 = some a5 := by kernel_rfl

/- airline/airlinelaw34.knows -/
def a6 : AFun := ⟨80, [.tmp 0], (.seq (.reg [⟨(some 0), none, .p (.mv (.c (.bool false)))⟩])
  (.seq (.reg [⟨(some 13), none, .call 7 [(.c (.int .i64 0))]⟩,
    ⟨(some 12), none, .p (.mv (.t 13))⟩,
    ⟨(some 14), none, .p (.ext 0 (.t 12))⟩,
    ⟨(some 15), none, .p (.ext 1 (.t 12))⟩,
    ⟨(some 1), none, .p (.mv (.t 14))⟩,
    ⟨(some 2), none, .p (.mv (.t 15))⟩])
  (.seq (.reg [⟨(some 17), none, .call 7 [(.c (.int .i64 1))]⟩,
    ⟨(some 16), none, .p (.mv (.t 17))⟩,
    ⟨(some 18), none, .p (.ext 0 (.t 16))⟩,
    ⟨(some 19), none, .p (.ext 1 (.t 16))⟩,
    ⟨(some 3), none, .p (.mv (.t 18))⟩,
    ⟨(some 4), none, .p (.mv (.t 19))⟩])
  (.seq (.reg [⟨(some 21), none, .call 7 [(.c (.int .i64 33554432))]⟩,
    ⟨(some 20), none, .p (.mv (.t 21))⟩,
    ⟨(some 22), none, .p (.ext 0 (.t 20))⟩,
    ⟨(some 23), none, .p (.ext 1 (.t 20))⟩,
    ⟨(some 5), none, .p (.mv (.t 22))⟩,
    ⟨(some 6), none, .p (.mv (.t 23))⟩])
  (.seq (.reg [⟨(some 25), none, .call 9 [(.c (.str [50, 50, 50, 50, 51, 66]))]⟩,
    ⟨(some 24), none, .p (.mv (.t 25))⟩,
    ⟨(some 26), none, .p (.ext 0 (.t 24))⟩,
    ⟨(some 27), none, .p (.ext 1 (.t 24))⟩,
    ⟨(some 7), none, .p (.mv (.t 26))⟩,
    ⟨(some 8), none, .p (.mv (.t 27))⟩])
  (.seq (.reg [⟨(some 29), none, .call 9 [(.c (.str [50, 50, 50, 50, 51, 67]))]⟩,
    ⟨(some 28), none, .p (.mv (.t 29))⟩,
    ⟨(some 30), none, .p (.ext 0 (.t 28))⟩,
    ⟨(some 31), none, .p (.ext 1 (.t 28))⟩,
    ⟨(some 9), none, .p (.mv (.t 30))⟩,
    ⟨(some 10), none, .p (.mv (.t 31))⟩])
  (.seq (.reg [⟨(some 32), none, .call 13 [(.c (.str [50, 50, 50, 50, 42, 50]))]⟩,
    ⟨(some 11), none, .p (.mv (.t 32))⟩])
  (.seq (.reg [⟨(some 33), none, .p (.mv (.t 1))⟩,
    ⟨(some 34), none, .p (.bin .eql (.t 33) (.c (.str [50, 50, 50, 50, 50, 50])))⟩,
    ⟨(some 35), none, .p (.mv (.t 34))⟩,
    ⟨(some 36), (some (35, true)), .p (.mv (.t 2))⟩,
    ⟨(some 37), (some (35, true)), .p (.bin .eql (.t 36) (.c (.int .i64 0)))⟩,
    ⟨(some 38), none, .p (.pick (.t 35) (.t 37) (.c (.bool false)))⟩,
    ⟨(some 39), none, .p (.mv (.t 38))⟩,
    ⟨(some 40), (some (39, true)), .p (.mv (.t 3))⟩,
    ⟨(some 41), (some (39, true)), .p (.bin .eql (.t 40) (.c (.str [50, 50, 50, 50, 51, 66])))⟩,
    ⟨(some 42), none, .p (.pick (.t 39) (.t 41) (.c (.bool false)))⟩,
    ⟨(some 43), none, .p (.mv (.t 42))⟩,
    ⟨(some 44), (some (43, true)), .p (.mv (.t 4))⟩,
    ⟨(some 45), (some (43, true)), .p (.bin .eql (.t 44) (.c (.int .i64 0)))⟩,
    ⟨(some 46), none, .p (.pick (.t 43) (.t 45) (.c (.bool false)))⟩,
    ⟨(some 47), none, .p (.mv (.t 46))⟩,
    ⟨(some 48), (some (47, true)), .p (.mv (.t 6))⟩,
    ⟨(some 49), (some (47, true)), .p (.bin .eql (.t 48) (.c (.int .i64 2)))⟩,
    ⟨(some 50), none, .p (.pick (.t 47) (.t 49) (.c (.bool false)))⟩,
    ⟨(some 51), none, .p (.mv (.t 50))⟩,
    ⟨(some 52), (some (51, true)), .p (.mv (.t 7))⟩,
    ⟨(some 53), (some (51, true)), .p (.bin .eql (.t 52) (.c (.int .i64 1)))⟩,
    ⟨(some 54), none, .p (.pick (.t 51) (.t 53) (.c (.bool false)))⟩,
    ⟨(some 55), none, .p (.mv (.t 54))⟩,
    ⟨(some 56), (some (55, true)), .p (.mv (.t 8))⟩,
    ⟨(some 57), (some (55, true)), .p (.bin .eql (.t 56) (.c (.int .i64 0)))⟩,
    ⟨(some 58), none, .p (.pick (.t 55) (.t 57) (.c (.bool false)))⟩,
    ⟨(some 59), none, .p (.mv (.t 58))⟩,
    ⟨(some 60), (some (59, true)), .p (.mv (.t 10))⟩,
    ⟨(some 61), (some (59, true)), .p (.bin .eql (.t 60) (.c (.int .i64 3)))⟩,
    ⟨(some 62), none, .p (.pick (.t 59) (.t 61) (.c (.bool false)))⟩,
    ⟨(some 63), none, .p (.mv (.t 62))⟩,
    ⟨(some 64), (some (63, true)), .p (.mv (.t 11))⟩,
    ⟨(some 65), (some (63, true)), .p (.lenA (.t 64))⟩,
    ⟨(some 66), (some (63, true)), .p (.bin .eql (.t 65) (.c (.int .i64 1)))⟩,
    ⟨(some 67), none, .p (.pick (.t 63) (.t 66) (.c (.bool false)))⟩,
    ⟨(some 68), none, .p (.mv (.t 67))⟩,
    ⟨(some 69), (some (68, true)), .p (.mv (.t 11))⟩,
    ⟨(some 70), (some (68, true)), .p (.idxA 1 (.t 69) (.c (.int .i64 0)))⟩,
    ⟨(some 71), (some (68, true)), .p (.ld1 (.t 70))⟩,
    ⟨(some 72), (some (68, true)), .p (.bin .eql (.t 71) (.c (.str [50, 50, 50, 50, 50, 50])))⟩,
    ⟨(some 73), none, .p (.pick (.t 68) (.t 72) (.c (.bool false)))⟩,
    ⟨(some 74), none, .p (.mv (.t 73))⟩,
    ⟨(some 75), (some (74, true)), .p (.mv (.t 3))⟩,
    ⟨(some 76), (some (74, true)), .call 13 [(.t 75)]⟩,
    ⟨(some 77), (some (74, true)), .p (.lenA (.t 76))⟩,
    ⟨(some 78), (some (74, true)), .p (.bin .eql (.t 77) (.c (.int .i64 0)))⟩,
    ⟨(some 79), none, .p (.pick (.t 74) (.t 78) (.c (.bool false)))⟩,
    ⟨(some 0), none, .p (.mv (.t 79))⟩])
  .ret))))))))⟩
theorem c6 : compF Try.prog ⟨fun s => [].contains s, fun _ => []⟩ Try.f6 = some a6 := by kernel_rfl

/- airline/locator.Of -/
def a7 : AFun := ⟨43, [.tmp 2, .tmp 3], (.seq (.reg [⟨(some 2), none, .p (.mv (.c (.str [])))⟩,
    ⟨(some 3), none, .p (.mv (.c (.int .i64 0)))⟩])
  (.seq (.seq (.reg [⟨(some 9), none, .p (.mv (.t 0))⟩,
    ⟨(some 10), none, .p (.bin .lss (.t 9) (.c (.int .i64 0)))⟩,
    ⟨(some 11), none, .p (.mv (.t 10))⟩,
    ⟨(some 12), (some (11, false)), .p (.mv (.t 0))⟩,
    ⟨(some 13), (some (11, false)), .p (.bin .geq (.t 12) (.c (.int .i64 33554432)))⟩,
    ⟨(some 14), none, .p (.pick (.t 11) (.c (.bool true)) (.t 13))⟩])
  (.cond (.t 14) (.seq (.reg [⟨(some 2), none, .p (.mv (.c (.str [])))⟩,
    ⟨(some 3), none, .p (.mv (.c (.int .i64 2)))⟩])
  .ret) .skip))
  (.seq (.reg [⟨(some 4), none, .newO 35 [(.int .i64 0), (.int .i64 0), (.int .i64 0), (.int .i64 0), (.int .i64 0)]⟩])
  (.seq (.seq (.reg [⟨(some 5), none, .p (.mv (.c (.int .i64 4)))⟩])
  (.block 0 (.loop (.seq (.seq (.reg [⟨(some 15), none, .p (.mv (.t 5))⟩,
    ⟨(some 16), none, .p (.bin .geq (.t 15) (.c (.int .i64 0)))⟩])
  (.cond (.t 16) .skip (.exit 0)))
  (.seq (.block 1 (.seq (.reg [⟨(some 19), none, .p (.mv (.t 5))⟩,
    ⟨(some 20), none, .p (.mv (.t 0))⟩,
    ⟨(some 21), none, .p (.bin .rem (.t 20) (.c (.int .i64 32)))⟩,
    ⟨(some 22), none, .p (.idxR 5 1 (.t 4) (.t 19))⟩,
    ⟨none, none, .st 1 (.t 22) (.t 21)⟩])
  (.reg [⟨(some 23), none, .p (.mv (.t 0))⟩,
    ⟨(some 24), none, .p (.bin .quo (.t 23) (.c (.int .i64 32)))⟩,
    ⟨(some 0), none, .p (.mv (.t 24))⟩])))
  (.reg [⟨(some 17), none, .p (.mv (.t 5))⟩,
    ⟨(some 18), none, .p (.bin .sub (.t 17) (.c (.int .i64 1)))⟩,
    ⟨(some 5), none, .p (.mv (.t 18))⟩]))))))
  (.seq (.reg [⟨(some 25), none, .mksl 5 1 [(.int .u8 0)] (.c (.int .i64 0)) (.c (.int .i64 6))⟩,
    ⟨(some 6), none, .p (.mv (.t 25))⟩])
  (.seq (.seq (.reg [⟨(some 26), none, .p (.ldn 5 (.t 4))⟩,
    ⟨(some 27), none, .p (.mv (.c (.int .i64 0)))⟩])
  (.block 2 (.loop (.seq (.reg [⟨(some 28), none, .p (.bin .lss (.t 27) (.c (.int .i64 5)))⟩])
  (.seq (.cond (.t 28) .skip (.exit 2))
  (.seq (.block 3 (.seq (.reg [⟨(some 29), none, .p (.idxV 5 (.t 26) (.t 27))⟩,
    ⟨(some 8), none, .p (.mv (.t 29))⟩])
  (.reg [⟨(some 30), none, .p (.mv (.t 6))⟩,
    ⟨(some 31), none, .p (.mv (.t 8))⟩,
    ⟨(some 32), none, .p (.idxS (.c (.str [50, 51, 52, 53, 54, 55, 56, 57, 65, 66, 67, 68, 69, 70, 71, 72, 74, 75, 76, 77, 78, 80, 81, 82, 83, 84, 85, 86, 87, 88, 89, 90])) (.t 31))⟩,
    ⟨(some 33), none, .p (.bsl 1 [(.int .u8 0)] 1 [(0, (.t 32))])⟩,
    ⟨(some 34), none, .app 5 1 (.t 30) (.t 33)⟩,
    ⟨(some 6), none, .p (.mv (.t 34))⟩])))
  (.reg [⟨(some 35), none, .p (.bin .add (.t 27) (.c (.int .i64 1)))⟩,
    ⟨(some 27), none, .p (.mv (.t 35))⟩])))))))
  (.seq (.reg [⟨(some 36), none, .p (.mv (.t 6))⟩,
    ⟨(some 37), none, .p (.ldn 5 (.t 4))⟩,
    ⟨(some 38), none, .call 15 [(.t 37)]⟩,
    ⟨(some 39), none, .p (.idxS (.c (.str [50, 51, 52, 53, 54, 55, 56, 57, 65, 66, 67, 68, 69, 70, 71, 72, 74, 75, 76, 77, 78, 80, 81, 82, 83, 84, 85, 86, 87, 88, 89, 90])) (.t 38))⟩,
    ⟨(some 40), none, .p (.bsl 1 [(.int .u8 0)] 1 [(0, (.t 39))])⟩,
    ⟨(some 41), none, .app 5 1 (.t 36) (.t 40)⟩,
    ⟨(some 42), none, .p (.b2s (.t 41))⟩,
    ⟨(some 2), none, .p (.mv (.t 42))⟩,
    ⟨(some 3), none, .p (.mv (.c (.int .i64 0)))⟩])
  .ret)))))))⟩
theorem c7 : compF Try.prog ⟨fun s => [].contains s, fun _ => []⟩ Try.f7 = some a7 := by kernel_rfl

/- airline/airlineref34.Of -/
def a8 : AFun := ⟨43, [.tmp 2, .tmp 3], (.seq (.reg [⟨(some 2), none, .p (.mv (.c (.str [])))⟩,
    ⟨(some 3), none, .p (.mv (.c (.int .i64 0)))⟩])
  (.seq (.seq (.reg [⟨(some 7), none, .p (.mv (.t 0))⟩,
    ⟨(some 8), none, .p (.bin .lss (.t 7) (.c (.int .i64 0)))⟩,
    ⟨(some 9), none, .p (.mv (.t 8))⟩,
    ⟨(some 10), (some (9, false)), .p (.mv (.t 0))⟩,
    ⟨(some 11), (some (9, false)), .p (.bin .gtr (.t 10) (.c (.int .i64 33554431)))⟩,
    ⟨(some 12), none, .p (.pick (.t 9) (.c (.bool true)) (.t 11))⟩])
  (.cond (.t 12) (.seq (.reg [⟨(some 2), none, .p (.mv (.c (.str [])))⟩,
    ⟨(some 3), none, .p (.mv (.c (.int .i64 2)))⟩])
  .ret) .skip))
  (.seq (.reg [⟨(some 4), none, .p (.mv (.c (.str [])))⟩])
  (.seq (.reg [⟨(some 5), none, .p (.mv (.c (.int .i64 0)))⟩])
  (.seq (.seq (.reg [⟨(some 6), none, .p (.mv (.c (.int .i64 4)))⟩])
  (.block 0 (.loop (.seq (.seq (.reg [⟨(some 13), none, .p (.mv (.t 6))⟩,
    ⟨(some 14), none, .p (.bin .geq (.t 13) (.c (.int .i64 0)))⟩])
  (.cond (.t 14) .skip (.exit 0)))
  (.seq (.block 1 (.seq (.reg [⟨(some 17), none, .p (.mv (.t 0))⟩,
    ⟨(some 18), none, .p (.bin .rem (.t 17) (.c (.int .i64 32)))⟩,
    ⟨(some 19), none, .p (.mv (.t 0))⟩,
    ⟨(some 20), none, .p (.bin .rem (.t 19) (.c (.int .i64 32)))⟩,
    ⟨(some 21), none, .p (.bin .add (.t 20) (.c (.int .i64 1)))⟩,
    ⟨(some 22), none, .p (.slS (.c (.str [50, 51, 52, 53, 54, 55, 56, 57, 65, 66, 67, 68, 69, 70, 71, 72, 74, 75, 76, 77, 78, 80, 81, 82, 83, 84, 85, 86, 87, 88, 89, 90])) (some (.t 18)) (some (.t 21)))⟩,
    ⟨(some 23), none, .p (.mv (.t 4))⟩,
    ⟨(some 24), none, .p (.bin .add (.t 22) (.t 23))⟩,
    ⟨(some 4), none, .p (.mv (.t 24))⟩])
  (.seq (.reg [⟨(some 25), none, .p (.mv (.t 5))⟩,
    ⟨(some 26), none, .p (.mv (.t 6))⟩,
    ⟨(some 27), none, .p (.bin .mul (.c (.int .i64 2)) (.t 26))⟩,
    ⟨(some 28), none, .p (.bin .add (.t 27) (.c (.int .i64 1)))⟩,
    ⟨(some 29), none, .p (.mv (.t 0))⟩,
    ⟨(some 30), none, .p (.bin .rem (.t 29) (.c (.int .i64 32)))⟩,
    ⟨(some 31), none, .p (.bin .mul (.t 28) (.t 30))⟩,
    ⟨(some 32), none, .p (.bin .add (.t 25) (.t 31))⟩,
    ⟨(some 5), none, .p (.mv (.t 32))⟩])
  (.reg [⟨(some 33), none, .p (.mv (.t 0))⟩,
    ⟨(some 34), none, .p (.bin .quo (.t 33) (.c (.int .i64 32)))⟩,
    ⟨(some 0), none, .p (.mv (.t 34))⟩]))))
  (.reg [⟨(some 15), none, .p (.mv (.t 6))⟩,
    ⟨(some 16), none, .p (.bin .sub (.t 15) (.c (.int .i64 1)))⟩,
    ⟨(some 6), none, .p (.mv (.t 16))⟩]))))))
  (.seq (.reg [⟨(some 35), none, .p (.mv (.t 4))⟩,
    ⟨(some 36), none, .p (.mv (.t 5))⟩,
    ⟨(some 37), none, .p (.bin .rem (.t 36) (.c (.int .i64 32)))⟩,
    ⟨(some 38), none, .p (.mv (.t 5))⟩,
    ⟨(some 39), none, .p (.bin .rem (.t 38) (.c (.int .i64 32)))⟩,
    ⟨(some 40), none, .p (.bin .add (.t 39) (.c (.int .i64 1)))⟩,
    ⟨(some 41), none, .p (.slS (.c (.str [50, 51, 52, 53, 54, 55, 56, 57, 65, 66, 67, 68, 69, 70, 71, 72, 74, 75, 76, 77, 78, 80, 81, 82, 83, 84, 85, 86, 87, 88, 89, 90])) (some (.t 37)) (some (.t 40)))⟩,
    ⟨(some 42), none, .p (.bin .add (.t 35) (.t 41))⟩,
    ⟨(some 2), none, .p (.mv (.t 42))⟩,
    ⟨(some 3), none, .p (.mv (.c (.int .i64 0)))⟩])
  .ret))))))⟩
theorem c8 : compF Try.prog ⟨fun s => [].contains s, fun _ => []⟩ Try.f8 = some a8 := by kernel_rfl

/- airline/locator.Number -/
def a9 : AFun := ⟨35, [.tmp 2, .tmp 3], (.seq (.reg [⟨(some 2), none, .p (.mv (.c (.int .i64 0)))⟩,
    ⟨(some 3), none, .p (.mv (.c (.int .i64 0)))⟩])
  (.seq (.seq (.reg [⟨(some 8), none, .p (.mv (.t 0))⟩,
    ⟨(some 9), none, .p (.lenS (.t 8))⟩,
    ⟨(some 10), none, .p (.bin .neq (.t 9) (.c (.int .i64 6)))⟩])
  (.cond (.t 10) (.seq (.reg [⟨(some 2), none, .p (.mv (.c (.int .i64 0)))⟩,
    ⟨(some 3), none, .p (.mv (.c (.int .i64 3)))⟩])
  .ret) .skip))
  (.seq (.reg [⟨(some 4), none, .newO 35 [(.int .i64 0), (.int .i64 0), (.int .i64 0), (.int .i64 0), (.int .i64 0)]⟩])
  (.seq (.reg [⟨(some 5), none, .p (.mv (.c (.int .i64 0)))⟩])
  (.seq (.seq (.reg [⟨(some 11), none, .p (.mv (.c (.int .i64 0)))⟩])
  (.block 0 (.loop (.seq (.reg [⟨(some 12), none, .p (.bin .lss (.t 11) (.c (.int .i64 5)))⟩])
  (.seq (.cond (.t 12) .skip (.exit 0))
  (.seq (.block 1 (.seq (.reg [⟨(some 13), none, .p (.mv (.t 11))⟩,
    ⟨(some 6), none, .p (.mv (.t 13))⟩])
  (.seq (.reg [⟨(some 14), none, .p (.mv (.t 0))⟩,
    ⟨(some 15), none, .p (.mv (.t 6))⟩,
    ⟨(some 16), none, .p (.idxS (.t 14) (.t 15))⟩,
    ⟨(some 17), none, .call 16 [(.c (.str [50, 51, 52, 53, 54, 55, 56, 57, 65, 66, 67, 68, 69, 70, 71, 72, 74, 75, 76, 77, 78, 80, 81, 82, 83, 84, 85, 86, 87, 88, 89, 90])), (.t 16)]⟩,
    ⟨(some 7), none, .p (.mv (.t 17))⟩])
  (.seq (.seq (.reg [⟨(some 18), none, .p (.mv (.t 7))⟩,
    ⟨(some 19), none, .p (.bin .lss (.t 18) (.c (.int .i64 0)))⟩])
  (.cond (.t 19) (.seq (.reg [⟨(some 2), none, .p (.mv (.c (.int .i64 0)))⟩,
    ⟨(some 3), none, .p (.mv (.c (.int .i64 3)))⟩])
  .ret) .skip))
  (.seq (.reg [⟨(some 20), none, .p (.mv (.t 6))⟩,
    ⟨(some 21), none, .p (.mv (.t 7))⟩,
    ⟨(some 22), none, .p (.idxR 5 1 (.t 4) (.t 20))⟩,
    ⟨none, none, .st 1 (.t 22) (.t 21)⟩])
  (.reg [⟨(some 23), none, .p (.mv (.t 5))⟩,
    ⟨(some 24), none, .p (.bin .mul (.t 23) (.c (.int .i64 32)))⟩,
    ⟨(some 25), none, .p (.mv (.t 7))⟩,
    ⟨(some 26), none, .p (.bin .add (.t 24) (.t 25))⟩,
    ⟨(some 5), none, .p (.mv (.t 26))⟩]))))))
  (.reg [⟨(some 27), none, .p (.bin .add (.t 11) (.c (.int .i64 1)))⟩,
    ⟨(some 11), none, .p (.mv (.t 27))⟩])))))))
  (.seq (.seq (.oreg [(.stable, ⟨(some 28), none, .p (.mv (.t 0))⟩),
    (.stable, ⟨(some 29), none, .p (.idxS (.t 28) (.c (.int .i64 5)))⟩),
    (.quiet, ⟨(some 30), none, .p (.ldn 5 (.t 4))⟩),
    (.loud, ⟨(some 31), none, .call 15 [(.t 30)]⟩),
    (.quiet, ⟨(some 32), none, .p (.idxS (.c (.str [50, 51, 52, 53, 54, 55, 56, 57, 65, 66, 67, 68, 69, 70, 71, 72, 74, 75, 76, 77, 78, 80, 81, 82, 83, 84, 85, 86, 87, 88, 89, 90])) (.t 31))⟩),
    (.quiet, ⟨(some 33), none, .p (.bin .neq (.t 29) (.t 32))⟩)])
  (.cond (.t 33) (.seq (.reg [⟨(some 2), none, .p (.mv (.c (.int .i64 0)))⟩,
    ⟨(some 3), none, .p (.mv (.c (.int .i64 3)))⟩])
  .ret) .skip))
  (.seq (.reg [⟨(some 34), none, .p (.mv (.t 5))⟩,
    ⟨(some 2), none, .p (.mv (.t 34))⟩,
    ⟨(some 3), none, .p (.mv (.c (.int .i64 0)))⟩])
  .ret)))))))⟩
theorem c9 : compF Try.prog ⟨fun s => [].contains s, fun r => match r with | 14 => [(0, .stable), (1, .stable), (2, .quiet), (3, .loud), (4, .quiet), (5, .quiet)] | _ => []⟩ Try.f9 = some a9 := by kernel_rfl

/- airline/airlineref34.Number -/
def a10 : AFun := ⟨39, [.tmp 2, .tmp 3], (.seq (.reg [⟨(some 2), none, .p (.mv (.c (.int .i64 0)))⟩,
    ⟨(some 3), none, .p (.mv (.c (.int .i64 0)))⟩])
  (.seq (.reg [⟨(some 4), none, .p (.mv (.c (.int .i64 0)))⟩])
  (.seq (.seq (.reg [⟨(some 5), none, .p (.mv (.c (.int .i64 0)))⟩])
  (.block 0 (.loop (.seq (.seq (.reg [⟨(some 8), none, .p (.mv (.t 5))⟩,
    ⟨(some 9), none, .p (.mv (.t 0))⟩,
    ⟨(some 10), none, .p (.lenS (.t 9))⟩,
    ⟨(some 11), none, .p (.bin .lss (.t 8) (.t 10))⟩,
    ⟨(some 12), none, .p (.mv (.t 11))⟩,
    ⟨(some 13), (some (12, true)), .p (.mv (.t 5))⟩,
    ⟨(some 14), (some (12, true)), .p (.bin .lss (.t 13) (.c (.int .i64 5)))⟩,
    ⟨(some 15), none, .p (.pick (.t 12) (.t 14) (.c (.bool false)))⟩])
  (.cond (.t 15) .skip (.exit 0)))
  (.seq (.block 1 (.seq (.seq (.reg [⟨(some 18), none, .p (.mv (.t 0))⟩,
    ⟨(some 19), none, .p (.mv (.t 5))⟩,
    ⟨(some 20), none, .p (.idxS (.t 18) (.t 19))⟩,
    ⟨(some 21), none, .call 17 [(.t 20)]⟩,
    ⟨(some 22), none, .p (.bin .lss (.t 21) (.c (.int .i64 0)))⟩])
  (.cond (.t 22) (.seq (.reg [⟨(some 2), none, .p (.mv (.c (.int .i64 0)))⟩,
    ⟨(some 3), none, .p (.mv (.c (.int .i64 3)))⟩])
  .ret) .skip))
  (.reg [⟨(some 23), none, .p (.mv (.t 4))⟩,
    ⟨(some 24), none, .p (.bin .mul (.c (.int .i64 32)) (.t 23))⟩,
    ⟨(some 25), none, .p (.mv (.t 0))⟩,
    ⟨(some 26), none, .p (.mv (.t 5))⟩,
    ⟨(some 27), none, .p (.idxS (.t 25) (.t 26))⟩,
    ⟨(some 28), none, .call 17 [(.t 27)]⟩,
    ⟨(some 29), none, .p (.bin .add (.t 24) (.t 28))⟩,
    ⟨(some 4), none, .p (.mv (.t 29))⟩])))
  (.reg [⟨(some 16), none, .p (.mv (.t 5))⟩,
    ⟨(some 17), none, .p (.bin .add (.t 16) (.c (.int .i64 1)))⟩,
    ⟨(some 5), none, .p (.mv (.t 17))⟩]))))))
  (.seq (.reg [⟨(some 31), none, .p (.mv (.t 4))⟩,
    ⟨(some 32), none, .call 8 [(.t 31)]⟩,
    ⟨(some 30), none, .p (.mv (.t 32))⟩,
    ⟨(some 33), none, .p (.ext 0 (.t 30))⟩,
    ⟨(some 34), none, .p (.ext 1 (.t 30))⟩,
    ⟨(some 6), none, .p (.mv (.t 33))⟩,
    ⟨(some 7), none, .p (.mv (.t 34))⟩])
  (.seq (.seq (.reg [⟨(some 35), none, .p (.mv (.t 6))⟩,
    ⟨(some 36), none, .p (.mv (.t 0))⟩,
    ⟨(some 37), none, .p (.bin .neq (.t 35) (.t 36))⟩])
  (.cond (.t 37) (.seq (.reg [⟨(some 2), none, .p (.mv (.c (.int .i64 0)))⟩,
    ⟨(some 3), none, .p (.mv (.c (.int .i64 3)))⟩])
  .ret) .skip))
  (.seq (.reg [⟨(some 38), none, .p (.mv (.t 4))⟩,
    ⟨(some 2), none, .p (.mv (.t 38))⟩,
    ⟨(some 3), none, .p (.mv (.c (.int .i64 0)))⟩])
  .ret))))))⟩
theorem c10 : compF Try.prog ⟨fun s => [].contains s, fun _ => []⟩ Try.f10 = some a10 := by kernel_rfl

/- airline/locator.Right -/
def a11 : AFun := ⟨12, [.tmp 2], (.seq (.reg [⟨(some 2), none, .p (.mv (.c (.bool false)))⟩])
  (.seq (.reg [⟨(some 6), none, .p (.mv (.t 0))⟩,
    ⟨(some 7), none, .call 9 [(.t 6)]⟩,
    ⟨(some 5), none, .p (.mv (.t 7))⟩,
    ⟨(some 8), none, .p (.ext 0 (.t 5))⟩,
    ⟨(some 9), none, .p (.ext 1 (.t 5))⟩,
    ⟨(some 3), none, .p (.mv (.t 8))⟩,
    ⟨(some 4), none, .p (.mv (.t 9))⟩])
  (.seq (.reg [⟨(some 10), none, .p (.mv (.t 4))⟩,
    ⟨(some 11), none, .p (.bin .eql (.t 10) (.c (.int .i64 0)))⟩,
    ⟨(some 2), none, .p (.mv (.t 11))⟩])
  .ret)))⟩
theorem c11 : compF Try.prog ⟨fun s => [].contains s, fun _ => []⟩ Try.f11 = some a11 := by kernel_rfl

/- airline/airlineref34.Right -/
def a12 : AFun := ⟨12, [.tmp 2], (.seq (.reg [⟨(some 2), none, .p (.mv (.c (.bool false)))⟩])
  (.seq (.reg [⟨(some 6), none, .p (.mv (.t 0))⟩,
    ⟨(some 7), none, .call 10 [(.t 6)]⟩,
    ⟨(some 5), none, .p (.mv (.t 7))⟩,
    ⟨(some 8), none, .p (.ext 0 (.t 5))⟩,
    ⟨(some 9), none, .p (.ext 1 (.t 5))⟩,
    ⟨(some 3), none, .p (.mv (.t 8))⟩,
    ⟨(some 4), none, .p (.mv (.t 9))⟩])
  (.seq (.reg [⟨(some 10), none, .p (.mv (.t 4))⟩,
    ⟨(some 11), none, .p (.bin .eql (.t 10) (.c (.int .i64 0)))⟩,
    ⟨(some 2), none, .p (.mv (.t 11))⟩])
  .ret)))⟩
theorem c12 : compF Try.prog ⟨fun s => [].contains s, fun _ => []⟩ Try.f12 = some a12 := by kernel_rfl

/- airline/locator.Near -/
def a13 : AFun := ⟨47, [.tmp 2], (.seq (.reg [⟨(some 2), none, .p (.mv (.c .nilSl))⟩])
  (.seq (.seq (.reg [⟨(some 7), none, .p (.mv (.t 0))⟩,
    ⟨(some 8), none, .p (.lenS (.t 7))⟩,
    ⟨(some 9), none, .p (.bin .neq (.t 8) (.c (.int .i64 6)))⟩])
  (.cond (.t 9) (.seq (.reg [⟨(some 2), none, .p (.mv (.c .nilSl))⟩])
  .ret) .skip))
  (.seq (.reg [⟨(some 3), none, .p (.mv (.c .nilSl))⟩])
  (.seq (.seq (.reg [⟨(some 10), none, .p (.mv (.t 0))⟩,
    ⟨(some 11), none, .p (.lenS (.t 10))⟩,
    ⟨(some 12), none, .p (.mv (.c (.int .i64 0)))⟩])
  (.block 0 (.loop (.seq (.reg [⟨(some 13), none, .p (.bin .lss (.t 12) (.t 11))⟩])
  (.seq (.cond (.t 13) .skip (.exit 0))
  (.seq (.block 1 (.seq (.reg [⟨(some 14), none, .p (.mv (.t 12))⟩,
    ⟨(some 4), none, .p (.mv (.t 14))⟩])
  (.seq (.reg [⟨(some 15), none, .p (.mv (.c (.int .i64 0)))⟩])
  (.block 2 (.loop (.seq (.reg [⟨(some 16), none, .p (.bin .lss (.t 15) (.c (.int .i64 32)))⟩])
  (.seq (.cond (.t 16) .skip (.exit 2))
  (.seq (.block 3 (.seq (.reg [⟨(some 17), none, .p (.mv (.t 15))⟩,
    ⟨(some 5), none, .p (.mv (.t 17))⟩])
  (.seq (.oreg [(.quiet, ⟨(some 18), none, .p (.mv (.t 0))⟩),
    (.quiet, ⟨(some 19), none, .p (.mv (.t 4))⟩),
    (.quiet, ⟨(some 20), none, .p (.slS (.t 18) none (some (.t 19)))⟩),
    (.quiet, ⟨(some 21), none, .p (.mv (.t 5))⟩),
    (.quiet, ⟨(some 22), none, .p (.mv (.t 5))⟩),
    (.quiet, ⟨(some 23), none, .p (.bin .add (.t 22) (.c (.int .i64 1)))⟩),
    (.quiet, ⟨(some 24), none, .p (.slS (.c (.str [50, 51, 52, 53, 54, 55, 56, 57, 65, 66, 67, 68, 69, 70, 71, 72, 74, 75, 76, 77, 78, 80, 81, 82, 83, 84, 85, 86, 87, 88, 89, 90])) (some (.t 21)) (some (.t 23)))⟩),
    (.quiet, ⟨(some 25), none, .p (.bin .add (.t 20) (.t 24))⟩),
    (.quiet, ⟨(some 26), none, .p (.mv (.t 0))⟩),
    (.quiet, ⟨(some 27), none, .p (.mv (.t 4))⟩),
    (.quiet, ⟨(some 28), none, .p (.bin .add (.t 27) (.c (.int .i64 1)))⟩),
    (.quiet, ⟨(some 29), none, .p (.slS (.t 26) (some (.t 28)) none)⟩),
    (.quiet, ⟨(some 30), none, .p (.bin .add (.t 25) (.t 29))⟩),
    (.quiet, ⟨(some 6), none, .p (.mv (.t 30))⟩)])
  (.seq (.reg [⟨(some 31), none, .p (.mv (.t 6))⟩,
    ⟨(some 32), none, .p (.mv (.t 0))⟩,
    ⟨(some 33), none, .p (.bin .neq (.t 31) (.t 32))⟩,
    ⟨(some 34), none, .p (.mv (.t 33))⟩,
    ⟨(some 35), (some (34, true)), .p (.mv (.t 6))⟩,
    ⟨(some 36), (some (34, true)), .call 11 [(.t 35)]⟩,
    ⟨(some 37), none, .p (.pick (.t 34) (.t 36) (.c (.bool false)))⟩])
  (.cond (.t 37) (.reg [⟨(some 38), none, .p (.mv (.t 3))⟩,
    ⟨(some 39), none, .p (.mv (.t 6))⟩,
    ⟨(some 40), none, .p (.bsl 1 [(.str [])] 1 [(0, (.t 39))])⟩,
    ⟨(some 41), none, .app 9 1 (.t 38) (.t 40)⟩,
    ⟨(some 3), none, .p (.mv (.t 41))⟩]) .skip)))))
  (.reg [⟨(some 42), none, .p (.bin .add (.t 15) (.c (.int .i64 1)))⟩,
    ⟨(some 15), none, .p (.mv (.t 42))⟩])))))))))
  (.reg [⟨(some 43), none, .p (.bin .add (.t 12) (.c (.int .i64 1)))⟩,
    ⟨(some 12), none, .p (.mv (.t 43))⟩])))))))
  (.seq (.reg [⟨(some 44), none, .p (.mv (.t 3))⟩,
    ⟨(some 45), none, .call 18 [(.t 44), (.c (.func 19 [] []))]⟩])
  (.seq (.reg [⟨(some 46), none, .p (.mv (.t 3))⟩,
    ⟨(some 2), none, .p (.mv (.t 46))⟩])
  .ret))))))⟩
theorem c13 : compF Try.prog ⟨fun s => [].contains s, fun r => match r with | 10 => [(0, .quiet), (1, .quiet), (2, .quiet), (3, .quiet), (4, .quiet), (5, .quiet), (6, .quiet), (7, .quiet), (8, .quiet), (9, .quiet), (10, .quiet), (11, .quiet), (12, .quiet), (13, .quiet)] | _ => []⟩ Try.f13 = some a13 := by kernel_rfl

/- airline/airlineref34.Near -/
def a14 : AFun := ⟨42, [.tmp 2], (.seq (.reg [⟨(some 2), none, .p (.mv (.c .nilSl))⟩])
  (.seq (.reg [⟨(some 3), none, .p (.mv (.c .nilSl))⟩])
  (.seq (.seq (.reg [⟨(some 7), none, .p (.mv (.t 0))⟩,
    ⟨(some 8), none, .p (.lenS (.t 7))⟩,
    ⟨(some 9), none, .p (.bin .neq (.t 8) (.c (.int .i64 6)))⟩])
  (.cond (.t 9) (.seq (.reg [⟨(some 2), none, .p (.mv (.c .nilSl))⟩])
  .ret) .skip))
  (.seq (.seq (.reg [⟨(some 4), none, .p (.mv (.c (.int .i64 0)))⟩])
  (.block 0 (.loop (.seq (.seq (.reg [⟨(some 10), none, .p (.mv (.t 4))⟩,
    ⟨(some 11), none, .p (.bin .lss (.t 10) (.c (.int .i64 6)))⟩])
  (.cond (.t 11) .skip (.exit 0)))
  (.seq (.block 1 (.seq (.reg [⟨(some 5), none, .p (.mv (.c (.int .i64 0)))⟩])
  (.block 2 (.loop (.seq (.seq (.reg [⟨(some 14), none, .p (.mv (.t 5))⟩,
    ⟨(some 15), none, .p (.bin .lss (.t 14) (.c (.int .i64 32)))⟩])
  (.cond (.t 15) .skip (.exit 2)))
  (.seq (.block 3 (.seq (.oreg [(.quiet, ⟨(some 18), none, .p (.mv (.t 0))⟩),
    (.quiet, ⟨(some 19), none, .p (.mv (.t 4))⟩),
    (.quiet, ⟨(some 20), none, .p (.slS (.t 18) none (some (.t 19)))⟩),
    (.quiet, ⟨(some 21), none, .p (.mv (.t 5))⟩),
    (.quiet, ⟨(some 22), none, .p (.mv (.t 5))⟩),
    (.quiet, ⟨(some 23), none, .p (.bin .add (.t 22) (.c (.int .i64 1)))⟩),
    (.quiet, ⟨(some 24), none, .p (.slS (.c (.str [50, 51, 52, 53, 54, 55, 56, 57, 65, 66, 67, 68, 69, 70, 71, 72, 74, 75, 76, 77, 78, 80, 81, 82, 83, 84, 85, 86, 87, 88, 89, 90])) (some (.t 21)) (some (.t 23)))⟩),
    (.quiet, ⟨(some 25), none, .p (.bin .add (.t 20) (.t 24))⟩),
    (.quiet, ⟨(some 26), none, .p (.mv (.t 0))⟩),
    (.quiet, ⟨(some 27), none, .p (.mv (.t 4))⟩),
    (.quiet, ⟨(some 28), none, .p (.bin .add (.t 27) (.c (.int .i64 1)))⟩),
    (.quiet, ⟨(some 29), none, .p (.slS (.t 26) (some (.t 28)) none)⟩),
    (.quiet, ⟨(some 30), none, .p (.bin .add (.t 25) (.t 29))⟩),
    (.quiet, ⟨(some 6), none, .p (.mv (.t 30))⟩)])
  (.seq (.reg [⟨(some 31), none, .p (.mv (.t 6))⟩,
    ⟨(some 32), none, .p (.mv (.t 0))⟩,
    ⟨(some 33), none, .p (.bin .neq (.t 31) (.t 32))⟩,
    ⟨(some 34), none, .p (.mv (.t 33))⟩,
    ⟨(some 35), (some (34, true)), .p (.mv (.t 6))⟩,
    ⟨(some 36), (some (34, true)), .call 12 [(.t 35)]⟩,
    ⟨(some 37), none, .p (.pick (.t 34) (.t 36) (.c (.bool false)))⟩])
  (.cond (.t 37) (.reg [⟨(some 38), none, .p (.mv (.t 3))⟩,
    ⟨(some 39), none, .p (.mv (.t 6))⟩,
    ⟨(some 40), none, .call 21 [(.t 38), (.t 39)]⟩,
    ⟨(some 3), none, .p (.mv (.t 40))⟩]) .skip))))
  (.reg [⟨(some 16), none, .p (.mv (.t 5))⟩,
    ⟨(some 17), none, .p (.bin .add (.t 16) (.c (.int .i64 1)))⟩,
    ⟨(some 5), none, .p (.mv (.t 17))⟩])))))))
  (.reg [⟨(some 12), none, .p (.mv (.t 4))⟩,
    ⟨(some 13), none, .p (.bin .add (.t 12) (.c (.int .i64 1)))⟩,
    ⟨(some 4), none, .p (.mv (.t 13))⟩]))))))
  (.seq (.reg [⟨(some 41), none, .p (.mv (.t 3))⟩,
    ⟨(some 2), none, .p (.mv (.t 41))⟩])
  .ret)))))⟩
theorem c14 : compF Try.prog ⟨fun s => [].contains s, fun r => match r with | 10 => [(0, .quiet), (1, .quiet), (2, .quiet), (3, .quiet), (4, .quiet), (5, .quiet), (6, .quiet), (7, .quiet), (8, .quiet), (9, .quiet), (10, .quiet), (11, .quiet), (12, .quiet), (13, .quiet)] | _ => []⟩ Try.f14 = some a14 := by kernel_rfl

/- airline/locator.check -/
def a15 : AFun := ⟨21, [.tmp 2], (.seq (.reg [⟨(some 1), none, .p (.boxI (.t 0))⟩,
    ⟨(some 2), none, .p (.mv (.c (.int .i64 0)))⟩])
  (.seq (.reg [⟨(some 3), none, .p (.mv (.c (.int .i64 0)))⟩])
  (.seq (.seq (.reg [⟨(some 6), none, .p (.ldn 5 (.t 1))⟩,
    ⟨(some 7), none, .p (.mv (.c (.int .i64 0)))⟩])
  (.block 0 (.loop (.seq (.reg [⟨(some 8), none, .p (.bin .lss (.t 7) (.c (.int .i64 5)))⟩])
  (.seq (.cond (.t 8) .skip (.exit 0))
  (.seq (.block 1 (.seq (.reg [⟨(some 9), none, .p (.mv (.t 7))⟩,
    ⟨(some 10), none, .p (.idxV 5 (.t 6) (.t 7))⟩,
    ⟨(some 4), none, .p (.mv (.t 9))⟩,
    ⟨(some 5), none, .p (.mv (.t 10))⟩])
  (.reg [⟨(some 11), none, .p (.mv (.t 3))⟩,
    ⟨(some 12), none, .p (.mv (.t 4))⟩,
    ⟨(some 13), none, .p (.bin .mul (.c (.int .i64 2)) (.t 12))⟩,
    ⟨(some 14), none, .p (.bin .add (.t 13) (.c (.int .i64 1)))⟩,
    ⟨(some 15), none, .p (.mv (.t 5))⟩,
    ⟨(some 16), none, .p (.bin .mul (.t 14) (.t 15))⟩,
    ⟨(some 17), none, .p (.bin .add (.t 11) (.t 16))⟩,
    ⟨(some 3), none, .p (.mv (.t 17))⟩])))
  (.reg [⟨(some 18), none, .p (.bin .add (.t 7) (.c (.int .i64 1)))⟩,
    ⟨(some 7), none, .p (.mv (.t 18))⟩])))))))
  (.seq (.reg [⟨(some 19), none, .p (.mv (.t 3))⟩,
    ⟨(some 20), none, .p (.bin .rem (.t 19) (.c (.int .i64 32)))⟩,
    ⟨(some 2), none, .p (.mv (.t 20))⟩])
  .ret))))⟩
theorem c15 : compF Try.prog ⟨fun s => [].contains s, fun _ => []⟩ Try.f15 = some a15 := by kernel_rfl

/- strings.IndexByte -/
def a16 : AFun := ⟨8, [.tmp 4], (.seq (.reg [⟨(some 4), none, .p (.mv (.c (.int .i64 0)))⟩])
  (.seq (.reg [⟨(some 5), none, .p (.mv (.t 0))⟩,
    ⟨(some 6), none, .p (.mv (.t 1))⟩,
    ⟨(some 7), none, .call 22 [(.t 5), (.t 6)]⟩,
    ⟨(some 4), none, .p (.mv (.t 7))⟩])
  .ret))⟩
theorem c16 : compF Try.prog ⟨fun s => [].contains s, fun _ => []⟩ Try.f16 = some a16 := by kernel_rfl

/- airline/airlineref34.value -/
def a17 : AFun := ⟨13, [.tmp 2], (.seq (.reg [⟨(some 2), none, .p (.mv (.c (.int .i64 0)))⟩])
  (.seq (.seq (.reg [⟨(some 3), none, .p (.mv (.c (.int .i64 0)))⟩])
  (.block 0 (.loop (.seq (.seq (.reg [⟨(some 4), none, .p (.mv (.t 3))⟩,
    ⟨(some 5), none, .p (.bin .lss (.t 4) (.c (.int .i64 32)))⟩])
  (.cond (.t 5) .skip (.exit 0)))
  (.seq (.block 1 (.seq (.reg [⟨(some 8), none, .p (.mv (.t 3))⟩,
    ⟨(some 9), none, .p (.idxS (.c (.str [50, 51, 52, 53, 54, 55, 56, 57, 65, 66, 67, 68, 69, 70, 71, 72, 74, 75, 76, 77, 78, 80, 81, 82, 83, 84, 85, 86, 87, 88, 89, 90])) (.t 8))⟩,
    ⟨(some 10), none, .p (.mv (.t 0))⟩,
    ⟨(some 11), none, .p (.bin .eql (.t 9) (.t 10))⟩])
  (.cond (.t 11) (.seq (.reg [⟨(some 12), none, .p (.mv (.t 3))⟩,
    ⟨(some 2), none, .p (.mv (.t 12))⟩])
  .ret) .skip)))
  (.reg [⟨(some 6), none, .p (.mv (.t 3))⟩,
    ⟨(some 7), none, .p (.bin .add (.t 6) (.c (.int .i64 1)))⟩,
    ⟨(some 3), none, .p (.mv (.t 7))⟩]))))))
  (.seq (.reg [⟨(some 2), none, .p (.mv (.c (.int .i64 (-1))))⟩])
  .ret)))⟩
theorem c17 : compF Try.prog ⟨fun s => [].contains s, fun _ => []⟩ Try.f17 = some a17 := by kernel_rfl

/- slices.SortFunc[[]string,string] -/
def a18 : AFun := ⟨14, [], (.seq (.reg [⟨(some 5), none, .p (.mv (.t 0))⟩,
    ⟨(some 6), none, .p (.lenA (.t 5))⟩,
    ⟨(some 4), none, .p (.mv (.t 6))⟩])
  (.reg [⟨(some 7), none, .p (.mv (.t 0))⟩,
    ⟨(some 8), none, .p (.mv (.t 4))⟩,
    ⟨(some 9), none, .p (.mv (.t 4))⟩,
    ⟨(some 10), none, .p (.conv .u64 (.t 9))⟩,
    ⟨(some 11), none, .call 24 [(.t 10)]⟩,
    ⟨(some 12), none, .p (.mv (.t 1))⟩,
    ⟨(some 13), none, .call 23 [(.t 7), (.c (.int .i64 0)), (.t 8), (.t 11), (.t 12)]⟩]))⟩
theorem c18 : compF Try.prog ⟨fun s => [].contains s, fun _ => []⟩ Try.f18 = some a18 := by kernel_rfl

/- airline/locator.Near$1 -/
def a19 : AFun := ⟨22, [.tmp 4], (.seq (.reg [⟨(some 4), none, .p (.mv (.c (.int .i64 0)))⟩])
  (.seq (.reg [⟨(some 10), none, .p (.mv (.t 0))⟩,
    ⟨(some 11), none, .call 9 [(.t 10)]⟩,
    ⟨(some 9), none, .p (.mv (.t 11))⟩,
    ⟨(some 12), none, .p (.ext 0 (.t 9))⟩,
    ⟨(some 13), none, .p (.ext 1 (.t 9))⟩,
    ⟨(some 5), none, .p (.mv (.t 12))⟩,
    ⟨(some 6), none, .p (.mv (.t 13))⟩])
  (.seq (.reg [⟨(some 15), none, .p (.mv (.t 1))⟩,
    ⟨(some 16), none, .call 9 [(.t 15)]⟩,
    ⟨(some 14), none, .p (.mv (.t 16))⟩,
    ⟨(some 17), none, .p (.ext 0 (.t 14))⟩,
    ⟨(some 18), none, .p (.ext 1 (.t 14))⟩,
    ⟨(some 7), none, .p (.mv (.t 17))⟩,
    ⟨(some 8), none, .p (.mv (.t 18))⟩])
  (.seq (.reg [⟨(some 19), none, .p (.mv (.t 5))⟩,
    ⟨(some 20), none, .p (.mv (.t 7))⟩,
    ⟨(some 21), none, .call 20 [(.t 19), (.t 20)]⟩,
    ⟨(some 4), none, .p (.mv (.t 21))⟩])
  .ret))))⟩
theorem c19 : compF Try.prog ⟨fun s => [].contains s, fun _ => []⟩ Try.f19 = some a19 := by kernel_rfl

/- cmp.Compare[int] -/
def a20 : AFun := ⟨20, [.tmp 4], (.seq (.reg [⟨(some 4), none, .p (.mv (.c (.int .i64 0)))⟩])
  (.seq (.reg [⟨(some 7), none, .p (.mv (.t 0))⟩,
    ⟨(some 8), none, .call 25 [(.t 7)]⟩,
    ⟨(some 5), none, .p (.mv (.t 8))⟩])
  (.seq (.reg [⟨(some 9), none, .p (.mv (.t 1))⟩,
    ⟨(some 10), none, .call 25 [(.t 9)]⟩,
    ⟨(some 6), none, .p (.mv (.t 10))⟩])
  (.seq (.seq (.reg [⟨(some 11), none, .p (.mv (.t 5))⟩])
  (.cond (.t 11) (.seq (.seq (.reg [⟨(some 12), none, .p (.mv (.t 6))⟩])
  (.cond (.t 12) (.seq (.reg [⟨(some 4), none, .p (.mv (.c (.int .i64 0)))⟩])
  .ret) .skip))
  (.seq (.reg [⟨(some 4), none, .p (.mv (.c (.int .i64 (-1))))⟩])
  .ret)) .skip))
  (.seq (.seq (.reg [⟨(some 13), none, .p (.mv (.t 6))⟩])
  (.cond (.t 13) (.seq (.reg [⟨(some 4), none, .p (.mv (.c (.int .i64 1)))⟩])
  .ret) .skip))
  (.seq (.seq (.reg [⟨(some 14), none, .p (.mv (.t 0))⟩,
    ⟨(some 15), none, .p (.mv (.t 1))⟩,
    ⟨(some 16), none, .p (.bin .lss (.t 14) (.t 15))⟩])
  (.cond (.t 16) (.seq (.reg [⟨(some 4), none, .p (.mv (.c (.int .i64 (-1))))⟩])
  .ret) .skip))
  (.seq (.seq (.reg [⟨(some 17), none, .p (.mv (.t 0))⟩,
    ⟨(some 18), none, .p (.mv (.t 1))⟩,
    ⟨(some 19), none, .p (.bin .gtr (.t 17) (.t 18))⟩])
  (.cond (.t 19) (.seq (.reg [⟨(some 4), none, .p (.mv (.c (.int .i64 1)))⟩])
  .ret) .skip))
  (.seq (.reg [⟨(some 4), none, .p (.mv (.c (.int .i64 0)))⟩])
  .ret))))))))⟩
theorem c20 : compF Try.prog ⟨fun s => [].contains s, fun _ => []⟩ Try.f20 = some a20 := by kernel_rfl

/- airline/airlineref34.insert -/
def a21 : AFun := ⟨56, [.tmp 4], (.seq (.reg [⟨(some 4), none, .p (.mv (.c .nilSl))⟩])
  (.seq (.reg [⟨(some 13), none, .p (.mv (.t 1))⟩,
    ⟨(some 14), none, .call 10 [(.t 13)]⟩,
    ⟨(some 12), none, .p (.mv (.t 14))⟩,
    ⟨(some 15), none, .p (.ext 0 (.t 12))⟩,
    ⟨(some 16), none, .p (.ext 1 (.t 12))⟩,
    ⟨(some 5), none, .p (.mv (.t 15))⟩,
    ⟨(some 6), none, .p (.mv (.t 16))⟩])
  (.seq (.reg [⟨(some 7), none, .p (.mv (.c .nilSl))⟩])
  (.seq (.reg [⟨(some 8), none, .p (.mv (.c (.bool false)))⟩])
  (.seq (.seq (.reg [⟨(some 9), none, .p (.mv (.c (.int .i64 0)))⟩])
  (.block 0 (.loop (.seq (.seq (.reg [⟨(some 17), none, .p (.mv (.t 9))⟩,
    ⟨(some 18), none, .p (.mv (.t 0))⟩,
    ⟨(some 19), none, .p (.lenA (.t 18))⟩,
    ⟨(some 20), none, .p (.bin .lss (.t 17) (.t 19))⟩])
  (.cond (.t 20) .skip (.exit 0)))
  (.seq (.block 1 (.seq (.reg [⟨(some 24), none, .p (.mv (.t 0))⟩,
    ⟨(some 25), none, .p (.mv (.t 9))⟩,
    ⟨(some 26), none, .p (.idxA 1 (.t 24) (.t 25))⟩,
    ⟨(some 27), none, .p (.ld1 (.t 26))⟩,
    ⟨(some 28), none, .call 10 [(.t 27)]⟩,
    ⟨(some 23), none, .p (.mv (.t 28))⟩,
    ⟨(some 29), none, .p (.ext 0 (.t 23))⟩,
    ⟨(some 30), none, .p (.ext 1 (.t 23))⟩,
    ⟨(some 10), none, .p (.mv (.t 29))⟩,
    ⟨(some 11), none, .p (.mv (.t 30))⟩])
  (.seq (.seq (.reg [⟨(some 31), none, .p (.mv (.t 8))⟩,
    ⟨(some 32), none, .p (.not (.t 31))⟩,
    ⟨(some 33), none, .p (.mv (.t 32))⟩,
    ⟨(some 34), (some (33, true)), .p (.mv (.t 5))⟩,
    ⟨(some 35), (some (33, true)), .p (.mv (.t 10))⟩,
    ⟨(some 36), (some (33, true)), .p (.bin .lss (.t 34) (.t 35))⟩,
    ⟨(some 37), none, .p (.pick (.t 33) (.t 36) (.c (.bool false)))⟩])
  (.cond (.t 37) (.seq (.reg [⟨(some 38), none, .p (.mv (.t 7))⟩,
    ⟨(some 39), none, .p (.mv (.t 1))⟩,
    ⟨(some 40), none, .p (.bsl 1 [(.str [])] 1 [(0, (.t 39))])⟩,
    ⟨(some 41), none, .app 9 1 (.t 38) (.t 40)⟩,
    ⟨(some 7), none, .p (.mv (.t 41))⟩])
  (.reg [⟨(some 8), none, .p (.mv (.c (.bool true)))⟩])) .skip))
  (.reg [⟨(some 42), none, .p (.mv (.t 7))⟩,
    ⟨(some 43), none, .p (.mv (.t 0))⟩,
    ⟨(some 44), none, .p (.mv (.t 9))⟩,
    ⟨(some 45), none, .p (.idxA 1 (.t 43) (.t 44))⟩,
    ⟨(some 46), none, .p (.ld1 (.t 45))⟩,
    ⟨(some 47), none, .p (.bsl 1 [(.str [])] 1 [(0, (.t 46))])⟩,
    ⟨(some 48), none, .app 9 1 (.t 42) (.t 47)⟩,
    ⟨(some 7), none, .p (.mv (.t 48))⟩]))))
  (.reg [⟨(some 21), none, .p (.mv (.t 9))⟩,
    ⟨(some 22), none, .p (.bin .add (.t 21) (.c (.int .i64 1)))⟩,
    ⟨(some 9), none, .p (.mv (.t 22))⟩]))))))
  (.seq (.seq (.reg [⟨(some 49), none, .p (.mv (.t 8))⟩,
    ⟨(some 50), none, .p (.not (.t 49))⟩])
  (.cond (.t 50) (.reg [⟨(some 51), none, .p (.mv (.t 7))⟩,
    ⟨(some 52), none, .p (.mv (.t 1))⟩,
    ⟨(some 53), none, .p (.bsl 1 [(.str [])] 1 [(0, (.t 52))])⟩,
    ⟨(some 54), none, .app 9 1 (.t 51) (.t 53)⟩,
    ⟨(some 7), none, .p (.mv (.t 54))⟩]) .skip))
  (.seq (.reg [⟨(some 55), none, .p (.mv (.t 7))⟩,
    ⟨(some 4), none, .p (.mv (.t 55))⟩])
  .ret)))))))⟩
theorem c21 : compF Try.prog ⟨fun s => [].contains s, fun _ => []⟩ Try.f21 = some a21 := by kernel_rfl

/- internal/stringslite.IndexByte -/
def a22 : AFun := ⟨8, [.tmp 4], (.seq (.reg [⟨(some 4), none, .p (.mv (.c (.int .i64 0)))⟩])
  (.seq (.reg [⟨(some 5), none, .p (.mv (.t 0))⟩,
    ⟨(some 6), none, .p (.mv (.t 1))⟩,
    ⟨(some 7), none, .call 26 [(.t 5), (.t 6)]⟩,
    ⟨(some 4), none, .p (.mv (.t 7))⟩])
  .ret))⟩
theorem c22 : compF Try.prog ⟨fun s => [].contains s, fun _ => []⟩ Try.f22 = some a22 := by kernel_rfl

/- slices.pdqsortCmpFunc[string] -/
def a23 : AFun := ⟨148, [], (.seq (.reg [⟨(some 10), none, .p (.mv (.c (.bool true)))⟩])
  (.seq (.reg [⟨(some 11), none, .p (.mv (.c (.bool true)))⟩])
  (.block 0 (.loop (.block 1 (.seq (.reg [⟨(some 21), none, .p (.mv (.t 2))⟩,
    ⟨(some 22), none, .p (.mv (.t 1))⟩,
    ⟨(some 23), none, .p (.bin .sub (.t 21) (.t 22))⟩,
    ⟨(some 12), none, .p (.mv (.t 23))⟩])
  (.seq (.seq (.reg [⟨(some 24), none, .p (.mv (.t 12))⟩,
    ⟨(some 25), none, .p (.bin .leq (.t 24) (.c (.int .i64 12)))⟩])
  (.cond (.t 25) (.seq (.reg [⟨(some 26), none, .p (.mv (.t 0))⟩,
    ⟨(some 27), none, .p (.mv (.t 1))⟩,
    ⟨(some 28), none, .p (.mv (.t 2))⟩,
    ⟨(some 29), none, .p (.mv (.t 4))⟩,
    ⟨(some 30), none, .call 27 [(.t 26), (.t 27), (.t 28), (.t 29)]⟩])
  .ret) .skip))
  (.seq (.seq (.reg [⟨(some 31), none, .p (.mv (.t 3))⟩,
    ⟨(some 32), none, .p (.bin .eql (.t 31) (.c (.int .i64 0)))⟩])
  (.cond (.t 32) (.seq (.reg [⟨(some 33), none, .p (.mv (.t 0))⟩,
    ⟨(some 34), none, .p (.mv (.t 1))⟩,
    ⟨(some 35), none, .p (.mv (.t 2))⟩,
    ⟨(some 36), none, .p (.mv (.t 4))⟩,
    ⟨(some 37), none, .call 28 [(.t 33), (.t 34), (.t 35), (.t 36)]⟩])
  .ret) .skip))
  (.seq (.seq (.reg [⟨(some 38), none, .p (.mv (.t 10))⟩,
    ⟨(some 39), none, .p (.not (.t 38))⟩])
  (.cond (.t 39) (.seq (.reg [⟨(some 40), none, .p (.mv (.t 0))⟩,
    ⟨(some 41), none, .p (.mv (.t 1))⟩,
    ⟨(some 42), none, .p (.mv (.t 2))⟩,
    ⟨(some 43), none, .p (.mv (.t 4))⟩,
    ⟨(some 44), none, .call 29 [(.t 40), (.t 41), (.t 42), (.t 43)]⟩])
  (.reg [⟨(some 45), none, .p (.mv (.t 3))⟩,
    ⟨(some 46), none, .p (.bin .sub (.t 45) (.c (.int .i64 1)))⟩,
    ⟨(some 3), none, .p (.mv (.t 46))⟩])) .skip))
  (.seq (.reg [⟨(some 48), none, .p (.mv (.t 0))⟩,
    ⟨(some 49), none, .p (.mv (.t 1))⟩,
    ⟨(some 50), none, .p (.mv (.t 2))⟩,
    ⟨(some 51), none, .p (.mv (.t 4))⟩,
    ⟨(some 52), none, .call 30 [(.t 48), (.t 49), (.t 50), (.t 51)]⟩,
    ⟨(some 47), none, .p (.mv (.t 52))⟩,
    ⟨(some 53), none, .p (.ext 0 (.t 47))⟩,
    ⟨(some 54), none, .p (.ext 1 (.t 47))⟩,
    ⟨(some 13), none, .p (.mv (.t 53))⟩,
    ⟨(some 14), none, .p (.mv (.t 54))⟩])
  (.seq (.seq (.reg [⟨(some 55), none, .p (.mv (.t 14))⟩,
    ⟨(some 56), none, .p (.bin .eql (.t 55) (.c (.int .i64 2)))⟩])
  (.cond (.t 56) (.seq (.reg [⟨(some 57), none, .p (.mv (.t 0))⟩,
    ⟨(some 58), none, .p (.mv (.t 1))⟩,
    ⟨(some 59), none, .p (.mv (.t 2))⟩,
    ⟨(some 60), none, .p (.mv (.t 4))⟩,
    ⟨(some 61), none, .call 31 [(.t 57), (.t 58), (.t 59), (.t 60)]⟩])
  (.seq (.reg [⟨(some 62), none, .p (.mv (.t 2))⟩,
    ⟨(some 63), none, .p (.bin .sub (.t 62) (.c (.int .i64 1)))⟩,
    ⟨(some 64), none, .p (.mv (.t 13))⟩,
    ⟨(some 65), none, .p (.mv (.t 1))⟩,
    ⟨(some 66), none, .p (.bin .sub (.t 64) (.t 65))⟩,
    ⟨(some 67), none, .p (.bin .sub (.t 63) (.t 66))⟩,
    ⟨(some 13), none, .p (.mv (.t 67))⟩])
  (.reg [⟨(some 14), none, .p (.mv (.c (.int .i64 1)))⟩]))) .skip))
  (.seq (.seq (.reg [⟨(some 68), none, .p (.mv (.t 10))⟩,
    ⟨(some 69), none, .p (.mv (.t 68))⟩,
    ⟨(some 70), (some (69, true)), .p (.mv (.t 11))⟩,
    ⟨(some 71), none, .p (.pick (.t 69) (.t 70) (.c (.bool false)))⟩,
    ⟨(some 72), none, .p (.mv (.t 71))⟩,
    ⟨(some 73), (some (72, true)), .p (.mv (.t 14))⟩,
    ⟨(some 74), (some (72, true)), .p (.bin .eql (.t 73) (.c (.int .i64 1)))⟩,
    ⟨(some 75), none, .p (.pick (.t 72) (.t 74) (.c (.bool false)))⟩])
  (.cond (.t 75) (.seq (.reg [⟨(some 76), none, .p (.mv (.t 0))⟩,
    ⟨(some 77), none, .p (.mv (.t 1))⟩,
    ⟨(some 78), none, .p (.mv (.t 2))⟩,
    ⟨(some 79), none, .p (.mv (.t 4))⟩,
    ⟨(some 80), none, .call 32 [(.t 76), (.t 77), (.t 78), (.t 79)]⟩])
  (.cond (.t 80) .ret .skip)) .skip))
  (.seq (.seq (.oreg [(.quiet, ⟨(some 81), none, .p (.mv (.t 1))⟩),
    (.quiet, ⟨(some 82), none, .p (.bin .gtr (.t 81) (.c (.int .i64 0)))⟩),
    (.quiet, ⟨(some 83), none, .p (.mv (.t 82))⟩),
    (.quiet, ⟨(some 84), (some (83, true)), .p (.mv (.t 4))⟩),
    (.quiet, ⟨(some 85), (some (83, true)), .p (.mv (.t 0))⟩),
    (.quiet, ⟨(some 86), (some (83, true)), .p (.mv (.t 1))⟩),
    (.quiet, ⟨(some 87), (some (83, true)), .p (.bin .sub (.t 86) (.c (.int .i64 1)))⟩),
    (.quiet, ⟨(some 88), (some (83, true)), .p (.idxA 1 (.t 85) (.t 87))⟩),
    (.quiet, ⟨(some 89), (some (83, true)), .p (.ld1 (.t 88))⟩),
    (.quiet, ⟨(some 90), (some (83, true)), .p (.mv (.t 0))⟩),
    (.quiet, ⟨(some 91), (some (83, true)), .p (.mv (.t 13))⟩),
    (.quiet, ⟨(some 92), (some (83, true)), .p (.idxA 1 (.t 90) (.t 91))⟩),
    (.quiet, ⟨(some 93), (some (83, true)), .p (.ld1 (.t 92))⟩),
    (.loud, ⟨(some 94), (some (83, true)), .callv (.t 84) [(.t 89), (.t 93)]⟩),
    (.quiet, ⟨(some 95), (some (83, true)), .p (.bin .lss (.t 94) (.c (.int .i64 0)))⟩),
    (.quiet, ⟨(some 96), (some (83, true)), .p (.not (.t 95))⟩),
    (.quiet, ⟨(some 97), none, .p (.pick (.t 83) (.t 96) (.c (.bool false)))⟩)])
  (.cond (.t 97) (.seq (.reg [⟨(some 98), none, .p (.mv (.t 0))⟩,
    ⟨(some 99), none, .p (.mv (.t 1))⟩,
    ⟨(some 100), none, .p (.mv (.t 2))⟩,
    ⟨(some 101), none, .p (.mv (.t 13))⟩,
    ⟨(some 102), none, .p (.mv (.t 4))⟩,
    ⟨(some 103), none, .call 33 [(.t 98), (.t 99), (.t 100), (.t 101), (.t 102)]⟩,
    ⟨(some 15), none, .p (.mv (.t 103))⟩])
  (.seq (.reg [⟨(some 104), none, .p (.mv (.t 15))⟩,
    ⟨(some 1), none, .p (.mv (.t 104))⟩])
  (.exit 1))) .skip))
  (.seq (.reg [⟨(some 106), none, .p (.mv (.t 0))⟩,
    ⟨(some 107), none, .p (.mv (.t 1))⟩,
    ⟨(some 108), none, .p (.mv (.t 2))⟩,
    ⟨(some 109), none, .p (.mv (.t 13))⟩,
    ⟨(some 110), none, .p (.mv (.t 4))⟩,
    ⟨(some 111), none, .call 34 [(.t 106), (.t 107), (.t 108), (.t 109), (.t 110)]⟩,
    ⟨(some 105), none, .p (.mv (.t 111))⟩,
    ⟨(some 112), none, .p (.ext 0 (.t 105))⟩,
    ⟨(some 113), none, .p (.ext 1 (.t 105))⟩,
    ⟨(some 16), none, .p (.mv (.t 112))⟩,
    ⟨(some 17), none, .p (.mv (.t 113))⟩])
  (.seq (.reg [⟨(some 114), none, .p (.mv (.t 17))⟩,
    ⟨(some 11), none, .p (.mv (.t 114))⟩])
  (.seq (.reg [⟨(some 115), none, .p (.mv (.t 16))⟩,
    ⟨(some 116), none, .p (.mv (.t 1))⟩,
    ⟨(some 117), none, .p (.bin .sub (.t 115) (.t 116))⟩,
    ⟨(some 118), none, .p (.mv (.t 2))⟩,
    ⟨(some 119), none, .p (.mv (.t 16))⟩,
    ⟨(some 120), none, .p (.bin .sub (.t 118) (.t 119))⟩,
    ⟨(some 18), none, .p (.mv (.t 117))⟩,
    ⟨(some 19), none, .p (.mv (.t 120))⟩])
  (.seq (.reg [⟨(some 121), none, .p (.mv (.t 12))⟩,
    ⟨(some 122), none, .p (.bin .quo (.t 121) (.c (.int .i64 8)))⟩,
    ⟨(some 20), none, .p (.mv (.t 122))⟩])
  (.seq (.reg [⟨(some 123), none, .p (.mv (.t 18))⟩,
    ⟨(some 124), none, .p (.mv (.t 19))⟩,
    ⟨(some 125), none, .p (.bin .lss (.t 123) (.t 124))⟩])
  (.cond (.t 125) (.seq (.reg [⟨(some 126), none, .p (.mv (.t 18))⟩,
    ⟨(some 127), none, .p (.mv (.t 20))⟩,
    ⟨(some 128), none, .p (.bin .geq (.t 126) (.t 127))⟩,
    ⟨(some 10), none, .p (.mv (.t 128))⟩])
  (.seq (.reg [⟨(some 129), none, .p (.mv (.t 0))⟩,
    ⟨(some 130), none, .p (.mv (.t 1))⟩,
    ⟨(some 131), none, .p (.mv (.t 16))⟩,
    ⟨(some 132), none, .p (.mv (.t 3))⟩,
    ⟨(some 133), none, .p (.mv (.t 4))⟩,
    ⟨(some 134), none, .call 23 [(.t 129), (.t 130), (.t 131), (.t 132), (.t 133)]⟩])
  (.reg [⟨(some 135), none, .p (.mv (.t 16))⟩,
    ⟨(some 136), none, .p (.bin .add (.t 135) (.c (.int .i64 1)))⟩,
    ⟨(some 1), none, .p (.mv (.t 136))⟩]))) (.seq (.reg [⟨(some 137), none, .p (.mv (.t 19))⟩,
    ⟨(some 138), none, .p (.mv (.t 20))⟩,
    ⟨(some 139), none, .p (.bin .geq (.t 137) (.t 138))⟩,
    ⟨(some 10), none, .p (.mv (.t 139))⟩])
  (.seq (.reg [⟨(some 140), none, .p (.mv (.t 0))⟩,
    ⟨(some 141), none, .p (.mv (.t 16))⟩,
    ⟨(some 142), none, .p (.bin .add (.t 141) (.c (.int .i64 1)))⟩,
    ⟨(some 143), none, .p (.mv (.t 2))⟩,
    ⟨(some 144), none, .p (.mv (.t 3))⟩,
    ⟨(some 145), none, .p (.mv (.t 4))⟩,
    ⟨(some 146), none, .call 23 [(.t 140), (.t 142), (.t 143), (.t 144), (.t 145)]⟩])
  (.reg [⟨(some 147), none, .p (.mv (.t 16))⟩,
    ⟨(some 2), none, .p (.mv (.t 147))⟩]))))))))))))))))))))))⟩
theorem c23 : compF Try.prog ⟨fun s => [].contains s, fun r => match r with | 17 => [(0, .quiet), (1, .quiet), (2, .quiet), (3, .quiet), (4, .quiet), (5, .quiet), (6, .quiet), (7, .quiet), (8, .quiet), (9, .quiet), (10, .quiet), (11, .quiet), (12, .quiet), (13, .loud), (14, .quiet), (15, .quiet), (16, .quiet)] | _ => []⟩ Try.f23 = some a23 := by kernel_rfl

/- math/bits.Len -/
def a24 : AFun := ⟨8, [.tmp 2], (.seq (.reg [⟨(some 2), none, .p (.mv (.c (.int .i64 0)))⟩])
  (.seq (.cond (.c (.bool false)) (.seq (.reg [⟨(some 3), none, .p (.mv (.t 0))⟩,
    ⟨(some 4), none, .p (.conv .u32 (.t 3))⟩,
    ⟨(some 5), none, .call 35 [(.t 4)]⟩,
    ⟨(some 2), none, .p (.mv (.t 5))⟩])
  .ret) .skip)
  (.seq (.reg [⟨(some 6), none, .p (.mv (.t 0))⟩,
    ⟨(some 7), none, .call 36 [(.t 6)]⟩,
    ⟨(some 2), none, .p (.mv (.t 7))⟩])
  .ret)))⟩
theorem c24 : compF Try.prog ⟨fun s => [].contains s, fun _ => []⟩ Try.f24 = some a24 := by kernel_rfl

/- cmp.isNaN[int] -/
def a25 : AFun := ⟨6, [.tmp 2], (.seq (.reg [⟨(some 2), none, .p (.mv (.c (.bool false)))⟩])
  (.seq (.reg [⟨(some 3), none, .p (.mv (.t 0))⟩,
    ⟨(some 4), none, .p (.mv (.t 0))⟩,
    ⟨(some 5), none, .p (.bin .neq (.t 3) (.t 4))⟩,
    ⟨(some 2), none, .p (.mv (.t 5))⟩])
  .ret))⟩
theorem c25 : compF Try.prog ⟨fun s => [].contains s, fun _ => []⟩ Try.f25 = some a25 := by kernel_rfl

/- slices.insertionSortCmpFunc[string] -/
def a27 : AFun := ⟨53, [], (.seq (.reg [⟨(some 10), none, .p (.mv (.t 1))⟩,
    ⟨(some 11), none, .p (.bin .add (.t 10) (.c (.int .i64 1)))⟩,
    ⟨(some 8), none, .p (.mv (.t 11))⟩])
  (.block 0 (.loop (.seq (.seq (.reg [⟨(some 12), none, .p (.mv (.t 8))⟩,
    ⟨(some 13), none, .p (.mv (.t 2))⟩,
    ⟨(some 14), none, .p (.bin .lss (.t 12) (.t 13))⟩])
  (.cond (.t 14) .skip (.exit 0)))
  (.seq (.block 1 (.seq (.reg [⟨(some 17), none, .p (.mv (.t 8))⟩,
    ⟨(some 9), none, .p (.mv (.t 17))⟩])
  (.block 2 (.loop (.seq (.seq (.oreg [(.quiet, ⟨(some 18), none, .p (.mv (.t 9))⟩),
    (.quiet, ⟨(some 19), none, .p (.mv (.t 1))⟩),
    (.quiet, ⟨(some 20), none, .p (.bin .gtr (.t 18) (.t 19))⟩),
    (.quiet, ⟨(some 21), none, .p (.mv (.t 20))⟩),
    (.quiet, ⟨(some 22), (some (21, true)), .p (.mv (.t 3))⟩),
    (.quiet, ⟨(some 23), (some (21, true)), .p (.mv (.t 0))⟩),
    (.quiet, ⟨(some 24), (some (21, true)), .p (.mv (.t 9))⟩),
    (.quiet, ⟨(some 25), (some (21, true)), .p (.idxA 1 (.t 23) (.t 24))⟩),
    (.quiet, ⟨(some 26), (some (21, true)), .p (.ld1 (.t 25))⟩),
    (.quiet, ⟨(some 27), (some (21, true)), .p (.mv (.t 0))⟩),
    (.quiet, ⟨(some 28), (some (21, true)), .p (.mv (.t 9))⟩),
    (.quiet, ⟨(some 29), (some (21, true)), .p (.bin .sub (.t 28) (.c (.int .i64 1)))⟩),
    (.quiet, ⟨(some 30), (some (21, true)), .p (.idxA 1 (.t 27) (.t 29))⟩),
    (.quiet, ⟨(some 31), (some (21, true)), .p (.ld1 (.t 30))⟩),
    (.loud, ⟨(some 32), (some (21, true)), .callv (.t 22) [(.t 26), (.t 31)]⟩),
    (.quiet, ⟨(some 33), (some (21, true)), .p (.bin .lss (.t 32) (.c (.int .i64 0)))⟩),
    (.quiet, ⟨(some 34), none, .p (.pick (.t 21) (.t 33) (.c (.bool false)))⟩)])
  (.cond (.t 34) .skip (.exit 2)))
  (.seq (.block 3 (.oreg [(.quiet, ⟨(some 37), none, .p (.mv (.t 0))⟩),
    (.quiet, ⟨(some 38), none, .p (.mv (.t 9))⟩),
    (.stable, ⟨(some 39), none, .p (.mv (.t 0))⟩),
    (.stable, ⟨(some 40), none, .p (.mv (.t 9))⟩),
    (.stable, ⟨(some 41), none, .p (.bin .sub (.t 40) (.c (.int .i64 1)))⟩),
    (.quiet, ⟨(some 42), none, .p (.mv (.t 0))⟩),
    (.quiet, ⟨(some 43), none, .p (.mv (.t 9))⟩),
    (.quiet, ⟨(some 44), none, .p (.bin .sub (.t 43) (.c (.int .i64 1)))⟩),
    (.quiet, ⟨(some 45), none, .p (.idxA 1 (.t 42) (.t 44))⟩),
    (.quiet, ⟨(some 46), none, .p (.ld1 (.t 45))⟩),
    (.quiet, ⟨(some 47), none, .p (.mv (.t 0))⟩),
    (.quiet, ⟨(some 48), none, .p (.mv (.t 9))⟩),
    (.quiet, ⟨(some 49), none, .p (.idxA 1 (.t 47) (.t 48))⟩),
    (.quiet, ⟨(some 50), none, .p (.ld1 (.t 49))⟩),
    (.quiet, ⟨(some 51), none, .p (.idxA 1 (.t 37) (.t 38))⟩),
    (.loud, ⟨none, none, .st 1 (.t 51) (.t 46)⟩),
    (.quiet, ⟨(some 52), none, .p (.idxA 1 (.t 39) (.t 41))⟩),
    (.loud, ⟨none, none, .st 1 (.t 52) (.t 50)⟩)]))
  (.reg [⟨(some 35), none, .p (.mv (.t 9))⟩,
    ⟨(some 36), none, .p (.bin .sub (.t 35) (.c (.int .i64 1)))⟩,
    ⟨(some 9), none, .p (.mv (.t 36))⟩])))))))
  (.reg [⟨(some 15), none, .p (.mv (.t 8))⟩,
    ⟨(some 16), none, .p (.bin .add (.t 15) (.c (.int .i64 1)))⟩,
    ⟨(some 8), none, .p (.mv (.t 16))⟩]))))))⟩
theorem c27 : compF Try.prog ⟨fun s => [].contains s, fun r => match r with | 4 => [(0, .quiet), (1, .quiet), (2, .quiet), (3, .quiet), (4, .quiet), (5, .quiet), (6, .quiet), (7, .quiet), (8, .quiet), (9, .quiet), (10, .quiet), (11, .quiet), (12, .quiet), (13, .quiet), (14, .loud), (15, .quiet), (16, .quiet)]  | 6 => [(0, .quiet), (1, .quiet), (2, .stable), (3, .stable), (4, .stable), (5, .quiet), (6, .quiet), (7, .quiet), (8, .quiet), (9, .quiet), (10, .quiet), (11, .quiet), (12, .quiet), (13, .quiet), (14, .quiet), (15, .loud), (16, .quiet), (17, .loud)] | _ => []⟩ Try.f27 = some a27 := by kernel_rfl

/- math/bits.Len32 -/
def a35 : AFun := ⟨19, [.tmp 2], (.seq (.reg [⟨(some 2), none, .p (.mv (.c (.int .i64 0)))⟩])
  (.seq (.seq (.reg [⟨(some 3), none, .p (.mv (.t 0))⟩,
    ⟨(some 4), none, .p (.bin .geq (.t 3) (.c (.int .u32 65536)))⟩])
  (.cond (.t 4) (.seq (.reg [⟨(some 5), none, .p (.mv (.t 0))⟩,
    ⟨(some 6), none, .p (.bin .shr (.t 5) (.c (.int .u64 16)))⟩,
    ⟨(some 0), none, .p (.mv (.t 6))⟩])
  (.reg [⟨(some 2), none, .p (.mv (.c (.int .i64 16)))⟩])) .skip))
  (.seq (.seq (.reg [⟨(some 7), none, .p (.mv (.t 0))⟩,
    ⟨(some 8), none, .p (.bin .geq (.t 7) (.c (.int .u32 256)))⟩])
  (.cond (.t 8) (.seq (.reg [⟨(some 9), none, .p (.mv (.t 0))⟩,
    ⟨(some 10), none, .p (.bin .shr (.t 9) (.c (.int .u64 8)))⟩,
    ⟨(some 0), none, .p (.mv (.t 10))⟩])
  (.reg [⟨(some 11), none, .p (.mv (.t 2))⟩,
    ⟨(some 12), none, .p (.bin .add (.t 11) (.c (.int .i64 8)))⟩,
    ⟨(some 2), none, .p (.mv (.t 12))⟩])) .skip))
  (.seq (.reg [⟨(some 13), none, .p (.mv (.t 2))⟩,
    ⟨(some 14), none, .p (.mv (.t 0))⟩,
    ⟨(some 15), none, .p (.conv .u8 (.t 14))⟩,
    ⟨(some 16), none, .p (.idxS (.c (.str [0, 1, 2, 2, 3, 3, 3, 3, 4, 4, 4, 4, 4, 4, 4, 4, 5, 5, 5, 5, 5, 5, 5, 5, 5, 5, 5, 5, 5, 5, 5, 5, 6, 6, 6, 6, 6, 6, 6, 6, 6, 6, 6, 6, 6, 6, 6, 6, 6, 6, 6, 6, 6, 6, 6, 6, 6, 6, 6, 6, 6, 6, 6, 6, 7, 7, 7, 7, 7, 7, 7, 7, 7, 7, 7, 7, 7, 7, 7, 7, 7, 7, 7, 7, 7, 7, 7, 7, 7, 7, 7, 7, 7, 7, 7, 7, 7, 7, 7, 7, 7, 7, 7, 7, 7, 7, 7, 7, 7, 7, 7, 7, 7, 7, 7, 7, 7, 7, 7, 7, 7, 7, 7, 7, 7, 7, 7, 7, 8, 8, 8, 8, 8, 8, 8, 8, 8, 8, 8, 8, 8, 8, 8, 8, 8, 8, 8, 8, 8, 8, 8, 8, 8, 8, 8, 8, 8, 8, 8, 8, 8, 8, 8, 8, 8, 8, 8, 8, 8, 8, 8, 8, 8, 8, 8, 8, 8, 8, 8, 8, 8, 8, 8, 8, 8, 8, 8, 8, 8, 8, 8, 8, 8, 8, 8, 8, 8, 8, 8, 8, 8, 8, 8, 8, 8, 8, 8, 8, 8, 8, 8, 8, 8, 8, 8, 8, 8, 8, 8, 8, 8, 8, 8, 8, 8, 8, 8, 8, 8, 8, 8, 8, 8, 8, 8, 8, 8, 8, 8, 8, 8, 8, 8, 8, 8, 8, 8, 8, 8, 8, 8, 8, 8, 8, 8, 8])) (.t 15))⟩,
    ⟨(some 17), none, .p (.conv .i64 (.t 16))⟩,
    ⟨(some 18), none, .p (.bin .add (.t 13) (.t 17))⟩,
    ⟨(some 2), none, .p (.mv (.t 18))⟩])
  .ret))))⟩
theorem c35 : compF Try.prog ⟨fun s => [].contains s, fun _ => []⟩ Try.f35 = some a35 := by kernel_rfl

/- math/bits.Len64 -/
def a36 : AFun := ⟨25, [.tmp 2], (.seq (.reg [⟨(some 2), none, .p (.mv (.c (.int .i64 0)))⟩])
  (.seq (.seq (.reg [⟨(some 3), none, .p (.mv (.t 0))⟩,
    ⟨(some 4), none, .p (.bin .geq (.t 3) (.c (.int .u64 4294967296)))⟩])
  (.cond (.t 4) (.seq (.reg [⟨(some 5), none, .p (.mv (.t 0))⟩,
    ⟨(some 6), none, .p (.bin .shr (.t 5) (.c (.int .u64 32)))⟩,
    ⟨(some 0), none, .p (.mv (.t 6))⟩])
  (.reg [⟨(some 2), none, .p (.mv (.c (.int .i64 32)))⟩])) .skip))
  (.seq (.seq (.reg [⟨(some 7), none, .p (.mv (.t 0))⟩,
    ⟨(some 8), none, .p (.bin .geq (.t 7) (.c (.int .u64 65536)))⟩])
  (.cond (.t 8) (.seq (.reg [⟨(some 9), none, .p (.mv (.t 0))⟩,
    ⟨(some 10), none, .p (.bin .shr (.t 9) (.c (.int .u64 16)))⟩,
    ⟨(some 0), none, .p (.mv (.t 10))⟩])
  (.reg [⟨(some 11), none, .p (.mv (.t 2))⟩,
    ⟨(some 12), none, .p (.bin .add (.t 11) (.c (.int .i64 16)))⟩,
    ⟨(some 2), none, .p (.mv (.t 12))⟩])) .skip))
  (.seq (.seq (.reg [⟨(some 13), none, .p (.mv (.t 0))⟩,
    ⟨(some 14), none, .p (.bin .geq (.t 13) (.c (.int .u64 256)))⟩])
  (.cond (.t 14) (.seq (.reg [⟨(some 15), none, .p (.mv (.t 0))⟩,
    ⟨(some 16), none, .p (.bin .shr (.t 15) (.c (.int .u64 8)))⟩,
    ⟨(some 0), none, .p (.mv (.t 16))⟩])
  (.reg [⟨(some 17), none, .p (.mv (.t 2))⟩,
    ⟨(some 18), none, .p (.bin .add (.t 17) (.c (.int .i64 8)))⟩,
    ⟨(some 2), none, .p (.mv (.t 18))⟩])) .skip))
  (.seq (.reg [⟨(some 19), none, .p (.mv (.t 2))⟩,
    ⟨(some 20), none, .p (.mv (.t 0))⟩,
    ⟨(some 21), none, .p (.conv .u8 (.t 20))⟩,
    ⟨(some 22), none, .p (.idxS (.c (.str [0, 1, 2, 2, 3, 3, 3, 3, 4, 4, 4, 4, 4, 4, 4, 4, 5, 5, 5, 5, 5, 5, 5, 5, 5, 5, 5, 5, 5, 5, 5, 5, 6, 6, 6, 6, 6, 6, 6, 6, 6, 6, 6, 6, 6, 6, 6, 6, 6, 6, 6, 6, 6, 6, 6, 6, 6, 6, 6, 6, 6, 6, 6, 6, 7, 7, 7, 7, 7, 7, 7, 7, 7, 7, 7, 7, 7, 7, 7, 7, 7, 7, 7, 7, 7, 7, 7, 7, 7, 7, 7, 7, 7, 7, 7, 7, 7, 7, 7, 7, 7, 7, 7, 7, 7, 7, 7, 7, 7, 7, 7, 7, 7, 7, 7, 7, 7, 7, 7, 7, 7, 7, 7, 7, 7, 7, 7, 7, 8, 8, 8, 8, 8, 8, 8, 8, 8, 8, 8, 8, 8, 8, 8, 8, 8, 8, 8, 8, 8, 8, 8, 8, 8, 8, 8, 8, 8, 8, 8, 8, 8, 8, 8, 8, 8, 8, 8, 8, 8, 8, 8, 8, 8, 8, 8, 8, 8, 8, 8, 8, 8, 8, 8, 8, 8, 8, 8, 8, 8, 8, 8, 8, 8, 8, 8, 8, 8, 8, 8, 8, 8, 8, 8, 8, 8, 8, 8, 8, 8, 8, 8, 8, 8, 8, 8, 8, 8, 8, 8, 8, 8, 8, 8, 8, 8, 8, 8, 8, 8, 8, 8, 8, 8, 8, 8, 8, 8, 8, 8, 8, 8, 8, 8, 8, 8, 8, 8, 8, 8, 8, 8, 8, 8, 8, 8, 8])) (.t 21))⟩,
    ⟨(some 23), none, .p (.conv .i64 (.t 22))⟩,
    ⟨(some 24), none, .p (.bin .add (.t 19) (.t 23))⟩,
    ⟨(some 2), none, .p (.mv (.t 24))⟩])
  .ret)))))⟩
theorem c36 : compF Try.prog ⟨fun s => [].contains s, fun _ => []⟩ Try.f36 = some a36 := by kernel_rfl

end Go.Proofs.Ytnepgfplikifjaa
