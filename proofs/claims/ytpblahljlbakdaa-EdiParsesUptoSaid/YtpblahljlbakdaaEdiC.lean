/- The functions of 'edi', compiled (printed by gen.sh). -/
import Derived.Test.YtpblahljlbakdaaAlS
import Derived.Test.YtpblahljlbakdaaProg
namespace Go.Proofs.Ytpblahljlbakdaa
open Go Go.AL

/- airline/airlinelaw43.EdiPrints -/
def a3 : AFun := ⟨58, [.tmp 4], (.seq (.reg [⟨(some 4), none, .p (.mv (.c (.bool false)))⟩])
  (.seq (.seq (.reg [⟨(some 9), none, .p (.mv (.t 0))⟩,
    ⟨(some 10), none, .call 8 [(.t 9), (.c (.int .i64 3000))]⟩,
    ⟨(some 11), none, .p (.mv (.t 10))⟩,
    ⟨(some 12), (some (11, false)), .p (.mv (.t 1))⟩,
    ⟨(some 13), (some (11, false)), .call 8 [(.t 12), (.c (.int .i64 3000))]⟩,
    ⟨(some 14), none, .p (.pick (.t 11) (.c (.bool true)) (.t 13))⟩])
  (.cond (.t 14) (.seq (.reg [⟨(some 15), none, .call 9 []⟩,
    ⟨(some 4), none, .p (.mv (.t 15))⟩])
  .ret) .skip))
  (.seq (.reg [⟨(some 17), none, .p (.mv (.t 0))⟩,
    ⟨(some 18), none, .call 10 [(.t 17)]⟩,
    ⟨(some 16), none, .p (.mv (.t 18))⟩,
    ⟨(some 19), none, .p (.ext 0 (.t 16))⟩,
    ⟨(some 20), none, .p (.ext 1 (.t 16))⟩,
    ⟨(some 5), none, .p (.mv (.t 19))⟩,
    ⟨(some 6), none, .p (.mv (.t 20))⟩])
  (.seq (.reg [⟨(some 22), none, .p (.mv (.t 0))⟩,
    ⟨(some 23), none, .call 11 [(.t 22)]⟩,
    ⟨(some 21), none, .p (.mv (.t 23))⟩,
    ⟨(some 24), none, .p (.ext 0 (.t 21))⟩,
    ⟨(some 25), none, .p (.ext 1 (.t 21))⟩,
    ⟨(some 7), none, .p (.mv (.t 24))⟩,
    ⟨(some 8), none, .p (.mv (.t 25))⟩])
  (.seq (.reg [⟨(some 26), none, .p (.mv (.t 5))⟩,
    ⟨(some 27), none, .p (.mv (.t 7))⟩,
    ⟨(some 28), none, .p (.bin .eql (.t 26) (.t 27))⟩,
    ⟨(some 29), none, .p (.mv (.t 28))⟩,
    ⟨(some 30), (some (29, true)), .p (.mv (.t 6))⟩,
    ⟨(some 31), (some (29, true)), .p (.mv (.t 8))⟩,
    ⟨(some 32), (some (29, true)), .p (.bin .eql (.t 30) (.t 31))⟩,
    ⟨(some 33), none, .p (.pick (.t 29) (.t 32) (.c (.bool false)))⟩,
    ⟨(some 34), none, .p (.mv (.t 33))⟩,
    ⟨(some 35), (some (34, true)), .p (.mv (.t 0))⟩,
    ⟨(some 36), (some (34, true)), .call 12 [(.t 35)]⟩,
    ⟨(some 37), (some (34, true)), .p (.mv (.t 0))⟩,
    ⟨(some 38), (some (34, true)), .call 13 [(.t 37)]⟩,
    ⟨(some 39), (some (34, true)), .p (.eqb false (.t 36) (.t 38))⟩,
    ⟨(some 40), none, .p (.pick (.t 34) (.t 39) (.c (.bool false)))⟩,
    ⟨(some 41), none, .p (.mv (.t 40))⟩,
    ⟨(some 42), (some (41, true)), .p (.mv (.t 0))⟩,
    ⟨(some 43), (some (41, true)), .p (.mv (.t 1))⟩,
    ⟨(some 44), (some (41, true)), .call 14 [(.t 42), (.t 43)]⟩,
    ⟨(some 45), (some (41, true)), .p (.mv (.t 0))⟩,
    ⟨(some 46), (some (41, true)), .p (.mv (.t 1))⟩,
    ⟨(some 47), (some (41, true)), .call 15 [(.t 45), (.t 46)]⟩,
    ⟨(some 48), (some (41, true)), .p (.eqb false (.t 44) (.t 47))⟩,
    ⟨(some 49), none, .p (.pick (.t 41) (.t 48) (.c (.bool false)))⟩,
    ⟨(some 50), none, .p (.mv (.t 49))⟩,
    ⟨(some 51), (some (50, true)), .p (.mv (.t 0))⟩,
    ⟨(some 52), (some (50, true)), .p (.mv (.t 0))⟩,
    ⟨(some 53), (some (50, true)), .call 14 [(.t 51), (.t 52)]⟩,
    ⟨(some 54), none, .p (.pick (.t 50) (.t 53) (.c (.bool false)))⟩,
    ⟨(some 55), none, .p (.mv (.t 54))⟩,
    ⟨(some 56), (some (55, true)), .call 9 []⟩,
    ⟨(some 57), none, .p (.pick (.t 55) (.t 56) (.c (.bool false)))⟩,
    ⟨(some 4), none, .p (.mv (.t 57))⟩])
  .ret)))))⟩
theorem c3 : compF Try.prog ⟨fun s => [].contains s, fun _ => []⟩ Try.f3 = some a3 := by kernel_rfl

/- airline/airlinelaw43.EdiParses -/
def a4 : AFun := ⟨46, [.tmp 2], (.seq (.reg [⟨(some 2), none, .p (.mv (.c (.bool false)))⟩])
  (.seq (.seq (.reg [⟨(some 9), none, .p (.mv (.t 0))⟩,
    ⟨(some 10), none, .p (.lenS (.t 9))⟩,
    ⟨(some 11), none, .p (.bin .gtr (.t 10) (.c (.int .i64 3000)))⟩,
    ⟨(some 12), none, .p (.mv (.t 11))⟩,
    ⟨(some 13), (some (12, true)), .p (.mv (.t 0))⟩,
    ⟨(some 14), (some (12, true)), .p (.lenS (.t 13))⟩,
    ⟨(some 15), (some (12, true)), .p (.bin .leq (.t 14) (.c (.int .i64 65536)))⟩,
    ⟨(some 16), none, .p (.pick (.t 12) (.t 15) (.c (.bool false)))⟩])
  (.cond (.t 16) (.seq (.reg [⟨(some 17), none, .call 9 []⟩,
    ⟨(some 2), none, .p (.mv (.t 17))⟩])
  .ret) .skip))
  (.seq (.reg [⟨(some 19), none, .p (.mv (.t 0))⟩,
    ⟨(some 20), none, .call 16 [(.t 19)]⟩,
    ⟨(some 18), none, .p (.mv (.t 20))⟩,
    ⟨(some 21), none, .p (.ext 0 (.t 18))⟩,
    ⟨(some 22), none, .p (.ext 1 (.t 18))⟩,
    ⟨(some 23), none, .p (.ext 2 (.t 18))⟩,
    ⟨(some 3), none, .p (.mv (.t 21))⟩,
    ⟨(some 4), none, .p (.mv (.t 22))⟩,
    ⟨(some 5), none, .p (.mv (.t 23))⟩])
  (.seq (.reg [⟨(some 25), none, .p (.mv (.t 0))⟩,
    ⟨(some 26), none, .call 17 [(.t 25)]⟩,
    ⟨(some 24), none, .p (.mv (.t 26))⟩,
    ⟨(some 27), none, .p (.ext 0 (.t 24))⟩,
    ⟨(some 28), none, .p (.ext 1 (.t 24))⟩,
    ⟨(some 29), none, .p (.ext 2 (.t 24))⟩,
    ⟨(some 6), none, .p (.mv (.t 27))⟩,
    ⟨(some 7), none, .p (.mv (.t 28))⟩,
    ⟨(some 8), none, .p (.mv (.t 29))⟩])
  (.seq (.reg [⟨(some 30), none, .p (.mv (.t 3))⟩,
    ⟨(some 31), none, .p (.mv (.t 6))⟩,
    ⟨(some 32), none, .call 15 [(.t 30), (.t 31)]⟩,
    ⟨(some 33), none, .p (.mv (.t 32))⟩,
    ⟨(some 34), (some (33, true)), .p (.mv (.t 4))⟩,
    ⟨(some 35), (some (33, true)), .p (.mv (.t 7))⟩,
    ⟨(some 36), (some (33, true)), .p (.bin .eql (.t 34) (.t 35))⟩,
    ⟨(some 37), none, .p (.pick (.t 33) (.t 36) (.c (.bool false)))⟩,
    ⟨(some 38), none, .p (.mv (.t 37))⟩,
    ⟨(some 39), (some (38, true)), .p (.mv (.t 5))⟩,
    ⟨(some 40), (some (38, true)), .p (.mv (.t 8))⟩,
    ⟨(some 41), (some (38, true)), .p (.bin .eql (.t 39) (.t 40))⟩,
    ⟨(some 42), none, .p (.pick (.t 38) (.t 41) (.c (.bool false)))⟩,
    ⟨(some 43), none, .p (.mv (.t 42))⟩,
    ⟨(some 44), (some (43, true)), .call 9 []⟩,
    ⟨(some 45), none, .p (.pick (.t 43) (.t 44) (.c (.bool false)))⟩,
    ⟨(some 2), none, .p (.mv (.t 45))⟩])
  .ret)))))⟩
theorem c4 : compF Try.prog ⟨fun s => [].contains s, fun _ => []⟩ Try.f4 = some a4 := by kernel_rfl

/- airline/airlinelaw43.EdiGets -/
def a5 : AFun := ⟨24, [.tmp 6], (.seq (.reg [⟨(some 3), none, .p (.boxI (.t 0))⟩,
    ⟨(some 6), none, .p (.mv (.c (.bool false)))⟩])
  (.seq (.oreg [(.quiet, ⟨(some 7), none, .p (.ldn 2 (.t 3))⟩),
    (.quiet, ⟨(some 8), none, .p (.bsl 2 [(.str []), .nilSl] 1 [(0, (.t 7))])⟩),
    (.loud, ⟨(some 9), none, .call 8 [(.t 8), (.c (.int .i64 3000))]⟩),
    (.quiet, ⟨(some 10), none, .p (.mv (.t 9))⟩),
    (.quiet, ⟨(some 11), (some (10, false)), .p (.ldn 2 (.t 3))⟩),
    (.quiet, ⟨(some 12), (some (10, false)), .p (.mv (.t 1))⟩),
    (.quiet, ⟨(some 13), (some (10, false)), .p (.mv (.t 2))⟩),
    (.quiet, ⟨(some 15), (some (10, false)), .p (.ldn 2 (.t 3))⟩),
    (.quiet, ⟨(some 16), (some (10, false)), .p (.mv (.t 1))⟩),
    (.quiet, ⟨(some 17), (some (10, false)), .p (.mv (.t 2))⟩),
    (.quiet, ⟨(some 14), (some (10, false)), .call 18 [(.t 11), (.t 12), (.t 13)]⟩),
    (.loud, ⟨(some 18), (some (10, false)), .call 19 [(.t 15), (.t 16), (.t 17)]⟩),
    (.quiet, ⟨(some 19), (some (10, false)), .p (.bin .eql (.t 14) (.t 18))⟩),
    (.quiet, ⟨(some 20), none, .p (.pick (.t 10) (.c (.bool true)) (.t 19))⟩),
    (.quiet, ⟨(some 21), none, .p (.mv (.t 20))⟩),
    (.loud, ⟨(some 22), (some (21, true)), .call 9 []⟩),
    (.quiet, ⟨(some 23), none, .p (.pick (.t 21) (.t 22) (.c (.bool false)))⟩),
    (.quiet, ⟨(some 6), none, .p (.mv (.t 23))⟩)])
  .ret))⟩
theorem c5 : compF Try.prog ⟨fun s => [].contains s, fun r => match r with | 1 => [(0, .quiet), (1, .quiet), (2, .loud), (3, .quiet), (4, .quiet), (5, .quiet), (6, .quiet), (8, .quiet), (9, .quiet), (10, .quiet), (7, .quiet), (11, .loud), (12, .quiet), (13, .quiet), (14, .quiet), (15, .loud), (16, .quiet), (17, .quiet)] | _ => []⟩ Try.f5 = some a5 := by kernel_rfl

/- airline/airlinelaw43.EdiBack -/
def a6 : AFun := ⟨103, [.tmp 6], (.seq (.reg [⟨(some 6), none, .p (.mv (.c (.bool false)))⟩])
  (.seq (.seq (.reg [⟨(some 19), none, .p (.mv (.t 0))⟩,
    ⟨(some 20), none, .call 8 [(.t 19), (.c (.int .i64 3000))]⟩,
    ⟨(some 21), none, .p (.mv (.t 20))⟩,
    ⟨(some 22), (some (21, false)), .p (.mv (.t 1))⟩,
    ⟨(some 23), (some (21, false)), .call 8 [(.t 22), (.c (.int .i64 3000))]⟩,
    ⟨(some 24), none, .p (.pick (.t 21) (.c (.bool true)) (.t 23))⟩,
    ⟨(some 25), none, .p (.mv (.t 24))⟩,
    ⟨(some 26), (some (25, false)), .p (.mv (.t 2))⟩,
    ⟨(some 27), (some (25, false)), .p (.lenS (.t 26))⟩,
    ⟨(some 28), (some (25, false)), .p (.bin .gtr (.t 27) (.c (.int .i64 3000)))⟩,
    ⟨(some 29), none, .p (.pick (.t 25) (.c (.bool true)) (.t 28))⟩])
  (.cond (.t 29) (.seq (.reg [⟨(some 30), none, .call 9 []⟩,
    ⟨(some 6), none, .p (.mv (.t 30))⟩])
  .ret) .skip))
  (.seq (.reg [⟨(some 32), none, .p (.mv (.t 0))⟩,
    ⟨(some 33), none, .call 10 [(.t 32)]⟩,
    ⟨(some 31), none, .p (.mv (.t 33))⟩,
    ⟨(some 34), none, .p (.ext 0 (.t 31))⟩,
    ⟨(some 35), none, .p (.ext 1 (.t 31))⟩,
    ⟨(some 7), none, .p (.mv (.t 34))⟩,
    ⟨(some 8), none, .p (.mv (.t 35))⟩])
  (.seq (.reg [⟨(some 37), none, .p (.mv (.t 1))⟩,
    ⟨(some 38), none, .call 10 [(.t 37)]⟩,
    ⟨(some 36), none, .p (.mv (.t 38))⟩,
    ⟨(some 39), none, .p (.ext 0 (.t 36))⟩,
    ⟨(some 40), none, .p (.ext 1 (.t 36))⟩,
    ⟨(some 9), none, .p (.mv (.t 39))⟩,
    ⟨(some 10), none, .p (.mv (.t 40))⟩])
  (.seq (.seq (.reg [⟨(some 41), none, .p (.mv (.t 8))⟩,
    ⟨(some 42), none, .p (.bin .eql (.t 41) (.c (.int .i64 0)))⟩,
    ⟨(some 43), none, .p (.mv (.t 42))⟩,
    ⟨(some 44), (some (43, true)), .p (.mv (.t 10))⟩,
    ⟨(some 45), (some (43, true)), .p (.bin .eql (.t 44) (.c (.int .i64 0)))⟩,
    ⟨(some 46), none, .p (.pick (.t 43) (.t 45) (.c (.bool false)))⟩])
  (.cond (.t 46) (.seq (.reg [⟨(some 48), none, .p (.mv (.t 7))⟩,
    ⟨(some 49), none, .p (.mv (.t 9))⟩,
    ⟨(some 50), none, .p (.bin .add (.t 48) (.t 49))⟩,
    ⟨(some 51), none, .call 16 [(.t 50)]⟩,
    ⟨(some 47), none, .p (.mv (.t 51))⟩,
    ⟨(some 52), none, .p (.ext 0 (.t 47))⟩,
    ⟨(some 53), none, .p (.ext 1 (.t 47))⟩,
    ⟨(some 54), none, .p (.ext 2 (.t 47))⟩,
    ⟨(some 11), none, .p (.mv (.t 52))⟩,
    ⟨(some 12), none, .p (.mv (.t 53))⟩,
    ⟨(some 13), none, .p (.mv (.t 54))⟩])
  (.seq (.reg [⟨(some 55), none, .p (.mv (.t 13))⟩,
    ⟨(some 56), none, .p (.bin .neq (.t 55) (.c (.int .i64 0)))⟩,
    ⟨(some 57), none, .p (.mv (.t 56))⟩,
    ⟨(some 58), (some (57, false)), .p (.mv (.t 12))⟩,
    ⟨(some 59), (some (57, false)), .p (.bin .neq (.t 58) (.c (.int .i64 0)))⟩,
    ⟨(some 60), none, .p (.pick (.t 57) (.c (.bool true)) (.t 59))⟩,
    ⟨(some 61), none, .p (.mv (.t 60))⟩,
    ⟨(some 62), (some (61, false)), .p (.mv (.t 11))⟩,
    ⟨(some 63), (some (61, false)), .bslO 35 2 [(.str []), .nilSl] 0 []⟩,
    ⟨(some 64), (some (61, false)), .p (.mv (.t 0))⟩,
    ⟨(some 65), (some (61, false)), .app 35 2 (.t 63) (.t 64)⟩,
    ⟨(some 66), (some (61, false)), .p (.mv (.t 1))⟩,
    ⟨(some 67), (some (61, false)), .app 35 2 (.t 65) (.t 66)⟩,
    ⟨(some 68), (some (61, false)), .call 14 [(.t 62), (.t 67)]⟩,
    ⟨(some 69), (some (61, false)), .p (.not (.t 68))⟩,
    ⟨(some 70), none, .p (.pick (.t 61) (.c (.bool true)) (.t 69))⟩])
  (.cond (.t 70) (.seq (.reg [⟨(some 6), none, .p (.mv (.c (.bool false)))⟩])
  .ret) .skip))) .skip))
  (.seq (.reg [⟨(some 72), none, .p (.mv (.t 2))⟩,
    ⟨(some 73), none, .call 16 [(.t 72)]⟩,
    ⟨(some 71), none, .p (.mv (.t 73))⟩,
    ⟨(some 74), none, .p (.ext 0 (.t 71))⟩,
    ⟨(some 75), none, .p (.ext 1 (.t 71))⟩,
    ⟨(some 76), none, .p (.ext 2 (.t 71))⟩,
    ⟨(some 14), none, .p (.mv (.t 74))⟩,
    ⟨(some 15), none, .p (.mv (.t 75))⟩,
    ⟨(some 16), none, .p (.mv (.t 76))⟩])
  (.seq (.reg [⟨(some 78), none, .p (.mv (.t 14))⟩,
    ⟨(some 79), none, .call 10 [(.t 78)]⟩,
    ⟨(some 77), none, .p (.mv (.t 79))⟩,
    ⟨(some 80), none, .p (.ext 0 (.t 77))⟩,
    ⟨(some 81), none, .p (.ext 1 (.t 77))⟩,
    ⟨(some 17), none, .p (.mv (.t 80))⟩,
    ⟨(some 18), none, .p (.mv (.t 81))⟩])
  (.seq (.reg [⟨(some 82), none, .p (.mv (.t 8))⟩,
    ⟨(some 83), none, .p (.bin .eql (.t 82) (.c (.int .i64 0)))⟩,
    ⟨(some 84), none, .p (.mv (.t 0))⟩,
    ⟨(some 85), none, .call 12 [(.t 84)]⟩,
    ⟨(some 86), none, .p (.eqb false (.t 83) (.t 85))⟩,
    ⟨(some 87), none, .p (.mv (.t 86))⟩,
    ⟨(some 88), (some (87, true)), .p (.mv (.t 16))⟩,
    ⟨(some 89), (some (87, true)), .p (.bin .neq (.t 88) (.c (.int .i64 0)))⟩,
    ⟨(some 90), (some (87, true)), .p (.mv (.t 89))⟩,
    ⟨(some 91), (some (90, false)), .p (.mv (.t 18))⟩,
    ⟨(some 92), (some (90, false)), .p (.bin .eql (.t 91) (.c (.int .i64 0)))⟩,
    ⟨(some 93), (some (90, false)), .p (.mv (.t 92))⟩,
    ⟨(some 94), (some (93, true)), .p (.mv (.t 17))⟩,
    ⟨(some 95), (some (93, true)), .p (.mv (.t 2))⟩,
    ⟨(some 96), (some (93, true)), .p (.bin .eql (.t 94) (.t 95))⟩,
    ⟨(some 97), (some (90, false)), .p (.pick (.t 93) (.t 96) (.c (.bool false)))⟩,
    ⟨(some 98), (some (87, true)), .p (.pick (.t 90) (.c (.bool true)) (.t 97))⟩,
    ⟨(some 99), none, .p (.pick (.t 87) (.t 98) (.c (.bool false)))⟩,
    ⟨(some 100), none, .p (.mv (.t 99))⟩,
    ⟨(some 101), (some (100, true)), .call 9 []⟩,
    ⟨(some 102), none, .p (.pick (.t 100) (.t 101) (.c (.bool false)))⟩,
    ⟨(some 6), none, .p (.mv (.t 102))⟩])
  .ret))))))))⟩
theorem c6 : compF Try.prog ⟨fun s => [63].contains s, fun _ => []⟩ Try.f6 = some a6 := by kernel_rfl

/- airline/airlinelaw43.EdiPlaces -/
def a7 : AFun := ⟨69, [.tmp 2], (.seq (.reg [⟨(some 2), none, .p (.mv (.c (.bool false)))⟩])
  (.seq (.seq (.reg [⟨(some 9), none, .p (.mv (.t 0))⟩,
    ⟨(some 10), none, .p (.lenS (.t 9))⟩,
    ⟨(some 11), none, .p (.bin .gtr (.t 10) (.c (.int .i64 3000)))⟩])
  (.cond (.t 11) (.seq (.reg [⟨(some 12), none, .call 9 []⟩,
    ⟨(some 2), none, .p (.mv (.t 12))⟩])
  .ret) .skip))
  (.seq (.reg [⟨(some 14), none, .p (.mv (.t 0))⟩,
    ⟨(some 15), none, .call 16 [(.t 14)]⟩,
    ⟨(some 13), none, .p (.mv (.t 15))⟩,
    ⟨(some 16), none, .p (.ext 0 (.t 13))⟩,
    ⟨(some 17), none, .p (.ext 1 (.t 13))⟩,
    ⟨(some 18), none, .p (.ext 2 (.t 13))⟩,
    ⟨(some 3), none, .p (.mv (.t 16))⟩,
    ⟨(some 4), none, .p (.mv (.t 17))⟩,
    ⟨(some 5), none, .p (.mv (.t 18))⟩])
  (.seq (.seq (.reg [⟨(some 19), none, .p (.mv (.t 5))⟩,
    ⟨(some 20), none, .p (.bin .eql (.t 19) (.c (.int .i64 0)))⟩])
  (.cond (.t 20) (.seq (.reg [⟨(some 21), none, .p (.mv (.t 4))⟩,
    ⟨(some 22), none, .p (.bin .eql (.t 21) (.c (.int .i64 0)))⟩,
    ⟨(some 23), none, .p (.mv (.t 22))⟩,
    ⟨(some 24), (some (23, true)), .p (.mv (.t 3))⟩,
    ⟨(some 25), (some (23, true)), .call 12 [(.t 24)]⟩,
    ⟨(some 26), none, .p (.pick (.t 23) (.t 25) (.c (.bool false)))⟩,
    ⟨(some 27), none, .p (.mv (.t 26))⟩,
    ⟨(some 28), (some (27, true)), .call 9 []⟩,
    ⟨(some 29), none, .p (.pick (.t 27) (.t 28) (.c (.bool false)))⟩,
    ⟨(some 2), none, .p (.mv (.t 29))⟩])
  .ret) .skip))
  (.seq (.seq (.reg [⟨(some 30), none, .p (.mv (.t 5))⟩,
    ⟨(some 31), none, .p (.bin .neq (.t 30) (.c (.int .i64 3)))⟩,
    ⟨(some 32), none, .p (.mv (.t 31))⟩,
    ⟨(some 33), (some (32, false)), .p (.mv (.t 4))⟩,
    ⟨(some 34), (some (32, false)), .p (.bin .lss (.t 33) (.c (.int .i64 0)))⟩,
    ⟨(some 35), none, .p (.pick (.t 32) (.c (.bool true)) (.t 34))⟩,
    ⟨(some 36), none, .p (.mv (.t 35))⟩,
    ⟨(some 37), (some (36, false)), .p (.mv (.t 4))⟩,
    ⟨(some 38), (some (36, false)), .p (.mv (.t 0))⟩,
    ⟨(some 39), (some (36, false)), .p (.lenS (.t 38))⟩,
    ⟨(some 40), (some (36, false)), .p (.bin .gtr (.t 37) (.t 39))⟩,
    ⟨(some 41), none, .p (.pick (.t 36) (.c (.bool true)) (.t 40))⟩,
    ⟨(some 42), none, .p (.mv (.t 41))⟩,
    ⟨(some 43), (some (42, false)), .p (.mv (.t 3))⟩,
    ⟨(some 44), (some (42, false)), .p (.lenA (.t 43))⟩,
    ⟨(some 45), (some (42, false)), .p (.bin .gtr (.t 44) (.c (.int .i64 0)))⟩,
    ⟨(some 46), none, .p (.pick (.t 42) (.c (.bool true)) (.t 45))⟩])
  (.cond (.t 46) (.seq (.reg [⟨(some 2), none, .p (.mv (.c (.bool false)))⟩])
  .ret) .skip))
  (.seq (.reg [⟨(some 48), none, .p (.mv (.t 0))⟩,
    ⟨(some 49), none, .p (.mv (.t 4))⟩,
    ⟨(some 50), none, .p (.slS (.t 48) none (some (.t 49)))⟩,
    ⟨(some 51), none, .call 16 [(.t 50)]⟩,
    ⟨(some 47), none, .p (.mv (.t 51))⟩,
    ⟨(some 52), none, .p (.ext 0 (.t 47))⟩,
    ⟨(some 53), none, .p (.ext 1 (.t 47))⟩,
    ⟨(some 54), none, .p (.ext 2 (.t 47))⟩,
    ⟨(some 6), none, .p (.mv (.t 52))⟩,
    ⟨(some 7), none, .p (.mv (.t 53))⟩,
    ⟨(some 8), none, .p (.mv (.t 54))⟩])
  (.seq (.reg [⟨(some 55), none, .p (.mv (.t 8))⟩,
    ⟨(some 56), none, .p (.bin .eql (.t 55) (.c (.int .i64 0)))⟩,
    ⟨(some 57), none, .p (.mv (.t 56))⟩,
    ⟨(some 58), (some (57, false)), .p (.mv (.t 8))⟩,
    ⟨(some 59), (some (57, false)), .p (.bin .eql (.t 58) (.c (.int .i64 3)))⟩,
    ⟨(some 60), (some (57, false)), .p (.mv (.t 59))⟩,
    ⟨(some 61), (some (60, true)), .p (.mv (.t 7))⟩,
    ⟨(some 62), (some (60, true)), .p (.mv (.t 4))⟩,
    ⟨(some 63), (some (60, true)), .p (.bin .eql (.t 61) (.t 62))⟩,
    ⟨(some 64), (some (57, false)), .p (.pick (.t 60) (.t 63) (.c (.bool false)))⟩,
    ⟨(some 65), none, .p (.pick (.t 57) (.c (.bool true)) (.t 64))⟩,
    ⟨(some 66), none, .p (.mv (.t 65))⟩,
    ⟨(some 67), (some (66, true)), .call 9 []⟩,
    ⟨(some 68), none, .p (.pick (.t 66) (.t 67) (.c (.bool false)))⟩,
    ⟨(some 2), none, .p (.mv (.t 68))⟩])
  .ret)))))))⟩
theorem c7 : compF Try.prog ⟨fun s => [].contains s, fun _ => []⟩ Try.f7 = some a7 := by kernel_rfl

/- airline/airlineref43.Large -/
def a8 : AFun := ⟨98, [.tmp 4], (.seq (.reg [⟨(some 4), none, .p (.mv (.c (.bool false)))⟩])
  (.seq (.reg [⟨(some 9), none, .p (.mv (.t 0))⟩,
    ⟨(some 10), none, .p (.lenA (.t 9))⟩,
    ⟨(some 5), none, .p (.mv (.t 10))⟩])
  (.seq (.seq (.reg [⟨(some 6), none, .p (.mv (.c (.int .i64 0)))⟩])
  (.block 0 (.loop (.seq (.seq (.reg [⟨(some 11), none, .p (.mv (.t 6))⟩,
    ⟨(some 12), none, .p (.mv (.t 0))⟩,
    ⟨(some 13), none, .p (.lenA (.t 12))⟩,
    ⟨(some 14), none, .p (.bin .lss (.t 11) (.t 13))⟩,
    ⟨(some 15), none, .p (.mv (.t 14))⟩,
    ⟨(some 16), (some (15, true)), .p (.mv (.t 5))⟩,
    ⟨(some 17), (some (15, true)), .p (.mv (.t 1))⟩,
    ⟨(some 18), (some (15, true)), .p (.bin .leq (.t 16) (.t 17))⟩,
    ⟨(some 19), none, .p (.pick (.t 15) (.t 18) (.c (.bool false)))⟩])
  (.cond (.t 19) .skip (.exit 0)))
  (.seq (.block 1 (.seq (.oreg [(.quiet, ⟨(some 22), none, .p (.mv (.t 5))⟩),
    (.quiet, ⟨(some 23), none, .p (.mv (.t 0))⟩),
    (.quiet, ⟨(some 24), none, .p (.mv (.t 6))⟩),
    (.quiet, ⟨(some 25), none, .p (.idxA 2 (.t 23) (.t 24))⟩),
    (.quiet, ⟨(some 26), none, .p (.faddr 0 (.t 25))⟩),
    (.quiet, ⟨(some 27), none, .p (.ld1 (.t 26))⟩),
    (.quiet, ⟨(some 28), none, .p (.lenS (.t 27))⟩),
    (.quiet, ⟨(some 29), none, .p (.bin .add (.t 22) (.t 28))⟩),
    (.quiet, ⟨(some 30), none, .p (.mv (.t 0))⟩),
    (.quiet, ⟨(some 31), none, .p (.mv (.t 6))⟩),
    (.quiet, ⟨(some 32), none, .p (.idxA 2 (.t 30) (.t 31))⟩),
    (.quiet, ⟨(some 33), none, .p (.faddr 1 (.t 32))⟩),
    (.quiet, ⟨(some 34), none, .p (.ld1 (.t 33))⟩),
    (.quiet, ⟨(some 35), none, .p (.lenA (.t 34))⟩),
    (.quiet, ⟨(some 36), none, .p (.bin .add (.t 29) (.t 35))⟩),
    (.quiet, ⟨(some 5), none, .p (.mv (.t 36))⟩)])
  (.seq (.reg [⟨(some 7), none, .p (.mv (.c (.int .i64 0)))⟩])
  (.block 2 (.loop (.seq (.seq (.reg [⟨(some 37), none, .p (.mv (.t 7))⟩,
    ⟨(some 38), none, .p (.mv (.t 0))⟩,
    ⟨(some 39), none, .p (.mv (.t 6))⟩,
    ⟨(some 40), none, .p (.idxA 2 (.t 38) (.t 39))⟩,
    ⟨(some 41), none, .p (.faddr 1 (.t 40))⟩,
    ⟨(some 42), none, .p (.ld1 (.t 41))⟩,
    ⟨(some 43), none, .p (.lenA (.t 42))⟩,
    ⟨(some 44), none, .p (.bin .lss (.t 37) (.t 43))⟩,
    ⟨(some 45), none, .p (.mv (.t 44))⟩,
    ⟨(some 46), (some (45, true)), .p (.mv (.t 5))⟩,
    ⟨(some 47), (some (45, true)), .p (.mv (.t 1))⟩,
    ⟨(some 48), (some (45, true)), .p (.bin .leq (.t 46) (.t 47))⟩,
    ⟨(some 49), none, .p (.pick (.t 45) (.t 48) (.c (.bool false)))⟩])
  (.cond (.t 49) .skip (.exit 2)))
  (.seq (.block 3 (.seq (.reg [⟨(some 52), none, .p (.mv (.t 5))⟩,
    ⟨(some 53), none, .p (.mv (.t 0))⟩,
    ⟨(some 54), none, .p (.mv (.t 6))⟩,
    ⟨(some 55), none, .p (.idxA 2 (.t 53) (.t 54))⟩,
    ⟨(some 56), none, .p (.faddr 1 (.t 55))⟩,
    ⟨(some 57), none, .p (.ld1 (.t 56))⟩,
    ⟨(some 58), none, .p (.mv (.t 7))⟩,
    ⟨(some 59), none, .p (.idxA 1 (.t 57) (.t 58))⟩,
    ⟨(some 60), none, .p (.ld1 (.t 59))⟩,
    ⟨(some 61), none, .p (.lenA (.t 60))⟩,
    ⟨(some 62), none, .p (.bin .add (.t 52) (.t 61))⟩,
    ⟨(some 5), none, .p (.mv (.t 62))⟩])
  (.seq (.reg [⟨(some 8), none, .p (.mv (.c (.int .i64 0)))⟩])
  (.block 4 (.loop (.seq (.seq (.reg [⟨(some 63), none, .p (.mv (.t 8))⟩,
    ⟨(some 64), none, .p (.mv (.t 0))⟩,
    ⟨(some 65), none, .p (.mv (.t 6))⟩,
    ⟨(some 66), none, .p (.idxA 2 (.t 64) (.t 65))⟩,
    ⟨(some 67), none, .p (.faddr 1 (.t 66))⟩,
    ⟨(some 68), none, .p (.ld1 (.t 67))⟩,
    ⟨(some 69), none, .p (.mv (.t 7))⟩,
    ⟨(some 70), none, .p (.idxA 1 (.t 68) (.t 69))⟩,
    ⟨(some 71), none, .p (.ld1 (.t 70))⟩,
    ⟨(some 72), none, .p (.lenA (.t 71))⟩,
    ⟨(some 73), none, .p (.bin .lss (.t 63) (.t 72))⟩,
    ⟨(some 74), none, .p (.mv (.t 73))⟩,
    ⟨(some 75), (some (74, true)), .p (.mv (.t 5))⟩,
    ⟨(some 76), (some (74, true)), .p (.mv (.t 1))⟩,
    ⟨(some 77), (some (74, true)), .p (.bin .leq (.t 75) (.t 76))⟩,
    ⟨(some 78), none, .p (.pick (.t 74) (.t 77) (.c (.bool false)))⟩])
  (.cond (.t 78) .skip (.exit 4)))
  (.seq (.block 5 (.reg [⟨(some 81), none, .p (.mv (.t 5))⟩,
    ⟨(some 82), none, .p (.mv (.t 0))⟩,
    ⟨(some 83), none, .p (.mv (.t 6))⟩,
    ⟨(some 84), none, .p (.idxA 2 (.t 82) (.t 83))⟩,
    ⟨(some 85), none, .p (.faddr 1 (.t 84))⟩,
    ⟨(some 86), none, .p (.ld1 (.t 85))⟩,
    ⟨(some 87), none, .p (.mv (.t 7))⟩,
    ⟨(some 88), none, .p (.idxA 1 (.t 86) (.t 87))⟩,
    ⟨(some 89), none, .p (.ld1 (.t 88))⟩,
    ⟨(some 90), none, .p (.mv (.t 8))⟩,
    ⟨(some 91), none, .p (.idxA 1 (.t 89) (.t 90))⟩,
    ⟨(some 92), none, .p (.ld1 (.t 91))⟩,
    ⟨(some 93), none, .p (.lenS (.t 92))⟩,
    ⟨(some 94), none, .p (.bin .add (.t 81) (.t 93))⟩,
    ⟨(some 5), none, .p (.mv (.t 94))⟩]))
  (.reg [⟨(some 79), none, .p (.mv (.t 8))⟩,
    ⟨(some 80), none, .p (.bin .add (.t 79) (.c (.int .i64 1)))⟩,
    ⟨(some 8), none, .p (.mv (.t 80))⟩]))))))))
  (.reg [⟨(some 50), none, .p (.mv (.t 7))⟩,
    ⟨(some 51), none, .p (.bin .add (.t 50) (.c (.int .i64 1)))⟩,
    ⟨(some 7), none, .p (.mv (.t 51))⟩]))))))))
  (.reg [⟨(some 20), none, .p (.mv (.t 6))⟩,
    ⟨(some 21), none, .p (.bin .add (.t 20) (.c (.int .i64 1)))⟩,
    ⟨(some 6), none, .p (.mv (.t 21))⟩]))))))
  (.seq (.reg [⟨(some 95), none, .p (.mv (.t 5))⟩,
    ⟨(some 96), none, .p (.mv (.t 1))⟩,
    ⟨(some 97), none, .p (.bin .gtr (.t 95) (.t 96))⟩,
    ⟨(some 4), none, .p (.mv (.t 97))⟩])
  .ret))))⟩
theorem c8 : compF Try.prog ⟨fun s => [].contains s, fun r => match r with | 5 => [(0, .quiet), (1, .quiet), (2, .quiet), (3, .quiet), (4, .quiet), (5, .quiet), (6, .quiet), (7, .quiet), (8, .quiet), (9, .quiet), (10, .quiet), (11, .quiet), (12, .quiet), (13, .quiet), (14, .quiet), (15, .quiet)] | _ => []⟩ Try.f8 = some a8 := by kernel_rfl

/- airline/airlinelaw43.knows -/
def a9 : AFun := ⟨103, [.tmp 0], (.seq (.reg [⟨(some 0), none, .p (.mv (.c (.bool false)))⟩])
  (.seq (.reg [⟨(some 16), none, .p (.bsl 1 [(.str [])] 2 [(0, (.c (.str [49, 50, 53]))), (1, (.c (.str [55])))])⟩,
    ⟨(some 17), none, .p (.bsl 1 [(.str [])] 1 [(0, (.c (.str [105, 116, 39, 115])))])⟩,
    ⟨(some 18), none, .p (.bsl 1 [.nilSl] 2 [(0, (.t 16)), (1, (.t 17))])⟩,
    ⟨(some 19), none, .p (.build [(.str []), .nilSl] [(0, 1, (.c (.str [84, 75, 84]))), (1, 1, (.t 18))])⟩,
    ⟨(some 20), none, .p (.bsl 2 [(.str []), .nilSl] 1 [(0, (.t 19))])⟩,
    ⟨(some 1), none, .p (.mv (.t 20))⟩])
  (.seq (.reg [⟨(some 22), none, .p (.mv (.t 1))⟩,
    ⟨(some 23), none, .call 10 [(.t 22)]⟩,
    ⟨(some 21), none, .p (.mv (.t 23))⟩,
    ⟨(some 24), none, .p (.ext 0 (.t 21))⟩,
    ⟨(some 25), none, .p (.ext 1 (.t 21))⟩,
    ⟨(some 2), none, .p (.mv (.t 24))⟩,
    ⟨(some 3), none, .p (.mv (.t 25))⟩])
  (.seq (.reg [⟨(some 27), none, .p (.mv (.t 2))⟩,
    ⟨(some 28), none, .call 16 [(.t 27)]⟩,
    ⟨(some 26), none, .p (.mv (.t 28))⟩,
    ⟨(some 29), none, .p (.ext 0 (.t 26))⟩,
    ⟨(some 30), none, .p (.ext 1 (.t 26))⟩,
    ⟨(some 31), none, .p (.ext 2 (.t 26))⟩,
    ⟨(some 4), none, .p (.mv (.t 29))⟩,
    ⟨(some 5), none, .p (.mv (.t 30))⟩,
    ⟨(some 6), none, .p (.mv (.t 31))⟩])
  (.seq (.reg [⟨(some 33), none, .call 16 [(.c (.str [65, 66, 67, 43, 49, 39, 65, 66, 43]))]⟩,
    ⟨(some 32), none, .p (.mv (.t 33))⟩,
    ⟨(some 34), none, .p (.ext 0 (.t 32))⟩,
    ⟨(some 35), none, .p (.ext 1 (.t 32))⟩,
    ⟨(some 36), none, .p (.ext 2 (.t 32))⟩,
    ⟨(some 7), none, .p (.mv (.t 34))⟩,
    ⟨(some 8), none, .p (.mv (.t 35))⟩,
    ⟨(some 9), none, .p (.mv (.t 36))⟩])
  (.seq (.reg [⟨(some 38), none, .call 16 [(.c (.str [65, 66, 67, 43, 120, 63, 121, 39]))]⟩,
    ⟨(some 37), none, .p (.mv (.t 38))⟩,
    ⟨(some 39), none, .p (.ext 0 (.t 37))⟩,
    ⟨(some 40), none, .p (.ext 1 (.t 37))⟩,
    ⟨(some 41), none, .p (.ext 2 (.t 37))⟩,
    ⟨(some 10), none, .p (.mv (.t 39))⟩,
    ⟨(some 11), none, .p (.mv (.t 40))⟩,
    ⟨(some 12), none, .p (.mv (.t 41))⟩])
  (.seq (.reg [⟨(some 43), none, .call 16 [(.c (.str [65, 66, 67, 43, 120]))]⟩,
    ⟨(some 42), none, .p (.mv (.t 43))⟩,
    ⟨(some 44), none, .p (.ext 0 (.t 42))⟩,
    ⟨(some 45), none, .p (.ext 1 (.t 42))⟩,
    ⟨(some 46), none, .p (.ext 2 (.t 42))⟩,
    ⟨(some 13), none, .p (.mv (.t 44))⟩,
    ⟨(some 14), none, .p (.mv (.t 45))⟩,
    ⟨(some 15), none, .p (.mv (.t 46))⟩])
  (.seq (.reg [⟨(some 47), none, .p (.mv (.t 2))⟩,
    ⟨(some 48), none, .p (.bin .eql (.t 47) (.c (.str [84, 75, 84, 43, 49, 50, 53, 58, 55, 43, 105, 116, 63, 39, 115, 39])))⟩,
    ⟨(some 49), none, .p (.mv (.t 48))⟩,
    ⟨(some 50), (some (49, true)), .p (.mv (.t 3))⟩,
    ⟨(some 51), (some (49, true)), .p (.bin .eql (.t 50) (.c (.int .i64 0)))⟩,
    ⟨(some 52), none, .p (.pick (.t 49) (.t 51) (.c (.bool false)))⟩,
    ⟨(some 53), none, .p (.mv (.t 52))⟩,
    ⟨(some 54), (some (53, true)), .p (.mv (.t 4))⟩,
    ⟨(some 55), (some (53, true)), .p (.mv (.t 1))⟩,
    ⟨(some 56), (some (53, true)), .call 14 [(.t 54), (.t 55)]⟩,
    ⟨(some 57), none, .p (.pick (.t 53) (.t 56) (.c (.bool false)))⟩,
    ⟨(some 58), none, .p (.mv (.t 57))⟩,
    ⟨(some 59), (some (58, true)), .p (.mv (.t 5))⟩,
    ⟨(some 60), (some (58, true)), .p (.bin .eql (.t 59) (.c (.int .i64 0)))⟩,
    ⟨(some 61), none, .p (.pick (.t 58) (.t 60) (.c (.bool false)))⟩,
    ⟨(some 62), none, .p (.mv (.t 61))⟩,
    ⟨(some 63), (some (62, true)), .p (.mv (.t 6))⟩,
    ⟨(some 64), (some (62, true)), .p (.bin .eql (.t 63) (.c (.int .i64 0)))⟩,
    ⟨(some 65), none, .p (.pick (.t 62) (.t 64) (.c (.bool false)))⟩,
    ⟨(some 66), none, .p (.mv (.t 65))⟩,
    ⟨(some 67), (some (66, true)), .p (.mv (.t 8))⟩,
    ⟨(some 68), (some (66, true)), .p (.bin .eql (.t 67) (.c (.int .i64 8)))⟩,
    ⟨(some 69), none, .p (.pick (.t 66) (.t 68) (.c (.bool false)))⟩,
    ⟨(some 70), none, .p (.mv (.t 69))⟩,
    ⟨(some 71), (some (70, true)), .p (.mv (.t 9))⟩,
    ⟨(some 72), (some (70, true)), .p (.bin .eql (.t 71) (.c (.int .i64 3)))⟩,
    ⟨(some 73), none, .p (.pick (.t 70) (.t 72) (.c (.bool false)))⟩,
    ⟨(some 74), none, .p (.mv (.t 73))⟩,
    ⟨(some 75), (some (74, true)), .p (.mv (.t 11))⟩,
    ⟨(some 76), (some (74, true)), .p (.bin .eql (.t 75) (.c (.int .i64 6)))⟩,
    ⟨(some 77), none, .p (.pick (.t 74) (.t 76) (.c (.bool false)))⟩,
    ⟨(some 78), none, .p (.mv (.t 77))⟩,
    ⟨(some 79), (some (78, true)), .p (.mv (.t 12))⟩,
    ⟨(some 80), (some (78, true)), .p (.bin .eql (.t 79) (.c (.int .i64 3)))⟩,
    ⟨(some 81), none, .p (.pick (.t 78) (.t 80) (.c (.bool false)))⟩,
    ⟨(some 82), none, .p (.mv (.t 81))⟩,
    ⟨(some 83), (some (82, true)), .p (.mv (.t 14))⟩,
    ⟨(some 84), (some (82, true)), .p (.bin .eql (.t 83) (.c (.int .i64 5)))⟩,
    ⟨(some 85), none, .p (.pick (.t 82) (.t 84) (.c (.bool false)))⟩,
    ⟨(some 86), none, .p (.mv (.t 85))⟩,
    ⟨(some 87), (some (86, true)), .p (.mv (.t 15))⟩,
    ⟨(some 88), (some (86, true)), .p (.bin .eql (.t 87) (.c (.int .i64 3)))⟩,
    ⟨(some 89), none, .p (.pick (.t 86) (.t 88) (.c (.bool false)))⟩,
    ⟨(some 90), none, .p (.mv (.t 89))⟩,
    ⟨(some 91), (some (90, true)), .p (.mv (.t 1))⟩,
    ⟨(some 92), (some (90, true)), .p (.idxA 2 (.t 91) (.c (.int .i64 0)))⟩,
    ⟨(some 93), (some (90, true)), .p (.ldn 2 (.t 92))⟩,
    ⟨(some 94), (some (90, true)), .call 18 [(.t 93), (.c (.int .i64 0)), (.c (.int .i64 1))]⟩,
    ⟨(some 95), (some (90, true)), .p (.bin .eql (.t 94) (.c (.str [55])))⟩,
    ⟨(some 96), none, .p (.pick (.t 90) (.t 95) (.c (.bool false)))⟩,
    ⟨(some 97), none, .p (.mv (.t 96))⟩,
    ⟨(some 98), (some (97, true)), .p (.build [(.str []), .nilSl] [(0, 1, (.c (.str [116, 107, 116])))])⟩,
    ⟨(some 99), (some (97, true)), .p (.bsl 2 [(.str []), .nilSl] 1 [(0, (.t 98))])⟩,
    ⟨(some 100), (some (97, true)), .call 12 [(.t 99)]⟩,
    ⟨(some 101), (some (97, true)), .p (.not (.t 100))⟩,
    ⟨(some 102), none, .p (.pick (.t 97) (.t 101) (.c (.bool false)))⟩,
    ⟨(some 0), none, .p (.mv (.t 102))⟩])
  .ret))))))))⟩
theorem c9 : compF Try.prog ⟨fun s => [].contains s, fun _ => []⟩ Try.f9 = some a9 := by kernel_rfl

/- airline/edi.Print -/
def a10 : AFun := ⟨65, [.tmp 2, .tmp 3], (.seq (.reg [⟨(some 2), none, .p (.mv (.c (.str [])))⟩,
    ⟨(some 3), none, .p (.mv (.c (.int .i64 0)))⟩])
  (.seq (.seq (.reg [⟨(some 12), none, .p (.mv (.t 0))⟩,
    ⟨(some 13), none, .call 12 [(.t 12)]⟩,
    ⟨(some 14), none, .p (.not (.t 13))⟩])
  (.cond (.t 14) (.seq (.reg [⟨(some 2), none, .p (.mv (.c (.str [])))⟩,
    ⟨(some 3), none, .p (.mv (.c (.int .i64 3)))⟩])
  .ret) .skip))
  (.seq (.reg [⟨(some 4), none, .newO 44 [.nilPtr, .nilSl]⟩])
  (.seq (.seq (.reg [⟨(some 15), none, .p (.mv (.t 0))⟩,
    ⟨(some 16), none, .p (.lenA (.t 15))⟩,
    ⟨(some 17), none, .p (.mv (.c (.int .i64 0)))⟩])
  (.block 0 (.loop (.seq (.reg [⟨(some 18), none, .p (.bin .lss (.t 17) (.t 16))⟩])
  (.seq (.cond (.t 18) .skip (.exit 0))
  (.seq (.block 1 (.seq (.reg [⟨(some 19), none, .p (.idxA 2 (.t 15) (.t 17))⟩,
    ⟨(some 20), none, .p (.ldn 2 (.t 19))⟩,
    ⟨(some 6), none, .newO 35 [(.str []), .nilSl]⟩,
    ⟨none, none, .st 2 (.t 6) (.t 20)⟩])
  (.seq (.reg [⟨(some 21), none, .p (.faddr 0 (.t 6))⟩,
    ⟨(some 22), none, .p (.ld1 (.t 21))⟩,
    ⟨(some 23), none, .call 20 [(.t 4), (.t 22)]⟩])
  (.seq (.seq (.reg [⟨(some 24), none, .p (.faddr 1 (.t 6))⟩,
    ⟨(some 25), none, .p (.ld1 (.t 24))⟩,
    ⟨(some 26), none, .p (.lenA (.t 25))⟩,
    ⟨(some 27), none, .p (.mv (.c (.int .i64 0)))⟩])
  (.block 2 (.loop (.seq (.reg [⟨(some 28), none, .p (.bin .lss (.t 27) (.t 26))⟩])
  (.seq (.cond (.t 28) .skip (.exit 2))
  (.seq (.block 3 (.seq (.reg [⟨(some 29), none, .p (.idxA 1 (.t 25) (.t 27))⟩,
    ⟨(some 30), none, .p (.ld1 (.t 29))⟩,
    ⟨(some 8), none, .p (.mv (.t 30))⟩])
  (.seq (.reg [⟨(some 31), none, .p (.mv (.t 8))⟩,
    ⟨(some 32), none, .p (.lenA (.t 31))⟩,
    ⟨(some 33), none, .p (.mv (.c (.int .i64 0)))⟩])
  (.block 4 (.loop (.seq (.reg [⟨(some 34), none, .p (.bin .lss (.t 33) (.t 32))⟩])
  (.seq (.cond (.t 34) .skip (.exit 4))
  (.seq (.block 5 (.seq (.reg [⟨(some 35), none, .p (.mv (.t 33))⟩,
    ⟨(some 36), none, .p (.idxA 1 (.t 31) (.t 33))⟩,
    ⟨(some 37), none, .p (.ld1 (.t 36))⟩,
    ⟨(some 9), none, .p (.mv (.t 35))⟩,
    ⟨(some 10), none, .p (.mv (.t 37))⟩])
  (.seq (.reg [⟨(some 38), none, .p (.mv (.t 9))⟩,
    ⟨(some 39), none, .p (.minmax true (.t 38) (.c (.int .i64 1)))⟩,
    ⟨(some 40), none, .p (.idxS (.c (.str [43, 58])) (.t 39))⟩,
    ⟨(some 41), none, .call 21 [(.t 4), (.t 40)]⟩])
  (.seq (.reg [⟨(some 42), none, .p (.mv (.t 10))⟩,
    ⟨(some 43), none, .p (.lenS (.t 42))⟩,
    ⟨(some 44), none, .p (.mv (.c (.int .i64 0)))⟩])
  (.block 6 (.loop (.seq (.reg [⟨(some 45), none, .p (.bin .lss (.t 44) (.t 43))⟩])
  (.seq (.cond (.t 45) .skip (.exit 6))
  (.seq (.block 7 (.seq (.reg [⟨(some 46), none, .p (.mv (.t 44))⟩,
    ⟨(some 11), none, .p (.mv (.t 46))⟩])
  (.seq (.seq (.reg [⟨(some 47), none, .p (.mv (.t 10))⟩,
    ⟨(some 48), none, .p (.mv (.t 11))⟩,
    ⟨(some 49), none, .p (.idxS (.t 47) (.t 48))⟩,
    ⟨(some 50), none, .call 22 [(.c (.str [43, 58, 39, 63])), (.t 49)]⟩,
    ⟨(some 51), none, .p (.bin .geq (.t 50) (.c (.int .i64 0)))⟩])
  (.cond (.t 51) (.reg [⟨(some 52), none, .call 21 [(.t 4), (.c (.int .u8 63))]⟩]) .skip))
  (.reg [⟨(some 53), none, .p (.mv (.t 10))⟩,
    ⟨(some 54), none, .p (.mv (.t 11))⟩,
    ⟨(some 55), none, .p (.idxS (.t 53) (.t 54))⟩,
    ⟨(some 56), none, .call 21 [(.t 4), (.t 55)]⟩]))))
  (.reg [⟨(some 57), none, .p (.bin .add (.t 44) (.c (.int .i64 1)))⟩,
    ⟨(some 44), none, .p (.mv (.t 57))⟩]))))))))))
  (.reg [⟨(some 58), none, .p (.bin .add (.t 33) (.c (.int .i64 1)))⟩,
    ⟨(some 33), none, .p (.mv (.t 58))⟩])))))))))
  (.reg [⟨(some 59), none, .p (.bin .add (.t 27) (.c (.int .i64 1)))⟩,
    ⟨(some 27), none, .p (.mv (.t 59))⟩])))))))
  (.reg [⟨(some 60), none, .call 21 [(.t 4), (.c (.int .u8 39))]⟩])))))
  (.reg [⟨(some 61), none, .p (.bin .add (.t 17) (.c (.int .i64 1)))⟩,
    ⟨(some 17), none, .p (.mv (.t 61))⟩])))))))
  (.seq (.seq (.reg [⟨(some 62), none, .call 23 [(.t 4)]⟩,
    ⟨(some 63), none, .p (.bin .gtr (.t 62) (.c (.int .i64 65536)))⟩])
  (.cond (.t 63) (.seq (.reg [⟨(some 2), none, .p (.mv (.c (.str [])))⟩,
    ⟨(some 3), none, .p (.mv (.c (.int .i64 4)))⟩])
  .ret) .skip))
  (.seq (.reg [⟨(some 64), none, .call 24 [(.t 4)]⟩,
    ⟨(some 2), none, .p (.mv (.t 64))⟩,
    ⟨(some 3), none, .p (.mv (.c (.int .i64 0)))⟩])
  .ret))))))⟩
theorem c10 : compF Try.prog ⟨fun s => [].contains s, fun _ => []⟩ Try.f10 = some a10 := by kernel_rfl

/- airline/airlineref43.Print -/
def a11 : AFun := ⟨26, [.tmp 2, .tmp 3], (.seq (.reg [⟨(some 2), none, .p (.mv (.c (.str [])))⟩,
    ⟨(some 3), none, .p (.mv (.c (.int .i64 0)))⟩])
  (.seq (.seq (.reg [⟨(some 6), none, .p (.mv (.t 0))⟩,
    ⟨(some 7), none, .call 13 [(.t 6)]⟩,
    ⟨(some 8), none, .p (.not (.t 7))⟩])
  (.cond (.t 8) (.seq (.reg [⟨(some 2), none, .p (.mv (.c (.str [])))⟩,
    ⟨(some 3), none, .p (.mv (.c (.int .i64 3)))⟩])
  .ret) .skip))
  (.seq (.reg [⟨(some 4), none, .p (.mv (.c (.str [])))⟩])
  (.seq (.seq (.reg [⟨(some 5), none, .p (.mv (.c (.int .i64 0)))⟩])
  (.block 0 (.loop (.seq (.seq (.reg [⟨(some 9), none, .p (.mv (.t 5))⟩,
    ⟨(some 10), none, .p (.mv (.t 0))⟩,
    ⟨(some 11), none, .p (.lenA (.t 10))⟩,
    ⟨(some 12), none, .p (.bin .lss (.t 9) (.t 11))⟩])
  (.cond (.t 12) .skip (.exit 0)))
  (.seq (.block 1 (.seq (.reg [⟨(some 15), none, .p (.mv (.t 4))⟩,
    ⟨(some 16), none, .p (.mv (.t 0))⟩,
    ⟨(some 17), none, .p (.mv (.t 5))⟩,
    ⟨(some 18), none, .p (.idxA 2 (.t 16) (.t 17))⟩,
    ⟨(some 19), none, .p (.ldn 2 (.t 18))⟩,
    ⟨(some 20), none, .call 25 [(.t 19)]⟩,
    ⟨(some 21), none, .p (.bin .add (.t 15) (.t 20))⟩,
    ⟨(some 4), none, .p (.mv (.t 21))⟩])
  (.seq (.reg [⟨(some 22), none, .p (.mv (.t 4))⟩,
    ⟨(some 23), none, .p (.lenS (.t 22))⟩,
    ⟨(some 24), none, .p (.bin .gtr (.t 23) (.c (.int .i64 65536)))⟩])
  (.cond (.t 24) (.seq (.reg [⟨(some 2), none, .p (.mv (.c (.str [])))⟩,
    ⟨(some 3), none, .p (.mv (.c (.int .i64 4)))⟩])
  .ret) .skip))))
  (.reg [⟨(some 13), none, .p (.mv (.t 5))⟩,
    ⟨(some 14), none, .p (.bin .add (.t 13) (.c (.int .i64 1)))⟩,
    ⟨(some 5), none, .p (.mv (.t 14))⟩]))))))
  (.seq (.reg [⟨(some 25), none, .p (.mv (.t 4))⟩,
    ⟨(some 2), none, .p (.mv (.t 25))⟩,
    ⟨(some 3), none, .p (.mv (.c (.int .i64 0)))⟩])
  .ret)))))⟩
theorem c11 : compF Try.prog ⟨fun s => [].contains s, fun _ => []⟩ Try.f11 = some a11 := by kernel_rfl

/- airline/edi.Right -/
def a12 : AFun := ⟨6, [.tmp 2], (.seq (.reg [⟨(some 2), none, .p (.mv (.c (.bool false)))⟩])
  (.seq (.reg [⟨(some 3), none, .p (.mv (.t 0))⟩,
    ⟨(some 4), none, .call 26 [(.t 3), (.c (.func 27 [] []))]⟩,
    ⟨(some 5), none, .p (.not (.t 4))⟩,
    ⟨(some 2), none, .p (.mv (.t 5))⟩])
  .ret))⟩
theorem c12 : compF Try.prog ⟨fun s => [].contains s, fun _ => []⟩ Try.f12 = some a12 := by kernel_rfl

/- airline/airlineref43.Right -/
def a13 : AFun := ⟨53, [.tmp 2], (.seq (.reg [⟨(some 2), none, .p (.mv (.c (.bool false)))⟩])
  (.seq (.seq (.reg [⟨(some 3), none, .p (.mv (.c (.int .i64 0)))⟩])
  (.block 0 (.loop (.seq (.seq (.reg [⟨(some 7), none, .p (.mv (.t 3))⟩,
    ⟨(some 8), none, .p (.mv (.t 0))⟩,
    ⟨(some 9), none, .p (.lenA (.t 8))⟩,
    ⟨(some 10), none, .p (.bin .lss (.t 7) (.t 9))⟩])
  (.cond (.t 10) .skip (.exit 0)))
  (.seq (.block 1 (.seq (.seq (.reg [⟨(some 13), none, .p (.mv (.t 0))⟩,
    ⟨(some 14), none, .p (.mv (.t 3))⟩,
    ⟨(some 15), none, .p (.idxA 2 (.t 13) (.t 14))⟩,
    ⟨(some 16), none, .p (.faddr 0 (.t 15))⟩,
    ⟨(some 17), none, .p (.ld1 (.t 16))⟩,
    ⟨(some 18), none, .call 29 [(.t 17)]⟩,
    ⟨(some 19), none, .p (.not (.t 18))⟩])
  (.cond (.t 19) (.seq (.reg [⟨(some 2), none, .p (.mv (.c (.bool false)))⟩])
  .ret) .skip))
  (.seq (.reg [⟨(some 4), none, .p (.mv (.c (.int .i64 0)))⟩])
  (.block 2 (.loop (.seq (.seq (.reg [⟨(some 20), none, .p (.mv (.t 4))⟩,
    ⟨(some 21), none, .p (.mv (.t 0))⟩,
    ⟨(some 22), none, .p (.mv (.t 3))⟩,
    ⟨(some 23), none, .p (.idxA 2 (.t 21) (.t 22))⟩,
    ⟨(some 24), none, .p (.faddr 1 (.t 23))⟩,
    ⟨(some 25), none, .p (.ld1 (.t 24))⟩,
    ⟨(some 26), none, .p (.lenA (.t 25))⟩,
    ⟨(some 27), none, .p (.bin .lss (.t 20) (.t 26))⟩])
  (.cond (.t 27) .skip (.exit 2)))
  (.seq (.block 3 (.seq (.reg [⟨(some 30), none, .p (.mv (.t 0))⟩,
    ⟨(some 31), none, .p (.mv (.t 3))⟩,
    ⟨(some 32), none, .p (.idxA 2 (.t 30) (.t 31))⟩,
    ⟨(some 33), none, .p (.faddr 1 (.t 32))⟩,
    ⟨(some 34), none, .p (.ld1 (.t 33))⟩,
    ⟨(some 35), none, .p (.mv (.t 4))⟩,
    ⟨(some 36), none, .p (.idxA 1 (.t 34) (.t 35))⟩,
    ⟨(some 37), none, .p (.ld1 (.t 36))⟩,
    ⟨(some 5), none, .p (.mv (.t 37))⟩])
  (.seq (.seq (.reg [⟨(some 38), none, .p (.mv (.t 5))⟩,
    ⟨(some 39), none, .p (.lenA (.t 38))⟩,
    ⟨(some 40), none, .p (.bin .eql (.t 39) (.c (.int .i64 0)))⟩])
  (.cond (.t 40) (.seq (.reg [⟨(some 2), none, .p (.mv (.c (.bool false)))⟩])
  .ret) .skip))
  (.seq (.reg [⟨(some 6), none, .p (.mv (.c (.int .i64 0)))⟩])
  (.block 4 (.loop (.seq (.seq (.reg [⟨(some 41), none, .p (.mv (.t 6))⟩,
    ⟨(some 42), none, .p (.mv (.t 5))⟩,
    ⟨(some 43), none, .p (.lenA (.t 42))⟩,
    ⟨(some 44), none, .p (.bin .lss (.t 41) (.t 43))⟩])
  (.cond (.t 44) .skip (.exit 4)))
  (.seq (.block 5 (.seq (.reg [⟨(some 47), none, .p (.mv (.t 5))⟩,
    ⟨(some 48), none, .p (.mv (.t 6))⟩,
    ⟨(some 49), none, .p (.idxA 1 (.t 47) (.t 48))⟩,
    ⟨(some 50), none, .p (.ld1 (.t 49))⟩,
    ⟨(some 51), none, .call 30 [(.t 50)]⟩,
    ⟨(some 52), none, .p (.not (.t 51))⟩])
  (.cond (.t 52) (.seq (.reg [⟨(some 2), none, .p (.mv (.c (.bool false)))⟩])
  .ret) .skip)))
  (.reg [⟨(some 45), none, .p (.mv (.t 6))⟩,
    ⟨(some 46), none, .p (.bin .add (.t 45) (.c (.int .i64 1)))⟩,
    ⟨(some 6), none, .p (.mv (.t 46))⟩])))))))))
  (.reg [⟨(some 28), none, .p (.mv (.t 4))⟩,
    ⟨(some 29), none, .p (.bin .add (.t 28) (.c (.int .i64 1)))⟩,
    ⟨(some 4), none, .p (.mv (.t 29))⟩]))))))))
  (.reg [⟨(some 11), none, .p (.mv (.t 3))⟩,
    ⟨(some 12), none, .p (.bin .add (.t 11) (.c (.int .i64 1)))⟩,
    ⟨(some 3), none, .p (.mv (.t 12))⟩]))))))
  (.seq (.reg [⟨(some 2), none, .p (.mv (.c (.bool true)))⟩])
  .ret)))⟩
theorem c13 : compF Try.prog ⟨fun s => [].contains s, fun _ => []⟩ Try.f13 = some a13 := by kernel_rfl

/- airline/edi.Same -/
def a14 : AFun := ⟨8, [.tmp 4], (.seq (.reg [⟨(some 4), none, .p (.mv (.c (.bool false)))⟩])
  (.seq (.reg [⟨(some 5), none, .p (.mv (.t 0))⟩,
    ⟨(some 6), none, .p (.mv (.t 1))⟩,
    ⟨(some 7), none, .call 31 [(.t 5), (.t 6), (.c (.func 32 [] []))]⟩,
    ⟨(some 4), none, .p (.mv (.t 7))⟩])
  .ret))⟩
theorem c14 : compF Try.prog ⟨fun s => [].contains s, fun _ => []⟩ Try.f14 = some a14 := by kernel_rfl

/- airline/airlineref43.Same -/
def a15 : AFun := ⟨72, [.tmp 4], (.seq (.reg [⟨(some 4), none, .p (.mv (.c (.bool false)))⟩])
  (.seq (.seq (.reg [⟨(some 7), none, .p (.mv (.t 0))⟩,
    ⟨(some 8), none, .p (.lenA (.t 7))⟩,
    ⟨(some 9), none, .p (.mv (.t 1))⟩,
    ⟨(some 10), none, .p (.lenA (.t 9))⟩,
    ⟨(some 11), none, .p (.bin .neq (.t 8) (.t 10))⟩])
  (.cond (.t 11) (.seq (.reg [⟨(some 4), none, .p (.mv (.c (.bool false)))⟩])
  .ret) .skip))
  (.seq (.seq (.reg [⟨(some 5), none, .p (.mv (.c (.int .i64 0)))⟩])
  (.block 0 (.loop (.seq (.seq (.reg [⟨(some 12), none, .p (.mv (.t 5))⟩,
    ⟨(some 13), none, .p (.mv (.t 0))⟩,
    ⟨(some 14), none, .p (.lenA (.t 13))⟩,
    ⟨(some 15), none, .p (.bin .lss (.t 12) (.t 14))⟩])
  (.cond (.t 15) .skip (.exit 0)))
  (.seq (.block 1 (.seq (.seq (.oreg [(.quiet, ⟨(some 18), none, .p (.mv (.t 0))⟩),
    (.quiet, ⟨(some 19), none, .p (.mv (.t 5))⟩),
    (.quiet, ⟨(some 20), none, .p (.idxA 2 (.t 18) (.t 19))⟩),
    (.quiet, ⟨(some 21), none, .p (.faddr 0 (.t 20))⟩),
    (.quiet, ⟨(some 22), none, .p (.ld1 (.t 21))⟩),
    (.quiet, ⟨(some 23), none, .p (.mv (.t 1))⟩),
    (.quiet, ⟨(some 24), none, .p (.mv (.t 5))⟩),
    (.quiet, ⟨(some 25), none, .p (.idxA 2 (.t 23) (.t 24))⟩),
    (.quiet, ⟨(some 26), none, .p (.faddr 0 (.t 25))⟩),
    (.quiet, ⟨(some 27), none, .p (.ld1 (.t 26))⟩),
    (.quiet, ⟨(some 28), none, .p (.bin .neq (.t 22) (.t 27))⟩),
    (.quiet, ⟨(some 29), none, .p (.mv (.t 28))⟩),
    (.quiet, ⟨(some 30), (some (29, false)), .p (.mv (.t 0))⟩),
    (.quiet, ⟨(some 31), (some (29, false)), .p (.mv (.t 5))⟩),
    (.quiet, ⟨(some 32), (some (29, false)), .p (.idxA 2 (.t 30) (.t 31))⟩),
    (.quiet, ⟨(some 33), (some (29, false)), .p (.faddr 1 (.t 32))⟩),
    (.quiet, ⟨(some 34), (some (29, false)), .p (.ld1 (.t 33))⟩),
    (.quiet, ⟨(some 35), (some (29, false)), .p (.lenA (.t 34))⟩),
    (.quiet, ⟨(some 36), (some (29, false)), .p (.mv (.t 1))⟩),
    (.quiet, ⟨(some 37), (some (29, false)), .p (.mv (.t 5))⟩),
    (.quiet, ⟨(some 38), (some (29, false)), .p (.idxA 2 (.t 36) (.t 37))⟩),
    (.quiet, ⟨(some 39), (some (29, false)), .p (.faddr 1 (.t 38))⟩),
    (.quiet, ⟨(some 40), (some (29, false)), .p (.ld1 (.t 39))⟩),
    (.quiet, ⟨(some 41), (some (29, false)), .p (.lenA (.t 40))⟩),
    (.quiet, ⟨(some 42), (some (29, false)), .p (.bin .neq (.t 35) (.t 41))⟩),
    (.quiet, ⟨(some 43), none, .p (.pick (.t 29) (.c (.bool true)) (.t 42))⟩)])
  (.cond (.t 43) (.seq (.reg [⟨(some 4), none, .p (.mv (.c (.bool false)))⟩])
  .ret) .skip))
  (.seq (.reg [⟨(some 6), none, .p (.mv (.c (.int .i64 0)))⟩])
  (.block 2 (.loop (.seq (.seq (.reg [⟨(some 44), none, .p (.mv (.t 6))⟩,
    ⟨(some 45), none, .p (.mv (.t 0))⟩,
    ⟨(some 46), none, .p (.mv (.t 5))⟩,
    ⟨(some 47), none, .p (.idxA 2 (.t 45) (.t 46))⟩,
    ⟨(some 48), none, .p (.faddr 1 (.t 47))⟩,
    ⟨(some 49), none, .p (.ld1 (.t 48))⟩,
    ⟨(some 50), none, .p (.lenA (.t 49))⟩,
    ⟨(some 51), none, .p (.bin .lss (.t 44) (.t 50))⟩])
  (.cond (.t 51) .skip (.exit 2)))
  (.seq (.block 3 (.seq (.oreg [(.quiet, ⟨(some 54), none, .p (.mv (.t 0))⟩),
    (.quiet, ⟨(some 55), none, .p (.mv (.t 5))⟩),
    (.quiet, ⟨(some 56), none, .p (.idxA 2 (.t 54) (.t 55))⟩),
    (.quiet, ⟨(some 57), none, .p (.faddr 1 (.t 56))⟩),
    (.quiet, ⟨(some 58), none, .p (.ld1 (.t 57))⟩),
    (.quiet, ⟨(some 59), none, .p (.mv (.t 6))⟩),
    (.quiet, ⟨(some 60), none, .p (.idxA 1 (.t 58) (.t 59))⟩),
    (.quiet, ⟨(some 61), none, .p (.ld1 (.t 60))⟩),
    (.quiet, ⟨(some 62), none, .p (.mv (.t 1))⟩),
    (.quiet, ⟨(some 63), none, .p (.mv (.t 5))⟩),
    (.quiet, ⟨(some 64), none, .p (.idxA 2 (.t 62) (.t 63))⟩),
    (.quiet, ⟨(some 65), none, .p (.faddr 1 (.t 64))⟩),
    (.quiet, ⟨(some 66), none, .p (.ld1 (.t 65))⟩),
    (.quiet, ⟨(some 67), none, .p (.mv (.t 6))⟩),
    (.quiet, ⟨(some 68), none, .p (.idxA 1 (.t 66) (.t 67))⟩),
    (.quiet, ⟨(some 69), none, .p (.ld1 (.t 68))⟩),
    (.loud, ⟨(some 70), none, .call 36 [(.t 61), (.t 69)]⟩),
    (.quiet, ⟨(some 71), none, .p (.not (.t 70))⟩)])
  (.cond (.t 71) (.seq (.reg [⟨(some 4), none, .p (.mv (.c (.bool false)))⟩])
  .ret) .skip)))
  (.reg [⟨(some 52), none, .p (.mv (.t 6))⟩,
    ⟨(some 53), none, .p (.bin .add (.t 52) (.c (.int .i64 1)))⟩,
    ⟨(some 6), none, .p (.mv (.t 53))⟩]))))))))
  (.reg [⟨(some 16), none, .p (.mv (.t 5))⟩,
    ⟨(some 17), none, .p (.bin .add (.t 16) (.c (.int .i64 1)))⟩,
    ⟨(some 5), none, .p (.mv (.t 17))⟩]))))))
  (.seq (.reg [⟨(some 4), none, .p (.mv (.c (.bool true)))⟩])
  .ret))))⟩
theorem c15 : compF Try.prog ⟨fun s => [].contains s, fun r => match r with | 6 => [(0, .quiet), (1, .quiet), (2, .quiet), (3, .quiet), (4, .quiet), (5, .quiet), (6, .quiet), (7, .quiet), (8, .quiet), (9, .quiet), (10, .quiet), (11, .quiet), (12, .quiet), (13, .quiet), (14, .quiet), (15, .quiet), (16, .quiet), (17, .quiet), (18, .quiet), (19, .quiet), (20, .quiet), (21, .quiet), (22, .quiet), (23, .quiet), (24, .quiet), (25, .quiet)]  | 11 => [(0, .quiet), (1, .quiet), (2, .quiet), (3, .quiet), (4, .quiet), (5, .quiet), (6, .quiet), (7, .quiet), (8, .quiet), (9, .quiet), (10, .quiet), (11, .quiet), (12, .quiet), (13, .quiet), (14, .quiet), (15, .quiet), (16, .loud), (17, .quiet)] | _ => []⟩ Try.f15 = some a15 := by kernel_rfl

/- airline/edi.Parse -/
def a16 : AFun := ⟨35, [.tmp 2, .tmp 3, .tmp 4], (.seq (.reg [⟨(some 2), none, .p (.mv (.c .nilSl))⟩,
    ⟨(some 3), none, .p (.mv (.c (.int .i64 0)))⟩,
    ⟨(some 4), none, .p (.mv (.c (.int .i64 0)))⟩])
  (.seq (.seq (.reg [⟨(some 6), none, .p (.mv (.t 0))⟩,
    ⟨(some 7), none, .p (.lenS (.t 6))⟩,
    ⟨(some 8), none, .p (.bin .gtr (.t 7) (.c (.int .i64 65536)))⟩])
  (.cond (.t 8) (.seq (.reg [⟨(some 2), none, .p (.mv (.c .nilSl))⟩,
    ⟨(some 3), none, .p (.mv (.c (.int .i64 0)))⟩,
    ⟨(some 4), none, .p (.mv (.c (.int .i64 4)))⟩])
  .ret) .skip))
  (.seq (.reg [⟨(some 9), none, .p (.mv (.t 0))⟩,
    ⟨(some 10), none, .p (.build [(.str []), (.int .i64 0), .nilSl] [(0, 1, (.t 9))])⟩,
    ⟨(some 11), none, .boxO 63 (.t 10)⟩,
    ⟨(some 5), none, .p (.mv (.t 11))⟩])
  (.seq (.block 0 (.loop (.seq (.seq (.reg [⟨(some 12), none, .p (.mv (.t 5))⟩,
    ⟨(some 13), none, .p (.nilChk (.t 12))⟩,
    ⟨(some 14), none, .p (.faddr 1 (.t 13))⟩,
    ⟨(some 15), none, .p (.ld1 (.t 14))⟩,
    ⟨(some 16), none, .p (.mv (.t 0))⟩,
    ⟨(some 17), none, .p (.lenS (.t 16))⟩,
    ⟨(some 18), none, .p (.bin .lss (.t 15) (.t 17))⟩])
  (.cond (.t 18) .skip (.exit 0)))
  (.block 1 (.seq (.reg [⟨(some 19), none, .p (.mv (.t 5))⟩,
    ⟨(some 20), none, .call 37 [(.t 19)]⟩,
    ⟨(some 21), none, .p (.not (.t 20))⟩,
    ⟨(some 22), none, .p (.mv (.t 21))⟩,
    ⟨(some 23), (some (22, false)), .p (.mv (.t 5))⟩,
    ⟨(some 24), (some (22, false)), .call 38 [(.t 23)]⟩,
    ⟨(some 25), (some (22, false)), .p (.not (.t 24))⟩,
    ⟨(some 26), none, .p (.pick (.t 22) (.c (.bool true)) (.t 25))⟩])
  (.cond (.t 26) (.seq (.oreg [(.quiet, ⟨(some 27), none, .p (.mv (.t 5))⟩),
    (.quiet, ⟨(some 28), none, .p (.nilChk (.t 27))⟩),
    (.quiet, ⟨(some 29), none, .p (.faddr 1 (.t 28))⟩),
    (.quiet, ⟨(some 30), none, .p (.ld1 (.t 29))⟩),
    (.quiet, ⟨(some 2), none, .p (.mv (.c .nilSl))⟩),
    (.quiet, ⟨(some 3), none, .p (.mv (.t 30))⟩),
    (.quiet, ⟨(some 4), none, .p (.mv (.c (.int .i64 3)))⟩)])
  .ret) .skip))))))
  (.seq (.reg [⟨(some 31), none, .p (.mv (.t 5))⟩,
    ⟨(some 32), none, .p (.nilChk (.t 31))⟩,
    ⟨(some 33), none, .p (.faddr 2 (.t 32))⟩,
    ⟨(some 34), none, .p (.ld1 (.t 33))⟩,
    ⟨(some 2), none, .p (.mv (.t 34))⟩,
    ⟨(some 3), none, .p (.mv (.c (.int .i64 0)))⟩,
    ⟨(some 4), none, .p (.mv (.c (.int .i64 0)))⟩])
  .ret)))))⟩
theorem c16 : compF Try.prog ⟨fun s => [11].contains s, fun r => match r with | 6 => [(0, .quiet), (1, .quiet), (2, .quiet), (3, .quiet), (4, .quiet), (5, .quiet), (6, .quiet)] | _ => []⟩ Try.f16 = some a16 := by kernel_rfl

/- airline/airlineref43.Parse -/
def a17 : AFun := ⟨34, [.tmp 2, .tmp 3, .tmp 4], (.seq (.reg [⟨(some 2), none, .p (.mv (.c .nilSl))⟩,
    ⟨(some 3), none, .p (.mv (.c (.int .i64 0)))⟩,
    ⟨(some 4), none, .p (.mv (.c (.int .i64 0)))⟩])
  (.seq (.seq (.reg [⟨(some 7), none, .p (.mv (.t 0))⟩,
    ⟨(some 8), none, .p (.lenS (.t 7))⟩,
    ⟨(some 9), none, .p (.bin .gtr (.t 8) (.c (.int .i64 65536)))⟩])
  (.cond (.t 9) (.seq (.reg [⟨(some 2), none, .p (.mv (.c .nilSl))⟩,
    ⟨(some 3), none, .p (.mv (.c (.int .i64 0)))⟩,
    ⟨(some 4), none, .p (.mv (.c (.int .i64 4)))⟩])
  .ret) .skip))
  (.seq (.reg [⟨(some 10), none, .p (.mv (.t 0))⟩,
    ⟨(some 11), none, .p (.build [(.str []), (.int .i64 0), (.bool false)] [(0, 1, (.t 10))])⟩,
    ⟨(some 12), none, .boxO 66 (.t 11)⟩,
    ⟨(some 5), none, .p (.mv (.t 12))⟩])
  (.seq (.reg [⟨(some 6), none, .p (.mv (.c .nilSl))⟩])
  (.seq (.block 0 (.loop (.seq (.seq (.reg [⟨(some 13), none, .p (.mv (.t 5))⟩,
    ⟨(some 14), none, .p (.nilChk (.t 13))⟩,
    ⟨(some 15), none, .p (.faddr 1 (.t 14))⟩,
    ⟨(some 16), none, .p (.ld1 (.t 15))⟩,
    ⟨(some 17), none, .p (.mv (.t 0))⟩,
    ⟨(some 18), none, .p (.lenS (.t 17))⟩,
    ⟨(some 19), none, .p (.bin .lss (.t 16) (.t 18))⟩])
  (.cond (.t 19) .skip (.exit 0)))
  (.block 1 (.seq (.reg [⟨(some 20), none, .p (.mv (.t 6))⟩,
    ⟨(some 21), none, .p (.mv (.t 5))⟩,
    ⟨(some 22), none, .call 39 [(.t 21)]⟩,
    ⟨(some 23), none, .p (.bsl 2 [(.str []), .nilSl] 1 [(0, (.t 22))])⟩,
    ⟨(some 24), none, .app 35 2 (.t 20) (.t 23)⟩,
    ⟨(some 6), none, .p (.mv (.t 24))⟩])
  (.seq (.reg [⟨(some 25), none, .p (.mv (.t 5))⟩,
    ⟨(some 26), none, .p (.nilChk (.t 25))⟩,
    ⟨(some 27), none, .p (.faddr 2 (.t 26))⟩,
    ⟨(some 28), none, .p (.ld1 (.t 27))⟩])
  (.cond (.t 28) (.seq (.oreg [(.quiet, ⟨(some 29), none, .p (.mv (.t 5))⟩),
    (.quiet, ⟨(some 30), none, .p (.nilChk (.t 29))⟩),
    (.quiet, ⟨(some 31), none, .p (.faddr 1 (.t 30))⟩),
    (.quiet, ⟨(some 32), none, .p (.ld1 (.t 31))⟩),
    (.quiet, ⟨(some 2), none, .p (.mv (.c .nilSl))⟩),
    (.quiet, ⟨(some 3), none, .p (.mv (.t 32))⟩),
    (.quiet, ⟨(some 4), none, .p (.mv (.c (.int .i64 3)))⟩)])
  .ret) .skip)))))))
  (.seq (.reg [⟨(some 33), none, .p (.mv (.t 6))⟩,
    ⟨(some 2), none, .p (.mv (.t 33))⟩,
    ⟨(some 3), none, .p (.mv (.c (.int .i64 0)))⟩,
    ⟨(some 4), none, .p (.mv (.c (.int .i64 0)))⟩])
  .ret))))))⟩
theorem c17 : compF Try.prog ⟨fun s => [12].contains s, fun r => match r with | 8 => [(0, .quiet), (1, .quiet), (2, .quiet), (3, .quiet), (4, .quiet), (5, .quiet), (6, .quiet)] | _ => []⟩ Try.f17 = some a17 := by kernel_rfl

/- airline/edi.Get -/
def a18 : AFun := ⟨34, [.tmp 6], (.seq (.reg [⟨(some 3), none, .p (.boxI (.t 0))⟩,
    ⟨(some 6), none, .p (.mv (.c (.str [])))⟩])
  (.seq (.seq (.reg [⟨(some 8), none, .p (.mv (.t 1))⟩,
    ⟨(some 9), none, .p (.bin .lss (.t 8) (.c (.int .i64 0)))⟩,
    ⟨(some 10), none, .p (.mv (.t 9))⟩,
    ⟨(some 11), (some (10, false)), .p (.mv (.t 1))⟩,
    ⟨(some 12), (some (10, false)), .p (.faddr 1 (.t 3))⟩,
    ⟨(some 13), (some (10, false)), .p (.ld1 (.t 12))⟩,
    ⟨(some 14), (some (10, false)), .p (.lenA (.t 13))⟩,
    ⟨(some 15), (some (10, false)), .p (.bin .geq (.t 11) (.t 14))⟩,
    ⟨(some 16), none, .p (.pick (.t 10) (.c (.bool true)) (.t 15))⟩])
  (.cond (.t 16) (.seq (.reg [⟨(some 6), none, .p (.mv (.c (.str [])))⟩])
  .ret) .skip))
  (.seq (.reg [⟨(some 17), none, .p (.faddr 1 (.t 3))⟩,
    ⟨(some 18), none, .p (.ld1 (.t 17))⟩,
    ⟨(some 19), none, .p (.mv (.t 1))⟩,
    ⟨(some 20), none, .p (.idxA 1 (.t 18) (.t 19))⟩,
    ⟨(some 21), none, .p (.ld1 (.t 20))⟩,
    ⟨(some 7), none, .p (.mv (.t 21))⟩])
  (.seq (.seq (.reg [⟨(some 22), none, .p (.mv (.t 2))⟩,
    ⟨(some 23), none, .p (.bin .lss (.t 22) (.c (.int .i64 0)))⟩,
    ⟨(some 24), none, .p (.mv (.t 23))⟩,
    ⟨(some 25), (some (24, false)), .p (.mv (.t 2))⟩,
    ⟨(some 26), (some (24, false)), .p (.mv (.t 7))⟩,
    ⟨(some 27), (some (24, false)), .p (.lenA (.t 26))⟩,
    ⟨(some 28), (some (24, false)), .p (.bin .geq (.t 25) (.t 27))⟩,
    ⟨(some 29), none, .p (.pick (.t 24) (.c (.bool true)) (.t 28))⟩])
  (.cond (.t 29) (.seq (.reg [⟨(some 6), none, .p (.mv (.c (.str [])))⟩])
  .ret) .skip))
  (.seq (.reg [⟨(some 30), none, .p (.mv (.t 7))⟩,
    ⟨(some 31), none, .p (.mv (.t 2))⟩,
    ⟨(some 32), none, .p (.idxA 1 (.t 30) (.t 31))⟩,
    ⟨(some 33), none, .p (.ld1 (.t 32))⟩,
    ⟨(some 6), none, .p (.mv (.t 33))⟩])
  .ret)))))⟩
theorem c18 : compF Try.prog ⟨fun s => [].contains s, fun _ => []⟩ Try.f18 = some a18 := by kernel_rfl

/- airline/airlineref43.Get -/
def a19 : AFun := ⟨38, [.tmp 6], (.seq (.reg [⟨(some 3), none, .p (.boxI (.t 0))⟩,
    ⟨(some 6), none, .p (.mv (.c (.str [])))⟩])
  (.seq (.seq (.reg [⟨(some 7), none, .p (.mv (.t 1))⟩,
    ⟨(some 8), none, .p (.bin .lss (.t 7) (.c (.int .i64 0)))⟩,
    ⟨(some 9), none, .p (.mv (.t 8))⟩,
    ⟨(some 10), (some (9, false)), .p (.mv (.t 1))⟩,
    ⟨(some 11), (some (9, false)), .p (.faddr 1 (.t 3))⟩,
    ⟨(some 12), (some (9, false)), .p (.ld1 (.t 11))⟩,
    ⟨(some 13), (some (9, false)), .p (.lenA (.t 12))⟩,
    ⟨(some 14), (some (9, false)), .p (.bin .geq (.t 10) (.t 13))⟩,
    ⟨(some 15), none, .p (.pick (.t 9) (.c (.bool true)) (.t 14))⟩,
    ⟨(some 16), none, .p (.mv (.t 15))⟩,
    ⟨(some 17), (some (16, false)), .p (.mv (.t 2))⟩,
    ⟨(some 18), (some (16, false)), .p (.bin .lss (.t 17) (.c (.int .i64 0)))⟩,
    ⟨(some 19), none, .p (.pick (.t 16) (.c (.bool true)) (.t 18))⟩,
    ⟨(some 20), none, .p (.mv (.t 19))⟩,
    ⟨(some 21), (some (20, false)), .p (.mv (.t 2))⟩,
    ⟨(some 22), (some (20, false)), .p (.faddr 1 (.t 3))⟩,
    ⟨(some 23), (some (20, false)), .p (.ld1 (.t 22))⟩,
    ⟨(some 24), (some (20, false)), .p (.mv (.t 1))⟩,
    ⟨(some 25), (some (20, false)), .p (.idxA 1 (.t 23) (.t 24))⟩,
    ⟨(some 26), (some (20, false)), .p (.ld1 (.t 25))⟩,
    ⟨(some 27), (some (20, false)), .p (.lenA (.t 26))⟩,
    ⟨(some 28), (some (20, false)), .p (.bin .geq (.t 21) (.t 27))⟩,
    ⟨(some 29), none, .p (.pick (.t 20) (.c (.bool true)) (.t 28))⟩])
  (.cond (.t 29) (.seq (.reg [⟨(some 6), none, .p (.mv (.c (.str [])))⟩])
  .ret) .skip))
  (.seq (.reg [⟨(some 30), none, .p (.faddr 1 (.t 3))⟩,
    ⟨(some 31), none, .p (.ld1 (.t 30))⟩,
    ⟨(some 32), none, .p (.mv (.t 1))⟩,
    ⟨(some 33), none, .p (.idxA 1 (.t 31) (.t 32))⟩,
    ⟨(some 34), none, .p (.ld1 (.t 33))⟩,
    ⟨(some 35), none, .p (.mv (.t 2))⟩,
    ⟨(some 36), none, .p (.idxA 1 (.t 34) (.t 35))⟩,
    ⟨(some 37), none, .p (.ld1 (.t 36))⟩,
    ⟨(some 6), none, .p (.mv (.t 37))⟩])
  .ret)))⟩
theorem c19 : compF Try.prog ⟨fun s => [].contains s, fun _ => []⟩ Try.f19 = some a19 := by kernel_rfl

/- (*strings.Builder).WriteString -/
def a20 : AFun := ⟨19, [.tmp 4, .tmp 5], (.seq (.reg [⟨(some 4), none, .p (.mv (.c (.int .i64 0)))⟩,
    ⟨(some 5), none, .p (.mv (.c .nilIface))⟩])
  (.seq (.reg [⟨(some 6), none, .p (.mv (.t 0))⟩,
    ⟨(some 7), none, .call 40 [(.t 6)]⟩])
  (.seq (.reg [⟨(some 8), none, .p (.mv (.t 0))⟩,
    ⟨(some 9), none, .p (.mv (.t 0))⟩,
    ⟨(some 10), none, .p (.nilChk (.t 9))⟩,
    ⟨(some 11), none, .p (.faddr 1 (.t 10))⟩,
    ⟨(some 12), none, .p (.ld1 (.t 11))⟩,
    ⟨(some 13), none, .p (.mv (.t 1))⟩,
    ⟨(some 14), none, .appS 5 (.t 12) (.t 13)⟩,
    ⟨(some 15), none, .p (.nilChk (.t 8))⟩,
    ⟨(some 16), none, .p (.faddr 1 (.t 15))⟩,
    ⟨none, none, .st 1 (.t 16) (.t 14)⟩])
  (.seq (.reg [⟨(some 17), none, .p (.mv (.t 1))⟩,
    ⟨(some 18), none, .p (.lenS (.t 17))⟩,
    ⟨(some 4), none, .p (.mv (.t 18))⟩,
    ⟨(some 5), none, .p (.mv (.c .nilIface))⟩])
  .ret))))⟩
theorem c20 : compF Try.prog ⟨fun s => [].contains s, fun _ => []⟩ Try.f20 = some a20 := by kernel_rfl

/- (*strings.Builder).WriteByte -/
def a21 : AFun := ⟨17, [.tmp 4], (.seq (.reg [⟨(some 4), none, .p (.mv (.c .nilIface))⟩])
  (.seq (.reg [⟨(some 5), none, .p (.mv (.t 0))⟩,
    ⟨(some 6), none, .call 40 [(.t 5)]⟩])
  (.seq (.reg [⟨(some 7), none, .p (.mv (.t 0))⟩,
    ⟨(some 8), none, .p (.mv (.t 0))⟩,
    ⟨(some 9), none, .p (.nilChk (.t 8))⟩,
    ⟨(some 10), none, .p (.faddr 1 (.t 9))⟩,
    ⟨(some 11), none, .p (.ld1 (.t 10))⟩,
    ⟨(some 12), none, .p (.mv (.t 1))⟩,
    ⟨(some 13), none, .p (.bsl 1 [(.int .u8 0)] 1 [(0, (.t 12))])⟩,
    ⟨(some 14), none, .app 5 1 (.t 11) (.t 13)⟩,
    ⟨(some 15), none, .p (.nilChk (.t 7))⟩,
    ⟨(some 16), none, .p (.faddr 1 (.t 15))⟩,
    ⟨none, none, .st 1 (.t 16) (.t 14)⟩])
  (.seq (.reg [⟨(some 4), none, .p (.mv (.c .nilIface))⟩])
  .ret))))⟩
theorem c21 : compF Try.prog ⟨fun s => [].contains s, fun _ => []⟩ Try.f21 = some a21 := by kernel_rfl

/- strings.IndexByte -/
def a22 : AFun := ⟨8, [.tmp 4], (.seq (.reg [⟨(some 4), none, .p (.mv (.c (.int .i64 0)))⟩])
  (.seq (.reg [⟨(some 5), none, .p (.mv (.t 0))⟩,
    ⟨(some 6), none, .p (.mv (.t 1))⟩,
    ⟨(some 7), none, .call 41 [(.t 5), (.t 6)]⟩,
    ⟨(some 4), none, .p (.mv (.t 7))⟩])
  .ret))⟩
theorem c22 : compF Try.prog ⟨fun s => [].contains s, fun _ => []⟩ Try.f22 = some a22 := by kernel_rfl

/- (*strings.Builder).Len -/
def a23 : AFun := ⟨8, [.tmp 2], (.seq (.reg [⟨(some 2), none, .p (.mv (.c (.int .i64 0)))⟩])
  (.seq (.reg [⟨(some 3), none, .p (.mv (.t 0))⟩,
    ⟨(some 4), none, .p (.nilChk (.t 3))⟩,
    ⟨(some 5), none, .p (.faddr 1 (.t 4))⟩,
    ⟨(some 6), none, .p (.ld1 (.t 5))⟩,
    ⟨(some 7), none, .p (.lenA (.t 6))⟩,
    ⟨(some 2), none, .p (.mv (.t 7))⟩])
  .ret))⟩
theorem c23 : compF Try.prog ⟨fun s => [].contains s, fun _ => []⟩ Try.f23 = some a23 := by kernel_rfl

/- (*strings.Builder).String -/
def a24 : AFun := ⟨14, [.tmp 2], (.seq (.reg [⟨(some 2), none, .p (.mv (.c (.str [])))⟩])
  (.seq (.oreg [(.quiet, ⟨(some 3), none, .p (.mv (.t 0))⟩),
    (.quiet, ⟨(some 4), none, .p (.nilChk (.t 3))⟩),
    (.quiet, ⟨(some 5), none, .p (.faddr 1 (.t 4))⟩),
    (.quiet, ⟨(some 6), none, .p (.ld1 (.t 5))⟩),
    (.quiet, ⟨(some 7), none, .p (.xo .sdat [(.t 6)])⟩),
    (.quiet, ⟨(some 8), none, .p (.mv (.t 0))⟩),
    (.quiet, ⟨(some 9), none, .p (.nilChk (.t 8))⟩),
    (.quiet, ⟨(some 10), none, .p (.faddr 1 (.t 9))⟩),
    (.quiet, ⟨(some 11), none, .p (.ld1 (.t 10))⟩),
    (.quiet, ⟨(some 12), none, .p (.lenA (.t 11))⟩),
    (.loud, ⟨(some 13), none, .xs (.uStr 5) [(.t 7), (.t 12)]⟩),
    (.quiet, ⟨(some 2), none, .p (.mv (.t 13))⟩)])
  .ret))⟩
theorem c24 : compF Try.prog ⟨fun s => [].contains s, fun r => match r with | 1 => [(0, .quiet), (1, .quiet), (2, .quiet), (3, .quiet), (4, .quiet), (5, .quiet), (6, .quiet), (7, .quiet), (8, .quiet), (9, .quiet), (10, .loud), (11, .quiet)] | _ => []⟩ Try.f24 = some a24 := by kernel_rfl

/- airline/airlineref43.line -/
def a25 : AFun := ⟨44, [.tmp 2], (.seq (.reg [⟨(some 1), none, .p (.boxI (.t 0))⟩,
    ⟨(some 2), none, .p (.mv (.c (.str [])))⟩])
  (.seq (.reg [⟨(some 6), none, .p (.faddr 0 (.t 1))⟩,
    ⟨(some 7), none, .p (.ld1 (.t 6))⟩,
    ⟨(some 3), none, .p (.mv (.t 7))⟩])
  (.seq (.seq (.reg [⟨(some 4), none, .p (.mv (.c (.int .i64 0)))⟩])
  (.block 0 (.loop (.seq (.seq (.reg [⟨(some 8), none, .p (.mv (.t 4))⟩,
    ⟨(some 9), none, .p (.faddr 1 (.t 1))⟩,
    ⟨(some 10), none, .p (.ld1 (.t 9))⟩,
    ⟨(some 11), none, .p (.lenA (.t 10))⟩,
    ⟨(some 12), none, .p (.bin .lss (.t 8) (.t 11))⟩])
  (.cond (.t 12) .skip (.exit 0)))
  (.seq (.block 1 (.seq (.reg [⟨(some 5), none, .p (.mv (.c (.int .i64 0)))⟩])
  (.block 2 (.loop (.seq (.seq (.reg [⟨(some 15), none, .p (.mv (.t 5))⟩,
    ⟨(some 16), none, .p (.faddr 1 (.t 1))⟩,
    ⟨(some 17), none, .p (.ld1 (.t 16))⟩,
    ⟨(some 18), none, .p (.mv (.t 4))⟩,
    ⟨(some 19), none, .p (.idxA 1 (.t 17) (.t 18))⟩,
    ⟨(some 20), none, .p (.ld1 (.t 19))⟩,
    ⟨(some 21), none, .p (.lenA (.t 20))⟩,
    ⟨(some 22), none, .p (.bin .lss (.t 15) (.t 21))⟩])
  (.cond (.t 22) .skip (.exit 2)))
  (.seq (.block 3 (.seq (.seq (.reg [⟨(some 25), none, .p (.mv (.t 5))⟩,
    ⟨(some 26), none, .p (.bin .eql (.t 25) (.c (.int .i64 0)))⟩])
  (.cond (.t 26) (.reg [⟨(some 27), none, .p (.mv (.t 3))⟩,
    ⟨(some 28), none, .p (.bin .add (.t 27) (.c (.str [43])))⟩,
    ⟨(some 3), none, .p (.mv (.t 28))⟩]) (.reg [⟨(some 29), none, .p (.mv (.t 3))⟩,
    ⟨(some 30), none, .p (.bin .add (.t 29) (.c (.str [58])))⟩,
    ⟨(some 3), none, .p (.mv (.t 30))⟩])))
  (.reg [⟨(some 31), none, .p (.mv (.t 3))⟩,
    ⟨(some 32), none, .p (.faddr 1 (.t 1))⟩,
    ⟨(some 33), none, .p (.ld1 (.t 32))⟩,
    ⟨(some 34), none, .p (.mv (.t 4))⟩,
    ⟨(some 35), none, .p (.idxA 1 (.t 33) (.t 34))⟩,
    ⟨(some 36), none, .p (.ld1 (.t 35))⟩,
    ⟨(some 37), none, .p (.mv (.t 5))⟩,
    ⟨(some 38), none, .p (.idxA 1 (.t 36) (.t 37))⟩,
    ⟨(some 39), none, .p (.ld1 (.t 38))⟩,
    ⟨(some 40), none, .call 42 [(.t 39)]⟩,
    ⟨(some 41), none, .p (.bin .add (.t 31) (.t 40))⟩,
    ⟨(some 3), none, .p (.mv (.t 41))⟩])))
  (.reg [⟨(some 23), none, .p (.mv (.t 5))⟩,
    ⟨(some 24), none, .p (.bin .add (.t 23) (.c (.int .i64 1)))⟩,
    ⟨(some 5), none, .p (.mv (.t 24))⟩])))))))
  (.reg [⟨(some 13), none, .p (.mv (.t 4))⟩,
    ⟨(some 14), none, .p (.bin .add (.t 13) (.c (.int .i64 1)))⟩,
    ⟨(some 4), none, .p (.mv (.t 14))⟩]))))))
  (.seq (.reg [⟨(some 42), none, .p (.mv (.t 3))⟩,
    ⟨(some 43), none, .p (.bin .add (.t 42) (.c (.str [39])))⟩,
    ⟨(some 2), none, .p (.mv (.t 43))⟩])
  .ret))))⟩
theorem c25 : compF Try.prog ⟨fun s => [].contains s, fun _ => []⟩ Try.f25 = some a25 := by kernel_rfl

/- slices.ContainsFunc[[]airline/api.Line,airline/api.Line] -/
def a26 : AFun := ⟨9, [.tmp 4], (.seq (.reg [⟨(some 4), none, .p (.mv (.c (.bool false)))⟩])
  (.seq (.reg [⟨(some 5), none, .p (.mv (.t 0))⟩,
    ⟨(some 6), none, .p (.mv (.t 1))⟩,
    ⟨(some 7), none, .call 43 [(.t 5), (.t 6)]⟩,
    ⟨(some 8), none, .p (.bin .geq (.t 7) (.c (.int .i64 0)))⟩,
    ⟨(some 4), none, .p (.mv (.t 8))⟩])
  .ret))⟩
theorem c26 : compF Try.prog ⟨fun s => [].contains s, fun _ => []⟩ Try.f26 = some a26 := by kernel_rfl

/- airline/edi.Right$1 -/
def a27 : AFun := ⟨6, [.tmp 2], (.seq (.reg [⟨(some 1), none, .p (.boxI (.t 0))⟩,
    ⟨(some 2), none, .p (.mv (.c (.bool false)))⟩])
  (.seq (.reg [⟨(some 3), none, .p (.ldn 2 (.t 1))⟩,
    ⟨(some 4), none, .call 28 [(.t 3)]⟩,
    ⟨(some 5), none, .p (.not (.t 4))⟩,
    ⟨(some 2), none, .p (.mv (.t 5))⟩])
  .ret))⟩
theorem c27 : compF Try.prog ⟨fun s => [].contains s, fun _ => []⟩ Try.f27 = some a27 := by kernel_rfl

/- airline/edi.writable -/
def a28 : AFun := ⟨41, [.tmp 2], (.seq (.reg [⟨(some 1), none, .p (.boxI (.t 0))⟩,
    ⟨(some 2), none, .p (.mv (.c (.bool false)))⟩])
  (.seq (.seq (.reg [⟨(some 6), none, .p (.faddr 0 (.t 1))⟩,
    ⟨(some 7), none, .p (.ld1 (.t 6))⟩,
    ⟨(some 8), none, .p (.lenS (.t 7))⟩,
    ⟨(some 9), none, .p (.bin .neq (.t 8) (.c (.int .i64 3)))⟩])
  (.cond (.t 9) (.seq (.reg [⟨(some 2), none, .p (.mv (.c (.bool false)))⟩])
  .ret) .skip))
  (.seq (.seq (.reg [⟨(some 10), none, .p (.mv (.c (.int .i64 0)))⟩])
  (.block 0 (.loop (.seq (.reg [⟨(some 11), none, .p (.bin .lss (.t 10) (.c (.int .i64 3)))⟩])
  (.seq (.cond (.t 11) .skip (.exit 0))
  (.seq (.block 1 (.seq (.reg [⟨(some 12), none, .p (.mv (.t 10))⟩,
    ⟨(some 3), none, .p (.mv (.t 12))⟩])
  (.seq (.reg [⟨(some 13), none, .p (.faddr 0 (.t 1))⟩,
    ⟨(some 14), none, .p (.ld1 (.t 13))⟩,
    ⟨(some 15), none, .p (.mv (.t 3))⟩,
    ⟨(some 16), none, .p (.idxS (.t 14) (.t 15))⟩,
    ⟨(some 17), none, .p (.bin .lss (.t 16) (.c (.int .u8 65)))⟩,
    ⟨(some 18), none, .p (.mv (.t 17))⟩,
    ⟨(some 19), (some (18, false)), .p (.faddr 0 (.t 1))⟩,
    ⟨(some 20), (some (18, false)), .p (.ld1 (.t 19))⟩,
    ⟨(some 21), (some (18, false)), .p (.mv (.t 3))⟩,
    ⟨(some 22), (some (18, false)), .p (.idxS (.t 20) (.t 21))⟩,
    ⟨(some 23), (some (18, false)), .p (.bin .gtr (.t 22) (.c (.int .u8 90)))⟩,
    ⟨(some 24), none, .p (.pick (.t 18) (.c (.bool true)) (.t 23))⟩])
  (.cond (.t 24) (.seq (.reg [⟨(some 2), none, .p (.mv (.c (.bool false)))⟩])
  .ret) .skip))))
  (.reg [⟨(some 25), none, .p (.bin .add (.t 10) (.c (.int .i64 1)))⟩,
    ⟨(some 10), none, .p (.mv (.t 25))⟩])))))))
  (.seq (.seq (.reg [⟨(some 26), none, .p (.faddr 1 (.t 1))⟩,
    ⟨(some 27), none, .p (.ld1 (.t 26))⟩,
    ⟨(some 28), none, .p (.lenA (.t 27))⟩,
    ⟨(some 29), none, .p (.mv (.c (.int .i64 0)))⟩])
  (.block 2 (.loop (.seq (.reg [⟨(some 30), none, .p (.bin .lss (.t 29) (.t 28))⟩])
  (.seq (.cond (.t 30) .skip (.exit 2))
  (.seq (.block 3 (.seq (.reg [⟨(some 31), none, .p (.idxA 1 (.t 27) (.t 29))⟩,
    ⟨(some 32), none, .p (.ld1 (.t 31))⟩,
    ⟨(some 5), none, .p (.mv (.t 32))⟩])
  (.seq (.reg [⟨(some 33), none, .p (.mv (.t 5))⟩,
    ⟨(some 34), none, .p (.lenA (.t 33))⟩,
    ⟨(some 35), none, .p (.bin .eql (.t 34) (.c (.int .i64 0)))⟩,
    ⟨(some 36), none, .p (.mv (.t 35))⟩,
    ⟨(some 37), (some (36, false)), .p (.mv (.t 5))⟩,
    ⟨(some 38), (some (36, false)), .call 44 [(.t 37), (.c (.func 45 [] []))]⟩,
    ⟨(some 39), none, .p (.pick (.t 36) (.c (.bool true)) (.t 38))⟩])
  (.cond (.t 39) (.seq (.reg [⟨(some 2), none, .p (.mv (.c (.bool false)))⟩])
  .ret) .skip))))
  (.reg [⟨(some 40), none, .p (.bin .add (.t 29) (.c (.int .i64 1)))⟩,
    ⟨(some 29), none, .p (.mv (.t 40))⟩])))))))
  (.seq (.reg [⟨(some 2), none, .p (.mv (.c (.bool true)))⟩])
  .ret)))))⟩
theorem c28 : compF Try.prog ⟨fun s => [].contains s, fun _ => []⟩ Try.f28 = some a28 := by kernel_rfl

/- airline/airlineref01.Airport -/
def a29 : AFun := ⟨5, [.tmp 2], (.seq (.reg [⟨(some 2), none, .p (.mv (.c (.bool false)))⟩])
  (.seq (.reg [⟨(some 3), none, .p (.mv (.t 0))⟩,
    ⟨(some 4), none, .call 46 [(.t 3), (.c (.int .i64 3))]⟩,
    ⟨(some 2), none, .p (.mv (.t 4))⟩])
  .ret))⟩
theorem c29 : compF Try.prog ⟨fun s => [].contains s, fun _ => []⟩ Try.f29 = some a29 := by kernel_rfl

/- airline/airlineref43.plain -/
def a30 : AFun := ⟨20, [.tmp 2], (.seq (.reg [⟨(some 2), none, .p (.mv (.c (.bool false)))⟩])
  (.seq (.seq (.reg [⟨(some 3), none, .p (.mv (.c (.int .i64 0)))⟩])
  (.block 0 (.loop (.seq (.seq (.reg [⟨(some 4), none, .p (.mv (.t 3))⟩,
    ⟨(some 5), none, .p (.mv (.t 0))⟩,
    ⟨(some 6), none, .p (.lenS (.t 5))⟩,
    ⟨(some 7), none, .p (.bin .lss (.t 4) (.t 6))⟩])
  (.cond (.t 7) .skip (.exit 0)))
  (.seq (.block 1 (.seq (.reg [⟨(some 10), none, .p (.mv (.t 0))⟩,
    ⟨(some 11), none, .p (.mv (.t 3))⟩,
    ⟨(some 12), none, .p (.idxS (.t 10) (.t 11))⟩,
    ⟨(some 13), none, .p (.bin .lss (.t 12) (.c (.int .u8 32)))⟩,
    ⟨(some 14), none, .p (.mv (.t 13))⟩,
    ⟨(some 15), (some (14, false)), .p (.mv (.t 0))⟩,
    ⟨(some 16), (some (14, false)), .p (.mv (.t 3))⟩,
    ⟨(some 17), (some (14, false)), .p (.idxS (.t 15) (.t 16))⟩,
    ⟨(some 18), (some (14, false)), .p (.bin .gtr (.t 17) (.c (.int .u8 126)))⟩,
    ⟨(some 19), none, .p (.pick (.t 14) (.c (.bool true)) (.t 18))⟩])
  (.cond (.t 19) (.seq (.reg [⟨(some 2), none, .p (.mv (.c (.bool false)))⟩])
  .ret) .skip)))
  (.reg [⟨(some 8), none, .p (.mv (.t 3))⟩,
    ⟨(some 9), none, .p (.bin .add (.t 8) (.c (.int .i64 1)))⟩,
    ⟨(some 3), none, .p (.mv (.t 9))⟩]))))))
  (.seq (.reg [⟨(some 2), none, .p (.mv (.c (.bool true)))⟩])
  .ret)))⟩
theorem c30 : compF Try.prog ⟨fun s => [].contains s, fun _ => []⟩ Try.f30 = some a30 := by kernel_rfl

/- slices.EqualFunc[[]airline/api.Line,[]airline/api.Line,airline/api.Line,airline/api.Line] -/
def a31 : AFun := ⟨32, [.tmp 6], (.seq (.reg [⟨(some 6), none, .p (.mv (.c (.bool false)))⟩])
  (.seq (.seq (.reg [⟨(some 10), none, .p (.mv (.t 0))⟩,
    ⟨(some 11), none, .p (.lenA (.t 10))⟩,
    ⟨(some 12), none, .p (.mv (.t 1))⟩,
    ⟨(some 13), none, .p (.lenA (.t 12))⟩,
    ⟨(some 14), none, .p (.bin .neq (.t 11) (.t 13))⟩])
  (.cond (.t 14) (.seq (.reg [⟨(some 6), none, .p (.mv (.c (.bool false)))⟩])
  .ret) .skip))
  (.seq (.seq (.reg [⟨(some 15), none, .p (.mv (.t 0))⟩,
    ⟨(some 16), none, .p (.lenA (.t 15))⟩,
    ⟨(some 17), none, .p (.mv (.c (.int .i64 0)))⟩])
  (.block 0 (.loop (.seq (.reg [⟨(some 18), none, .p (.bin .lss (.t 17) (.t 16))⟩])
  (.seq (.cond (.t 18) .skip (.exit 0))
  (.seq (.block 1 (.seq (.reg [⟨(some 19), none, .p (.mv (.t 17))⟩,
    ⟨(some 20), none, .p (.idxA 2 (.t 15) (.t 17))⟩,
    ⟨(some 21), none, .p (.ldn 2 (.t 20))⟩,
    ⟨(some 8), none, .newO 35 [(.str []), .nilSl]⟩,
    ⟨(some 7), none, .p (.mv (.t 19))⟩,
    ⟨none, none, .st 2 (.t 8) (.t 21)⟩])
  (.seq (.reg [⟨(some 22), none, .p (.mv (.t 1))⟩,
    ⟨(some 23), none, .p (.mv (.t 7))⟩,
    ⟨(some 24), none, .p (.idxA 2 (.t 22) (.t 23))⟩,
    ⟨(some 25), none, .p (.ldn 2 (.t 24))⟩,
    ⟨(some 9), none, .newO 35 [(.str []), .nilSl]⟩,
    ⟨none, none, .st 2 (.t 9) (.t 25)⟩])
  (.seq (.reg [⟨(some 26), none, .p (.mv (.t 2))⟩,
    ⟨(some 27), none, .p (.ldn 2 (.t 8))⟩,
    ⟨(some 28), none, .p (.ldn 2 (.t 9))⟩,
    ⟨(some 29), none, .callv (.t 26) [(.t 27), (.t 28)]⟩,
    ⟨(some 30), none, .p (.not (.t 29))⟩])
  (.cond (.t 30) (.seq (.reg [⟨(some 6), none, .p (.mv (.c (.bool false)))⟩])
  .ret) .skip)))))
  (.reg [⟨(some 31), none, .p (.bin .add (.t 17) (.c (.int .i64 1)))⟩,
    ⟨(some 17), none, .p (.mv (.t 31))⟩])))))))
  (.seq (.reg [⟨(some 6), none, .p (.mv (.c (.bool true)))⟩])
  .ret))))⟩
theorem c31 : compF Try.prog ⟨fun s => [].contains s, fun _ => []⟩ Try.f31 = some a31 := by kernel_rfl

/- airline/edi.Same$1 -/
def a32 : AFun := ⟨17, [.tmp 4], (.seq (.reg [⟨(some 2), none, .p (.boxI (.t 0))⟩,
    ⟨(some 3), none, .p (.boxI (.t 1))⟩,
    ⟨(some 4), none, .p (.mv (.c (.bool false)))⟩])
  (.seq (.reg [⟨(some 5), none, .p (.faddr 0 (.t 2))⟩,
    ⟨(some 6), none, .p (.ld1 (.t 5))⟩,
    ⟨(some 7), none, .p (.faddr 0 (.t 3))⟩,
    ⟨(some 8), none, .p (.ld1 (.t 7))⟩,
    ⟨(some 9), none, .p (.bin .eql (.t 6) (.t 8))⟩,
    ⟨(some 10), none, .p (.mv (.t 9))⟩,
    ⟨(some 11), (some (10, true)), .p (.faddr 1 (.t 2))⟩,
    ⟨(some 12), (some (10, true)), .p (.ld1 (.t 11))⟩,
    ⟨(some 13), (some (10, true)), .p (.faddr 1 (.t 3))⟩,
    ⟨(some 14), (some (10, true)), .p (.ld1 (.t 13))⟩,
    ⟨(some 15), (some (10, true)), .call 33 [(.t 12), (.t 14), (.c (.func 34 [] []))]⟩,
    ⟨(some 16), none, .p (.pick (.t 10) (.t 15) (.c (.bool false)))⟩,
    ⟨(some 4), none, .p (.mv (.t 16))⟩])
  .ret))⟩
theorem c32 : compF Try.prog ⟨fun s => [].contains s, fun _ => []⟩ Try.f32 = some a32 := by kernel_rfl

/- slices.EqualFunc[[]airline/api.Element,[]airline/api.Element,airline/api.Element,airline/api.Element] -/
def a33 : AFun := ⟨32, [.tmp 6], (.seq (.reg [⟨(some 6), none, .p (.mv (.c (.bool false)))⟩])
  (.seq (.seq (.reg [⟨(some 10), none, .p (.mv (.t 0))⟩,
    ⟨(some 11), none, .p (.lenA (.t 10))⟩,
    ⟨(some 12), none, .p (.mv (.t 1))⟩,
    ⟨(some 13), none, .p (.lenA (.t 12))⟩,
    ⟨(some 14), none, .p (.bin .neq (.t 11) (.t 13))⟩])
  (.cond (.t 14) (.seq (.reg [⟨(some 6), none, .p (.mv (.c (.bool false)))⟩])
  .ret) .skip))
  (.seq (.seq (.reg [⟨(some 15), none, .p (.mv (.t 0))⟩,
    ⟨(some 16), none, .p (.lenA (.t 15))⟩,
    ⟨(some 17), none, .p (.mv (.c (.int .i64 0)))⟩])
  (.block 0 (.loop (.seq (.reg [⟨(some 18), none, .p (.bin .lss (.t 17) (.t 16))⟩])
  (.seq (.cond (.t 18) .skip (.exit 0))
  (.seq (.block 1 (.seq (.reg [⟨(some 19), none, .p (.mv (.t 17))⟩,
    ⟨(some 20), none, .p (.idxA 1 (.t 15) (.t 17))⟩,
    ⟨(some 21), none, .p (.ld1 (.t 20))⟩,
    ⟨(some 7), none, .p (.mv (.t 19))⟩,
    ⟨(some 8), none, .p (.mv (.t 21))⟩])
  (.seq (.reg [⟨(some 22), none, .p (.mv (.t 1))⟩,
    ⟨(some 23), none, .p (.mv (.t 7))⟩,
    ⟨(some 24), none, .p (.idxA 1 (.t 22) (.t 23))⟩,
    ⟨(some 25), none, .p (.ld1 (.t 24))⟩,
    ⟨(some 9), none, .p (.mv (.t 25))⟩])
  (.seq (.reg [⟨(some 26), none, .p (.mv (.t 2))⟩,
    ⟨(some 27), none, .p (.mv (.t 8))⟩,
    ⟨(some 28), none, .p (.mv (.t 9))⟩,
    ⟨(some 29), none, .callv (.t 26) [(.t 27), (.t 28)]⟩,
    ⟨(some 30), none, .p (.not (.t 29))⟩])
  (.cond (.t 30) (.seq (.reg [⟨(some 6), none, .p (.mv (.c (.bool false)))⟩])
  .ret) .skip)))))
  (.reg [⟨(some 31), none, .p (.bin .add (.t 17) (.c (.int .i64 1)))⟩,
    ⟨(some 17), none, .p (.mv (.t 31))⟩])))))))
  (.seq (.reg [⟨(some 6), none, .p (.mv (.c (.bool true)))⟩])
  .ret))))⟩
theorem c33 : compF Try.prog ⟨fun s => [].contains s, fun _ => []⟩ Try.f33 = some a33 := by kernel_rfl

/- airline/edi.Same$1$1 -/
def a34 : AFun := ⟨8, [.tmp 4], (.seq (.reg [⟨(some 4), none, .p (.mv (.c (.bool false)))⟩])
  (.seq (.reg [⟨(some 5), none, .p (.mv (.t 0))⟩,
    ⟨(some 6), none, .p (.mv (.t 1))⟩,
    ⟨(some 7), none, .call 35 [(.t 5), (.t 6)]⟩,
    ⟨(some 4), none, .p (.mv (.t 7))⟩])
  .ret))⟩
theorem c34 : compF Try.prog ⟨fun s => [].contains s, fun _ => []⟩ Try.f34 = some a34 := by kernel_rfl

/- slices.Equal[airline/api.Element,string] -/
def a35 : AFun := ⟨26, [.tmp 4], (.seq (.reg [⟨(some 4), none, .p (.mv (.c (.bool false)))⟩])
  (.seq (.seq (.reg [⟨(some 6), none, .p (.mv (.t 0))⟩,
    ⟨(some 7), none, .p (.lenA (.t 6))⟩,
    ⟨(some 8), none, .p (.mv (.t 1))⟩,
    ⟨(some 9), none, .p (.lenA (.t 8))⟩,
    ⟨(some 10), none, .p (.bin .neq (.t 7) (.t 9))⟩])
  (.cond (.t 10) (.seq (.reg [⟨(some 4), none, .p (.mv (.c (.bool false)))⟩])
  .ret) .skip))
  (.seq (.seq (.reg [⟨(some 11), none, .p (.mv (.t 0))⟩,
    ⟨(some 12), none, .p (.lenA (.t 11))⟩,
    ⟨(some 13), none, .p (.mv (.c (.int .i64 0)))⟩])
  (.block 0 (.loop (.seq (.reg [⟨(some 14), none, .p (.bin .lss (.t 13) (.t 12))⟩])
  (.seq (.cond (.t 14) .skip (.exit 0))
  (.seq (.block 1 (.seq (.reg [⟨(some 15), none, .p (.mv (.t 13))⟩,
    ⟨(some 5), none, .p (.mv (.t 15))⟩])
  (.seq (.oreg [(.quiet, ⟨(some 16), none, .p (.mv (.t 0))⟩),
    (.quiet, ⟨(some 17), none, .p (.mv (.t 5))⟩),
    (.quiet, ⟨(some 18), none, .p (.idxA 1 (.t 16) (.t 17))⟩),
    (.quiet, ⟨(some 19), none, .p (.ld1 (.t 18))⟩),
    (.quiet, ⟨(some 20), none, .p (.mv (.t 1))⟩),
    (.quiet, ⟨(some 21), none, .p (.mv (.t 5))⟩),
    (.quiet, ⟨(some 22), none, .p (.idxA 1 (.t 20) (.t 21))⟩),
    (.quiet, ⟨(some 23), none, .p (.ld1 (.t 22))⟩),
    (.quiet, ⟨(some 24), none, .p (.bin .neq (.t 19) (.t 23))⟩)])
  (.cond (.t 24) (.seq (.reg [⟨(some 4), none, .p (.mv (.c (.bool false)))⟩])
  .ret) .skip))))
  (.reg [⟨(some 25), none, .p (.bin .add (.t 13) (.c (.int .i64 1)))⟩,
    ⟨(some 13), none, .p (.mv (.t 25))⟩])))))))
  (.seq (.reg [⟨(some 4), none, .p (.mv (.c (.bool true)))⟩])
  .ret))))⟩
theorem c35 : compF Try.prog ⟨fun s => [].contains s, fun r => match r with | 6 => [(0, .quiet), (1, .quiet), (2, .quiet), (3, .quiet), (4, .quiet), (5, .quiet), (6, .quiet), (7, .quiet), (8, .quiet)] | _ => []⟩ Try.f35 = some a35 := by kernel_rfl

/- airline/airlineref01.Same -/
def a36 : AFun := ⟨26, [.tmp 4], (.seq (.reg [⟨(some 4), none, .p (.mv (.c (.bool false)))⟩])
  (.seq (.seq (.reg [⟨(some 6), none, .p (.mv (.t 0))⟩,
    ⟨(some 7), none, .p (.lenA (.t 6))⟩,
    ⟨(some 8), none, .p (.mv (.t 1))⟩,
    ⟨(some 9), none, .p (.lenA (.t 8))⟩,
    ⟨(some 10), none, .p (.bin .neq (.t 7) (.t 9))⟩])
  (.cond (.t 10) (.seq (.reg [⟨(some 4), none, .p (.mv (.c (.bool false)))⟩])
  .ret) .skip))
  (.seq (.seq (.reg [⟨(some 5), none, .p (.mv (.c (.int .i64 0)))⟩])
  (.block 0 (.loop (.seq (.seq (.reg [⟨(some 11), none, .p (.mv (.t 5))⟩,
    ⟨(some 12), none, .p (.mv (.t 0))⟩,
    ⟨(some 13), none, .p (.lenA (.t 12))⟩,
    ⟨(some 14), none, .p (.bin .lss (.t 11) (.t 13))⟩])
  (.cond (.t 14) .skip (.exit 0)))
  (.seq (.block 1 (.seq (.oreg [(.quiet, ⟨(some 17), none, .p (.mv (.t 0))⟩),
    (.quiet, ⟨(some 18), none, .p (.mv (.t 5))⟩),
    (.quiet, ⟨(some 19), none, .p (.idxA 1 (.t 17) (.t 18))⟩),
    (.quiet, ⟨(some 20), none, .p (.ld1 (.t 19))⟩),
    (.quiet, ⟨(some 21), none, .p (.mv (.t 1))⟩),
    (.quiet, ⟨(some 22), none, .p (.mv (.t 5))⟩),
    (.quiet, ⟨(some 23), none, .p (.idxA 1 (.t 21) (.t 22))⟩),
    (.quiet, ⟨(some 24), none, .p (.ld1 (.t 23))⟩),
    (.quiet, ⟨(some 25), none, .p (.bin .neq (.t 20) (.t 24))⟩)])
  (.cond (.t 25) (.seq (.reg [⟨(some 4), none, .p (.mv (.c (.bool false)))⟩])
  .ret) .skip)))
  (.reg [⟨(some 15), none, .p (.mv (.t 5))⟩,
    ⟨(some 16), none, .p (.bin .add (.t 15) (.c (.int .i64 1)))⟩,
    ⟨(some 5), none, .p (.mv (.t 16))⟩]))))))
  (.seq (.reg [⟨(some 4), none, .p (.mv (.c (.bool true)))⟩])
  .ret))))⟩
theorem c36 : compF Try.prog ⟨fun s => [].contains s, fun r => match r with | 6 => [(0, .quiet), (1, .quiet), (2, .quiet), (3, .quiet), (4, .quiet), (5, .quiet), (6, .quiet), (7, .quiet), (8, .quiet)] | _ => []⟩ Try.f36 = some a36 := by kernel_rfl

/- (*airline/edi.reader).tag -/
def a37 : AFun := ⟨76, [.tmp 2], (.seq (.reg [⟨(some 2), none, .p (.mv (.c (.bool false)))⟩])
  (.seq (.reg [⟨(some 4), none, .p (.mv (.t 0))⟩,
    ⟨(some 5), none, .p (.nilChk (.t 4))⟩,
    ⟨(some 6), none, .p (.faddr 1 (.t 5))⟩,
    ⟨(some 7), none, .p (.ld1 (.t 6))⟩,
    ⟨(some 3), none, .p (.mv (.t 7))⟩])
  (.seq (.block 0 (.loop (.seq (.seq (.reg [⟨(some 8), none, .p (.mv (.t 0))⟩,
    ⟨(some 9), none, .p (.nilChk (.t 8))⟩,
    ⟨(some 10), none, .p (.faddr 1 (.t 9))⟩,
    ⟨(some 11), none, .p (.ld1 (.t 10))⟩,
    ⟨(some 12), none, .p (.mv (.t 3))⟩,
    ⟨(some 13), none, .p (.bin .add (.t 12) (.c (.int .i64 3)))⟩,
    ⟨(some 14), none, .p (.bin .lss (.t 11) (.t 13))⟩])
  (.cond (.t 14) .skip (.exit 0)))
  (.block 1 (.seq (.seq (.oreg [(.quiet, ⟨(some 15), none, .p (.mv (.t 0))⟩),
    (.quiet, ⟨(some 16), none, .p (.nilChk (.t 15))⟩),
    (.quiet, ⟨(some 17), none, .p (.faddr 1 (.t 16))⟩),
    (.quiet, ⟨(some 18), none, .p (.ld1 (.t 17))⟩),
    (.quiet, ⟨(some 19), none, .p (.mv (.t 0))⟩),
    (.quiet, ⟨(some 20), none, .p (.nilChk (.t 19))⟩),
    (.quiet, ⟨(some 21), none, .p (.faddr 0 (.t 20))⟩),
    (.quiet, ⟨(some 22), none, .p (.ld1 (.t 21))⟩),
    (.quiet, ⟨(some 23), none, .p (.lenS (.t 22))⟩),
    (.quiet, ⟨(some 24), none, .p (.bin .eql (.t 18) (.t 23))⟩),
    (.quiet, ⟨(some 25), none, .p (.mv (.t 24))⟩),
    (.quiet, ⟨(some 26), (some (25, false)), .p (.mv (.t 0))⟩),
    (.quiet, ⟨(some 27), (some (25, false)), .p (.nilChk (.t 26))⟩),
    (.quiet, ⟨(some 28), (some (25, false)), .p (.faddr 0 (.t 27))⟩),
    (.quiet, ⟨(some 29), (some (25, false)), .p (.ld1 (.t 28))⟩),
    (.quiet, ⟨(some 30), (some (25, false)), .p (.mv (.t 0))⟩),
    (.quiet, ⟨(some 31), (some (25, false)), .p (.nilChk (.t 30))⟩),
    (.quiet, ⟨(some 32), (some (25, false)), .p (.faddr 1 (.t 31))⟩),
    (.quiet, ⟨(some 33), (some (25, false)), .p (.ld1 (.t 32))⟩),
    (.quiet, ⟨(some 34), (some (25, false)), .p (.idxS (.t 29) (.t 33))⟩),
    (.quiet, ⟨(some 35), (some (25, false)), .p (.bin .lss (.t 34) (.c (.int .u8 65)))⟩),
    (.quiet, ⟨(some 36), none, .p (.pick (.t 25) (.c (.bool true)) (.t 35))⟩),
    (.quiet, ⟨(some 37), none, .p (.mv (.t 36))⟩),
    (.quiet, ⟨(some 38), (some (37, false)), .p (.mv (.t 0))⟩),
    (.quiet, ⟨(some 39), (some (37, false)), .p (.nilChk (.t 38))⟩),
    (.quiet, ⟨(some 40), (some (37, false)), .p (.faddr 0 (.t 39))⟩),
    (.quiet, ⟨(some 41), (some (37, false)), .p (.ld1 (.t 40))⟩),
    (.quiet, ⟨(some 42), (some (37, false)), .p (.mv (.t 0))⟩),
    (.quiet, ⟨(some 43), (some (37, false)), .p (.nilChk (.t 42))⟩),
    (.quiet, ⟨(some 44), (some (37, false)), .p (.faddr 1 (.t 43))⟩),
    (.quiet, ⟨(some 45), (some (37, false)), .p (.ld1 (.t 44))⟩),
    (.quiet, ⟨(some 46), (some (37, false)), .p (.idxS (.t 41) (.t 45))⟩),
    (.quiet, ⟨(some 47), (some (37, false)), .p (.bin .gtr (.t 46) (.c (.int .u8 90)))⟩),
    (.quiet, ⟨(some 48), none, .p (.pick (.t 37) (.c (.bool true)) (.t 47))⟩)])
  (.cond (.t 48) (.seq (.reg [⟨(some 2), none, .p (.mv (.c (.bool false)))⟩])
  .ret) .skip))
  (.reg [⟨(some 49), none, .p (.mv (.t 0))⟩,
    ⟨(some 50), none, .p (.nilChk (.t 49))⟩,
    ⟨(some 51), none, .p (.faddr 1 (.t 50))⟩,
    ⟨(some 52), none, .p (.ld1 (.t 51))⟩,
    ⟨(some 53), none, .p (.bin .add (.t 52) (.c (.int .i64 1)))⟩,
    ⟨(some 54), none, .p (.nilChk (.t 49))⟩,
    ⟨(some 55), none, .p (.faddr 1 (.t 54))⟩,
    ⟨none, none, .st 1 (.t 55) (.t 53)⟩]))))))
  (.seq (.oreg [(.stable, ⟨(some 56), none, .p (.mv (.t 0))⟩),
    (.quiet, ⟨(some 57), none, .p (.mv (.t 0))⟩),
    (.quiet, ⟨(some 58), none, .p (.nilChk (.t 57))⟩),
    (.quiet, ⟨(some 59), none, .p (.faddr 2 (.t 58))⟩),
    (.quiet, ⟨(some 60), none, .p (.ld1 (.t 59))⟩),
    (.quiet, ⟨(some 61), none, .p (.mv (.t 0))⟩),
    (.quiet, ⟨(some 62), none, .p (.nilChk (.t 61))⟩),
    (.quiet, ⟨(some 63), none, .p (.faddr 0 (.t 62))⟩),
    (.quiet, ⟨(some 64), none, .p (.ld1 (.t 63))⟩),
    (.quiet, ⟨(some 65), none, .p (.mv (.t 3))⟩),
    (.quiet, ⟨(some 66), none, .p (.mv (.t 0))⟩),
    (.quiet, ⟨(some 67), none, .p (.nilChk (.t 66))⟩),
    (.quiet, ⟨(some 68), none, .p (.faddr 1 (.t 67))⟩),
    (.quiet, ⟨(some 69), none, .p (.ld1 (.t 68))⟩),
    (.quiet, ⟨(some 70), none, .p (.slS (.t 64) (some (.t 65)) (some (.t 69)))⟩),
    (.quiet, ⟨(some 71), none, .p (.build [(.str []), .nilSl] [(0, 1, (.t 70))])⟩),
    (.quiet, ⟨(some 72), none, .p (.bsl 2 [(.str []), .nilSl] 1 [(0, (.t 71))])⟩),
    (.loud, ⟨(some 73), none, .app 35 2 (.t 60) (.t 72)⟩),
    (.quiet, ⟨(some 74), none, .p (.nilChk (.t 56))⟩),
    (.quiet, ⟨(some 75), none, .p (.faddr 2 (.t 74))⟩),
    (.loud, ⟨none, none, .st 1 (.t 75) (.t 73)⟩)])
  (.seq (.reg [⟨(some 2), none, .p (.mv (.c (.bool true)))⟩])
  .ret)))))⟩
theorem c37 : compF Try.prog ⟨fun s => [].contains s, fun r => match r with | 3 => [(0, .quiet), (1, .quiet), (2, .quiet), (3, .quiet), (4, .quiet), (5, .quiet), (6, .quiet), (7, .quiet), (8, .quiet), (9, .quiet), (10, .quiet), (11, .quiet), (12, .quiet), (13, .quiet), (14, .quiet), (15, .quiet), (16, .quiet), (17, .quiet), (18, .quiet), (19, .quiet), (20, .quiet), (21, .quiet), (22, .quiet), (23, .quiet), (24, .quiet), (25, .quiet), (26, .quiet), (27, .quiet), (28, .quiet), (29, .quiet), (30, .quiet), (31, .quiet), (32, .quiet), (33, .quiet)]  | 6 => [(0, .stable), (1, .quiet), (2, .quiet), (3, .quiet), (4, .quiet), (5, .quiet), (6, .quiet), (7, .quiet), (8, .quiet), (9, .quiet), (10, .quiet), (11, .quiet), (12, .quiet), (13, .quiet), (14, .quiet), (15, .quiet), (16, .quiet), (17, .loud), (18, .quiet), (19, .quiet), (20, .loud)] | _ => []⟩ Try.f37 = some a37 := by kernel_rfl

/- (*airline/edi.reader).line -/
def a38 : AFun := ⟨147, [.tmp 2], (.seq (.reg [⟨(some 2), none, .p (.mv (.c (.bool false)))⟩])
  (.seq (.oreg [(.quiet, ⟨(some 13), none, .p (.mv (.t 0))⟩),
    (.quiet, ⟨(some 14), none, .p (.nilChk (.t 13))⟩),
    (.quiet, ⟨(some 15), none, .p (.faddr 2 (.t 14))⟩),
    (.quiet, ⟨(some 16), none, .p (.ld1 (.t 15))⟩),
    (.quiet, ⟨(some 17), none, .p (.mv (.t 0))⟩),
    (.quiet, ⟨(some 18), none, .p (.nilChk (.t 17))⟩),
    (.quiet, ⟨(some 19), none, .p (.faddr 2 (.t 18))⟩),
    (.quiet, ⟨(some 20), none, .p (.ld1 (.t 19))⟩),
    (.quiet, ⟨(some 21), none, .p (.lenA (.t 20))⟩),
    (.quiet, ⟨(some 22), none, .p (.bin .sub (.t 21) (.c (.int .i64 1)))⟩),
    (.quiet, ⟨(some 23), none, .p (.idxA 2 (.t 16) (.t 22))⟩),
    (.quiet, ⟨(some 3), none, .p (.mv (.t 23))⟩)])
  (.seq (.reg [⟨(some 4), none, .p (.mv (.c .nilSl))⟩])
  (.seq (.block 0 (.loop (.seq (.seq (.oreg [(.quiet, ⟨(some 24), none, .p (.mv (.t 0))⟩),
    (.quiet, ⟨(some 25), none, .p (.nilChk (.t 24))⟩),
    (.quiet, ⟨(some 26), none, .p (.faddr 1 (.t 25))⟩),
    (.quiet, ⟨(some 27), none, .p (.ld1 (.t 26))⟩),
    (.quiet, ⟨(some 28), none, .p (.mv (.t 0))⟩),
    (.quiet, ⟨(some 29), none, .p (.nilChk (.t 28))⟩),
    (.quiet, ⟨(some 30), none, .p (.faddr 0 (.t 29))⟩),
    (.quiet, ⟨(some 31), none, .p (.ld1 (.t 30))⟩),
    (.quiet, ⟨(some 32), none, .p (.lenS (.t 31))⟩),
    (.quiet, ⟨(some 33), none, .p (.bin .lss (.t 27) (.t 32))⟩)])
  (.cond (.t 33) .skip (.exit 0)))
  (.block 1 (.seq (.oreg [(.quiet, ⟨(some 35), none, .p (.mv (.t 0))⟩),
    (.quiet, ⟨(some 36), none, .p (.nilChk (.t 35))⟩),
    (.quiet, ⟨(some 37), none, .p (.faddr 0 (.t 36))⟩),
    (.quiet, ⟨(some 38), none, .p (.ld1 (.t 37))⟩),
    (.quiet, ⟨(some 39), none, .p (.mv (.t 0))⟩),
    (.quiet, ⟨(some 40), none, .p (.nilChk (.t 39))⟩),
    (.quiet, ⟨(some 41), none, .p (.faddr 1 (.t 40))⟩),
    (.quiet, ⟨(some 42), none, .p (.ld1 (.t 41))⟩),
    (.loud, ⟨(some 43), none, .call 47 [(.t 38), (.t 42)]⟩),
    (.quiet, ⟨(some 34), none, .p (.mv (.t 43))⟩),
    (.quiet, ⟨(some 44), none, .p (.ext 0 (.t 34))⟩),
    (.quiet, ⟨(some 45), none, .p (.ext 1 (.t 34))⟩),
    (.quiet, ⟨(some 5), none, .p (.mv (.t 44))⟩),
    (.quiet, ⟨(some 6), none, .p (.mv (.t 45))⟩)])
  (.seq (.reg [⟨(some 46), none, .p (.mv (.t 3))⟩,
    ⟨(some 47), none, .p (.nilChk (.t 46))⟩,
    ⟨(some 48), none, .p (.faddr 1 (.t 47))⟩,
    ⟨(some 49), none, .p (.ld1 (.t 48))⟩,
    ⟨(some 50), none, .p (.lenA (.t 49))⟩,
    ⟨(some 51), none, .p (.bin .gtr (.t 50) (.c (.int .i64 0)))⟩,
    ⟨(some 7), none, .p (.mv (.t 51))⟩])
  (.seq (.seq (.reg [⟨(some 53), none, .p (.mv (.t 5))⟩,
    ⟨(some 54), none, .p (.tas 76 (.int .u8 0) true (.t 53))⟩,
    ⟨(some 52), none, .p (.mv (.t 54))⟩,
    ⟨(some 55), none, .p (.ext 0 (.t 52))⟩,
    ⟨(some 56), none, .p (.ext 1 (.t 52))⟩,
    ⟨(some 8), none, .p (.mv (.t 55))⟩,
    ⟨(some 9), none, .p (.mv (.t 56))⟩])
  (.seq (.reg [⟨(some 57), none, .p (.mv (.t 9))⟩,
    ⟨(some 58), none, .p (.mv (.t 57))⟩,
    ⟨(some 59), (some (58, true)), .p (.mv (.t 7))⟩,
    ⟨(some 60), none, .p (.pick (.t 58) (.t 59) (.c (.bool false)))⟩])
  (.cond (.t 60) (.seq (.reg [⟨(some 61), none, .p (.mv (.t 4))⟩,
    ⟨(some 62), none, .p (.mv (.t 8))⟩,
    ⟨(some 63), none, .p (.bsl 1 [(.int .u8 0)] 1 [(0, (.t 62))])⟩,
    ⟨(some 64), none, .app 5 1 (.t 61) (.t 63)⟩,
    ⟨(some 4), none, .p (.mv (.t 64))⟩])
  (.seq (.reg [⟨(some 65), none, .p (.mv (.t 0))⟩,
    ⟨(some 66), none, .p (.nilChk (.t 65))⟩,
    ⟨(some 67), none, .p (.faddr 1 (.t 66))⟩,
    ⟨(some 68), none, .p (.ld1 (.t 67))⟩,
    ⟨(some 69), none, .p (.mv (.t 6))⟩,
    ⟨(some 70), none, .p (.bin .add (.t 68) (.t 69))⟩,
    ⟨(some 71), none, .p (.nilChk (.t 65))⟩,
    ⟨(some 72), none, .p (.faddr 1 (.t 71))⟩,
    ⟨none, none, .st 1 (.t 72) (.t 70)⟩])
  (.exit 1))) .skip)))
  (.seq (.reg [⟨(some 74), none, .p (.mv (.t 5))⟩,
    ⟨(some 75), none, .p (.tas 78 (.int .u8 0) true (.t 74))⟩,
    ⟨(some 73), none, .p (.mv (.t 75))⟩,
    ⟨(some 76), none, .p (.ext 0 (.t 73))⟩,
    ⟨(some 77), none, .p (.ext 1 (.t 73))⟩,
    ⟨(some 10), none, .p (.mv (.t 76))⟩,
    ⟨(some 11), none, .p (.mv (.t 77))⟩])
  (.seq (.seq (.reg [⟨(some 78), none, .p (.mv (.t 11))⟩,
    ⟨(some 79), none, .p (.not (.t 78))⟩,
    ⟨(some 80), none, .p (.mv (.t 79))⟩,
    ⟨(some 81), (some (80, true)), .p (.mv (.t 5))⟩,
    ⟨(some 82), (some (80, true)), .p (.isNil 2 false (.t 81))⟩,
    ⟨(some 83), none, .p (.pick (.t 80) (.t 82) (.c (.bool false)))⟩,
    ⟨(some 84), none, .p (.mv (.t 83))⟩,
    ⟨(some 85), (some (84, true)), .p (.mv (.t 7))⟩,
    ⟨(some 86), none, .p (.pick (.t 84) (.t 85) (.c (.bool false)))⟩])
  (.cond (.t 86) (.reg [⟨(some 87), none, .p (.mv (.t 0))⟩,
    ⟨(some 88), none, .p (.nilChk (.t 87))⟩,
    ⟨(some 89), none, .p (.faddr 1 (.t 88))⟩,
    ⟨(some 90), none, .p (.ld1 (.t 89))⟩,
    ⟨(some 91), none, .p (.mv (.t 6))⟩,
    ⟨(some 92), none, .p (.bin .add (.t 90) (.t 91))⟩,
    ⟨(some 93), none, .p (.nilChk (.t 87))⟩,
    ⟨(some 94), none, .p (.faddr 1 (.t 93))⟩,
    ⟨none, none, .st 1 (.t 94) (.t 92)⟩]) .skip))
  (.seq (.seq (.reg [⟨(some 95), none, .p (.mv (.t 11))⟩,
    ⟨(some 96), none, .p (.not (.t 95))⟩,
    ⟨(some 97), none, .p (.mv (.t 96))⟩,
    ⟨(some 98), (some (97, false)), .p (.mv (.t 7))⟩,
    ⟨(some 99), (some (97, false)), .p (.not (.t 98))⟩,
    ⟨(some 100), (some (97, false)), .p (.mv (.t 99))⟩,
    ⟨(some 101), (some (100, true)), .p (.mv (.t 10))⟩,
    ⟨(some 102), (some (100, true)), .p (.bin .eql (.t 101) (.c (.int .u8 58)))⟩,
    ⟨(some 103), (some (97, false)), .p (.pick (.t 100) (.t 102) (.c (.bool false)))⟩,
    ⟨(some 104), none, .p (.pick (.t 97) (.c (.bool true)) (.t 103))⟩])
  (.cond (.t 104) (.seq (.reg [⟨(some 2), none, .p (.mv (.c (.bool false)))⟩])
  .ret) .skip))
  (.seq (.seq (.reg [⟨(some 105), none, .p (.mv (.t 7))⟩])
  (.cond (.t 105) (.seq (.oreg [(.quiet, ⟨(some 106), none, .p (.mv (.t 3))⟩),
    (.quiet, ⟨(some 107), none, .p (.nilChk (.t 106))⟩),
    (.quiet, ⟨(some 108), none, .p (.faddr 1 (.t 107))⟩),
    (.quiet, ⟨(some 109), none, .p (.ld1 (.t 108))⟩),
    (.quiet, ⟨(some 110), none, .p (.mv (.t 3))⟩),
    (.quiet, ⟨(some 111), none, .p (.nilChk (.t 110))⟩),
    (.quiet, ⟨(some 112), none, .p (.faddr 1 (.t 111))⟩),
    (.quiet, ⟨(some 113), none, .p (.ld1 (.t 112))⟩),
    (.quiet, ⟨(some 114), none, .p (.lenA (.t 113))⟩),
    (.quiet, ⟨(some 115), none, .p (.bin .sub (.t 114) (.c (.int .i64 1)))⟩),
    (.quiet, ⟨(some 116), none, .p (.idxA 1 (.t 109) (.t 115))⟩),
    (.quiet, ⟨(some 12), none, .p (.mv (.t 116))⟩)])
  (.seq (.oreg [(.stable, ⟨(some 117), none, .p (.mv (.t 12))⟩),
    (.quiet, ⟨(some 118), none, .p (.mv (.t 12))⟩),
    (.quiet, ⟨(some 119), none, .p (.nilChk (.t 118))⟩),
    (.quiet, ⟨(some 120), none, .p (.ld1 (.t 119))⟩),
    (.quiet, ⟨(some 121), none, .p (.mv (.t 4))⟩),
    (.quiet, ⟨(some 122), none, .p (.b2s (.t 121))⟩),
    (.quiet, ⟨(some 123), none, .p (.bsl 1 [(.str [])] 1 [(0, (.t 122))])⟩),
    (.loud, ⟨(some 124), none, .app 9 1 (.t 120) (.t 123)⟩),
    (.quiet, ⟨(some 125), none, .p (.nilChk (.t 117))⟩),
    (.loud, ⟨none, none, .st 1 (.t 125) (.t 124)⟩)])
  (.reg [⟨(some 4), none, .p (.mv (.c .nilSl))⟩]))) .skip))
  (.seq (.seq (.reg [⟨(some 126), none, .p (.mv (.t 10))⟩,
    ⟨(some 127), none, .p (.bin .eql (.t 126) (.c (.int .u8 43)))⟩])
  (.cond (.t 127) (.reg [⟨(some 128), none, .p (.mv (.t 3))⟩,
    ⟨(some 129), none, .p (.mv (.t 3))⟩,
    ⟨(some 130), none, .p (.nilChk (.t 129))⟩,
    ⟨(some 131), none, .p (.faddr 1 (.t 130))⟩,
    ⟨(some 132), none, .p (.ld1 (.t 131))⟩,
    ⟨(some 133), none, .p (.bsl 1 [.nilSl] 1 [(0, (.c .nilSl))])⟩,
    ⟨(some 134), none, .app 40 1 (.t 132) (.t 133)⟩,
    ⟨(some 135), none, .p (.nilChk (.t 128))⟩,
    ⟨(some 136), none, .p (.faddr 1 (.t 135))⟩,
    ⟨none, none, .st 1 (.t 136) (.t 134)⟩]) .skip))
  (.seq (.reg [⟨(some 137), none, .p (.mv (.t 0))⟩,
    ⟨(some 138), none, .p (.nilChk (.t 137))⟩,
    ⟨(some 139), none, .p (.faddr 1 (.t 138))⟩,
    ⟨(some 140), none, .p (.ld1 (.t 139))⟩,
    ⟨(some 141), none, .p (.mv (.t 6))⟩,
    ⟨(some 142), none, .p (.bin .add (.t 140) (.t 141))⟩,
    ⟨(some 143), none, .p (.nilChk (.t 137))⟩,
    ⟨(some 144), none, .p (.faddr 1 (.t 143))⟩,
    ⟨none, none, .st 1 (.t 144) (.t 142)⟩])
  (.seq (.reg [⟨(some 145), none, .p (.mv (.t 10))⟩,
    ⟨(some 146), none, .p (.bin .eql (.t 145) (.c (.int .u8 39)))⟩])
  (.cond (.t 146) (.seq (.reg [⟨(some 2), none, .p (.mv (.c (.bool true)))⟩])
  .ret) .skip)))))))))))))))
  (.seq (.reg [⟨(some 2), none, .p (.mv (.c (.bool false)))⟩])
  .ret)))))⟩
theorem c38 : compF Try.prog ⟨fun s => [].contains s, fun r => match r with | 1 => [(0, .quiet), (1, .quiet), (2, .quiet), (3, .quiet), (4, .quiet), (5, .quiet), (6, .quiet), (7, .quiet), (8, .quiet), (9, .quiet), (10, .quiet), (11, .quiet)]  | 3 => [(0, .quiet), (1, .quiet), (2, .quiet), (3, .quiet), (4, .quiet), (5, .quiet), (6, .quiet), (7, .quiet), (8, .quiet), (9, .quiet)]  | 4 => [(0, .quiet), (1, .quiet), (2, .quiet), (3, .quiet), (4, .quiet), (5, .quiet), (6, .quiet), (7, .quiet), (8, .loud), (9, .quiet), (10, .quiet), (11, .quiet), (12, .quiet), (13, .quiet)]  | 16 => [(0, .quiet), (1, .quiet), (2, .quiet), (3, .quiet), (4, .quiet), (5, .quiet), (6, .quiet), (7, .quiet), (8, .quiet), (9, .quiet), (10, .quiet), (11, .quiet)]  | 17 => [(0, .stable), (1, .quiet), (2, .quiet), (3, .quiet), (4, .quiet), (5, .quiet), (6, .quiet), (7, .loud), (8, .quiet), (9, .loud)] | _ => []⟩ Try.f38 = some a38 := by kernel_rfl

/- (*airline/airlineref43.reader).line -/
def a39 : AFun := ⟨53, [.cell 2 (some 2)], (.seq (.reg [⟨(some 2), none, .newO 35 [(.str []), .nilSl]⟩])
  (.seq (.reg [⟨(some 5), none, .p (.mv (.t 0))⟩,
    ⟨(some 6), none, .call 48 [(.t 5)]⟩,
    ⟨(some 7), none, .p (.build [(.str []), .nilSl] [(0, 1, (.t 6))])⟩,
    ⟨(some 3), none, .newO 35 [(.str []), .nilSl]⟩,
    ⟨none, none, .st 2 (.t 3) (.t 7)⟩])
  (.seq (.block 0 (.loop (.seq (.seq (.reg [⟨(some 8), none, .p (.mv (.t 0))⟩,
    ⟨(some 9), none, .call 49 [(.t 8), (.c (.int .u8 43))]⟩])
  (.cond (.t 9) .skip (.exit 0)))
  (.block 1 (.seq (.reg [⟨(some 10), none, .p (.mv (.t 0))⟩,
    ⟨(some 11), none, .p (.nilChk (.t 10))⟩,
    ⟨(some 12), none, .p (.faddr 1 (.t 11))⟩,
    ⟨(some 13), none, .p (.ld1 (.t 12))⟩,
    ⟨(some 14), none, .p (.bin .add (.t 13) (.c (.int .i64 1)))⟩,
    ⟨(some 15), none, .p (.nilChk (.t 10))⟩,
    ⟨(some 16), none, .p (.faddr 1 (.t 15))⟩,
    ⟨none, none, .st 1 (.t 16) (.t 14)⟩])
  (.seq (.reg [⟨(some 17), none, .p (.mv (.t 0))⟩,
    ⟨(some 18), none, .call 50 [(.t 17)]⟩,
    ⟨(some 19), none, .bslO 9 1 [(.str [])] 1 [(0, (.t 18))]⟩,
    ⟨(some 4), none, .p (.mv (.t 19))⟩])
  (.seq (.block 2 (.loop (.seq (.seq (.reg [⟨(some 20), none, .p (.mv (.t 0))⟩,
    ⟨(some 21), none, .call 49 [(.t 20), (.c (.int .u8 58))]⟩])
  (.cond (.t 21) .skip (.exit 2)))
  (.block 3 (.seq (.reg [⟨(some 22), none, .p (.mv (.t 0))⟩,
    ⟨(some 23), none, .p (.nilChk (.t 22))⟩,
    ⟨(some 24), none, .p (.faddr 1 (.t 23))⟩,
    ⟨(some 25), none, .p (.ld1 (.t 24))⟩,
    ⟨(some 26), none, .p (.bin .add (.t 25) (.c (.int .i64 1)))⟩,
    ⟨(some 27), none, .p (.nilChk (.t 22))⟩,
    ⟨(some 28), none, .p (.faddr 1 (.t 27))⟩,
    ⟨none, none, .st 1 (.t 28) (.t 26)⟩])
  (.reg [⟨(some 29), none, .p (.mv (.t 4))⟩,
    ⟨(some 30), none, .p (.mv (.t 0))⟩,
    ⟨(some 31), none, .call 50 [(.t 30)]⟩,
    ⟨(some 32), none, .p (.bsl 1 [(.str [])] 1 [(0, (.t 31))])⟩,
    ⟨(some 33), none, .app 9 1 (.t 29) (.t 32)⟩,
    ⟨(some 4), none, .p (.mv (.t 33))⟩]))))))
  (.reg [⟨(some 34), none, .p (.faddr 1 (.t 3))⟩,
    ⟨(some 35), none, .p (.ld1 (.t 34))⟩,
    ⟨(some 36), none, .p (.mv (.t 4))⟩,
    ⟨(some 37), none, .bslO 40 1 [.nilSl] 1 [(0, (.t 36))]⟩,
    ⟨(some 38), none, .app 40 1 (.t 35) (.t 37)⟩,
    ⟨(some 39), none, .p (.faddr 1 (.t 3))⟩,
    ⟨none, none, .st 1 (.t 39) (.t 38)⟩]))))))))
  (.seq (.seq (.reg [⟨(some 40), none, .p (.mv (.t 0))⟩,
    ⟨(some 41), none, .call 49 [(.t 40), (.c (.int .u8 39))]⟩])
  (.cond (.t 41) (.reg [⟨(some 42), none, .p (.mv (.t 0))⟩,
    ⟨(some 43), none, .p (.nilChk (.t 42))⟩,
    ⟨(some 44), none, .p (.faddr 1 (.t 43))⟩,
    ⟨(some 45), none, .p (.ld1 (.t 44))⟩,
    ⟨(some 46), none, .p (.bin .add (.t 45) (.c (.int .i64 1)))⟩,
    ⟨(some 47), none, .p (.nilChk (.t 42))⟩,
    ⟨(some 48), none, .p (.faddr 1 (.t 47))⟩,
    ⟨none, none, .st 1 (.t 48) (.t 46)⟩]) (.reg [⟨(some 49), none, .p (.mv (.t 0))⟩,
    ⟨(some 50), none, .p (.nilChk (.t 49))⟩,
    ⟨(some 51), none, .p (.faddr 2 (.t 50))⟩,
    ⟨none, none, .st 1 (.t 51) (.c (.bool true))⟩])))
  (.seq (.reg [⟨(some 52), none, .p (.ldn 2 (.t 3))⟩,
    ⟨none, none, .st 2 (.t 2) (.t 52)⟩])
  .ret)))))⟩
theorem c39 : compF Try.prog ⟨fun s => [19, 37].contains s, fun _ => []⟩ Try.f39 = some a39 := by kernel_rfl

/- (*strings.Builder).copyCheck -/
def a40 : AFun := ⟨20, [], (.seq (.reg [⟨(some 2), none, .p (.mv (.t 0))⟩,
    ⟨(some 3), none, .p (.nilChk (.t 2))⟩,
    ⟨(some 4), none, .p (.faddr 0 (.t 3))⟩,
    ⟨(some 5), none, .p (.ld1 (.t 4))⟩,
    ⟨(some 6), none, .p (.isNil 1 false (.t 5))⟩])
  (.cond (.t 6) (.reg [⟨(some 7), none, .p (.mv (.t 0))⟩,
    ⟨(some 8), none, .p (.mv (.t 0))⟩,
    ⟨(some 9), none, .p (.xo .toU [(.t 8)])⟩,
    ⟨(some 10), none, .p (.mv (.t 9))⟩,
    ⟨(some 11), none, .p (.xo (.frU 44 2) [(.t 10)])⟩,
    ⟨(some 12), none, .p (.nilChk (.t 7))⟩,
    ⟨(some 13), none, .p (.faddr 0 (.t 12))⟩,
    ⟨none, none, .st 1 (.t 13) (.t 11)⟩]) (.seq (.reg [⟨(some 14), none, .p (.mv (.t 0))⟩,
    ⟨(some 15), none, .p (.nilChk (.t 14))⟩,
    ⟨(some 16), none, .p (.faddr 0 (.t 15))⟩,
    ⟨(some 17), none, .p (.ld1 (.t 16))⟩,
    ⟨(some 18), none, .p (.mv (.t 0))⟩,
    ⟨(some 19), none, .p (.xo (.eqP true) [(.t 17), (.t 18)])⟩])
  (.cond (.t 19) .stuck .skip))))⟩
theorem c40 : compF Try.prog ⟨fun s => [].contains s, fun _ => []⟩ Try.f40 = some a40 := by kernel_rfl

/- internal/stringslite.IndexByte -/
def a41 : AFun := ⟨8, [.tmp 4], (.seq (.reg [⟨(some 4), none, .p (.mv (.c (.int .i64 0)))⟩])
  (.seq (.reg [⟨(some 5), none, .p (.mv (.t 0))⟩,
    ⟨(some 6), none, .p (.mv (.t 1))⟩,
    ⟨(some 7), none, .call 52 [(.t 5), (.t 6)]⟩,
    ⟨(some 4), none, .p (.mv (.t 7))⟩])
  .ret))⟩
theorem c41 : compF Try.prog ⟨fun s => [].contains s, fun _ => []⟩ Try.f41 = some a41 := by kernel_rfl

/- airline/airlineref43.release -/
def a42 : AFun := ⟨26, [.tmp 2], (.seq (.reg [⟨(some 2), none, .p (.mv (.c (.str [])))⟩])
  (.seq (.reg [⟨(some 3), none, .p (.mv (.c .nilSl))⟩])
  (.seq (.seq (.reg [⟨(some 4), none, .p (.mv (.c (.int .i64 0)))⟩])
  (.block 0 (.loop (.seq (.seq (.reg [⟨(some 5), none, .p (.mv (.t 4))⟩,
    ⟨(some 6), none, .p (.mv (.t 0))⟩,
    ⟨(some 7), none, .p (.lenS (.t 6))⟩,
    ⟨(some 8), none, .p (.bin .lss (.t 5) (.t 7))⟩])
  (.cond (.t 8) .skip (.exit 0)))
  (.seq (.block 1 (.seq (.seq (.reg [⟨(some 11), none, .p (.mv (.t 0))⟩,
    ⟨(some 12), none, .p (.mv (.t 4))⟩,
    ⟨(some 13), none, .p (.idxS (.t 11) (.t 12))⟩,
    ⟨(some 14), none, .call 53 [(.t 13)]⟩])
  (.cond (.t 14) (.reg [⟨(some 15), none, .p (.mv (.t 3))⟩,
    ⟨(some 16), none, .p (.bsl 1 [(.int .u8 0)] 1 [(0, (.c (.int .u8 63)))])⟩,
    ⟨(some 17), none, .app 5 1 (.t 15) (.t 16)⟩,
    ⟨(some 3), none, .p (.mv (.t 17))⟩]) .skip))
  (.reg [⟨(some 18), none, .p (.mv (.t 3))⟩,
    ⟨(some 19), none, .p (.mv (.t 0))⟩,
    ⟨(some 20), none, .p (.mv (.t 4))⟩,
    ⟨(some 21), none, .p (.idxS (.t 19) (.t 20))⟩,
    ⟨(some 22), none, .p (.bsl 1 [(.int .u8 0)] 1 [(0, (.t 21))])⟩,
    ⟨(some 23), none, .app 5 1 (.t 18) (.t 22)⟩,
    ⟨(some 3), none, .p (.mv (.t 23))⟩])))
  (.reg [⟨(some 9), none, .p (.mv (.t 4))⟩,
    ⟨(some 10), none, .p (.bin .add (.t 9) (.c (.int .i64 1)))⟩,
    ⟨(some 4), none, .p (.mv (.t 10))⟩]))))))
  (.seq (.reg [⟨(some 24), none, .p (.mv (.t 3))⟩,
    ⟨(some 25), none, .p (.b2s (.t 24))⟩,
    ⟨(some 2), none, .p (.mv (.t 25))⟩])
  .ret))))⟩
theorem c42 : compF Try.prog ⟨fun s => [].contains s, fun _ => []⟩ Try.f42 = some a42 := by kernel_rfl

/- slices.IndexFunc[[]airline/api.Line,airline/api.Line] -/
def a43 : AFun := ⟨19, [.tmp 4], (.seq (.reg [⟨(some 4), none, .p (.mv (.c (.int .i64 0)))⟩])
  (.seq (.seq (.reg [⟨(some 6), none, .p (.mv (.t 0))⟩,
    ⟨(some 7), none, .p (.lenA (.t 6))⟩,
    ⟨(some 8), none, .p (.mv (.c (.int .i64 0)))⟩])
  (.block 0 (.loop (.seq (.reg [⟨(some 9), none, .p (.bin .lss (.t 8) (.t 7))⟩])
  (.seq (.cond (.t 9) .skip (.exit 0))
  (.seq (.block 1 (.seq (.reg [⟨(some 10), none, .p (.mv (.t 8))⟩,
    ⟨(some 5), none, .p (.mv (.t 10))⟩])
  (.seq (.reg [⟨(some 11), none, .p (.mv (.t 1))⟩,
    ⟨(some 12), none, .p (.mv (.t 0))⟩,
    ⟨(some 13), none, .p (.mv (.t 5))⟩,
    ⟨(some 14), none, .p (.idxA 2 (.t 12) (.t 13))⟩,
    ⟨(some 15), none, .p (.ldn 2 (.t 14))⟩,
    ⟨(some 16), none, .callv (.t 11) [(.t 15)]⟩])
  (.cond (.t 16) (.seq (.reg [⟨(some 17), none, .p (.mv (.t 5))⟩,
    ⟨(some 4), none, .p (.mv (.t 17))⟩])
  .ret) .skip))))
  (.reg [⟨(some 18), none, .p (.bin .add (.t 8) (.c (.int .i64 1)))⟩,
    ⟨(some 8), none, .p (.mv (.t 18))⟩])))))))
  (.seq (.reg [⟨(some 4), none, .p (.mv (.c (.int .i64 (-1))))⟩])
  .ret)))⟩
theorem c43 : compF Try.prog ⟨fun s => [].contains s, fun _ => []⟩ Try.f43 = some a43 := by kernel_rfl

/- slices.ContainsFunc[airline/api.Element,string] -/
def a44 : AFun := ⟨9, [.tmp 4], (.seq (.reg [⟨(some 4), none, .p (.mv (.c (.bool false)))⟩])
  (.seq (.reg [⟨(some 5), none, .p (.mv (.t 0))⟩,
    ⟨(some 6), none, .p (.mv (.t 1))⟩,
    ⟨(some 7), none, .call 54 [(.t 5), (.t 6)]⟩,
    ⟨(some 8), none, .p (.bin .geq (.t 7) (.c (.int .i64 0)))⟩,
    ⟨(some 4), none, .p (.mv (.t 8))⟩])
  .ret))⟩
theorem c44 : compF Try.prog ⟨fun s => [].contains s, fun _ => []⟩ Try.f44 = some a44 := by kernel_rfl

/- airline/edi.odd -/
def a45 : AFun := ⟨20, [.tmp 2], (.seq (.reg [⟨(some 2), none, .p (.mv (.c (.bool false)))⟩])
  (.seq (.seq (.reg [⟨(some 4), none, .p (.mv (.t 0))⟩,
    ⟨(some 5), none, .p (.lenS (.t 4))⟩,
    ⟨(some 6), none, .p (.mv (.c (.int .i64 0)))⟩])
  (.block 0 (.loop (.seq (.reg [⟨(some 7), none, .p (.bin .lss (.t 6) (.t 5))⟩])
  (.seq (.cond (.t 7) .skip (.exit 0))
  (.seq (.block 1 (.seq (.reg [⟨(some 8), none, .p (.mv (.t 6))⟩,
    ⟨(some 3), none, .p (.mv (.t 8))⟩])
  (.seq (.reg [⟨(some 9), none, .p (.mv (.t 0))⟩,
    ⟨(some 10), none, .p (.mv (.t 3))⟩,
    ⟨(some 11), none, .p (.idxS (.t 9) (.t 10))⟩,
    ⟨(some 12), none, .p (.bin .lss (.t 11) (.c (.int .u8 32)))⟩,
    ⟨(some 13), none, .p (.mv (.t 12))⟩,
    ⟨(some 14), (some (13, false)), .p (.mv (.t 0))⟩,
    ⟨(some 15), (some (13, false)), .p (.mv (.t 3))⟩,
    ⟨(some 16), (some (13, false)), .p (.idxS (.t 14) (.t 15))⟩,
    ⟨(some 17), (some (13, false)), .p (.bin .gtr (.t 16) (.c (.int .u8 126)))⟩,
    ⟨(some 18), none, .p (.pick (.t 13) (.c (.bool true)) (.t 17))⟩])
  (.cond (.t 18) (.seq (.reg [⟨(some 2), none, .p (.mv (.c (.bool true)))⟩])
  .ret) .skip))))
  (.reg [⟨(some 19), none, .p (.bin .add (.t 6) (.c (.int .i64 1)))⟩,
    ⟨(some 6), none, .p (.mv (.t 19))⟩])))))))
  (.seq (.reg [⟨(some 2), none, .p (.mv (.c (.bool false)))⟩])
  .ret)))⟩
theorem c45 : compF Try.prog ⟨fun s => [].contains s, fun _ => []⟩ Try.f45 = some a45 := by kernel_rfl

/- airline/airlineref01.letters -/
def a46 : AFun := ⟨21, [.tmp 4], (.seq (.reg [⟨(some 4), none, .p (.mv (.c (.bool false)))⟩])
  (.seq (.seq (.reg [⟨(some 5), none, .p (.mv (.c (.int .i64 0)))⟩])
  (.block 0 (.loop (.seq (.seq (.reg [⟨(some 6), none, .p (.mv (.t 5))⟩,
    ⟨(some 7), none, .p (.mv (.t 0))⟩,
    ⟨(some 8), none, .p (.lenS (.t 7))⟩,
    ⟨(some 9), none, .p (.bin .lss (.t 6) (.t 8))⟩])
  (.cond (.t 9) .skip (.exit 0)))
  (.seq (.block 1 (.seq (.reg [⟨(some 12), none, .p (.mv (.t 0))⟩,
    ⟨(some 13), none, .p (.mv (.t 5))⟩,
    ⟨(some 14), none, .p (.idxS (.t 12) (.t 13))⟩,
    ⟨(some 15), none, .call 55 [(.t 14)]⟩,
    ⟨(some 16), none, .p (.not (.t 15))⟩])
  (.cond (.t 16) (.seq (.reg [⟨(some 4), none, .p (.mv (.c (.bool false)))⟩])
  .ret) .skip)))
  (.reg [⟨(some 10), none, .p (.mv (.t 5))⟩,
    ⟨(some 11), none, .p (.bin .add (.t 10) (.c (.int .i64 1)))⟩,
    ⟨(some 5), none, .p (.mv (.t 11))⟩]))))))
  (.seq (.reg [⟨(some 17), none, .p (.mv (.t 0))⟩,
    ⟨(some 18), none, .p (.lenS (.t 17))⟩,
    ⟨(some 19), none, .p (.mv (.t 1))⟩,
    ⟨(some 20), none, .p (.bin .eql (.t 18) (.t 19))⟩,
    ⟨(some 4), none, .p (.mv (.t 20))⟩])
  .ret)))⟩
theorem c46 : compF Try.prog ⟨fun s => [].contains s, fun _ => []⟩ Try.f46 = some a46 := by kernel_rfl

/- airline/edi.next -/
def a47 : AFun := ⟨54, [.tmp 4, .tmp 5], (.seq (.reg [⟨(some 4), none, .p (.mv (.c .nilIface))⟩,
    ⟨(some 5), none, .p (.mv (.c (.int .i64 0)))⟩])
  (.seq (.reg [⟨(some 7), none, .p (.mv (.t 0))⟩,
    ⟨(some 8), none, .p (.mv (.t 1))⟩,
    ⟨(some 9), none, .p (.idxS (.t 7) (.t 8))⟩,
    ⟨(some 6), none, .p (.mv (.t 9))⟩])
  (.seq (.block 0 (.seq (.reg [⟨(some 11), none, .p (.mv (.t 6))⟩,
    ⟨(some 12), none, .p (.bin .eql (.t 11) (.c (.int .u8 63)))⟩,
    ⟨(some 13), none, .p (.mv (.t 12))⟩,
    ⟨(some 14), (some (13, true)), .p (.mv (.t 1))⟩,
    ⟨(some 15), (some (13, true)), .p (.bin .add (.t 14) (.c (.int .i64 1)))⟩,
    ⟨(some 16), (some (13, true)), .p (.mv (.t 0))⟩,
    ⟨(some 17), (some (13, true)), .p (.lenS (.t 16))⟩,
    ⟨(some 18), (some (13, true)), .p (.bin .eql (.t 15) (.t 17))⟩,
    ⟨(some 19), none, .p (.pick (.t 13) (.t 18) (.c (.bool false)))⟩,
    ⟨(some 10), none, .p (.mv (.t 19))⟩])
  (.cond (.t 10) (.seq (.reg [⟨(some 4), none, .p (.mv (.c .nilIface))⟩,
    ⟨(some 5), none, .p (.mv (.c (.int .i64 1)))⟩])
  .ret) (.seq (.reg [⟨(some 21), none, .p (.mv (.t 6))⟩,
    ⟨(some 22), none, .p (.bin .eql (.t 21) (.c (.int .u8 63)))⟩,
    ⟨(some 23), none, .p (.mv (.t 22))⟩,
    ⟨(some 24), (some (23, true)), .p (.mv (.t 0))⟩,
    ⟨(some 25), (some (23, true)), .p (.mv (.t 1))⟩,
    ⟨(some 26), (some (23, true)), .p (.bin .add (.t 25) (.c (.int .i64 1)))⟩,
    ⟨(some 27), (some (23, true)), .p (.idxS (.t 24) (.t 26))⟩,
    ⟨(some 28), (some (23, true)), .call 22 [(.c (.str [43, 58, 39, 63])), (.t 27)]⟩,
    ⟨(some 29), (some (23, true)), .p (.bin .lss (.t 28) (.c (.int .i64 0)))⟩,
    ⟨(some 30), none, .p (.pick (.t 23) (.t 29) (.c (.bool false)))⟩,
    ⟨(some 20), none, .p (.mv (.t 30))⟩])
  (.cond (.t 20) (.seq (.reg [⟨(some 4), none, .p (.mv (.c .nilIface))⟩,
    ⟨(some 5), none, .p (.mv (.c (.int .i64 1)))⟩])
  .ret) (.seq (.reg [⟨(some 32), none, .p (.mv (.t 6))⟩,
    ⟨(some 33), none, .p (.bin .eql (.t 32) (.c (.int .u8 63)))⟩,
    ⟨(some 31), none, .p (.mv (.t 33))⟩])
  (.cond (.t 31) (.seq (.reg [⟨(some 34), none, .p (.mv (.t 0))⟩,
    ⟨(some 35), none, .p (.mv (.t 1))⟩,
    ⟨(some 36), none, .p (.bin .add (.t 35) (.c (.int .i64 1)))⟩,
    ⟨(some 37), none, .p (.idxS (.t 34) (.t 36))⟩,
    ⟨(some 38), none, .p (.mkIf 76 (.t 37))⟩,
    ⟨(some 4), none, .p (.mv (.t 38))⟩,
    ⟨(some 5), none, .p (.mv (.c (.int .i64 2)))⟩])
  .ret) (.seq (.reg [⟨(some 40), none, .p (.mv (.t 6))⟩,
    ⟨(some 41), none, .p (.bin .lss (.t 40) (.c (.int .u8 32)))⟩,
    ⟨(some 42), none, .p (.mv (.t 41))⟩,
    ⟨(some 43), (some (42, false)), .p (.mv (.t 6))⟩,
    ⟨(some 44), (some (42, false)), .p (.bin .gtr (.t 43) (.c (.int .u8 126)))⟩,
    ⟨(some 45), none, .p (.pick (.t 42) (.c (.bool true)) (.t 44))⟩,
    ⟨(some 39), none, .p (.mv (.t 45))⟩])
  (.cond (.t 39) (.seq (.reg [⟨(some 4), none, .p (.mv (.c .nilIface))⟩,
    ⟨(some 5), none, .p (.mv (.c (.int .i64 0)))⟩])
  .ret) (.seq (.reg [⟨(some 47), none, .p (.mv (.t 6))⟩,
    ⟨(some 48), none, .call 22 [(.c (.str [43, 58, 39, 63])), (.t 47)]⟩,
    ⟨(some 49), none, .p (.bin .geq (.t 48) (.c (.int .i64 0)))⟩,
    ⟨(some 46), none, .p (.mv (.t 49))⟩])
  (.cond (.t 46) (.seq (.reg [⟨(some 50), none, .p (.mv (.t 6))⟩,
    ⟨(some 51), none, .p (.mkIf 78 (.t 50))⟩,
    ⟨(some 4), none, .p (.mv (.t 51))⟩,
    ⟨(some 5), none, .p (.mv (.c (.int .i64 1)))⟩])
  .ret) .skip)))))))))))
  (.seq (.reg [⟨(some 52), none, .p (.mv (.t 6))⟩,
    ⟨(some 53), none, .p (.mkIf 76 (.t 52))⟩,
    ⟨(some 4), none, .p (.mv (.t 53))⟩,
    ⟨(some 5), none, .p (.mv (.c (.int .i64 1)))⟩])
  .ret))))⟩
theorem c47 : compF Try.prog ⟨fun s => [].contains s, fun _ => []⟩ Try.f47 = some a47 := by kernel_rfl

/- (*airline/airlineref43.reader).tag -/
def a48 : AFun := ⟨78, [.tmp 2], (.seq (.reg [⟨(some 2), none, .p (.mv (.c (.str [])))⟩])
  (.seq (.reg [⟨(some 4), none, .p (.mv (.t 0))⟩,
    ⟨(some 5), none, .p (.nilChk (.t 4))⟩,
    ⟨(some 6), none, .p (.faddr 1 (.t 5))⟩,
    ⟨(some 7), none, .p (.ld1 (.t 6))⟩,
    ⟨(some 3), none, .p (.mv (.t 7))⟩])
  (.seq (.block 0 (.loop (.seq (.seq (.oreg [(.quiet, ⟨(some 8), none, .p (.mv (.t 0))⟩),
    (.quiet, ⟨(some 9), none, .p (.nilChk (.t 8))⟩),
    (.quiet, ⟨(some 10), none, .p (.faddr 1 (.t 9))⟩),
    (.quiet, ⟨(some 11), none, .p (.ld1 (.t 10))⟩),
    (.quiet, ⟨(some 12), none, .p (.mv (.t 0))⟩),
    (.quiet, ⟨(some 13), none, .p (.nilChk (.t 12))⟩),
    (.quiet, ⟨(some 14), none, .p (.faddr 0 (.t 13))⟩),
    (.quiet, ⟨(some 15), none, .p (.ld1 (.t 14))⟩),
    (.quiet, ⟨(some 16), none, .p (.lenS (.t 15))⟩),
    (.quiet, ⟨(some 17), none, .p (.bin .lss (.t 11) (.t 16))⟩),
    (.quiet, ⟨(some 18), none, .p (.mv (.t 17))⟩),
    (.quiet, ⟨(some 19), (some (18, true)), .p (.mv (.t 0))⟩),
    (.quiet, ⟨(some 20), (some (18, true)), .p (.nilChk (.t 19))⟩),
    (.quiet, ⟨(some 21), (some (18, true)), .p (.faddr 1 (.t 20))⟩),
    (.quiet, ⟨(some 22), (some (18, true)), .p (.ld1 (.t 21))⟩),
    (.quiet, ⟨(some 23), (some (18, true)), .p (.mv (.t 3))⟩),
    (.quiet, ⟨(some 24), (some (18, true)), .p (.bin .add (.t 23) (.c (.int .i64 3)))⟩),
    (.quiet, ⟨(some 25), (some (18, true)), .p (.bin .lss (.t 22) (.t 24))⟩),
    (.quiet, ⟨(some 26), none, .p (.pick (.t 18) (.t 25) (.c (.bool false)))⟩),
    (.quiet, ⟨(some 27), none, .p (.mv (.t 26))⟩),
    (.quiet, ⟨(some 28), (some (27, true)), .p (.mv (.t 0))⟩),
    (.quiet, ⟨(some 29), (some (27, true)), .p (.nilChk (.t 28))⟩),
    (.quiet, ⟨(some 30), (some (27, true)), .p (.faddr 0 (.t 29))⟩),
    (.quiet, ⟨(some 31), (some (27, true)), .p (.ld1 (.t 30))⟩),
    (.quiet, ⟨(some 32), (some (27, true)), .p (.mv (.t 0))⟩),
    (.quiet, ⟨(some 33), (some (27, true)), .p (.nilChk (.t 32))⟩),
    (.quiet, ⟨(some 34), (some (27, true)), .p (.faddr 1 (.t 33))⟩),
    (.quiet, ⟨(some 35), (some (27, true)), .p (.ld1 (.t 34))⟩),
    (.quiet, ⟨(some 36), (some (27, true)), .p (.idxS (.t 31) (.t 35))⟩),
    (.quiet, ⟨(some 37), (some (27, true)), .p (.bin .geq (.t 36) (.c (.int .u8 65)))⟩),
    (.quiet, ⟨(some 38), none, .p (.pick (.t 27) (.t 37) (.c (.bool false)))⟩),
    (.quiet, ⟨(some 39), none, .p (.mv (.t 38))⟩),
    (.quiet, ⟨(some 40), (some (39, true)), .p (.mv (.t 0))⟩),
    (.quiet, ⟨(some 41), (some (39, true)), .p (.nilChk (.t 40))⟩),
    (.quiet, ⟨(some 42), (some (39, true)), .p (.faddr 0 (.t 41))⟩),
    (.quiet, ⟨(some 43), (some (39, true)), .p (.ld1 (.t 42))⟩),
    (.quiet, ⟨(some 44), (some (39, true)), .p (.mv (.t 0))⟩),
    (.quiet, ⟨(some 45), (some (39, true)), .p (.nilChk (.t 44))⟩),
    (.quiet, ⟨(some 46), (some (39, true)), .p (.faddr 1 (.t 45))⟩),
    (.quiet, ⟨(some 47), (some (39, true)), .p (.ld1 (.t 46))⟩),
    (.quiet, ⟨(some 48), (some (39, true)), .p (.idxS (.t 43) (.t 47))⟩),
    (.quiet, ⟨(some 49), (some (39, true)), .p (.bin .leq (.t 48) (.c (.int .u8 90)))⟩),
    (.quiet, ⟨(some 50), none, .p (.pick (.t 39) (.t 49) (.c (.bool false)))⟩)])
  (.cond (.t 50) .skip (.exit 0)))
  (.block 1 (.reg [⟨(some 51), none, .p (.mv (.t 0))⟩,
    ⟨(some 52), none, .p (.nilChk (.t 51))⟩,
    ⟨(some 53), none, .p (.faddr 1 (.t 52))⟩,
    ⟨(some 54), none, .p (.ld1 (.t 53))⟩,
    ⟨(some 55), none, .p (.bin .add (.t 54) (.c (.int .i64 1)))⟩,
    ⟨(some 56), none, .p (.nilChk (.t 51))⟩,
    ⟨(some 57), none, .p (.faddr 1 (.t 56))⟩,
    ⟨none, none, .st 1 (.t 57) (.t 55)⟩])))))
  (.seq (.reg [⟨(some 58), none, .p (.mv (.t 0))⟩,
    ⟨(some 59), none, .p (.mv (.t 0))⟩,
    ⟨(some 60), none, .p (.nilChk (.t 59))⟩,
    ⟨(some 61), none, .p (.faddr 1 (.t 60))⟩,
    ⟨(some 62), none, .p (.ld1 (.t 61))⟩,
    ⟨(some 63), none, .p (.mv (.t 3))⟩,
    ⟨(some 64), none, .p (.bin .add (.t 63) (.c (.int .i64 3)))⟩,
    ⟨(some 65), none, .p (.bin .lss (.t 62) (.t 64))⟩,
    ⟨(some 66), none, .p (.nilChk (.t 58))⟩,
    ⟨(some 67), none, .p (.faddr 2 (.t 66))⟩,
    ⟨none, none, .st 1 (.t 67) (.t 65)⟩])
  (.seq (.oreg [(.quiet, ⟨(some 68), none, .p (.mv (.t 0))⟩),
    (.quiet, ⟨(some 69), none, .p (.nilChk (.t 68))⟩),
    (.quiet, ⟨(some 70), none, .p (.faddr 0 (.t 69))⟩),
    (.quiet, ⟨(some 71), none, .p (.ld1 (.t 70))⟩),
    (.quiet, ⟨(some 72), none, .p (.mv (.t 3))⟩),
    (.quiet, ⟨(some 73), none, .p (.mv (.t 0))⟩),
    (.quiet, ⟨(some 74), none, .p (.nilChk (.t 73))⟩),
    (.quiet, ⟨(some 75), none, .p (.faddr 1 (.t 74))⟩),
    (.quiet, ⟨(some 76), none, .p (.ld1 (.t 75))⟩),
    (.quiet, ⟨(some 77), none, .p (.slS (.t 71) (some (.t 72)) (some (.t 76)))⟩),
    (.quiet, ⟨(some 2), none, .p (.mv (.t 77))⟩)])
  .ret)))))⟩
theorem c48 : compF Try.prog ⟨fun s => [].contains s, fun r => match r with | 2 => [(0, .quiet), (1, .quiet), (2, .quiet), (3, .quiet), (4, .quiet), (5, .quiet), (6, .quiet), (7, .quiet), (8, .quiet), (9, .quiet), (10, .quiet), (11, .quiet), (12, .quiet), (13, .quiet), (14, .quiet), (15, .quiet), (16, .quiet), (17, .quiet), (18, .quiet), (19, .quiet), (20, .quiet), (21, .quiet), (22, .quiet), (23, .quiet), (24, .quiet), (25, .quiet), (26, .quiet), (27, .quiet), (28, .quiet), (29, .quiet), (30, .quiet), (31, .quiet), (32, .quiet), (33, .quiet), (34, .quiet), (35, .quiet), (36, .quiet), (37, .quiet), (38, .quiet), (39, .quiet), (40, .quiet), (41, .quiet), (42, .quiet)]  | 5 => [(0, .quiet), (1, .quiet), (2, .quiet), (3, .quiet), (4, .quiet), (5, .quiet), (6, .quiet), (7, .quiet), (8, .quiet), (9, .quiet), (10, .quiet)] | _ => []⟩ Try.f48 = some a48 := by kernel_rfl

/- (*airline/airlineref43.reader).is -/
def a49 : AFun := ⟨35, [.tmp 4], (.seq (.reg [⟨(some 4), none, .p (.mv (.c (.bool false)))⟩])
  (.seq (.oreg [(.quiet, ⟨(some 5), none, .p (.mv (.t 0))⟩),
    (.quiet, ⟨(some 6), none, .p (.nilChk (.t 5))⟩),
    (.quiet, ⟨(some 7), none, .p (.faddr 2 (.t 6))⟩),
    (.quiet, ⟨(some 8), none, .p (.ld1 (.t 7))⟩),
    (.quiet, ⟨(some 9), none, .p (.not (.t 8))⟩),
    (.quiet, ⟨(some 10), none, .p (.mv (.t 9))⟩),
    (.quiet, ⟨(some 11), (some (10, true)), .p (.mv (.t 0))⟩),
    (.quiet, ⟨(some 12), (some (10, true)), .p (.nilChk (.t 11))⟩),
    (.quiet, ⟨(some 13), (some (10, true)), .p (.faddr 1 (.t 12))⟩),
    (.quiet, ⟨(some 14), (some (10, true)), .p (.ld1 (.t 13))⟩),
    (.quiet, ⟨(some 15), (some (10, true)), .p (.mv (.t 0))⟩),
    (.quiet, ⟨(some 16), (some (10, true)), .p (.nilChk (.t 15))⟩),
    (.quiet, ⟨(some 17), (some (10, true)), .p (.faddr 0 (.t 16))⟩),
    (.quiet, ⟨(some 18), (some (10, true)), .p (.ld1 (.t 17))⟩),
    (.quiet, ⟨(some 19), (some (10, true)), .p (.lenS (.t 18))⟩),
    (.quiet, ⟨(some 20), (some (10, true)), .p (.bin .lss (.t 14) (.t 19))⟩),
    (.quiet, ⟨(some 21), none, .p (.pick (.t 10) (.t 20) (.c (.bool false)))⟩),
    (.quiet, ⟨(some 22), none, .p (.mv (.t 21))⟩),
    (.quiet, ⟨(some 23), (some (22, true)), .p (.mv (.t 0))⟩),
    (.quiet, ⟨(some 24), (some (22, true)), .p (.nilChk (.t 23))⟩),
    (.quiet, ⟨(some 25), (some (22, true)), .p (.faddr 0 (.t 24))⟩),
    (.quiet, ⟨(some 26), (some (22, true)), .p (.ld1 (.t 25))⟩),
    (.quiet, ⟨(some 27), (some (22, true)), .p (.mv (.t 0))⟩),
    (.quiet, ⟨(some 28), (some (22, true)), .p (.nilChk (.t 27))⟩),
    (.quiet, ⟨(some 29), (some (22, true)), .p (.faddr 1 (.t 28))⟩),
    (.quiet, ⟨(some 30), (some (22, true)), .p (.ld1 (.t 29))⟩),
    (.quiet, ⟨(some 31), (some (22, true)), .p (.idxS (.t 26) (.t 30))⟩),
    (.quiet, ⟨(some 32), (some (22, true)), .p (.mv (.t 1))⟩),
    (.quiet, ⟨(some 33), (some (22, true)), .p (.bin .eql (.t 31) (.t 32))⟩),
    (.quiet, ⟨(some 34), none, .p (.pick (.t 22) (.t 33) (.c (.bool false)))⟩),
    (.quiet, ⟨(some 4), none, .p (.mv (.t 34))⟩)])
  .ret))⟩
theorem c49 : compF Try.prog ⟨fun s => [].contains s, fun r => match r with | 1 => [(0, .quiet), (1, .quiet), (2, .quiet), (3, .quiet), (4, .quiet), (5, .quiet), (6, .quiet), (7, .quiet), (8, .quiet), (9, .quiet), (10, .quiet), (11, .quiet), (12, .quiet), (13, .quiet), (14, .quiet), (15, .quiet), (16, .quiet), (17, .quiet), (18, .quiet), (19, .quiet), (20, .quiet), (21, .quiet), (22, .quiet), (23, .quiet), (24, .quiet), (25, .quiet), (26, .quiet), (27, .quiet), (28, .quiet), (29, .quiet), (30, .quiet)] | _ => []⟩ Try.f49 = some a49 := by kernel_rfl

/- (*airline/airlineref43.reader).component -/
def a50 : AFun := ⟨97, [.tmp 2], (.seq (.reg [⟨(some 2), none, .p (.mv (.c (.str [])))⟩])
  (.seq (.reg [⟨(some 3), none, .p (.mv (.c .nilSl))⟩])
  (.seq (.block 0 (.loop (.seq (.seq (.oreg [(.quiet, ⟨(some 5), none, .p (.mv (.t 0))⟩),
    (.quiet, ⟨(some 6), none, .p (.nilChk (.t 5))⟩),
    (.quiet, ⟨(some 7), none, .p (.faddr 1 (.t 6))⟩),
    (.quiet, ⟨(some 8), none, .p (.ld1 (.t 7))⟩),
    (.quiet, ⟨(some 9), none, .p (.mv (.t 0))⟩),
    (.quiet, ⟨(some 10), none, .p (.nilChk (.t 9))⟩),
    (.quiet, ⟨(some 11), none, .p (.faddr 0 (.t 10))⟩),
    (.quiet, ⟨(some 12), none, .p (.ld1 (.t 11))⟩),
    (.quiet, ⟨(some 13), none, .p (.lenS (.t 12))⟩),
    (.quiet, ⟨(some 14), none, .p (.bin .lss (.t 8) (.t 13))⟩)])
  (.cond (.t 14) .skip (.exit 0)))
  (.block 1 (.seq (.oreg [(.quiet, ⟨(some 15), none, .p (.mv (.t 0))⟩),
    (.quiet, ⟨(some 16), none, .p (.nilChk (.t 15))⟩),
    (.quiet, ⟨(some 17), none, .p (.faddr 0 (.t 16))⟩),
    (.quiet, ⟨(some 18), none, .p (.ld1 (.t 17))⟩),
    (.quiet, ⟨(some 19), none, .p (.mv (.t 0))⟩),
    (.quiet, ⟨(some 20), none, .p (.nilChk (.t 19))⟩),
    (.quiet, ⟨(some 21), none, .p (.faddr 1 (.t 20))⟩),
    (.quiet, ⟨(some 22), none, .p (.ld1 (.t 21))⟩),
    (.quiet, ⟨(some 23), none, .p (.idxS (.t 18) (.t 22))⟩),
    (.quiet, ⟨(some 4), none, .p (.mv (.t 23))⟩)])
  (.seq (.seq (.reg [⟨(some 24), none, .p (.mv (.t 4))⟩,
    ⟨(some 25), none, .p (.bin .eql (.t 24) (.c (.int .u8 43)))⟩,
    ⟨(some 26), none, .p (.mv (.t 25))⟩,
    ⟨(some 27), (some (26, false)), .p (.mv (.t 4))⟩,
    ⟨(some 28), (some (26, false)), .p (.bin .eql (.t 27) (.c (.int .u8 58)))⟩,
    ⟨(some 29), none, .p (.pick (.t 26) (.c (.bool true)) (.t 28))⟩,
    ⟨(some 30), none, .p (.mv (.t 29))⟩,
    ⟨(some 31), (some (30, false)), .p (.mv (.t 4))⟩,
    ⟨(some 32), (some (30, false)), .p (.bin .eql (.t 31) (.c (.int .u8 39)))⟩,
    ⟨(some 33), none, .p (.pick (.t 30) (.c (.bool true)) (.t 32))⟩])
  (.cond (.t 33) (.seq (.reg [⟨(some 34), none, .p (.mv (.t 3))⟩,
    ⟨(some 35), none, .p (.b2s (.t 34))⟩,
    ⟨(some 2), none, .p (.mv (.t 35))⟩])
  .ret) .skip))
  (.seq (.seq (.reg [⟨(some 36), none, .p (.mv (.t 4))⟩,
    ⟨(some 37), none, .p (.bin .lss (.t 36) (.c (.int .u8 32)))⟩,
    ⟨(some 38), none, .p (.mv (.t 37))⟩,
    ⟨(some 39), (some (38, false)), .p (.mv (.t 4))⟩,
    ⟨(some 40), (some (38, false)), .p (.bin .gtr (.t 39) (.c (.int .u8 126)))⟩,
    ⟨(some 41), none, .p (.pick (.t 38) (.c (.bool true)) (.t 40))⟩])
  (.cond (.t 41) (.exit 0) .skip))
  (.seq (.reg [⟨(some 42), none, .p (.mv (.t 0))⟩,
    ⟨(some 43), none, .p (.nilChk (.t 42))⟩,
    ⟨(some 44), none, .p (.faddr 1 (.t 43))⟩,
    ⟨(some 45), none, .p (.ld1 (.t 44))⟩,
    ⟨(some 46), none, .p (.bin .add (.t 45) (.c (.int .i64 1)))⟩,
    ⟨(some 47), none, .p (.nilChk (.t 42))⟩,
    ⟨(some 48), none, .p (.faddr 1 (.t 47))⟩,
    ⟨none, none, .st 1 (.t 48) (.t 46)⟩])
  (.seq (.seq (.reg [⟨(some 49), none, .p (.mv (.t 4))⟩,
    ⟨(some 50), none, .p (.bin .eql (.t 49) (.c (.int .u8 63)))⟩])
  (.cond (.t 50) (.seq (.seq (.oreg [(.quiet, ⟨(some 51), none, .p (.mv (.t 0))⟩),
    (.quiet, ⟨(some 52), none, .p (.nilChk (.t 51))⟩),
    (.quiet, ⟨(some 53), none, .p (.faddr 1 (.t 52))⟩),
    (.quiet, ⟨(some 54), none, .p (.ld1 (.t 53))⟩),
    (.quiet, ⟨(some 55), none, .p (.mv (.t 0))⟩),
    (.quiet, ⟨(some 56), none, .p (.nilChk (.t 55))⟩),
    (.quiet, ⟨(some 57), none, .p (.faddr 0 (.t 56))⟩),
    (.quiet, ⟨(some 58), none, .p (.ld1 (.t 57))⟩),
    (.quiet, ⟨(some 59), none, .p (.lenS (.t 58))⟩),
    (.quiet, ⟨(some 60), none, .p (.bin .eql (.t 54) (.t 59))⟩),
    (.quiet, ⟨(some 61), none, .p (.mv (.t 60))⟩),
    (.quiet, ⟨(some 62), (some (61, false)), .p (.mv (.t 0))⟩),
    (.quiet, ⟨(some 63), (some (61, false)), .p (.nilChk (.t 62))⟩),
    (.quiet, ⟨(some 64), (some (61, false)), .p (.faddr 0 (.t 63))⟩),
    (.quiet, ⟨(some 65), (some (61, false)), .p (.ld1 (.t 64))⟩),
    (.quiet, ⟨(some 66), (some (61, false)), .p (.mv (.t 0))⟩),
    (.quiet, ⟨(some 67), (some (61, false)), .p (.nilChk (.t 66))⟩),
    (.quiet, ⟨(some 68), (some (61, false)), .p (.faddr 1 (.t 67))⟩),
    (.quiet, ⟨(some 69), (some (61, false)), .p (.ld1 (.t 68))⟩),
    (.quiet, ⟨(some 70), (some (61, false)), .p (.idxS (.t 65) (.t 69))⟩),
    (.loud, ⟨(some 71), (some (61, false)), .call 53 [(.t 70)]⟩),
    (.quiet, ⟨(some 72), (some (61, false)), .p (.not (.t 71))⟩),
    (.quiet, ⟨(some 73), none, .p (.pick (.t 61) (.c (.bool true)) (.t 72))⟩)])
  (.cond (.t 73) (.exit 0) .skip))
  (.seq (.oreg [(.quiet, ⟨(some 74), none, .p (.mv (.t 0))⟩),
    (.quiet, ⟨(some 75), none, .p (.nilChk (.t 74))⟩),
    (.quiet, ⟨(some 76), none, .p (.faddr 0 (.t 75))⟩),
    (.quiet, ⟨(some 77), none, .p (.ld1 (.t 76))⟩),
    (.quiet, ⟨(some 78), none, .p (.mv (.t 0))⟩),
    (.quiet, ⟨(some 79), none, .p (.nilChk (.t 78))⟩),
    (.quiet, ⟨(some 80), none, .p (.faddr 1 (.t 79))⟩),
    (.quiet, ⟨(some 81), none, .p (.ld1 (.t 80))⟩),
    (.quiet, ⟨(some 82), none, .p (.idxS (.t 77) (.t 81))⟩),
    (.quiet, ⟨(some 4), none, .p (.mv (.t 82))⟩)])
  (.reg [⟨(some 83), none, .p (.mv (.t 0))⟩,
    ⟨(some 84), none, .p (.nilChk (.t 83))⟩,
    ⟨(some 85), none, .p (.faddr 1 (.t 84))⟩,
    ⟨(some 86), none, .p (.ld1 (.t 85))⟩,
    ⟨(some 87), none, .p (.bin .add (.t 86) (.c (.int .i64 1)))⟩,
    ⟨(some 88), none, .p (.nilChk (.t 83))⟩,
    ⟨(some 89), none, .p (.faddr 1 (.t 88))⟩,
    ⟨none, none, .st 1 (.t 89) (.t 87)⟩]))) .skip))
  (.reg [⟨(some 90), none, .p (.mv (.t 3))⟩,
    ⟨(some 91), none, .p (.mv (.t 4))⟩,
    ⟨(some 92), none, .p (.bsl 1 [(.int .u8 0)] 1 [(0, (.t 91))])⟩,
    ⟨(some 93), none, .app 5 1 (.t 90) (.t 92)⟩,
    ⟨(some 3), none, .p (.mv (.t 93))⟩]))))))))))
  (.seq (.reg [⟨(some 94), none, .p (.mv (.t 0))⟩,
    ⟨(some 95), none, .p (.nilChk (.t 94))⟩,
    ⟨(some 96), none, .p (.faddr 2 (.t 95))⟩,
    ⟨none, none, .st 1 (.t 96) (.c (.bool true))⟩])
  (.seq (.reg [⟨(some 2), none, .p (.mv (.c (.str [])))⟩])
  .ret)))))⟩
theorem c50 : compF Try.prog ⟨fun s => [].contains s, fun r => match r with | 2 => [(0, .quiet), (1, .quiet), (2, .quiet), (3, .quiet), (4, .quiet), (5, .quiet), (6, .quiet), (7, .quiet), (8, .quiet), (9, .quiet)]  | 3 => [(0, .quiet), (1, .quiet), (2, .quiet), (3, .quiet), (4, .quiet), (5, .quiet), (6, .quiet), (7, .quiet), (8, .quiet), (9, .quiet)]  | 9 => [(0, .quiet), (1, .quiet), (2, .quiet), (3, .quiet), (4, .quiet), (5, .quiet), (6, .quiet), (7, .quiet), (8, .quiet), (9, .quiet), (10, .quiet), (11, .quiet), (12, .quiet), (13, .quiet), (14, .quiet), (15, .quiet), (16, .quiet), (17, .quiet), (18, .quiet), (19, .quiet), (20, .loud), (21, .quiet), (22, .quiet)]  | 10 => [(0, .quiet), (1, .quiet), (2, .quiet), (3, .quiet), (4, .quiet), (5, .quiet), (6, .quiet), (7, .quiet), (8, .quiet), (9, .quiet)] | _ => []⟩ Try.f50 = some a50 := by kernel_rfl

/- airline/airlineref43.special -/
def a53 : AFun := ⟨17, [.tmp 2], (.seq (.reg [⟨(some 2), none, .p (.mv (.c (.bool false)))⟩])
  (.seq (.reg [⟨(some 3), none, .p (.mv (.t 0))⟩,
    ⟨(some 4), none, .p (.bin .eql (.t 3) (.c (.int .u8 43)))⟩,
    ⟨(some 5), none, .p (.mv (.t 4))⟩,
    ⟨(some 6), (some (5, false)), .p (.mv (.t 0))⟩,
    ⟨(some 7), (some (5, false)), .p (.bin .eql (.t 6) (.c (.int .u8 58)))⟩,
    ⟨(some 8), none, .p (.pick (.t 5) (.c (.bool true)) (.t 7))⟩,
    ⟨(some 9), none, .p (.mv (.t 8))⟩,
    ⟨(some 10), (some (9, false)), .p (.mv (.t 0))⟩,
    ⟨(some 11), (some (9, false)), .p (.bin .eql (.t 10) (.c (.int .u8 39)))⟩,
    ⟨(some 12), none, .p (.pick (.t 9) (.c (.bool true)) (.t 11))⟩,
    ⟨(some 13), none, .p (.mv (.t 12))⟩,
    ⟨(some 14), (some (13, false)), .p (.mv (.t 0))⟩,
    ⟨(some 15), (some (13, false)), .p (.bin .eql (.t 14) (.c (.int .u8 63)))⟩,
    ⟨(some 16), none, .p (.pick (.t 13) (.c (.bool true)) (.t 15))⟩,
    ⟨(some 2), none, .p (.mv (.t 16))⟩])
  .ret))⟩
theorem c53 : compF Try.prog ⟨fun s => [].contains s, fun _ => []⟩ Try.f53 = some a53 := by kernel_rfl

/- slices.IndexFunc[airline/api.Element,string] -/
def a54 : AFun := ⟨19, [.tmp 4], (.seq (.reg [⟨(some 4), none, .p (.mv (.c (.int .i64 0)))⟩])
  (.seq (.seq (.reg [⟨(some 6), none, .p (.mv (.t 0))⟩,
    ⟨(some 7), none, .p (.lenA (.t 6))⟩,
    ⟨(some 8), none, .p (.mv (.c (.int .i64 0)))⟩])
  (.block 0 (.loop (.seq (.reg [⟨(some 9), none, .p (.bin .lss (.t 8) (.t 7))⟩])
  (.seq (.cond (.t 9) .skip (.exit 0))
  (.seq (.block 1 (.seq (.reg [⟨(some 10), none, .p (.mv (.t 8))⟩,
    ⟨(some 5), none, .p (.mv (.t 10))⟩])
  (.seq (.reg [⟨(some 11), none, .p (.mv (.t 1))⟩,
    ⟨(some 12), none, .p (.mv (.t 0))⟩,
    ⟨(some 13), none, .p (.mv (.t 5))⟩,
    ⟨(some 14), none, .p (.idxA 1 (.t 12) (.t 13))⟩,
    ⟨(some 15), none, .p (.ld1 (.t 14))⟩,
    ⟨(some 16), none, .callv (.t 11) [(.t 15)]⟩])
  (.cond (.t 16) (.seq (.reg [⟨(some 17), none, .p (.mv (.t 5))⟩,
    ⟨(some 4), none, .p (.mv (.t 17))⟩])
  .ret) .skip))))
  (.reg [⟨(some 18), none, .p (.bin .add (.t 8) (.c (.int .i64 1)))⟩,
    ⟨(some 8), none, .p (.mv (.t 18))⟩])))))))
  (.seq (.reg [⟨(some 4), none, .p (.mv (.c (.int .i64 (-1))))⟩])
  .ret)))⟩
theorem c54 : compF Try.prog ⟨fun s => [].contains s, fun _ => []⟩ Try.f54 = some a54 := by kernel_rfl

/- airline/airlineref01.upper -/
def a55 : AFun := ⟨9, [.tmp 2], (.seq (.reg [⟨(some 2), none, .p (.mv (.c (.bool false)))⟩])
  (.seq (.reg [⟨(some 3), none, .p (.mv (.t 0))⟩,
    ⟨(some 4), none, .p (.bin .geq (.t 3) (.c (.int .u8 65)))⟩,
    ⟨(some 5), none, .p (.mv (.t 4))⟩,
    ⟨(some 6), (some (5, true)), .p (.mv (.t 0))⟩,
    ⟨(some 7), (some (5, true)), .p (.bin .leq (.t 6) (.c (.int .u8 90)))⟩,
    ⟨(some 8), none, .p (.pick (.t 5) (.t 7) (.c (.bool false)))⟩,
    ⟨(some 2), none, .p (.mv (.t 8))⟩])
  .ret))⟩
theorem c55 : compF Try.prog ⟨fun s => [].contains s, fun _ => []⟩ Try.f55 = some a55 := by kernel_rfl

end Go.Proofs.Ytpblahljlbakdaa
