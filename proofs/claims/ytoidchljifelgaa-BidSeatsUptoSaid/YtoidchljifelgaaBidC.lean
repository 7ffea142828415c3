/- The functions of 'bid', compiled (printed by gen.sh). -/
import Derived.Test.YtoidchljifelgaaAlS
import Derived.Test.YtoidchljifelgaaProg
namespace Go.Proofs.Ytoidchljifelgaa
open Go Go.AL

/- gosem.cut.init -/
def a2 : AFun := ⟨1, [], (.reg [⟨(some 0), none, .call 1 []⟩])⟩
theorem c2 : compF Try.prog ⟨fun s => [].contains s, fun _ => []⟩ Try.f2 = some a2 := by kernel_rfl

/- airline/airlinelaw14.BidCurves -/
def a3 : AFun := ⟨51, [6], (.seq (.reg [⟨(some 6), none, .p (.mv (.c (.bool false)))⟩])
  (.seq (.seq (.reg [⟨(some 11), none, .p (.mv (.t 0))⟩,
    ⟨(some 12), none, .p (.lenA (.t 11))⟩,
    ⟨(some 13), none, .p (.bin .gtr (.t 12) (.c (.int .i64 50)))⟩])
  (.cond (.t 13) (.seq (.reg [⟨(some 14), none, .call 8 []⟩,
    ⟨(some 6), none, .p (.mv (.t 14))⟩])
  .ret) .skip))
  (.seq (.reg [⟨(some 16), none, .p (.mv (.t 0))⟩,
    ⟨(some 17), none, .p (.mv (.t 1))⟩,
    ⟨(some 18), none, .call 9 [(.t 16), (.t 17)]⟩,
    ⟨(some 15), none, .p (.mv (.t 18))⟩,
    ⟨(some 19), none, .p (.ext 0 (.t 15))⟩,
    ⟨(some 20), none, .p (.ext 1 (.t 15))⟩,
    ⟨(some 7), none, .p (.mv (.t 19))⟩,
    ⟨(some 8), none, .p (.mv (.t 20))⟩])
  (.seq (.reg [⟨(some 22), none, .p (.mv (.t 0))⟩,
    ⟨(some 23), none, .p (.mv (.t 1))⟩,
    ⟨(some 24), none, .call 10 [(.t 22), (.t 23)]⟩,
    ⟨(some 21), none, .p (.mv (.t 24))⟩,
    ⟨(some 25), none, .p (.ext 0 (.t 21))⟩,
    ⟨(some 26), none, .p (.ext 1 (.t 21))⟩,
    ⟨(some 9), none, .p (.mv (.t 25))⟩,
    ⟨(some 10), none, .p (.mv (.t 26))⟩])
  (.seq (.reg [⟨(some 27), none, .p (.mv (.t 7))⟩,
    ⟨(some 28), none, .p (.mv (.t 9))⟩,
    ⟨(some 29), none, .call 11 [(.t 27), (.t 28)]⟩,
    ⟨(some 30), none, .p (.mv (.t 29))⟩,
    ⟨(some 31), (some (30, true)), .p (.mv (.t 8))⟩,
    ⟨(some 32), (some (30, true)), .p (.mv (.t 10))⟩,
    ⟨(some 33), (some (30, true)), .p (.bin .eql (.t 31) (.t 32))⟩,
    ⟨(some 34), none, .p (.pick (.t 30) (.t 33) (.c (.bool false)))⟩,
    ⟨(some 35), none, .p (.mv (.t 34))⟩,
    ⟨(some 36), (some (35, true)), .p (.mv (.t 7))⟩,
    ⟨(some 37), (some (35, true)), .call 12 [(.t 36)]⟩,
    ⟨(some 38), none, .p (.pick (.t 35) (.t 37) (.c (.bool false)))⟩,
    ⟨(some 39), none, .p (.mv (.t 38))⟩,
    ⟨(some 40), (some (39, true)), .p (.mv (.t 7))⟩,
    ⟨(some 41), (some (39, true)), .p (.mv (.t 2))⟩,
    ⟨(some 42), (some (39, true)), .call 13 [(.t 40), (.t 41)]⟩,
    ⟨(some 43), (some (39, true)), .p (.mv (.t 9))⟩,
    ⟨(some 44), (some (39, true)), .p (.mv (.t 2))⟩,
    ⟨(some 45), (some (39, true)), .call 14 [(.t 43), (.t 44)]⟩,
    ⟨(some 46), (some (39, true)), .p (.bin .eql (.t 42) (.t 45))⟩,
    ⟨(some 47), none, .p (.pick (.t 39) (.t 46) (.c (.bool false)))⟩,
    ⟨(some 48), none, .p (.mv (.t 47))⟩,
    ⟨(some 49), (some (48, true)), .call 8 []⟩,
    ⟨(some 50), none, .p (.pick (.t 48) (.t 49) (.c (.bool false)))⟩,
    ⟨(some 6), none, .p (.mv (.t 50))⟩])
  .ret)))))⟩
theorem c3 : compF Try.prog ⟨fun s => [].contains s, fun _ => []⟩ Try.f3 = some a3 := by kernel_rfl

/- airline/airlinelaw14.BidTells -/
def a4 : AFun := ⟨39, [4], (.seq (.reg [⟨(some 4), none, .p (.mv (.c (.bool false)))⟩])
  (.seq (.seq (.reg [⟨(some 6), none, .p (.mv (.t 0))⟩,
    ⟨(some 7), none, .p (.lenA (.t 6))⟩,
    ⟨(some 8), none, .p (.bin .gtr (.t 7) (.c (.int .i64 2000)))⟩])
  (.cond (.t 8) (.seq (.reg [⟨(some 9), none, .call 8 []⟩,
    ⟨(some 4), none, .p (.mv (.t 9))⟩])
  .ret) .skip))
  (.seq (.reg [⟨(some 10), none, .p (.mv (.t 0))⟩,
    ⟨(some 11), none, .call 12 [(.t 10)]⟩,
    ⟨(some 5), none, .p (.mv (.t 11))⟩])
  (.seq (.seq (.reg [⟨(some 12), none, .p (.mv (.t 5))⟩,
    ⟨(some 13), none, .p (.mv (.t 0))⟩,
    ⟨(some 14), none, .call 15 [(.t 13)]⟩,
    ⟨(some 15), none, .p (.eqb true (.t 12) (.t 14))⟩,
    ⟨(some 16), none, .p (.mv (.t 15))⟩,
    ⟨(some 17), (some (16, false)), .p (.mv (.t 0))⟩,
    ⟨(some 18), (some (16, false)), .p (.mv (.t 1))⟩,
    ⟨(some 19), (some (16, false)), .call 13 [(.t 17), (.t 18)]⟩,
    ⟨(some 20), (some (16, false)), .p (.mv (.t 0))⟩,
    ⟨(some 21), (some (16, false)), .p (.mv (.t 1))⟩,
    ⟨(some 22), (some (16, false)), .call 14 [(.t 20), (.t 21)]⟩,
    ⟨(some 23), (some (16, false)), .p (.bin .neq (.t 19) (.t 22))⟩,
    ⟨(some 24), none, .p (.pick (.t 16) (.c (.bool true)) (.t 23))⟩])
  (.cond (.t 24) (.seq (.reg [⟨(some 4), none, .p (.mv (.c (.bool false)))⟩])
  .ret) .skip))
  (.seq (.reg [⟨(some 25), none, .p (.mv (.t 5))⟩,
    ⟨(some 26), none, .p (.not (.t 25))⟩,
    ⟨(some 27), none, .p (.mv (.t 26))⟩,
    ⟨(some 28), (some (27, false)), .p (.mv (.t 0))⟩,
    ⟨(some 29), (some (27, false)), .p (.mv (.t 1))⟩,
    ⟨(some 30), (some (27, false)), .call 16 [(.t 28), (.t 29)]⟩,
    ⟨(some 31), (some (27, false)), .p (.mv (.t 0))⟩,
    ⟨(some 32), (some (27, false)), .p (.mv (.t 1))⟩,
    ⟨(some 33), (some (27, false)), .call 17 [(.t 31), (.t 32)]⟩,
    ⟨(some 34), (some (27, false)), .p (.bin .eql (.t 30) (.t 33))⟩,
    ⟨(some 35), none, .p (.pick (.t 27) (.c (.bool true)) (.t 34))⟩,
    ⟨(some 36), none, .p (.mv (.t 35))⟩,
    ⟨(some 37), (some (36, true)), .call 8 []⟩,
    ⟨(some 38), none, .p (.pick (.t 36) (.t 37) (.c (.bool false)))⟩,
    ⟨(some 4), none, .p (.mv (.t 38))⟩])
  .ret)))))⟩
theorem c4 : compF Try.prog ⟨fun s => [].contains s, fun _ => []⟩ Try.f4 = some a4 := by kernel_rfl

/- airline/airlinelaw14.BidSeats -/
def a5 : AFun := ⟨29, [6], (.seq (.reg [⟨(some 3), none, .p (.boxI (.t 0))⟩,
    ⟨(some 6), none, .p (.mv (.c (.bool false)))⟩])
  (.seq (.seq (.reg [⟨(some 7), none, .p (.ldn 2 (.t 3))⟩,
    ⟨(some 8), none, .call 18 [(.t 7)]⟩,
    ⟨(some 9), none, .p (.not (.t 8))⟩])
  (.cond (.t 9) (.seq (.reg [⟨(some 10), none, .call 8 []⟩,
    ⟨(some 6), none, .p (.mv (.t 10))⟩])
  .ret) .skip))
  (.seq (.oreg [(.quiet, ⟨(some 11), none, .p (.faddr 0 (.t 3))⟩),
    (.quiet, ⟨(some 12), none, .p (.ld1 (.t 11))⟩),
    (.quiet, ⟨(some 13), none, .p (.faddr 1 (.t 3))⟩),
    (.quiet, ⟨(some 14), none, .p (.ld1 (.t 13))⟩),
    (.quiet, ⟨(some 15), none, .p (.mv (.t 1))⟩),
    (.quiet, ⟨(some 16), none, .p (.mv (.t 2))⟩),
    (.quiet, ⟨(some 18), none, .p (.faddr 0 (.t 3))⟩),
    (.quiet, ⟨(some 19), none, .p (.ld1 (.t 18))⟩),
    (.quiet, ⟨(some 20), none, .p (.faddr 1 (.t 3))⟩),
    (.quiet, ⟨(some 21), none, .p (.ld1 (.t 20))⟩),
    (.quiet, ⟨(some 22), none, .p (.mv (.t 1))⟩),
    (.quiet, ⟨(some 23), none, .p (.mv (.t 2))⟩),
    (.quiet, ⟨(some 17), none, .call 19 [(.t 12), (.t 14), (.t 15), (.t 16)]⟩),
    (.loud, ⟨(some 24), none, .call 20 [(.t 19), (.t 21), (.t 22), (.t 23)]⟩),
    (.quiet, ⟨(some 25), none, .p (.bin .eql (.t 17) (.t 24))⟩),
    (.quiet, ⟨(some 26), none, .p (.mv (.t 25))⟩),
    (.loud, ⟨(some 27), (some (26, true)), .call 8 []⟩),
    (.quiet, ⟨(some 28), none, .p (.pick (.t 26) (.t 27) (.c (.bool false)))⟩),
    (.quiet, ⟨(some 6), none, .p (.mv (.t 28))⟩)])
  .ret)))⟩
theorem c5 : compF Try.prog ⟨fun s => [].contains s, fun r => match r with | 3 => [(0, .quiet), (1, .quiet), (2, .quiet), (3, .quiet), (4, .quiet), (5, .quiet), (7, .quiet), (8, .quiet), (9, .quiet), (10, .quiet), (11, .quiet), (12, .quiet), (6, .quiet), (13, .loud), (14, .quiet), (15, .quiet), (16, .loud), (17, .quiet), (18, .quiet)] | _ => []⟩ Try.f5 = some a5 := by kernel_rfl

/- airline/airlinelaw14.BidRises -/
def a6 : AFun := ⟨98, [6], (.seq (.reg [⟨(some 4), none, .p (.boxI (.t 1))⟩,
    ⟨(some 6), none, .p (.mv (.c (.bool false)))⟩])
  (.seq (.seq (.reg [⟨(some 12), none, .p (.mv (.t 0))⟩,
    ⟨(some 13), none, .p (.lenA (.t 12))⟩,
    ⟨(some 14), none, .p (.bin .gtr (.t 13) (.c (.int .i64 50)))⟩])
  (.cond (.t 14) (.seq (.reg [⟨(some 15), none, .call 8 []⟩,
    ⟨(some 6), none, .p (.mv (.t 15))⟩])
  .ret) .skip))
  (.seq (.reg [⟨(some 17), none, .p (.mv (.t 0))⟩,
    ⟨(some 18), none, .p (.mv (.t 2))⟩,
    ⟨(some 19), none, .call 9 [(.t 17), (.t 18)]⟩,
    ⟨(some 16), none, .p (.mv (.t 19))⟩,
    ⟨(some 20), none, .p (.ext 0 (.t 16))⟩,
    ⟨(some 21), none, .p (.ext 1 (.t 16))⟩,
    ⟨(some 7), none, .p (.mv (.t 20))⟩,
    ⟨(some 8), none, .p (.mv (.t 21))⟩])
  (.seq (.oreg [(.stable, ⟨(some 24), none, .p (.mv (.t 0))⟩),
    (.stable, ⟨(some 26), none, .p (.ldn 2 (.t 4))⟩),
    (.stable, ⟨(some 27), none, .p (.bsl 2 [(.int .i64 0), (.int .i64 0)] 1 [(0, (.t 26))])⟩),
    (.stable, ⟨(some 29), none, .p (.mv (.t 2))⟩),
    (.loud, ⟨(some 23), none, .bslO 40 2 [(.int .i64 0), (.int .i64 0)] 0 []⟩),
    (.loud, ⟨(some 25), none, .app 40 2 (.t 23) (.t 24)⟩),
    (.loud, ⟨(some 28), none, .app 40 2 (.t 25) (.t 27)⟩),
    (.loud, ⟨(some 30), none, .call 9 [(.t 28), (.t 29)]⟩),
    (.quiet, ⟨(some 22), none, .p (.mv (.t 30))⟩),
    (.quiet, ⟨(some 31), none, .p (.ext 0 (.t 22))⟩),
    (.quiet, ⟨(some 32), none, .p (.ext 1 (.t 22))⟩),
    (.quiet, ⟨(some 9), none, .p (.mv (.t 31))⟩),
    (.quiet, ⟨(some 10), none, .p (.mv (.t 32))⟩)])
  (.seq (.seq (.reg [⟨(some 33), none, .p (.mv (.t 8))⟩,
    ⟨(some 34), none, .p (.bin .neq (.t 33) (.c (.int .i64 0)))⟩,
    ⟨(some 35), none, .p (.mv (.t 34))⟩,
    ⟨(some 36), (some (35, false)), .p (.mv (.t 10))⟩,
    ⟨(some 37), (some (35, false)), .p (.bin .neq (.t 36) (.c (.int .i64 0)))⟩,
    ⟨(some 38), none, .p (.pick (.t 35) (.c (.bool true)) (.t 37))⟩])
  (.cond (.t 38) (.seq (.reg [⟨(some 39), none, .p (.mv (.t 7))⟩,
    ⟨(some 40), none, .p (.lenA (.t 39))⟩,
    ⟨(some 41), none, .p (.bin .eql (.t 40) (.c (.int .i64 0)))⟩,
    ⟨(some 42), none, .p (.mv (.t 41))⟩,
    ⟨(some 43), (some (42, false)), .p (.mv (.t 8))⟩,
    ⟨(some 44), (some (42, false)), .p (.bin .eql (.t 43) (.c (.int .i64 0)))⟩,
    ⟨(some 45), none, .p (.pick (.t 42) (.c (.bool true)) (.t 44))⟩,
    ⟨(some 46), none, .p (.mv (.t 45))⟩,
    ⟨(some 47), (some (46, true)), .call 8 []⟩,
    ⟨(some 48), none, .p (.pick (.t 46) (.t 47) (.c (.bool false)))⟩,
    ⟨(some 6), none, .p (.mv (.t 48))⟩])
  .ret) .skip))
  (.seq (.seq (.reg [⟨(some 11), none, .p (.mv (.c (.int .i64 0)))⟩])
  (.block 0 (.loop (.seq (.seq (.reg [⟨(some 49), none, .p (.mv (.t 11))⟩,
    ⟨(some 50), none, .p (.mv (.t 7))⟩,
    ⟨(some 51), none, .p (.lenA (.t 50))⟩,
    ⟨(some 52), none, .p (.bin .lss (.t 49) (.t 51))⟩])
  (.cond (.t 52) .skip (.exit 0)))
  (.seq (.block 1 (.seq (.oreg [(.quiet, ⟨(some 55), none, .p (.mv (.t 11))⟩),
    (.quiet, ⟨(some 56), none, .p (.mv (.t 9))⟩),
    (.quiet, ⟨(some 57), none, .p (.lenA (.t 56))⟩),
    (.quiet, ⟨(some 58), none, .p (.bin .geq (.t 55) (.t 57))⟩),
    (.quiet, ⟨(some 59), none, .p (.mv (.t 58))⟩),
    (.quiet, ⟨(some 60), (some (59, false)), .p (.mv (.t 9))⟩),
    (.quiet, ⟨(some 61), (some (59, false)), .p (.mv (.t 11))⟩),
    (.quiet, ⟨(some 62), (some (59, false)), .p (.idxA 1 (.t 60) (.t 61))⟩),
    (.quiet, ⟨(some 63), (some (59, false)), .p (.ld1 (.t 62))⟩),
    (.quiet, ⟨(some 64), (some (59, false)), .p (.mv (.t 7))⟩),
    (.quiet, ⟨(some 65), (some (59, false)), .p (.mv (.t 11))⟩),
    (.quiet, ⟨(some 66), (some (59, false)), .p (.idxA 1 (.t 64) (.t 65))⟩),
    (.quiet, ⟨(some 67), (some (59, false)), .p (.ld1 (.t 66))⟩),
    (.quiet, ⟨(some 68), (some (59, false)), .p (.bin .lss (.t 63) (.t 67))⟩),
    (.quiet, ⟨(some 69), none, .p (.pick (.t 59) (.c (.bool true)) (.t 68))⟩),
    (.quiet, ⟨(some 70), none, .p (.mv (.t 69))⟩),
    (.quiet, ⟨(some 71), (some (70, false)), .p (.mv (.t 7))⟩),
    (.quiet, ⟨(some 72), (some (70, false)), .p (.mv (.t 11))⟩),
    (.quiet, ⟨(some 73), (some (70, false)), .p (.bin .add (.t 72) (.c (.int .i64 1)))⟩),
    (.stable, ⟨(some 75), (some (70, false)), .p (.mv (.t 7))⟩),
    (.stable, ⟨(some 76), (some (70, false)), .p (.mv (.t 11))⟩),
    (.stable, ⟨(some 78), (some (70, false)), .p (.mv (.t 7))⟩),
    (.stable, ⟨(some 79), (some (70, false)), .p (.mv (.t 11))⟩),
    (.stable, ⟨(some 80), (some (70, false)), .p (.bin .add (.t 79) (.c (.int .i64 1)))⟩),
    (.loud, ⟨(some 74), (some (70, false)), .call 16 [(.t 71), (.t 73)]⟩),
    (.loud, ⟨(some 77), (some (70, false)), .call 16 [(.t 75), (.t 76)]⟩),
    (.loud, ⟨(some 81), (some (70, false)), .call 13 [(.t 78), (.t 80)]⟩),
    (.quiet, ⟨(some 82), (some (70, false)), .p (.bin .add (.t 77) (.t 81))⟩),
    (.quiet, ⟨(some 83), (some (70, false)), .p (.bin .neq (.t 74) (.t 82))⟩),
    (.quiet, ⟨(some 84), none, .p (.pick (.t 70) (.c (.bool true)) (.t 83))⟩)])
  (.cond (.t 84) (.seq (.reg [⟨(some 6), none, .p (.mv (.c (.bool false)))⟩])
  .ret) .skip)))
  (.reg [⟨(some 53), none, .p (.mv (.t 11))⟩,
    ⟨(some 54), none, .p (.bin .add (.t 53) (.c (.int .i64 1)))⟩,
    ⟨(some 11), none, .p (.mv (.t 54))⟩]))))))
  (.seq (.reg [⟨(some 85), none, .p (.mv (.t 7))⟩,
    ⟨(some 86), none, .p (.lenA (.t 85))⟩,
    ⟨(some 87), none, .p (.mv (.t 2))⟩,
    ⟨(some 88), none, .p (.bin .eql (.t 86) (.t 87))⟩,
    ⟨(some 89), none, .p (.mv (.t 88))⟩,
    ⟨(some 90), (some (89, true)), .p (.mv (.t 9))⟩,
    ⟨(some 91), (some (89, true)), .p (.lenA (.t 90))⟩,
    ⟨(some 92), (some (89, true)), .p (.mv (.t 2))⟩,
    ⟨(some 93), (some (89, true)), .p (.bin .eql (.t 91) (.t 92))⟩,
    ⟨(some 94), none, .p (.pick (.t 89) (.t 93) (.c (.bool false)))⟩,
    ⟨(some 95), none, .p (.mv (.t 94))⟩,
    ⟨(some 96), (some (95, true)), .call 8 []⟩,
    ⟨(some 97), none, .p (.pick (.t 95) (.t 96) (.c (.bool false)))⟩,
    ⟨(some 6), none, .p (.mv (.t 97))⟩])
  .ret)))))))⟩
theorem c6 : compF Try.prog ⟨fun s => [23].contains s, fun r => match r with | 4 => [(1, .stable), (3, .stable), (4, .stable), (6, .stable), (0, .loud), (2, .loud), (5, .loud), (7, .loud), (8, .quiet), (9, .quiet), (10, .quiet), (11, .quiet), (12, .quiet)]  | 10 => [(0, .quiet), (1, .quiet), (2, .quiet), (3, .quiet), (4, .quiet), (5, .quiet), (6, .quiet), (7, .quiet), (8, .quiet), (9, .quiet), (10, .quiet), (11, .quiet), (12, .quiet), (13, .quiet), (14, .quiet), (15, .quiet), (16, .quiet), (17, .quiet), (18, .quiet), (20, .stable), (21, .stable), (23, .stable), (24, .stable), (25, .stable), (19, .loud), (22, .loud), (26, .loud), (27, .quiet), (28, .quiet), (29, .quiet)] | _ => []⟩ Try.f6 = some a6 := by kernel_rfl

/- airline/airlinelaw14.BidMore -/
def a7 : AFun := ⟨156, [6], (.seq (.reg [⟨(some 3), none, .p (.boxI (.t 0))⟩,
    ⟨(some 6), none, .p (.mv (.c (.bool false)))⟩])
  (.seq (.seq (.reg [⟨(some 12), none, .p (.ldn 2 (.t 3))⟩,
    ⟨(some 13), none, .call 18 [(.t 12)]⟩,
    ⟨(some 14), none, .p (.not (.t 13))⟩,
    ⟨(some 15), none, .p (.mv (.t 14))⟩,
    ⟨(some 16), (some (15, false)), .p (.mv (.t 1))⟩,
    ⟨(some 17), (some (15, false)), .p (.bin .lss (.t 16) (.c (.int .i64 (-1152921504606846976))))⟩,
    ⟨(some 18), none, .p (.pick (.t 15) (.c (.bool true)) (.t 17))⟩,
    ⟨(some 19), none, .p (.mv (.t 18))⟩,
    ⟨(some 20), (some (19, false)), .p (.mv (.t 1))⟩,
    ⟨(some 21), (some (19, false)), .p (.bin .gtr (.t 20) (.c (.int .i64 1152921504606846976)))⟩,
    ⟨(some 22), none, .p (.pick (.t 19) (.c (.bool true)) (.t 21))⟩,
    ⟨(some 23), none, .p (.mv (.t 22))⟩,
    ⟨(some 24), (some (23, false)), .p (.mv (.t 2))⟩,
    ⟨(some 25), (some (23, false)), .p (.bin .gtr (.t 24) (.c (.int .i64 1152921504606846976)))⟩,
    ⟨(some 26), none, .p (.pick (.t 23) (.c (.bool true)) (.t 25))⟩])
  (.cond (.t 26) (.seq (.reg [⟨(some 27), none, .call 8 []⟩,
    ⟨(some 6), none, .p (.mv (.t 27))⟩])
  .ret) .skip))
  (.seq (.reg [⟨(some 28), none, .p (.faddr 0 (.t 3))⟩,
    ⟨(some 29), none, .p (.ld1 (.t 28))⟩,
    ⟨(some 30), none, .p (.faddr 1 (.t 3))⟩,
    ⟨(some 31), none, .p (.ld1 (.t 30))⟩,
    ⟨(some 32), none, .p (.mv (.t 1))⟩,
    ⟨(some 33), none, .p (.mv (.t 2))⟩,
    ⟨(some 34), none, .call 19 [(.t 29), (.t 31), (.t 32), (.t 33)]⟩,
    ⟨(some 7), none, .p (.mv (.t 34))⟩])
  (.seq (.seq (.reg [⟨(some 35), none, .p (.mv (.t 7))⟩,
    ⟨(some 36), none, .p (.bin .lss (.t 35) (.c (.int .i64 0)))⟩,
    ⟨(some 37), none, .p (.mv (.t 36))⟩,
    ⟨(some 38), (some (37, false)), .p (.mv (.t 7))⟩,
    ⟨(some 39), (some (37, false)), .p (.mv (.t 2))⟩,
    ⟨(some 40), (some (37, false)), .p (.minmax false (.t 39) (.c (.int .i64 0)))⟩,
    ⟨(some 41), (some (37, false)), .p (.bin .gtr (.t 38) (.t 40))⟩,
    ⟨(some 42), none, .p (.pick (.t 37) (.c (.bool true)) (.t 41))⟩,
    ⟨(some 43), none, .p (.mv (.t 42))⟩,
    ⟨(some 44), (some (43, false)), .p (.mv (.t 7))⟩,
    ⟨(some 45), (some (43, false)), .p (.bin .gtr (.t 44) (.c (.int .i64 999)))⟩,
    ⟨(some 46), none, .p (.pick (.t 43) (.c (.bool true)) (.t 45))⟩,
    ⟨(some 47), none, .p (.mv (.t 46))⟩,
    ⟨(some 48), (some (47, false)), .p (.faddr 0 (.t 3))⟩,
    ⟨(some 49), (some (47, false)), .p (.ld1 (.t 48))⟩,
    ⟨(some 50), (some (47, false)), .p (.faddr 1 (.t 3))⟩,
    ⟨(some 51), (some (47, false)), .p (.ld1 (.t 50))⟩,
    ⟨(some 52), (some (47, false)), .p (.mv (.t 1))⟩,
    ⟨(some 53), (some (47, false)), .p (.bin .add (.t 52) (.c (.int .i64 1)))⟩,
    ⟨(some 54), (some (47, false)), .p (.mv (.t 2))⟩,
    ⟨(some 55), (some (47, false)), .call 19 [(.t 49), (.t 51), (.t 53), (.t 54)]⟩,
    ⟨(some 56), (some (47, false)), .p (.mv (.t 7))⟩,
    ⟨(some 57), (some (47, false)), .p (.bin .lss (.t 55) (.t 56))⟩,
    ⟨(some 58), none, .p (.pick (.t 47) (.c (.bool true)) (.t 57))⟩,
    ⟨(some 59), none, .p (.mv (.t 58))⟩,
    ⟨(some 60), (some (59, false)), .p (.faddr 0 (.t 3))⟩,
    ⟨(some 61), (some (59, false)), .p (.ld1 (.t 60))⟩,
    ⟨(some 62), (some (59, false)), .p (.faddr 1 (.t 3))⟩,
    ⟨(some 63), (some (59, false)), .p (.ld1 (.t 62))⟩,
    ⟨(some 64), (some (59, false)), .p (.mv (.t 1))⟩,
    ⟨(some 65), (some (59, false)), .p (.mv (.t 2))⟩,
    ⟨(some 66), (some (59, false)), .p (.bin .add (.t 65) (.c (.int .i64 1)))⟩,
    ⟨(some 67), (some (59, false)), .call 19 [(.t 61), (.t 63), (.t 64), (.t 66)]⟩,
    ⟨(some 68), (some (59, false)), .p (.mv (.t 7))⟩,
    ⟨(some 69), (some (59, false)), .p (.bin .lss (.t 67) (.t 68))⟩,
    ⟨(some 70), none, .p (.pick (.t 59) (.c (.bool true)) (.t 69))⟩])
  (.cond (.t 70) (.seq (.reg [⟨(some 6), none, .p (.mv (.c (.bool false)))⟩])
  .ret) .skip))
  (.seq (.reg [⟨(some 8), none, .p (.mv (.c .nilSl))⟩])
  (.seq (.seq (.reg [⟨(some 9), none, .p (.mv (.c (.int .i64 0)))⟩])
  (.block 0 (.loop (.seq (.seq (.reg [⟨(some 71), none, .p (.mv (.t 9))⟩,
    ⟨(some 72), none, .p (.faddr 1 (.t 3))⟩,
    ⟨(some 73), none, .p (.ld1 (.t 72))⟩,
    ⟨(some 74), none, .p (.lenA (.t 73))⟩,
    ⟨(some 75), none, .p (.bin .lss (.t 71) (.t 74))⟩])
  (.cond (.t 75) .skip (.exit 0)))
  (.seq (.block 1 (.seq (.seq (.reg [⟨(some 78), none, .p (.faddr 1 (.t 3))⟩,
    ⟨(some 79), none, .p (.ld1 (.t 78))⟩,
    ⟨(some 80), none, .p (.mv (.t 9))⟩,
    ⟨(some 81), none, .p (.idxA 1 (.t 79) (.t 80))⟩,
    ⟨(some 82), none, .p (.ld1 (.t 81))⟩,
    ⟨(some 83), none, .p (.bin .gtr (.t 82) (.c (.int .i64 100000)))⟩])
  (.cond (.t 83) (.seq (.reg [⟨(some 84), none, .call 8 []⟩,
    ⟨(some 6), none, .p (.mv (.t 84))⟩])
  .ret) .skip))
  (.reg [⟨(some 85), none, .p (.mv (.t 8))⟩,
    ⟨(some 86), none, .p (.faddr 1 (.t 3))⟩,
    ⟨(some 87), none, .p (.ld1 (.t 86))⟩,
    ⟨(some 88), none, .p (.mv (.t 9))⟩,
    ⟨(some 89), none, .p (.idxA 1 (.t 87) (.t 88))⟩,
    ⟨(some 90), none, .p (.ld1 (.t 89))⟩,
    ⟨(some 91), none, .p (.minmax false (.t 90) (.c (.int .i64 (-1))))⟩,
    ⟨(some 92), none, .p (.bin .add (.t 91) (.c (.int .i64 1)))⟩,
    ⟨(some 93), none, .p (.bsl 1 [(.int .i64 0)] 1 [(0, (.t 92))])⟩,
    ⟨(some 94), none, .app 3 1 (.t 85) (.t 93)⟩,
    ⟨(some 8), none, .p (.mv (.t 94))⟩])))
  (.reg [⟨(some 76), none, .p (.mv (.t 9))⟩,
    ⟨(some 77), none, .p (.bin .add (.t 76) (.c (.int .i64 1)))⟩,
    ⟨(some 9), none, .p (.mv (.t 77))⟩]))))))
  (.seq (.reg [⟨(some 10), none, .p (.mv (.c (.int .i64 0)))⟩])
  (.seq (.seq (.reg [⟨(some 11), none, .p (.mv (.c (.int .i64 0)))⟩])
  (.block 2 (.loop (.seq (.seq (.reg [⟨(some 95), none, .p (.mv (.t 11))⟩,
    ⟨(some 96), none, .p (.faddr 0 (.t 3))⟩,
    ⟨(some 97), none, .p (.ld1 (.t 96))⟩,
    ⟨(some 98), none, .p (.lenA (.t 97))⟩,
    ⟨(some 99), none, .p (.bin .lss (.t 95) (.t 98))⟩,
    ⟨(some 100), none, .p (.mv (.t 99))⟩,
    ⟨(some 101), (some (100, true)), .p (.mv (.t 11))⟩,
    ⟨(some 102), (some (100, true)), .p (.faddr 1 (.t 3))⟩,
    ⟨(some 103), (some (100, true)), .p (.ld1 (.t 102))⟩,
    ⟨(some 104), (some (100, true)), .p (.lenA (.t 103))⟩,
    ⟨(some 105), (some (100, true)), .p (.bin .lss (.t 101) (.t 104))⟩,
    ⟨(some 106), none, .p (.pick (.t 100) (.t 105) (.c (.bool false)))⟩])
  (.cond (.t 106) .skip (.exit 2)))
  (.seq (.block 3 (.seq (.seq (.reg [⟨(some 109), none, .p (.mv (.t 7))⟩,
    ⟨(some 110), none, .p (.bin .gtr (.t 109) (.c (.int .i64 0)))⟩,
    ⟨(some 111), none, .p (.mv (.t 110))⟩,
    ⟨(some 112), (some (111, true)), .p (.faddr 1 (.t 3))⟩,
    ⟨(some 113), (some (111, true)), .p (.ld1 (.t 112))⟩,
    ⟨(some 114), (some (111, true)), .p (.mv (.t 11))⟩,
    ⟨(some 115), (some (111, true)), .p (.idxA 1 (.t 113) (.t 114))⟩,
    ⟨(some 116), (some (111, true)), .p (.ld1 (.t 115))⟩,
    ⟨(some 117), (some (111, true)), .p (.mv (.t 7))⟩,
    ⟨(some 118), (some (111, true)), .p (.bin .lss (.t 116) (.t 117))⟩,
    ⟨(some 119), none, .p (.pick (.t 111) (.t 118) (.c (.bool false)))⟩])
  (.cond (.t 119) (.seq (.reg [⟨(some 6), none, .p (.mv (.c (.bool false)))⟩])
  .ret) .skip))
  (.oreg [(.stable, ⟨(some 120), none, .p (.mv (.t 10))⟩),
    (.quiet, ⟨(some 121), none, .p (.faddr 0 (.t 3))⟩),
    (.quiet, ⟨(some 122), none, .p (.ld1 (.t 121))⟩),
    (.quiet, ⟨(some 123), none, .p (.mv (.t 11))⟩),
    (.quiet, ⟨(some 124), none, .p (.idxA 1 (.t 122) (.t 123))⟩),
    (.quiet, ⟨(some 125), none, .p (.ld1 (.t 124))⟩),
    (.quiet, ⟨(some 126), none, .p (.faddr 1 (.t 3))⟩),
    (.quiet, ⟨(some 127), none, .p (.ld1 (.t 126))⟩),
    (.quiet, ⟨(some 128), none, .p (.mv (.t 11))⟩),
    (.quiet, ⟨(some 129), none, .p (.idxA 1 (.t 127) (.t 128))⟩),
    (.quiet, ⟨(some 130), none, .p (.ld1 (.t 129))⟩),
    (.quiet, ⟨(some 131), none, .p (.mv (.t 7))⟩),
    (.quiet, ⟨(some 132), none, .p (.bin .sub (.t 130) (.t 131))⟩),
    (.quiet, ⟨(some 133), none, .p (.bin .add (.t 132) (.c (.int .i64 1)))⟩),
    (.loud, ⟨(some 134), none, .call 13 [(.t 125), (.t 133)]⟩),
    (.quiet, ⟨(some 135), none, .p (.bin .add (.t 120) (.t 134))⟩),
    (.quiet, ⟨(some 10), none, .p (.mv (.t 135))⟩)])))
  (.reg [⟨(some 107), none, .p (.mv (.t 11))⟩,
    ⟨(some 108), none, .p (.bin .add (.t 107) (.c (.int .i64 1)))⟩,
    ⟨(some 11), none, .p (.mv (.t 108))⟩]))))))
  (.seq (.reg [⟨(some 136), none, .p (.faddr 0 (.t 3))⟩,
    ⟨(some 137), none, .p (.ld1 (.t 136))⟩,
    ⟨(some 138), none, .p (.mv (.t 8))⟩,
    ⟨(some 139), none, .p (.mv (.t 1))⟩,
    ⟨(some 140), none, .p (.mv (.t 2))⟩,
    ⟨(some 141), none, .call 19 [(.t 137), (.t 138), (.t 139), (.t 140)]⟩,
    ⟨(some 142), none, .p (.mv (.t 7))⟩,
    ⟨(some 143), none, .p (.bin .geq (.t 141) (.t 142))⟩,
    ⟨(some 144), none, .p (.mv (.t 143))⟩,
    ⟨(some 145), (some (144, true)), .p (.mv (.t 7))⟩,
    ⟨(some 146), (some (144, true)), .p (.bin .eql (.t 145) (.c (.int .i64 0)))⟩,
    ⟨(some 147), (some (144, true)), .p (.mv (.t 146))⟩,
    ⟨(some 148), (some (147, false)), .p (.mv (.t 10))⟩,
    ⟨(some 149), (some (147, false)), .p (.mv (.t 1))⟩,
    ⟨(some 150), (some (147, false)), .p (.bin .leq (.t 148) (.t 149))⟩,
    ⟨(some 151), (some (144, true)), .p (.pick (.t 147) (.c (.bool true)) (.t 150))⟩,
    ⟨(some 152), none, .p (.pick (.t 144) (.t 151) (.c (.bool false)))⟩,
    ⟨(some 153), none, .p (.mv (.t 152))⟩,
    ⟨(some 154), (some (153, true)), .call 8 []⟩,
    ⟨(some 155), none, .p (.pick (.t 153) (.t 154) (.c (.bool false)))⟩,
    ⟨(some 6), none, .p (.mv (.t 155))⟩])
  .ret)))))))))⟩
theorem c7 : compF Try.prog ⟨fun s => [].contains s, fun r => match r with | 19 => [(0, .stable), (1, .quiet), (2, .quiet), (3, .quiet), (4, .quiet), (5, .quiet), (6, .quiet), (7, .quiet), (8, .quiet), (9, .quiet), (10, .quiet), (11, .quiet), (12, .quiet), (13, .quiet), (14, .loud), (15, .quiet), (16, .quiet)] | _ => []⟩ Try.f7 = some a7 := by kernel_rfl

/- airline/airlinelaw14.knows -/
def a8 : AFun := ⟨58, [0], (.seq (.reg [⟨(some 0), none, .p (.mv (.c (.bool false)))⟩])
  (.seq (.reg [⟨(some 6), none, .p (.build [(.int .i64 0), (.int .i64 0)] [(0, 1, (.c (.int .i64 100))), (1, 1, (.c (.int .i64 1)))])⟩,
    ⟨(some 7), none, .p (.build [(.int .i64 0), (.int .i64 0)] [(0, 1, (.c (.int .i64 300))), (1, 1, (.c (.int .i64 2)))])⟩,
    ⟨(some 8), none, .p (.bsl 2 [(.int .i64 0), (.int .i64 0)] 2 [(0, (.t 6)), (1, (.t 7))])⟩,
    ⟨(some 9), none, .call 9 [(.t 8), (.c (.int .i64 4))]⟩,
    ⟨(some 5), none, .p (.mv (.t 9))⟩,
    ⟨(some 10), none, .p (.ext 0 (.t 5))⟩,
    ⟨(some 11), none, .p (.ext 1 (.t 5))⟩,
    ⟨(some 1), none, .p (.mv (.t 10))⟩,
    ⟨(some 2), none, .p (.mv (.t 11))⟩])
  (.seq (.reg [⟨(some 12), none, .p (.bsl 1 [(.int .i64 0)] 3 [(0, (.c (.int .i64 300))), (1, (.c (.int .i64 100))), (2, (.c (.int .i64 50)))])⟩,
    ⟨(some 13), none, .p (.bsl 1 [(.int .i64 0)] 2 [(0, (.c (.int .i64 200))), (1, (.c (.int .i64 100)))])⟩,
    ⟨(some 3), none, .p (.mv (.t 12))⟩,
    ⟨(some 4), none, .p (.mv (.t 13))⟩])
  (.seq (.reg [⟨(some 14), none, .p (.mv (.t 2))⟩,
    ⟨(some 15), none, .p (.bin .eql (.t 14) (.c (.int .i64 0)))⟩,
    ⟨(some 16), none, .p (.mv (.t 15))⟩,
    ⟨(some 17), (some (16, true)), .p (.mv (.t 1))⟩,
    ⟨(some 18), (some (16, true)), .p (.bsl 1 [(.int .i64 0)] 4 [(0, (.c (.int .i64 300))), (1, (.c (.int .i64 300))), (2, (.c (.int .i64 100))), (3, (.c (.int .i64 0)))])⟩,
    ⟨(some 19), (some (16, true)), .call 11 [(.t 17), (.t 18)]⟩,
    ⟨(some 20), none, .p (.pick (.t 16) (.t 19) (.c (.bool false)))⟩,
    ⟨(some 21), none, .p (.mv (.t 20))⟩,
    ⟨(some 22), (some (21, true)), .p (.bsl 1 [(.int .i64 0)] 3 [(0, (.c (.int .i64 3))), (1, (.c (.int .i64 3))), (2, (.c (.int .i64 0)))])⟩,
    ⟨(some 23), (some (21, true)), .call 12 [(.t 22)]⟩,
    ⟨(some 24), none, .p (.pick (.t 21) (.t 23) (.c (.bool false)))⟩,
    ⟨(some 25), none, .p (.mv (.t 24))⟩,
    ⟨(some 26), (some (25, true)), .p (.bsl 1 [(.int .i64 0)] 2 [(0, (.c (.int .i64 1))), (1, (.c (.int .i64 2)))])⟩,
    ⟨(some 27), (some (25, true)), .call 12 [(.t 26)]⟩,
    ⟨(some 28), (some (25, true)), .p (.not (.t 27))⟩,
    ⟨(some 29), none, .p (.pick (.t 25) (.t 28) (.c (.bool false)))⟩,
    ⟨(some 30), none, .p (.mv (.t 29))⟩,
    ⟨(some 31), (some (30, true)), .p (.mv (.t 4))⟩,
    ⟨(some 32), (some (30, true)), .call 13 [(.t 31), (.c (.int .i64 1))]⟩,
    ⟨(some 33), (some (30, true)), .p (.bin .eql (.t 32) (.c (.int .i64 200)))⟩,
    ⟨(some 34), none, .p (.pick (.t 30) (.t 33) (.c (.bool false)))⟩,
    ⟨(some 35), none, .p (.mv (.t 34))⟩,
    ⟨(some 36), (some (35, true)), .p (.mv (.t 4))⟩,
    ⟨(some 37), (some (35, true)), .call 13 [(.t 36), (.c (.int .i64 3))]⟩,
    ⟨(some 38), (some (35, true)), .p (.bin .eql (.t 37) (.c (.int .i64 0)))⟩,
    ⟨(some 39), none, .p (.pick (.t 35) (.t 38) (.c (.bool false)))⟩,
    ⟨(some 40), none, .p (.mv (.t 39))⟩,
    ⟨(some 41), (some (40, true)), .p (.mv (.t 4))⟩,
    ⟨(some 42), (some (40, true)), .call 13 [(.t 41), (.c (.int .i64 0))]⟩,
    ⟨(some 43), (some (40, true)), .p (.bin .eql (.t 42) (.c (.int .i64 (-1))))⟩,
    ⟨(some 44), none, .p (.pick (.t 40) (.t 43) (.c (.bool false)))⟩,
    ⟨(some 45), none, .p (.mv (.t 44))⟩,
    ⟨(some 46), (some (45, true)), .p (.mv (.t 4))⟩,
    ⟨(some 47), (some (45, true)), .call 16 [(.t 46), (.c (.int .i64 5))]⟩,
    ⟨(some 48), (some (45, true)), .p (.bin .eql (.t 47) (.c (.int .i64 300)))⟩,
    ⟨(some 49), none, .p (.pick (.t 45) (.t 48) (.c (.bool false)))⟩,
    ⟨(some 50), none, .p (.mv (.t 49))⟩,
    ⟨(some 51), (some (50, true)), .p (.mv (.t 3))⟩,
    ⟨(some 52), (some (50, true)), .p (.mv (.t 4))⟩,
    ⟨(some 53), (some (50, true)), .p (.bsl 1 [.nilSl] 2 [(0, (.t 51)), (1, (.t 52))])⟩,
    ⟨(some 54), (some (50, true)), .p (.bsl 1 [(.int .i64 0)] 2 [(0, (.c (.int .i64 3))), (1, (.c (.int .i64 2)))])⟩,
    ⟨(some 55), (some (50, true)), .call 19 [(.t 53), (.t 54), (.c (.int .i64 250)), (.c (.int .i64 5))]⟩,
    ⟨(some 56), (some (50, true)), .p (.bin .eql (.t 55) (.c (.int .i64 1)))⟩,
    ⟨(some 57), none, .p (.pick (.t 50) (.t 56) (.c (.bool false)))⟩,
    ⟨(some 0), none, .p (.mv (.t 57))⟩])
  .ret))))⟩
theorem c8 : compF Try.prog ⟨fun s => [].contains s, fun _ => []⟩ Try.f8 = some a8 := by kernel_rfl

/- airline/bid.Curve -/
def a9 : AFun := ⟨72, [4, 5], (.seq (.reg [⟨(some 4), none, .p (.mv (.c .nilSl))⟩,
    ⟨(some 5), none, .p (.mv (.c (.int .i64 0)))⟩])
  (.seq (.seq (.reg [⟨(some 12), none, .p (.mv (.t 1))⟩,
    ⟨(some 13), none, .p (.bin .lss (.t 12) (.c (.int .i64 0)))⟩,
    ⟨(some 14), none, .p (.mv (.t 13))⟩,
    ⟨(some 15), (some (14, false)), .p (.mv (.t 1))⟩,
    ⟨(some 16), (some (14, false)), .p (.bin .gtr (.t 15) (.c (.int .i64 999)))⟩,
    ⟨(some 17), none, .p (.pick (.t 14) (.c (.bool true)) (.t 16))⟩])
  (.cond (.t 17) (.seq (.reg [⟨(some 4), none, .p (.mv (.c .nilSl))⟩,
    ⟨(some 5), none, .p (.mv (.c (.int .i64 2)))⟩])
  .ret) .skip))
  (.seq (.seq (.reg [⟨(some 18), none, .p (.mv (.t 0))⟩,
    ⟨(some 19), none, .p (.lenA (.t 18))⟩,
    ⟨(some 20), none, .p (.mv (.c (.int .i64 0)))⟩])
  (.block 0 (.loop (.seq (.reg [⟨(some 21), none, .p (.bin .lss (.t 20) (.t 19))⟩])
  (.seq (.cond (.t 21) .skip (.exit 0))
  (.seq (.block 1 (.seq (.reg [⟨(some 22), none, .p (.idxA 2 (.t 18) (.t 20))⟩,
    ⟨(some 23), none, .p (.ldn 2 (.t 22))⟩,
    ⟨(some 7), none, .newO 40 [(.int .i64 0), (.int .i64 0)]⟩,
    ⟨none, none, .st 2 (.t 7) (.t 23)⟩])
  (.seq (.seq (.reg [⟨(some 24), none, .p (.faddr 0 (.t 7))⟩,
    ⟨(some 25), none, .p (.ld1 (.t 24))⟩,
    ⟨(some 26), none, .p (.bin .lss (.t 25) (.c (.int .i64 0)))⟩,
    ⟨(some 27), none, .p (.mv (.t 26))⟩,
    ⟨(some 28), (some (27, false)), .p (.faddr 0 (.t 7))⟩,
    ⟨(some 29), (some (27, false)), .p (.ld1 (.t 28))⟩,
    ⟨(some 30), (some (27, false)), .p (.bin .gtr (.t 29) (.c (.int .i64 1099511627776)))⟩,
    ⟨(some 31), none, .p (.pick (.t 27) (.c (.bool true)) (.t 30))⟩])
  (.cond (.t 31) (.seq (.reg [⟨(some 4), none, .p (.mv (.c .nilSl))⟩,
    ⟨(some 5), none, .p (.mv (.c (.int .i64 11)))⟩])
  .ret) .skip))
  (.seq (.reg [⟨(some 32), none, .p (.faddr 1 (.t 7))⟩,
    ⟨(some 33), none, .p (.ld1 (.t 32))⟩,
    ⟨(some 34), none, .p (.bin .lss (.t 33) (.c (.int .i64 0)))⟩])
  (.cond (.t 34) (.seq (.reg [⟨(some 4), none, .p (.mv (.c .nilSl))⟩,
    ⟨(some 5), none, .p (.mv (.c (.int .i64 2)))⟩])
  .ret) .skip)))))
  (.reg [⟨(some 35), none, .p (.bin .add (.t 20) (.c (.int .i64 1)))⟩,
    ⟨(some 20), none, .p (.mv (.t 35))⟩])))))))
  (.seq (.reg [⟨(some 36), none, .p (.mv (.t 0))⟩,
    ⟨(some 37), none, .call 21 [(.t 36)]⟩,
    ⟨(some 8), none, .p (.mv (.t 37))⟩])
  (.seq (.reg [⟨(some 38), none, .p (.mv (.t 8))⟩,
    ⟨(some 39), none, .call 22 [(.t 38), (.c (.func 23 [] []))]⟩])
  (.seq (.reg [⟨(some 40), none, .p (.mv (.t 1))⟩,
    ⟨(some 41), none, .mksl 3 1 [(.int .i64 0)] (.c (.int .i64 0)) (.t 40)⟩,
    ⟨(some 9), none, .p (.mv (.t 41))⟩])
  (.seq (.seq (.reg [⟨(some 42), none, .p (.mv (.t 8))⟩,
    ⟨(some 43), none, .p (.lenA (.t 42))⟩,
    ⟨(some 44), none, .p (.mv (.c (.int .i64 0)))⟩])
  (.block 2 (.loop (.seq (.reg [⟨(some 45), none, .p (.bin .lss (.t 44) (.t 43))⟩])
  (.seq (.cond (.t 45) .skip (.exit 2))
  (.seq (.block 3 (.seq (.reg [⟨(some 46), none, .p (.idxA 2 (.t 42) (.t 44))⟩,
    ⟨(some 47), none, .p (.ldn 2 (.t 46))⟩,
    ⟨(some 11), none, .newO 40 [(.int .i64 0), (.int .i64 0)]⟩,
    ⟨none, none, .st 2 (.t 11) (.t 47)⟩])
  (.seq (.reg [⟨(some 48), none, .p (.faddr 1 (.t 11))⟩,
    ⟨(some 49), none, .p (.ld1 (.t 48))⟩,
    ⟨(some 50), none, .p (.mv (.t 1))⟩,
    ⟨(some 51), none, .p (.mv (.t 9))⟩,
    ⟨(some 52), none, .p (.lenA (.t 51))⟩,
    ⟨(some 53), none, .p (.bin .sub (.t 50) (.t 52))⟩,
    ⟨(some 54), none, .p (.minmax true (.t 49) (.t 53))⟩,
    ⟨(some 55), none, .p (.mv (.c (.int .i64 0)))⟩])
  (.block 4 (.loop (.seq (.reg [⟨(some 56), none, .p (.bin .lss (.t 55) (.t 54))⟩])
  (.seq (.cond (.t 56) .skip (.exit 4))
  (.seq (.block 5 (.reg [⟨(some 57), none, .p (.mv (.t 9))⟩,
    ⟨(some 58), none, .p (.faddr 0 (.t 11))⟩,
    ⟨(some 59), none, .p (.ld1 (.t 58))⟩,
    ⟨(some 60), none, .p (.bsl 1 [(.int .i64 0)] 1 [(0, (.t 59))])⟩,
    ⟨(some 61), none, .app 3 1 (.t 57) (.t 60)⟩,
    ⟨(some 9), none, .p (.mv (.t 61))⟩]))
  (.reg [⟨(some 62), none, .p (.bin .add (.t 55) (.c (.int .i64 1)))⟩,
    ⟨(some 55), none, .p (.mv (.t 62))⟩])))))))))
  (.reg [⟨(some 63), none, .p (.bin .add (.t 44) (.c (.int .i64 1)))⟩,
    ⟨(some 44), none, .p (.mv (.t 63))⟩])))))))
  (.seq (.block 6 (.loop (.seq (.seq (.reg [⟨(some 64), none, .p (.mv (.t 9))⟩,
    ⟨(some 65), none, .p (.lenA (.t 64))⟩,
    ⟨(some 66), none, .p (.mv (.t 1))⟩,
    ⟨(some 67), none, .p (.bin .lss (.t 65) (.t 66))⟩])
  (.cond (.t 67) .skip (.exit 6)))
  (.block 7 (.reg [⟨(some 68), none, .p (.mv (.t 9))⟩,
    ⟨(some 69), none, .p (.bsl 1 [(.int .i64 0)] 1 [(0, (.c (.int .i64 0)))])⟩,
    ⟨(some 70), none, .app 3 1 (.t 68) (.t 69)⟩,
    ⟨(some 9), none, .p (.mv (.t 70))⟩])))))
  (.seq (.reg [⟨(some 71), none, .p (.mv (.t 9))⟩,
    ⟨(some 4), none, .p (.mv (.t 71))⟩,
    ⟨(some 5), none, .p (.mv (.c (.int .i64 0)))⟩])
  .ret)))))))))⟩
theorem c9 : compF Try.prog ⟨fun s => [].contains s, fun _ => []⟩ Try.f9 = some a9 := by kernel_rfl

/- airline/airlineref14.Curve -/
def a10 : AFun := ⟨104, [4, 5], (.seq (.reg [⟨(some 4), none, .p (.mv (.c .nilSl))⟩,
    ⟨(some 5), none, .p (.mv (.c (.int .i64 0)))⟩])
  (.seq (.seq (.reg [⟨(some 11), none, .p (.mv (.t 1))⟩,
    ⟨(some 12), none, .p (.bin .lss (.t 11) (.c (.int .i64 0)))⟩,
    ⟨(some 13), none, .p (.mv (.t 12))⟩,
    ⟨(some 14), (some (13, false)), .p (.mv (.t 1))⟩,
    ⟨(some 15), (some (13, false)), .p (.bin .gtr (.t 14) (.c (.int .i64 999)))⟩,
    ⟨(some 16), none, .p (.pick (.t 13) (.c (.bool true)) (.t 15))⟩])
  (.cond (.t 16) (.seq (.reg [⟨(some 4), none, .p (.mv (.c .nilSl))⟩,
    ⟨(some 5), none, .p (.mv (.c (.int .i64 2)))⟩])
  .ret) .skip))
  (.seq (.reg [⟨(some 6), none, .p (.mv (.c .nilSl))⟩])
  (.seq (.seq (.reg [⟨(some 7), none, .p (.mv (.c (.int .i64 0)))⟩])
  (.block 0 (.loop (.seq (.seq (.reg [⟨(some 17), none, .p (.mv (.t 7))⟩,
    ⟨(some 18), none, .p (.mv (.t 0))⟩,
    ⟨(some 19), none, .p (.lenA (.t 18))⟩,
    ⟨(some 20), none, .p (.bin .lss (.t 17) (.t 19))⟩])
  (.cond (.t 20) .skip (.exit 0)))
  (.seq (.block 1 (.seq (.seq (.reg [⟨(some 23), none, .p (.mv (.t 0))⟩,
    ⟨(some 24), none, .p (.mv (.t 7))⟩,
    ⟨(some 25), none, .p (.idxA 2 (.t 23) (.t 24))⟩,
    ⟨(some 26), none, .p (.faddr 0 (.t 25))⟩,
    ⟨(some 27), none, .p (.ld1 (.t 26))⟩,
    ⟨(some 28), none, .p (.bin .lss (.t 27) (.c (.int .i64 0)))⟩,
    ⟨(some 29), none, .p (.mv (.t 28))⟩,
    ⟨(some 30), (some (29, false)), .p (.mv (.t 0))⟩,
    ⟨(some 31), (some (29, false)), .p (.mv (.t 7))⟩,
    ⟨(some 32), (some (29, false)), .p (.idxA 2 (.t 30) (.t 31))⟩,
    ⟨(some 33), (some (29, false)), .p (.faddr 0 (.t 32))⟩,
    ⟨(some 34), (some (29, false)), .p (.ld1 (.t 33))⟩,
    ⟨(some 35), (some (29, false)), .p (.bin .gtr (.t 34) (.c (.int .i64 1099511627776)))⟩,
    ⟨(some 36), none, .p (.pick (.t 29) (.c (.bool true)) (.t 35))⟩])
  (.cond (.t 36) (.seq (.reg [⟨(some 4), none, .p (.mv (.c .nilSl))⟩,
    ⟨(some 5), none, .p (.mv (.c (.int .i64 11)))⟩])
  .ret) .skip))
  (.seq (.seq (.reg [⟨(some 37), none, .p (.mv (.t 0))⟩,
    ⟨(some 38), none, .p (.mv (.t 7))⟩,
    ⟨(some 39), none, .p (.idxA 2 (.t 37) (.t 38))⟩,
    ⟨(some 40), none, .p (.faddr 1 (.t 39))⟩,
    ⟨(some 41), none, .p (.ld1 (.t 40))⟩,
    ⟨(some 42), none, .p (.bin .lss (.t 41) (.c (.int .i64 0)))⟩])
  (.cond (.t 42) (.seq (.reg [⟨(some 4), none, .p (.mv (.c .nilSl))⟩,
    ⟨(some 5), none, .p (.mv (.c (.int .i64 2)))⟩])
  .ret) .skip))
  (.reg [⟨(some 43), none, .p (.mv (.t 6))⟩,
    ⟨(some 44), none, .p (.mv (.t 0))⟩,
    ⟨(some 45), none, .p (.mv (.t 7))⟩,
    ⟨(some 46), none, .p (.idxA 2 (.t 44) (.t 45))⟩,
    ⟨(some 47), none, .p (.faddr 1 (.t 46))⟩,
    ⟨(some 48), none, .p (.ld1 (.t 47))⟩,
    ⟨(some 49), none, .p (.bsl 1 [(.int .i64 0)] 1 [(0, (.t 48))])⟩,
    ⟨(some 50), none, .app 3 1 (.t 43) (.t 49)⟩,
    ⟨(some 6), none, .p (.mv (.t 50))⟩]))))
  (.reg [⟨(some 21), none, .p (.mv (.t 7))⟩,
    ⟨(some 22), none, .p (.bin .add (.t 21) (.c (.int .i64 1)))⟩,
    ⟨(some 7), none, .p (.mv (.t 22))⟩]))))))
  (.seq (.reg [⟨(some 8), none, .p (.mv (.c .nilSl))⟩])
  (.seq (.block 2 (.loop (.seq (.seq (.reg [⟨(some 51), none, .p (.mv (.t 8))⟩,
    ⟨(some 52), none, .p (.lenA (.t 51))⟩,
    ⟨(some 53), none, .p (.mv (.t 1))⟩,
    ⟨(some 54), none, .p (.bin .lss (.t 52) (.t 53))⟩])
  (.cond (.t 54) .skip (.exit 2)))
  (.block 3 (.seq (.reg [⟨(some 9), none, .p (.mv (.c (.int .i64 (-1))))⟩])
  (.seq (.seq (.reg [⟨(some 10), none, .p (.mv (.c (.int .i64 0)))⟩])
  (.block 4 (.loop (.seq (.seq (.reg [⟨(some 55), none, .p (.mv (.t 10))⟩,
    ⟨(some 56), none, .p (.mv (.t 0))⟩,
    ⟨(some 57), none, .p (.lenA (.t 56))⟩,
    ⟨(some 58), none, .p (.bin .lss (.t 55) (.t 57))⟩])
  (.cond (.t 58) .skip (.exit 4)))
  (.seq (.block 5 (.seq (.oreg [(.quiet, ⟨(some 61), none, .p (.mv (.t 6))⟩),
    (.quiet, ⟨(some 62), none, .p (.mv (.t 10))⟩),
    (.quiet, ⟨(some 63), none, .p (.idxA 1 (.t 61) (.t 62))⟩),
    (.quiet, ⟨(some 64), none, .p (.ld1 (.t 63))⟩),
    (.quiet, ⟨(some 65), none, .p (.bin .gtr (.t 64) (.c (.int .i64 0)))⟩),
    (.quiet, ⟨(some 66), none, .p (.mv (.t 65))⟩),
    (.quiet, ⟨(some 67), (some (66, true)), .p (.mv (.t 9))⟩),
    (.quiet, ⟨(some 68), (some (66, true)), .p (.bin .lss (.t 67) (.c (.int .i64 0)))⟩),
    (.quiet, ⟨(some 69), (some (66, true)), .p (.mv (.t 68))⟩),
    (.quiet, ⟨(some 70), (some (69, false)), .p (.mv (.t 0))⟩),
    (.quiet, ⟨(some 71), (some (69, false)), .p (.mv (.t 10))⟩),
    (.quiet, ⟨(some 72), (some (69, false)), .p (.idxA 2 (.t 70) (.t 71))⟩),
    (.quiet, ⟨(some 73), (some (69, false)), .p (.faddr 0 (.t 72))⟩),
    (.quiet, ⟨(some 74), (some (69, false)), .p (.ld1 (.t 73))⟩),
    (.quiet, ⟨(some 75), (some (69, false)), .p (.mv (.t 0))⟩),
    (.quiet, ⟨(some 76), (some (69, false)), .p (.mv (.t 9))⟩),
    (.quiet, ⟨(some 77), (some (69, false)), .p (.idxA 2 (.t 75) (.t 76))⟩),
    (.quiet, ⟨(some 78), (some (69, false)), .p (.faddr 0 (.t 77))⟩),
    (.quiet, ⟨(some 79), (some (69, false)), .p (.ld1 (.t 78))⟩),
    (.quiet, ⟨(some 80), (some (69, false)), .p (.bin .gtr (.t 74) (.t 79))⟩),
    (.quiet, ⟨(some 81), (some (66, true)), .p (.pick (.t 69) (.c (.bool true)) (.t 80))⟩),
    (.quiet, ⟨(some 82), none, .p (.pick (.t 66) (.t 81) (.c (.bool false)))⟩)])
  (.cond (.t 82) (.reg [⟨(some 83), none, .p (.mv (.t 10))⟩,
    ⟨(some 9), none, .p (.mv (.t 83))⟩]) .skip)))
  (.reg [⟨(some 59), none, .p (.mv (.t 10))⟩,
    ⟨(some 60), none, .p (.bin .add (.t 59) (.c (.int .i64 1)))⟩,
    ⟨(some 10), none, .p (.mv (.t 60))⟩]))))))
  (.seq (.reg [⟨(some 84), none, .p (.mv (.t 9))⟩,
    ⟨(some 85), none, .p (.bin .lss (.t 84) (.c (.int .i64 0)))⟩])
  (.cond (.t 85) (.reg [⟨(some 86), none, .p (.mv (.t 8))⟩,
    ⟨(some 87), none, .p (.bsl 1 [(.int .i64 0)] 1 [(0, (.c (.int .i64 0)))])⟩,
    ⟨(some 88), none, .app 3 1 (.t 86) (.t 87)⟩,
    ⟨(some 8), none, .p (.mv (.t 88))⟩]) (.seq (.reg [⟨(some 89), none, .p (.mv (.t 6))⟩,
    ⟨(some 90), none, .p (.mv (.t 9))⟩,
    ⟨(some 91), none, .p (.idxA 1 (.t 89) (.t 90))⟩,
    ⟨(some 92), none, .p (.ld1 (.t 91))⟩,
    ⟨(some 93), none, .p (.bin .sub (.t 92) (.c (.int .i64 1)))⟩,
    ⟨(some 94), none, .p (.idxA 1 (.t 89) (.t 90))⟩,
    ⟨none, none, .st 1 (.t 94) (.t 93)⟩])
  (.reg [⟨(some 95), none, .p (.mv (.t 8))⟩,
    ⟨(some 96), none, .p (.mv (.t 0))⟩,
    ⟨(some 97), none, .p (.mv (.t 9))⟩,
    ⟨(some 98), none, .p (.idxA 2 (.t 96) (.t 97))⟩,
    ⟨(some 99), none, .p (.faddr 0 (.t 98))⟩,
    ⟨(some 100), none, .p (.ld1 (.t 99))⟩,
    ⟨(some 101), none, .p (.bsl 1 [(.int .i64 0)] 1 [(0, (.t 100))])⟩,
    ⟨(some 102), none, .app 3 1 (.t 95) (.t 101)⟩,
    ⟨(some 8), none, .p (.mv (.t 102))⟩]))))))))))
  (.seq (.reg [⟨(some 103), none, .p (.mv (.t 8))⟩,
    ⟨(some 4), none, .p (.mv (.t 103))⟩,
    ⟨(some 5), none, .p (.mv (.c (.int .i64 0)))⟩])
  .ret)))))))⟩
theorem c10 : compF Try.prog ⟨fun s => [].contains s, fun r => match r with | 18 => [(0, .quiet), (1, .quiet), (2, .quiet), (3, .quiet), (4, .quiet), (5, .quiet), (6, .quiet), (7, .quiet), (8, .quiet), (9, .quiet), (10, .quiet), (11, .quiet), (12, .quiet), (13, .quiet), (14, .quiet), (15, .quiet), (16, .quiet), (17, .quiet), (18, .quiet), (19, .quiet), (20, .quiet), (21, .quiet)] | _ => []⟩ Try.f10 = some a10 := by kernel_rfl

/- airline/airlinelaw14.same -/
def a11 : AFun := ⟨26, [4], (.seq (.reg [⟨(some 4), none, .p (.mv (.c (.bool false)))⟩])
  (.seq (.seq (.reg [⟨(some 6), none, .p (.mv (.t 0))⟩,
    ⟨(some 7), none, .p (.lenA (.t 6))⟩,
    ⟨(some 8), none, .p (.mv (.t 1))⟩,
    ⟨(some 9), none, .p (.lenA (.t 8))⟩,
    ⟨(some 10), none, .p (.bin .neq (.t 7) (.t 9))⟩])
  (.cond (.t 10) (.seq (.reg [⟨(some 4), none, .p (.mv (.c (.bool false)))⟩])
  .ret) .skip))
  (.seq (.seq (.reg [⟨(some 5), none, .p (.mv (.c (.int .i64 0)))⟩])
  (.block 0 (.loop (.seq (.seq (.reg [⟨(some 11), none, .p (.mv (.t 5))⟩,
    ⟨(some 12), none, .p (.mv (.t 0))⟩,
    ⟨(some 13), none, .p (.lenA (.t 12))⟩,
    ⟨(some 14), none, .p (.bin .lss (.t 11) (.t 13))⟩])
  (.cond (.t 14) .skip (.exit 0)))
  (.seq (.block 1 (.seq (.oreg [(.quiet, ⟨(some 17), none, .p (.mv (.t 0))⟩),
    (.quiet, ⟨(some 18), none, .p (.mv (.t 5))⟩),
    (.quiet, ⟨(some 19), none, .p (.idxA 1 (.t 17) (.t 18))⟩),
    (.quiet, ⟨(some 20), none, .p (.ld1 (.t 19))⟩),
    (.quiet, ⟨(some 21), none, .p (.mv (.t 1))⟩),
    (.quiet, ⟨(some 22), none, .p (.mv (.t 5))⟩),
    (.quiet, ⟨(some 23), none, .p (.idxA 1 (.t 21) (.t 22))⟩),
    (.quiet, ⟨(some 24), none, .p (.ld1 (.t 23))⟩),
    (.quiet, ⟨(some 25), none, .p (.bin .neq (.t 20) (.t 24))⟩)])
  (.cond (.t 25) (.seq (.reg [⟨(some 4), none, .p (.mv (.c (.bool false)))⟩])
  .ret) .skip)))
  (.reg [⟨(some 15), none, .p (.mv (.t 5))⟩,
    ⟨(some 16), none, .p (.bin .add (.t 15) (.c (.int .i64 1)))⟩,
    ⟨(some 5), none, .p (.mv (.t 16))⟩]))))))
  (.seq (.reg [⟨(some 4), none, .p (.mv (.c (.bool true)))⟩])
  .ret))))⟩
theorem c11 : compF Try.prog ⟨fun s => [].contains s, fun r => match r with | 6 => [(0, .quiet), (1, .quiet), (2, .quiet), (3, .quiet), (4, .quiet), (5, .quiet), (6, .quiet), (7, .quiet), (8, .quiet)] | _ => []⟩ Try.f11 = some a11 := by kernel_rfl

/- airline/bid.Right -/
def a12 : AFun := ⟨24, [2], (.seq (.reg [⟨(some 2), none, .p (.mv (.c (.bool false)))⟩])
  (.seq (.seq (.reg [⟨(some 6), none, .p (.mv (.t 0))⟩,
    ⟨(some 7), none, .p (.lenA (.t 6))⟩,
    ⟨(some 8), none, .p (.bin .gtr (.t 7) (.c (.int .i64 999)))⟩])
  (.cond (.t 8) (.seq (.reg [⟨(some 2), none, .p (.mv (.c (.bool false)))⟩])
  .ret) .skip))
  (.seq (.reg [⟨(some 3), none, .p (.mv (.c (.int .i64 1099511627776)))⟩])
  (.seq (.seq (.reg [⟨(some 9), none, .p (.mv (.t 0))⟩,
    ⟨(some 10), none, .p (.lenA (.t 9))⟩,
    ⟨(some 11), none, .p (.mv (.c (.int .i64 0)))⟩])
  (.block 0 (.loop (.seq (.reg [⟨(some 12), none, .p (.bin .lss (.t 11) (.t 10))⟩])
  (.seq (.cond (.t 12) .skip (.exit 0))
  (.seq (.block 1 (.seq (.reg [⟨(some 13), none, .p (.idxA 1 (.t 9) (.t 11))⟩,
    ⟨(some 14), none, .p (.ld1 (.t 13))⟩,
    ⟨(some 5), none, .p (.mv (.t 14))⟩])
  (.seq (.seq (.reg [⟨(some 15), none, .p (.mv (.t 5))⟩,
    ⟨(some 16), none, .p (.bin .lss (.t 15) (.c (.int .i64 0)))⟩,
    ⟨(some 17), none, .p (.mv (.t 16))⟩,
    ⟨(some 18), (some (17, false)), .p (.mv (.t 5))⟩,
    ⟨(some 19), (some (17, false)), .p (.mv (.t 3))⟩,
    ⟨(some 20), (some (17, false)), .p (.bin .gtr (.t 18) (.t 19))⟩,
    ⟨(some 21), none, .p (.pick (.t 17) (.c (.bool true)) (.t 20))⟩])
  (.cond (.t 21) (.seq (.reg [⟨(some 2), none, .p (.mv (.c (.bool false)))⟩])
  .ret) .skip))
  (.reg [⟨(some 22), none, .p (.mv (.t 5))⟩,
    ⟨(some 3), none, .p (.mv (.t 22))⟩]))))
  (.reg [⟨(some 23), none, .p (.bin .add (.t 11) (.c (.int .i64 1)))⟩,
    ⟨(some 11), none, .p (.mv (.t 23))⟩])))))))
  (.seq (.reg [⟨(some 2), none, .p (.mv (.c (.bool true)))⟩])
  .ret)))))⟩
theorem c12 : compF Try.prog ⟨fun s => [].contains s, fun _ => []⟩ Try.f12 = some a12 := by kernel_rfl

/- airline/bid.Price -/
def a13 : AFun := ⟨18, [4], (.seq (.reg [⟨(some 4), none, .p (.mv (.c (.int .i64 0)))⟩])
  (.seq (.block 0 (.seq (.reg [⟨(some 6), none, .p (.mv (.t 1))⟩,
    ⟨(some 7), none, .p (.bin .lss (.t 6) (.c (.int .i64 1)))⟩,
    ⟨(some 5), none, .p (.mv (.t 7))⟩])
  (.cond (.t 5) (.seq (.reg [⟨(some 4), none, .p (.mv (.c (.int .i64 (-1))))⟩])
  .ret) (.seq (.reg [⟨(some 9), none, .p (.mv (.t 1))⟩,
    ⟨(some 10), none, .p (.mv (.t 0))⟩,
    ⟨(some 11), none, .p (.lenA (.t 10))⟩,
    ⟨(some 12), none, .p (.bin .gtr (.t 9) (.t 11))⟩,
    ⟨(some 8), none, .p (.mv (.t 12))⟩])
  (.cond (.t 8) (.seq (.reg [⟨(some 4), none, .p (.mv (.c (.int .i64 0)))⟩])
  .ret) .skip)))))
  (.seq (.reg [⟨(some 13), none, .p (.mv (.t 0))⟩,
    ⟨(some 14), none, .p (.mv (.t 1))⟩,
    ⟨(some 15), none, .p (.bin .sub (.t 14) (.c (.int .i64 1)))⟩,
    ⟨(some 16), none, .p (.idxA 1 (.t 13) (.t 15))⟩,
    ⟨(some 17), none, .p (.ld1 (.t 16))⟩,
    ⟨(some 4), none, .p (.mv (.t 17))⟩])
  .ret)))⟩
theorem c13 : compF Try.prog ⟨fun s => [].contains s, fun _ => []⟩ Try.f13 = some a13 := by kernel_rfl

/- airline/airlineref14.Price -/
def a14 : AFun := ⟨16, [4], (.seq (.reg [⟨(some 4), none, .p (.mv (.c (.int .i64 0)))⟩])
  (.seq (.seq (.reg [⟨(some 5), none, .p (.mv (.t 1))⟩,
    ⟨(some 6), none, .p (.bin .lss (.t 5) (.c (.int .i64 1)))⟩])
  (.cond (.t 6) (.seq (.reg [⟨(some 4), none, .p (.mv (.c (.int .i64 (-1))))⟩])
  .ret) .skip))
  (.seq (.seq (.reg [⟨(some 7), none, .p (.mv (.t 1))⟩,
    ⟨(some 8), none, .p (.mv (.t 0))⟩,
    ⟨(some 9), none, .p (.lenA (.t 8))⟩,
    ⟨(some 10), none, .p (.bin .gtr (.t 7) (.t 9))⟩])
  (.cond (.t 10) (.seq (.reg [⟨(some 4), none, .p (.mv (.c (.int .i64 0)))⟩])
  .ret) .skip))
  (.seq (.reg [⟨(some 11), none, .p (.mv (.t 0))⟩,
    ⟨(some 12), none, .p (.mv (.t 1))⟩,
    ⟨(some 13), none, .p (.bin .sub (.t 12) (.c (.int .i64 1)))⟩,
    ⟨(some 14), none, .p (.idxA 1 (.t 11) (.t 13))⟩,
    ⟨(some 15), none, .p (.ld1 (.t 14))⟩,
    ⟨(some 4), none, .p (.mv (.t 15))⟩])
  .ret))))⟩
theorem c14 : compF Try.prog ⟨fun s => [].contains s, fun _ => []⟩ Try.f14 = some a14 := by kernel_rfl

/- airline/airlineref14.Right -/
def a15 : AFun := ⟨41, [2], (.seq (.reg [⟨(some 2), none, .p (.mv (.c (.bool false)))⟩])
  (.seq (.seq (.reg [⟨(some 3), none, .p (.mv (.c (.int .i64 0)))⟩])
  (.block 0 (.loop (.seq (.seq (.reg [⟨(some 4), none, .p (.mv (.t 3))⟩,
    ⟨(some 5), none, .p (.mv (.t 0))⟩,
    ⟨(some 6), none, .p (.lenA (.t 5))⟩,
    ⟨(some 7), none, .p (.bin .lss (.t 4) (.t 6))⟩])
  (.cond (.t 7) .skip (.exit 0)))
  (.seq (.block 1 (.seq (.oreg [(.quiet, ⟨(some 10), none, .p (.mv (.t 0))⟩),
    (.quiet, ⟨(some 11), none, .p (.mv (.t 3))⟩),
    (.quiet, ⟨(some 12), none, .p (.idxA 1 (.t 10) (.t 11))⟩),
    (.quiet, ⟨(some 13), none, .p (.ld1 (.t 12))⟩),
    (.quiet, ⟨(some 14), none, .p (.bin .lss (.t 13) (.c (.int .i64 0)))⟩),
    (.quiet, ⟨(some 15), none, .p (.mv (.t 14))⟩),
    (.quiet, ⟨(some 16), (some (15, false)), .p (.mv (.t 0))⟩),
    (.quiet, ⟨(some 17), (some (15, false)), .p (.mv (.t 3))⟩),
    (.quiet, ⟨(some 18), (some (15, false)), .p (.idxA 1 (.t 16) (.t 17))⟩),
    (.quiet, ⟨(some 19), (some (15, false)), .p (.ld1 (.t 18))⟩),
    (.quiet, ⟨(some 20), (some (15, false)), .p (.bin .gtr (.t 19) (.c (.int .i64 1099511627776)))⟩),
    (.quiet, ⟨(some 21), none, .p (.pick (.t 15) (.c (.bool true)) (.t 20))⟩),
    (.quiet, ⟨(some 22), none, .p (.mv (.t 21))⟩),
    (.quiet, ⟨(some 23), (some (22, false)), .p (.mv (.t 3))⟩),
    (.quiet, ⟨(some 24), (some (22, false)), .p (.bin .gtr (.t 23) (.c (.int .i64 0)))⟩),
    (.quiet, ⟨(some 25), (some (22, false)), .p (.mv (.t 24))⟩),
    (.quiet, ⟨(some 26), (some (25, true)), .p (.mv (.t 0))⟩),
    (.quiet, ⟨(some 27), (some (25, true)), .p (.mv (.t 3))⟩),
    (.quiet, ⟨(some 28), (some (25, true)), .p (.idxA 1 (.t 26) (.t 27))⟩),
    (.quiet, ⟨(some 29), (some (25, true)), .p (.ld1 (.t 28))⟩),
    (.quiet, ⟨(some 30), (some (25, true)), .p (.mv (.t 0))⟩),
    (.quiet, ⟨(some 31), (some (25, true)), .p (.mv (.t 3))⟩),
    (.quiet, ⟨(some 32), (some (25, true)), .p (.bin .sub (.t 31) (.c (.int .i64 1)))⟩),
    (.quiet, ⟨(some 33), (some (25, true)), .p (.idxA 1 (.t 30) (.t 32))⟩),
    (.quiet, ⟨(some 34), (some (25, true)), .p (.ld1 (.t 33))⟩),
    (.quiet, ⟨(some 35), (some (25, true)), .p (.bin .gtr (.t 29) (.t 34))⟩),
    (.quiet, ⟨(some 36), (some (22, false)), .p (.pick (.t 25) (.t 35) (.c (.bool false)))⟩),
    (.quiet, ⟨(some 37), none, .p (.pick (.t 22) (.c (.bool true)) (.t 36))⟩)])
  (.cond (.t 37) (.seq (.reg [⟨(some 2), none, .p (.mv (.c (.bool false)))⟩])
  .ret) .skip)))
  (.reg [⟨(some 8), none, .p (.mv (.t 3))⟩,
    ⟨(some 9), none, .p (.bin .add (.t 8) (.c (.int .i64 1)))⟩,
    ⟨(some 3), none, .p (.mv (.t 9))⟩]))))))
  (.seq (.reg [⟨(some 38), none, .p (.mv (.t 0))⟩,
    ⟨(some 39), none, .p (.lenA (.t 38))⟩,
    ⟨(some 40), none, .p (.bin .leq (.t 39) (.c (.int .i64 999)))⟩,
    ⟨(some 2), none, .p (.mv (.t 40))⟩])
  .ret)))⟩
theorem c15 : compF Try.prog ⟨fun s => [].contains s, fun r => match r with | 4 => [(0, .quiet), (1, .quiet), (2, .quiet), (3, .quiet), (4, .quiet), (5, .quiet), (6, .quiet), (7, .quiet), (8, .quiet), (9, .quiet), (10, .quiet), (11, .quiet), (12, .quiet), (13, .quiet), (14, .quiet), (15, .quiet), (16, .quiet), (17, .quiet), (18, .quiet), (19, .quiet), (20, .quiet), (21, .quiet), (22, .quiet), (23, .quiet), (24, .quiet), (25, .quiet), (26, .quiet), (27, .quiet)] | _ => []⟩ Try.f15 = some a15 := by kernel_rfl

/- airline/bid.Worth -/
def a16 : AFun := ⟨25, [4], (.seq (.reg [⟨(some 4), none, .p (.mv (.c (.int .i64 0)))⟩])
  (.seq (.reg [⟨(some 5), none, .p (.mv (.c (.int .i64 0)))⟩])
  (.seq (.seq (.reg [⟨(some 8), none, .p (.mv (.t 0))⟩,
    ⟨(some 9), none, .p (.mv (.t 1))⟩,
    ⟨(some 10), none, .p (.minmax false (.t 9) (.c (.int .i64 0)))⟩,
    ⟨(some 11), none, .p (.mv (.t 0))⟩,
    ⟨(some 12), none, .p (.lenA (.t 11))⟩,
    ⟨(some 13), none, .p (.minmax true (.t 10) (.t 12))⟩,
    ⟨(some 14), none, .p (.slA 1 (.t 8) none (some (.t 13)))⟩,
    ⟨(some 15), none, .p (.lenA (.t 14))⟩,
    ⟨(some 16), none, .p (.mv (.c (.int .i64 0)))⟩])
  (.block 0 (.loop (.seq (.reg [⟨(some 17), none, .p (.bin .lss (.t 16) (.t 15))⟩])
  (.seq (.cond (.t 17) .skip (.exit 0))
  (.seq (.block 1 (.seq (.reg [⟨(some 18), none, .p (.idxA 1 (.t 14) (.t 16))⟩,
    ⟨(some 19), none, .p (.ld1 (.t 18))⟩,
    ⟨(some 7), none, .p (.mv (.t 19))⟩])
  (.reg [⟨(some 20), none, .p (.mv (.t 5))⟩,
    ⟨(some 21), none, .p (.mv (.t 7))⟩,
    ⟨(some 22), none, .p (.bin .add (.t 20) (.t 21))⟩,
    ⟨(some 5), none, .p (.mv (.t 22))⟩])))
  (.reg [⟨(some 23), none, .p (.bin .add (.t 16) (.c (.int .i64 1)))⟩,
    ⟨(some 16), none, .p (.mv (.t 23))⟩])))))))
  (.seq (.reg [⟨(some 24), none, .p (.mv (.t 5))⟩,
    ⟨(some 4), none, .p (.mv (.t 24))⟩])
  .ret))))⟩
theorem c16 : compF Try.prog ⟨fun s => [].contains s, fun _ => []⟩ Try.f16 = some a16 := by kernel_rfl

/- airline/airlineref14.Worth -/
def a17 : AFun := ⟨25, [4], (.seq (.reg [⟨(some 4), none, .p (.mv (.c (.int .i64 0)))⟩])
  (.seq (.reg [⟨(some 5), none, .p (.mv (.c (.int .i64 0)))⟩])
  (.seq (.seq (.reg [⟨(some 6), none, .p (.mv (.c (.int .i64 0)))⟩])
  (.block 0 (.loop (.seq (.seq (.reg [⟨(some 7), none, .p (.mv (.t 6))⟩,
    ⟨(some 8), none, .p (.mv (.t 0))⟩,
    ⟨(some 9), none, .p (.lenA (.t 8))⟩,
    ⟨(some 10), none, .p (.bin .lss (.t 7) (.t 9))⟩,
    ⟨(some 11), none, .p (.mv (.t 10))⟩,
    ⟨(some 12), (some (11, true)), .p (.mv (.t 6))⟩,
    ⟨(some 13), (some (11, true)), .p (.mv (.t 1))⟩,
    ⟨(some 14), (some (11, true)), .p (.bin .lss (.t 12) (.t 13))⟩,
    ⟨(some 15), none, .p (.pick (.t 11) (.t 14) (.c (.bool false)))⟩])
  (.cond (.t 15) .skip (.exit 0)))
  (.seq (.block 1 (.reg [⟨(some 18), none, .p (.mv (.t 5))⟩,
    ⟨(some 19), none, .p (.mv (.t 0))⟩,
    ⟨(some 20), none, .p (.mv (.t 6))⟩,
    ⟨(some 21), none, .p (.idxA 1 (.t 19) (.t 20))⟩,
    ⟨(some 22), none, .p (.ld1 (.t 21))⟩,
    ⟨(some 23), none, .p (.bin .add (.t 18) (.t 22))⟩,
    ⟨(some 5), none, .p (.mv (.t 23))⟩]))
  (.reg [⟨(some 16), none, .p (.mv (.t 6))⟩,
    ⟨(some 17), none, .p (.bin .add (.t 16) (.c (.int .i64 1)))⟩,
    ⟨(some 6), none, .p (.mv (.t 17))⟩]))))))
  (.seq (.reg [⟨(some 24), none, .p (.mv (.t 5))⟩,
    ⟨(some 4), none, .p (.mv (.t 24))⟩])
  .ret))))⟩
theorem c17 : compF Try.prog ⟨fun s => [].contains s, fun _ => []⟩ Try.f17 = some a17 := by kernel_rfl

/- airline/airlinelaw14.expected -/
def a18 : AFun := ⟨22, [2], (.seq (.reg [⟨(some 1), none, .p (.boxI (.t 0))⟩,
    ⟨(some 2), none, .p (.mv (.c (.bool false)))⟩])
  (.seq (.seq (.reg [⟨(some 3), none, .p (.mv (.c (.int .i64 0)))⟩])
  (.block 0 (.loop (.seq (.seq (.reg [⟨(some 4), none, .p (.mv (.t 3))⟩,
    ⟨(some 5), none, .p (.faddr 0 (.t 1))⟩,
    ⟨(some 6), none, .p (.ld1 (.t 5))⟩,
    ⟨(some 7), none, .p (.lenA (.t 6))⟩,
    ⟨(some 8), none, .p (.bin .lss (.t 4) (.t 7))⟩])
  (.cond (.t 8) .skip (.exit 0)))
  (.seq (.block 1 (.seq (.reg [⟨(some 11), none, .p (.faddr 0 (.t 1))⟩,
    ⟨(some 12), none, .p (.ld1 (.t 11))⟩,
    ⟨(some 13), none, .p (.mv (.t 3))⟩,
    ⟨(some 14), none, .p (.idxA 1 (.t 12) (.t 13))⟩,
    ⟨(some 15), none, .p (.ld1 (.t 14))⟩,
    ⟨(some 16), none, .call 15 [(.t 15)]⟩,
    ⟨(some 17), none, .p (.not (.t 16))⟩])
  (.cond (.t 17) (.seq (.reg [⟨(some 2), none, .p (.mv (.c (.bool false)))⟩])
  .ret) .skip)))
  (.reg [⟨(some 9), none, .p (.mv (.t 3))⟩,
    ⟨(some 10), none, .p (.bin .add (.t 9) (.c (.int .i64 1)))⟩,
    ⟨(some 3), none, .p (.mv (.t 10))⟩]))))))
  (.seq (.reg [⟨(some 18), none, .p (.faddr 0 (.t 1))⟩,
    ⟨(some 19), none, .p (.ld1 (.t 18))⟩,
    ⟨(some 20), none, .p (.lenA (.t 19))⟩,
    ⟨(some 21), none, .p (.bin .leq (.t 20) (.c (.int .i64 36)))⟩,
    ⟨(some 2), none, .p (.mv (.t 21))⟩])
  .ret)))⟩
theorem c18 : compF Try.prog ⟨fun s => [].contains s, fun _ => []⟩ Try.f18 = some a18 := by kernel_rfl

/- airline/bid.Seats -/
def a19 : AFun := ⟨34, [8], (.seq (.reg [⟨(some 8), none, .p (.mv (.c (.int .i64 0)))⟩])
  (.seq (.seq (.reg [⟨(some 10), none, .p (.mv (.t 0))⟩,
    ⟨(some 11), none, .p (.lenA (.t 10))⟩,
    ⟨(some 12), none, .p (.bin .eql (.t 11) (.c (.int .i64 0)))⟩,
    ⟨(some 13), none, .p (.mv (.t 12))⟩,
    ⟨(some 14), (some (13, false)), .p (.mv (.t 0))⟩,
    ⟨(some 15), (some (13, false)), .p (.lenA (.t 14))⟩,
    ⟨(some 16), (some (13, false)), .p (.mv (.t 1))⟩,
    ⟨(some 17), (some (13, false)), .p (.lenA (.t 16))⟩,
    ⟨(some 18), (some (13, false)), .p (.bin .neq (.t 15) (.t 17))⟩,
    ⟨(some 19), none, .p (.pick (.t 13) (.c (.bool true)) (.t 18))⟩])
  (.cond (.t 19) (.seq (.reg [⟨(some 8), none, .p (.mv (.c (.int .i64 0)))⟩])
  .ret) .skip))
  (.seq (.reg [⟨(some 9), none, .p (.mv (.c (.int .i64 0)))⟩])
  (.seq (.block 0 (.loop (.seq (.seq (.reg [⟨(some 20), none, .p (.mv (.t 9))⟩,
    ⟨(some 21), none, .p (.mv (.t 3))⟩,
    ⟨(some 22), none, .p (.minmax true (.t 21) (.c (.int .i64 999)))⟩,
    ⟨(some 23), none, .p (.bin .lss (.t 20) (.t 22))⟩,
    ⟨(some 24), none, .p (.mv (.t 23))⟩,
    ⟨(some 25), (some (24, true)), .p (.mv (.t 0))⟩,
    ⟨(some 26), (some (24, true)), .p (.mv (.t 1))⟩,
    ⟨(some 27), (some (24, true)), .p (.mv (.t 2))⟩,
    ⟨(some 28), (some (24, true)), .p (.mv (.t 9))⟩,
    ⟨(some 29), (some (24, true)), .call 25 [(.t 25), (.t 26), (.t 27), (.t 28)]⟩,
    ⟨(some 30), none, .p (.pick (.t 24) (.t 29) (.c (.bool false)))⟩])
  (.cond (.t 30) .skip (.exit 0)))
  (.block 1 (.reg [⟨(some 31), none, .p (.mv (.t 9))⟩,
    ⟨(some 32), none, .p (.bin .add (.t 31) (.c (.int .i64 1)))⟩,
    ⟨(some 9), none, .p (.mv (.t 32))⟩])))))
  (.seq (.reg [⟨(some 33), none, .p (.mv (.t 9))⟩,
    ⟨(some 8), none, .p (.mv (.t 33))⟩])
  .ret)))))⟩
theorem c19 : compF Try.prog ⟨fun s => [].contains s, fun _ => []⟩ Try.f19 = some a19 := by kernel_rfl

/- airline/airlineref14.Seats -/
def a20 : AFun := ⟨64, [8], (.seq (.reg [⟨(some 8), none, .p (.mv (.c (.int .i64 0)))⟩])
  (.seq (.seq (.reg [⟨(some 12), none, .p (.mv (.t 0))⟩,
    ⟨(some 13), none, .p (.lenA (.t 12))⟩,
    ⟨(some 14), none, .p (.mv (.t 1))⟩,
    ⟨(some 15), none, .p (.lenA (.t 14))⟩,
    ⟨(some 16), none, .p (.bin .neq (.t 13) (.t 15))⟩,
    ⟨(some 17), none, .p (.mv (.t 16))⟩,
    ⟨(some 18), (some (17, false)), .p (.mv (.t 1))⟩,
    ⟨(some 19), (some (17, false)), .p (.lenA (.t 18))⟩,
    ⟨(some 20), (some (17, false)), .p (.bin .eql (.t 19) (.c (.int .i64 0)))⟩,
    ⟨(some 21), none, .p (.pick (.t 17) (.c (.bool true)) (.t 20))⟩])
  (.cond (.t 21) (.seq (.reg [⟨(some 8), none, .p (.mv (.c (.int .i64 0)))⟩])
  .ret) .skip))
  (.seq (.seq (.reg [⟨(some 9), none, .p (.mv (.c (.int .i64 0)))⟩])
  (.block 0 (.loop (.seq (.seq (.reg [⟨(some 22), none, .p (.mv (.t 9))⟩,
    ⟨(some 23), none, .p (.mv (.t 3))⟩,
    ⟨(some 24), none, .p (.bin .lss (.t 22) (.t 23))⟩,
    ⟨(some 25), none, .p (.mv (.t 24))⟩,
    ⟨(some 26), (some (25, true)), .p (.mv (.t 9))⟩,
    ⟨(some 27), (some (25, true)), .p (.bin .lss (.t 26) (.c (.int .i64 999)))⟩,
    ⟨(some 28), none, .p (.pick (.t 25) (.t 27) (.c (.bool false)))⟩])
  (.cond (.t 28) .skip (.exit 0)))
  (.seq (.block 1 (.seq (.reg [⟨(some 10), none, .p (.mv (.c (.int .i64 0)))⟩])
  (.seq (.seq (.reg [⟨(some 11), none, .p (.mv (.c (.int .i64 0)))⟩])
  (.block 2 (.loop (.seq (.seq (.reg [⟨(some 31), none, .p (.mv (.t 11))⟩,
    ⟨(some 32), none, .p (.mv (.t 1))⟩,
    ⟨(some 33), none, .p (.lenA (.t 32))⟩,
    ⟨(some 34), none, .p (.bin .lss (.t 31) (.t 33))⟩])
  (.cond (.t 34) .skip (.exit 2)))
  (.seq (.block 3 (.seq (.seq (.reg [⟨(some 37), none, .p (.mv (.t 1))⟩,
    ⟨(some 38), none, .p (.mv (.t 11))⟩,
    ⟨(some 39), none, .p (.idxA 1 (.t 37) (.t 38))⟩,
    ⟨(some 40), none, .p (.ld1 (.t 39))⟩,
    ⟨(some 41), none, .p (.mv (.t 9))⟩,
    ⟨(some 42), none, .p (.bin .leq (.t 40) (.t 41))⟩])
  (.cond (.t 42) (.seq (.reg [⟨(some 43), none, .p (.mv (.t 9))⟩,
    ⟨(some 8), none, .p (.mv (.t 43))⟩])
  .ret) .skip))
  (.oreg [(.stable, ⟨(some 44), none, .p (.mv (.t 10))⟩),
    (.quiet, ⟨(some 45), none, .p (.mv (.t 0))⟩),
    (.quiet, ⟨(some 46), none, .p (.mv (.t 11))⟩),
    (.quiet, ⟨(some 47), none, .p (.idxA 1 (.t 45) (.t 46))⟩),
    (.quiet, ⟨(some 48), none, .p (.ld1 (.t 47))⟩),
    (.quiet, ⟨(some 49), none, .p (.mv (.t 1))⟩),
    (.quiet, ⟨(some 50), none, .p (.mv (.t 11))⟩),
    (.quiet, ⟨(some 51), none, .p (.idxA 1 (.t 49) (.t 50))⟩),
    (.quiet, ⟨(some 52), none, .p (.ld1 (.t 51))⟩),
    (.quiet, ⟨(some 53), none, .p (.mv (.t 9))⟩),
    (.quiet, ⟨(some 54), none, .p (.bin .sub (.t 52) (.t 53))⟩),
    (.loud, ⟨(some 55), none, .call 14 [(.t 48), (.t 54)]⟩),
    (.quiet, ⟨(some 56), none, .p (.bin .add (.t 44) (.t 55))⟩),
    (.quiet, ⟨(some 10), none, .p (.mv (.t 56))⟩)])))
  (.reg [⟨(some 35), none, .p (.mv (.t 11))⟩,
    ⟨(some 36), none, .p (.bin .add (.t 35) (.c (.int .i64 1)))⟩,
    ⟨(some 11), none, .p (.mv (.t 36))⟩]))))))
  (.seq (.reg [⟨(some 57), none, .p (.mv (.t 10))⟩,
    ⟨(some 58), none, .p (.mv (.t 2))⟩,
    ⟨(some 59), none, .p (.bin .gtr (.t 57) (.t 58))⟩])
  (.cond (.t 59) (.seq (.reg [⟨(some 60), none, .p (.mv (.t 9))⟩,
    ⟨(some 8), none, .p (.mv (.t 60))⟩])
  .ret) .skip)))))
  (.reg [⟨(some 29), none, .p (.mv (.t 9))⟩,
    ⟨(some 30), none, .p (.bin .add (.t 29) (.c (.int .i64 1)))⟩,
    ⟨(some 9), none, .p (.mv (.t 30))⟩]))))))
  (.seq (.reg [⟨(some 61), none, .p (.mv (.t 3))⟩,
    ⟨(some 62), none, .p (.minmax true (.t 61) (.c (.int .i64 999)))⟩,
    ⟨(some 63), none, .p (.minmax false (.c (.int .i64 0)) (.t 62))⟩,
    ⟨(some 8), none, .p (.mv (.t 63))⟩])
  .ret))))⟩
theorem c20 : compF Try.prog ⟨fun s => [].contains s, fun r => match r with | 12 => [(0, .stable), (1, .quiet), (2, .quiet), (3, .quiet), (4, .quiet), (5, .quiet), (6, .quiet), (7, .quiet), (8, .quiet), (9, .quiet), (10, .quiet), (11, .loud), (12, .quiet), (13, .quiet)] | _ => []⟩ Try.f20 = some a20 := by kernel_rfl

/- slices.Clone[[]airline/api.Demand,airline/api.Demand] -/
def a21 : AFun := ⟨8, [2], (.seq (.reg [⟨(some 2), none, .p (.mv (.c .nilSl))⟩])
  (.seq (.seq (.reg [⟨(some 3), none, .p (.mv (.t 0))⟩,
    ⟨(some 4), none, .nilD false (.t 3)⟩])
  (.cond (.t 4) (.seq (.reg [⟨(some 2), none, .p (.mv (.c .nilSl))⟩])
  .ret) .skip))
  (.seq (.reg [⟨(some 5), none, .bslO 40 2 [(.int .i64 0), (.int .i64 0)] 0 []⟩,
    ⟨(some 6), none, .p (.mv (.t 0))⟩,
    ⟨(some 7), none, .app 40 2 (.t 5) (.t 6)⟩,
    ⟨(some 2), none, .p (.mv (.t 7))⟩])
  .ret)))⟩
theorem c21 : compF Try.prog ⟨fun s => [4, 5].contains s, fun _ => []⟩ Try.f21 = some a21 := by kernel_rfl

/- slices.SortStableFunc[[]airline/api.Demand,airline/api.Demand] -/
def a22 : AFun := ⟨9, [], (.reg [⟨(some 4), none, .p (.mv (.t 0))⟩,
    ⟨(some 5), none, .p (.mv (.t 0))⟩,
    ⟨(some 6), none, .p (.lenA (.t 5))⟩,
    ⟨(some 7), none, .p (.mv (.t 1))⟩,
    ⟨(some 8), none, .call 26 [(.t 4), (.t 6), (.t 7)]⟩])⟩
theorem c22 : compF Try.prog ⟨fun s => [].contains s, fun _ => []⟩ Try.f22 = some a22 := by kernel_rfl

/- airline/bid.Curve$1 -/
def a23 : AFun := ⟨10, [4], (.seq (.reg [⟨(some 2), none, .p (.boxI (.t 0))⟩,
    ⟨(some 3), none, .p (.boxI (.t 1))⟩,
    ⟨(some 4), none, .p (.mv (.c (.int .i64 0)))⟩])
  (.seq (.reg [⟨(some 5), none, .p (.faddr 0 (.t 3))⟩,
    ⟨(some 6), none, .p (.ld1 (.t 5))⟩,
    ⟨(some 7), none, .p (.faddr 0 (.t 2))⟩,
    ⟨(some 8), none, .p (.ld1 (.t 7))⟩,
    ⟨(some 9), none, .call 24 [(.t 6), (.t 8)]⟩,
    ⟨(some 4), none, .p (.mv (.t 9))⟩])
  .ret))⟩
theorem c23 : compF Try.prog ⟨fun s => [].contains s, fun _ => []⟩ Try.f23 = some a23 := by kernel_rfl

/- cmp.Compare[int] -/
def a24 : AFun := ⟨20, [4], (.seq (.reg [⟨(some 4), none, .p (.mv (.c (.int .i64 0)))⟩])
  (.seq (.reg [⟨(some 7), none, .p (.mv (.t 0))⟩,
    ⟨(some 8), none, .call 27 [(.t 7)]⟩,
    ⟨(some 5), none, .p (.mv (.t 8))⟩])
  (.seq (.reg [⟨(some 9), none, .p (.mv (.t 1))⟩,
    ⟨(some 10), none, .call 27 [(.t 9)]⟩,
    ⟨(some 6), none, .p (.mv (.t 10))⟩])
  (.seq (.seq (.reg [⟨(some 11), none, .p (.mv (.t 5))⟩])
  (.cond (.t 11) (.seq (.seq (.reg [⟨(some 12), none, .p (.mv (.t 6))⟩])
  (.cond (.t 12) (.seq (.reg [⟨(some 4), none, .p (.mv (.c (.int .i64 0)))⟩])
  .ret) .skip))
  (.seq (.reg [⟨(some 4), none, .p (.mv (.c (.int .i64 (-1))))⟩])
  .ret)) .skip))
  (.seq (.seq (.reg [⟨(some 13), none, .p (.mv (.t 6))⟩])
  (.cond (.t 13) (.seq (.reg [⟨(some 4), none, .p (.mv (.c (.int .i64 1)))⟩])
  .ret) .skip))
  (.seq (.seq (.reg [⟨(some 14), none, .p (.mv (.t 0))⟩,
    ⟨(some 15), none, .p (.mv (.t 1))⟩,
    ⟨(some 16), none, .p (.bin .lss (.t 14) (.t 15))⟩])
  (.cond (.t 16) (.seq (.reg [⟨(some 4), none, .p (.mv (.c (.int .i64 (-1))))⟩])
  .ret) .skip))
  (.seq (.seq (.reg [⟨(some 17), none, .p (.mv (.t 0))⟩,
    ⟨(some 18), none, .p (.mv (.t 1))⟩,
    ⟨(some 19), none, .p (.bin .gtr (.t 17) (.t 18))⟩])
  (.cond (.t 19) (.seq (.reg [⟨(some 4), none, .p (.mv (.c (.int .i64 1)))⟩])
  .ret) .skip))
  (.seq (.reg [⟨(some 4), none, .p (.mv (.c (.int .i64 0)))⟩])
  .ret))))))))⟩
theorem c24 : compF Try.prog ⟨fun s => [].contains s, fun _ => []⟩ Try.f24 = some a24 := by kernel_rfl

/- airline/bid.accepted -/
def a25 : AFun := ⟨39, [8], (.seq (.reg [⟨(some 8), none, .p (.mv (.c (.bool false)))⟩])
  (.seq (.reg [⟨(some 9), none, .p (.mv (.c (.int .i64 0)))⟩])
  (.seq (.seq (.reg [⟨(some 12), none, .p (.mv (.t 0))⟩,
    ⟨(some 13), none, .p (.lenA (.t 12))⟩,
    ⟨(some 14), none, .p (.mv (.c (.int .i64 0)))⟩])
  (.block 0 (.loop (.seq (.reg [⟨(some 15), none, .p (.bin .lss (.t 14) (.t 13))⟩])
  (.seq (.cond (.t 15) .skip (.exit 0))
  (.seq (.block 1 (.seq (.reg [⟨(some 16), none, .p (.mv (.t 14))⟩,
    ⟨(some 17), none, .p (.idxA 1 (.t 12) (.t 14))⟩,
    ⟨(some 18), none, .p (.ld1 (.t 17))⟩,
    ⟨(some 10), none, .p (.mv (.t 16))⟩,
    ⟨(some 11), none, .p (.mv (.t 18))⟩])
  (.seq (.seq (.reg [⟨(some 19), none, .p (.mv (.t 1))⟩,
    ⟨(some 20), none, .p (.mv (.t 10))⟩,
    ⟨(some 21), none, .p (.idxA 1 (.t 19) (.t 20))⟩,
    ⟨(some 22), none, .p (.ld1 (.t 21))⟩,
    ⟨(some 23), none, .p (.mv (.t 3))⟩,
    ⟨(some 24), none, .p (.bin .leq (.t 22) (.t 23))⟩])
  (.cond (.t 24) (.seq (.reg [⟨(some 8), none, .p (.mv (.c (.bool false)))⟩])
  .ret) .skip))
  (.reg [⟨(some 25), none, .p (.mv (.t 9))⟩,
    ⟨(some 26), none, .p (.mv (.t 11))⟩,
    ⟨(some 27), none, .p (.mv (.t 1))⟩,
    ⟨(some 28), none, .p (.mv (.t 10))⟩,
    ⟨(some 29), none, .p (.idxA 1 (.t 27) (.t 28))⟩,
    ⟨(some 30), none, .p (.ld1 (.t 29))⟩,
    ⟨(some 31), none, .p (.mv (.t 3))⟩,
    ⟨(some 32), none, .p (.bin .sub (.t 30) (.t 31))⟩,
    ⟨(some 33), none, .call 13 [(.t 26), (.t 32)]⟩,
    ⟨(some 34), none, .p (.bin .add (.t 25) (.t 33))⟩,
    ⟨(some 9), none, .p (.mv (.t 34))⟩]))))
  (.reg [⟨(some 35), none, .p (.bin .add (.t 14) (.c (.int .i64 1)))⟩,
    ⟨(some 14), none, .p (.mv (.t 35))⟩])))))))
  (.seq (.reg [⟨(some 36), none, .p (.mv (.t 9))⟩,
    ⟨(some 37), none, .p (.mv (.t 2))⟩,
    ⟨(some 38), none, .p (.bin .leq (.t 36) (.t 37))⟩,
    ⟨(some 8), none, .p (.mv (.t 38))⟩])
  .ret))))⟩
theorem c25 : compF Try.prog ⟨fun s => [].contains s, fun _ => []⟩ Try.f25 = some a25 := by kernel_rfl

/- slices.stableCmpFunc[airline/api.Demand] -/
def a26 : AFun := ⟨63, [], (.seq (.reg [⟨(some 6), none, .p (.mv (.c (.int .i64 20)))⟩])
  (.seq (.reg [⟨(some 10), none, .p (.mv (.t 6))⟩,
    ⟨(some 7), none, .p (.mv (.c (.int .i64 0)))⟩,
    ⟨(some 8), none, .p (.mv (.t 10))⟩])
  (.seq (.block 0 (.loop (.seq (.seq (.reg [⟨(some 11), none, .p (.mv (.t 8))⟩,
    ⟨(some 12), none, .p (.mv (.t 1))⟩,
    ⟨(some 13), none, .p (.bin .leq (.t 11) (.t 12))⟩])
  (.cond (.t 13) .skip (.exit 0)))
  (.block 1 (.seq (.reg [⟨(some 14), none, .p (.mv (.t 0))⟩,
    ⟨(some 15), none, .p (.mv (.t 7))⟩,
    ⟨(some 16), none, .p (.mv (.t 8))⟩,
    ⟨(some 17), none, .p (.mv (.t 2))⟩,
    ⟨(some 18), none, .call 28 [(.t 14), (.t 15), (.t 16), (.t 17)]⟩])
  (.seq (.reg [⟨(some 19), none, .p (.mv (.t 8))⟩,
    ⟨(some 7), none, .p (.mv (.t 19))⟩])
  (.reg [⟨(some 20), none, .p (.mv (.t 8))⟩,
    ⟨(some 21), none, .p (.mv (.t 6))⟩,
    ⟨(some 22), none, .p (.bin .add (.t 20) (.t 21))⟩,
    ⟨(some 8), none, .p (.mv (.t 22))⟩])))))))
  (.seq (.reg [⟨(some 23), none, .p (.mv (.t 0))⟩,
    ⟨(some 24), none, .p (.mv (.t 7))⟩,
    ⟨(some 25), none, .p (.mv (.t 1))⟩,
    ⟨(some 26), none, .p (.mv (.t 2))⟩,
    ⟨(some 27), none, .call 28 [(.t 23), (.t 24), (.t 25), (.t 26)]⟩])
  (.block 2 (.loop (.seq (.seq (.reg [⟨(some 28), none, .p (.mv (.t 6))⟩,
    ⟨(some 29), none, .p (.mv (.t 1))⟩,
    ⟨(some 30), none, .p (.bin .lss (.t 28) (.t 29))⟩])
  (.cond (.t 30) .skip (.exit 2)))
  (.block 3 (.seq (.reg [⟨(some 31), none, .p (.mv (.t 6))⟩,
    ⟨(some 32), none, .p (.bin .mul (.c (.int .i64 2)) (.t 31))⟩,
    ⟨(some 7), none, .p (.mv (.c (.int .i64 0)))⟩,
    ⟨(some 8), none, .p (.mv (.t 32))⟩])
  (.seq (.block 4 (.loop (.seq (.seq (.reg [⟨(some 33), none, .p (.mv (.t 8))⟩,
    ⟨(some 34), none, .p (.mv (.t 1))⟩,
    ⟨(some 35), none, .p (.bin .leq (.t 33) (.t 34))⟩])
  (.cond (.t 35) .skip (.exit 4)))
  (.block 5 (.seq (.reg [⟨(some 36), none, .p (.mv (.t 0))⟩,
    ⟨(some 37), none, .p (.mv (.t 7))⟩,
    ⟨(some 38), none, .p (.mv (.t 7))⟩,
    ⟨(some 39), none, .p (.mv (.t 6))⟩,
    ⟨(some 40), none, .p (.bin .add (.t 38) (.t 39))⟩,
    ⟨(some 41), none, .p (.mv (.t 8))⟩,
    ⟨(some 42), none, .p (.mv (.t 2))⟩,
    ⟨(some 43), none, .call 29 [(.t 36), (.t 37), (.t 40), (.t 41), (.t 42)]⟩])
  (.seq (.reg [⟨(some 44), none, .p (.mv (.t 8))⟩,
    ⟨(some 7), none, .p (.mv (.t 44))⟩])
  (.reg [⟨(some 45), none, .p (.mv (.t 8))⟩,
    ⟨(some 46), none, .p (.mv (.t 6))⟩,
    ⟨(some 47), none, .p (.bin .mul (.c (.int .i64 2)) (.t 46))⟩,
    ⟨(some 48), none, .p (.bin .add (.t 45) (.t 47))⟩,
    ⟨(some 8), none, .p (.mv (.t 48))⟩])))))))
  (.seq (.seq (.reg [⟨(some 49), none, .p (.mv (.t 7))⟩,
    ⟨(some 50), none, .p (.mv (.t 6))⟩,
    ⟨(some 51), none, .p (.bin .add (.t 49) (.t 50))⟩,
    ⟨(some 9), none, .p (.mv (.t 51))⟩])
  (.seq (.reg [⟨(some 52), none, .p (.mv (.t 9))⟩,
    ⟨(some 53), none, .p (.mv (.t 1))⟩,
    ⟨(some 54), none, .p (.bin .lss (.t 52) (.t 53))⟩])
  (.cond (.t 54) (.reg [⟨(some 55), none, .p (.mv (.t 0))⟩,
    ⟨(some 56), none, .p (.mv (.t 7))⟩,
    ⟨(some 57), none, .p (.mv (.t 9))⟩,
    ⟨(some 58), none, .p (.mv (.t 1))⟩,
    ⟨(some 59), none, .p (.mv (.t 2))⟩,
    ⟨(some 60), none, .call 29 [(.t 55), (.t 56), (.t 57), (.t 58), (.t 59)]⟩]) .skip)))
  (.reg [⟨(some 61), none, .p (.mv (.t 6))⟩,
    ⟨(some 62), none, .p (.bin .mul (.t 61) (.c (.int .i64 2)))⟩,
    ⟨(some 6), none, .p (.mv (.t 62))⟩]))))))))))))⟩
theorem c26 : compF Try.prog ⟨fun s => [].contains s, fun _ => []⟩ Try.f26 = some a26 := by kernel_rfl

/- cmp.isNaN[int] -/
def a27 : AFun := ⟨6, [2], (.seq (.reg [⟨(some 2), none, .p (.mv (.c (.bool false)))⟩])
  (.seq (.reg [⟨(some 3), none, .p (.mv (.t 0))⟩,
    ⟨(some 4), none, .p (.mv (.t 0))⟩,
    ⟨(some 5), none, .p (.bin .neq (.t 3) (.t 4))⟩,
    ⟨(some 2), none, .p (.mv (.t 5))⟩])
  .ret))⟩
theorem c27 : compF Try.prog ⟨fun s => [].contains s, fun _ => []⟩ Try.f27 = some a27 := by kernel_rfl

/- slices.insertionSortCmpFunc[airline/api.Demand] -/
def a28 : AFun := ⟨53, [], (.seq (.reg [⟨(some 10), none, .p (.mv (.t 1))⟩,
    ⟨(some 11), none, .p (.bin .add (.t 10) (.c (.int .i64 1)))⟩,
    ⟨(some 8), none, .p (.mv (.t 11))⟩])
  (.block 0 (.loop (.seq (.seq (.reg [⟨(some 12), none, .p (.mv (.t 8))⟩,
    ⟨(some 13), none, .p (.mv (.t 2))⟩,
    ⟨(some 14), none, .p (.bin .lss (.t 12) (.t 13))⟩])
  (.cond (.t 14) .skip (.exit 0)))
  (.seq (.block 1 (.seq (.reg [⟨(some 17), none, .p (.mv (.t 8))⟩,
    ⟨(some 9), none, .p (.mv (.t 17))⟩])
  (.block 2 (.loop (.seq (.seq (.oreg [(.quiet, ⟨(some 18), none, .p (.mv (.t 9))⟩),
    (.quiet, ⟨(some 19), none, .p (.mv (.t 1))⟩),
    (.quiet, ⟨(some 20), none, .p (.bin .gtr (.t 18) (.t 19))⟩),
    (.quiet, ⟨(some 21), none, .p (.mv (.t 20))⟩),
    (.quiet, ⟨(some 22), (some (21, true)), .p (.mv (.t 3))⟩),
    (.quiet, ⟨(some 23), (some (21, true)), .p (.mv (.t 0))⟩),
    (.quiet, ⟨(some 24), (some (21, true)), .p (.mv (.t 9))⟩),
    (.quiet, ⟨(some 25), (some (21, true)), .p (.idxA 2 (.t 23) (.t 24))⟩),
    (.quiet, ⟨(some 26), (some (21, true)), .p (.ldn 2 (.t 25))⟩),
    (.quiet, ⟨(some 27), (some (21, true)), .p (.mv (.t 0))⟩),
    (.quiet, ⟨(some 28), (some (21, true)), .p (.mv (.t 9))⟩),
    (.quiet, ⟨(some 29), (some (21, true)), .p (.bin .sub (.t 28) (.c (.int .i64 1)))⟩),
    (.quiet, ⟨(some 30), (some (21, true)), .p (.idxA 2 (.t 27) (.t 29))⟩),
    (.quiet, ⟨(some 31), (some (21, true)), .p (.ldn 2 (.t 30))⟩),
    (.loud, ⟨(some 32), (some (21, true)), .callv (.t 22) [(.t 26), (.t 31)]⟩),
    (.quiet, ⟨(some 33), (some (21, true)), .p (.bin .lss (.t 32) (.c (.int .i64 0)))⟩),
    (.quiet, ⟨(some 34), none, .p (.pick (.t 21) (.t 33) (.c (.bool false)))⟩)])
  (.cond (.t 34) .skip (.exit 2)))
  (.seq (.block 3 (.oreg [(.quiet, ⟨(some 37), none, .p (.mv (.t 0))⟩),
    (.quiet, ⟨(some 38), none, .p (.mv (.t 9))⟩),
    (.stable, ⟨(some 39), none, .p (.mv (.t 0))⟩),
    (.stable, ⟨(some 40), none, .p (.mv (.t 9))⟩),
    (.stable, ⟨(some 41), none, .p (.bin .sub (.t 40) (.c (.int .i64 1)))⟩),
    (.quiet, ⟨(some 42), none, .p (.mv (.t 0))⟩),
    (.quiet, ⟨(some 43), none, .p (.mv (.t 9))⟩),
    (.quiet, ⟨(some 44), none, .p (.bin .sub (.t 43) (.c (.int .i64 1)))⟩),
    (.quiet, ⟨(some 45), none, .p (.idxA 2 (.t 42) (.t 44))⟩),
    (.quiet, ⟨(some 46), none, .p (.ldn 2 (.t 45))⟩),
    (.quiet, ⟨(some 47), none, .p (.mv (.t 0))⟩),
    (.quiet, ⟨(some 48), none, .p (.mv (.t 9))⟩),
    (.quiet, ⟨(some 49), none, .p (.idxA 2 (.t 47) (.t 48))⟩),
    (.quiet, ⟨(some 50), none, .p (.ldn 2 (.t 49))⟩),
    (.quiet, ⟨(some 51), none, .p (.idxA 2 (.t 37) (.t 38))⟩),
    (.loud, ⟨none, none, .st 2 (.t 51) (.t 46)⟩),
    (.quiet, ⟨(some 52), none, .p (.idxA 2 (.t 39) (.t 41))⟩),
    (.loud, ⟨none, none, .st 2 (.t 52) (.t 50)⟩)]))
  (.reg [⟨(some 35), none, .p (.mv (.t 9))⟩,
    ⟨(some 36), none, .p (.bin .sub (.t 35) (.c (.int .i64 1)))⟩,
    ⟨(some 9), none, .p (.mv (.t 36))⟩])))))))
  (.reg [⟨(some 15), none, .p (.mv (.t 8))⟩,
    ⟨(some 16), none, .p (.bin .add (.t 15) (.c (.int .i64 1)))⟩,
    ⟨(some 8), none, .p (.mv (.t 16))⟩]))))))⟩
theorem c28 : compF Try.prog ⟨fun s => [].contains s, fun r => match r with | 4 => [(0, .quiet), (1, .quiet), (2, .quiet), (3, .quiet), (4, .quiet), (5, .quiet), (6, .quiet), (7, .quiet), (8, .quiet), (9, .quiet), (10, .quiet), (11, .quiet), (12, .quiet), (13, .quiet), (14, .loud), (15, .quiet), (16, .quiet)]  | 6 => [(0, .quiet), (1, .quiet), (2, .stable), (3, .stable), (4, .stable), (5, .quiet), (6, .quiet), (7, .quiet), (8, .quiet), (9, .quiet), (10, .quiet), (11, .quiet), (12, .quiet), (13, .quiet), (14, .quiet), (15, .loud), (16, .quiet), (17, .loud)] | _ => []⟩ Try.f28 = some a28 := by kernel_rfl

/- slices.symMergeCmpFunc[airline/api.Demand] -/
def a29 : AFun := ⟨220, [], (.seq (.seq (.reg [⟨(some 25), none, .p (.mv (.t 2))⟩,
    ⟨(some 26), none, .p (.mv (.t 1))⟩,
    ⟨(some 27), none, .p (.bin .sub (.t 25) (.t 26))⟩,
    ⟨(some 28), none, .p (.bin .eql (.t 27) (.c (.int .i64 1)))⟩])
  (.cond (.t 28) (.seq (.reg [⟨(some 29), none, .p (.mv (.t 2))⟩,
    ⟨(some 10), none, .p (.mv (.t 29))⟩])
  (.seq (.reg [⟨(some 30), none, .p (.mv (.t 3))⟩,
    ⟨(some 11), none, .p (.mv (.t 30))⟩])
  (.seq (.block 0 (.loop (.seq (.seq (.reg [⟨(some 31), none, .p (.mv (.t 10))⟩,
    ⟨(some 32), none, .p (.mv (.t 11))⟩,
    ⟨(some 33), none, .p (.bin .lss (.t 31) (.t 32))⟩])
  (.cond (.t 33) .skip (.exit 0)))
  (.block 1 (.seq (.reg [⟨(some 34), none, .p (.mv (.t 10))⟩,
    ⟨(some 35), none, .p (.mv (.t 11))⟩,
    ⟨(some 36), none, .p (.bin .add (.t 34) (.t 35))⟩,
    ⟨(some 37), none, .p (.conv .u64 (.t 36))⟩,
    ⟨(some 38), none, .p (.bin .shr (.t 37) (.c (.int .u64 1)))⟩,
    ⟨(some 39), none, .p (.conv .i64 (.t 38))⟩,
    ⟨(some 12), none, .p (.mv (.t 39))⟩])
  (.seq (.oreg [(.quiet, ⟨(some 40), none, .p (.mv (.t 4))⟩),
    (.quiet, ⟨(some 41), none, .p (.mv (.t 0))⟩),
    (.quiet, ⟨(some 42), none, .p (.mv (.t 12))⟩),
    (.quiet, ⟨(some 43), none, .p (.idxA 2 (.t 41) (.t 42))⟩),
    (.quiet, ⟨(some 44), none, .p (.ldn 2 (.t 43))⟩),
    (.quiet, ⟨(some 45), none, .p (.mv (.t 0))⟩),
    (.quiet, ⟨(some 46), none, .p (.mv (.t 1))⟩),
    (.quiet, ⟨(some 47), none, .p (.idxA 2 (.t 45) (.t 46))⟩),
    (.quiet, ⟨(some 48), none, .p (.ldn 2 (.t 47))⟩),
    (.loud, ⟨(some 49), none, .callv (.t 40) [(.t 44), (.t 48)]⟩),
    (.quiet, ⟨(some 50), none, .p (.bin .lss (.t 49) (.c (.int .i64 0)))⟩)])
  (.cond (.t 50) (.reg [⟨(some 51), none, .p (.mv (.t 12))⟩,
    ⟨(some 52), none, .p (.bin .add (.t 51) (.c (.int .i64 1)))⟩,
    ⟨(some 10), none, .p (.mv (.t 52))⟩]) (.reg [⟨(some 53), none, .p (.mv (.t 12))⟩,
    ⟨(some 11), none, .p (.mv (.t 53))⟩]))))))))
  (.seq (.seq (.reg [⟨(some 54), none, .p (.mv (.t 1))⟩,
    ⟨(some 13), none, .p (.mv (.t 54))⟩])
  (.block 2 (.loop (.seq (.seq (.reg [⟨(some 55), none, .p (.mv (.t 13))⟩,
    ⟨(some 56), none, .p (.mv (.t 10))⟩,
    ⟨(some 57), none, .p (.bin .sub (.t 56) (.c (.int .i64 1)))⟩,
    ⟨(some 58), none, .p (.bin .lss (.t 55) (.t 57))⟩])
  (.cond (.t 58) .skip (.exit 2)))
  (.seq (.block 3 (.oreg [(.quiet, ⟨(some 61), none, .p (.mv (.t 0))⟩),
    (.quiet, ⟨(some 62), none, .p (.mv (.t 13))⟩),
    (.stable, ⟨(some 63), none, .p (.mv (.t 0))⟩),
    (.stable, ⟨(some 64), none, .p (.mv (.t 13))⟩),
    (.stable, ⟨(some 65), none, .p (.bin .add (.t 64) (.c (.int .i64 1)))⟩),
    (.quiet, ⟨(some 66), none, .p (.mv (.t 0))⟩),
    (.quiet, ⟨(some 67), none, .p (.mv (.t 13))⟩),
    (.quiet, ⟨(some 68), none, .p (.bin .add (.t 67) (.c (.int .i64 1)))⟩),
    (.quiet, ⟨(some 69), none, .p (.idxA 2 (.t 66) (.t 68))⟩),
    (.quiet, ⟨(some 70), none, .p (.ldn 2 (.t 69))⟩),
    (.quiet, ⟨(some 71), none, .p (.mv (.t 0))⟩),
    (.quiet, ⟨(some 72), none, .p (.mv (.t 13))⟩),
    (.quiet, ⟨(some 73), none, .p (.idxA 2 (.t 71) (.t 72))⟩),
    (.quiet, ⟨(some 74), none, .p (.ldn 2 (.t 73))⟩),
    (.quiet, ⟨(some 75), none, .p (.idxA 2 (.t 61) (.t 62))⟩),
    (.loud, ⟨none, none, .st 2 (.t 75) (.t 70)⟩),
    (.quiet, ⟨(some 76), none, .p (.idxA 2 (.t 63) (.t 65))⟩),
    (.loud, ⟨none, none, .st 2 (.t 76) (.t 74)⟩)]))
  (.reg [⟨(some 59), none, .p (.mv (.t 13))⟩,
    ⟨(some 60), none, .p (.bin .add (.t 59) (.c (.int .i64 1)))⟩,
    ⟨(some 13), none, .p (.mv (.t 60))⟩]))))))
  .ret)))) .skip))
  (.seq (.seq (.reg [⟨(some 77), none, .p (.mv (.t 3))⟩,
    ⟨(some 78), none, .p (.mv (.t 2))⟩,
    ⟨(some 79), none, .p (.bin .sub (.t 77) (.t 78))⟩,
    ⟨(some 80), none, .p (.bin .eql (.t 79) (.c (.int .i64 1)))⟩])
  (.cond (.t 80) (.seq (.reg [⟨(some 81), none, .p (.mv (.t 1))⟩,
    ⟨(some 14), none, .p (.mv (.t 81))⟩])
  (.seq (.reg [⟨(some 82), none, .p (.mv (.t 2))⟩,
    ⟨(some 15), none, .p (.mv (.t 82))⟩])
  (.seq (.block 4 (.loop (.seq (.seq (.reg [⟨(some 83), none, .p (.mv (.t 14))⟩,
    ⟨(some 84), none, .p (.mv (.t 15))⟩,
    ⟨(some 85), none, .p (.bin .lss (.t 83) (.t 84))⟩])
  (.cond (.t 85) .skip (.exit 4)))
  (.block 5 (.seq (.reg [⟨(some 86), none, .p (.mv (.t 14))⟩,
    ⟨(some 87), none, .p (.mv (.t 15))⟩,
    ⟨(some 88), none, .p (.bin .add (.t 86) (.t 87))⟩,
    ⟨(some 89), none, .p (.conv .u64 (.t 88))⟩,
    ⟨(some 90), none, .p (.bin .shr (.t 89) (.c (.int .u64 1)))⟩,
    ⟨(some 91), none, .p (.conv .i64 (.t 90))⟩,
    ⟨(some 16), none, .p (.mv (.t 91))⟩])
  (.seq (.oreg [(.quiet, ⟨(some 92), none, .p (.mv (.t 4))⟩),
    (.quiet, ⟨(some 93), none, .p (.mv (.t 0))⟩),
    (.quiet, ⟨(some 94), none, .p (.mv (.t 2))⟩),
    (.quiet, ⟨(some 95), none, .p (.idxA 2 (.t 93) (.t 94))⟩),
    (.quiet, ⟨(some 96), none, .p (.ldn 2 (.t 95))⟩),
    (.quiet, ⟨(some 97), none, .p (.mv (.t 0))⟩),
    (.quiet, ⟨(some 98), none, .p (.mv (.t 16))⟩),
    (.quiet, ⟨(some 99), none, .p (.idxA 2 (.t 97) (.t 98))⟩),
    (.quiet, ⟨(some 100), none, .p (.ldn 2 (.t 99))⟩),
    (.loud, ⟨(some 101), none, .callv (.t 92) [(.t 96), (.t 100)]⟩),
    (.quiet, ⟨(some 102), none, .p (.bin .lss (.t 101) (.c (.int .i64 0)))⟩),
    (.quiet, ⟨(some 103), none, .p (.not (.t 102))⟩)])
  (.cond (.t 103) (.reg [⟨(some 104), none, .p (.mv (.t 16))⟩,
    ⟨(some 105), none, .p (.bin .add (.t 104) (.c (.int .i64 1)))⟩,
    ⟨(some 14), none, .p (.mv (.t 105))⟩]) (.reg [⟨(some 106), none, .p (.mv (.t 16))⟩,
    ⟨(some 15), none, .p (.mv (.t 106))⟩]))))))))
  (.seq (.seq (.reg [⟨(some 107), none, .p (.mv (.t 2))⟩,
    ⟨(some 17), none, .p (.mv (.t 107))⟩])
  (.block 6 (.loop (.seq (.seq (.reg [⟨(some 108), none, .p (.mv (.t 17))⟩,
    ⟨(some 109), none, .p (.mv (.t 14))⟩,
    ⟨(some 110), none, .p (.bin .gtr (.t 108) (.t 109))⟩])
  (.cond (.t 110) .skip (.exit 6)))
  (.seq (.block 7 (.oreg [(.quiet, ⟨(some 113), none, .p (.mv (.t 0))⟩),
    (.quiet, ⟨(some 114), none, .p (.mv (.t 17))⟩),
    (.stable, ⟨(some 115), none, .p (.mv (.t 0))⟩),
    (.stable, ⟨(some 116), none, .p (.mv (.t 17))⟩),
    (.stable, ⟨(some 117), none, .p (.bin .sub (.t 116) (.c (.int .i64 1)))⟩),
    (.quiet, ⟨(some 118), none, .p (.mv (.t 0))⟩),
    (.quiet, ⟨(some 119), none, .p (.mv (.t 17))⟩),
    (.quiet, ⟨(some 120), none, .p (.bin .sub (.t 119) (.c (.int .i64 1)))⟩),
    (.quiet, ⟨(some 121), none, .p (.idxA 2 (.t 118) (.t 120))⟩),
    (.quiet, ⟨(some 122), none, .p (.ldn 2 (.t 121))⟩),
    (.quiet, ⟨(some 123), none, .p (.mv (.t 0))⟩),
    (.quiet, ⟨(some 124), none, .p (.mv (.t 17))⟩),
    (.quiet, ⟨(some 125), none, .p (.idxA 2 (.t 123) (.t 124))⟩),
    (.quiet, ⟨(some 126), none, .p (.ldn 2 (.t 125))⟩),
    (.quiet, ⟨(some 127), none, .p (.idxA 2 (.t 113) (.t 114))⟩),
    (.loud, ⟨none, none, .st 2 (.t 127) (.t 122)⟩),
    (.quiet, ⟨(some 128), none, .p (.idxA 2 (.t 115) (.t 117))⟩),
    (.loud, ⟨none, none, .st 2 (.t 128) (.t 126)⟩)]))
  (.reg [⟨(some 111), none, .p (.mv (.t 17))⟩,
    ⟨(some 112), none, .p (.bin .sub (.t 111) (.c (.int .i64 1)))⟩,
    ⟨(some 17), none, .p (.mv (.t 112))⟩]))))))
  .ret)))) .skip))
  (.seq (.reg [⟨(some 129), none, .p (.mv (.t 1))⟩,
    ⟨(some 130), none, .p (.mv (.t 3))⟩,
    ⟨(some 131), none, .p (.bin .add (.t 129) (.t 130))⟩,
    ⟨(some 132), none, .p (.conv .u64 (.t 131))⟩,
    ⟨(some 133), none, .p (.bin .shr (.t 132) (.c (.int .u64 1)))⟩,
    ⟨(some 134), none, .p (.conv .i64 (.t 133))⟩,
    ⟨(some 18), none, .p (.mv (.t 134))⟩])
  (.seq (.reg [⟨(some 135), none, .p (.mv (.t 18))⟩,
    ⟨(some 136), none, .p (.mv (.t 2))⟩,
    ⟨(some 137), none, .p (.bin .add (.t 135) (.t 136))⟩,
    ⟨(some 19), none, .p (.mv (.t 137))⟩])
  (.seq (.reg [⟨(some 20), none, .p (.mv (.c (.int .i64 0)))⟩,
    ⟨(some 21), none, .p (.mv (.c (.int .i64 0)))⟩])
  (.seq (.seq (.reg [⟨(some 138), none, .p (.mv (.t 2))⟩,
    ⟨(some 139), none, .p (.mv (.t 18))⟩,
    ⟨(some 140), none, .p (.bin .gtr (.t 138) (.t 139))⟩])
  (.cond (.t 140) (.seq (.reg [⟨(some 141), none, .p (.mv (.t 19))⟩,
    ⟨(some 142), none, .p (.mv (.t 3))⟩,
    ⟨(some 143), none, .p (.bin .sub (.t 141) (.t 142))⟩,
    ⟨(some 20), none, .p (.mv (.t 143))⟩])
  (.reg [⟨(some 144), none, .p (.mv (.t 18))⟩,
    ⟨(some 21), none, .p (.mv (.t 144))⟩])) (.seq (.reg [⟨(some 145), none, .p (.mv (.t 1))⟩,
    ⟨(some 20), none, .p (.mv (.t 145))⟩])
  (.reg [⟨(some 146), none, .p (.mv (.t 2))⟩,
    ⟨(some 21), none, .p (.mv (.t 146))⟩]))))
  (.seq (.reg [⟨(some 147), none, .p (.mv (.t 19))⟩,
    ⟨(some 148), none, .p (.bin .sub (.t 147) (.c (.int .i64 1)))⟩,
    ⟨(some 22), none, .p (.mv (.t 148))⟩])
  (.seq (.block 8 (.loop (.seq (.seq (.reg [⟨(some 149), none, .p (.mv (.t 20))⟩,
    ⟨(some 150), none, .p (.mv (.t 21))⟩,
    ⟨(some 151), none, .p (.bin .lss (.t 149) (.t 150))⟩])
  (.cond (.t 151) .skip (.exit 8)))
  (.block 9 (.seq (.reg [⟨(some 152), none, .p (.mv (.t 20))⟩,
    ⟨(some 153), none, .p (.mv (.t 21))⟩,
    ⟨(some 154), none, .p (.bin .add (.t 152) (.t 153))⟩,
    ⟨(some 155), none, .p (.conv .u64 (.t 154))⟩,
    ⟨(some 156), none, .p (.bin .shr (.t 155) (.c (.int .u64 1)))⟩,
    ⟨(some 157), none, .p (.conv .i64 (.t 156))⟩,
    ⟨(some 23), none, .p (.mv (.t 157))⟩])
  (.seq (.oreg [(.quiet, ⟨(some 158), none, .p (.mv (.t 4))⟩),
    (.quiet, ⟨(some 159), none, .p (.mv (.t 0))⟩),
    (.quiet, ⟨(some 160), none, .p (.mv (.t 22))⟩),
    (.quiet, ⟨(some 161), none, .p (.mv (.t 23))⟩),
    (.quiet, ⟨(some 162), none, .p (.bin .sub (.t 160) (.t 161))⟩),
    (.quiet, ⟨(some 163), none, .p (.idxA 2 (.t 159) (.t 162))⟩),
    (.quiet, ⟨(some 164), none, .p (.ldn 2 (.t 163))⟩),
    (.quiet, ⟨(some 165), none, .p (.mv (.t 0))⟩),
    (.quiet, ⟨(some 166), none, .p (.mv (.t 23))⟩),
    (.quiet, ⟨(some 167), none, .p (.idxA 2 (.t 165) (.t 166))⟩),
    (.quiet, ⟨(some 168), none, .p (.ldn 2 (.t 167))⟩),
    (.loud, ⟨(some 169), none, .callv (.t 158) [(.t 164), (.t 168)]⟩),
    (.quiet, ⟨(some 170), none, .p (.bin .lss (.t 169) (.c (.int .i64 0)))⟩),
    (.quiet, ⟨(some 171), none, .p (.not (.t 170))⟩)])
  (.cond (.t 171) (.reg [⟨(some 172), none, .p (.mv (.t 23))⟩,
    ⟨(some 173), none, .p (.bin .add (.t 172) (.c (.int .i64 1)))⟩,
    ⟨(some 20), none, .p (.mv (.t 173))⟩]) (.reg [⟨(some 174), none, .p (.mv (.t 23))⟩,
    ⟨(some 21), none, .p (.mv (.t 174))⟩]))))))))
  (.seq (.reg [⟨(some 175), none, .p (.mv (.t 19))⟩,
    ⟨(some 176), none, .p (.mv (.t 20))⟩,
    ⟨(some 177), none, .p (.bin .sub (.t 175) (.t 176))⟩,
    ⟨(some 24), none, .p (.mv (.t 177))⟩])
  (.seq (.seq (.reg [⟨(some 178), none, .p (.mv (.t 20))⟩,
    ⟨(some 179), none, .p (.mv (.t 2))⟩,
    ⟨(some 180), none, .p (.bin .lss (.t 178) (.t 179))⟩,
    ⟨(some 181), none, .p (.mv (.t 180))⟩,
    ⟨(some 182), (some (181, true)), .p (.mv (.t 2))⟩,
    ⟨(some 183), (some (181, true)), .p (.mv (.t 24))⟩,
    ⟨(some 184), (some (181, true)), .p (.bin .lss (.t 182) (.t 183))⟩,
    ⟨(some 185), none, .p (.pick (.t 181) (.t 184) (.c (.bool false)))⟩])
  (.cond (.t 185) (.reg [⟨(some 186), none, .p (.mv (.t 0))⟩,
    ⟨(some 187), none, .p (.mv (.t 20))⟩,
    ⟨(some 188), none, .p (.mv (.t 2))⟩,
    ⟨(some 189), none, .p (.mv (.t 24))⟩,
    ⟨(some 190), none, .p (.mv (.t 4))⟩,
    ⟨(some 191), none, .call 30 [(.t 186), (.t 187), (.t 188), (.t 189), (.t 190)]⟩]) .skip))
  (.seq (.seq (.reg [⟨(some 192), none, .p (.mv (.t 1))⟩,
    ⟨(some 193), none, .p (.mv (.t 20))⟩,
    ⟨(some 194), none, .p (.bin .lss (.t 192) (.t 193))⟩,
    ⟨(some 195), none, .p (.mv (.t 194))⟩,
    ⟨(some 196), (some (195, true)), .p (.mv (.t 20))⟩,
    ⟨(some 197), (some (195, true)), .p (.mv (.t 18))⟩,
    ⟨(some 198), (some (195, true)), .p (.bin .lss (.t 196) (.t 197))⟩,
    ⟨(some 199), none, .p (.pick (.t 195) (.t 198) (.c (.bool false)))⟩])
  (.cond (.t 199) (.reg [⟨(some 200), none, .p (.mv (.t 0))⟩,
    ⟨(some 201), none, .p (.mv (.t 1))⟩,
    ⟨(some 202), none, .p (.mv (.t 20))⟩,
    ⟨(some 203), none, .p (.mv (.t 18))⟩,
    ⟨(some 204), none, .p (.mv (.t 4))⟩,
    ⟨(some 205), none, .call 29 [(.t 200), (.t 201), (.t 202), (.t 203), (.t 204)]⟩]) .skip))
  (.seq (.reg [⟨(some 206), none, .p (.mv (.t 18))⟩,
    ⟨(some 207), none, .p (.mv (.t 24))⟩,
    ⟨(some 208), none, .p (.bin .lss (.t 206) (.t 207))⟩,
    ⟨(some 209), none, .p (.mv (.t 208))⟩,
    ⟨(some 210), (some (209, true)), .p (.mv (.t 24))⟩,
    ⟨(some 211), (some (209, true)), .p (.mv (.t 3))⟩,
    ⟨(some 212), (some (209, true)), .p (.bin .lss (.t 210) (.t 211))⟩,
    ⟨(some 213), none, .p (.pick (.t 209) (.t 212) (.c (.bool false)))⟩])
  (.cond (.t 213) (.reg [⟨(some 214), none, .p (.mv (.t 0))⟩,
    ⟨(some 215), none, .p (.mv (.t 18))⟩,
    ⟨(some 216), none, .p (.mv (.t 24))⟩,
    ⟨(some 217), none, .p (.mv (.t 3))⟩,
    ⟨(some 218), none, .p (.mv (.t 4))⟩,
    ⟨(some 219), none, .call 29 [(.t 214), (.t 215), (.t 216), (.t 217), (.t 218)]⟩]) .skip)))))))))))))⟩
theorem c29 : compF Try.prog ⟨fun s => [].contains s, fun r => match r with | 5 => [(0, .quiet), (1, .quiet), (2, .quiet), (3, .quiet), (4, .quiet), (5, .quiet), (6, .quiet), (7, .quiet), (8, .quiet), (9, .loud), (10, .quiet)]  | 11 => [(0, .quiet), (1, .quiet), (2, .stable), (3, .stable), (4, .stable), (5, .quiet), (6, .quiet), (7, .quiet), (8, .quiet), (9, .quiet), (10, .quiet), (11, .quiet), (12, .quiet), (13, .quiet), (14, .quiet), (15, .loud), (16, .quiet), (17, .loud)]  | 17 => [(0, .quiet), (1, .quiet), (2, .quiet), (3, .quiet), (4, .quiet), (5, .quiet), (6, .quiet), (7, .quiet), (8, .quiet), (9, .loud), (10, .quiet), (11, .quiet)]  | 23 => [(0, .quiet), (1, .quiet), (2, .stable), (3, .stable), (4, .stable), (5, .quiet), (6, .quiet), (7, .quiet), (8, .quiet), (9, .quiet), (10, .quiet), (11, .quiet), (12, .quiet), (13, .quiet), (14, .quiet), (15, .loud), (16, .quiet), (17, .loud)]  | 35 => [(0, .quiet), (1, .quiet), (2, .quiet), (3, .quiet), (4, .quiet), (5, .quiet), (6, .quiet), (7, .quiet), (8, .quiet), (9, .quiet), (10, .quiet), (11, .loud), (12, .quiet), (13, .quiet)] | _ => []⟩ Try.f29 = some a29 := by kernel_rfl

/- slices.rotateCmpFunc[airline/api.Demand] -/
def a30 : AFun := ⟨58, [], (.seq (.reg [⟨(some 12), none, .p (.mv (.t 2))⟩,
    ⟨(some 13), none, .p (.mv (.t 1))⟩,
    ⟨(some 14), none, .p (.bin .sub (.t 12) (.t 13))⟩,
    ⟨(some 10), none, .p (.mv (.t 14))⟩])
  (.seq (.reg [⟨(some 15), none, .p (.mv (.t 3))⟩,
    ⟨(some 16), none, .p (.mv (.t 2))⟩,
    ⟨(some 17), none, .p (.bin .sub (.t 15) (.t 16))⟩,
    ⟨(some 11), none, .p (.mv (.t 17))⟩])
  (.seq (.block 0 (.loop (.seq (.seq (.reg [⟨(some 18), none, .p (.mv (.t 10))⟩,
    ⟨(some 19), none, .p (.mv (.t 11))⟩,
    ⟨(some 20), none, .p (.bin .neq (.t 18) (.t 19))⟩])
  (.cond (.t 20) .skip (.exit 0)))
  (.block 1 (.seq (.reg [⟨(some 21), none, .p (.mv (.t 10))⟩,
    ⟨(some 22), none, .p (.mv (.t 11))⟩,
    ⟨(some 23), none, .p (.bin .gtr (.t 21) (.t 22))⟩])
  (.cond (.t 23) (.seq (.reg [⟨(some 24), none, .p (.mv (.t 0))⟩,
    ⟨(some 25), none, .p (.mv (.t 2))⟩,
    ⟨(some 26), none, .p (.mv (.t 10))⟩,
    ⟨(some 27), none, .p (.bin .sub (.t 25) (.t 26))⟩,
    ⟨(some 28), none, .p (.mv (.t 2))⟩,
    ⟨(some 29), none, .p (.mv (.t 11))⟩,
    ⟨(some 30), none, .p (.mv (.t 4))⟩,
    ⟨(some 31), none, .call 31 [(.t 24), (.t 27), (.t 28), (.t 29), (.t 30)]⟩])
  (.reg [⟨(some 32), none, .p (.mv (.t 10))⟩,
    ⟨(some 33), none, .p (.mv (.t 11))⟩,
    ⟨(some 34), none, .p (.bin .sub (.t 32) (.t 33))⟩,
    ⟨(some 10), none, .p (.mv (.t 34))⟩])) (.seq (.reg [⟨(some 35), none, .p (.mv (.t 0))⟩,
    ⟨(some 36), none, .p (.mv (.t 2))⟩,
    ⟨(some 37), none, .p (.mv (.t 10))⟩,
    ⟨(some 38), none, .p (.bin .sub (.t 36) (.t 37))⟩,
    ⟨(some 39), none, .p (.mv (.t 2))⟩,
    ⟨(some 40), none, .p (.mv (.t 11))⟩,
    ⟨(some 41), none, .p (.bin .add (.t 39) (.t 40))⟩,
    ⟨(some 42), none, .p (.mv (.t 10))⟩,
    ⟨(some 43), none, .p (.bin .sub (.t 41) (.t 42))⟩,
    ⟨(some 44), none, .p (.mv (.t 10))⟩,
    ⟨(some 45), none, .p (.mv (.t 4))⟩,
    ⟨(some 46), none, .call 31 [(.t 35), (.t 38), (.t 43), (.t 44), (.t 45)]⟩])
  (.reg [⟨(some 47), none, .p (.mv (.t 11))⟩,
    ⟨(some 48), none, .p (.mv (.t 10))⟩,
    ⟨(some 49), none, .p (.bin .sub (.t 47) (.t 48))⟩,
    ⟨(some 11), none, .p (.mv (.t 49))⟩]))))))))
  (.reg [⟨(some 50), none, .p (.mv (.t 0))⟩,
    ⟨(some 51), none, .p (.mv (.t 2))⟩,
    ⟨(some 52), none, .p (.mv (.t 10))⟩,
    ⟨(some 53), none, .p (.bin .sub (.t 51) (.t 52))⟩,
    ⟨(some 54), none, .p (.mv (.t 2))⟩,
    ⟨(some 55), none, .p (.mv (.t 10))⟩,
    ⟨(some 56), none, .p (.mv (.t 4))⟩,
    ⟨(some 57), none, .call 31 [(.t 50), (.t 53), (.t 54), (.t 55), (.t 56)]⟩]))))⟩
theorem c30 : compF Try.prog ⟨fun s => [].contains s, fun _ => []⟩ Try.f30 = some a30 := by kernel_rfl

/- slices.swapRangeCmpFunc[airline/api.Demand] -/
def a31 : AFun := ⟨38, [], (.seq (.reg [⟨(some 10), none, .p (.mv (.c (.int .i64 0)))⟩])
  (.block 0 (.loop (.seq (.seq (.reg [⟨(some 11), none, .p (.mv (.t 10))⟩,
    ⟨(some 12), none, .p (.mv (.t 3))⟩,
    ⟨(some 13), none, .p (.bin .lss (.t 11) (.t 12))⟩])
  (.cond (.t 13) .skip (.exit 0)))
  (.seq (.block 1 (.oreg [(.quiet, ⟨(some 16), none, .p (.mv (.t 0))⟩),
    (.quiet, ⟨(some 17), none, .p (.mv (.t 1))⟩),
    (.quiet, ⟨(some 18), none, .p (.mv (.t 10))⟩),
    (.quiet, ⟨(some 19), none, .p (.bin .add (.t 17) (.t 18))⟩),
    (.stable, ⟨(some 20), none, .p (.mv (.t 0))⟩),
    (.stable, ⟨(some 21), none, .p (.mv (.t 2))⟩),
    (.stable, ⟨(some 22), none, .p (.mv (.t 10))⟩),
    (.stable, ⟨(some 23), none, .p (.bin .add (.t 21) (.t 22))⟩),
    (.quiet, ⟨(some 24), none, .p (.mv (.t 0))⟩),
    (.quiet, ⟨(some 25), none, .p (.mv (.t 2))⟩),
    (.quiet, ⟨(some 26), none, .p (.mv (.t 10))⟩),
    (.quiet, ⟨(some 27), none, .p (.bin .add (.t 25) (.t 26))⟩),
    (.quiet, ⟨(some 28), none, .p (.idxA 2 (.t 24) (.t 27))⟩),
    (.quiet, ⟨(some 29), none, .p (.ldn 2 (.t 28))⟩),
    (.quiet, ⟨(some 30), none, .p (.mv (.t 0))⟩),
    (.quiet, ⟨(some 31), none, .p (.mv (.t 1))⟩),
    (.quiet, ⟨(some 32), none, .p (.mv (.t 10))⟩),
    (.quiet, ⟨(some 33), none, .p (.bin .add (.t 31) (.t 32))⟩),
    (.quiet, ⟨(some 34), none, .p (.idxA 2 (.t 30) (.t 33))⟩),
    (.quiet, ⟨(some 35), none, .p (.ldn 2 (.t 34))⟩),
    (.quiet, ⟨(some 36), none, .p (.idxA 2 (.t 16) (.t 19))⟩),
    (.loud, ⟨none, none, .st 2 (.t 36) (.t 29)⟩),
    (.quiet, ⟨(some 37), none, .p (.idxA 2 (.t 20) (.t 23))⟩),
    (.loud, ⟨none, none, .st 2 (.t 37) (.t 35)⟩)]))
  (.reg [⟨(some 14), none, .p (.mv (.t 10))⟩,
    ⟨(some 15), none, .p (.bin .add (.t 14) (.c (.int .i64 1)))⟩,
    ⟨(some 10), none, .p (.mv (.t 15))⟩]))))))⟩
theorem c31 : compF Try.prog ⟨fun s => [].contains s, fun r => match r with | 3 => [(0, .quiet), (1, .quiet), (2, .quiet), (3, .quiet), (4, .stable), (5, .stable), (6, .stable), (7, .stable), (8, .quiet), (9, .quiet), (10, .quiet), (11, .quiet), (12, .quiet), (13, .quiet), (14, .quiet), (15, .quiet), (16, .quiet), (17, .quiet), (18, .quiet), (19, .quiet), (20, .quiet), (21, .loud), (22, .quiet), (23, .loud)] | _ => []⟩ Try.f31 = some a31 := by kernel_rfl

end Go.Proofs.Ytoidchljifelgaa
