/- The functions of mileage, compiled (printed by gen.sh). -/
import Derived.Test.YtbbjjnhcbfdhlaaAlM
import Derived.Test.YtbbjjnhcbfdhlaaProg
namespace Go.Proofs.Ytbbjjnhcbfdhlaa
open Go Go.AL

/- airline/airlinelaw23.MileageLevels -/
def a3 : AFun := ⟨60, [.tmp 6], (.seq (.reg [⟨(some 6), none, .p (.mv (.c (.bool false)))⟩])
  (.seq (.reg [⟨(some 16), none, .p (.mv (.t 0))⟩,
    ⟨(some 17), none, .p (.mv (.t 1))⟩,
    ⟨(some 18), none, .call 6 [(.t 16), (.t 17)]⟩,
    ⟨(some 15), none, .p (.mv (.t 18))⟩,
    ⟨(some 19), none, .p (.ext 0 (.t 15))⟩,
    ⟨(some 20), none, .p (.ext 1 (.t 15))⟩,
    ⟨(some 7), none, .p (.mv (.t 19))⟩,
    ⟨(some 8), none, .p (.mv (.t 20))⟩])
  (.seq (.reg [⟨(some 22), none, .p (.mv (.t 0))⟩,
    ⟨(some 23), none, .p (.mv (.t 1))⟩,
    ⟨(some 24), none, .call 7 [(.t 22), (.t 23)]⟩,
    ⟨(some 21), none, .p (.mv (.t 24))⟩,
    ⟨(some 25), none, .p (.ext 0 (.t 21))⟩,
    ⟨(some 26), none, .p (.ext 1 (.t 21))⟩,
    ⟨(some 9), none, .p (.mv (.t 25))⟩,
    ⟨(some 10), none, .p (.mv (.t 26))⟩])
  (.seq (.reg [⟨(some 28), none, .p (.mv (.t 0))⟩,
    ⟨(some 29), none, .p (.mv (.t 2))⟩,
    ⟨(some 30), none, .call 8 [(.t 28), (.t 29)]⟩,
    ⟨(some 27), none, .p (.mv (.t 30))⟩,
    ⟨(some 31), none, .p (.ext 0 (.t 27))⟩,
    ⟨(some 32), none, .p (.ext 1 (.t 27))⟩,
    ⟨(some 11), none, .p (.mv (.t 31))⟩,
    ⟨(some 12), none, .p (.mv (.t 32))⟩])
  (.seq (.reg [⟨(some 34), none, .p (.mv (.t 0))⟩,
    ⟨(some 35), none, .p (.mv (.t 2))⟩,
    ⟨(some 36), none, .call 9 [(.t 34), (.t 35)]⟩,
    ⟨(some 33), none, .p (.mv (.t 36))⟩,
    ⟨(some 37), none, .p (.ext 0 (.t 33))⟩,
    ⟨(some 38), none, .p (.ext 1 (.t 33))⟩,
    ⟨(some 13), none, .p (.mv (.t 37))⟩,
    ⟨(some 14), none, .p (.mv (.t 38))⟩])
  (.seq (.reg [⟨(some 39), none, .p (.mv (.t 7))⟩,
    ⟨(some 40), none, .p (.mv (.t 9))⟩,
    ⟨(some 41), none, .p (.bin .eql (.t 39) (.t 40))⟩,
    ⟨(some 42), none, .p (.mv (.t 41))⟩,
    ⟨(some 43), (some (42, true)), .p (.mv (.t 8))⟩,
    ⟨(some 44), (some (42, true)), .p (.mv (.t 10))⟩,
    ⟨(some 45), (some (42, true)), .p (.bin .eql (.t 43) (.t 44))⟩,
    ⟨(some 46), none, .p (.pick (.t 42) (.t 45) (.c (.bool false)))⟩,
    ⟨(some 47), none, .p (.mv (.t 46))⟩,
    ⟨(some 48), (some (47, true)), .p (.mv (.t 11))⟩,
    ⟨(some 49), (some (47, true)), .p (.mv (.t 13))⟩,
    ⟨(some 50), (some (47, true)), .p (.bin .eql (.t 48) (.t 49))⟩,
    ⟨(some 51), none, .p (.pick (.t 47) (.t 50) (.c (.bool false)))⟩,
    ⟨(some 52), none, .p (.mv (.t 51))⟩,
    ⟨(some 53), (some (52, true)), .p (.mv (.t 12))⟩,
    ⟨(some 54), (some (52, true)), .p (.mv (.t 14))⟩,
    ⟨(some 55), (some (52, true)), .p (.bin .eql (.t 53) (.t 54))⟩,
    ⟨(some 56), none, .p (.pick (.t 52) (.t 55) (.c (.bool false)))⟩,
    ⟨(some 57), none, .p (.mv (.t 56))⟩,
    ⟨(some 58), (some (57, true)), .call 10 []⟩,
    ⟨(some 59), none, .p (.pick (.t 57) (.t 58) (.c (.bool false)))⟩,
    ⟨(some 6), none, .p (.mv (.t 59))⟩])
  .ret))))))⟩
theorem c3 : compF Try.prog ⟨fun s => [].contains s, fun _ => []⟩ Try.f3 = some a3 := by kernel_rfl

/- airline/airlinelaw23.MileageWays -/
def a4 : AFun := ⟨98, [.tmp 6], (.seq (.reg [⟨(some 3), none, .p (.boxI (.t 0))⟩,
    ⟨(some 6), none, .p (.mv (.c (.bool false)))⟩])
  (.seq (.seq (.reg [⟨(some 16), none, .p (.faddr 0 (.t 3))⟩,
    ⟨(some 17), none, .p (.ld1 (.t 16))⟩,
    ⟨(some 18), none, .p (.lenA (.t 17))⟩,
    ⟨(some 19), none, .p (.bin .gtr (.t 18) (.c (.int .i64 20)))⟩,
    ⟨(some 20), none, .p (.mv (.t 19))⟩,
    ⟨(some 21), (some (20, false)), .p (.faddr 1 (.t 3))⟩,
    ⟨(some 22), (some (20, false)), .p (.ld1 (.t 21))⟩,
    ⟨(some 23), (some (20, false)), .p (.lenA (.t 22))⟩,
    ⟨(some 24), (some (20, false)), .p (.bin .gtr (.t 23) (.c (.int .i64 40)))⟩,
    ⟨(some 25), none, .p (.pick (.t 20) (.c (.bool true)) (.t 24))⟩,
    ⟨(some 26), none, .p (.mv (.t 25))⟩,
    ⟨(some 27), (some (26, false)), .p (.mv (.t 1))⟩,
    ⟨(some 28), (some (26, false)), .p (.lenA (.t 27))⟩,
    ⟨(some 29), (some (26, false)), .p (.bin .gtr (.t 28) (.c (.int .i64 20)))⟩,
    ⟨(some 30), none, .p (.pick (.t 26) (.c (.bool true)) (.t 29))⟩])
  (.cond (.t 30) (.seq (.reg [⟨(some 31), none, .call 10 []⟩,
    ⟨(some 6), none, .p (.mv (.t 31))⟩])
  .ret) .skip))
  (.seq (.reg [⟨(some 33), none, .p (.ldn 2 (.t 3))⟩,
    ⟨(some 34), none, .p (.mv (.t 1))⟩,
    ⟨(some 35), none, .p (.mv (.t 2))⟩,
    ⟨(some 36), none, .call 11 [(.t 33), (.t 34), (.t 35)]⟩,
    ⟨(some 32), none, .p (.mv (.t 36))⟩,
    ⟨(some 37), none, .p (.ext 0 (.t 32))⟩,
    ⟨(some 38), none, .p (.ext 1 (.t 32))⟩,
    ⟨(some 7), none, .p (.mv (.t 37))⟩,
    ⟨(some 8), none, .p (.mv (.t 38))⟩])
  (.seq (.reg [⟨(some 40), none, .p (.ldn 2 (.t 3))⟩,
    ⟨(some 41), none, .p (.mv (.t 1))⟩,
    ⟨(some 42), none, .p (.mv (.t 2))⟩,
    ⟨(some 43), none, .call 12 [(.t 40), (.t 41), (.t 42)]⟩,
    ⟨(some 39), none, .p (.mv (.t 43))⟩,
    ⟨(some 44), none, .p (.ext 0 (.t 39))⟩,
    ⟨(some 45), none, .p (.ext 1 (.t 39))⟩,
    ⟨(some 9), none, .p (.mv (.t 44))⟩,
    ⟨(some 10), none, .p (.mv (.t 45))⟩])
  (.seq (.seq (.reg [⟨(some 46), none, .p (.mv (.t 7))⟩,
    ⟨(some 47), none, .p (.mv (.t 9))⟩,
    ⟨(some 48), none, .p (.bin .neq (.t 46) (.t 47))⟩,
    ⟨(some 49), none, .p (.mv (.t 48))⟩,
    ⟨(some 50), (some (49, false)), .p (.mv (.t 8))⟩,
    ⟨(some 51), (some (49, false)), .p (.mv (.t 10))⟩,
    ⟨(some 52), (some (49, false)), .p (.bin .neq (.t 50) (.t 51))⟩,
    ⟨(some 53), none, .p (.pick (.t 49) (.c (.bool true)) (.t 52))⟩])
  (.cond (.t 53) (.seq (.reg [⟨(some 6), none, .p (.mv (.c (.bool false)))⟩])
  .ret) .skip))
  (.seq (.seq (.reg [⟨(some 11), none, .p (.mv (.c (.int .i64 0)))⟩])
  (.block 0 (.loop (.seq (.seq (.reg [⟨(some 54), none, .p (.mv (.t 11))⟩,
    ⟨(some 55), none, .p (.bin .add (.t 54) (.c (.int .i64 1)))⟩,
    ⟨(some 56), none, .p (.mv (.t 1))⟩,
    ⟨(some 57), none, .p (.lenA (.t 56))⟩,
    ⟨(some 58), none, .p (.bin .lss (.t 55) (.t 57))⟩])
  (.cond (.t 58) .skip (.exit 0)))
  (.seq (.block 1 (.seq (.oreg [(.quiet, ⟨(some 62), none, .p (.ldn 2 (.t 3))⟩),
    (.quiet, ⟨(some 63), none, .p (.mv (.t 1))⟩),
    (.quiet, ⟨(some 64), none, .p (.mv (.t 11))⟩),
    (.quiet, ⟨(some 65), none, .p (.idxA 1 (.t 63) (.t 64))⟩),
    (.quiet, ⟨(some 66), none, .p (.ld1 (.t 65))⟩),
    (.quiet, ⟨(some 67), none, .p (.mv (.t 1))⟩),
    (.quiet, ⟨(some 68), none, .p (.mv (.t 11))⟩),
    (.quiet, ⟨(some 69), none, .p (.bin .add (.t 68) (.c (.int .i64 1)))⟩),
    (.quiet, ⟨(some 70), none, .p (.idxA 1 (.t 67) (.t 69))⟩),
    (.quiet, ⟨(some 71), none, .p (.ld1 (.t 70))⟩),
    (.loud, ⟨(some 72), none, .call 13 [(.t 62), (.t 66), (.t 71)]⟩),
    (.quiet, ⟨(some 61), none, .p (.mv (.t 72))⟩),
    (.quiet, ⟨(some 73), none, .p (.ext 0 (.t 61))⟩),
    (.quiet, ⟨(some 74), none, .p (.ext 1 (.t 61))⟩),
    (.quiet, ⟨(some 12), none, .p (.mv (.t 73))⟩),
    (.quiet, ⟨(some 13), none, .p (.mv (.t 74))⟩)])
  (.seq (.oreg [(.quiet, ⟨(some 76), none, .p (.ldn 2 (.t 3))⟩),
    (.quiet, ⟨(some 77), none, .p (.mv (.t 1))⟩),
    (.quiet, ⟨(some 78), none, .p (.mv (.t 11))⟩),
    (.quiet, ⟨(some 79), none, .p (.idxA 1 (.t 77) (.t 78))⟩),
    (.quiet, ⟨(some 80), none, .p (.ld1 (.t 79))⟩),
    (.quiet, ⟨(some 81), none, .p (.mv (.t 1))⟩),
    (.quiet, ⟨(some 82), none, .p (.mv (.t 11))⟩),
    (.quiet, ⟨(some 83), none, .p (.bin .add (.t 82) (.c (.int .i64 1)))⟩),
    (.quiet, ⟨(some 84), none, .p (.idxA 1 (.t 81) (.t 83))⟩),
    (.quiet, ⟨(some 85), none, .p (.ld1 (.t 84))⟩),
    (.loud, ⟨(some 86), none, .call 14 [(.t 76), (.t 80), (.t 85)]⟩),
    (.quiet, ⟨(some 75), none, .p (.mv (.t 86))⟩),
    (.quiet, ⟨(some 87), none, .p (.ext 0 (.t 75))⟩),
    (.quiet, ⟨(some 88), none, .p (.ext 1 (.t 75))⟩),
    (.quiet, ⟨(some 14), none, .p (.mv (.t 87))⟩),
    (.quiet, ⟨(some 15), none, .p (.mv (.t 88))⟩)])
  (.seq (.reg [⟨(some 89), none, .p (.mv (.t 12))⟩,
    ⟨(some 90), none, .p (.mv (.t 14))⟩,
    ⟨(some 91), none, .p (.bin .neq (.t 89) (.t 90))⟩,
    ⟨(some 92), none, .p (.mv (.t 91))⟩,
    ⟨(some 93), (some (92, false)), .p (.mv (.t 13))⟩,
    ⟨(some 94), (some (92, false)), .p (.mv (.t 15))⟩,
    ⟨(some 95), (some (92, false)), .p (.bin .neq (.t 93) (.t 94))⟩,
    ⟨(some 96), none, .p (.pick (.t 92) (.c (.bool true)) (.t 95))⟩])
  (.cond (.t 96) (.seq (.reg [⟨(some 6), none, .p (.mv (.c (.bool false)))⟩])
  .ret) .skip)))))
  (.reg [⟨(some 59), none, .p (.mv (.t 11))⟩,
    ⟨(some 60), none, .p (.bin .add (.t 59) (.c (.int .i64 1)))⟩,
    ⟨(some 11), none, .p (.mv (.t 60))⟩]))))))
  (.seq (.reg [⟨(some 97), none, .call 10 []⟩,
    ⟨(some 6), none, .p (.mv (.t 97))⟩])
  .ret)))))))⟩
theorem c4 : compF Try.prog ⟨fun s => [].contains s, fun r => match r with | 10 => [(0, .quiet), (1, .quiet), (2, .quiet), (3, .quiet), (4, .quiet), (5, .quiet), (6, .quiet), (7, .quiet), (8, .quiet), (9, .quiet), (10, .loud), (11, .quiet), (12, .quiet), (13, .quiet), (14, .quiet), (15, .quiet)]  | 11 => [(0, .quiet), (1, .quiet), (2, .quiet), (3, .quiet), (4, .quiet), (5, .quiet), (6, .quiet), (7, .quiet), (8, .quiet), (9, .quiet), (10, .loud), (11, .quiet), (12, .quiet), (13, .quiet), (14, .quiet), (15, .quiet)] | _ => []⟩ Try.f4 = some a4 := by kernel_rfl

/- airline/airlinelaw23.MileageLeast -/
def a5 : AFun := ⟨152, [.tmp 6], (.seq (.reg [⟨(some 6), none, .p (.mv (.c (.bool false)))⟩])
  (.seq (.reg [⟨(some 19), none, .p (.mv (.t 0))⟩,
    ⟨(some 20), none, .p (.conv .i64 (.t 19))⟩,
    ⟨(some 21), none, .p (.mv (.t 1))⟩,
    ⟨(some 22), none, .p (.conv .i64 (.t 21))⟩,
    ⟨(some 23), none, .p (.bin .add (.t 22) (.c (.int .i64 1)))⟩,
    ⟨(some 7), none, .p (.mv (.t 20))⟩,
    ⟨(some 8), none, .p (.mv (.t 23))⟩])
  (.seq (.reg [⟨(some 25), none, .p (.mv (.t 7))⟩,
    ⟨(some 26), none, .p (.mv (.t 8))⟩,
    ⟨(some 27), none, .call 6 [(.t 25), (.t 26)]⟩,
    ⟨(some 24), none, .p (.mv (.t 27))⟩,
    ⟨(some 28), none, .p (.ext 0 (.t 24))⟩,
    ⟨(some 29), none, .p (.ext 1 (.t 24))⟩,
    ⟨(some 9), none, .p (.mv (.t 28))⟩,
    ⟨(some 10), none, .p (.mv (.t 29))⟩])
  (.seq (.reg [⟨(some 31), none, .p (.mv (.t 7))⟩,
    ⟨(some 32), none, .p (.bin .add (.t 31) (.c (.int .i64 1)))⟩,
    ⟨(some 33), none, .p (.mv (.t 8))⟩,
    ⟨(some 34), none, .call 6 [(.t 32), (.t 33)]⟩,
    ⟨(some 30), none, .p (.mv (.t 34))⟩,
    ⟨(some 35), none, .p (.ext 0 (.t 30))⟩,
    ⟨(some 36), none, .p (.ext 1 (.t 30))⟩,
    ⟨(some 11), none, .p (.mv (.t 35))⟩,
    ⟨(some 12), none, .p (.mv (.t 36))⟩])
  (.seq (.reg [⟨(some 38), none, .p (.mv (.t 7))⟩,
    ⟨(some 39), none, .p (.mv (.t 8))⟩,
    ⟨(some 40), none, .p (.bin .add (.t 39) (.c (.int .i64 1)))⟩,
    ⟨(some 41), none, .call 6 [(.t 38), (.t 40)]⟩,
    ⟨(some 37), none, .p (.mv (.t 41))⟩,
    ⟨(some 42), none, .p (.ext 0 (.t 37))⟩,
    ⟨(some 43), none, .p (.ext 1 (.t 37))⟩,
    ⟨(some 13), none, .p (.mv (.t 42))⟩,
    ⟨(some 14), none, .p (.mv (.t 43))⟩])
  (.seq (.seq (.reg [⟨(some 44), none, .p (.mv (.t 10))⟩,
    ⟨(some 45), none, .p (.bin .eql (.t 44) (.c (.int .i64 22)))⟩])
  (.cond (.t 45) (.seq (.reg [⟨(some 46), none, .p (.mv (.t 9))⟩,
    ⟨(some 47), none, .p (.bin .eql (.t 46) (.c (.int .i64 0)))⟩,
    ⟨(some 48), none, .p (.mv (.t 47))⟩,
    ⟨(some 49), (some (48, true)), .p (.mv (.t 12))⟩,
    ⟨(some 50), (some (48, true)), .p (.bin .eql (.t 49) (.c (.int .i64 22)))⟩,
    ⟨(some 51), none, .p (.pick (.t 48) (.t 50) (.c (.bool false)))⟩,
    ⟨(some 52), none, .p (.mv (.t 51))⟩,
    ⟨(some 53), (some (52, true)), .p (.mv (.t 7))⟩,
    ⟨(some 54), (some (52, true)), .p (.bin .mul (.t 53) (.c (.int .i64 100)))⟩,
    ⟨(some 55), (some (52, true)), .p (.mv (.t 8))⟩,
    ⟨(some 56), (some (52, true)), .p (.bin .mul (.t 55) (.c (.int .i64 125)))⟩,
    ⟨(some 57), (some (52, true)), .p (.bin .gtr (.t 54) (.t 56))⟩,
    ⟨(some 58), none, .p (.pick (.t 52) (.t 57) (.c (.bool false)))⟩,
    ⟨(some 59), none, .p (.mv (.t 58))⟩,
    ⟨(some 60), (some (59, true)), .call 10 []⟩,
    ⟨(some 61), none, .p (.pick (.t 59) (.t 60) (.c (.bool false)))⟩,
    ⟨(some 6), none, .p (.mv (.t 61))⟩])
  .ret) .skip))
  (.seq (.seq (.reg [⟨(some 62), none, .p (.mv (.t 10))⟩,
    ⟨(some 63), none, .p (.bin .neq (.t 62) (.c (.int .i64 0)))⟩,
    ⟨(some 64), none, .p (.mv (.t 63))⟩,
    ⟨(some 65), (some (64, false)), .p (.mv (.t 9))⟩,
    ⟨(some 66), (some (64, false)), .p (.bin .lss (.t 65) (.c (.int .i64 0)))⟩,
    ⟨(some 67), none, .p (.pick (.t 64) (.c (.bool true)) (.t 66))⟩,
    ⟨(some 68), none, .p (.mv (.t 67))⟩,
    ⟨(some 69), (some (68, false)), .p (.mv (.t 9))⟩,
    ⟨(some 70), (some (68, false)), .p (.bin .gtr (.t 69) (.c (.int .i64 25)))⟩,
    ⟨(some 71), none, .p (.pick (.t 68) (.c (.bool true)) (.t 70))⟩,
    ⟨(some 72), none, .p (.mv (.t 71))⟩,
    ⟨(some 73), (some (72, false)), .p (.mv (.t 9))⟩,
    ⟨(some 74), (some (72, false)), .p (.bin .rem (.t 73) (.c (.int .i64 5)))⟩,
    ⟨(some 75), (some (72, false)), .p (.bin .neq (.t 74) (.c (.int .i64 0)))⟩,
    ⟨(some 76), none, .p (.pick (.t 72) (.c (.bool true)) (.t 75))⟩,
    ⟨(some 77), none, .p (.mv (.t 76))⟩,
    ⟨(some 78), (some (77, false)), .p (.mv (.t 7))⟩,
    ⟨(some 79), (some (77, false)), .p (.bin .mul (.t 78) (.c (.int .i64 100)))⟩,
    ⟨(some 80), (some (77, false)), .p (.mv (.t 8))⟩,
    ⟨(some 81), (some (77, false)), .p (.mv (.t 9))⟩,
    ⟨(some 82), (some (77, false)), .p (.bin .add (.c (.int .i64 100)) (.t 81))⟩,
    ⟨(some 83), (some (77, false)), .p (.bin .mul (.t 80) (.t 82))⟩,
    ⟨(some 84), (some (77, false)), .p (.bin .gtr (.t 79) (.t 83))⟩,
    ⟨(some 85), none, .p (.pick (.t 77) (.c (.bool true)) (.t 84))⟩,
    ⟨(some 86), none, .p (.mv (.t 85))⟩,
    ⟨(some 87), (some (86, false)), .p (.mv (.t 9))⟩,
    ⟨(some 88), (some (86, false)), .p (.bin .gtr (.t 87) (.c (.int .i64 0)))⟩,
    ⟨(some 89), (some (86, false)), .p (.mv (.t 88))⟩,
    ⟨(some 90), (some (89, true)), .p (.mv (.t 7))⟩,
    ⟨(some 91), (some (89, true)), .p (.bin .mul (.t 90) (.c (.int .i64 100)))⟩,
    ⟨(some 92), (some (89, true)), .p (.mv (.t 8))⟩,
    ⟨(some 93), (some (89, true)), .p (.mv (.t 9))⟩,
    ⟨(some 94), (some (89, true)), .p (.bin .add (.c (.int .i64 95)) (.t 93))⟩,
    ⟨(some 95), (some (89, true)), .p (.bin .mul (.t 92) (.t 94))⟩,
    ⟨(some 96), (some (89, true)), .p (.bin .leq (.t 91) (.t 95))⟩,
    ⟨(some 97), (some (86, false)), .p (.pick (.t 89) (.t 96) (.c (.bool false)))⟩,
    ⟨(some 98), none, .p (.pick (.t 86) (.c (.bool true)) (.t 97))⟩,
    ⟨(some 99), none, .p (.mv (.t 98))⟩,
    ⟨(some 100), (some (99, false)), .p (.mv (.t 12))⟩,
    ⟨(some 101), (some (99, false)), .p (.bin .eql (.t 100) (.c (.int .i64 0)))⟩,
    ⟨(some 102), (some (99, false)), .p (.mv (.t 101))⟩,
    ⟨(some 103), (some (102, true)), .p (.mv (.t 11))⟩,
    ⟨(some 104), (some (102, true)), .p (.mv (.t 9))⟩,
    ⟨(some 105), (some (102, true)), .p (.bin .lss (.t 103) (.t 104))⟩,
    ⟨(some 106), (some (99, false)), .p (.pick (.t 102) (.t 105) (.c (.bool false)))⟩,
    ⟨(some 107), none, .p (.pick (.t 99) (.c (.bool true)) (.t 106))⟩,
    ⟨(some 108), none, .p (.mv (.t 107))⟩,
    ⟨(some 109), (some (108, false)), .p (.mv (.t 14))⟩,
    ⟨(some 110), (some (108, false)), .p (.bin .neq (.t 109) (.c (.int .i64 0)))⟩,
    ⟨(some 111), none, .p (.pick (.t 108) (.c (.bool true)) (.t 110))⟩,
    ⟨(some 112), none, .p (.mv (.t 111))⟩,
    ⟨(some 113), (some (112, false)), .p (.mv (.t 13))⟩,
    ⟨(some 114), (some (112, false)), .p (.mv (.t 9))⟩,
    ⟨(some 115), (some (112, false)), .p (.bin .gtr (.t 113) (.t 114))⟩,
    ⟨(some 116), none, .p (.pick (.t 112) (.c (.bool true)) (.t 115))⟩])
  (.cond (.t 116) (.seq (.reg [⟨(some 6), none, .p (.mv (.c (.bool false)))⟩])
  .ret) .skip))
  (.seq (.reg [⟨(some 117), none, .p (.mv (.t 2))⟩,
    ⟨(some 118), none, .p (.conv .i64 (.t 117))⟩,
    ⟨(some 15), none, .p (.mv (.t 118))⟩])
  (.seq (.seq (.reg [⟨(some 16), none, .p (.mv (.c (.int .i64 0)))⟩])
  (.block 0 (.loop (.seq (.seq (.reg [⟨(some 119), none, .p (.mv (.t 16))⟩,
    ⟨(some 120), none, .p (.bin .leq (.t 119) (.c (.int .i64 25)))⟩])
  (.cond (.t 120) .skip (.exit 0)))
  (.seq (.block 1 (.seq (.reg [⟨(some 124), none, .p (.mv (.t 2))⟩,
    ⟨(some 125), none, .p (.conv .i64 (.t 124))⟩,
    ⟨(some 126), none, .p (.mv (.t 16))⟩,
    ⟨(some 127), none, .call 8 [(.t 125), (.t 126)]⟩,
    ⟨(some 123), none, .p (.mv (.t 127))⟩,
    ⟨(some 128), none, .p (.ext 0 (.t 123))⟩,
    ⟨(some 129), none, .p (.ext 1 (.t 123))⟩,
    ⟨(some 17), none, .p (.mv (.t 128))⟩,
    ⟨(some 18), none, .p (.mv (.t 129))⟩])
  (.seq (.seq (.reg [⟨(some 130), none, .p (.mv (.t 18))⟩,
    ⟨(some 131), none, .p (.bin .neq (.t 130) (.c (.int .i64 0)))⟩,
    ⟨(some 132), none, .p (.mv (.t 131))⟩,
    ⟨(some 133), (some (132, false)), .p (.mv (.t 2))⟩,
    ⟨(some 134), (some (132, false)), .p (.bin .geq (.t 133) (.c (.int .i32 0)))⟩,
    ⟨(some 135), (some (132, false)), .p (.mv (.t 134))⟩,
    ⟨(some 136), (some (135, true)), .p (.mv (.t 17))⟩,
    ⟨(some 137), (some (135, true)), .p (.mv (.t 15))⟩,
    ⟨(some 138), (some (135, true)), .p (.bin .lss (.t 136) (.t 137))⟩,
    ⟨(some 139), (some (132, false)), .p (.pick (.t 135) (.t 138) (.c (.bool false)))⟩,
    ⟨(some 140), none, .p (.pick (.t 132) (.c (.bool true)) (.t 139))⟩,
    ⟨(some 141), none, .p (.mv (.t 140))⟩,
    ⟨(some 142), (some (141, false)), .p (.mv (.t 2))⟩,
    ⟨(some 143), (some (141, false)), .p (.bin .lss (.t 142) (.c (.int .i32 0)))⟩,
    ⟨(some 144), (some (141, false)), .p (.mv (.t 143))⟩,
    ⟨(some 145), (some (144, true)), .p (.mv (.t 17))⟩,
    ⟨(some 146), (some (144, true)), .p (.mv (.t 15))⟩,
    ⟨(some 147), (some (144, true)), .p (.bin .gtr (.t 145) (.t 146))⟩,
    ⟨(some 148), (some (141, false)), .p (.pick (.t 144) (.t 147) (.c (.bool false)))⟩,
    ⟨(some 149), none, .p (.pick (.t 141) (.c (.bool true)) (.t 148))⟩])
  (.cond (.t 149) (.seq (.reg [⟨(some 6), none, .p (.mv (.c (.bool false)))⟩])
  .ret) .skip))
  (.reg [⟨(some 150), none, .p (.mv (.t 17))⟩,
    ⟨(some 15), none, .p (.mv (.t 150))⟩]))))
  (.reg [⟨(some 121), none, .p (.mv (.t 16))⟩,
    ⟨(some 122), none, .p (.bin .add (.t 121) (.c (.int .i64 5)))⟩,
    ⟨(some 16), none, .p (.mv (.t 122))⟩]))))))
  (.seq (.reg [⟨(some 151), none, .call 10 []⟩,
    ⟨(some 6), none, .p (.mv (.t 151))⟩])
  .ret))))))))))⟩
theorem c5 : compF Try.prog ⟨fun s => [].contains s, fun _ => []⟩ Try.f5 = some a5 := by kernel_rfl

/- airline/mileage.Level -/
def a6 : AFun := ⟨33, [.tmp 4, .tmp 5], (.seq (.reg [⟨(some 4), none, .p (.mv (.c (.int .i64 0)))⟩,
    ⟨(some 5), none, .p (.mv (.c (.int .i64 0)))⟩])
  (.seq (.seq (.reg [⟨(some 7), none, .p (.mv (.t 0))⟩,
    ⟨(some 8), none, .p (.bin .lss (.t 7) (.c (.int .i64 0)))⟩,
    ⟨(some 9), none, .p (.mv (.t 8))⟩,
    ⟨(some 10), (some (9, false)), .p (.mv (.t 0))⟩,
    ⟨(some 11), (some (9, false)), .p (.bin .gtr (.t 10) (.c (.int .i64 1099511627776)))⟩,
    ⟨(some 12), none, .p (.pick (.t 9) (.c (.bool true)) (.t 11))⟩,
    ⟨(some 13), none, .p (.mv (.t 12))⟩,
    ⟨(some 14), (some (13, false)), .p (.mv (.t 1))⟩,
    ⟨(some 15), (some (13, false)), .p (.bin .lss (.t 14) (.c (.int .i64 1)))⟩,
    ⟨(some 16), none, .p (.pick (.t 13) (.c (.bool true)) (.t 15))⟩,
    ⟨(some 17), none, .p (.mv (.t 16))⟩,
    ⟨(some 18), (some (17, false)), .p (.mv (.t 1))⟩,
    ⟨(some 19), (some (17, false)), .p (.bin .gtr (.t 18) (.c (.int .i64 1099511627776)))⟩,
    ⟨(some 20), none, .p (.pick (.t 17) (.c (.bool true)) (.t 19))⟩])
  (.cond (.t 20) (.seq (.reg [⟨(some 4), none, .p (.mv (.c (.int .i64 0)))⟩,
    ⟨(some 5), none, .p (.mv (.c (.int .i64 2)))⟩])
  .ret) .skip))
  (.seq (.seq (.reg [⟨(some 6), none, .p (.mv (.c (.int .i64 0)))⟩])
  (.block 0 (.loop (.seq (.seq (.reg [⟨(some 21), none, .p (.mv (.t 6))⟩,
    ⟨(some 22), none, .p (.bin .leq (.t 21) (.c (.int .i64 25)))⟩])
  (.cond (.t 22) .skip (.exit 0)))
  (.seq (.block 1 (.seq (.reg [⟨(some 25), none, .p (.mv (.t 0))⟩,
    ⟨(some 26), none, .p (.bin .mul (.t 25) (.c (.int .i64 100)))⟩,
    ⟨(some 27), none, .p (.mv (.t 1))⟩,
    ⟨(some 28), none, .p (.mv (.t 6))⟩,
    ⟨(some 29), none, .p (.bin .add (.c (.int .i64 100)) (.t 28))⟩,
    ⟨(some 30), none, .p (.bin .mul (.t 27) (.t 29))⟩,
    ⟨(some 31), none, .p (.bin .leq (.t 26) (.t 30))⟩])
  (.cond (.t 31) (.seq (.reg [⟨(some 32), none, .p (.mv (.t 6))⟩,
    ⟨(some 4), none, .p (.mv (.t 32))⟩,
    ⟨(some 5), none, .p (.mv (.c (.int .i64 0)))⟩])
  .ret) .skip)))
  (.reg [⟨(some 23), none, .p (.mv (.t 6))⟩,
    ⟨(some 24), none, .p (.bin .add (.t 23) (.c (.int .i64 5)))⟩,
    ⟨(some 6), none, .p (.mv (.t 24))⟩]))))))
  (.seq (.reg [⟨(some 4), none, .p (.mv (.c (.int .i64 0)))⟩,
    ⟨(some 5), none, .p (.mv (.c (.int .i64 22)))⟩])
  .ret))))⟩
theorem c6 : compF Try.prog ⟨fun s => [].contains s, fun _ => []⟩ Try.f6 = some a6 := by kernel_rfl

/- airline/airlineref23.Level -/
def a7 : AFun := ⟨33, [.tmp 4, .tmp 5], (.seq (.reg [⟨(some 4), none, .p (.mv (.c (.int .i64 0)))⟩,
    ⟨(some 5), none, .p (.mv (.c (.int .i64 0)))⟩])
  (.seq (.seq (.reg [⟨(some 7), none, .p (.mv (.t 0))⟩,
    ⟨(some 8), none, .p (.bin .lss (.t 7) (.c (.int .i64 0)))⟩,
    ⟨(some 9), none, .p (.mv (.t 8))⟩,
    ⟨(some 10), (some (9, false)), .p (.mv (.t 0))⟩,
    ⟨(some 11), (some (9, false)), .p (.bin .gtr (.t 10) (.c (.int .i64 1099511627776)))⟩,
    ⟨(some 12), none, .p (.pick (.t 9) (.c (.bool true)) (.t 11))⟩,
    ⟨(some 13), none, .p (.mv (.t 12))⟩,
    ⟨(some 14), (some (13, false)), .p (.mv (.t 1))⟩,
    ⟨(some 15), (some (13, false)), .p (.bin .lss (.t 14) (.c (.int .i64 1)))⟩,
    ⟨(some 16), none, .p (.pick (.t 13) (.c (.bool true)) (.t 15))⟩,
    ⟨(some 17), none, .p (.mv (.t 16))⟩,
    ⟨(some 18), (some (17, false)), .p (.mv (.t 1))⟩,
    ⟨(some 19), (some (17, false)), .p (.bin .gtr (.t 18) (.c (.int .i64 1099511627776)))⟩,
    ⟨(some 20), none, .p (.pick (.t 17) (.c (.bool true)) (.t 19))⟩])
  (.cond (.t 20) (.seq (.reg [⟨(some 4), none, .p (.mv (.c (.int .i64 0)))⟩,
    ⟨(some 5), none, .p (.mv (.c (.int .i64 2)))⟩])
  .ret) .skip))
  (.seq (.seq (.reg [⟨(some 6), none, .p (.mv (.c (.int .i64 0)))⟩])
  (.block 0 (.loop (.seq (.seq (.reg [⟨(some 21), none, .p (.mv (.t 6))⟩,
    ⟨(some 22), none, .p (.bin .leq (.t 21) (.c (.int .i64 25)))⟩])
  (.cond (.t 22) .skip (.exit 0)))
  (.seq (.block 1 (.seq (.reg [⟨(some 25), none, .p (.mv (.t 0))⟩,
    ⟨(some 26), none, .p (.bin .mul (.t 25) (.c (.int .i64 100)))⟩,
    ⟨(some 27), none, .p (.mv (.t 1))⟩,
    ⟨(some 28), none, .p (.mv (.t 6))⟩,
    ⟨(some 29), none, .p (.bin .add (.c (.int .i64 100)) (.t 28))⟩,
    ⟨(some 30), none, .p (.bin .mul (.t 27) (.t 29))⟩,
    ⟨(some 31), none, .p (.bin .leq (.t 26) (.t 30))⟩])
  (.cond (.t 31) (.seq (.reg [⟨(some 32), none, .p (.mv (.t 6))⟩,
    ⟨(some 4), none, .p (.mv (.t 32))⟩,
    ⟨(some 5), none, .p (.mv (.c (.int .i64 0)))⟩])
  .ret) .skip)))
  (.reg [⟨(some 23), none, .p (.mv (.t 6))⟩,
    ⟨(some 24), none, .p (.bin .add (.t 23) (.c (.int .i64 5)))⟩,
    ⟨(some 6), none, .p (.mv (.t 24))⟩]))))))
  (.seq (.reg [⟨(some 4), none, .p (.mv (.c (.int .i64 0)))⟩,
    ⟨(some 5), none, .p (.mv (.c (.int .i64 22)))⟩])
  .ret))))⟩
theorem c7 : compF Try.prog ⟨fun s => [].contains s, fun _ => []⟩ Try.f7 = some a7 := by kernel_rfl

/- airline/mileage.Apply -/
def a8 : AFun := ⟨24, [.tmp 4, .tmp 5], (.seq (.reg [⟨(some 4), none, .p (.mv (.c (.int .i64 0)))⟩,
    ⟨(some 5), none, .p (.mv (.c (.int .i64 0)))⟩])
  (.seq (.seq (.reg [⟨(some 6), none, .p (.mv (.t 1))⟩,
    ⟨(some 7), none, .p (.bin .lss (.t 6) (.c (.int .i64 0)))⟩,
    ⟨(some 8), none, .p (.mv (.t 7))⟩,
    ⟨(some 9), (some (8, false)), .p (.mv (.t 1))⟩,
    ⟨(some 10), (some (8, false)), .p (.bin .gtr (.t 9) (.c (.int .i64 25)))⟩,
    ⟨(some 11), none, .p (.pick (.t 8) (.c (.bool true)) (.t 10))⟩,
    ⟨(some 12), none, .p (.mv (.t 11))⟩,
    ⟨(some 13), (some (12, false)), .p (.mv (.t 1))⟩,
    ⟨(some 14), (some (12, false)), .p (.bin .rem (.t 13) (.c (.int .i64 5)))⟩,
    ⟨(some 15), (some (12, false)), .p (.bin .neq (.t 14) (.c (.int .i64 0)))⟩,
    ⟨(some 16), none, .p (.pick (.t 12) (.c (.bool true)) (.t 15))⟩])
  (.cond (.t 16) (.seq (.reg [⟨(some 4), none, .p (.mv (.c (.int .i64 0)))⟩,
    ⟨(some 5), none, .p (.mv (.c (.int .i64 2)))⟩])
  .ret) .skip))
  (.seq (.reg [⟨(some 17), none, .p (.mv (.t 0))⟩,
    ⟨(some 18), none, .p (.mv (.t 1))⟩,
    ⟨(some 19), none, .p (.bin .add (.c (.int .i64 100)) (.t 18))⟩,
    ⟨(some 20), none, .p (.bin .mul (.t 19) (.c (.int .i64 100)))⟩,
    ⟨(some 21), none, .call 15 [(.t 17), (.t 20)]⟩,
    ⟨(some 22), none, .p (.ext 0 (.t 21))⟩,
    ⟨(some 23), none, .p (.ext 1 (.t 21))⟩,
    ⟨(some 4), none, .p (.mv (.t 22))⟩,
    ⟨(some 5), none, .p (.mv (.t 23))⟩])
  .ret)))⟩
theorem c8 : compF Try.prog ⟨fun s => [].contains s, fun _ => []⟩ Try.f8 = some a8 := by kernel_rfl

/- airline/airlineref23.Apply -/
def a9 : AFun := ⟨21, [.tmp 4, .tmp 5], (.seq (.reg [⟨(some 4), none, .p (.mv (.c (.int .i64 0)))⟩,
    ⟨(some 5), none, .p (.mv (.c (.int .i64 0)))⟩])
  (.seq (.seq (.reg [⟨(some 6), none, .p (.mv (.c (.int .i64 0)))⟩])
  (.block 0 (.loop (.seq (.seq (.reg [⟨(some 7), none, .p (.mv (.t 6))⟩,
    ⟨(some 8), none, .p (.bin .leq (.t 7) (.c (.int .i64 25)))⟩])
  (.cond (.t 8) .skip (.exit 0)))
  (.seq (.block 1 (.seq (.reg [⟨(some 11), none, .p (.mv (.t 6))⟩,
    ⟨(some 12), none, .p (.mv (.t 1))⟩,
    ⟨(some 13), none, .p (.bin .eql (.t 11) (.t 12))⟩])
  (.cond (.t 13) (.seq (.reg [⟨(some 14), none, .p (.mv (.t 0))⟩,
    ⟨(some 15), none, .p (.mv (.t 6))⟩,
    ⟨(some 16), none, .p (.bin .add (.c (.int .i64 100)) (.t 15))⟩,
    ⟨(some 17), none, .p (.bin .mul (.t 16) (.c (.int .i64 100)))⟩,
    ⟨(some 18), none, .call 16 [(.t 14), (.t 17)]⟩,
    ⟨(some 19), none, .p (.ext 0 (.t 18))⟩,
    ⟨(some 20), none, .p (.ext 1 (.t 18))⟩,
    ⟨(some 4), none, .p (.mv (.t 19))⟩,
    ⟨(some 5), none, .p (.mv (.t 20))⟩])
  .ret) .skip)))
  (.reg [⟨(some 9), none, .p (.mv (.t 6))⟩,
    ⟨(some 10), none, .p (.bin .add (.t 9) (.c (.int .i64 5)))⟩,
    ⟨(some 6), none, .p (.mv (.t 10))⟩]))))))
  (.seq (.reg [⟨(some 4), none, .p (.mv (.c (.int .i64 0)))⟩,
    ⟨(some 5), none, .p (.mv (.c (.int .i64 2)))⟩])
  .ret)))⟩
theorem c9 : compF Try.prog ⟨fun s => [].contains s, fun _ => []⟩ Try.f9 = some a9 := by kernel_rfl

/- airline/airlinelaw23.knows -/
def a10 : AFun := ⟨89, [.tmp 0], (.seq (.reg [⟨(some 0), none, .p (.mv (.c (.bool false)))⟩])
  (.seq (.reg [⟨(some 15), none, .call 6 [(.c (.int .i64 1001)), (.c (.int .i64 1000))]⟩,
    ⟨(some 14), none, .p (.mv (.t 15))⟩,
    ⟨(some 16), none, .p (.ext 0 (.t 14))⟩,
    ⟨(some 17), none, .p (.ext 1 (.t 14))⟩,
    ⟨(some 1), none, .p (.mv (.t 16))⟩,
    ⟨(some 2), none, .p (.mv (.t 17))⟩])
  (.seq (.reg [⟨(some 19), none, .call 6 [(.c (.int .i64 1250)), (.c (.int .i64 1000))]⟩,
    ⟨(some 18), none, .p (.mv (.t 19))⟩,
    ⟨(some 20), none, .p (.ext 0 (.t 18))⟩,
    ⟨(some 21), none, .p (.ext 1 (.t 18))⟩,
    ⟨(some 3), none, .p (.mv (.t 20))⟩,
    ⟨(some 4), none, .p (.mv (.t 21))⟩])
  (.seq (.reg [⟨(some 23), none, .call 6 [(.c (.int .i64 1251)), (.c (.int .i64 1000))]⟩,
    ⟨(some 22), none, .p (.mv (.t 23))⟩,
    ⟨(some 24), none, .p (.ext 0 (.t 22))⟩,
    ⟨(some 25), none, .p (.ext 1 (.t 22))⟩,
    ⟨(some 5), none, .p (.mv (.t 24))⟩,
    ⟨(some 6), none, .p (.mv (.t 25))⟩])
  (.seq (.reg [⟨(some 26), none, .p (.build [(.str []), (.str []), (.str []), (.int .i64 0), .nilSl] [(0, 1, (.c (.str [76, 72, 82]))), (1, 1, (.c (.str [76, 79, 78]))), (2, 1, (.c (.str [71, 66])))])⟩,
    ⟨(some 27), none, .p (.build [(.str []), (.str []), (.str []), (.int .i64 0), .nilSl] [(0, 1, (.c (.str [74, 70, 75]))), (1, 1, (.c (.str [78, 89, 67]))), (2, 1, (.c (.str [85, 83])))])⟩,
    ⟨(some 28), none, .p (.bsl 5 [(.str []), (.str []), (.str []), (.int .i64 0), .nilSl] 2 [(0, (.t 26)), (1, (.t 27))])⟩,
    ⟨(some 29), none, .p (.build [(.str []), (.str []), (.int .i64 0)] [(0, 1, (.c (.str [76, 79, 78]))), (1, 1, (.c (.str [78, 89, 67]))), (2, 1, (.c (.int .i64 3458)))])⟩,
    ⟨(some 30), none, .p (.bsl 3 [(.str []), (.str []), (.int .i64 0)] 1 [(0, (.t 29))])⟩,
    ⟨(some 31), none, .p (.build [.nilSl, .nilSl] [(0, 1, (.t 28)), (1, 1, (.t 30))])⟩,
    ⟨(some 7), none, .newO 30 [.nilSl, .nilSl]⟩,
    ⟨none, none, .st 2 (.t 7) (.t 31)⟩])
  (.seq (.reg [⟨(some 33), none, .p (.ldn 2 (.t 7))⟩,
    ⟨(some 34), none, .call 13 [(.t 33), (.c (.str [76, 72, 82])), (.c (.str [78, 89, 67]))]⟩,
    ⟨(some 32), none, .p (.mv (.t 34))⟩,
    ⟨(some 35), none, .p (.ext 0 (.t 32))⟩,
    ⟨(some 36), none, .p (.ext 1 (.t 32))⟩,
    ⟨(some 8), none, .p (.mv (.t 35))⟩,
    ⟨(some 9), none, .p (.mv (.t 36))⟩])
  (.seq (.reg [⟨(some 38), none, .call 8 [(.c (.int .i64 10050)), (.c (.int .i64 5))]⟩,
    ⟨(some 37), none, .p (.mv (.t 38))⟩,
    ⟨(some 39), none, .p (.ext 0 (.t 37))⟩,
    ⟨(some 40), none, .p (.ext 1 (.t 37))⟩,
    ⟨(some 10), none, .p (.mv (.t 39))⟩,
    ⟨(some 11), none, .p (.mv (.t 40))⟩])
  (.seq (.reg [⟨(some 42), none, .p (.ldn 2 (.t 7))⟩,
    ⟨(some 43), none, .p (.bsl 1 [(.str [])] 2 [(0, (.c (.str [76, 79, 78]))), (1, (.c (.str [78, 89, 67])))])⟩,
    ⟨(some 44), none, .call 11 [(.t 42), (.t 43), (.c (.int .i64 3400))]⟩,
    ⟨(some 41), none, .p (.mv (.t 44))⟩,
    ⟨(some 45), none, .p (.ext 0 (.t 41))⟩,
    ⟨(some 46), none, .p (.ext 1 (.t 41))⟩,
    ⟨(some 12), none, .p (.mv (.t 45))⟩,
    ⟨(some 13), none, .p (.mv (.t 46))⟩])
  (.seq (.reg [⟨(some 47), none, .p (.mv (.t 1))⟩,
    ⟨(some 48), none, .p (.bin .eql (.t 47) (.c (.int .i64 5)))⟩,
    ⟨(some 49), none, .p (.mv (.t 48))⟩,
    ⟨(some 50), (some (49, true)), .p (.mv (.t 2))⟩,
    ⟨(some 51), (some (49, true)), .p (.bin .eql (.t 50) (.c (.int .i64 0)))⟩,
    ⟨(some 52), none, .p (.pick (.t 49) (.t 51) (.c (.bool false)))⟩,
    ⟨(some 53), none, .p (.mv (.t 52))⟩,
    ⟨(some 54), (some (53, true)), .p (.mv (.t 3))⟩,
    ⟨(some 55), (some (53, true)), .p (.bin .eql (.t 54) (.c (.int .i64 25)))⟩,
    ⟨(some 56), none, .p (.pick (.t 53) (.t 55) (.c (.bool false)))⟩,
    ⟨(some 57), none, .p (.mv (.t 56))⟩,
    ⟨(some 58), (some (57, true)), .p (.mv (.t 4))⟩,
    ⟨(some 59), (some (57, true)), .p (.bin .eql (.t 58) (.c (.int .i64 0)))⟩,
    ⟨(some 60), none, .p (.pick (.t 57) (.t 59) (.c (.bool false)))⟩,
    ⟨(some 61), none, .p (.mv (.t 60))⟩,
    ⟨(some 62), (some (61, true)), .p (.mv (.t 6))⟩,
    ⟨(some 63), (some (61, true)), .p (.bin .eql (.t 62) (.c (.int .i64 22)))⟩,
    ⟨(some 64), none, .p (.pick (.t 61) (.t 63) (.c (.bool false)))⟩,
    ⟨(some 65), none, .p (.mv (.t 64))⟩,
    ⟨(some 66), (some (65, true)), .p (.mv (.t 8))⟩,
    ⟨(some 67), (some (65, true)), .p (.bin .eql (.t 66) (.c (.int .i64 4150)))⟩,
    ⟨(some 68), none, .p (.pick (.t 65) (.t 67) (.c (.bool false)))⟩,
    ⟨(some 69), none, .p (.mv (.t 68))⟩,
    ⟨(some 70), (some (69, true)), .p (.mv (.t 9))⟩,
    ⟨(some 71), (some (69, true)), .p (.bin .eql (.t 70) (.c (.int .i64 0)))⟩,
    ⟨(some 72), none, .p (.pick (.t 69) (.t 71) (.c (.bool false)))⟩,
    ⟨(some 73), none, .p (.mv (.t 72))⟩,
    ⟨(some 74), (some (73, true)), .p (.mv (.t 10))⟩,
    ⟨(some 75), (some (73, true)), .p (.bin .eql (.t 74) (.c (.int .i64 10553)))⟩,
    ⟨(some 76), none, .p (.pick (.t 73) (.t 75) (.c (.bool false)))⟩,
    ⟨(some 77), none, .p (.mv (.t 76))⟩,
    ⟨(some 78), (some (77, true)), .p (.mv (.t 11))⟩,
    ⟨(some 79), (some (77, true)), .p (.bin .eql (.t 78) (.c (.int .i64 0)))⟩,
    ⟨(some 80), none, .p (.pick (.t 77) (.t 79) (.c (.bool false)))⟩,
    ⟨(some 81), none, .p (.mv (.t 80))⟩,
    ⟨(some 82), (some (81, true)), .p (.mv (.t 12))⟩,
    ⟨(some 83), (some (81, true)), .p (.bin .eql (.t 82) (.c (.int .i64 5)))⟩,
    ⟨(some 84), none, .p (.pick (.t 81) (.t 83) (.c (.bool false)))⟩,
    ⟨(some 85), none, .p (.mv (.t 84))⟩,
    ⟨(some 86), (some (85, true)), .p (.mv (.t 13))⟩,
    ⟨(some 87), (some (85, true)), .p (.bin .eql (.t 86) (.c (.int .i64 0)))⟩,
    ⟨(some 88), none, .p (.pick (.t 85) (.t 87) (.c (.bool false)))⟩,
    ⟨(some 0), none, .p (.mv (.t 88))⟩])
  .ret)))))))))⟩
theorem c10 : compF Try.prog ⟨fun s => [].contains s, fun _ => []⟩ Try.f10 = some a10 := by kernel_rfl

/- airline/mileage.Of -/
def a11 : AFun := ⟨24, [.tmp 6, .tmp 7], (.seq (.reg [⟨(some 3), none, .p (.boxI (.t 0))⟩,
    ⟨(some 6), none, .p (.mv (.c (.int .i64 0)))⟩,
    ⟨(some 7), none, .p (.mv (.c (.int .i64 0)))⟩])
  (.seq (.reg [⟨(some 11), none, .p (.ldn 2 (.t 3))⟩,
    ⟨(some 12), none, .p (.mv (.t 1))⟩,
    ⟨(some 13), none, .call 17 [(.t 11), (.t 12)]⟩,
    ⟨(some 10), none, .p (.mv (.t 13))⟩,
    ⟨(some 14), none, .p (.ext 0 (.t 10))⟩,
    ⟨(some 15), none, .p (.ext 1 (.t 10))⟩,
    ⟨(some 8), none, .p (.mv (.t 14))⟩,
    ⟨(some 9), none, .p (.mv (.t 15))⟩])
  (.seq (.seq (.reg [⟨(some 16), none, .p (.mv (.t 9))⟩,
    ⟨(some 17), none, .p (.bin .neq (.t 16) (.c (.int .i64 0)))⟩])
  (.cond (.t 17) (.seq (.reg [⟨(some 18), none, .p (.mv (.t 9))⟩,
    ⟨(some 6), none, .p (.mv (.c (.int .i64 0)))⟩,
    ⟨(some 7), none, .p (.mv (.t 18))⟩])
  .ret) .skip))
  (.seq (.reg [⟨(some 19), none, .p (.mv (.t 8))⟩,
    ⟨(some 20), none, .p (.mv (.t 2))⟩,
    ⟨(some 21), none, .call 6 [(.t 19), (.t 20)]⟩,
    ⟨(some 22), none, .p (.ext 0 (.t 21))⟩,
    ⟨(some 23), none, .p (.ext 1 (.t 21))⟩,
    ⟨(some 6), none, .p (.mv (.t 22))⟩,
    ⟨(some 7), none, .p (.mv (.t 23))⟩])
  .ret))))⟩
theorem c11 : compF Try.prog ⟨fun s => [].contains s, fun _ => []⟩ Try.f11 = some a11 := by kernel_rfl

/- airline/airlineref23.Of -/
def a12 : AFun := ⟨24, [.tmp 6, .tmp 7], (.seq (.reg [⟨(some 3), none, .p (.boxI (.t 0))⟩,
    ⟨(some 6), none, .p (.mv (.c (.int .i64 0)))⟩,
    ⟨(some 7), none, .p (.mv (.c (.int .i64 0)))⟩])
  (.seq (.reg [⟨(some 11), none, .p (.ldn 2 (.t 3))⟩,
    ⟨(some 12), none, .p (.mv (.t 1))⟩,
    ⟨(some 13), none, .call 18 [(.t 11), (.t 12)]⟩,
    ⟨(some 10), none, .p (.mv (.t 13))⟩,
    ⟨(some 14), none, .p (.ext 0 (.t 10))⟩,
    ⟨(some 15), none, .p (.ext 1 (.t 10))⟩,
    ⟨(some 8), none, .p (.mv (.t 14))⟩,
    ⟨(some 9), none, .p (.mv (.t 15))⟩])
  (.seq (.seq (.reg [⟨(some 16), none, .p (.mv (.t 9))⟩,
    ⟨(some 17), none, .p (.bin .neq (.t 16) (.c (.int .i64 0)))⟩])
  (.cond (.t 17) (.seq (.reg [⟨(some 18), none, .p (.mv (.t 9))⟩,
    ⟨(some 6), none, .p (.mv (.c (.int .i64 0)))⟩,
    ⟨(some 7), none, .p (.mv (.t 18))⟩])
  .ret) .skip))
  (.seq (.reg [⟨(some 19), none, .p (.mv (.t 8))⟩,
    ⟨(some 20), none, .p (.mv (.t 2))⟩,
    ⟨(some 21), none, .call 7 [(.t 19), (.t 20)]⟩,
    ⟨(some 22), none, .p (.ext 0 (.t 21))⟩,
    ⟨(some 23), none, .p (.ext 1 (.t 21))⟩,
    ⟨(some 6), none, .p (.mv (.t 22))⟩,
    ⟨(some 7), none, .p (.mv (.t 23))⟩])
  .ret))))⟩
theorem c12 : compF Try.prog ⟨fun s => [].contains s, fun _ => []⟩ Try.f12 = some a12 := by kernel_rfl

/- airline/mileage.Most -/
def a13 : AFun := ⟨24, [.tmp 6, .tmp 7], (.seq (.reg [⟨(some 3), none, .p (.boxI (.t 0))⟩,
    ⟨(some 6), none, .p (.mv (.c (.int .i64 0)))⟩,
    ⟨(some 7), none, .p (.mv (.c (.int .i64 0)))⟩])
  (.seq (.reg [⟨(some 11), none, .p (.ldn 2 (.t 3))⟩,
    ⟨(some 12), none, .p (.mv (.t 1))⟩,
    ⟨(some 13), none, .p (.mv (.t 2))⟩,
    ⟨(some 14), none, .call 19 [(.t 11), (.t 12), (.t 13)]⟩,
    ⟨(some 10), none, .p (.mv (.t 14))⟩,
    ⟨(some 15), none, .p (.ext 0 (.t 10))⟩,
    ⟨(some 16), none, .p (.ext 1 (.t 10))⟩,
    ⟨(some 8), none, .p (.mv (.t 15))⟩,
    ⟨(some 9), none, .p (.mv (.t 16))⟩])
  (.seq (.seq (.reg [⟨(some 17), none, .p (.mv (.t 9))⟩,
    ⟨(some 18), none, .p (.bin .neq (.t 17) (.c (.int .i64 0)))⟩])
  (.cond (.t 18) (.seq (.reg [⟨(some 19), none, .p (.mv (.t 9))⟩,
    ⟨(some 6), none, .p (.mv (.c (.int .i64 0)))⟩,
    ⟨(some 7), none, .p (.mv (.t 19))⟩])
  .ret) .skip))
  (.seq (.reg [⟨(some 20), none, .p (.mv (.t 8))⟩,
    ⟨(some 21), none, .call 15 [(.t 20), (.c (.int .i64 12000))]⟩,
    ⟨(some 22), none, .p (.ext 0 (.t 21))⟩,
    ⟨(some 23), none, .p (.ext 1 (.t 21))⟩,
    ⟨(some 6), none, .p (.mv (.t 22))⟩,
    ⟨(some 7), none, .p (.mv (.t 23))⟩])
  .ret))))⟩
theorem c13 : compF Try.prog ⟨fun s => [].contains s, fun _ => []⟩ Try.f13 = some a13 := by kernel_rfl

/- airline/airlineref23.Most -/
def a14 : AFun := ⟨24, [.tmp 6, .tmp 7], (.seq (.reg [⟨(some 3), none, .p (.boxI (.t 0))⟩,
    ⟨(some 6), none, .p (.mv (.c (.int .i64 0)))⟩,
    ⟨(some 7), none, .p (.mv (.c (.int .i64 0)))⟩])
  (.seq (.reg [⟨(some 11), none, .p (.ldn 2 (.t 3))⟩,
    ⟨(some 12), none, .p (.mv (.t 1))⟩,
    ⟨(some 13), none, .p (.mv (.t 2))⟩,
    ⟨(some 14), none, .call 20 [(.t 11), (.t 12), (.t 13)]⟩,
    ⟨(some 10), none, .p (.mv (.t 14))⟩,
    ⟨(some 15), none, .p (.ext 0 (.t 10))⟩,
    ⟨(some 16), none, .p (.ext 1 (.t 10))⟩,
    ⟨(some 8), none, .p (.mv (.t 15))⟩,
    ⟨(some 9), none, .p (.mv (.t 16))⟩])
  (.seq (.seq (.reg [⟨(some 17), none, .p (.mv (.t 9))⟩,
    ⟨(some 18), none, .p (.bin .neq (.t 17) (.c (.int .i64 0)))⟩])
  (.cond (.t 18) (.seq (.reg [⟨(some 19), none, .p (.mv (.t 9))⟩,
    ⟨(some 6), none, .p (.mv (.c (.int .i64 0)))⟩,
    ⟨(some 7), none, .p (.mv (.t 19))⟩])
  .ret) .skip))
  (.seq (.reg [⟨(some 20), none, .p (.mv (.t 8))⟩,
    ⟨(some 21), none, .call 16 [(.t 20), (.c (.int .i64 12000))]⟩,
    ⟨(some 22), none, .p (.ext 0 (.t 21))⟩,
    ⟨(some 23), none, .p (.ext 1 (.t 21))⟩,
    ⟨(some 6), none, .p (.mv (.t 22))⟩,
    ⟨(some 7), none, .p (.mv (.t 23))⟩])
  .ret))))⟩
theorem c14 : compF Try.prog ⟨fun s => [].contains s, fun _ => []⟩ Try.f14 = some a14 := by kernel_rfl

/- airline/money.Percent -/
def a15 : AFun := ⟨56, [.tmp 4, .tmp 5], (.seq (.reg [⟨(some 4), none, .p (.mv (.c (.int .i64 0)))⟩,
    ⟨(some 5), none, .p (.mv (.c (.int .i64 0)))⟩])
  (.seq (.seq (.reg [⟨(some 10), none, .p (.mv (.t 0))⟩,
    ⟨(some 11), none, .call 21 [(.t 10)]⟩,
    ⟨(some 12), none, .p (.not (.t 11))⟩,
    ⟨(some 13), none, .p (.mv (.t 12))⟩,
    ⟨(some 14), (some (13, false)), .p (.mv (.t 1))⟩,
    ⟨(some 15), (some (13, false)), .call 21 [(.t 14)]⟩,
    ⟨(some 16), (some (13, false)), .p (.not (.t 15))⟩,
    ⟨(some 17), none, .p (.pick (.t 13) (.c (.bool true)) (.t 16))⟩])
  (.cond (.t 17) (.seq (.reg [⟨(some 4), none, .p (.mv (.c (.int .i64 0)))⟩,
    ⟨(some 5), none, .p (.mv (.c (.int .i64 11)))⟩])
  .ret) .skip))
  (.seq (.reg [⟨(some 19), none, .p (.mv (.t 0))⟩,
    ⟨(some 20), none, .call 23 [(.t 19)]⟩,
    ⟨(some 21), none, .p (.mv (.t 1))⟩,
    ⟨(some 22), none, .call 23 [(.t 21)]⟩,
    ⟨(some 23), none, .call 22 [(.t 20), (.t 22), (.c (.int .u64 10000))]⟩,
    ⟨(some 18), none, .p (.mv (.t 23))⟩,
    ⟨(some 24), none, .p (.ext 0 (.t 18))⟩,
    ⟨(some 25), none, .p (.ext 1 (.t 18))⟩,
    ⟨(some 26), none, .p (.ext 2 (.t 18))⟩,
    ⟨(some 6), none, .p (.mv (.t 24))⟩,
    ⟨(some 7), none, .p (.mv (.t 25))⟩,
    ⟨(some 8), none, .p (.mv (.t 26))⟩])
  (.seq (.reg [⟨(some 27), none, .p (.mv (.t 0))⟩,
    ⟨(some 28), none, .p (.bin .lss (.t 27) (.c (.int .i64 0)))⟩,
    ⟨(some 29), none, .p (.mv (.t 1))⟩,
    ⟨(some 30), none, .p (.bin .lss (.t 29) (.c (.int .i64 0)))⟩,
    ⟨(some 31), none, .p (.eqb true (.t 28) (.t 30))⟩,
    ⟨(some 9), none, .p (.mv (.t 31))⟩])
  (.seq (.seq (.reg [⟨(some 32), none, .p (.mv (.t 7))⟩,
    ⟨(some 33), none, .p (.bin .gtr (.t 32) (.c (.int .u64 5000)))⟩,
    ⟨(some 34), none, .p (.mv (.t 33))⟩,
    ⟨(some 35), (some (34, false)), .p (.mv (.t 7))⟩,
    ⟨(some 36), (some (34, false)), .p (.bin .eql (.t 35) (.c (.int .u64 5000)))⟩,
    ⟨(some 37), (some (34, false)), .p (.mv (.t 36))⟩,
    ⟨(some 38), (some (37, true)), .p (.mv (.t 9))⟩,
    ⟨(some 39), (some (37, true)), .p (.not (.t 38))⟩,
    ⟨(some 40), (some (34, false)), .p (.pick (.t 37) (.t 39) (.c (.bool false)))⟩,
    ⟨(some 41), none, .p (.pick (.t 34) (.c (.bool true)) (.t 40))⟩])
  (.cond (.t 41) (.reg [⟨(some 42), none, .p (.mv (.t 6))⟩,
    ⟨(some 43), none, .p (.bin .add (.t 42) (.c (.int .u64 1)))⟩,
    ⟨(some 6), none, .p (.mv (.t 43))⟩]) .skip))
  (.seq (.seq (.reg [⟨(some 44), none, .p (.mv (.t 8))⟩,
    ⟨(some 45), none, .p (.not (.t 44))⟩,
    ⟨(some 46), none, .p (.mv (.t 45))⟩,
    ⟨(some 47), (some (46, false)), .p (.mv (.t 6))⟩,
    ⟨(some 48), (some (46, false)), .p (.bin .gtr (.t 47) (.c (.int .u64 1099511627776)))⟩,
    ⟨(some 49), none, .p (.pick (.t 46) (.c (.bool true)) (.t 48))⟩])
  (.cond (.t 49) (.seq (.reg [⟨(some 4), none, .p (.mv (.c (.int .i64 0)))⟩,
    ⟨(some 5), none, .p (.mv (.c (.int .i64 11)))⟩])
  .ret) .skip))
  (.seq (.seq (.reg [⟨(some 50), none, .p (.mv (.t 9))⟩])
  (.cond (.t 50) (.seq (.reg [⟨(some 51), none, .p (.mv (.t 6))⟩,
    ⟨(some 52), none, .p (.conv .i64 (.t 51))⟩,
    ⟨(some 53), none, .p (.neg (.t 52))⟩,
    ⟨(some 4), none, .p (.mv (.t 53))⟩,
    ⟨(some 5), none, .p (.mv (.c (.int .i64 0)))⟩])
  .ret) .skip))
  (.seq (.reg [⟨(some 54), none, .p (.mv (.t 6))⟩,
    ⟨(some 55), none, .p (.conv .i64 (.t 54))⟩,
    ⟨(some 4), none, .p (.mv (.t 55))⟩,
    ⟨(some 5), none, .p (.mv (.c (.int .i64 0)))⟩])
  .ret))))))))⟩
theorem c15 : compF Try.prog ⟨fun s => [].contains s, fun _ => []⟩ Try.f15 = some a15 := by kernel_rfl

/- airline/airlineref02.Percent -/
def a16 : AFun := ⟨54, [.tmp 4, .tmp 5], (.seq (.reg [⟨(some 4), none, .p (.mv (.c (.int .i64 0)))⟩,
    ⟨(some 5), none, .p (.mv (.c (.int .i64 0)))⟩])
  (.seq (.seq (.reg [⟨(some 10), none, .p (.mv (.t 0))⟩,
    ⟨(some 11), none, .call 24 [(.t 10)]⟩,
    ⟨(some 12), none, .p (.not (.t 11))⟩,
    ⟨(some 13), none, .p (.mv (.t 12))⟩,
    ⟨(some 14), (some (13, false)), .p (.mv (.t 1))⟩,
    ⟨(some 15), (some (13, false)), .call 24 [(.t 14)]⟩,
    ⟨(some 16), (some (13, false)), .p (.not (.t 15))⟩,
    ⟨(some 17), none, .p (.pick (.t 13) (.c (.bool true)) (.t 16))⟩])
  (.cond (.t 17) (.seq (.reg [⟨(some 4), none, .p (.mv (.c (.int .i64 0)))⟩,
    ⟨(some 5), none, .p (.mv (.c (.int .i64 11)))⟩])
  .ret) .skip))
  (.seq (.reg [⟨(some 19), none, .p (.mv (.t 1))⟩,
    ⟨(some 20), none, .call 25 [(.t 19), (.c (.int .i64 10000))]⟩,
    ⟨(some 18), none, .p (.mv (.t 20))⟩,
    ⟨(some 21), none, .p (.ext 0 (.t 18))⟩,
    ⟨(some 22), none, .p (.ext 1 (.t 18))⟩,
    ⟨(some 6), none, .p (.mv (.t 21))⟩,
    ⟨(some 7), none, .p (.mv (.t 22))⟩])
  (.seq (.seq (.reg [⟨(some 23), none, .p (.mv (.t 0))⟩,
    ⟨(some 24), none, .p (.bin .neq (.t 23) (.c (.int .i64 0)))⟩,
    ⟨(some 25), none, .p (.mv (.t 24))⟩,
    ⟨(some 26), (some (25, true)), .p (.mv (.t 6))⟩,
    ⟨(some 27), (some (25, true)), .call 26 [(.t 26)]⟩,
    ⟨(some 28), (some (25, true)), .p (.mv (.t 0))⟩,
    ⟨(some 29), (some (25, true)), .call 26 [(.t 28)]⟩,
    ⟨(some 30), (some (25, true)), .p (.bin .quo (.c (.int .i64 2199023255552)) (.t 29))⟩,
    ⟨(some 31), (some (25, true)), .p (.bin .gtr (.t 27) (.t 30))⟩,
    ⟨(some 32), none, .p (.pick (.t 25) (.t 31) (.c (.bool false)))⟩])
  (.cond (.t 32) (.seq (.reg [⟨(some 4), none, .p (.mv (.c (.int .i64 0)))⟩,
    ⟨(some 5), none, .p (.mv (.c (.int .i64 11)))⟩])
  .ret) .skip))
  (.seq (.reg [⟨(some 34), none, .p (.mv (.t 0))⟩,
    ⟨(some 35), none, .p (.bin .mul (.c (.int .i64 2)) (.t 34))⟩,
    ⟨(some 36), none, .p (.mv (.t 7))⟩,
    ⟨(some 37), none, .p (.bin .mul (.t 35) (.t 36))⟩,
    ⟨(some 38), none, .p (.bin .add (.t 37) (.c (.int .i64 10000)))⟩,
    ⟨(some 39), none, .call 25 [(.t 38), (.c (.int .i64 20000))]⟩,
    ⟨(some 33), none, .p (.mv (.t 39))⟩,
    ⟨(some 40), none, .p (.ext 0 (.t 33))⟩,
    ⟨(some 41), none, .p (.ext 1 (.t 33))⟩,
    ⟨(some 8), none, .p (.mv (.t 40))⟩,
    ⟨(some 9), none, .p (.mv (.t 41))⟩])
  (.seq (.seq (.reg [⟨(some 42), none, .p (.mv (.t 0))⟩,
    ⟨(some 43), none, .p (.mv (.t 6))⟩,
    ⟨(some 44), none, .p (.bin .mul (.t 42) (.t 43))⟩,
    ⟨(some 45), none, .p (.mv (.t 8))⟩,
    ⟨(some 46), none, .p (.bin .add (.t 44) (.t 45))⟩,
    ⟨(some 47), none, .call 24 [(.t 46)]⟩,
    ⟨(some 48), none, .p (.not (.t 47))⟩])
  (.cond (.t 48) (.seq (.reg [⟨(some 4), none, .p (.mv (.c (.int .i64 0)))⟩,
    ⟨(some 5), none, .p (.mv (.c (.int .i64 11)))⟩])
  .ret) .skip))
  (.seq (.reg [⟨(some 49), none, .p (.mv (.t 0))⟩,
    ⟨(some 50), none, .p (.mv (.t 6))⟩,
    ⟨(some 51), none, .p (.bin .mul (.t 49) (.t 50))⟩,
    ⟨(some 52), none, .p (.mv (.t 8))⟩,
    ⟨(some 53), none, .p (.bin .add (.t 51) (.t 52))⟩,
    ⟨(some 4), none, .p (.mv (.t 53))⟩,
    ⟨(some 5), none, .p (.mv (.c (.int .i64 0)))⟩])
  .ret)))))))⟩
theorem c16 : compF Try.prog ⟨fun s => [].contains s, fun _ => []⟩ Try.f16 = some a16 := by kernel_rfl

/- airline/places.Way -/
def a17 : AFun := ⟨37, [.tmp 4, .tmp 5], (.seq (.reg [⟨(some 2), none, .p (.boxI (.t 0))⟩,
    ⟨(some 4), none, .p (.mv (.c (.int .i64 0)))⟩,
    ⟨(some 5), none, .p (.mv (.c (.int .i64 0)))⟩])
  (.seq (.reg [⟨(some 6), none, .p (.mv (.c (.int .i64 0)))⟩])
  (.seq (.seq (.reg [⟨(some 7), none, .p (.mv (.c (.int .i64 1)))⟩])
  (.block 0 (.loop (.seq (.seq (.reg [⟨(some 10), none, .p (.mv (.t 7))⟩,
    ⟨(some 11), none, .p (.mv (.t 1))⟩,
    ⟨(some 12), none, .p (.lenA (.t 11))⟩,
    ⟨(some 13), none, .p (.bin .lss (.t 10) (.t 12))⟩])
  (.cond (.t 13) .skip (.exit 0)))
  (.seq (.block 1 (.seq (.oreg [(.quiet, ⟨(some 17), none, .p (.ldn 2 (.t 2))⟩),
    (.quiet, ⟨(some 18), none, .p (.mv (.t 1))⟩),
    (.quiet, ⟨(some 19), none, .p (.mv (.t 7))⟩),
    (.quiet, ⟨(some 20), none, .p (.bin .sub (.t 19) (.c (.int .i64 1)))⟩),
    (.quiet, ⟨(some 21), none, .p (.idxA 1 (.t 18) (.t 20))⟩),
    (.quiet, ⟨(some 22), none, .p (.ld1 (.t 21))⟩),
    (.quiet, ⟨(some 23), none, .p (.mv (.t 1))⟩),
    (.quiet, ⟨(some 24), none, .p (.mv (.t 7))⟩),
    (.quiet, ⟨(some 25), none, .p (.idxA 1 (.t 23) (.t 24))⟩),
    (.quiet, ⟨(some 26), none, .p (.ld1 (.t 25))⟩),
    (.loud, ⟨(some 27), none, .call 19 [(.t 17), (.t 22), (.t 26)]⟩),
    (.quiet, ⟨(some 16), none, .p (.mv (.t 27))⟩),
    (.quiet, ⟨(some 28), none, .p (.ext 0 (.t 16))⟩),
    (.quiet, ⟨(some 29), none, .p (.ext 1 (.t 16))⟩),
    (.quiet, ⟨(some 8), none, .p (.mv (.t 28))⟩),
    (.quiet, ⟨(some 9), none, .p (.mv (.t 29))⟩)])
  (.seq (.seq (.reg [⟨(some 30), none, .p (.mv (.t 9))⟩,
    ⟨(some 31), none, .p (.bin .neq (.t 30) (.c (.int .i64 0)))⟩])
  (.cond (.t 31) (.seq (.reg [⟨(some 32), none, .p (.mv (.t 9))⟩,
    ⟨(some 4), none, .p (.mv (.c (.int .i64 0)))⟩,
    ⟨(some 5), none, .p (.mv (.t 32))⟩])
  .ret) .skip))
  (.reg [⟨(some 33), none, .p (.mv (.t 6))⟩,
    ⟨(some 34), none, .p (.mv (.t 8))⟩,
    ⟨(some 35), none, .p (.bin .add (.t 33) (.t 34))⟩,
    ⟨(some 6), none, .p (.mv (.t 35))⟩]))))
  (.reg [⟨(some 14), none, .p (.mv (.t 7))⟩,
    ⟨(some 15), none, .p (.bin .add (.t 14) (.c (.int .i64 1)))⟩,
    ⟨(some 7), none, .p (.mv (.t 15))⟩]))))))
  (.seq (.reg [⟨(some 36), none, .p (.mv (.t 6))⟩,
    ⟨(some 4), none, .p (.mv (.t 36))⟩,
    ⟨(some 5), none, .p (.mv (.c (.int .i64 0)))⟩])
  .ret))))⟩
theorem c17 : compF Try.prog ⟨fun s => [].contains s, fun r => match r with | 5 => [(0, .quiet), (1, .quiet), (2, .quiet), (3, .quiet), (4, .quiet), (5, .quiet), (6, .quiet), (7, .quiet), (8, .quiet), (9, .quiet), (10, .loud), (11, .quiet), (12, .quiet), (13, .quiet), (14, .quiet), (15, .quiet)] | _ => []⟩ Try.f17 = some a17 := by kernel_rfl

/- airline/airlineref06.Way -/
def a18 : AFun := ⟨38, [.tmp 4, .tmp 5], (.seq (.reg [⟨(some 2), none, .p (.boxI (.t 0))⟩,
    ⟨(some 4), none, .p (.mv (.c (.int .i64 0)))⟩,
    ⟨(some 5), none, .p (.mv (.c (.int .i64 0)))⟩])
  (.seq (.reg [⟨(some 6), none, .p (.mv (.c (.int .i64 0)))⟩])
  (.seq (.seq (.reg [⟨(some 7), none, .p (.mv (.c (.int .i64 0)))⟩])
  (.block 0 (.loop (.seq (.seq (.reg [⟨(some 10), none, .p (.mv (.t 7))⟩,
    ⟨(some 11), none, .p (.bin .add (.t 10) (.c (.int .i64 1)))⟩,
    ⟨(some 12), none, .p (.mv (.t 1))⟩,
    ⟨(some 13), none, .p (.lenA (.t 12))⟩,
    ⟨(some 14), none, .p (.bin .lss (.t 11) (.t 13))⟩])
  (.cond (.t 14) .skip (.exit 0)))
  (.seq (.block 1 (.seq (.oreg [(.quiet, ⟨(some 18), none, .p (.ldn 2 (.t 2))⟩),
    (.quiet, ⟨(some 19), none, .p (.mv (.t 1))⟩),
    (.quiet, ⟨(some 20), none, .p (.mv (.t 7))⟩),
    (.quiet, ⟨(some 21), none, .p (.idxA 1 (.t 19) (.t 20))⟩),
    (.quiet, ⟨(some 22), none, .p (.ld1 (.t 21))⟩),
    (.quiet, ⟨(some 23), none, .p (.mv (.t 1))⟩),
    (.quiet, ⟨(some 24), none, .p (.mv (.t 7))⟩),
    (.quiet, ⟨(some 25), none, .p (.bin .add (.t 24) (.c (.int .i64 1)))⟩),
    (.quiet, ⟨(some 26), none, .p (.idxA 1 (.t 23) (.t 25))⟩),
    (.quiet, ⟨(some 27), none, .p (.ld1 (.t 26))⟩),
    (.loud, ⟨(some 28), none, .call 20 [(.t 18), (.t 22), (.t 27)]⟩),
    (.quiet, ⟨(some 17), none, .p (.mv (.t 28))⟩),
    (.quiet, ⟨(some 29), none, .p (.ext 0 (.t 17))⟩),
    (.quiet, ⟨(some 30), none, .p (.ext 1 (.t 17))⟩),
    (.quiet, ⟨(some 8), none, .p (.mv (.t 29))⟩),
    (.quiet, ⟨(some 9), none, .p (.mv (.t 30))⟩)])
  (.seq (.seq (.reg [⟨(some 31), none, .p (.mv (.t 9))⟩,
    ⟨(some 32), none, .p (.bin .neq (.t 31) (.c (.int .i64 0)))⟩])
  (.cond (.t 32) (.seq (.reg [⟨(some 33), none, .p (.mv (.t 9))⟩,
    ⟨(some 4), none, .p (.mv (.c (.int .i64 0)))⟩,
    ⟨(some 5), none, .p (.mv (.t 33))⟩])
  .ret) .skip))
  (.reg [⟨(some 34), none, .p (.mv (.t 6))⟩,
    ⟨(some 35), none, .p (.mv (.t 8))⟩,
    ⟨(some 36), none, .p (.bin .add (.t 34) (.t 35))⟩,
    ⟨(some 6), none, .p (.mv (.t 36))⟩]))))
  (.reg [⟨(some 15), none, .p (.mv (.t 7))⟩,
    ⟨(some 16), none, .p (.bin .add (.t 15) (.c (.int .i64 1)))⟩,
    ⟨(some 7), none, .p (.mv (.t 16))⟩]))))))
  (.seq (.reg [⟨(some 37), none, .p (.mv (.t 6))⟩,
    ⟨(some 4), none, .p (.mv (.t 37))⟩,
    ⟨(some 5), none, .p (.mv (.c (.int .i64 0)))⟩])
  .ret))))⟩
theorem c18 : compF Try.prog ⟨fun s => [].contains s, fun r => match r with | 5 => [(0, .quiet), (1, .quiet), (2, .quiet), (3, .quiet), (4, .quiet), (5, .quiet), (6, .quiet), (7, .quiet), (8, .quiet), (9, .quiet), (10, .loud), (11, .quiet), (12, .quiet), (13, .quiet), (14, .quiet), (15, .quiet)] | _ => []⟩ Try.f18 = some a18 := by kernel_rfl

/- airline/places.Miles -/
def a19 : AFun := ⟨78, [.tmp 6, .tmp 7], (.seq (.reg [⟨(some 3), none, .p (.boxI (.t 0))⟩,
    ⟨(some 6), none, .p (.mv (.c (.int .i64 0)))⟩,
    ⟨(some 7), none, .p (.mv (.c (.int .i64 0)))⟩])
  (.seq (.oreg [(.quiet, ⟨(some 19), none, .p (.ldn 2 (.t 3))⟩),
    (.quiet, ⟨(some 20), none, .p (.mv (.t 1))⟩),
    (.quiet, ⟨(some 22), none, .p (.ldn 2 (.t 3))⟩),
    (.quiet, ⟨(some 23), none, .p (.mv (.t 2))⟩),
    (.quiet, ⟨(some 21), none, .call 27 [(.t 19), (.t 20)]⟩),
    (.loud, ⟨(some 24), none, .call 27 [(.t 22), (.t 23)]⟩),
    (.quiet, ⟨(some 8), none, .p (.mv (.t 21))⟩),
    (.quiet, ⟨(some 9), none, .p (.mv (.t 24))⟩)])
  (.seq (.seq (.reg [⟨(some 25), none, .p (.mv (.t 8))⟩,
    ⟨(some 26), none, .p (.bin .eql (.t 25) (.c (.str [])))⟩,
    ⟨(some 27), none, .p (.mv (.t 26))⟩,
    ⟨(some 28), (some (27, false)), .p (.mv (.t 9))⟩,
    ⟨(some 29), (some (27, false)), .p (.bin .eql (.t 28) (.c (.str [])))⟩,
    ⟨(some 30), none, .p (.pick (.t 27) (.c (.bool true)) (.t 29))⟩])
  (.cond (.t 30) (.seq (.reg [⟨(some 6), none, .p (.mv (.c (.int .i64 0)))⟩,
    ⟨(some 7), none, .p (.mv (.c (.int .i64 14)))⟩])
  .ret) .skip))
  (.seq (.reg [⟨(some 31), none, .xs (.mkM (.one .str)) []⟩,
    ⟨(some 32), none, .p (.mv (.t 8))⟩,
    ⟨none, none, .xs (.mu (.one .str)) [(.t 31), (.t 32), (.c (.int .i64 0))]⟩,
    ⟨(some 33), none, .p (.mv (.t 31))⟩,
    ⟨(some 10), none, .newO 54 [.nilMap]⟩,
    ⟨none, none, .st 1 (.t 10) (.t 33)⟩])
  (.seq (.reg [⟨(some 34), none, .p (.mkfn 28 [] [(.t 10)])⟩,
    ⟨(some 11), none, .p (.mv (.t 34))⟩])
  (.seq (.seq (.reg [⟨(some 12), none, .p (.mv (.c (.bool true)))⟩])
  (.block 0 (.loop (.seq (.seq (.reg [⟨(some 35), none, .p (.mv (.t 12))⟩])
  (.cond (.t 35) .skip (.exit 0)))
  (.block 1 (.seq (.reg [⟨(some 12), none, .p (.mv (.c (.bool false)))⟩])
  (.seq (.reg [⟨(some 36), none, .p (.faddr 1 (.t 3))⟩,
    ⟨(some 37), none, .p (.ld1 (.t 36))⟩,
    ⟨(some 38), none, .p (.lenA (.t 37))⟩,
    ⟨(some 39), none, .p (.mv (.c (.int .i64 0)))⟩])
  (.block 2 (.loop (.seq (.reg [⟨(some 40), none, .p (.bin .lss (.t 39) (.t 38))⟩])
  (.seq (.cond (.t 40) .skip (.exit 2))
  (.seq (.block 3 (.seq (.reg [⟨(some 41), none, .p (.idxA 3 (.t 37) (.t 39))⟩,
    ⟨(some 42), none, .p (.ldn 3 (.t 41))⟩,
    ⟨(some 14), none, .newO 43 [(.str []), (.str []), (.int .i64 0)]⟩,
    ⟨none, none, .st 3 (.t 14) (.t 42)⟩])
  (.seq (.reg [⟨(some 43), none, .p (.ldn 3 (.t 14))⟩,
    ⟨(some 44), none, .call 29 [(.t 43)]⟩])
  (.cond (.t 44) (.seq (.reg [⟨(some 45), none, .p (.mv (.t 11))⟩,
    ⟨(some 46), none, .p (.faddr 0 (.t 14))⟩,
    ⟨(some 47), none, .p (.ld1 (.t 46))⟩,
    ⟨(some 48), none, .p (.faddr 1 (.t 14))⟩,
    ⟨(some 49), none, .p (.ld1 (.t 48))⟩,
    ⟨(some 50), none, .p (.faddr 2 (.t 14))⟩,
    ⟨(some 51), none, .p (.ld1 (.t 50))⟩,
    ⟨(some 52), none, .callv (.t 45) [(.t 47), (.t 49), (.t 51)]⟩,
    ⟨(some 15), none, .p (.mv (.t 52))⟩])
  (.seq (.reg [⟨(some 53), none, .p (.mv (.t 11))⟩,
    ⟨(some 54), none, .p (.faddr 1 (.t 14))⟩,
    ⟨(some 55), none, .p (.ld1 (.t 54))⟩,
    ⟨(some 56), none, .p (.faddr 0 (.t 14))⟩,
    ⟨(some 57), none, .p (.ld1 (.t 56))⟩,
    ⟨(some 58), none, .p (.faddr 2 (.t 14))⟩,
    ⟨(some 59), none, .p (.ld1 (.t 58))⟩,
    ⟨(some 60), none, .callv (.t 53) [(.t 55), (.t 57), (.t 59)]⟩,
    ⟨(some 16), none, .p (.mv (.t 60))⟩])
  (.reg [⟨(some 61), none, .p (.mv (.t 12))⟩,
    ⟨(some 62), none, .p (.mv (.t 61))⟩,
    ⟨(some 63), (some (62, false)), .p (.mv (.t 15))⟩,
    ⟨(some 64), none, .p (.pick (.t 62) (.c (.bool true)) (.t 63))⟩,
    ⟨(some 65), none, .p (.mv (.t 64))⟩,
    ⟨(some 66), (some (65, false)), .p (.mv (.t 16))⟩,
    ⟨(some 67), none, .p (.pick (.t 65) (.c (.bool true)) (.t 66))⟩,
    ⟨(some 12), none, .p (.mv (.t 67))⟩]))) .skip))))
  (.reg [⟨(some 68), none, .p (.bin .add (.t 39) (.c (.int .i64 1)))⟩,
    ⟨(some 39), none, .p (.mv (.t 68))⟩])))))))))))))
  (.seq (.reg [⟨(some 70), none, .p (.ld1 (.t 10))⟩,
    ⟨(some 71), none, .p (.mv (.t 9))⟩,
    ⟨(some 72), none, .p (.xo (.lk (.one .str) (.int .i64 0) true) [(.t 70), (.t 71)])⟩,
    ⟨(some 69), none, .p (.mv (.t 72))⟩,
    ⟨(some 73), none, .p (.ext 0 (.t 69))⟩,
    ⟨(some 74), none, .p (.ext 1 (.t 69))⟩,
    ⟨(some 17), none, .p (.mv (.t 73))⟩,
    ⟨(some 18), none, .p (.mv (.t 74))⟩])
  (.seq (.seq (.reg [⟨(some 75), none, .p (.mv (.t 18))⟩,
    ⟨(some 76), none, .p (.not (.t 75))⟩])
  (.cond (.t 76) (.seq (.reg [⟨(some 6), none, .p (.mv (.c (.int .i64 0)))⟩,
    ⟨(some 7), none, .p (.mv (.c (.int .i64 7)))⟩])
  .ret) .skip))
  (.seq (.reg [⟨(some 77), none, .p (.mv (.t 17))⟩,
    ⟨(some 6), none, .p (.mv (.t 77))⟩,
    ⟨(some 7), none, .p (.mv (.c (.int .i64 0)))⟩])
  .ret)))))))))⟩
theorem c19 : compF Try.prog ⟨fun s => [].contains s, fun r => match r with | 1 => [(0, .quiet), (1, .quiet), (3, .quiet), (4, .quiet), (2, .quiet), (5, .loud), (6, .quiet), (7, .quiet)] | _ => []⟩ Try.f19 = some a19 := by kernel_rfl

/- airline/airlineref06.Miles -/
def a20 : AFun := ⟨97, [.tmp 6, .tmp 7], (.seq (.reg [⟨(some 3), none, .p (.boxI (.t 0))⟩,
    ⟨(some 6), none, .p (.mv (.c (.int .i64 0)))⟩,
    ⟨(some 7), none, .p (.mv (.c (.int .i64 0)))⟩])
  (.seq (.oreg [(.quiet, ⟨(some 18), none, .p (.ldn 2 (.t 3))⟩),
    (.quiet, ⟨(some 19), none, .p (.mv (.t 1))⟩),
    (.quiet, ⟨(some 21), none, .p (.ldn 2 (.t 3))⟩),
    (.quiet, ⟨(some 22), none, .p (.mv (.t 2))⟩),
    (.quiet, ⟨(some 20), none, .call 30 [(.t 18), (.t 19)]⟩),
    (.loud, ⟨(some 23), none, .call 30 [(.t 21), (.t 22)]⟩),
    (.quiet, ⟨(some 8), none, .p (.mv (.t 20))⟩),
    (.quiet, ⟨(some 9), none, .p (.mv (.t 23))⟩)])
  (.seq (.seq (.reg [⟨(some 24), none, .p (.mv (.t 8))⟩,
    ⟨(some 25), none, .p (.bin .eql (.t 24) (.c (.str [])))⟩,
    ⟨(some 26), none, .p (.mv (.t 25))⟩,
    ⟨(some 27), (some (26, false)), .p (.mv (.t 9))⟩,
    ⟨(some 28), (some (26, false)), .p (.bin .eql (.t 27) (.c (.str [])))⟩,
    ⟨(some 29), none, .p (.pick (.t 26) (.c (.bool true)) (.t 28))⟩])
  (.cond (.t 29) (.seq (.reg [⟨(some 6), none, .p (.mv (.c (.int .i64 0)))⟩,
    ⟨(some 7), none, .p (.mv (.c (.int .i64 14)))⟩])
  .ret) .skip))
  (.seq (.reg [⟨(some 30), none, .p (.mv (.t 8))⟩,
    ⟨(some 31), none, .p (.build [(.str []), (.int .i64 0)] [(0, 1, (.t 30)), (1, 1, (.c (.int .i64 0)))])⟩,
    ⟨(some 32), none, .bslO 59 2 [(.str []), (.int .i64 0)] 1 [(0, (.t 31))]⟩,
    ⟨(some 10), none, .p (.mv (.t 32))⟩])
  (.seq (.reg [⟨(some 11), none, .p (.mv (.c (.bool true)))⟩])
  (.seq (.block 0 (.loop (.seq (.seq (.reg [⟨(some 33), none, .p (.mv (.t 11))⟩])
  (.cond (.t 33) .skip (.exit 0)))
  (.block 1 (.seq (.reg [⟨(some 11), none, .p (.mv (.c (.bool false)))⟩])
  (.seq (.reg [⟨(some 12), none, .p (.mv (.c (.int .i64 0)))⟩])
  (.block 2 (.loop (.seq (.seq (.reg [⟨(some 34), none, .p (.mv (.t 12))⟩,
    ⟨(some 35), none, .p (.faddr 1 (.t 3))⟩,
    ⟨(some 36), none, .p (.ld1 (.t 35))⟩,
    ⟨(some 37), none, .p (.lenA (.t 36))⟩,
    ⟨(some 38), none, .p (.bin .lss (.t 34) (.t 37))⟩])
  (.cond (.t 38) .skip (.exit 2)))
  (.seq (.block 3 (.seq (.reg [⟨(some 41), none, .p (.faddr 1 (.t 3))⟩,
    ⟨(some 42), none, .p (.ld1 (.t 41))⟩,
    ⟨(some 43), none, .p (.mv (.t 12))⟩,
    ⟨(some 44), none, .p (.idxA 3 (.t 42) (.t 43))⟩,
    ⟨(some 45), none, .p (.ldn 3 (.t 44))⟩,
    ⟨(some 13), none, .newO 43 [(.str []), (.str []), (.int .i64 0)]⟩,
    ⟨none, none, .st 3 (.t 13) (.t 45)⟩])
  (.seq (.seq (.reg [⟨(some 46), none, .p (.ldn 3 (.t 13))⟩,
    ⟨(some 47), none, .call 31 [(.t 46)]⟩,
    ⟨(some 48), none, .p (.not (.t 47))⟩])
  (.cond (.t 48) (.exit 3) .skip))
  (.seq (.oreg [(.quiet, ⟨(some 49), none, .p (.mv (.t 10))⟩),
    (.quiet, ⟨(some 50), none, .p (.faddr 0 (.t 13))⟩),
    (.quiet, ⟨(some 51), none, .p (.ld1 (.t 50))⟩),
    (.quiet, ⟨(some 53), none, .p (.mv (.t 10))⟩),
    (.quiet, ⟨(some 54), none, .p (.faddr 1 (.t 13))⟩),
    (.quiet, ⟨(some 55), none, .p (.ld1 (.t 54))⟩),
    (.quiet, ⟨(some 52), none, .call 32 [(.t 49), (.t 51)]⟩),
    (.loud, ⟨(some 56), none, .call 32 [(.t 53), (.t 55)]⟩),
    (.quiet, ⟨(some 14), none, .p (.mv (.t 52))⟩),
    (.quiet, ⟨(some 15), none, .p (.mv (.t 56))⟩)])
  (.seq (.reg [⟨(some 16), none, .p (.mv (.c (.bool false)))⟩])
  (.seq (.seq (.reg [⟨(some 57), none, .p (.mv (.t 14))⟩,
    ⟨(some 58), none, .p (.bin .geq (.t 57) (.c (.int .i64 0)))⟩])
  (.cond (.t 58) (.seq (.reg [⟨(some 60), none, .p (.mv (.t 10))⟩,
    ⟨(some 61), none, .p (.faddr 1 (.t 13))⟩,
    ⟨(some 62), none, .p (.ld1 (.t 61))⟩,
    ⟨(some 63), none, .p (.mv (.t 14))⟩,
    ⟨(some 64), none, .p (.faddr 2 (.t 13))⟩,
    ⟨(some 65), none, .p (.ld1 (.t 64))⟩,
    ⟨(some 66), none, .p (.bin .add (.t 63) (.t 65))⟩,
    ⟨(some 67), none, .call 33 [(.t 60), (.t 62), (.t 66)]⟩,
    ⟨(some 59), none, .p (.mv (.t 67))⟩,
    ⟨(some 68), none, .p (.ext 0 (.t 59))⟩,
    ⟨(some 69), none, .p (.ext 1 (.t 59))⟩,
    ⟨(some 10), none, .p (.mv (.t 68))⟩,
    ⟨(some 16), none, .p (.mv (.t 69))⟩])
  (.reg [⟨(some 70), none, .p (.mv (.t 11))⟩,
    ⟨(some 71), none, .p (.mv (.t 70))⟩,
    ⟨(some 72), (some (71, false)), .p (.mv (.t 16))⟩,
    ⟨(some 73), none, .p (.pick (.t 71) (.c (.bool true)) (.t 72))⟩,
    ⟨(some 11), none, .p (.mv (.t 73))⟩])) .skip))
  (.seq (.reg [⟨(some 74), none, .p (.mv (.t 15))⟩,
    ⟨(some 75), none, .p (.bin .geq (.t 74) (.c (.int .i64 0)))⟩])
  (.cond (.t 75) (.seq (.reg [⟨(some 77), none, .p (.mv (.t 10))⟩,
    ⟨(some 78), none, .p (.faddr 0 (.t 13))⟩,
    ⟨(some 79), none, .p (.ld1 (.t 78))⟩,
    ⟨(some 80), none, .p (.mv (.t 15))⟩,
    ⟨(some 81), none, .p (.faddr 2 (.t 13))⟩,
    ⟨(some 82), none, .p (.ld1 (.t 81))⟩,
    ⟨(some 83), none, .p (.bin .add (.t 80) (.t 82))⟩,
    ⟨(some 84), none, .call 33 [(.t 77), (.t 79), (.t 83)]⟩,
    ⟨(some 76), none, .p (.mv (.t 84))⟩,
    ⟨(some 85), none, .p (.ext 0 (.t 76))⟩,
    ⟨(some 86), none, .p (.ext 1 (.t 76))⟩,
    ⟨(some 10), none, .p (.mv (.t 85))⟩,
    ⟨(some 16), none, .p (.mv (.t 86))⟩])
  (.reg [⟨(some 87), none, .p (.mv (.t 11))⟩,
    ⟨(some 88), none, .p (.mv (.t 87))⟩,
    ⟨(some 89), (some (88, false)), .p (.mv (.t 16))⟩,
    ⟨(some 90), none, .p (.pick (.t 88) (.c (.bool true)) (.t 89))⟩,
    ⟨(some 11), none, .p (.mv (.t 90))⟩])) .skip))))))))
  (.reg [⟨(some 39), none, .p (.mv (.t 12))⟩,
    ⟨(some 40), none, .p (.bin .add (.t 39) (.c (.int .i64 1)))⟩,
    ⟨(some 12), none, .p (.mv (.t 40))⟩])))))))))))
  (.seq (.reg [⟨(some 91), none, .p (.mv (.t 10))⟩,
    ⟨(some 92), none, .p (.mv (.t 9))⟩,
    ⟨(some 93), none, .call 32 [(.t 91), (.t 92)]⟩,
    ⟨(some 17), none, .p (.mv (.t 93))⟩])
  (.seq (.seq (.reg [⟨(some 94), none, .p (.mv (.t 17))⟩,
    ⟨(some 95), none, .p (.bin .lss (.t 94) (.c (.int .i64 0)))⟩])
  (.cond (.t 95) (.seq (.reg [⟨(some 6), none, .p (.mv (.c (.int .i64 0)))⟩,
    ⟨(some 7), none, .p (.mv (.c (.int .i64 7)))⟩])
  .ret) .skip))
  (.seq (.reg [⟨(some 96), none, .p (.mv (.t 17))⟩,
    ⟨(some 6), none, .p (.mv (.t 96))⟩,
    ⟨(some 7), none, .p (.mv (.c (.int .i64 0)))⟩])
  .ret)))))))))⟩
theorem c20 : compF Try.prog ⟨fun s => [32].contains s, fun r => match r with | 1 => [(0, .quiet), (1, .quiet), (3, .quiet), (4, .quiet), (2, .quiet), (5, .loud), (6, .quiet), (7, .quiet)]  | 13 => [(0, .quiet), (1, .quiet), (2, .quiet), (4, .quiet), (5, .quiet), (6, .quiet), (3, .quiet), (7, .loud), (8, .quiet), (9, .quiet)] | _ => []⟩ Try.f20 = some a20 := by kernel_rfl

/- airline/money.fits -/
def a21 : AFun := ⟨9, [.tmp 2], (.seq (.reg [⟨(some 2), none, .p (.mv (.c (.bool false)))⟩])
  (.seq (.reg [⟨(some 3), none, .p (.mv (.t 0))⟩,
    ⟨(some 4), none, .p (.bin .geq (.t 3) (.c (.int .i64 (-1099511627776))))⟩,
    ⟨(some 5), none, .p (.mv (.t 4))⟩,
    ⟨(some 6), (some (5, true)), .p (.mv (.t 0))⟩,
    ⟨(some 7), (some (5, true)), .p (.bin .leq (.t 6) (.c (.int .i64 1099511627776)))⟩,
    ⟨(some 8), none, .p (.pick (.t 5) (.t 7) (.c (.bool false)))⟩,
    ⟨(some 2), none, .p (.mv (.t 8))⟩])
  .ret))⟩
theorem c21 : compF Try.prog ⟨fun s => [].contains s, fun _ => []⟩ Try.f21 = some a21 := by kernel_rfl

/- airline/money.scale -/
def a22 : AFun := ⟨31, [.tmp 6, .tmp 7, .tmp 8], (.seq (.reg [⟨(some 6), none, .p (.mv (.c (.int .u64 0)))⟩,
    ⟨(some 7), none, .p (.mv (.c (.int .u64 0)))⟩,
    ⟨(some 8), none, .p (.mv (.c (.bool false)))⟩])
  (.seq (.reg [⟨(some 14), none, .p (.mv (.t 0))⟩,
    ⟨(some 15), none, .p (.mv (.t 1))⟩,
    ⟨(some 16), none, .call 34 [(.t 14), (.t 15)]⟩,
    ⟨(some 13), none, .p (.mv (.t 16))⟩,
    ⟨(some 17), none, .p (.ext 0 (.t 13))⟩,
    ⟨(some 18), none, .p (.ext 1 (.t 13))⟩,
    ⟨(some 9), none, .p (.mv (.t 17))⟩,
    ⟨(some 10), none, .p (.mv (.t 18))⟩])
  (.seq (.seq (.reg [⟨(some 19), none, .p (.mv (.t 9))⟩,
    ⟨(some 20), none, .p (.mv (.t 2))⟩,
    ⟨(some 21), none, .p (.bin .geq (.t 19) (.t 20))⟩])
  (.cond (.t 21) (.seq (.reg [⟨(some 6), none, .p (.mv (.c (.int .u64 0)))⟩,
    ⟨(some 7), none, .p (.mv (.c (.int .u64 0)))⟩,
    ⟨(some 8), none, .p (.mv (.c (.bool false)))⟩])
  .ret) .skip))
  (.seq (.reg [⟨(some 23), none, .p (.mv (.t 9))⟩,
    ⟨(some 24), none, .p (.mv (.t 10))⟩,
    ⟨(some 25), none, .p (.mv (.t 2))⟩,
    ⟨(some 26), none, .call 35 [(.t 23), (.t 24), (.t 25)]⟩,
    ⟨(some 22), none, .p (.mv (.t 26))⟩,
    ⟨(some 27), none, .p (.ext 0 (.t 22))⟩,
    ⟨(some 28), none, .p (.ext 1 (.t 22))⟩,
    ⟨(some 11), none, .p (.mv (.t 27))⟩,
    ⟨(some 12), none, .p (.mv (.t 28))⟩])
  (.seq (.reg [⟨(some 29), none, .p (.mv (.t 11))⟩,
    ⟨(some 30), none, .p (.mv (.t 12))⟩,
    ⟨(some 6), none, .p (.mv (.t 29))⟩,
    ⟨(some 7), none, .p (.mv (.t 30))⟩,
    ⟨(some 8), none, .p (.mv (.c (.bool true)))⟩])
  .ret)))))⟩
theorem c22 : compF Try.prog ⟨fun s => [].contains s, fun _ => []⟩ Try.f22 = some a22 := by kernel_rfl

/- airline/money.size -/
def a23 : AFun := ⟨10, [.tmp 2], (.seq (.reg [⟨(some 2), none, .p (.mv (.c (.int .u64 0)))⟩])
  (.seq (.seq (.reg [⟨(some 3), none, .p (.mv (.t 0))⟩,
    ⟨(some 4), none, .p (.bin .lss (.t 3) (.c (.int .i64 0)))⟩])
  (.cond (.t 4) (.seq (.reg [⟨(some 5), none, .p (.mv (.t 0))⟩,
    ⟨(some 6), none, .p (.conv .u64 (.t 5))⟩,
    ⟨(some 7), none, .p (.neg (.t 6))⟩,
    ⟨(some 2), none, .p (.mv (.t 7))⟩])
  .ret) .skip))
  (.seq (.reg [⟨(some 8), none, .p (.mv (.t 0))⟩,
    ⟨(some 9), none, .p (.conv .u64 (.t 8))⟩,
    ⟨(some 2), none, .p (.mv (.t 9))⟩])
  .ret)))⟩
theorem c23 : compF Try.prog ⟨fun s => [].contains s, fun _ => []⟩ Try.f23 = some a23 := by kernel_rfl

/- airline/airlineref02.Amount -/
def a24 : AFun := ⟨9, [.tmp 2], (.seq (.reg [⟨(some 2), none, .p (.mv (.c (.bool false)))⟩])
  (.seq (.reg [⟨(some 3), none, .p (.mv (.t 0))⟩,
    ⟨(some 4), none, .p (.bin .geq (.t 3) (.c (.int .i64 (-1099511627776))))⟩,
    ⟨(some 5), none, .p (.mv (.t 4))⟩,
    ⟨(some 6), (some (5, true)), .p (.mv (.t 0))⟩,
    ⟨(some 7), (some (5, true)), .p (.bin .leq (.t 6) (.c (.int .i64 1099511627776)))⟩,
    ⟨(some 8), none, .p (.pick (.t 5) (.t 7) (.c (.bool false)))⟩,
    ⟨(some 2), none, .p (.mv (.t 8))⟩])
  .ret))⟩
theorem c24 : compF Try.prog ⟨fun s => [].contains s, fun _ => []⟩ Try.f24 = some a24 := by kernel_rfl

/- airline/airlineref02.floor -/
def a25 : AFun := ⟨23, [.tmp 4, .tmp 5], (.seq (.reg [⟨(some 4), none, .p (.mv (.c (.int .i64 0)))⟩,
    ⟨(some 5), none, .p (.mv (.c (.int .i64 0)))⟩])
  (.seq (.oreg [(.quiet, ⟨(some 8), none, .p (.mv (.t 0))⟩),
    (.quiet, ⟨(some 9), none, .p (.mv (.t 1))⟩),
    (.quiet, ⟨(some 10), none, .p (.bin .quo (.t 8) (.t 9))⟩),
    (.quiet, ⟨(some 11), none, .p (.mv (.t 0))⟩),
    (.quiet, ⟨(some 12), none, .p (.mv (.t 1))⟩),
    (.quiet, ⟨(some 13), none, .p (.bin .rem (.t 11) (.t 12))⟩),
    (.quiet, ⟨(some 6), none, .p (.mv (.t 10))⟩),
    (.quiet, ⟨(some 7), none, .p (.mv (.t 13))⟩)])
  (.seq (.seq (.reg [⟨(some 14), none, .p (.mv (.t 7))⟩,
    ⟨(some 15), none, .p (.bin .lss (.t 14) (.c (.int .i64 0)))⟩])
  (.cond (.t 15) (.seq (.reg [⟨(some 16), none, .p (.mv (.t 6))⟩,
    ⟨(some 17), none, .p (.bin .sub (.t 16) (.c (.int .i64 1)))⟩,
    ⟨(some 18), none, .p (.mv (.t 7))⟩,
    ⟨(some 19), none, .p (.mv (.t 1))⟩,
    ⟨(some 20), none, .p (.bin .add (.t 18) (.t 19))⟩,
    ⟨(some 4), none, .p (.mv (.t 17))⟩,
    ⟨(some 5), none, .p (.mv (.t 20))⟩])
  .ret) .skip))
  (.seq (.reg [⟨(some 21), none, .p (.mv (.t 6))⟩,
    ⟨(some 22), none, .p (.mv (.t 7))⟩,
    ⟨(some 4), none, .p (.mv (.t 21))⟩,
    ⟨(some 5), none, .p (.mv (.t 22))⟩])
  .ret))))⟩
theorem c25 : compF Try.prog ⟨fun s => [].contains s, fun r => match r with | 1 => [(0, .quiet), (1, .quiet), (2, .quiet), (3, .quiet), (4, .quiet), (5, .quiet), (6, .quiet), (7, .quiet)] | _ => []⟩ Try.f25 = some a25 := by kernel_rfl

/- airline/airlineref02.size -/
def a26 : AFun := ⟨8, [.tmp 2], (.seq (.reg [⟨(some 2), none, .p (.mv (.c (.int .i64 0)))⟩])
  (.seq (.seq (.reg [⟨(some 3), none, .p (.mv (.t 0))⟩,
    ⟨(some 4), none, .p (.bin .lss (.t 3) (.c (.int .i64 0)))⟩])
  (.cond (.t 4) (.seq (.reg [⟨(some 5), none, .p (.mv (.t 0))⟩,
    ⟨(some 6), none, .p (.neg (.t 5))⟩,
    ⟨(some 2), none, .p (.mv (.t 6))⟩])
  .ret) .skip))
  (.seq (.reg [⟨(some 7), none, .p (.mv (.t 0))⟩,
    ⟨(some 2), none, .p (.mv (.t 7))⟩])
  .ret)))⟩
theorem c26 : compF Try.prog ⟨fun s => [].contains s, fun _ => []⟩ Try.f26 = some a26 := by kernel_rfl

/- airline/places.City -/
def a27 : AFun := ⟨26, [.tmp 4], (.seq (.reg [⟨(some 2), none, .p (.boxI (.t 0))⟩,
    ⟨(some 4), none, .p (.mv (.c (.str [])))⟩])
  (.seq (.seq (.reg [⟨(some 10), none, .p (.ldn 2 (.t 2))⟩,
    ⟨(some 11), none, .p (.mv (.t 1))⟩,
    ⟨(some 12), none, .call 36 [(.t 10), (.t 11)]⟩,
    ⟨(some 9), none, .p (.mv (.t 12))⟩,
    ⟨(some 13), none, .p (.ext 0 (.t 9))⟩,
    ⟨(some 14), none, .p (.ext 1 (.t 9))⟩,
    ⟨(some 5), none, .newO 41 [(.str []), (.str []), (.str []), (.int .i64 0), .nilSl]⟩,
    ⟨none, none, .st 5 (.t 5) (.t 13)⟩,
    ⟨(some 6), none, .p (.mv (.t 14))⟩])
  (.seq (.reg [⟨(some 15), none, .p (.mv (.t 6))⟩])
  (.cond (.t 15) (.seq (.reg [⟨(some 16), none, .p (.faddr 1 (.t 5))⟩,
    ⟨(some 17), none, .p (.ld1 (.t 16))⟩,
    ⟨(some 4), none, .p (.mv (.t 17))⟩])
  .ret) .skip)))
  (.seq (.seq (.reg [⟨(some 19), none, .p (.ldn 2 (.t 2))⟩,
    ⟨(some 20), none, .p (.mv (.t 1))⟩,
    ⟨(some 21), none, .call 37 [(.t 19), (.t 20)]⟩,
    ⟨(some 18), none, .p (.mv (.t 21))⟩,
    ⟨(some 22), none, .p (.ext 0 (.t 18))⟩,
    ⟨(some 23), none, .p (.ext 1 (.t 18))⟩,
    ⟨(some 7), none, .newO 41 [(.str []), (.str []), (.str []), (.int .i64 0), .nilSl]⟩,
    ⟨none, none, .st 5 (.t 7) (.t 22)⟩,
    ⟨(some 8), none, .p (.mv (.t 23))⟩])
  (.seq (.reg [⟨(some 24), none, .p (.mv (.t 8))⟩])
  (.cond (.t 24) (.seq (.reg [⟨(some 25), none, .p (.mv (.t 1))⟩,
    ⟨(some 4), none, .p (.mv (.t 25))⟩])
  .ret) .skip)))
  (.seq (.reg [⟨(some 4), none, .p (.mv (.c (.str [])))⟩])
  .ret))))⟩
theorem c27 : compF Try.prog ⟨fun s => [].contains s, fun _ => []⟩ Try.f27 = some a27 := by kernel_rfl

/- airline/places.Miles$1 -/
def a28 : AFun := ⟨41, [.tmp 7], (.seq (.reg [⟨(some 7), none, .p (.mv (.c (.bool false)))⟩])
  (.seq (.reg [⟨(some 13), none, .p (.ld1 (.t 3))⟩,
    ⟨(some 14), none, .p (.mv (.t 0))⟩,
    ⟨(some 15), none, .p (.xo (.lk (.one .str) (.int .i64 0) true) [(.t 13), (.t 14)])⟩,
    ⟨(some 12), none, .p (.mv (.t 15))⟩,
    ⟨(some 16), none, .p (.ext 0 (.t 12))⟩,
    ⟨(some 17), none, .p (.ext 1 (.t 12))⟩,
    ⟨(some 8), none, .p (.mv (.t 16))⟩,
    ⟨(some 9), none, .p (.mv (.t 17))⟩])
  (.seq (.reg [⟨(some 19), none, .p (.ld1 (.t 3))⟩,
    ⟨(some 20), none, .p (.mv (.t 1))⟩,
    ⟨(some 21), none, .p (.xo (.lk (.one .str) (.int .i64 0) true) [(.t 19), (.t 20)])⟩,
    ⟨(some 18), none, .p (.mv (.t 21))⟩,
    ⟨(some 22), none, .p (.ext 0 (.t 18))⟩,
    ⟨(some 23), none, .p (.ext 1 (.t 18))⟩,
    ⟨(some 10), none, .p (.mv (.t 22))⟩,
    ⟨(some 11), none, .p (.mv (.t 23))⟩])
  (.seq (.seq (.reg [⟨(some 24), none, .p (.mv (.t 9))⟩,
    ⟨(some 25), none, .p (.not (.t 24))⟩,
    ⟨(some 26), none, .p (.mv (.t 25))⟩,
    ⟨(some 27), (some (26, false)), .p (.mv (.t 11))⟩,
    ⟨(some 28), (some (26, false)), .p (.mv (.t 27))⟩,
    ⟨(some 29), (some (28, true)), .p (.mv (.t 10))⟩,
    ⟨(some 30), (some (28, true)), .p (.mv (.t 8))⟩,
    ⟨(some 31), (some (28, true)), .p (.mv (.t 2))⟩,
    ⟨(some 32), (some (28, true)), .p (.bin .add (.t 30) (.t 31))⟩,
    ⟨(some 33), (some (28, true)), .p (.bin .leq (.t 29) (.t 32))⟩,
    ⟨(some 34), (some (26, false)), .p (.pick (.t 28) (.t 33) (.c (.bool false)))⟩,
    ⟨(some 35), none, .p (.pick (.t 26) (.c (.bool true)) (.t 34))⟩])
  (.cond (.t 35) (.seq (.reg [⟨(some 7), none, .p (.mv (.c (.bool false)))⟩])
  .ret) .skip))
  (.seq (.reg [⟨(some 36), none, .p (.ld1 (.t 3))⟩,
    ⟨(some 37), none, .p (.mv (.t 1))⟩,
    ⟨(some 38), none, .p (.mv (.t 8))⟩,
    ⟨(some 39), none, .p (.mv (.t 2))⟩,
    ⟨(some 40), none, .p (.bin .add (.t 38) (.t 39))⟩,
    ⟨none, none, .xs (.mu (.one .str)) [(.t 36), (.t 37), (.t 40)]⟩])
  (.seq (.reg [⟨(some 7), none, .p (.mv (.c (.bool true)))⟩])
  .ret))))))⟩
theorem c28 : compF Try.prog ⟨fun s => [].contains s, fun _ => []⟩ Try.f28 = some a28 := by kernel_rfl

/- airline/places.usable -/
def a29 : AFun := ⟨11, [.tmp 2], (.seq (.reg [⟨(some 1), none, .p (.boxI (.t 0))⟩,
    ⟨(some 2), none, .p (.mv (.c (.bool false)))⟩])
  (.seq (.reg [⟨(some 3), none, .p (.faddr 2 (.t 1))⟩,
    ⟨(some 4), none, .p (.ld1 (.t 3))⟩,
    ⟨(some 5), none, .p (.bin .geq (.t 4) (.c (.int .i64 1)))⟩,
    ⟨(some 6), none, .p (.mv (.t 5))⟩,
    ⟨(some 7), (some (6, true)), .p (.faddr 2 (.t 1))⟩,
    ⟨(some 8), (some (6, true)), .p (.ld1 (.t 7))⟩,
    ⟨(some 9), (some (6, true)), .p (.bin .leq (.t 8) (.c (.int .i64 20000)))⟩,
    ⟨(some 10), none, .p (.pick (.t 6) (.t 9) (.c (.bool false)))⟩,
    ⟨(some 2), none, .p (.mv (.t 10))⟩])
  .ret))⟩
theorem c29 : compF Try.prog ⟨fun s => [].contains s, fun _ => []⟩ Try.f29 = some a29 := by kernel_rfl

/- airline/airlineref06.City -/
def a30 : AFun := ⟨24, [.tmp 4], (.seq (.reg [⟨(some 2), none, .p (.boxI (.t 0))⟩,
    ⟨(some 4), none, .p (.mv (.c (.str [])))⟩])
  (.seq (.reg [⟨(some 8), none, .p (.ldn 2 (.t 2))⟩,
    ⟨(some 9), none, .p (.mv (.t 1))⟩,
    ⟨(some 10), none, .call 38 [(.t 8), (.t 9)]⟩,
    ⟨(some 7), none, .p (.mv (.t 10))⟩,
    ⟨(some 11), none, .p (.ext 0 (.t 7))⟩,
    ⟨(some 12), none, .p (.ext 1 (.t 7))⟩,
    ⟨(some 5), none, .newO 41 [(.str []), (.str []), (.str []), (.int .i64 0), .nilSl]⟩,
    ⟨none, none, .st 5 (.t 5) (.t 11)⟩,
    ⟨(some 6), none, .p (.mv (.t 12))⟩])
  (.seq (.seq (.reg [⟨(some 13), none, .p (.mv (.t 6))⟩])
  (.cond (.t 13) (.seq (.reg [⟨(some 14), none, .p (.faddr 1 (.t 5))⟩,
    ⟨(some 15), none, .p (.ld1 (.t 14))⟩,
    ⟨(some 4), none, .p (.mv (.t 15))⟩])
  .ret) .skip))
  (.seq (.reg [⟨(some 17), none, .p (.ldn 2 (.t 2))⟩,
    ⟨(some 18), none, .p (.mv (.t 1))⟩,
    ⟨(some 19), none, .call 39 [(.t 17), (.t 18)]⟩,
    ⟨(some 16), none, .p (.mv (.t 19))⟩,
    ⟨(some 20), none, .p (.ext 0 (.t 16))⟩,
    ⟨(some 21), none, .p (.ext 1 (.t 16))⟩,
    ⟨(some 6), none, .p (.mv (.t 21))⟩])
  (.seq (.seq (.reg [⟨(some 22), none, .p (.mv (.t 6))⟩])
  (.cond (.t 22) (.seq (.reg [⟨(some 23), none, .p (.mv (.t 1))⟩,
    ⟨(some 4), none, .p (.mv (.t 23))⟩])
  .ret) .skip))
  (.seq (.reg [⟨(some 4), none, .p (.mv (.c (.str [])))⟩])
  .ret))))))⟩
theorem c30 : compF Try.prog ⟨fun s => [].contains s, fun _ => []⟩ Try.f30 = some a30 := by kernel_rfl

/- airline/airlineref06.Usable -/
def a31 : AFun := ⟨11, [.tmp 2], (.seq (.reg [⟨(some 1), none, .p (.boxI (.t 0))⟩,
    ⟨(some 2), none, .p (.mv (.c (.bool false)))⟩])
  (.seq (.reg [⟨(some 3), none, .p (.faddr 2 (.t 1))⟩,
    ⟨(some 4), none, .p (.ld1 (.t 3))⟩,
    ⟨(some 5), none, .p (.bin .geq (.t 4) (.c (.int .i64 1)))⟩,
    ⟨(some 6), none, .p (.mv (.t 5))⟩,
    ⟨(some 7), (some (6, true)), .p (.faddr 2 (.t 1))⟩,
    ⟨(some 8), (some (6, true)), .p (.ld1 (.t 7))⟩,
    ⟨(some 9), (some (6, true)), .p (.bin .leq (.t 8) (.c (.int .i64 20000)))⟩,
    ⟨(some 10), none, .p (.pick (.t 6) (.t 9) (.c (.bool false)))⟩,
    ⟨(some 2), none, .p (.mv (.t 10))⟩])
  .ret))⟩
theorem c31 : compF Try.prog ⟨fun s => [].contains s, fun _ => []⟩ Try.f31 = some a31 := by kernel_rfl

/- airline/airlineref06.reached -/
def a32 : AFun := ⟨24, [.tmp 4], (.seq (.reg [⟨(some 4), none, .p (.mv (.c (.int .i64 0)))⟩])
  (.seq (.seq (.reg [⟨(some 5), none, .p (.mv (.c (.int .i64 0)))⟩])
  (.block 0 (.loop (.seq (.seq (.reg [⟨(some 6), none, .p (.mv (.t 5))⟩,
    ⟨(some 7), none, .p (.mv (.t 0))⟩,
    ⟨(some 8), none, .p (.lenA (.t 7))⟩,
    ⟨(some 9), none, .p (.bin .lss (.t 6) (.t 8))⟩])
  (.cond (.t 9) .skip (.exit 0)))
  (.seq (.block 1 (.seq (.reg [⟨(some 12), none, .p (.mv (.t 0))⟩,
    ⟨(some 13), none, .p (.mv (.t 5))⟩,
    ⟨(some 14), none, .p (.idxA 2 (.t 12) (.t 13))⟩,
    ⟨(some 15), none, .p (.faddr 0 (.t 14))⟩,
    ⟨(some 16), none, .p (.ld1 (.t 15))⟩,
    ⟨(some 17), none, .p (.mv (.t 1))⟩,
    ⟨(some 18), none, .p (.bin .eql (.t 16) (.t 17))⟩])
  (.cond (.t 18) (.seq (.reg [⟨(some 19), none, .p (.mv (.t 0))⟩,
    ⟨(some 20), none, .p (.mv (.t 5))⟩,
    ⟨(some 21), none, .p (.idxA 2 (.t 19) (.t 20))⟩,
    ⟨(some 22), none, .p (.faddr 1 (.t 21))⟩,
    ⟨(some 23), none, .p (.ld1 (.t 22))⟩,
    ⟨(some 4), none, .p (.mv (.t 23))⟩])
  .ret) .skip)))
  (.reg [⟨(some 10), none, .p (.mv (.t 5))⟩,
    ⟨(some 11), none, .p (.bin .add (.t 10) (.c (.int .i64 1)))⟩,
    ⟨(some 5), none, .p (.mv (.t 11))⟩]))))))
  (.seq (.reg [⟨(some 4), none, .p (.mv (.c (.int .i64 (-1))))⟩])
  .ret)))⟩
theorem c32 : compF Try.prog ⟨fun s => [].contains s, fun _ => []⟩ Try.f32 = some a32 := by kernel_rfl

/- airline/airlineref06.reach -/
def a33 : AFun := ⟨42, [.tmp 6, .tmp 7], (.seq (.reg [⟨(some 6), none, .p (.mv (.c .nilSl))⟩,
    ⟨(some 7), none, .p (.mv (.c (.bool false)))⟩])
  (.seq (.seq (.reg [⟨(some 8), none, .p (.mv (.c (.int .i64 0)))⟩])
  (.block 0 (.loop (.seq (.seq (.reg [⟨(some 9), none, .p (.mv (.t 8))⟩,
    ⟨(some 10), none, .p (.mv (.t 0))⟩,
    ⟨(some 11), none, .p (.lenA (.t 10))⟩,
    ⟨(some 12), none, .p (.bin .lss (.t 9) (.t 11))⟩])
  (.cond (.t 12) .skip (.exit 0)))
  (.seq (.block 1 (.seq (.reg [⟨(some 15), none, .p (.mv (.t 0))⟩,
    ⟨(some 16), none, .p (.mv (.t 8))⟩,
    ⟨(some 17), none, .p (.idxA 2 (.t 15) (.t 16))⟩,
    ⟨(some 18), none, .p (.faddr 0 (.t 17))⟩,
    ⟨(some 19), none, .p (.ld1 (.t 18))⟩,
    ⟨(some 20), none, .p (.mv (.t 1))⟩,
    ⟨(some 21), none, .p (.bin .eql (.t 19) (.t 20))⟩])
  (.cond (.t 21) (.seq (.seq (.reg [⟨(some 22), none, .p (.mv (.t 0))⟩,
    ⟨(some 23), none, .p (.mv (.t 8))⟩,
    ⟨(some 24), none, .p (.idxA 2 (.t 22) (.t 23))⟩,
    ⟨(some 25), none, .p (.faddr 1 (.t 24))⟩,
    ⟨(some 26), none, .p (.ld1 (.t 25))⟩,
    ⟨(some 27), none, .p (.mv (.t 2))⟩,
    ⟨(some 28), none, .p (.bin .leq (.t 26) (.t 27))⟩])
  (.cond (.t 28) (.seq (.reg [⟨(some 29), none, .p (.mv (.t 0))⟩,
    ⟨(some 6), none, .p (.mv (.t 29))⟩,
    ⟨(some 7), none, .p (.mv (.c (.bool false)))⟩])
  .ret) .skip))
  (.seq (.reg [⟨(some 30), none, .p (.mv (.t 0))⟩,
    ⟨(some 31), none, .p (.mv (.t 8))⟩,
    ⟨(some 32), none, .p (.mv (.t 2))⟩,
    ⟨(some 33), none, .p (.idxA 2 (.t 30) (.t 31))⟩,
    ⟨(some 34), none, .p (.faddr 1 (.t 33))⟩,
    ⟨none, none, .st 1 (.t 34) (.t 32)⟩])
  (.seq (.reg [⟨(some 35), none, .p (.mv (.t 0))⟩,
    ⟨(some 6), none, .p (.mv (.t 35))⟩,
    ⟨(some 7), none, .p (.mv (.c (.bool true)))⟩])
  .ret))) .skip)))
  (.reg [⟨(some 13), none, .p (.mv (.t 8))⟩,
    ⟨(some 14), none, .p (.bin .add (.t 13) (.c (.int .i64 1)))⟩,
    ⟨(some 8), none, .p (.mv (.t 14))⟩]))))))
  (.seq (.reg [⟨(some 36), none, .p (.mv (.t 0))⟩,
    ⟨(some 37), none, .p (.mv (.t 1))⟩,
    ⟨(some 38), none, .p (.mv (.t 2))⟩,
    ⟨(some 39), none, .p (.build [(.str []), (.int .i64 0)] [(0, 1, (.t 37)), (1, 1, (.t 38))])⟩,
    ⟨(some 40), none, .p (.bsl 2 [(.str []), (.int .i64 0)] 1 [(0, (.t 39))])⟩,
    ⟨(some 41), none, .app 59 2 (.t 36) (.t 40)⟩,
    ⟨(some 6), none, .p (.mv (.t 41))⟩,
    ⟨(some 7), none, .p (.mv (.c (.bool true)))⟩])
  .ret)))⟩
theorem c33 : compF Try.prog ⟨fun s => [].contains s, fun _ => []⟩ Try.f33 = some a33 := by kernel_rfl

/- math/bits.Mul64 -/
def a34 : AFun := ⟨51, [.tmp 4, .tmp 5], (.seq (.reg [⟨(some 4), none, .p (.mv (.c (.int .u64 0)))⟩,
    ⟨(some 5), none, .p (.mv (.c (.int .u64 0)))⟩])
  (.seq (.reg [⟨(some 14), none, .p (.mv (.t 0))⟩,
    ⟨(some 15), none, .p (.bin .and (.t 14) (.c (.int .u64 4294967295)))⟩,
    ⟨(some 6), none, .p (.mv (.t 15))⟩])
  (.seq (.reg [⟨(some 16), none, .p (.mv (.t 0))⟩,
    ⟨(some 17), none, .p (.bin .shr (.t 16) (.c (.int .u64 32)))⟩,
    ⟨(some 7), none, .p (.mv (.t 17))⟩])
  (.seq (.reg [⟨(some 18), none, .p (.mv (.t 1))⟩,
    ⟨(some 19), none, .p (.bin .and (.t 18) (.c (.int .u64 4294967295)))⟩,
    ⟨(some 8), none, .p (.mv (.t 19))⟩])
  (.seq (.reg [⟨(some 20), none, .p (.mv (.t 1))⟩,
    ⟨(some 21), none, .p (.bin .shr (.t 20) (.c (.int .u64 32)))⟩,
    ⟨(some 9), none, .p (.mv (.t 21))⟩])
  (.seq (.reg [⟨(some 22), none, .p (.mv (.t 6))⟩,
    ⟨(some 23), none, .p (.mv (.t 8))⟩,
    ⟨(some 24), none, .p (.bin .mul (.t 22) (.t 23))⟩,
    ⟨(some 10), none, .p (.mv (.t 24))⟩])
  (.seq (.reg [⟨(some 25), none, .p (.mv (.t 7))⟩,
    ⟨(some 26), none, .p (.mv (.t 8))⟩,
    ⟨(some 27), none, .p (.bin .mul (.t 25) (.t 26))⟩,
    ⟨(some 28), none, .p (.mv (.t 10))⟩,
    ⟨(some 29), none, .p (.bin .shr (.t 28) (.c (.int .u64 32)))⟩,
    ⟨(some 30), none, .p (.bin .add (.t 27) (.t 29))⟩,
    ⟨(some 11), none, .p (.mv (.t 30))⟩])
  (.seq (.reg [⟨(some 31), none, .p (.mv (.t 11))⟩,
    ⟨(some 32), none, .p (.bin .and (.t 31) (.c (.int .u64 4294967295)))⟩,
    ⟨(some 12), none, .p (.mv (.t 32))⟩])
  (.seq (.reg [⟨(some 33), none, .p (.mv (.t 11))⟩,
    ⟨(some 34), none, .p (.bin .shr (.t 33) (.c (.int .u64 32)))⟩,
    ⟨(some 13), none, .p (.mv (.t 34))⟩])
  (.seq (.reg [⟨(some 35), none, .p (.mv (.t 12))⟩,
    ⟨(some 36), none, .p (.mv (.t 6))⟩,
    ⟨(some 37), none, .p (.mv (.t 9))⟩,
    ⟨(some 38), none, .p (.bin .mul (.t 36) (.t 37))⟩,
    ⟨(some 39), none, .p (.bin .add (.t 35) (.t 38))⟩,
    ⟨(some 12), none, .p (.mv (.t 39))⟩])
  (.seq (.reg [⟨(some 40), none, .p (.mv (.t 7))⟩,
    ⟨(some 41), none, .p (.mv (.t 9))⟩,
    ⟨(some 42), none, .p (.bin .mul (.t 40) (.t 41))⟩,
    ⟨(some 43), none, .p (.mv (.t 13))⟩,
    ⟨(some 44), none, .p (.bin .add (.t 42) (.t 43))⟩,
    ⟨(some 45), none, .p (.mv (.t 12))⟩,
    ⟨(some 46), none, .p (.bin .shr (.t 45) (.c (.int .u64 32)))⟩,
    ⟨(some 47), none, .p (.bin .add (.t 44) (.t 46))⟩,
    ⟨(some 4), none, .p (.mv (.t 47))⟩])
  (.seq (.reg [⟨(some 48), none, .p (.mv (.t 0))⟩,
    ⟨(some 49), none, .p (.mv (.t 1))⟩,
    ⟨(some 50), none, .p (.bin .mul (.t 48) (.t 49))⟩,
    ⟨(some 5), none, .p (.mv (.t 50))⟩])
  .ret))))))))))))⟩
theorem c34 : compF Try.prog ⟨fun s => [].contains s, fun _ => []⟩ Try.f34 = some a34 := by kernel_rfl

/- math/bits.Div64 -/
def a35 : AFun := ⟨135, [.tmp 6, .tmp 7], (.seq (.reg [⟨(some 6), none, .p (.mv (.c (.int .u64 0)))⟩,
    ⟨(some 7), none, .p (.mv (.c (.int .u64 0)))⟩])
  (.seq (.seq (.reg [⟨(some 19), none, .p (.mv (.t 2))⟩,
    ⟨(some 20), none, .p (.bin .eql (.t 19) (.c (.int .u64 0)))⟩])
  (.cond (.t 20) (.reg [⟨(some 21), none, .p (.xo .stuck [])⟩,
    ⟨none, none, .p (.xo .stuck [])⟩]) .skip))
  (.seq (.seq (.reg [⟨(some 22), none, .p (.mv (.t 2))⟩,
    ⟨(some 23), none, .p (.mv (.t 0))⟩,
    ⟨(some 24), none, .p (.bin .leq (.t 22) (.t 23))⟩])
  (.cond (.t 24) (.reg [⟨(some 25), none, .p (.xo .stuck [])⟩,
    ⟨none, none, .p (.xo .stuck [])⟩]) .skip))
  (.seq (.seq (.reg [⟨(some 26), none, .p (.mv (.t 0))⟩,
    ⟨(some 27), none, .p (.bin .eql (.t 26) (.c (.int .u64 0)))⟩])
  (.cond (.t 27) (.seq (.oreg [(.quiet, ⟨(some 28), none, .p (.mv (.t 1))⟩),
    (.quiet, ⟨(some 29), none, .p (.mv (.t 2))⟩),
    (.quiet, ⟨(some 30), none, .p (.bin .quo (.t 28) (.t 29))⟩),
    (.quiet, ⟨(some 31), none, .p (.mv (.t 1))⟩),
    (.quiet, ⟨(some 32), none, .p (.mv (.t 2))⟩),
    (.quiet, ⟨(some 33), none, .p (.bin .rem (.t 31) (.t 32))⟩),
    (.quiet, ⟨(some 6), none, .p (.mv (.t 30))⟩),
    (.quiet, ⟨(some 7), none, .p (.mv (.t 33))⟩)])
  .ret) .skip))
  (.seq (.reg [⟨(some 34), none, .p (.mv (.t 2))⟩,
    ⟨(some 35), none, .call 40 [(.t 34)]⟩,
    ⟨(some 36), none, .p (.conv .u64 (.t 35))⟩,
    ⟨(some 8), none, .p (.mv (.t 36))⟩])
  (.seq (.reg [⟨(some 37), none, .p (.mv (.t 2))⟩,
    ⟨(some 38), none, .p (.mv (.t 8))⟩,
    ⟨(some 39), none, .p (.bin .shl (.t 37) (.t 38))⟩,
    ⟨(some 2), none, .p (.mv (.t 39))⟩])
  (.seq (.reg [⟨(some 40), none, .p (.mv (.t 2))⟩,
    ⟨(some 41), none, .p (.bin .shr (.t 40) (.c (.int .u64 32)))⟩,
    ⟨(some 9), none, .p (.mv (.t 41))⟩])
  (.seq (.reg [⟨(some 42), none, .p (.mv (.t 2))⟩,
    ⟨(some 43), none, .p (.bin .and (.t 42) (.c (.int .u64 4294967295)))⟩,
    ⟨(some 10), none, .p (.mv (.t 43))⟩])
  (.seq (.reg [⟨(some 44), none, .p (.mv (.t 0))⟩,
    ⟨(some 45), none, .p (.mv (.t 8))⟩,
    ⟨(some 46), none, .p (.bin .shl (.t 44) (.t 45))⟩,
    ⟨(some 47), none, .p (.mv (.t 1))⟩,
    ⟨(some 48), none, .p (.mv (.t 8))⟩,
    ⟨(some 49), none, .p (.bin .sub (.c (.int .u64 64)) (.t 48))⟩,
    ⟨(some 50), none, .p (.bin .shr (.t 47) (.t 49))⟩,
    ⟨(some 51), none, .p (.bin .or (.t 46) (.t 50))⟩,
    ⟨(some 11), none, .p (.mv (.t 51))⟩])
  (.seq (.reg [⟨(some 52), none, .p (.mv (.t 1))⟩,
    ⟨(some 53), none, .p (.mv (.t 8))⟩,
    ⟨(some 54), none, .p (.bin .shl (.t 52) (.t 53))⟩,
    ⟨(some 12), none, .p (.mv (.t 54))⟩])
  (.seq (.reg [⟨(some 55), none, .p (.mv (.t 12))⟩,
    ⟨(some 56), none, .p (.bin .shr (.t 55) (.c (.int .u64 32)))⟩,
    ⟨(some 13), none, .p (.mv (.t 56))⟩])
  (.seq (.reg [⟨(some 57), none, .p (.mv (.t 12))⟩,
    ⟨(some 58), none, .p (.bin .and (.t 57) (.c (.int .u64 4294967295)))⟩,
    ⟨(some 14), none, .p (.mv (.t 58))⟩])
  (.seq (.reg [⟨(some 59), none, .p (.mv (.t 11))⟩,
    ⟨(some 60), none, .p (.mv (.t 9))⟩,
    ⟨(some 61), none, .p (.bin .quo (.t 59) (.t 60))⟩,
    ⟨(some 15), none, .p (.mv (.t 61))⟩])
  (.seq (.reg [⟨(some 62), none, .p (.mv (.t 11))⟩,
    ⟨(some 63), none, .p (.mv (.t 15))⟩,
    ⟨(some 64), none, .p (.mv (.t 9))⟩,
    ⟨(some 65), none, .p (.bin .mul (.t 63) (.t 64))⟩,
    ⟨(some 66), none, .p (.bin .sub (.t 62) (.t 65))⟩,
    ⟨(some 16), none, .p (.mv (.t 66))⟩])
  (.seq (.block 0 (.loop (.seq (.seq (.reg [⟨(some 67), none, .p (.mv (.t 15))⟩,
    ⟨(some 68), none, .p (.bin .geq (.t 67) (.c (.int .u64 4294967296)))⟩,
    ⟨(some 69), none, .p (.mv (.t 68))⟩,
    ⟨(some 70), (some (69, false)), .p (.mv (.t 15))⟩,
    ⟨(some 71), (some (69, false)), .p (.mv (.t 10))⟩,
    ⟨(some 72), (some (69, false)), .p (.bin .mul (.t 70) (.t 71))⟩,
    ⟨(some 73), (some (69, false)), .p (.mv (.t 16))⟩,
    ⟨(some 74), (some (69, false)), .p (.bin .mul (.c (.int .u64 4294967296)) (.t 73))⟩,
    ⟨(some 75), (some (69, false)), .p (.mv (.t 13))⟩,
    ⟨(some 76), (some (69, false)), .p (.bin .add (.t 74) (.t 75))⟩,
    ⟨(some 77), (some (69, false)), .p (.bin .gtr (.t 72) (.t 76))⟩,
    ⟨(some 78), none, .p (.pick (.t 69) (.c (.bool true)) (.t 77))⟩])
  (.cond (.t 78) .skip (.exit 0)))
  (.block 1 (.seq (.reg [⟨(some 79), none, .p (.mv (.t 15))⟩,
    ⟨(some 80), none, .p (.bin .sub (.t 79) (.c (.int .u64 1)))⟩,
    ⟨(some 15), none, .p (.mv (.t 80))⟩])
  (.seq (.reg [⟨(some 81), none, .p (.mv (.t 16))⟩,
    ⟨(some 82), none, .p (.mv (.t 9))⟩,
    ⟨(some 83), none, .p (.bin .add (.t 81) (.t 82))⟩,
    ⟨(some 16), none, .p (.mv (.t 83))⟩])
  (.seq (.reg [⟨(some 84), none, .p (.mv (.t 16))⟩,
    ⟨(some 85), none, .p (.bin .geq (.t 84) (.c (.int .u64 4294967296)))⟩])
  (.cond (.t 85) (.exit 0) .skip))))))))
  (.seq (.reg [⟨(some 86), none, .p (.mv (.t 11))⟩,
    ⟨(some 87), none, .p (.bin .mul (.t 86) (.c (.int .u64 4294967296)))⟩,
    ⟨(some 88), none, .p (.mv (.t 13))⟩,
    ⟨(some 89), none, .p (.bin .add (.t 87) (.t 88))⟩,
    ⟨(some 90), none, .p (.mv (.t 15))⟩,
    ⟨(some 91), none, .p (.mv (.t 2))⟩,
    ⟨(some 92), none, .p (.bin .mul (.t 90) (.t 91))⟩,
    ⟨(some 93), none, .p (.bin .sub (.t 89) (.t 92))⟩,
    ⟨(some 17), none, .p (.mv (.t 93))⟩])
  (.seq (.reg [⟨(some 94), none, .p (.mv (.t 17))⟩,
    ⟨(some 95), none, .p (.mv (.t 9))⟩,
    ⟨(some 96), none, .p (.bin .quo (.t 94) (.t 95))⟩,
    ⟨(some 18), none, .p (.mv (.t 96))⟩])
  (.seq (.reg [⟨(some 97), none, .p (.mv (.t 17))⟩,
    ⟨(some 98), none, .p (.mv (.t 18))⟩,
    ⟨(some 99), none, .p (.mv (.t 9))⟩,
    ⟨(some 100), none, .p (.bin .mul (.t 98) (.t 99))⟩,
    ⟨(some 101), none, .p (.bin .sub (.t 97) (.t 100))⟩,
    ⟨(some 16), none, .p (.mv (.t 101))⟩])
  (.seq (.block 2 (.loop (.seq (.seq (.reg [⟨(some 102), none, .p (.mv (.t 18))⟩,
    ⟨(some 103), none, .p (.bin .geq (.t 102) (.c (.int .u64 4294967296)))⟩,
    ⟨(some 104), none, .p (.mv (.t 103))⟩,
    ⟨(some 105), (some (104, false)), .p (.mv (.t 18))⟩,
    ⟨(some 106), (some (104, false)), .p (.mv (.t 10))⟩,
    ⟨(some 107), (some (104, false)), .p (.bin .mul (.t 105) (.t 106))⟩,
    ⟨(some 108), (some (104, false)), .p (.mv (.t 16))⟩,
    ⟨(some 109), (some (104, false)), .p (.bin .mul (.c (.int .u64 4294967296)) (.t 108))⟩,
    ⟨(some 110), (some (104, false)), .p (.mv (.t 14))⟩,
    ⟨(some 111), (some (104, false)), .p (.bin .add (.t 109) (.t 110))⟩,
    ⟨(some 112), (some (104, false)), .p (.bin .gtr (.t 107) (.t 111))⟩,
    ⟨(some 113), none, .p (.pick (.t 104) (.c (.bool true)) (.t 112))⟩])
  (.cond (.t 113) .skip (.exit 2)))
  (.block 3 (.seq (.reg [⟨(some 114), none, .p (.mv (.t 18))⟩,
    ⟨(some 115), none, .p (.bin .sub (.t 114) (.c (.int .u64 1)))⟩,
    ⟨(some 18), none, .p (.mv (.t 115))⟩])
  (.seq (.reg [⟨(some 116), none, .p (.mv (.t 16))⟩,
    ⟨(some 117), none, .p (.mv (.t 9))⟩,
    ⟨(some 118), none, .p (.bin .add (.t 116) (.t 117))⟩,
    ⟨(some 16), none, .p (.mv (.t 118))⟩])
  (.seq (.reg [⟨(some 119), none, .p (.mv (.t 16))⟩,
    ⟨(some 120), none, .p (.bin .geq (.t 119) (.c (.int .u64 4294967296)))⟩])
  (.cond (.t 120) (.exit 2) .skip))))))))
  (.seq (.reg [⟨(some 121), none, .p (.mv (.t 15))⟩,
    ⟨(some 122), none, .p (.bin .mul (.t 121) (.c (.int .u64 4294967296)))⟩,
    ⟨(some 123), none, .p (.mv (.t 18))⟩,
    ⟨(some 124), none, .p (.bin .add (.t 122) (.t 123))⟩,
    ⟨(some 125), none, .p (.mv (.t 17))⟩,
    ⟨(some 126), none, .p (.bin .mul (.t 125) (.c (.int .u64 4294967296)))⟩,
    ⟨(some 127), none, .p (.mv (.t 14))⟩,
    ⟨(some 128), none, .p (.bin .add (.t 126) (.t 127))⟩,
    ⟨(some 129), none, .p (.mv (.t 18))⟩,
    ⟨(some 130), none, .p (.mv (.t 2))⟩,
    ⟨(some 131), none, .p (.bin .mul (.t 129) (.t 130))⟩,
    ⟨(some 132), none, .p (.bin .sub (.t 128) (.t 131))⟩,
    ⟨(some 133), none, .p (.mv (.t 8))⟩,
    ⟨(some 134), none, .p (.bin .shr (.t 132) (.t 133))⟩,
    ⟨(some 6), none, .p (.mv (.t 124))⟩,
    ⟨(some 7), none, .p (.mv (.t 134))⟩])
  .ret))))))))))))))))))))⟩
theorem c35 : compF Try.prog ⟨fun s => [].contains s, fun r => match r with | 6 => [(0, .quiet), (1, .quiet), (2, .quiet), (3, .quiet), (4, .quiet), (5, .quiet), (6, .quiet), (7, .quiet)] | _ => []⟩ Try.f35 = some a35 := by kernel_rfl

/- airline/places.Find -/
def a36 : AFun := ⟨22, [.cell 4 (some 5), .tmp 5], (.seq (.reg [⟨(some 2), none, .p (.boxI (.t 0))⟩,
    ⟨(some 4), none, .newO 41 [(.str []), (.str []), (.str []), (.int .i64 0), .nilSl]⟩,
    ⟨(some 5), none, .p (.mv (.c (.bool false)))⟩])
  (.seq (.seq (.reg [⟨(some 8), none, .p (.faddr 0 (.t 2))⟩,
    ⟨(some 9), none, .p (.ld1 (.t 8))⟩,
    ⟨(some 10), none, .p (.lenA (.t 9))⟩,
    ⟨(some 11), none, .p (.mv (.c (.int .i64 0)))⟩])
  (.block 0 (.loop (.seq (.reg [⟨(some 12), none, .p (.bin .lss (.t 11) (.t 10))⟩])
  (.seq (.cond (.t 12) .skip (.exit 0))
  (.seq (.block 1 (.seq (.reg [⟨(some 13), none, .p (.idxA 5 (.t 9) (.t 11))⟩,
    ⟨(some 14), none, .p (.ldn 5 (.t 13))⟩,
    ⟨(some 7), none, .newO 41 [(.str []), (.str []), (.str []), (.int .i64 0), .nilSl]⟩,
    ⟨none, none, .st 5 (.t 7) (.t 14)⟩])
  (.seq (.reg [⟨(some 15), none, .p (.faddr 0 (.t 7))⟩,
    ⟨(some 16), none, .p (.ld1 (.t 15))⟩,
    ⟨(some 17), none, .p (.mv (.t 1))⟩,
    ⟨(some 18), none, .p (.bin .eql (.t 16) (.t 17))⟩])
  (.cond (.t 18) (.seq (.reg [⟨(some 19), none, .p (.ldn 5 (.t 7))⟩,
    ⟨none, none, .st 5 (.t 4) (.t 19)⟩,
    ⟨(some 5), none, .p (.mv (.c (.bool true)))⟩])
  .ret) .skip))))
  (.reg [⟨(some 20), none, .p (.bin .add (.t 11) (.c (.int .i64 1)))⟩,
    ⟨(some 11), none, .p (.mv (.t 20))⟩])))))))
  (.seq (.reg [⟨(some 21), none, .p (.build [(.str []), (.str []), (.str []), (.int .i64 0), .nilSl] [])⟩,
    ⟨none, none, .st 5 (.t 4) (.t 21)⟩,
    ⟨(some 5), none, .p (.mv (.c (.bool false)))⟩])
  .ret)))⟩
theorem c36 : compF Try.prog ⟨fun s => [].contains s, fun _ => []⟩ Try.f36 = some a36 := by kernel_rfl

/- airline/places.town -/
def a37 : AFun := ⟨22, [.cell 4 (some 5), .tmp 5], (.seq (.reg [⟨(some 2), none, .p (.boxI (.t 0))⟩,
    ⟨(some 4), none, .newO 41 [(.str []), (.str []), (.str []), (.int .i64 0), .nilSl]⟩,
    ⟨(some 5), none, .p (.mv (.c (.bool false)))⟩])
  (.seq (.seq (.reg [⟨(some 8), none, .p (.faddr 0 (.t 2))⟩,
    ⟨(some 9), none, .p (.ld1 (.t 8))⟩,
    ⟨(some 10), none, .p (.lenA (.t 9))⟩,
    ⟨(some 11), none, .p (.mv (.c (.int .i64 0)))⟩])
  (.block 0 (.loop (.seq (.reg [⟨(some 12), none, .p (.bin .lss (.t 11) (.t 10))⟩])
  (.seq (.cond (.t 12) .skip (.exit 0))
  (.seq (.block 1 (.seq (.reg [⟨(some 13), none, .p (.idxA 5 (.t 9) (.t 11))⟩,
    ⟨(some 14), none, .p (.ldn 5 (.t 13))⟩,
    ⟨(some 7), none, .newO 41 [(.str []), (.str []), (.str []), (.int .i64 0), .nilSl]⟩,
    ⟨none, none, .st 5 (.t 7) (.t 14)⟩])
  (.seq (.reg [⟨(some 15), none, .p (.faddr 1 (.t 7))⟩,
    ⟨(some 16), none, .p (.ld1 (.t 15))⟩,
    ⟨(some 17), none, .p (.mv (.t 1))⟩,
    ⟨(some 18), none, .p (.bin .eql (.t 16) (.t 17))⟩])
  (.cond (.t 18) (.seq (.reg [⟨(some 19), none, .p (.ldn 5 (.t 7))⟩,
    ⟨none, none, .st 5 (.t 4) (.t 19)⟩,
    ⟨(some 5), none, .p (.mv (.c (.bool true)))⟩])
  .ret) .skip))))
  (.reg [⟨(some 20), none, .p (.bin .add (.t 11) (.c (.int .i64 1)))⟩,
    ⟨(some 11), none, .p (.mv (.t 20))⟩])))))))
  (.seq (.reg [⟨(some 21), none, .p (.build [(.str []), (.str []), (.str []), (.int .i64 0), .nilSl] [])⟩,
    ⟨none, none, .st 5 (.t 4) (.t 21)⟩,
    ⟨(some 5), none, .p (.mv (.c (.bool false)))⟩])
  .ret)))⟩
theorem c37 : compF Try.prog ⟨fun s => [].contains s, fun _ => []⟩ Try.f37 = some a37 := by kernel_rfl

/- airline/airlineref06.Find -/
def a38 : AFun := ⟨28, [.cell 4 (some 5), .tmp 5], (.seq (.reg [⟨(some 2), none, .p (.boxI (.t 0))⟩,
    ⟨(some 4), none, .newO 41 [(.str []), (.str []), (.str []), (.int .i64 0), .nilSl]⟩,
    ⟨(some 5), none, .p (.mv (.c (.bool false)))⟩])
  (.seq (.seq (.reg [⟨(some 6), none, .p (.mv (.c (.int .i64 0)))⟩])
  (.block 0 (.loop (.seq (.seq (.reg [⟨(some 7), none, .p (.mv (.t 6))⟩,
    ⟨(some 8), none, .p (.faddr 0 (.t 2))⟩,
    ⟨(some 9), none, .p (.ld1 (.t 8))⟩,
    ⟨(some 10), none, .p (.lenA (.t 9))⟩,
    ⟨(some 11), none, .p (.bin .lss (.t 7) (.t 10))⟩])
  (.cond (.t 11) .skip (.exit 0)))
  (.seq (.block 1 (.seq (.reg [⟨(some 14), none, .p (.faddr 0 (.t 2))⟩,
    ⟨(some 15), none, .p (.ld1 (.t 14))⟩,
    ⟨(some 16), none, .p (.mv (.t 6))⟩,
    ⟨(some 17), none, .p (.idxA 5 (.t 15) (.t 16))⟩,
    ⟨(some 18), none, .p (.faddr 0 (.t 17))⟩,
    ⟨(some 19), none, .p (.ld1 (.t 18))⟩,
    ⟨(some 20), none, .p (.mv (.t 1))⟩,
    ⟨(some 21), none, .p (.bin .eql (.t 19) (.t 20))⟩])
  (.cond (.t 21) (.seq (.reg [⟨(some 22), none, .p (.faddr 0 (.t 2))⟩,
    ⟨(some 23), none, .p (.ld1 (.t 22))⟩,
    ⟨(some 24), none, .p (.mv (.t 6))⟩,
    ⟨(some 25), none, .p (.idxA 5 (.t 23) (.t 24))⟩,
    ⟨(some 26), none, .p (.ldn 5 (.t 25))⟩,
    ⟨none, none, .st 5 (.t 4) (.t 26)⟩,
    ⟨(some 5), none, .p (.mv (.c (.bool true)))⟩])
  .ret) .skip)))
  (.reg [⟨(some 12), none, .p (.mv (.t 6))⟩,
    ⟨(some 13), none, .p (.bin .add (.t 12) (.c (.int .i64 1)))⟩,
    ⟨(some 6), none, .p (.mv (.t 13))⟩]))))))
  (.seq (.reg [⟨(some 27), none, .p (.build [(.str []), (.str []), (.str []), (.int .i64 0), .nilSl] [])⟩,
    ⟨none, none, .st 5 (.t 4) (.t 27)⟩,
    ⟨(some 5), none, .p (.mv (.c (.bool false)))⟩])
  .ret)))⟩
theorem c38 : compF Try.prog ⟨fun s => [].contains s, fun _ => []⟩ Try.f38 = some a38 := by kernel_rfl

/- airline/airlineref06.town -/
def a39 : AFun := ⟨28, [.cell 4 (some 5), .tmp 5], (.seq (.reg [⟨(some 2), none, .p (.boxI (.t 0))⟩,
    ⟨(some 4), none, .newO 41 [(.str []), (.str []), (.str []), (.int .i64 0), .nilSl]⟩,
    ⟨(some 5), none, .p (.mv (.c (.bool false)))⟩])
  (.seq (.seq (.reg [⟨(some 6), none, .p (.mv (.c (.int .i64 0)))⟩])
  (.block 0 (.loop (.seq (.seq (.reg [⟨(some 7), none, .p (.mv (.t 6))⟩,
    ⟨(some 8), none, .p (.faddr 0 (.t 2))⟩,
    ⟨(some 9), none, .p (.ld1 (.t 8))⟩,
    ⟨(some 10), none, .p (.lenA (.t 9))⟩,
    ⟨(some 11), none, .p (.bin .lss (.t 7) (.t 10))⟩])
  (.cond (.t 11) .skip (.exit 0)))
  (.seq (.block 1 (.seq (.reg [⟨(some 14), none, .p (.faddr 0 (.t 2))⟩,
    ⟨(some 15), none, .p (.ld1 (.t 14))⟩,
    ⟨(some 16), none, .p (.mv (.t 6))⟩,
    ⟨(some 17), none, .p (.idxA 5 (.t 15) (.t 16))⟩,
    ⟨(some 18), none, .p (.faddr 1 (.t 17))⟩,
    ⟨(some 19), none, .p (.ld1 (.t 18))⟩,
    ⟨(some 20), none, .p (.mv (.t 1))⟩,
    ⟨(some 21), none, .p (.bin .eql (.t 19) (.t 20))⟩])
  (.cond (.t 21) (.seq (.reg [⟨(some 22), none, .p (.faddr 0 (.t 2))⟩,
    ⟨(some 23), none, .p (.ld1 (.t 22))⟩,
    ⟨(some 24), none, .p (.mv (.t 6))⟩,
    ⟨(some 25), none, .p (.idxA 5 (.t 23) (.t 24))⟩,
    ⟨(some 26), none, .p (.ldn 5 (.t 25))⟩,
    ⟨none, none, .st 5 (.t 4) (.t 26)⟩,
    ⟨(some 5), none, .p (.mv (.c (.bool true)))⟩])
  .ret) .skip)))
  (.reg [⟨(some 12), none, .p (.mv (.t 6))⟩,
    ⟨(some 13), none, .p (.bin .add (.t 12) (.c (.int .i64 1)))⟩,
    ⟨(some 6), none, .p (.mv (.t 13))⟩]))))))
  (.seq (.reg [⟨(some 27), none, .p (.build [(.str []), (.str []), (.str []), (.int .i64 0), .nilSl] [])⟩,
    ⟨none, none, .st 5 (.t 4) (.t 27)⟩,
    ⟨(some 5), none, .p (.mv (.c (.bool false)))⟩])
  .ret)))⟩
theorem c39 : compF Try.prog ⟨fun s => [].contains s, fun _ => []⟩ Try.f39 = some a39 := by kernel_rfl

/- math/bits.LeadingZeros64 -/
def a40 : AFun := ⟨6, [.tmp 2], (.seq (.reg [⟨(some 2), none, .p (.mv (.c (.int .i64 0)))⟩])
  (.seq (.reg [⟨(some 3), none, .p (.mv (.t 0))⟩,
    ⟨(some 4), none, .call 41 [(.t 3)]⟩,
    ⟨(some 5), none, .p (.bin .sub (.c (.int .i64 64)) (.t 4))⟩,
    ⟨(some 2), none, .p (.mv (.t 5))⟩])
  .ret))⟩
theorem c40 : compF Try.prog ⟨fun s => [].contains s, fun _ => []⟩ Try.f40 = some a40 := by kernel_rfl

/- math/bits.Len64 -/
def a41 : AFun := ⟨25, [.tmp 2], (.seq (.reg [⟨(some 2), none, .p (.mv (.c (.int .i64 0)))⟩])
  (.seq (.seq (.reg [⟨(some 3), none, .p (.mv (.t 0))⟩,
    ⟨(some 4), none, .p (.bin .geq (.t 3) (.c (.int .u64 4294967296)))⟩])
  (.cond (.t 4) (.seq (.reg [⟨(some 5), none, .p (.mv (.t 0))⟩,
    ⟨(some 6), none, .p (.bin .shr (.t 5) (.c (.int .u64 32)))⟩,
    ⟨(some 0), none, .p (.mv (.t 6))⟩])
  (.reg [⟨(some 2), none, .p (.mv (.c (.int .i64 32)))⟩])) .skip))
  (.seq (.seq (.reg [⟨(some 7), none, .p (.mv (.t 0))⟩,
    ⟨(some 8), none, .p (.bin .geq (.t 7) (.c (.int .u64 65536)))⟩])
  (.cond (.t 8) (.seq (.reg [⟨(some 9), none, .p (.mv (.t 0))⟩,
    ⟨(some 10), none, .p (.bin .shr (.t 9) (.c (.int .u64 16)))⟩,
    ⟨(some 0), none, .p (.mv (.t 10))⟩])
  (.reg [⟨(some 11), none, .p (.mv (.t 2))⟩,
    ⟨(some 12), none, .p (.bin .add (.t 11) (.c (.int .i64 16)))⟩,
    ⟨(some 2), none, .p (.mv (.t 12))⟩])) .skip))
  (.seq (.seq (.reg [⟨(some 13), none, .p (.mv (.t 0))⟩,
    ⟨(some 14), none, .p (.bin .geq (.t 13) (.c (.int .u64 256)))⟩])
  (.cond (.t 14) (.seq (.reg [⟨(some 15), none, .p (.mv (.t 0))⟩,
    ⟨(some 16), none, .p (.bin .shr (.t 15) (.c (.int .u64 8)))⟩,
    ⟨(some 0), none, .p (.mv (.t 16))⟩])
  (.reg [⟨(some 17), none, .p (.mv (.t 2))⟩,
    ⟨(some 18), none, .p (.bin .add (.t 17) (.c (.int .i64 8)))⟩,
    ⟨(some 2), none, .p (.mv (.t 18))⟩])) .skip))
  (.seq (.reg [⟨(some 19), none, .p (.mv (.t 2))⟩,
    ⟨(some 20), none, .p (.mv (.t 0))⟩,
    ⟨(some 21), none, .p (.conv .u8 (.t 20))⟩,
    ⟨(some 22), none, .p (.idxS (.c (.str [0, 1, 2, 2, 3, 3, 3, 3, 4, 4, 4, 4, 4, 4, 4, 4, 5, 5, 5, 5, 5, 5, 5, 5, 5, 5, 5, 5, 5, 5, 5, 5, 6, 6, 6, 6, 6, 6, 6, 6, 6, 6, 6, 6, 6, 6, 6, 6, 6, 6, 6, 6, 6, 6, 6, 6, 6, 6, 6, 6, 6, 6, 6, 6, 7, 7, 7, 7, 7, 7, 7, 7, 7, 7, 7, 7, 7, 7, 7, 7, 7, 7, 7, 7, 7, 7, 7, 7, 7, 7, 7, 7, 7, 7, 7, 7, 7, 7, 7, 7, 7, 7, 7, 7, 7, 7, 7, 7, 7, 7, 7, 7, 7, 7, 7, 7, 7, 7, 7, 7, 7, 7, 7, 7, 7, 7, 7, 7, 8, 8, 8, 8, 8, 8, 8, 8, 8, 8, 8, 8, 8, 8, 8, 8, 8, 8, 8, 8, 8, 8, 8, 8, 8, 8, 8, 8, 8, 8, 8, 8, 8, 8, 8, 8, 8, 8, 8, 8, 8, 8, 8, 8, 8, 8, 8, 8, 8, 8, 8, 8, 8, 8, 8, 8, 8, 8, 8, 8, 8, 8, 8, 8, 8, 8, 8, 8, 8, 8, 8, 8, 8, 8, 8, 8, 8, 8, 8, 8, 8, 8, 8, 8, 8, 8, 8, 8, 8, 8, 8, 8, 8, 8, 8, 8, 8, 8, 8, 8, 8, 8, 8, 8, 8, 8, 8, 8, 8, 8, 8, 8, 8, 8, 8, 8, 8, 8, 8, 8, 8, 8, 8, 8, 8, 8, 8, 8])) (.t 21))⟩,
    ⟨(some 23), none, .p (.conv .i64 (.t 22))⟩,
    ⟨(some 24), none, .p (.bin .add (.t 19) (.t 23))⟩,
    ⟨(some 2), none, .p (.mv (.t 24))⟩])
  .ret)))))⟩
theorem c41 : compF Try.prog ⟨fun s => [].contains s, fun _ => []⟩ Try.f41 = some a41 := by kernel_rfl

end Go.Proofs.Ytbbjjnhcbfdhlaa
