/- The functions of mirror and reconcile, compiled (printed by gen.sh). -/
import Derived.Test.YtdkcicbpcagonabAlX
import Derived.Test.YtdkcicbpcagonabProg
namespace Go.Proofs.Ytdkcicbpcagonab
open Go Go.AL

/- airline/airlinelaw46.ReconcileNil -/
def a204 : AFun := ⟨80, [.tmp 2], (.seq (.reg [⟨(some 2), none, .p (.mv (.c (.bool false)))⟩])
  (.seq (.seq (.reg [⟨(some 18), none, .p (.mv (.t 0))⟩,
    ⟨(some 19), none, .p (.lenA (.t 18))⟩,
    ⟨(some 20), none, .p (.bin .gtr (.t 19) (.c (.int .i64 60)))⟩])
  (.cond (.t 20) (.seq (.reg [⟨(some 21), none, .call 7 []⟩,
    ⟨(some 2), none, .p (.mv (.t 21))⟩])
  .ret) .skip))
  (.seq (.reg [⟨(some 23), none, .p (.mv (.t 0))⟩,
    ⟨(some 24), none, .call 11 [(.t 23)]⟩,
    ⟨(some 22), none, .p (.mv (.t 24))⟩,
    ⟨(some 25), none, .p (.ext 0 (.t 22))⟩,
    ⟨(some 26), none, .p (.ext 1 (.t 22))⟩,
    ⟨(some 27), none, .p (.ext 2 (.t 22))⟩,
    ⟨(some 3), none, .p (.mv (.t 25))⟩,
    ⟨(some 4), none, .p (.mv (.t 26))⟩,
    ⟨(some 5), none, .p (.mv (.t 27))⟩])
  (.seq (.reg [⟨(some 29), none, .p (.mv (.t 3))⟩,
    ⟨(some 30), none, .call 12 [(.c .nilPtr), (.t 29)]⟩,
    ⟨(some 28), none, .p (.mv (.t 30))⟩,
    ⟨(some 31), none, .p (.ext 0 (.t 28))⟩,
    ⟨(some 32), none, .p (.ext 1 (.t 28))⟩,
    ⟨(some 33), none, .p (.ext 2 (.t 28))⟩,
    ⟨(some 6), none, .p (.mv (.t 31))⟩,
    ⟨(some 7), none, .p (.mv (.t 32))⟩,
    ⟨(some 8), none, .p (.mv (.t 33))⟩])
  (.seq (.reg [⟨(some 35), none, .p (.mv (.t 3))⟩,
    ⟨(some 36), none, .call 12 [(.t 35), (.c .nilPtr)]⟩,
    ⟨(some 34), none, .p (.mv (.t 36))⟩,
    ⟨(some 37), none, .p (.ext 0 (.t 34))⟩,
    ⟨(some 38), none, .p (.ext 1 (.t 34))⟩,
    ⟨(some 39), none, .p (.ext 2 (.t 34))⟩,
    ⟨(some 9), none, .p (.mv (.t 37))⟩,
    ⟨(some 10), none, .p (.mv (.t 38))⟩,
    ⟨(some 11), none, .p (.mv (.t 39))⟩])
  (.seq (.reg [⟨(some 41), none, .p (.mv (.t 3))⟩,
    ⟨(some 42), none, .p (.build [.nilMap, .nilMap, .nilMap, (.int .i64 0)] [])⟩,
    ⟨(some 43), none, .p (.boxI (.t 42))⟩,
    ⟨(some 44), none, .call 12 [(.t 41), (.t 43)]⟩,
    ⟨(some 40), none, .p (.mv (.t 44))⟩,
    ⟨(some 45), none, .p (.ext 0 (.t 40))⟩,
    ⟨(some 46), none, .p (.ext 1 (.t 40))⟩,
    ⟨(some 47), none, .p (.ext 2 (.t 40))⟩,
    ⟨(some 12), none, .p (.mv (.t 45))⟩,
    ⟨(some 13), none, .p (.mv (.t 46))⟩,
    ⟨(some 14), none, .p (.mv (.t 47))⟩])
  (.seq (.reg [⟨(some 49), none, .p (.mv (.t 3))⟩,
    ⟨(some 50), none, .p (.mv (.t 3))⟩,
    ⟨(some 51), none, .call 12 [(.t 49), (.t 50)]⟩,
    ⟨(some 48), none, .p (.mv (.t 51))⟩,
    ⟨(some 52), none, .p (.ext 0 (.t 48))⟩,
    ⟨(some 53), none, .p (.ext 1 (.t 48))⟩,
    ⟨(some 54), none, .p (.ext 2 (.t 48))⟩,
    ⟨(some 15), none, .p (.mv (.t 52))⟩,
    ⟨(some 16), none, .p (.mv (.t 53))⟩,
    ⟨(some 17), none, .p (.mv (.t 54))⟩])
  (.seq (.reg [⟨(some 55), none, .p (.mv (.t 8))⟩,
    ⟨(some 56), none, .p (.bin .eql (.t 55) (.c (.int .i64 1)))⟩,
    ⟨(some 57), none, .p (.mv (.t 56))⟩,
    ⟨(some 58), (some (57, true)), .p (.mv (.t 11))⟩,
    ⟨(some 59), (some (57, true)), .p (.bin .eql (.t 58) (.c (.int .i64 1)))⟩,
    ⟨(some 60), none, .p (.pick (.t 57) (.t 59) (.c (.bool false)))⟩,
    ⟨(some 61), none, .p (.mv (.t 60))⟩,
    ⟨(some 62), (some (61, true)), .p (.mv (.t 14))⟩,
    ⟨(some 63), (some (61, true)), .p (.bin .eql (.t 62) (.c (.int .i64 1)))⟩,
    ⟨(some 64), none, .p (.pick (.t 61) (.t 63) (.c (.bool false)))⟩,
    ⟨(some 65), none, .p (.mv (.t 64))⟩,
    ⟨(some 66), (some (65, true)), .p (.mv (.t 15))⟩,
    ⟨(some 67), (some (65, true)), .p (.bin .eql (.t 66) (.c (.int .i64 0)))⟩,
    ⟨(some 68), none, .p (.pick (.t 65) (.t 67) (.c (.bool false)))⟩,
    ⟨(some 69), none, .p (.mv (.t 68))⟩,
    ⟨(some 70), (some (69, true)), .p (.mv (.t 16))⟩,
    ⟨(some 71), (some (69, true)), .p (.bin .eql (.t 70) (.c (.int .i64 0)))⟩,
    ⟨(some 72), none, .p (.pick (.t 69) (.t 71) (.c (.bool false)))⟩,
    ⟨(some 73), none, .p (.mv (.t 72))⟩,
    ⟨(some 74), (some (73, true)), .p (.mv (.t 17))⟩,
    ⟨(some 75), (some (73, true)), .p (.bin .eql (.t 74) (.c (.int .i64 0)))⟩,
    ⟨(some 76), none, .p (.pick (.t 73) (.t 75) (.c (.bool false)))⟩,
    ⟨(some 77), none, .p (.mv (.t 76))⟩,
    ⟨(some 78), (some (77, true)), .call 7 []⟩,
    ⟨(some 79), none, .p (.pick (.t 77) (.t 78) (.c (.bool false)))⟩,
    ⟨(some 2), none, .p (.mv (.t 79))⟩])
  .ret))))))))⟩
theorem c204 : compF Try.prog ⟨fun s => [].contains s, fun _ => []⟩ Try.f4 = some a204 := by kernel_rfl

/- airline/airlinelaw46.ReconcileRepairs -/
def a205 : AFun := ⟨142, [.tmp 4], (.seq (.reg [⟨(some 4), none, .p (.mv (.c (.bool false)))⟩])
  (.seq (.seq (.reg [⟨(some 21), none, .p (.mv (.t 0))⟩,
    ⟨(some 22), none, .p (.mv (.t 1))⟩,
    ⟨(some 23), none, .call 6 [(.t 21), (.t 22)]⟩,
    ⟨(some 24), none, .p (.not (.t 23))⟩])
  (.cond (.t 24) (.seq (.reg [⟨(some 25), none, .call 7 []⟩,
    ⟨(some 4), none, .p (.mv (.t 25))⟩])
  .ret) .skip))
  (.seq (.reg [⟨(some 27), none, .p (.mv (.t 0))⟩,
    ⟨(some 28), none, .call 11 [(.t 27)]⟩,
    ⟨(some 26), none, .p (.mv (.t 28))⟩,
    ⟨(some 29), none, .p (.ext 0 (.t 26))⟩,
    ⟨(some 30), none, .p (.ext 1 (.t 26))⟩,
    ⟨(some 31), none, .p (.ext 2 (.t 26))⟩,
    ⟨(some 5), none, .p (.mv (.t 29))⟩,
    ⟨(some 6), none, .p (.mv (.t 30))⟩,
    ⟨(some 7), none, .p (.mv (.t 31))⟩])
  (.seq (.reg [⟨(some 33), none, .p (.mv (.t 1))⟩,
    ⟨(some 34), none, .call 11 [(.t 33)]⟩,
    ⟨(some 32), none, .p (.mv (.t 34))⟩,
    ⟨(some 35), none, .p (.ext 0 (.t 32))⟩,
    ⟨(some 36), none, .p (.ext 1 (.t 32))⟩,
    ⟨(some 37), none, .p (.ext 2 (.t 32))⟩,
    ⟨(some 8), none, .p (.mv (.t 35))⟩,
    ⟨(some 9), none, .p (.mv (.t 36))⟩,
    ⟨(some 10), none, .p (.mv (.t 37))⟩])
  (.seq (.seq (.reg [⟨(some 38), none, .p (.mv (.t 7))⟩,
    ⟨(some 39), none, .p (.not (.t 38))⟩,
    ⟨(some 40), none, .p (.mv (.t 39))⟩,
    ⟨(some 41), (some (40, false)), .p (.mv (.t 10))⟩,
    ⟨(some 42), (some (40, false)), .p (.not (.t 41))⟩,
    ⟨(some 43), none, .p (.pick (.t 40) (.c (.bool true)) (.t 42))⟩])
  (.cond (.t 43) (.seq (.reg [⟨(some 4), none, .p (.mv (.c (.bool false)))⟩])
  .ret) .skip))
  (.seq (.reg [⟨(some 44), none, .p (.mv (.t 5))⟩,
    ⟨(some 45), none, .call 13 [(.t 44)]⟩,
    ⟨(some 11), none, .p (.mv (.t 45))⟩])
  (.seq (.reg [⟨(some 47), none, .p (.mv (.t 5))⟩,
    ⟨(some 48), none, .p (.mv (.t 8))⟩,
    ⟨(some 49), none, .call 12 [(.t 47), (.t 48)]⟩,
    ⟨(some 46), none, .p (.mv (.t 49))⟩,
    ⟨(some 50), none, .p (.ext 0 (.t 46))⟩,
    ⟨(some 51), none, .p (.ext 1 (.t 46))⟩,
    ⟨(some 52), none, .p (.ext 2 (.t 46))⟩,
    ⟨(some 12), none, .p (.mv (.t 50))⟩,
    ⟨(some 13), none, .p (.mv (.t 51))⟩,
    ⟨(some 14), none, .p (.mv (.t 52))⟩])
  (.seq (.reg [⟨(some 54), none, .p (.mv (.t 6))⟩,
    ⟨(some 55), none, .p (.mv (.t 9))⟩,
    ⟨(some 56), none, .call 14 [(.t 54), (.t 55)]⟩,
    ⟨(some 53), none, .p (.mv (.t 56))⟩,
    ⟨(some 57), none, .p (.ext 0 (.t 53))⟩,
    ⟨(some 58), none, .p (.ext 1 (.t 53))⟩,
    ⟨(some 59), none, .p (.ext 2 (.t 53))⟩,
    ⟨(some 15), none, .p (.mv (.t 57))⟩,
    ⟨(some 16), none, .p (.mv (.t 58))⟩,
    ⟨(some 17), none, .p (.mv (.t 59))⟩])
  (.seq (.seq (.reg [⟨(some 60), none, .p (.mv (.t 12))⟩,
    ⟨(some 61), none, .p (.mv (.t 15))⟩,
    ⟨(some 62), none, .p (.bin .neq (.t 60) (.t 61))⟩,
    ⟨(some 63), none, .p (.mv (.t 62))⟩,
    ⟨(some 64), (some (63, false)), .p (.mv (.t 13))⟩,
    ⟨(some 65), (some (63, false)), .p (.mv (.t 16))⟩,
    ⟨(some 66), (some (63, false)), .p (.bin .neq (.t 64) (.t 65))⟩,
    ⟨(some 67), none, .p (.pick (.t 63) (.c (.bool true)) (.t 66))⟩,
    ⟨(some 68), none, .p (.mv (.t 67))⟩,
    ⟨(some 69), (some (68, false)), .p (.mv (.t 14))⟩,
    ⟨(some 70), (some (68, false)), .p (.mv (.t 17))⟩,
    ⟨(some 71), (some (68, false)), .p (.bin .neq (.t 69) (.t 70))⟩,
    ⟨(some 72), none, .p (.pick (.t 68) (.c (.bool true)) (.t 71))⟩,
    ⟨(some 73), none, .p (.mv (.t 72))⟩,
    ⟨(some 74), (some (73, false)), .p (.mv (.t 5))⟩,
    ⟨(some 75), (some (73, false)), .call 13 [(.t 74)]⟩,
    ⟨(some 76), (some (73, false)), .p (.mv (.t 6))⟩,
    ⟨(some 77), (some (73, false)), .call 15 [(.t 76)]⟩,
    ⟨(some 78), (some (73, false)), .call 9 [(.t 75), (.t 77)]⟩,
    ⟨(some 79), (some (73, false)), .p (.not (.t 78))⟩,
    ⟨(some 80), none, .p (.pick (.t 73) (.c (.bool true)) (.t 79))⟩,
    ⟨(some 81), none, .p (.mv (.t 80))⟩,
    ⟨(some 82), (some (81, false)), .p (.mv (.t 8))⟩,
    ⟨(some 83), (some (81, false)), .call 13 [(.t 82)]⟩,
    ⟨(some 84), (some (81, false)), .p (.mv (.t 5))⟩,
    ⟨(some 85), (some (81, false)), .call 13 [(.t 84)]⟩,
    ⟨(some 86), (some (81, false)), .call 9 [(.t 83), (.t 85)]⟩,
    ⟨(some 87), (some (81, false)), .p (.not (.t 86))⟩,
    ⟨(some 88), none, .p (.pick (.t 81) (.c (.bool true)) (.t 87))⟩])
  (.cond (.t 88) (.seq (.reg [⟨(some 4), none, .p (.mv (.c (.bool false)))⟩])
  .ret) .skip))
  (.seq (.seq (.reg [⟨(some 18), none, .p (.mv (.c (.int .i64 0)))⟩])
  (.block 0 (.loop (.seq (.seq (.reg [⟨(some 89), none, .p (.mv (.t 18))⟩,
    ⟨(some 90), none, .p (.mv (.t 11))⟩,
    ⟨(some 91), none, .p (.lenA (.t 90))⟩,
    ⟨(some 92), none, .p (.bin .lss (.t 89) (.t 91))⟩])
  (.cond (.t 92) .skip (.exit 0)))
  (.seq (.block 1 (.seq (.oreg2 [(.stable, ⟨(some 96), none, .p (.mv (.t 5))⟩),
    (.stable, ⟨(some 97), none, .p (.mv (.t 11))⟩),
    (.stable, ⟨(some 98), none, .p (.mv (.t 18))⟩),
    (.grow, ⟨(some 99), none, .p (.idxA 4 (.t 97) (.t 98))⟩),
    (.grow, ⟨(some 100), none, .p (.faddr 0 (.t 99))⟩),
    (.grow, ⟨(some 101), none, .p (.ld1 (.t 100))⟩),
    (.stable, ⟨(some 102), none, .p (.mv (.t 11))⟩),
    (.stable, ⟨(some 103), none, .p (.mv (.t 18))⟩),
    (.grow, ⟨(some 104), none, .p (.idxA 4 (.t 102) (.t 103))⟩),
    (.grow, ⟨(some 105), none, .p (.faddr 1 (.t 104))⟩),
    (.grow, ⟨(some 106), none, .p (.ld1 (.t 105))⟩)]
  [(.loud, ⟨(some 107), none, .call 16 [(.t 96), (.t 101), (.t 106)]⟩),
    (.stable, ⟨(some 95), none, .p (.mv (.t 107))⟩),
    (.stable, ⟨(some 108), none, .p (.ext 0 (.t 95))⟩),
    (.stable, ⟨(some 109), none, .p (.ext 1 (.t 95))⟩),
    (.loud, ⟨(some 19), none, .newO 27 [(.int .i64 0), (.int .i64 0), (.int .i64 0), (.int .i64 0)]⟩),
    (.loud, ⟨none, none, .st 4 (.t 19) (.t 108)⟩),
    (.quiet, ⟨(some 20), none, .p (.mv (.t 109))⟩)]
  [(.loud, ⟨(some 19), none, .newO 27 [(.int .i64 0), (.int .i64 0), (.int .i64 0), (.int .i64 0)]⟩),
    (.loud, ⟨(some 107), none, .call 16 [(.t 96), (.t 101), (.t 106)]⟩),
    (.stable, ⟨(some 95), none, .p (.mv (.t 107))⟩),
    (.stable, ⟨(some 108), none, .p (.ext 0 (.t 95))⟩),
    (.stable, ⟨(some 109), none, .p (.ext 1 (.t 95))⟩),
    (.loud, ⟨none, none, .st 4 (.t 19) (.t 108)⟩),
    (.quiet, ⟨(some 20), none, .p (.mv (.t 109))⟩)])
  (.seq (.oreg [(.quiet, ⟨(some 110), none, .p (.mv (.t 20))⟩),
    (.quiet, ⟨(some 111), none, .p (.not (.t 110))⟩),
    (.quiet, ⟨(some 112), none, .p (.mv (.t 111))⟩),
    (.quiet, ⟨(some 113), (some (112, false)), .p (.faddr 2 (.t 19))⟩),
    (.quiet, ⟨(some 114), (some (112, false)), .p (.ld1 (.t 113))⟩),
    (.quiet, ⟨(some 115), (some (112, false)), .p (.mv (.t 11))⟩),
    (.quiet, ⟨(some 116), (some (112, false)), .p (.mv (.t 18))⟩),
    (.quiet, ⟨(some 117), (some (112, false)), .p (.idxA 4 (.t 115) (.t 116))⟩),
    (.quiet, ⟨(some 118), (some (112, false)), .p (.faddr 2 (.t 117))⟩),
    (.quiet, ⟨(some 119), (some (112, false)), .p (.ld1 (.t 118))⟩),
    (.quiet, ⟨(some 120), (some (112, false)), .p (.bin .lss (.t 114) (.t 119))⟩),
    (.quiet, ⟨(some 121), none, .p (.pick (.t 112) (.c (.bool true)) (.t 120))⟩)])
  (.cond (.t 121) (.seq (.reg [⟨(some 4), none, .p (.mv (.c (.bool false)))⟩])
  .ret) .skip))))
  (.reg [⟨(some 93), none, .p (.mv (.t 18))⟩,
    ⟨(some 94), none, .p (.bin .add (.t 93) (.c (.int .i64 1)))⟩,
    ⟨(some 18), none, .p (.mv (.t 94))⟩]))))))
  (.seq (.reg [⟨(some 123), none, .p (.mv (.t 5))⟩,
    ⟨(some 124), none, .p (.mv (.t 8))⟩,
    ⟨(some 125), none, .call 12 [(.t 123), (.t 124)]⟩,
    ⟨(some 122), none, .p (.mv (.t 125))⟩,
    ⟨(some 126), none, .p (.ext 0 (.t 122))⟩,
    ⟨(some 127), none, .p (.ext 1 (.t 122))⟩,
    ⟨(some 128), none, .p (.ext 2 (.t 122))⟩,
    ⟨(some 12), none, .p (.mv (.t 126))⟩,
    ⟨(some 13), none, .p (.mv (.t 127))⟩,
    ⟨(some 14), none, .p (.mv (.t 128))⟩])
  (.seq (.reg [⟨(some 129), none, .p (.mv (.t 12))⟩,
    ⟨(some 130), none, .p (.bin .eql (.t 129) (.c (.int .i64 0)))⟩,
    ⟨(some 131), none, .p (.mv (.t 130))⟩,
    ⟨(some 132), (some (131, true)), .p (.mv (.t 13))⟩,
    ⟨(some 133), (some (131, true)), .p (.bin .eql (.t 132) (.c (.int .i64 0)))⟩,
    ⟨(some 134), none, .p (.pick (.t 131) (.t 133) (.c (.bool false)))⟩,
    ⟨(some 135), none, .p (.mv (.t 134))⟩,
    ⟨(some 136), (some (135, true)), .p (.mv (.t 14))⟩,
    ⟨(some 137), (some (135, true)), .p (.bin .eql (.t 136) (.c (.int .i64 0)))⟩,
    ⟨(some 138), none, .p (.pick (.t 135) (.t 137) (.c (.bool false)))⟩,
    ⟨(some 139), none, .p (.mv (.t 138))⟩,
    ⟨(some 140), (some (139, true)), .call 7 []⟩,
    ⟨(some 141), none, .p (.pick (.t 139) (.t 140) (.c (.bool false)))⟩,
    ⟨(some 4), none, .p (.mv (.t 141))⟩])
  .ret))))))))))))⟩
theorem c205 : compF Try.prog ⟨fun s => [].contains s, fun r => match r with | 15 => [(0, .stable), (1, .stable), (2, .stable), (3, .grow), (4, .grow), (5, .grow), (6, .stable), (7, .stable), (8, .grow), (9, .grow), (10, .grow), (1000000, .loud), (11, .loud), (12, .stable), (13, .stable), (14, .stable), (15, .loud), (16, .loud), (17, .quiet), (1000001, .loud), (15, .loud), (11, .loud), (12, .stable), (13, .stable), (14, .stable), (16, .loud), (17, .quiet)]  | 16 => [(0, .quiet), (1, .quiet), (2, .quiet), (3, .quiet), (4, .quiet), (5, .quiet), (6, .quiet), (7, .quiet), (8, .quiet), (9, .quiet), (10, .quiet), (11, .quiet)] | _ => []⟩ Try.f5 = some a205 := by kernel_rfl

/- airline/airlinelaw46.filled -/
def a211 : AFun := ⟨33, [.tmp 2, .tmp 3, .tmp 4], (.seq (.reg [⟨(some 2), none, .p (.mv (.c .nilPtr))⟩,
    ⟨(some 3), none, .p (.mv (.c .nilPtr))⟩,
    ⟨(some 4), none, .p (.mv (.c (.bool false)))⟩])
  (.seq (.reg [⟨(some 8), none, .call 20 []⟩,
    ⟨(some 9), none, .call 21 []⟩,
    ⟨(some 5), none, .p (.mv (.t 8))⟩,
    ⟨(some 6), none, .p (.mv (.t 9))⟩])
  (.seq (.seq (.reg [⟨(some 7), none, .p (.mv (.c (.int .i64 0)))⟩])
  (.block 0 (.loop (.seq (.seq (.reg [⟨(some 10), none, .p (.mv (.t 7))⟩,
    ⟨(some 11), none, .p (.mv (.t 0))⟩,
    ⟨(some 12), none, .p (.lenA (.t 11))⟩,
    ⟨(some 13), none, .p (.bin .lss (.t 10) (.t 12))⟩])
  (.cond (.t 13) .skip (.exit 0)))
  (.seq (.block 1 (.seq (.oreg [(.quiet, ⟨(some 16), none, .p (.mv (.t 5))⟩),
    (.quiet, ⟨(some 17), none, .p (.mv (.t 0))⟩),
    (.quiet, ⟨(some 18), none, .p (.mv (.t 7))⟩),
    (.quiet, ⟨(some 19), none, .p (.idxA 4 (.t 17) (.t 18))⟩),
    (.quiet, ⟨(some 20), none, .p (.ldn 4 (.t 19))⟩),
    (.stable, ⟨(some 22), none, .p (.mv (.t 6))⟩),
    (.stable, ⟨(some 23), none, .p (.mv (.t 0))⟩),
    (.stable, ⟨(some 24), none, .p (.mv (.t 7))⟩),
    (.stable, ⟨(some 25), none, .p (.idxA 4 (.t 23) (.t 24))⟩),
    (.stable, ⟨(some 26), none, .p (.ldn 4 (.t 25))⟩),
    (.loud, ⟨(some 21), none, .call 22 [(.t 16), (.t 20)]⟩),
    (.loud, ⟨(some 27), none, .call 23 [(.t 22), (.t 26)]⟩),
    (.quiet, ⟨(some 28), none, .p (.bin .neq (.t 21) (.t 27))⟩)])
  (.cond (.t 28) (.seq (.reg [⟨(some 29), none, .p (.mv (.t 5))⟩,
    ⟨(some 30), none, .p (.mv (.t 6))⟩,
    ⟨(some 2), none, .p (.mv (.t 29))⟩,
    ⟨(some 3), none, .p (.mv (.t 30))⟩,
    ⟨(some 4), none, .p (.mv (.c (.bool false)))⟩])
  .ret) .skip)))
  (.reg [⟨(some 14), none, .p (.mv (.t 7))⟩,
    ⟨(some 15), none, .p (.bin .add (.t 14) (.c (.int .i64 1)))⟩,
    ⟨(some 7), none, .p (.mv (.t 15))⟩]))))))
  (.seq (.reg [⟨(some 31), none, .p (.mv (.t 5))⟩,
    ⟨(some 32), none, .p (.mv (.t 6))⟩,
    ⟨(some 2), none, .p (.mv (.t 31))⟩,
    ⟨(some 3), none, .p (.mv (.t 32))⟩,
    ⟨(some 4), none, .p (.mv (.c (.bool true)))⟩])
  .ret))))⟩
theorem c211 : compF Try.prog ⟨fun s => [21].contains s, fun r => match r with | 5 => [(0, .quiet), (1, .quiet), (2, .quiet), (3, .quiet), (4, .quiet), (6, .stable), (7, .stable), (8, .stable), (9, .stable), (10, .stable), (5, .loud), (11, .loud), (12, .quiet)] | _ => []⟩ Try.f11 = some a211 := by kernel_rfl

/- airline/reconcile.Repair -/
def a212 : AFun := ⟨28, [.tmp 4, .tmp 5, .tmp 6], (.seq (.reg [⟨(some 4), none, .p (.mv (.c (.int .i64 0)))⟩,
    ⟨(some 5), none, .p (.mv (.c (.int .i64 0)))⟩,
    ⟨(some 6), none, .p (.mv (.c (.int .i64 0)))⟩])
  (.seq (.seq (.reg [⟨(some 8), none, .p (.mv (.t 0))⟩,
    ⟨(some 9), none, .call 24 [(.t 8)]⟩,
    ⟨(some 10), none, .p (.mv (.t 9))⟩,
    ⟨(some 11), (some (10, false)), .p (.mv (.t 1))⟩,
    ⟨(some 12), (some (10, false)), .call 24 [(.t 11)]⟩,
    ⟨(some 13), none, .p (.pick (.t 10) (.c (.bool true)) (.t 12))⟩])
  (.cond (.t 13) (.seq (.reg [⟨(some 4), none, .p (.mv (.c (.int .i64 0)))⟩,
    ⟨(some 5), none, .p (.mv (.c (.int .i64 0)))⟩,
    ⟨(some 6), none, .p (.mv (.c (.int .i64 1)))⟩])
  .ret) .skip))
  (.seq (.seq (.reg [⟨(some 14), none, .p (.mv (.t 0))⟩,
    ⟨(some 15), none, .p (.mv (.t 1))⟩,
    ⟨(some 16), none, .p (.xo (.eqP false) [(.t 14), (.t 15)])⟩])
  (.cond (.t 16) (.seq (.reg [⟨(some 4), none, .p (.mv (.c (.int .i64 0)))⟩,
    ⟨(some 5), none, .p (.mv (.c (.int .i64 0)))⟩,
    ⟨(some 6), none, .p (.mv (.c (.int .i64 0)))⟩])
  .ret) .skip))
  (.seq (.reg [⟨(some 17), none, .p (.mv (.t 0))⟩,
    ⟨(some 18), none, .call 13 [(.t 17)]⟩,
    ⟨(some 19), none, .p (.mv (.t 1))⟩,
    ⟨(some 20), none, .call 13 [(.t 19)]⟩,
    ⟨(some 21), none, .call 8 [(.t 18), (.t 20)]⟩,
    ⟨(some 7), none, .p (.mv (.t 21))⟩])
  (.seq (.reg [⟨(some 22), none, .p (.mv (.t 0))⟩,
    ⟨(some 23), none, .p (.mv (.t 7))⟩,
    ⟨(some 24), none, .call 25 [(.t 22), (.t 23)]⟩,
    ⟨(some 25), none, .p (.mv (.t 1))⟩,
    ⟨(some 26), none, .p (.mv (.t 7))⟩,
    ⟨(some 27), none, .call 25 [(.t 25), (.t 26)]⟩,
    ⟨(some 4), none, .p (.mv (.t 24))⟩,
    ⟨(some 5), none, .p (.mv (.t 27))⟩,
    ⟨(some 6), none, .p (.mv (.c (.int .i64 0)))⟩])
  .ret)))))⟩
theorem c212 : compF Try.prog ⟨fun s => [].contains s, fun _ => []⟩ Try.f12 = some a212 := by kernel_rfl

/- airline/airlineref46.Repair -/
def a214 : AFun := ⟨23, [.tmp 4, .tmp 5, .tmp 6], (.seq (.reg [⟨(some 4), none, .p (.mv (.c (.int .i64 0)))⟩,
    ⟨(some 5), none, .p (.mv (.c (.int .i64 0)))⟩,
    ⟨(some 6), none, .p (.mv (.c (.int .i64 0)))⟩])
  (.seq (.reg [⟨(some 10), none, .p (.mv (.t 0))⟩,
    ⟨(some 11), none, .call 15 [(.t 10)]⟩,
    ⟨(some 12), none, .p (.mv (.t 1))⟩,
    ⟨(some 13), none, .call 15 [(.t 12)]⟩,
    ⟨(some 14), none, .call 31 [(.t 11), (.t 13)]⟩,
    ⟨(some 7), none, .p (.mv (.t 14))⟩])
  (.seq (.reg [⟨(some 15), none, .p (.mv (.t 0))⟩,
    ⟨(some 16), none, .p (.mv (.t 7))⟩,
    ⟨(some 17), none, .call 32 [(.t 15), (.t 16)]⟩,
    ⟨(some 8), none, .p (.mv (.t 17))⟩])
  (.seq (.reg [⟨(some 18), none, .p (.mv (.t 1))⟩,
    ⟨(some 19), none, .p (.mv (.t 7))⟩,
    ⟨(some 20), none, .call 32 [(.t 18), (.t 19)]⟩,
    ⟨(some 9), none, .p (.mv (.t 20))⟩])
  (.seq (.reg [⟨(some 21), none, .p (.mv (.t 8))⟩,
    ⟨(some 22), none, .p (.mv (.t 9))⟩,
    ⟨(some 4), none, .p (.mv (.t 21))⟩,
    ⟨(some 5), none, .p (.mv (.t 22))⟩,
    ⟨(some 6), none, .p (.mv (.c (.int .i64 0)))⟩])
  .ret)))))⟩
theorem c214 : compF Try.prog ⟨fun s => [].contains s, fun _ => []⟩ Try.f14 = some a214 := by kernel_rfl

/- airline/reconcile.none -/
def a224 : AFun := ⟨11, [.tmp 2], (.seq (.reg [⟨(some 2), none, .p (.mv (.c (.bool false)))⟩])
  (.seq (.reg [⟨(some 3), none, .p (.mv (.t 0))⟩,
    ⟨(some 4), none, .p (.isNil 1 false (.t 3))⟩,
    ⟨(some 5), none, .p (.mv (.t 4))⟩,
    ⟨(some 6), (some (5, false)), .p (.mv (.t 0))⟩,
    ⟨(some 7), (some (5, false)), .p (.build [(.int .i64 0), (.int .i64 0), (.int .i64 0), (.int .i64 0)] [])⟩,
    ⟨(some 8), (some (5, false)), .call 22 [(.t 6), (.t 7)]⟩,
    ⟨(some 9), (some (5, false)), .p (.bin .eql (.t 8) (.c (.int .i64 1)))⟩,
    ⟨(some 10), none, .p (.pick (.t 5) (.c (.bool true)) (.t 9))⟩,
    ⟨(some 2), none, .p (.mv (.t 10))⟩])
  .ret))⟩
theorem c224 : compF Try.prog ⟨fun s => [].contains s, fun _ => []⟩ Try.f24 = some a224 := by kernel_rfl

/- airline/reconcile.receive -/
def a225 : AFun := ⟨42, [.tmp 4], (.seq (.reg [⟨(some 4), none, .p (.mv (.c (.int .i64 0)))⟩])
  (.seq (.reg [⟨(some 5), none, .p (.mv (.c (.int .i64 0)))⟩])
  (.seq (.seq (.reg [⟨(some 10), none, .p (.mv (.t 1))⟩,
    ⟨(some 11), none, .p (.lenA (.t 10))⟩,
    ⟨(some 12), none, .p (.mv (.c (.int .i64 0)))⟩])
  (.block 0 (.loop (.seq (.reg [⟨(some 13), none, .p (.bin .lss (.t 12) (.t 11))⟩])
  (.seq (.cond (.t 13) .skip (.exit 0))
  (.seq (.block 1 (.seq (.reg [⟨(some 14), none, .p (.idxA 4 (.t 10) (.t 12))⟩,
    ⟨(some 15), none, .p (.ldn 4 (.t 14))⟩,
    ⟨(some 7), none, .newO 27 [(.int .i64 0), (.int .i64 0), (.int .i64 0), (.int .i64 0)]⟩,
    ⟨none, none, .st 4 (.t 7) (.t 15)⟩])
  (.seq (.reg [⟨(some 17), none, .p (.mv (.t 0))⟩,
    ⟨(some 18), none, .p (.faddr 0 (.t 7))⟩,
    ⟨(some 19), none, .p (.ld1 (.t 18))⟩,
    ⟨(some 20), none, .p (.faddr 1 (.t 7))⟩,
    ⟨(some 21), none, .p (.ld1 (.t 20))⟩,
    ⟨(some 22), none, .call 16 [(.t 17), (.t 19), (.t 21)]⟩,
    ⟨(some 16), none, .p (.mv (.t 22))⟩,
    ⟨(some 23), none, .p (.ext 0 (.t 16))⟩,
    ⟨(some 24), none, .p (.ext 1 (.t 16))⟩,
    ⟨(some 8), none, .newO 27 [(.int .i64 0), (.int .i64 0), (.int .i64 0), (.int .i64 0)]⟩,
    ⟨none, none, .st 4 (.t 8) (.t 23)⟩,
    ⟨(some 9), none, .p (.mv (.t 24))⟩])
  (.seq (.reg [⟨(some 25), none, .p (.mv (.t 9))⟩,
    ⟨(some 26), none, .p (.not (.t 25))⟩,
    ⟨(some 27), none, .p (.mv (.t 26))⟩,
    ⟨(some 28), (some (27, false)), .p (.ldn 4 (.t 8))⟩,
    ⟨(some 29), (some (27, false)), .p (.ldn 4 (.t 7))⟩,
    ⟨(some 30), (some (27, false)), .p (.xo (.eqA [(.int .i64), (.int .i64), (.int .i64), (.int .i64)] true) [(.t 28), (.t 29)])⟩,
    ⟨(some 31), none, .p (.pick (.t 27) (.c (.bool true)) (.t 30))⟩,
    ⟨(some 32), none, .p (.mv (.t 31))⟩,
    ⟨(some 33), (some (32, true)), .p (.mv (.t 0))⟩,
    ⟨(some 34), (some (32, true)), .p (.ldn 4 (.t 7))⟩,
    ⟨(some 35), (some (32, true)), .call 22 [(.t 33), (.t 34)]⟩,
    ⟨(some 36), (some (32, true)), .p (.bin .eql (.t 35) (.c (.int .i64 0)))⟩,
    ⟨(some 37), none, .p (.pick (.t 32) (.t 36) (.c (.bool false)))⟩])
  (.cond (.t 37) (.reg [⟨(some 38), none, .p (.mv (.t 5))⟩,
    ⟨(some 39), none, .p (.bin .add (.t 38) (.c (.int .i64 1)))⟩,
    ⟨(some 5), none, .p (.mv (.t 39))⟩]) .skip)))))
  (.reg [⟨(some 40), none, .p (.bin .add (.t 12) (.c (.int .i64 1)))⟩,
    ⟨(some 12), none, .p (.mv (.t 40))⟩])))))))
  (.seq (.reg [⟨(some 41), none, .p (.mv (.t 5))⟩,
    ⟨(some 4), none, .p (.mv (.t 41))⟩])
  .ret))))⟩
theorem c225 : compF Try.prog ⟨fun s => [].contains s, fun _ => []⟩ Try.f25 = some a225 := by kernel_rfl

/- airline/airlineref46.Put -/
def a232 : AFun := ⟨52, [.tmp 4], (.seq (.reg [⟨(some 4), none, .p (.mv (.c (.int .i64 0)))⟩])
  (.seq (.reg [⟨(some 5), none, .p (.mv (.c (.int .i64 0)))⟩])
  (.seq (.seq (.reg [⟨(some 6), none, .p (.mv (.c (.int .i64 0)))⟩])
  (.block 0 (.loop (.seq (.seq (.reg [⟨(some 9), none, .p (.mv (.t 6))⟩,
    ⟨(some 10), none, .p (.mv (.t 1))⟩,
    ⟨(some 11), none, .p (.lenA (.t 10))⟩,
    ⟨(some 12), none, .p (.bin .lss (.t 9) (.t 11))⟩])
  (.cond (.t 12) .skip (.exit 0)))
  (.seq (.block 1 (.seq (.oreg2 [(.stable, ⟨(some 16), none, .p (.mv (.t 0))⟩),
    (.stable, ⟨(some 17), none, .p (.mv (.t 1))⟩),
    (.stable, ⟨(some 18), none, .p (.mv (.t 6))⟩),
    (.grow, ⟨(some 19), none, .p (.idxA 4 (.t 17) (.t 18))⟩),
    (.grow, ⟨(some 20), none, .p (.faddr 0 (.t 19))⟩),
    (.grow, ⟨(some 21), none, .p (.ld1 (.t 20))⟩),
    (.stable, ⟨(some 22), none, .p (.mv (.t 1))⟩),
    (.stable, ⟨(some 23), none, .p (.mv (.t 6))⟩),
    (.grow, ⟨(some 24), none, .p (.idxA 4 (.t 22) (.t 23))⟩),
    (.grow, ⟨(some 25), none, .p (.faddr 1 (.t 24))⟩),
    (.grow, ⟨(some 26), none, .p (.ld1 (.t 25))⟩)]
  [(.loud, ⟨(some 27), none, .call 43 [(.t 16), (.t 21), (.t 26)]⟩),
    (.stable, ⟨(some 15), none, .p (.mv (.t 27))⟩),
    (.stable, ⟨(some 28), none, .p (.ext 0 (.t 15))⟩),
    (.stable, ⟨(some 29), none, .p (.ext 1 (.t 15))⟩),
    (.loud, ⟨(some 7), none, .newO 27 [(.int .i64 0), (.int .i64 0), (.int .i64 0), (.int .i64 0)]⟩),
    (.loud, ⟨none, none, .st 4 (.t 7) (.t 28)⟩),
    (.quiet, ⟨(some 8), none, .p (.mv (.t 29))⟩)]
  [(.loud, ⟨(some 7), none, .newO 27 [(.int .i64 0), (.int .i64 0), (.int .i64 0), (.int .i64 0)]⟩),
    (.loud, ⟨(some 27), none, .call 43 [(.t 16), (.t 21), (.t 26)]⟩),
    (.stable, ⟨(some 15), none, .p (.mv (.t 27))⟩),
    (.stable, ⟨(some 28), none, .p (.ext 0 (.t 15))⟩),
    (.stable, ⟨(some 29), none, .p (.ext 1 (.t 15))⟩),
    (.loud, ⟨none, none, .st 4 (.t 7) (.t 28)⟩),
    (.quiet, ⟨(some 8), none, .p (.mv (.t 29))⟩)])
  (.seq (.oreg [(.quiet, ⟨(some 30), none, .p (.mv (.t 8))⟩),
    (.quiet, ⟨(some 31), none, .p (.not (.t 30))⟩),
    (.quiet, ⟨(some 32), none, .p (.mv (.t 31))⟩),
    (.quiet, ⟨(some 33), (some (32, false)), .p (.ldn 4 (.t 7))⟩),
    (.quiet, ⟨(some 34), (some (32, false)), .p (.mv (.t 1))⟩),
    (.quiet, ⟨(some 35), (some (32, false)), .p (.mv (.t 6))⟩),
    (.quiet, ⟨(some 36), (some (32, false)), .p (.idxA 4 (.t 34) (.t 35))⟩),
    (.quiet, ⟨(some 37), (some (32, false)), .p (.ldn 4 (.t 36))⟩),
    (.quiet, ⟨(some 38), (some (32, false)), .p (.xo (.eqA [(.int .i64), (.int .i64), (.int .i64), (.int .i64)] true) [(.t 33), (.t 37)])⟩),
    (.quiet, ⟨(some 39), none, .p (.pick (.t 32) (.c (.bool true)) (.t 38))⟩),
    (.quiet, ⟨(some 40), none, .p (.mv (.t 39))⟩),
    (.quiet, ⟨(some 41), (some (40, true)), .p (.mv (.t 0))⟩),
    (.quiet, ⟨(some 42), (some (40, true)), .p (.mv (.t 1))⟩),
    (.quiet, ⟨(some 43), (some (40, true)), .p (.mv (.t 6))⟩),
    (.quiet, ⟨(some 44), (some (40, true)), .p (.idxA 4 (.t 42) (.t 43))⟩),
    (.quiet, ⟨(some 45), (some (40, true)), .p (.ldn 4 (.t 44))⟩),
    (.loud, ⟨(some 46), (some (40, true)), .call 23 [(.t 41), (.t 45)]⟩),
    (.quiet, ⟨(some 47), (some (40, true)), .p (.bin .eql (.t 46) (.c (.int .i64 0)))⟩),
    (.quiet, ⟨(some 48), none, .p (.pick (.t 40) (.t 47) (.c (.bool false)))⟩)])
  (.cond (.t 48) (.reg [⟨(some 49), none, .p (.mv (.t 5))⟩,
    ⟨(some 50), none, .p (.bin .add (.t 49) (.c (.int .i64 1)))⟩,
    ⟨(some 5), none, .p (.mv (.t 50))⟩]) .skip))))
  (.reg [⟨(some 13), none, .p (.mv (.t 6))⟩,
    ⟨(some 14), none, .p (.bin .add (.t 13) (.c (.int .i64 1)))⟩,
    ⟨(some 6), none, .p (.mv (.t 14))⟩]))))))
  (.seq (.reg [⟨(some 51), none, .p (.mv (.t 5))⟩,
    ⟨(some 4), none, .p (.mv (.t 51))⟩])
  .ret))))⟩
theorem c232 : compF Try.prog ⟨fun s => [].contains s, fun r => match r with | 5 => [(0, .stable), (1, .stable), (2, .stable), (3, .grow), (4, .grow), (5, .grow), (6, .stable), (7, .stable), (8, .grow), (9, .grow), (10, .grow), (1000000, .loud), (11, .loud), (12, .stable), (13, .stable), (14, .stable), (15, .loud), (16, .loud), (17, .quiet), (1000001, .loud), (15, .loud), (11, .loud), (12, .stable), (13, .stable), (14, .stable), (16, .loud), (17, .quiet)]  | 6 => [(0, .quiet), (1, .quiet), (2, .quiet), (3, .quiet), (4, .quiet), (5, .quiet), (6, .quiet), (7, .quiet), (8, .quiet), (9, .quiet), (10, .quiet), (11, .quiet), (12, .quiet), (13, .quiet), (14, .quiet), (15, .quiet), (16, .loud), (17, .quiet), (18, .quiet)] | _ => []⟩ Try.f32 = some a232 := by kernel_rfl

/- airline/mirror.New -/
def a10 : AFun := ⟨6, [.tmp 0], (.seq (.reg [⟨(some 0), none, .p (.mv (.c .nilPtr))⟩])
  (.seq (.reg [⟨(some 1), none, .xs (.mkM (.st [(.int .i64), (.int .i64)])) []⟩,
    ⟨(some 2), none, .xs (.mkM (.one (.int .i64))) []⟩,
    ⟨(some 3), none, .xs (.mkM (.one (.int .i64))) []⟩,
    ⟨(some 4), none, .p (.build [.nilMap, .nilMap, .nilMap, (.int .i64 0)] [(0, 1, (.t 1)), (1, 1, (.t 2)), (2, 1, (.t 3))])⟩,
    ⟨(some 5), none, .boxO 39 (.t 4)⟩,
    ⟨(some 0), none, .p (.mv (.t 5))⟩])
  .ret))⟩
theorem c10 : compF Try.prog ⟨fun s => [5].contains s, fun _ => []⟩ Try.f20 = some a10 := by kernel_rfl

/- airline/airlineref45.New -/
def a11 : AFun := ⟨3, [.tmp 0], (.seq (.reg [⟨(some 0), none, .p (.mv (.c .nilPtr))⟩])
  (.seq (.reg [⟨(some 1), none, .p (.build [(.bool false), .nilSl, (.int .i64 0)] [(0, 1, (.c (.bool true)))])⟩,
    ⟨(some 2), none, .boxO 68 (.t 1)⟩,
    ⟨(some 0), none, .p (.mv (.t 2))⟩])
  .ret))⟩
theorem c11 : compF Try.prog ⟨fun s => [2].contains s, fun _ => []⟩ Try.f21 = some a11 := by kernel_rfl

/- (*airline/mirror.Mirror).Get -/
def a14 : AFun := ⟨28, [.cell 6 (some 4), .tmp 7], (.seq (.reg [⟨(some 6), none, .newO 27 [(.int .i64 0), (.int .i64 0), (.int .i64 0), (.int .i64 0)]⟩,
    ⟨(some 7), none, .p (.mv (.c (.bool false)))⟩])
  (.seq (.seq (.reg [⟨(some 10), none, .p (.mv (.t 0))⟩,
    ⟨(some 11), none, .call 26 [(.t 10)]⟩,
    ⟨(some 12), none, .p (.not (.t 11))⟩])
  (.cond (.t 12) (.seq (.reg [⟨(some 13), none, .p (.build [(.int .i64 0), (.int .i64 0), (.int .i64 0), (.int .i64 0)] [])⟩,
    ⟨none, none, .st 4 (.t 6) (.t 13)⟩,
    ⟨(some 7), none, .p (.mv (.c (.bool false)))⟩])
  .ret) .skip))
  (.seq (.reg [⟨(some 15), none, .p (.mv (.t 0))⟩,
    ⟨(some 16), none, .p (.nilChk (.t 15))⟩,
    ⟨(some 17), none, .p (.faddr 0 (.t 16))⟩,
    ⟨(some 18), none, .p (.ld1 (.t 17))⟩,
    ⟨(some 19), none, .p (.mv (.t 1))⟩,
    ⟨(some 20), none, .p (.mv (.t 2))⟩,
    ⟨(some 21), none, .p (.build [(.int .i64 0), (.int .i64 0)] [(0, 1, (.t 19)), (1, 1, (.t 20))])⟩,
    ⟨(some 22), none, .p (.xo (.lk (.st [(.int .i64), (.int .i64)]) (.agg [(.int .i64 0), (.int .i64 0), (.int .i64 0), (.int .i64 0), (.int .i64 0)]) true) [(.t 18), (.t 21)])⟩,
    ⟨(some 14), none, .p (.mv (.t 22))⟩,
    ⟨(some 23), none, .p (.ext 0 (.t 14))⟩,
    ⟨(some 24), none, .p (.ext 1 (.t 14))⟩,
    ⟨(some 8), none, .newO 60 [(.int .i64 0), (.int .i64 0), (.int .i64 0), (.int .i64 0), (.int .i64 0)]⟩,
    ⟨none, none, .st 5 (.t 8) (.t 23)⟩,
    ⟨(some 9), none, .p (.mv (.t 24))⟩])
  (.seq (.reg [⟨(some 25), none, .p (.faddr 0 (.t 8))⟩,
    ⟨(some 26), none, .p (.ldn 4 (.t 25))⟩,
    ⟨(some 27), none, .p (.mv (.t 9))⟩,
    ⟨none, none, .st 4 (.t 6) (.t 26)⟩,
    ⟨(some 7), none, .p (.mv (.t 27))⟩])
  .ret))))⟩
theorem c14 : compF Try.prog ⟨fun s => [].contains s, fun _ => []⟩ Try.f16 = some a14 := by kernel_rfl

/- (*airline/airlineref45.Mirror).Get -/
def a15 : AFun := ⟨24, [.cell 6 (some 4), .tmp 7], (.seq (.reg [⟨(some 6), none, .newO 27 [(.int .i64 0), (.int .i64 0), (.int .i64 0), (.int .i64 0)]⟩,
    ⟨(some 7), none, .p (.mv (.c (.bool false)))⟩])
  (.seq (.reg [⟨(some 9), none, .p (.mv (.t 0))⟩,
    ⟨(some 10), none, .p (.mv (.t 1))⟩,
    ⟨(some 11), none, .p (.mv (.t 2))⟩,
    ⟨(some 12), none, .call 35 [(.t 9), (.t 10), (.t 11)]⟩,
    ⟨(some 8), none, .p (.mv (.t 12))⟩])
  (.seq (.seq (.reg [⟨(some 13), none, .p (.mv (.t 8))⟩,
    ⟨(some 14), none, .p (.bin .lss (.t 13) (.c (.int .i64 0)))⟩])
  (.cond (.t 14) (.seq (.reg [⟨(some 15), none, .p (.build [(.int .i64 0), (.int .i64 0), (.int .i64 0), (.int .i64 0)] [])⟩,
    ⟨none, none, .st 4 (.t 6) (.t 15)⟩,
    ⟨(some 7), none, .p (.mv (.c (.bool false)))⟩])
  .ret) .skip))
  (.seq (.reg [⟨(some 16), none, .p (.mv (.t 0))⟩,
    ⟨(some 17), none, .p (.nilChk (.t 16))⟩,
    ⟨(some 18), none, .p (.faddr 1 (.t 17))⟩,
    ⟨(some 19), none, .p (.ld1 (.t 18))⟩,
    ⟨(some 20), none, .p (.mv (.t 8))⟩,
    ⟨(some 21), none, .p (.idxA 5 (.t 19) (.t 20))⟩,
    ⟨(some 22), none, .p (.faddr 0 (.t 21))⟩,
    ⟨(some 23), none, .p (.ldn 4 (.t 22))⟩,
    ⟨none, none, .st 4 (.t 6) (.t 23)⟩,
    ⟨(some 7), none, .p (.mv (.c (.bool true)))⟩])
  .ret))))⟩
theorem c15 : compF Try.prog ⟨fun s => [].contains s, fun _ => []⟩ Try.f43 = some a15 := by kernel_rfl

/- (*airline/mirror.Mirror).All -/
def a21 : AFun := ⟨26, [.tmp 2], (.seq (.reg [⟨(some 2), none, .p (.mv (.c .nilSl))⟩])
  (.seq (.seq (.reg [⟨(some 6), none, .p (.mv (.t 0))⟩,
    ⟨(some 7), none, .call 26 [(.t 6)]⟩,
    ⟨(some 8), none, .p (.not (.t 7))⟩])
  (.cond (.t 8) (.seq (.reg [⟨(some 2), none, .p (.mv (.c .nilSl))⟩])
  .ret) .skip))
  (.seq (.reg [⟨(some 3), none, .p (.mv (.c .nilSl))⟩])
  (.seq (.seq (.reg [⟨(some 9), none, .p (.mv (.t 0))⟩,
    ⟨(some 10), none, .p (.nilChk (.t 9))⟩,
    ⟨(some 11), none, .p (.faddr 0 (.t 10))⟩,
    ⟨(some 12), none, .p (.ld1 (.t 11))⟩,
    ⟨(some 13), none, .xs .range [(.t 12)]⟩])
  (.block 0 (.loop (.seq (.reg [⟨(some 14), none, .xs .next [(.t 13)]⟩,
    ⟨(some 15), none, .p (.ext 0 (.t 14))⟩])
  (.seq (.cond (.t 15) .skip (.exit 0))
  (.block 1 (.seq (.reg [⟨(some 16), none, .p (.xo .ent [(.t 13)])⟩,
    ⟨(some 17), none, .p (.ext 1 (.t 16))⟩,
    ⟨(some 5), none, .newO 60 [(.int .i64 0), (.int .i64 0), (.int .i64 0), (.int .i64 0), (.int .i64 0)]⟩,
    ⟨none, none, .st 5 (.t 5) (.t 17)⟩])
  (.reg [⟨(some 18), none, .p (.mv (.t 3))⟩,
    ⟨(some 19), none, .p (.faddr 0 (.t 5))⟩,
    ⟨(some 20), none, .p (.ldn 4 (.t 19))⟩,
    ⟨(some 21), none, .p (.bsl 4 [(.int .i64 0), (.int .i64 0), (.int .i64 0), (.int .i64 0)] 1 [(0, (.t 20))])⟩,
    ⟨(some 22), none, .app 27 4 (.t 18) (.t 21)⟩,
    ⟨(some 3), none, .p (.mv (.t 22))⟩]))))))))
  (.seq (.reg [⟨(some 23), none, .p (.mv (.t 3))⟩,
    ⟨(some 24), none, .call 27 [(.t 23), (.c (.func 28 [] []))]⟩])
  (.seq (.reg [⟨(some 25), none, .p (.mv (.t 3))⟩,
    ⟨(some 2), none, .p (.mv (.t 25))⟩])
  .ret))))))⟩
theorem c21 : compF Try.prog ⟨fun s => [].contains s, fun _ => []⟩ Try.f13 = some a21 := by kernel_rfl

/- (*airline/airlineref45.Mirror).All -/
def a22 : AFun := ⟨84, [.tmp 2], (.seq (.reg [⟨(some 2), none, .p (.mv (.c .nilSl))⟩])
  (.seq (.reg [⟨(some 3), none, .p (.mv (.c .nilSl))⟩])
  (.seq (.seq (.reg [⟨(some 4), none, .p (.mv (.c (.int .i64 0)))⟩])
  (.block 0 (.loop (.seq (.seq (.reg [⟨(some 8), none, .p (.mv (.t 0))⟩,
    ⟨(some 9), none, .p (.isNil 1 true (.t 8))⟩,
    ⟨(some 10), none, .p (.mv (.t 9))⟩,
    ⟨(some 11), (some (10, true)), .p (.mv (.t 0))⟩,
    ⟨(some 12), (some (10, true)), .p (.nilChk (.t 11))⟩,
    ⟨(some 13), (some (10, true)), .p (.faddr 0 (.t 12))⟩,
    ⟨(some 14), (some (10, true)), .p (.ld1 (.t 13))⟩,
    ⟨(some 15), none, .p (.pick (.t 10) (.t 14) (.c (.bool false)))⟩,
    ⟨(some 16), none, .p (.mv (.t 15))⟩,
    ⟨(some 17), (some (16, true)), .p (.mv (.t 4))⟩,
    ⟨(some 18), (some (16, true)), .p (.mv (.t 0))⟩,
    ⟨(some 19), (some (16, true)), .p (.nilChk (.t 18))⟩,
    ⟨(some 20), (some (16, true)), .p (.faddr 1 (.t 19))⟩,
    ⟨(some 21), (some (16, true)), .p (.ld1 (.t 20))⟩,
    ⟨(some 22), (some (16, true)), .p (.lenA (.t 21))⟩,
    ⟨(some 23), (some (16, true)), .p (.bin .lss (.t 17) (.t 22))⟩,
    ⟨(some 24), none, .p (.pick (.t 16) (.t 23) (.c (.bool false)))⟩])
  (.cond (.t 24) .skip (.exit 0)))
  (.seq (.block 1 (.seq (.reg [⟨(some 27), none, .p (.mv (.t 0))⟩,
    ⟨(some 28), none, .p (.nilChk (.t 27))⟩,
    ⟨(some 29), none, .p (.faddr 1 (.t 28))⟩,
    ⟨(some 30), none, .p (.ld1 (.t 29))⟩,
    ⟨(some 31), none, .p (.mv (.t 4))⟩,
    ⟨(some 32), none, .p (.idxA 5 (.t 30) (.t 31))⟩,
    ⟨(some 33), none, .p (.faddr 0 (.t 32))⟩,
    ⟨(some 34), none, .p (.ldn 4 (.t 33))⟩,
    ⟨(some 5), none, .newO 27 [(.int .i64 0), (.int .i64 0), (.int .i64 0), (.int .i64 0)]⟩,
    ⟨none, none, .st 4 (.t 5) (.t 34)⟩,
    ⟨(some 6), none, .p (.mv (.c (.int .i64 0)))⟩])
  (.seq (.block 2 (.loop (.seq (.seq (.oreg [(.quiet, ⟨(some 35), none, .p (.mv (.t 6))⟩),
    (.quiet, ⟨(some 36), none, .p (.mv (.t 3))⟩),
    (.quiet, ⟨(some 37), none, .p (.lenA (.t 36))⟩),
    (.quiet, ⟨(some 38), none, .p (.bin .lss (.t 35) (.t 37))⟩),
    (.quiet, ⟨(some 39), none, .p (.mv (.t 38))⟩),
    (.quiet, ⟨(some 40), (some (39, true)), .p (.mv (.t 3))⟩),
    (.quiet, ⟨(some 41), (some (39, true)), .p (.mv (.t 6))⟩),
    (.quiet, ⟨(some 42), (some (39, true)), .p (.idxA 4 (.t 40) (.t 41))⟩),
    (.quiet, ⟨(some 43), (some (39, true)), .p (.faddr 0 (.t 42))⟩),
    (.quiet, ⟨(some 44), (some (39, true)), .p (.ld1 (.t 43))⟩),
    (.quiet, ⟨(some 45), (some (39, true)), .p (.faddr 0 (.t 5))⟩),
    (.quiet, ⟨(some 46), (some (39, true)), .p (.ld1 (.t 45))⟩),
    (.quiet, ⟨(some 47), (some (39, true)), .p (.bin .lss (.t 44) (.t 46))⟩),
    (.quiet, ⟨(some 48), (some (39, true)), .p (.mv (.t 47))⟩),
    (.quiet, ⟨(some 49), (some (48, false)), .p (.mv (.t 3))⟩),
    (.quiet, ⟨(some 50), (some (48, false)), .p (.mv (.t 6))⟩),
    (.quiet, ⟨(some 51), (some (48, false)), .p (.idxA 4 (.t 49) (.t 50))⟩),
    (.quiet, ⟨(some 52), (some (48, false)), .p (.faddr 0 (.t 51))⟩),
    (.quiet, ⟨(some 53), (some (48, false)), .p (.ld1 (.t 52))⟩),
    (.quiet, ⟨(some 54), (some (48, false)), .p (.faddr 0 (.t 5))⟩),
    (.quiet, ⟨(some 55), (some (48, false)), .p (.ld1 (.t 54))⟩),
    (.quiet, ⟨(some 56), (some (48, false)), .p (.bin .eql (.t 53) (.t 55))⟩),
    (.quiet, ⟨(some 57), (some (48, false)), .p (.mv (.t 56))⟩),
    (.quiet, ⟨(some 58), (some (57, true)), .p (.mv (.t 3))⟩),
    (.quiet, ⟨(some 59), (some (57, true)), .p (.mv (.t 6))⟩),
    (.quiet, ⟨(some 60), (some (57, true)), .p (.idxA 4 (.t 58) (.t 59))⟩),
    (.quiet, ⟨(some 61), (some (57, true)), .p (.faddr 1 (.t 60))⟩),
    (.quiet, ⟨(some 62), (some (57, true)), .p (.ld1 (.t 61))⟩),
    (.quiet, ⟨(some 63), (some (57, true)), .p (.faddr 1 (.t 5))⟩),
    (.quiet, ⟨(some 64), (some (57, true)), .p (.ld1 (.t 63))⟩),
    (.quiet, ⟨(some 65), (some (57, true)), .p (.bin .lss (.t 62) (.t 64))⟩),
    (.quiet, ⟨(some 66), (some (48, false)), .p (.pick (.t 57) (.t 65) (.c (.bool false)))⟩),
    (.quiet, ⟨(some 67), (some (39, true)), .p (.pick (.t 48) (.c (.bool true)) (.t 66))⟩),
    (.quiet, ⟨(some 68), none, .p (.pick (.t 39) (.t 67) (.c (.bool false)))⟩)])
  (.cond (.t 68) .skip (.exit 2)))
  (.block 3 (.reg [⟨(some 69), none, .p (.mv (.t 6))⟩,
    ⟨(some 70), none, .p (.bin .add (.t 69) (.c (.int .i64 1)))⟩,
    ⟨(some 6), none, .p (.mv (.t 70))⟩])))))
  (.seq (.oreg [(.quiet, ⟨(some 71), none, .p (.ldn 4 (.t 5))⟩),
    (.stable, ⟨(some 73), none, .p (.mv (.t 3))⟩),
    (.stable, ⟨(some 74), none, .p (.mv (.t 6))⟩),
    (.grow, ⟨(some 75), none, .p (.slA 4 (.t 73) (some (.t 74)) none)⟩),
    (.loud, ⟨(some 72), none, .bslO 27 4 [(.int .i64 0), (.int .i64 0), (.int .i64 0), (.int .i64 0)] 1 [(0, (.t 71))]⟩),
    (.loud, ⟨(some 76), none, .app 27 4 (.t 72) (.t 75)⟩),
    (.quiet, ⟨(some 7), none, .p (.mv (.t 76))⟩)])
  (.reg [⟨(some 77), none, .p (.mv (.t 3))⟩,
    ⟨(some 78), none, .p (.mv (.t 6))⟩,
    ⟨(some 79), none, .p (.mv (.t 6))⟩,
    ⟨(some 80), none, .xs (.clip 4) [(.t 77), (.t 78), (.t 79)]⟩,
    ⟨(some 81), none, .p (.mv (.t 7))⟩,
    ⟨(some 82), none, .app 27 4 (.t 80) (.t 81)⟩,
    ⟨(some 3), none, .p (.mv (.t 82))⟩])))))
  (.reg [⟨(some 25), none, .p (.mv (.t 4))⟩,
    ⟨(some 26), none, .p (.bin .add (.t 25) (.c (.int .i64 1)))⟩,
    ⟨(some 4), none, .p (.mv (.t 26))⟩]))))))
  (.seq (.reg [⟨(some 83), none, .p (.mv (.t 3))⟩,
    ⟨(some 2), none, .p (.mv (.t 83))⟩])
  .ret))))⟩
theorem c22 : compF Try.prog ⟨fun s => [72, 80].contains s, fun r => match r with | 6 => [(0, .quiet), (1, .quiet), (2, .quiet), (3, .quiet), (4, .quiet), (5, .quiet), (6, .quiet), (7, .quiet), (8, .quiet), (9, .quiet), (10, .quiet), (11, .quiet), (12, .quiet), (13, .quiet), (14, .quiet), (15, .quiet), (16, .quiet), (17, .quiet), (18, .quiet), (19, .quiet), (20, .quiet), (21, .quiet), (22, .quiet), (23, .quiet), (24, .quiet), (25, .quiet), (26, .quiet), (27, .quiet), (28, .quiet), (29, .quiet), (30, .quiet), (31, .quiet), (32, .quiet), (33, .quiet)]  | 8 => [(0, .quiet), (2, .stable), (3, .stable), (4, .grow), (1, .loud), (5, .loud), (6, .quiet)] | _ => []⟩ Try.f15 = some a22 := by kernel_rfl

/- (*airline/mirror.Mirror).Put -/
def a23 : AFun := ⟨48, [.tmp 4], (.seq (.reg [⟨(some 3), none, .p (.boxI (.t 1))⟩,
    ⟨(some 4), none, .p (.mv (.c (.int .i64 0)))⟩])
  (.seq (.seq (.reg [⟨(some 7), none, .p (.mv (.t 0))⟩,
    ⟨(some 8), none, .call 26 [(.t 7)]⟩,
    ⟨(some 9), none, .p (.not (.t 8))⟩])
  (.cond (.t 9) (.seq (.reg [⟨(some 4), none, .p (.mv (.c (.int .i64 1)))⟩])
  .ret) .skip))
  (.seq (.seq (.reg [⟨(some 10), none, .p (.faddr 2 (.t 3))⟩,
    ⟨(some 11), none, .p (.ld1 (.t 10))⟩,
    ⟨(some 12), none, .p (.bin .lss (.t 11) (.c (.int .i64 1)))⟩,
    ⟨(some 13), none, .p (.mv (.t 12))⟩,
    ⟨(some 14), (some (13, false)), .p (.faddr 3 (.t 3))⟩,
    ⟨(some 15), (some (13, false)), .p (.ld1 (.t 14))⟩,
    ⟨(some 16), (some (13, false)), .p (.bin .lss (.t 15) (.c (.int .i64 1)))⟩,
    ⟨(some 17), none, .p (.pick (.t 13) (.c (.bool true)) (.t 16))⟩,
    ⟨(some 18), none, .p (.mv (.t 17))⟩,
    ⟨(some 19), (some (18, false)), .p (.faddr 3 (.t 3))⟩,
    ⟨(some 20), (some (18, false)), .p (.ld1 (.t 19))⟩,
    ⟨(some 21), (some (18, false)), .p (.bin .gtr (.t 20) (.c (.int .i64 8)))⟩,
    ⟨(some 22), none, .p (.pick (.t 18) (.c (.bool true)) (.t 21))⟩])
  (.cond (.t 22) (.seq (.reg [⟨(some 4), none, .p (.mv (.c (.int .i64 2)))⟩])
  .ret) .skip))
  (.seq (.seq (.oreg [(.stable, ⟨(some 24), none, .p (.mv (.t 0))⟩),
    (.grow, ⟨(some 25), none, .p (.nilChk (.t 24))⟩),
    (.grow, ⟨(some 26), none, .p (.faddr 0 (.t 25))⟩),
    (.grow, ⟨(some 27), none, .p (.ld1 (.t 26))⟩),
    (.grow, ⟨(some 28), none, .p (.faddr 0 (.t 3))⟩),
    (.grow, ⟨(some 29), none, .p (.ld1 (.t 28))⟩),
    (.grow, ⟨(some 30), none, .p (.faddr 1 (.t 3))⟩),
    (.grow, ⟨(some 31), none, .p (.ld1 (.t 30))⟩),
    (.stable, ⟨(some 32), none, .p (.build [(.int .i64 0), (.int .i64 0)] [(0, 1, (.t 29)), (1, 1, (.t 31))])⟩),
    (.grow, ⟨(some 33), none, .p (.xo (.lk (.st [(.int .i64), (.int .i64)]) (.agg [(.int .i64 0), (.int .i64 0), (.int .i64 0), (.int .i64 0), (.int .i64 0)]) true) [(.t 27), (.t 32)])⟩),
    (.stable, ⟨(some 23), none, .p (.mv (.t 33))⟩),
    (.stable, ⟨(some 34), none, .p (.ext 0 (.t 23))⟩),
    (.stable, ⟨(some 35), none, .p (.ext 1 (.t 23))⟩),
    (.loud, ⟨(some 5), none, .newO 60 [(.int .i64 0), (.int .i64 0), (.int .i64 0), (.int .i64 0), (.int .i64 0)]⟩),
    (.loud, ⟨none, none, .st 5 (.t 5) (.t 34)⟩),
    (.quiet, ⟨(some 6), none, .p (.mv (.t 35))⟩)])
  (.seq (.reg [⟨(some 36), none, .p (.mv (.t 6))⟩,
    ⟨(some 37), none, .p (.mv (.t 36))⟩,
    ⟨(some 38), (some (37, true)), .p (.faddr 0 (.t 5))⟩,
    ⟨(some 39), (some (37, true)), .p (.faddr 2 (.t 38))⟩,
    ⟨(some 40), (some (37, true)), .p (.ld1 (.t 39))⟩,
    ⟨(some 41), (some (37, true)), .p (.faddr 2 (.t 3))⟩,
    ⟨(some 42), (some (37, true)), .p (.ld1 (.t 41))⟩,
    ⟨(some 43), (some (37, true)), .p (.bin .geq (.t 40) (.t 42))⟩,
    ⟨(some 44), none, .p (.pick (.t 37) (.t 43) (.c (.bool false)))⟩])
  (.cond (.t 44) (.seq (.reg [⟨(some 4), none, .p (.mv (.c (.int .i64 30)))⟩])
  .ret) .skip)))
  (.seq (.reg [⟨(some 45), none, .p (.mv (.t 0))⟩,
    ⟨(some 46), none, .p (.ldn 4 (.t 3))⟩,
    ⟨(some 47), none, .call 34 [(.t 45), (.t 46)]⟩])
  (.seq (.reg [⟨(some 4), none, .p (.mv (.c (.int .i64 0)))⟩])
  .ret))))))⟩
theorem c23 : compF Try.prog ⟨fun s => [].contains s, fun r => match r with | 5 => [(0, .stable), (1, .grow), (2, .grow), (3, .grow), (4, .grow), (5, .grow), (6, .grow), (7, .grow), (8, .stable), (9, .grow), (10, .stable), (11, .stable), (12, .stable), (13, .loud), (14, .loud), (15, .quiet)] | _ => []⟩ Try.f22 = some a23 := by kernel_rfl

/- (*airline/airlineref45.Mirror).Put -/
def a32 : AFun := ⟨53, [.tmp 4], (.seq (.reg [⟨(some 3), none, .p (.boxI (.t 1))⟩,
    ⟨(some 4), none, .p (.mv (.c (.int .i64 0)))⟩])
  (.seq (.seq (.reg [⟨(some 6), none, .p (.mv (.t 0))⟩,
    ⟨(some 7), none, .p (.isNil 1 false (.t 6))⟩,
    ⟨(some 8), none, .p (.mv (.t 7))⟩,
    ⟨(some 9), (some (8, false)), .p (.mv (.t 0))⟩,
    ⟨(some 10), (some (8, false)), .p (.nilChk (.t 9))⟩,
    ⟨(some 11), (some (8, false)), .p (.faddr 0 (.t 10))⟩,
    ⟨(some 12), (some (8, false)), .p (.ld1 (.t 11))⟩,
    ⟨(some 13), (some (8, false)), .p (.not (.t 12))⟩,
    ⟨(some 14), none, .p (.pick (.t 8) (.c (.bool true)) (.t 13))⟩])
  (.cond (.t 14) (.seq (.reg [⟨(some 4), none, .p (.mv (.c (.int .i64 1)))⟩])
  .ret) .skip))
  (.seq (.seq (.reg [⟨(some 15), none, .p (.faddr 2 (.t 3))⟩,
    ⟨(some 16), none, .p (.ld1 (.t 15))⟩,
    ⟨(some 17), none, .p (.bin .lss (.t 16) (.c (.int .i64 1)))⟩,
    ⟨(some 18), none, .p (.mv (.t 17))⟩,
    ⟨(some 19), (some (18, false)), .p (.faddr 3 (.t 3))⟩,
    ⟨(some 20), (some (18, false)), .p (.ld1 (.t 19))⟩,
    ⟨(some 21), (some (18, false)), .p (.bin .lss (.t 20) (.c (.int .i64 1)))⟩,
    ⟨(some 22), none, .p (.pick (.t 18) (.c (.bool true)) (.t 21))⟩,
    ⟨(some 23), none, .p (.mv (.t 22))⟩,
    ⟨(some 24), (some (23, false)), .p (.faddr 3 (.t 3))⟩,
    ⟨(some 25), (some (23, false)), .p (.ld1 (.t 24))⟩,
    ⟨(some 26), (some (23, false)), .p (.bin .gtr (.t 25) (.c (.int .i64 8)))⟩,
    ⟨(some 27), none, .p (.pick (.t 23) (.c (.bool true)) (.t 26))⟩])
  (.cond (.t 27) (.seq (.reg [⟨(some 4), none, .p (.mv (.c (.int .i64 2)))⟩])
  .ret) .skip))
  (.seq (.reg [⟨(some 28), none, .p (.mv (.t 0))⟩,
    ⟨(some 29), none, .p (.faddr 0 (.t 3))⟩,
    ⟨(some 30), none, .p (.ld1 (.t 29))⟩,
    ⟨(some 31), none, .p (.faddr 1 (.t 3))⟩,
    ⟨(some 32), none, .p (.ld1 (.t 31))⟩,
    ⟨(some 33), none, .call 35 [(.t 28), (.t 30), (.t 32)]⟩,
    ⟨(some 5), none, .p (.mv (.t 33))⟩])
  (.seq (.seq (.oreg [(.quiet, ⟨(some 34), none, .p (.mv (.t 5))⟩),
    (.quiet, ⟨(some 35), none, .p (.bin .geq (.t 34) (.c (.int .i64 0)))⟩),
    (.quiet, ⟨(some 36), none, .p (.mv (.t 35))⟩),
    (.quiet, ⟨(some 37), (some (36, true)), .p (.mv (.t 0))⟩),
    (.quiet, ⟨(some 38), (some (36, true)), .p (.nilChk (.t 37))⟩),
    (.quiet, ⟨(some 39), (some (36, true)), .p (.faddr 1 (.t 38))⟩),
    (.quiet, ⟨(some 40), (some (36, true)), .p (.ld1 (.t 39))⟩),
    (.quiet, ⟨(some 41), (some (36, true)), .p (.mv (.t 5))⟩),
    (.quiet, ⟨(some 42), (some (36, true)), .p (.idxA 5 (.t 40) (.t 41))⟩),
    (.quiet, ⟨(some 43), (some (36, true)), .p (.faddr 0 (.t 42))⟩),
    (.quiet, ⟨(some 44), (some (36, true)), .p (.faddr 2 (.t 43))⟩),
    (.quiet, ⟨(some 45), (some (36, true)), .p (.ld1 (.t 44))⟩),
    (.quiet, ⟨(some 46), (some (36, true)), .p (.faddr 2 (.t 3))⟩),
    (.quiet, ⟨(some 47), (some (36, true)), .p (.ld1 (.t 46))⟩),
    (.quiet, ⟨(some 48), (some (36, true)), .p (.bin .geq (.t 45) (.t 47))⟩),
    (.quiet, ⟨(some 49), none, .p (.pick (.t 36) (.t 48) (.c (.bool false)))⟩)])
  (.cond (.t 49) (.seq (.reg [⟨(some 4), none, .p (.mv (.c (.int .i64 30)))⟩])
  .ret) .skip))
  (.seq (.reg [⟨(some 50), none, .p (.mv (.t 0))⟩,
    ⟨(some 51), none, .p (.ldn 4 (.t 3))⟩,
    ⟨(some 52), none, .call 36 [(.t 50), (.t 51)]⟩])
  (.seq (.reg [⟨(some 4), none, .p (.mv (.c (.int .i64 0)))⟩])
  .ret)))))))⟩
theorem c32 : compF Try.prog ⟨fun s => [].contains s, fun r => match r with | 6 => [(0, .quiet), (1, .quiet), (2, .quiet), (3, .quiet), (4, .quiet), (5, .quiet), (6, .quiet), (7, .quiet), (8, .quiet), (9, .quiet), (10, .quiet), (11, .quiet), (12, .quiet), (13, .quiet), (14, .quiet), (15, .quiet)] | _ => []⟩ Try.f23 = some a32 := by kernel_rfl

/- (*airline/mirror.Mirror).made -/
def a34 : AFun := ⟨12, [.tmp 2], (.seq (.reg [⟨(some 2), none, .p (.mv (.c (.bool false)))⟩])
  (.seq (.reg [⟨(some 3), none, .p (.mv (.t 0))⟩,
    ⟨(some 4), none, .p (.isNil 1 true (.t 3))⟩,
    ⟨(some 5), none, .p (.mv (.t 4))⟩,
    ⟨(some 6), (some (5, true)), .p (.mv (.t 0))⟩,
    ⟨(some 7), (some (5, true)), .p (.nilChk (.t 6))⟩,
    ⟨(some 8), (some (5, true)), .p (.faddr 0 (.t 7))⟩,
    ⟨(some 9), (some (5, true)), .p (.ld1 (.t 8))⟩,
    ⟨(some 10), (some (5, true)), .p (.isNil 4 true (.t 9))⟩,
    ⟨(some 11), none, .p (.pick (.t 5) (.t 10) (.c (.bool false)))⟩,
    ⟨(some 2), none, .p (.mv (.t 11))⟩])
  .ret))⟩
theorem c34 : compF Try.prog ⟨fun s => [].contains s, fun _ => []⟩ Try.f26 = some a34 := by kernel_rfl

/- (*airline/airlineref45.Mirror).find -/
def a35 : AFun := ⟨52, [.tmp 6], (.seq (.reg [⟨(some 6), none, .p (.mv (.c (.int .i64 0)))⟩])
  (.seq (.seq (.reg [⟨(some 7), none, .p (.mv (.c (.int .i64 0)))⟩])
  (.block 0 (.loop (.seq (.seq (.reg [⟨(some 8), none, .p (.mv (.t 0))⟩,
    ⟨(some 9), none, .p (.isNil 1 true (.t 8))⟩,
    ⟨(some 10), none, .p (.mv (.t 9))⟩,
    ⟨(some 11), (some (10, true)), .p (.mv (.t 0))⟩,
    ⟨(some 12), (some (10, true)), .p (.nilChk (.t 11))⟩,
    ⟨(some 13), (some (10, true)), .p (.faddr 0 (.t 12))⟩,
    ⟨(some 14), (some (10, true)), .p (.ld1 (.t 13))⟩,
    ⟨(some 15), none, .p (.pick (.t 10) (.t 14) (.c (.bool false)))⟩,
    ⟨(some 16), none, .p (.mv (.t 15))⟩,
    ⟨(some 17), (some (16, true)), .p (.mv (.t 7))⟩,
    ⟨(some 18), (some (16, true)), .p (.mv (.t 0))⟩,
    ⟨(some 19), (some (16, true)), .p (.nilChk (.t 18))⟩,
    ⟨(some 20), (some (16, true)), .p (.faddr 1 (.t 19))⟩,
    ⟨(some 21), (some (16, true)), .p (.ld1 (.t 20))⟩,
    ⟨(some 22), (some (16, true)), .p (.lenA (.t 21))⟩,
    ⟨(some 23), (some (16, true)), .p (.bin .lss (.t 17) (.t 22))⟩,
    ⟨(some 24), none, .p (.pick (.t 16) (.t 23) (.c (.bool false)))⟩])
  (.cond (.t 24) .skip (.exit 0)))
  (.seq (.block 1 (.seq (.reg [⟨(some 27), none, .p (.mv (.t 0))⟩,
    ⟨(some 28), none, .p (.nilChk (.t 27))⟩,
    ⟨(some 29), none, .p (.faddr 1 (.t 28))⟩,
    ⟨(some 30), none, .p (.ld1 (.t 29))⟩,
    ⟨(some 31), none, .p (.mv (.t 7))⟩,
    ⟨(some 32), none, .p (.idxA 5 (.t 30) (.t 31))⟩,
    ⟨(some 33), none, .p (.faddr 0 (.t 32))⟩,
    ⟨(some 34), none, .p (.faddr 0 (.t 33))⟩,
    ⟨(some 35), none, .p (.ld1 (.t 34))⟩,
    ⟨(some 36), none, .p (.mv (.t 1))⟩,
    ⟨(some 37), none, .p (.bin .eql (.t 35) (.t 36))⟩,
    ⟨(some 38), none, .p (.mv (.t 37))⟩,
    ⟨(some 39), (some (38, true)), .p (.mv (.t 0))⟩,
    ⟨(some 40), (some (38, true)), .p (.nilChk (.t 39))⟩,
    ⟨(some 41), (some (38, true)), .p (.faddr 1 (.t 40))⟩,
    ⟨(some 42), (some (38, true)), .p (.ld1 (.t 41))⟩,
    ⟨(some 43), (some (38, true)), .p (.mv (.t 7))⟩,
    ⟨(some 44), (some (38, true)), .p (.idxA 5 (.t 42) (.t 43))⟩,
    ⟨(some 45), (some (38, true)), .p (.faddr 0 (.t 44))⟩,
    ⟨(some 46), (some (38, true)), .p (.faddr 1 (.t 45))⟩,
    ⟨(some 47), (some (38, true)), .p (.ld1 (.t 46))⟩,
    ⟨(some 48), (some (38, true)), .p (.mv (.t 2))⟩,
    ⟨(some 49), (some (38, true)), .p (.bin .eql (.t 47) (.t 48))⟩,
    ⟨(some 50), none, .p (.pick (.t 38) (.t 49) (.c (.bool false)))⟩])
  (.cond (.t 50) (.seq (.reg [⟨(some 51), none, .p (.mv (.t 7))⟩,
    ⟨(some 6), none, .p (.mv (.t 51))⟩])
  .ret) .skip)))
  (.reg [⟨(some 25), none, .p (.mv (.t 7))⟩,
    ⟨(some 26), none, .p (.bin .add (.t 25) (.c (.int .i64 1)))⟩,
    ⟨(some 7), none, .p (.mv (.t 26))⟩]))))))
  (.seq (.reg [⟨(some 6), none, .p (.mv (.c (.int .i64 (-1))))⟩])
  .ret)))⟩
theorem c35 : compF Try.prog ⟨fun s => [].contains s, fun _ => []⟩ Try.f35 = some a35 := by kernel_rfl

/- (*airline/mirror.Mirror).All$1 -/
def a38 : AFun := ⟨17, [.tmp 4], (.seq (.reg [⟨(some 2), none, .p (.boxI (.t 0))⟩,
    ⟨(some 3), none, .p (.boxI (.t 1))⟩,
    ⟨(some 4), none, .p (.mv (.c (.int .i64 0)))⟩])
  (.seq (.oreg [(.quiet, ⟨(some 5), none, .p (.faddr 0 (.t 2))⟩),
    (.quiet, ⟨(some 6), none, .p (.ld1 (.t 5))⟩),
    (.quiet, ⟨(some 7), none, .p (.faddr 0 (.t 3))⟩),
    (.quiet, ⟨(some 8), none, .p (.ld1 (.t 7))⟩),
    (.quiet, ⟨(some 10), none, .p (.faddr 1 (.t 2))⟩),
    (.quiet, ⟨(some 11), none, .p (.ld1 (.t 10))⟩),
    (.quiet, ⟨(some 12), none, .p (.faddr 1 (.t 3))⟩),
    (.quiet, ⟨(some 13), none, .p (.ld1 (.t 12))⟩),
    (.quiet, ⟨(some 9), none, .call 30 [(.t 6), (.t 8)]⟩),
    (.loud, ⟨(some 14), none, .call 30 [(.t 11), (.t 13)]⟩),
    (.quiet, ⟨(some 15), none, .p (.bsl 1 [(.int .i64 0)] 2 [(0, (.t 9)), (1, (.t 14))])⟩),
    (.loud, ⟨(some 16), none, .call 29 [(.t 15)]⟩),
    (.quiet, ⟨(some 4), none, .p (.mv (.t 16))⟩)])
  .ret))⟩
theorem c38 : compF Try.prog ⟨fun s => [].contains s, fun r => match r with | 1 => [(0, .quiet), (1, .quiet), (2, .quiet), (3, .quiet), (5, .quiet), (6, .quiet), (7, .quiet), (8, .quiet), (4, .quiet), (9, .loud), (10, .quiet), (11, .loud), (12, .quiet)] | _ => []⟩ Try.f28 = some a38 := by kernel_rfl

/- (*airline/mirror.Mirror).set -/
def a41 : AFun := ⟨59, [], (.seq (.reg [⟨(some 3), none, .p (.boxI (.t 1))⟩])
  (.seq (.reg [⟨(some 7), none, .p (.faddr 0 (.t 3))⟩,
    ⟨(some 8), none, .p (.ld1 (.t 7))⟩,
    ⟨(some 9), none, .p (.faddr 1 (.t 3))⟩,
    ⟨(some 10), none, .p (.ld1 (.t 9))⟩,
    ⟨(some 11), none, .p (.build [(.int .i64 0), (.int .i64 0)] [(0, 1, (.t 8)), (1, 1, (.t 10))])⟩,
    ⟨(some 4), none, .newO 58 [(.int .i64 0), (.int .i64 0)]⟩,
    ⟨none, none, .st 2 (.t 4) (.t 11)⟩])
  (.seq (.seq (.oreg [(.stable, ⟨(some 13), none, .p (.mv (.t 0))⟩),
    (.grow, ⟨(some 14), none, .p (.nilChk (.t 13))⟩),
    (.grow, ⟨(some 15), none, .p (.faddr 0 (.t 14))⟩),
    (.grow, ⟨(some 16), none, .p (.ld1 (.t 15))⟩),
    (.grow, ⟨(some 17), none, .p (.ldn 2 (.t 4))⟩),
    (.grow, ⟨(some 18), none, .p (.xo (.lk (.st [(.int .i64), (.int .i64)]) (.agg [(.int .i64 0), (.int .i64 0), (.int .i64 0), (.int .i64 0), (.int .i64 0)]) true) [(.t 16), (.t 17)])⟩),
    (.stable, ⟨(some 12), none, .p (.mv (.t 18))⟩),
    (.stable, ⟨(some 19), none, .p (.ext 0 (.t 12))⟩),
    (.stable, ⟨(some 20), none, .p (.ext 1 (.t 12))⟩),
    (.loud, ⟨(some 5), none, .newO 60 [(.int .i64 0), (.int .i64 0), (.int .i64 0), (.int .i64 0), (.int .i64 0)]⟩),
    (.loud, ⟨none, none, .st 5 (.t 5) (.t 19)⟩),
    (.quiet, ⟨(some 6), none, .p (.mv (.t 20))⟩)])
  (.seq (.reg [⟨(some 21), none, .p (.mv (.t 6))⟩])
  (.cond (.t 21) (.oreg [(.quiet, ⟨(some 22), none, .p (.mv (.t 0))⟩),
    (.quiet, ⟨(some 23), none, .p (.nilChk (.t 22))⟩),
    (.quiet, ⟨(some 24), none, .p (.faddr 1 (.t 23))⟩),
    (.quiet, ⟨(some 25), none, .p (.ld1 (.t 24))⟩),
    (.quiet, ⟨(some 26), none, .p (.faddr 4 (.t 5))⟩),
    (.quiet, ⟨(some 27), none, .p (.ld1 (.t 26))⟩),
    (.loud, ⟨none, none, .xs (.mdel (.one (.int .i64))) [(.t 25), (.t 27)]⟩)]) .skip)))
  (.seq (.reg [⟨(some 28), none, .p (.mv (.t 0))⟩,
    ⟨(some 29), none, .p (.nilChk (.t 28))⟩,
    ⟨(some 30), none, .p (.faddr 3 (.t 29))⟩,
    ⟨(some 31), none, .p (.ld1 (.t 30))⟩,
    ⟨(some 32), none, .p (.bin .add (.t 31) (.c (.int .i64 1)))⟩,
    ⟨(some 33), none, .p (.nilChk (.t 28))⟩,
    ⟨(some 34), none, .p (.faddr 3 (.t 33))⟩,
    ⟨none, none, .st 1 (.t 34) (.t 32)⟩])
  (.seq (.oreg [(.quiet, ⟨(some 35), none, .p (.mv (.t 0))⟩),
    (.quiet, ⟨(some 36), none, .p (.nilChk (.t 35))⟩),
    (.quiet, ⟨(some 37), none, .p (.faddr 0 (.t 36))⟩),
    (.quiet, ⟨(some 38), none, .p (.ld1 (.t 37))⟩),
    (.quiet, ⟨(some 39), none, .p (.ldn 2 (.t 4))⟩),
    (.quiet, ⟨(some 40), none, .p (.ldn 4 (.t 3))⟩),
    (.quiet, ⟨(some 41), none, .p (.mv (.t 0))⟩),
    (.quiet, ⟨(some 42), none, .p (.nilChk (.t 41))⟩),
    (.quiet, ⟨(some 43), none, .p (.faddr 3 (.t 42))⟩),
    (.quiet, ⟨(some 44), none, .p (.ld1 (.t 43))⟩),
    (.quiet, ⟨(some 45), none, .p (.build [(.int .i64 0), (.int .i64 0), (.int .i64 0), (.int .i64 0), (.int .i64 0)] [(0, 4, (.t 40)), (4, 1, (.t 44))])⟩),
    (.loud, ⟨none, none, .xs (.mu (.st [(.int .i64), (.int .i64)])) [(.t 38), (.t 39), (.t 45)]⟩)])
  (.seq (.oreg [(.quiet, ⟨(some 46), none, .p (.mv (.t 0))⟩),
    (.quiet, ⟨(some 47), none, .p (.nilChk (.t 46))⟩),
    (.quiet, ⟨(some 48), none, .p (.faddr 1 (.t 47))⟩),
    (.quiet, ⟨(some 49), none, .p (.ld1 (.t 48))⟩),
    (.quiet, ⟨(some 50), none, .p (.mv (.t 0))⟩),
    (.quiet, ⟨(some 51), none, .p (.nilChk (.t 50))⟩),
    (.quiet, ⟨(some 52), none, .p (.faddr 3 (.t 51))⟩),
    (.quiet, ⟨(some 53), none, .p (.ld1 (.t 52))⟩),
    (.quiet, ⟨(some 54), none, .p (.ldn 2 (.t 4))⟩),
    (.loud, ⟨none, none, .xs (.mu (.one (.int .i64))) [(.t 49), (.t 53), (.t 54)]⟩)])
  (.reg [⟨(some 55), none, .p (.mv (.t 0))⟩,
    ⟨(some 56), none, .p (.nilChk (.t 55))⟩,
    ⟨(some 57), none, .p (.faddr 2 (.t 56))⟩,
    ⟨(some 58), none, .p (.ld1 (.t 57))⟩,
    ⟨none, none, .xs .mclr [(.t 58)]⟩])))))))⟩
theorem c41 : compF Try.prog ⟨fun s => [].contains s, fun r => match r with | 2 => [(0, .stable), (1, .grow), (2, .grow), (3, .grow), (4, .grow), (5, .grow), (6, .stable), (7, .stable), (8, .stable), (9, .loud), (10, .loud), (11, .quiet)]  | 4 => [(0, .quiet), (1, .quiet), (2, .quiet), (3, .quiet), (4, .quiet), (5, .quiet), (6, .loud)]  | 6 => [(0, .quiet), (1, .quiet), (2, .quiet), (3, .quiet), (4, .quiet), (5, .quiet), (6, .quiet), (7, .quiet), (8, .quiet), (9, .quiet), (10, .quiet), (11, .loud)]  | 7 => [(0, .quiet), (1, .quiet), (2, .quiet), (3, .quiet), (4, .quiet), (5, .quiet), (6, .quiet), (7, .quiet), (8, .quiet), (9, .loud)] | _ => []⟩ Try.f34 = some a41 := by kernel_rfl

/- (*airline/airlineref45.Mirror).record -/
def a49 : AFun := ⟨47, [], (.seq (.reg [⟨(some 3), none, .p (.boxI (.t 1))⟩])
  (.seq (.reg [⟨(some 5), none, .p (.mv (.t 0))⟩,
    ⟨(some 6), none, .p (.nilChk (.t 5))⟩,
    ⟨(some 7), none, .p (.faddr 2 (.t 6))⟩,
    ⟨(some 8), none, .p (.ld1 (.t 7))⟩,
    ⟨(some 9), none, .p (.bin .add (.t 8) (.c (.int .i64 1)))⟩,
    ⟨(some 10), none, .p (.nilChk (.t 5))⟩,
    ⟨(some 11), none, .p (.faddr 2 (.t 10))⟩,
    ⟨none, none, .st 1 (.t 11) (.t 9)⟩])
  (.seq (.reg [⟨(some 12), none, .p (.mv (.t 0))⟩,
    ⟨(some 13), none, .p (.faddr 0 (.t 3))⟩,
    ⟨(some 14), none, .p (.ld1 (.t 13))⟩,
    ⟨(some 15), none, .p (.faddr 1 (.t 3))⟩,
    ⟨(some 16), none, .p (.ld1 (.t 15))⟩,
    ⟨(some 17), none, .call 35 [(.t 12), (.t 14), (.t 16)]⟩,
    ⟨(some 4), none, .p (.mv (.t 17))⟩])
  (.seq (.seq (.reg [⟨(some 18), none, .p (.mv (.t 4))⟩,
    ⟨(some 19), none, .p (.bin .lss (.t 18) (.c (.int .i64 0)))⟩])
  (.cond (.t 19) (.seq (.oreg [(.stable, ⟨(some 20), none, .p (.mv (.t 0))⟩),
    (.quiet, ⟨(some 21), none, .p (.mv (.t 0))⟩),
    (.quiet, ⟨(some 22), none, .p (.nilChk (.t 21))⟩),
    (.quiet, ⟨(some 23), none, .p (.faddr 1 (.t 22))⟩),
    (.quiet, ⟨(some 24), none, .p (.ld1 (.t 23))⟩),
    (.quiet, ⟨(some 25), none, .p (.ldn 4 (.t 3))⟩),
    (.quiet, ⟨(some 26), none, .p (.mv (.t 0))⟩),
    (.quiet, ⟨(some 27), none, .p (.nilChk (.t 26))⟩),
    (.quiet, ⟨(some 28), none, .p (.faddr 2 (.t 27))⟩),
    (.quiet, ⟨(some 29), none, .p (.ld1 (.t 28))⟩),
    (.quiet, ⟨(some 30), none, .p (.build [(.int .i64 0), (.int .i64 0), (.int .i64 0), (.int .i64 0), (.int .i64 0)] [(0, 4, (.t 25)), (4, 1, (.t 29))])⟩),
    (.quiet, ⟨(some 31), none, .p (.bsl 5 [(.int .i64 0), (.int .i64 0), (.int .i64 0), (.int .i64 0), (.int .i64 0)] 1 [(0, (.t 30))])⟩),
    (.loud, ⟨(some 32), none, .app 70 5 (.t 24) (.t 31)⟩),
    (.quiet, ⟨(some 33), none, .p (.nilChk (.t 20))⟩),
    (.quiet, ⟨(some 34), none, .p (.faddr 1 (.t 33))⟩),
    (.loud, ⟨none, none, .st 1 (.t 34) (.t 32)⟩)])
  .ret) .skip))
  (.oreg [(.quiet, ⟨(some 35), none, .p (.mv (.t 0))⟩),
    (.quiet, ⟨(some 36), none, .p (.nilChk (.t 35))⟩),
    (.quiet, ⟨(some 37), none, .p (.faddr 1 (.t 36))⟩),
    (.quiet, ⟨(some 38), none, .p (.ld1 (.t 37))⟩),
    (.quiet, ⟨(some 39), none, .p (.mv (.t 4))⟩),
    (.quiet, ⟨(some 40), none, .p (.ldn 4 (.t 3))⟩),
    (.quiet, ⟨(some 41), none, .p (.mv (.t 0))⟩),
    (.quiet, ⟨(some 42), none, .p (.nilChk (.t 41))⟩),
    (.quiet, ⟨(some 43), none, .p (.faddr 2 (.t 42))⟩),
    (.quiet, ⟨(some 44), none, .p (.ld1 (.t 43))⟩),
    (.quiet, ⟨(some 45), none, .p (.build [(.int .i64 0), (.int .i64 0), (.int .i64 0), (.int .i64 0), (.int .i64 0)] [(0, 4, (.t 40)), (4, 1, (.t 44))])⟩),
    (.quiet, ⟨(some 46), none, .p (.idxA 5 (.t 38) (.t 39))⟩),
    (.loud, ⟨none, none, .st 5 (.t 46) (.t 45)⟩)])))))⟩
theorem c49 : compF Try.prog ⟨fun s => [].contains s, fun r => match r with | 4 => [(0, .stable), (1, .quiet), (2, .quiet), (3, .quiet), (4, .quiet), (5, .quiet), (6, .quiet), (7, .quiet), (8, .quiet), (9, .quiet), (10, .quiet), (11, .quiet), (12, .loud), (13, .quiet), (14, .quiet), (15, .loud)]  | 5 => [(0, .quiet), (1, .quiet), (2, .quiet), (3, .quiet), (4, .quiet), (5, .quiet), (6, .quiet), (7, .quiet), (8, .quiet), (9, .quiet), (10, .quiet), (11, .quiet), (12, .loud)] | _ => []⟩ Try.f36 = some a49 := by kernel_rfl

end Go.Proofs.Ytdkcicbpcagonab
