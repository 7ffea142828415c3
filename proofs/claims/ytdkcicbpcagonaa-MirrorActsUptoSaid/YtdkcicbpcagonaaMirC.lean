/- The functions of mirror and reconcile, compiled (printed by gen.sh). -/
import Derived.Test.YtdkcicbpcagonaaAlX
import Derived.Test.YtdkcicbpcagonaaProg
namespace Go.Proofs.Ytdkcicbpcagonaa
open Go Go.AL

/- airline/airlinelaw45.MirrorActs -/
def a3 : AFun := ⟨139, [.tmp 4], (.seq (.reg [⟨(some 4), none, .p (.mv (.c (.bool false)))⟩])
  (.seq (.seq (.reg [⟨(some 16), none, .p (.mv (.t 0))⟩,
    ⟨(some 17), none, .p (.lenA (.t 16))⟩,
    ⟨(some 18), none, .p (.bin .gtr (.t 17) (.c (.int .i64 80)))⟩])
  (.cond (.t 18) (.seq (.reg [⟨(some 19), none, .call 9 []⟩,
    ⟨(some 4), none, .p (.mv (.t 19))⟩])
  .ret) .skip))
  (.seq (.reg [⟨(some 20), none, .call 10 []⟩,
    ⟨(some 21), none, .call 11 []⟩,
    ⟨(some 5), none, .p (.mv (.t 20))⟩,
    ⟨(some 6), none, .p (.mv (.t 21))⟩])
  (.seq (.seq (.reg [⟨(some 22), none, .p (.mv (.t 5))⟩,
    ⟨(some 23), none, .p (.isNil 1 false (.t 22))⟩])
  (.cond (.t 23) (.seq (.reg [⟨(some 4), none, .p (.mv (.c (.bool false)))⟩])
  .ret) .skip))
  (.seq (.seq (.reg [⟨(some 7), none, .p (.mv (.c (.int .i64 0)))⟩])
  (.block 0 (.loop (.seq (.seq (.reg [⟨(some 24), none, .p (.mv (.t 7))⟩,
    ⟨(some 25), none, .p (.mv (.t 0))⟩,
    ⟨(some 26), none, .p (.lenA (.t 25))⟩,
    ⟨(some 27), none, .p (.bin .lss (.t 24) (.t 26))⟩])
  (.cond (.t 27) .skip (.exit 0)))
  (.seq (.block 1 (.seq (.reg [⟨(some 31), none, .p (.mv (.t 5))⟩,
    ⟨(some 32), none, .p (.mv (.t 0))⟩,
    ⟨(some 33), none, .p (.mv (.t 7))⟩,
    ⟨(some 34), none, .p (.idxA 6 (.t 32) (.t 33))⟩,
    ⟨(some 35), none, .p (.ldn 6 (.t 34))⟩,
    ⟨(some 36), none, .call 12 [(.t 31), (.t 35)]⟩,
    ⟨(some 30), none, .p (.mv (.t 36))⟩,
    ⟨(some 37), none, .p (.ext 0 (.t 30))⟩,
    ⟨(some 38), none, .p (.ext 1 (.t 30))⟩,
    ⟨(some 8), none, .newO 29 [(.int .i64 0), (.int .i64 0), (.int .i64 0), (.int .i64 0)]⟩,
    ⟨none, none, .st 4 (.t 8) (.t 37)⟩,
    ⟨(some 9), none, .p (.mv (.t 38))⟩])
  (.seq (.reg [⟨(some 40), none, .p (.mv (.t 6))⟩,
    ⟨(some 41), none, .p (.mv (.t 0))⟩,
    ⟨(some 42), none, .p (.mv (.t 7))⟩,
    ⟨(some 43), none, .p (.idxA 6 (.t 41) (.t 42))⟩,
    ⟨(some 44), none, .p (.ldn 6 (.t 43))⟩,
    ⟨(some 45), none, .call 13 [(.t 40), (.t 44)]⟩,
    ⟨(some 39), none, .p (.mv (.t 45))⟩,
    ⟨(some 46), none, .p (.ext 0 (.t 39))⟩,
    ⟨(some 47), none, .p (.ext 1 (.t 39))⟩,
    ⟨(some 10), none, .newO 29 [(.int .i64 0), (.int .i64 0), (.int .i64 0), (.int .i64 0)]⟩,
    ⟨none, none, .st 4 (.t 10) (.t 46)⟩,
    ⟨(some 11), none, .p (.mv (.t 47))⟩])
  (.seq (.oreg2 [(.stable, ⟨(some 49), none, .p (.mv (.t 5))⟩),
    (.stable, ⟨(some 50), none, .p (.mv (.t 0))⟩),
    (.stable, ⟨(some 51), none, .p (.mv (.t 7))⟩),
    (.grow, ⟨(some 52), none, .p (.idxA 6 (.t 50) (.t 51))⟩),
    (.grow, ⟨(some 53), none, .p (.faddr 1 (.t 52))⟩),
    (.grow, ⟨(some 54), none, .p (.faddr 0 (.t 53))⟩),
    (.grow, ⟨(some 55), none, .p (.ld1 (.t 54))⟩),
    (.stable, ⟨(some 56), none, .p (.mv (.t 0))⟩),
    (.stable, ⟨(some 57), none, .p (.mv (.t 7))⟩),
    (.grow, ⟨(some 58), none, .p (.idxA 6 (.t 56) (.t 57))⟩),
    (.grow, ⟨(some 59), none, .p (.faddr 1 (.t 58))⟩),
    (.grow, ⟨(some 60), none, .p (.faddr 1 (.t 59))⟩),
    (.grow, ⟨(some 61), none, .p (.ld1 (.t 60))⟩)]
  [(.loud, ⟨(some 62), none, .call 14 [(.t 49), (.t 55), (.t 61)]⟩),
    (.stable, ⟨(some 48), none, .p (.mv (.t 62))⟩),
    (.stable, ⟨(some 63), none, .p (.ext 0 (.t 48))⟩),
    (.stable, ⟨(some 64), none, .p (.ext 1 (.t 48))⟩),
    (.loud, ⟨(some 12), none, .newO 29 [(.int .i64 0), (.int .i64 0), (.int .i64 0), (.int .i64 0)]⟩),
    (.loud, ⟨none, none, .st 4 (.t 12) (.t 63)⟩),
    (.quiet, ⟨(some 13), none, .p (.mv (.t 64))⟩)]
  [(.loud, ⟨(some 12), none, .newO 29 [(.int .i64 0), (.int .i64 0), (.int .i64 0), (.int .i64 0)]⟩),
    (.loud, ⟨(some 62), none, .call 14 [(.t 49), (.t 55), (.t 61)]⟩),
    (.stable, ⟨(some 48), none, .p (.mv (.t 62))⟩),
    (.stable, ⟨(some 63), none, .p (.ext 0 (.t 48))⟩),
    (.stable, ⟨(some 64), none, .p (.ext 1 (.t 48))⟩),
    (.loud, ⟨none, none, .st 4 (.t 12) (.t 63)⟩),
    (.quiet, ⟨(some 13), none, .p (.mv (.t 64))⟩)])
  (.seq (.oreg2 [(.stable, ⟨(some 66), none, .p (.mv (.t 6))⟩),
    (.stable, ⟨(some 67), none, .p (.mv (.t 0))⟩),
    (.stable, ⟨(some 68), none, .p (.mv (.t 7))⟩),
    (.grow, ⟨(some 69), none, .p (.idxA 6 (.t 67) (.t 68))⟩),
    (.grow, ⟨(some 70), none, .p (.faddr 1 (.t 69))⟩),
    (.grow, ⟨(some 71), none, .p (.faddr 0 (.t 70))⟩),
    (.grow, ⟨(some 72), none, .p (.ld1 (.t 71))⟩),
    (.stable, ⟨(some 73), none, .p (.mv (.t 0))⟩),
    (.stable, ⟨(some 74), none, .p (.mv (.t 7))⟩),
    (.grow, ⟨(some 75), none, .p (.idxA 6 (.t 73) (.t 74))⟩),
    (.grow, ⟨(some 76), none, .p (.faddr 1 (.t 75))⟩),
    (.grow, ⟨(some 77), none, .p (.faddr 1 (.t 76))⟩),
    (.grow, ⟨(some 78), none, .p (.ld1 (.t 77))⟩)]
  [(.loud, ⟨(some 79), none, .call 15 [(.t 66), (.t 72), (.t 78)]⟩),
    (.stable, ⟨(some 65), none, .p (.mv (.t 79))⟩),
    (.stable, ⟨(some 80), none, .p (.ext 0 (.t 65))⟩),
    (.stable, ⟨(some 81), none, .p (.ext 1 (.t 65))⟩),
    (.loud, ⟨(some 14), none, .newO 29 [(.int .i64 0), (.int .i64 0), (.int .i64 0), (.int .i64 0)]⟩),
    (.loud, ⟨none, none, .st 4 (.t 14) (.t 80)⟩),
    (.quiet, ⟨(some 15), none, .p (.mv (.t 81))⟩)]
  [(.loud, ⟨(some 14), none, .newO 29 [(.int .i64 0), (.int .i64 0), (.int .i64 0), (.int .i64 0)]⟩),
    (.loud, ⟨(some 79), none, .call 15 [(.t 66), (.t 72), (.t 78)]⟩),
    (.stable, ⟨(some 65), none, .p (.mv (.t 79))⟩),
    (.stable, ⟨(some 80), none, .p (.ext 0 (.t 65))⟩),
    (.stable, ⟨(some 81), none, .p (.ext 1 (.t 65))⟩),
    (.loud, ⟨none, none, .st 4 (.t 14) (.t 80)⟩),
    (.quiet, ⟨(some 15), none, .p (.mv (.t 81))⟩)])
  (.seq (.reg [⟨(some 82), none, .p (.ldn 4 (.t 8))⟩,
    ⟨(some 83), none, .p (.ldn 4 (.t 10))⟩,
    ⟨(some 84), none, .p (.xo (.eqA [(.int .i64), (.int .i64), (.int .i64), (.int .i64)] true) [(.t 82), (.t 83)])⟩,
    ⟨(some 85), none, .p (.mv (.t 84))⟩,
    ⟨(some 86), (some (85, false)), .p (.mv (.t 9))⟩,
    ⟨(some 87), (some (85, false)), .p (.mv (.t 11))⟩,
    ⟨(some 88), (some (85, false)), .p (.bin .neq (.t 86) (.t 87))⟩,
    ⟨(some 89), none, .p (.pick (.t 85) (.c (.bool true)) (.t 88))⟩,
    ⟨(some 90), none, .p (.mv (.t 89))⟩,
    ⟨(some 91), (some (90, false)), .p (.ldn 4 (.t 12))⟩,
    ⟨(some 92), (some (90, false)), .p (.ldn 4 (.t 14))⟩,
    ⟨(some 93), (some (90, false)), .p (.xo (.eqA [(.int .i64), (.int .i64), (.int .i64), (.int .i64)] true) [(.t 91), (.t 92)])⟩,
    ⟨(some 94), none, .p (.pick (.t 90) (.c (.bool true)) (.t 93))⟩,
    ⟨(some 95), none, .p (.mv (.t 94))⟩,
    ⟨(some 96), (some (95, false)), .p (.mv (.t 13))⟩,
    ⟨(some 97), (some (95, false)), .p (.mv (.t 15))⟩,
    ⟨(some 98), (some (95, false)), .p (.eqb true (.t 96) (.t 97))⟩,
    ⟨(some 99), none, .p (.pick (.t 95) (.c (.bool true)) (.t 98))⟩,
    ⟨(some 100), none, .p (.mv (.t 99))⟩,
    ⟨(some 101), (some (100, false)), .p (.mv (.t 5))⟩,
    ⟨(some 102), (some (100, false)), .call 16 [(.t 101)]⟩,
    ⟨(some 103), (some (100, false)), .p (.mv (.t 6))⟩,
    ⟨(some 104), (some (100, false)), .call 17 [(.t 103)]⟩,
    ⟨(some 105), (some (100, false)), .p (.bin .neq (.t 102) (.t 104))⟩,
    ⟨(some 106), none, .p (.pick (.t 100) (.c (.bool true)) (.t 105))⟩,
    ⟨(some 107), none, .p (.mv (.t 106))⟩,
    ⟨(some 108), (some (107, false)), .p (.mv (.t 7))⟩,
    ⟨(some 109), (some (107, false)), .p (.bin .rem (.t 108) (.c (.int .i64 8)))⟩,
    ⟨(some 110), (some (107, false)), .p (.bin .eql (.t 109) (.c (.int .i64 0)))⟩,
    ⟨(some 111), (some (107, false)), .p (.mv (.t 110))⟩,
    ⟨(some 112), (some (111, true)), .p (.mv (.t 5))⟩,
    ⟨(some 113), (some (111, true)), .p (.mv (.t 1))⟩,
    ⟨(some 114), (some (111, true)), .call 19 [(.t 112), (.t 113)]⟩,
    ⟨(some 115), (some (111, true)), .p (.mv (.t 6))⟩,
    ⟨(some 116), (some (111, true)), .p (.mv (.t 1))⟩,
    ⟨(some 117), (some (111, true)), .call 20 [(.t 115), (.t 116)]⟩,
    ⟨(some 118), (some (111, true)), .call 18 [(.t 114), (.t 117)]⟩,
    ⟨(some 119), (some (111, true)), .p (.not (.t 118))⟩,
    ⟨(some 120), (some (107, false)), .p (.pick (.t 111) (.t 119) (.c (.bool false)))⟩,
    ⟨(some 121), none, .p (.pick (.t 107) (.c (.bool true)) (.t 120))⟩])
  (.cond (.t 121) (.seq (.reg [⟨(some 4), none, .p (.mv (.c (.bool false)))⟩])
  .ret) .skip)))))))
  (.reg [⟨(some 28), none, .p (.mv (.t 7))⟩,
    ⟨(some 29), none, .p (.bin .add (.t 28) (.c (.int .i64 1)))⟩,
    ⟨(some 7), none, .p (.mv (.t 29))⟩]))))))
  (.seq (.reg [⟨(some 122), none, .p (.mv (.t 5))⟩,
    ⟨(some 123), none, .call 21 [(.t 122)]⟩,
    ⟨(some 124), none, .p (.mv (.t 6))⟩,
    ⟨(some 125), none, .call 22 [(.t 124)]⟩,
    ⟨(some 126), none, .call 18 [(.t 123), (.t 125)]⟩,
    ⟨(some 127), none, .p (.mv (.t 126))⟩,
    ⟨(some 128), (some (127, true)), .p (.mv (.t 5))⟩,
    ⟨(some 129), (some (127, true)), .p (.mv (.t 1))⟩,
    ⟨(some 130), (some (127, true)), .call 19 [(.t 128), (.t 129)]⟩,
    ⟨(some 131), (some (127, true)), .p (.mv (.t 6))⟩,
    ⟨(some 132), (some (127, true)), .p (.mv (.t 1))⟩,
    ⟨(some 133), (some (127, true)), .call 20 [(.t 131), (.t 132)]⟩,
    ⟨(some 134), (some (127, true)), .call 18 [(.t 130), (.t 133)]⟩,
    ⟨(some 135), none, .p (.pick (.t 127) (.t 134) (.c (.bool false)))⟩,
    ⟨(some 136), none, .p (.mv (.t 135))⟩,
    ⟨(some 137), (some (136, true)), .call 9 []⟩,
    ⟨(some 138), none, .p (.pick (.t 136) (.t 137) (.c (.bool false)))⟩,
    ⟨(some 4), none, .p (.mv (.t 138))⟩])
  .ret))))))⟩
theorem c3 : compF Try.prog ⟨fun s => [62, 79].contains s, fun r => match r with | 11 => [(0, .stable), (1, .stable), (2, .stable), (3, .grow), (4, .grow), (5, .grow), (6, .grow), (7, .stable), (8, .stable), (9, .grow), (10, .grow), (11, .grow), (12, .grow), (1000000, .loud), (13, .loud), (14, .stable), (15, .stable), (16, .stable), (17, .loud), (18, .loud), (19, .quiet), (1000001, .loud), (17, .loud), (13, .loud), (14, .stable), (15, .stable), (16, .stable), (18, .loud), (19, .quiet)]  | 12 => [(0, .stable), (1, .stable), (2, .stable), (3, .grow), (4, .grow), (5, .grow), (6, .grow), (7, .stable), (8, .stable), (9, .grow), (10, .grow), (11, .grow), (12, .grow), (1000000, .loud), (13, .loud), (14, .stable), (15, .stable), (16, .stable), (17, .loud), (18, .loud), (19, .quiet), (1000001, .loud), (17, .loud), (13, .loud), (14, .stable), (15, .stable), (16, .stable), (18, .loud), (19, .quiet)] | _ => []⟩ Try.f3 = some a3 := by kernel_rfl

/- airline/airlinelaw45.MirrorFollows -/
def a4 : AFun := ⟨87, [.tmp 4], (.seq (.reg [⟨(some 4), none, .p (.mv (.c (.bool false)))⟩])
  (.seq (.seq (.reg [⟨(some 13), none, .p (.mv (.t 0))⟩,
    ⟨(some 14), none, .p (.lenA (.t 13))⟩,
    ⟨(some 15), none, .p (.bin .gtr (.t 14) (.c (.int .i64 80)))⟩])
  (.cond (.t 15) (.seq (.reg [⟨(some 16), none, .call 9 []⟩,
    ⟨(some 4), none, .p (.mv (.t 16))⟩])
  .ret) .skip))
  (.seq (.reg [⟨(some 17), none, .call 10 []⟩,
    ⟨(some 18), none, .call 10 []⟩,
    ⟨(some 5), none, .p (.mv (.t 17))⟩,
    ⟨(some 6), none, .p (.mv (.t 18))⟩])
  (.seq (.seq (.reg [⟨(some 19), none, .p (.mv (.t 5))⟩,
    ⟨(some 20), none, .p (.isNil 1 false (.t 19))⟩,
    ⟨(some 21), none, .p (.mv (.t 20))⟩,
    ⟨(some 22), (some (21, false)), .p (.mv (.t 6))⟩,
    ⟨(some 23), (some (21, false)), .p (.isNil 1 false (.t 22))⟩,
    ⟨(some 24), none, .p (.pick (.t 21) (.c (.bool true)) (.t 23))⟩])
  (.cond (.t 24) (.seq (.reg [⟨(some 4), none, .p (.mv (.c (.bool false)))⟩])
  .ret) .skip))
  (.seq (.reg [⟨(some 25), none, .p (.mv (.t 1))⟩,
    ⟨(some 26), none, .p (.conv .i64 (.t 25))⟩,
    ⟨(some 27), none, .p (.mv (.t 0))⟩,
    ⟨(some 28), none, .p (.lenA (.t 27))⟩,
    ⟨(some 29), none, .p (.bin .add (.t 28) (.c (.int .i64 1)))⟩,
    ⟨(some 30), none, .p (.bin .rem (.t 26) (.t 29))⟩,
    ⟨(some 7), none, .p (.mv (.t 30))⟩])
  (.seq (.seq (.reg [⟨(some 8), none, .p (.mv (.c (.int .i64 0)))⟩])
  (.block 0 (.loop (.seq (.seq (.reg [⟨(some 31), none, .p (.mv (.t 8))⟩,
    ⟨(some 32), none, .p (.mv (.t 7))⟩,
    ⟨(some 33), none, .p (.bin .lss (.t 31) (.t 32))⟩])
  (.cond (.t 33) .skip (.exit 0)))
  (.seq (.block 1 (.seq (.reg [⟨(some 36), none, .p (.mv (.t 5))⟩,
    ⟨(some 37), none, .p (.mv (.t 0))⟩,
    ⟨(some 38), none, .p (.mv (.t 8))⟩,
    ⟨(some 39), none, .p (.idxA 6 (.t 37) (.t 38))⟩,
    ⟨(some 40), none, .p (.ldn 6 (.t 39))⟩,
    ⟨(some 41), none, .call 12 [(.t 36), (.t 40)]⟩])
  (.reg [⟨(some 42), none, .p (.mv (.t 6))⟩,
    ⟨(some 43), none, .p (.mv (.t 0))⟩,
    ⟨(some 44), none, .p (.mv (.t 8))⟩,
    ⟨(some 45), none, .p (.idxA 6 (.t 43) (.t 44))⟩,
    ⟨(some 46), none, .p (.ldn 6 (.t 45))⟩,
    ⟨(some 47), none, .call 12 [(.t 42), (.t 46)]⟩])))
  (.reg [⟨(some 34), none, .p (.mv (.t 8))⟩,
    ⟨(some 35), none, .p (.bin .add (.t 34) (.c (.int .i64 1)))⟩,
    ⟨(some 8), none, .p (.mv (.t 35))⟩]))))))
  (.seq (.reg [⟨(some 48), none, .p (.mv (.t 5))⟩,
    ⟨(some 49), none, .call 16 [(.t 48)]⟩,
    ⟨(some 9), none, .p (.mv (.t 49))⟩])
  (.seq (.seq (.reg [⟨(some 50), none, .p (.mv (.t 7))⟩,
    ⟨(some 10), none, .p (.mv (.t 50))⟩])
  (.block 2 (.loop (.seq (.seq (.reg [⟨(some 51), none, .p (.mv (.t 10))⟩,
    ⟨(some 52), none, .p (.mv (.t 0))⟩,
    ⟨(some 53), none, .p (.lenA (.t 52))⟩,
    ⟨(some 54), none, .p (.bin .lss (.t 51) (.t 53))⟩])
  (.cond (.t 54) .skip (.exit 2)))
  (.seq (.block 3 (.reg [⟨(some 57), none, .p (.mv (.t 5))⟩,
    ⟨(some 58), none, .p (.mv (.t 0))⟩,
    ⟨(some 59), none, .p (.mv (.t 10))⟩,
    ⟨(some 60), none, .p (.idxA 6 (.t 58) (.t 59))⟩,
    ⟨(some 61), none, .p (.ldn 6 (.t 60))⟩,
    ⟨(some 62), none, .call 12 [(.t 57), (.t 61)]⟩]))
  (.reg [⟨(some 55), none, .p (.mv (.t 10))⟩,
    ⟨(some 56), none, .p (.bin .add (.t 55) (.c (.int .i64 1)))⟩,
    ⟨(some 10), none, .p (.mv (.t 56))⟩]))))))
  (.seq (.reg [⟨(some 63), none, .p (.mv (.t 5))⟩,
    ⟨(some 64), none, .p (.mv (.t 9))⟩,
    ⟨(some 65), none, .call 19 [(.t 63), (.t 64)]⟩,
    ⟨(some 11), none, .p (.mv (.t 65))⟩])
  (.seq (.seq (.reg [⟨(some 12), none, .p (.mv (.c (.int .i64 0)))⟩])
  (.block 4 (.loop (.seq (.seq (.reg [⟨(some 66), none, .p (.mv (.t 12))⟩,
    ⟨(some 67), none, .p (.mv (.t 11))⟩,
    ⟨(some 68), none, .p (.lenA (.t 67))⟩,
    ⟨(some 69), none, .p (.bin .lss (.t 66) (.t 68))⟩])
  (.cond (.t 69) .skip (.exit 4)))
  (.seq (.block 5 (.seq (.reg [⟨(some 72), none, .p (.mv (.t 6))⟩,
    ⟨(some 73), none, .p (.mv (.t 11))⟩,
    ⟨(some 74), none, .p (.mv (.t 12))⟩,
    ⟨(some 75), none, .p (.idxA 4 (.t 73) (.t 74))⟩,
    ⟨(some 76), none, .p (.ldn 4 (.t 75))⟩,
    ⟨(some 77), none, .call 23 [(.t 72), (.t 76)]⟩,
    ⟨(some 78), none, .p (.bin .neq (.t 77) (.c (.int .i64 0)))⟩])
  (.cond (.t 78) (.seq (.reg [⟨(some 4), none, .p (.mv (.c (.bool false)))⟩])
  .ret) .skip)))
  (.reg [⟨(some 70), none, .p (.mv (.t 12))⟩,
    ⟨(some 71), none, .p (.bin .add (.t 70) (.c (.int .i64 1)))⟩,
    ⟨(some 12), none, .p (.mv (.t 71))⟩]))))))
  (.seq (.reg [⟨(some 79), none, .p (.mv (.t 5))⟩,
    ⟨(some 80), none, .call 21 [(.t 79)]⟩,
    ⟨(some 81), none, .p (.mv (.t 6))⟩,
    ⟨(some 82), none, .call 21 [(.t 81)]⟩,
    ⟨(some 83), none, .call 18 [(.t 80), (.t 82)]⟩,
    ⟨(some 84), none, .p (.mv (.t 83))⟩,
    ⟨(some 85), (some (84, true)), .call 9 []⟩,
    ⟨(some 86), none, .p (.pick (.t 84) (.t 85) (.c (.bool false)))⟩,
    ⟨(some 4), none, .p (.mv (.t 86))⟩])
  .ret)))))))))))⟩
theorem c4 : compF Try.prog ⟨fun s => [].contains s, fun _ => []⟩ Try.f4 = some a4 := by kernel_rfl

/- airline/airlinelaw45.MirrorNil -/
def a5 : AFun := ⟨83, [.tmp 6], (.seq (.reg [⟨(some 5), none, .p (.boxI (.t 2))⟩,
    ⟨(some 6), none, .p (.mv (.c (.bool false)))⟩])
  (.seq (.reg [⟨(some 7), none, .p (.mv (.c .nilPtr))⟩])
  (.seq (.reg [⟨(some 15), none, .p (.mv (.t 7))⟩,
    ⟨(some 16), none, .p (.build [.nilMap, .nilMap, .nilMap, (.int .i64 0)] [])⟩,
    ⟨(some 17), none, .p (.boxI (.t 16))⟩,
    ⟨(some 18), none, .p (.bsl 1 [.nilPtr] 2 [(0, (.t 15)), (1, (.t 17))])⟩,
    ⟨(some 8), none, .p (.mv (.t 18))⟩])
  (.seq (.seq (.reg [⟨(some 9), none, .p (.mv (.c (.int .i64 0)))⟩])
  (.block 0 (.loop (.seq (.seq (.reg [⟨(some 19), none, .p (.mv (.t 9))⟩,
    ⟨(some 20), none, .p (.bin .lss (.t 19) (.c (.int .i64 2)))⟩])
  (.cond (.t 20) .skip (.exit 0)))
  (.seq (.block 1 (.seq (.reg [⟨(some 23), none, .p (.mv (.t 8))⟩,
    ⟨(some 24), none, .p (.mv (.t 9))⟩,
    ⟨(some 25), none, .p (.idxA 1 (.t 23) (.t 24))⟩,
    ⟨(some 26), none, .p (.ld1 (.t 25))⟩,
    ⟨(some 10), none, .p (.mv (.t 26))⟩])
  (.seq (.reg [⟨(some 28), none, .p (.mv (.t 10))⟩,
    ⟨(some 29), none, .p (.mv (.t 0))⟩,
    ⟨(some 30), none, .p (.mv (.t 1))⟩,
    ⟨(some 31), none, .p (.faddr 3 (.t 5))⟩,
    ⟨(some 32), none, .p (.ld1 (.t 31))⟩,
    ⟨(some 33), none, .call 24 [(.t 28), (.t 29), (.t 30), (.t 32)]⟩,
    ⟨(some 27), none, .p (.mv (.t 33))⟩,
    ⟨(some 34), none, .p (.ext 0 (.t 27))⟩,
    ⟨(some 35), none, .p (.ext 1 (.t 27))⟩,
    ⟨(some 11), none, .newO 29 [(.int .i64 0), (.int .i64 0), (.int .i64 0), (.int .i64 0)]⟩,
    ⟨none, none, .st 4 (.t 11) (.t 34)⟩,
    ⟨(some 12), none, .p (.mv (.t 35))⟩])
  (.seq (.reg [⟨(some 37), none, .p (.mv (.t 10))⟩,
    ⟨(some 38), none, .p (.mv (.t 0))⟩,
    ⟨(some 39), none, .p (.mv (.t 1))⟩,
    ⟨(some 40), none, .call 14 [(.t 37), (.t 38), (.t 39)]⟩,
    ⟨(some 36), none, .p (.mv (.t 40))⟩,
    ⟨(some 41), none, .p (.ext 0 (.t 36))⟩,
    ⟨(some 42), none, .p (.ext 1 (.t 36))⟩,
    ⟨(some 13), none, .newO 29 [(.int .i64 0), (.int .i64 0), (.int .i64 0), (.int .i64 0)]⟩,
    ⟨none, none, .st 4 (.t 13) (.t 41)⟩,
    ⟨(some 14), none, .p (.mv (.t 42))⟩])
  (.seq (.reg [⟨(some 43), none, .p (.mv (.t 10))⟩,
    ⟨(some 44), none, .p (.ldn 4 (.t 5))⟩,
    ⟨(some 45), none, .call 23 [(.t 43), (.t 44)]⟩,
    ⟨(some 46), none, .p (.bin .neq (.t 45) (.c (.int .i64 1)))⟩,
    ⟨(some 47), none, .p (.mv (.t 46))⟩,
    ⟨(some 48), (some (47, false)), .p (.mv (.t 12))⟩,
    ⟨(some 49), (some (47, false)), .p (.bin .neq (.t 48) (.c (.int .i64 1)))⟩,
    ⟨(some 50), none, .p (.pick (.t 47) (.c (.bool true)) (.t 49))⟩,
    ⟨(some 51), none, .p (.mv (.t 50))⟩,
    ⟨(some 52), (some (51, false)), .p (.ldn 4 (.t 11))⟩,
    ⟨(some 53), (some (51, false)), .p (.build [(.int .i64 0), (.int .i64 0), (.int .i64 0), (.int .i64 0)] [])⟩,
    ⟨(some 54), (some (51, false)), .p (.xo (.eqA [(.int .i64), (.int .i64), (.int .i64), (.int .i64)] true) [(.t 52), (.t 53)])⟩,
    ⟨(some 55), none, .p (.pick (.t 51) (.c (.bool true)) (.t 54))⟩,
    ⟨(some 56), none, .p (.mv (.t 55))⟩,
    ⟨(some 57), (some (56, false)), .p (.ldn 4 (.t 13))⟩,
    ⟨(some 58), (some (56, false)), .p (.build [(.int .i64 0), (.int .i64 0), (.int .i64 0), (.int .i64 0)] [])⟩,
    ⟨(some 59), (some (56, false)), .p (.xo (.eqA [(.int .i64), (.int .i64), (.int .i64), (.int .i64)] true) [(.t 57), (.t 58)])⟩,
    ⟨(some 60), none, .p (.pick (.t 56) (.c (.bool true)) (.t 59))⟩,
    ⟨(some 61), none, .p (.mv (.t 60))⟩,
    ⟨(some 62), (some (61, false)), .p (.mv (.t 14))⟩,
    ⟨(some 63), none, .p (.pick (.t 61) (.c (.bool true)) (.t 62))⟩,
    ⟨(some 64), none, .p (.mv (.t 63))⟩,
    ⟨(some 65), (some (64, false)), .p (.mv (.t 10))⟩,
    ⟨(some 66), (some (64, false)), .call 21 [(.t 65)]⟩,
    ⟨(some 67), (some (64, false)), .p (.lenA (.t 66))⟩,
    ⟨(some 68), (some (64, false)), .p (.bin .neq (.t 67) (.c (.int .i64 0)))⟩,
    ⟨(some 69), none, .p (.pick (.t 64) (.c (.bool true)) (.t 68))⟩,
    ⟨(some 70), none, .p (.mv (.t 69))⟩,
    ⟨(some 71), (some (70, false)), .p (.mv (.t 10))⟩,
    ⟨(some 72), (some (70, false)), .p (.mv (.t 0))⟩,
    ⟨(some 73), (some (70, false)), .call 19 [(.t 71), (.t 72)]⟩,
    ⟨(some 74), (some (70, false)), .p (.lenA (.t 73))⟩,
    ⟨(some 75), (some (70, false)), .p (.bin .neq (.t 74) (.c (.int .i64 0)))⟩,
    ⟨(some 76), none, .p (.pick (.t 70) (.c (.bool true)) (.t 75))⟩,
    ⟨(some 77), none, .p (.mv (.t 76))⟩,
    ⟨(some 78), (some (77, false)), .p (.mv (.t 10))⟩,
    ⟨(some 79), (some (77, false)), .call 16 [(.t 78)]⟩,
    ⟨(some 80), (some (77, false)), .p (.bin .neq (.t 79) (.c (.int .i64 0)))⟩,
    ⟨(some 81), none, .p (.pick (.t 77) (.c (.bool true)) (.t 80))⟩])
  (.cond (.t 81) (.seq (.reg [⟨(some 6), none, .p (.mv (.c (.bool false)))⟩])
  .ret) .skip))))))
  (.reg [⟨(some 21), none, .p (.mv (.t 9))⟩,
    ⟨(some 22), none, .p (.bin .add (.t 21) (.c (.int .i64 1)))⟩,
    ⟨(some 9), none, .p (.mv (.t 22))⟩]))))))
  (.seq (.reg [⟨(some 82), none, .call 9 []⟩,
    ⟨(some 6), none, .p (.mv (.t 82))⟩])
  .ret)))))⟩
theorem c5 : compF Try.prog ⟨fun s => [].contains s, fun _ => []⟩ Try.f5 = some a5 := by kernel_rfl

/- airline/airlinelaw45.MirrorOrder -/
def a6 : AFun := ⟨122, [.tmp 2], (.seq (.reg [⟨(some 2), none, .p (.mv (.c (.bool false)))⟩])
  (.seq (.seq (.reg [⟨(some 9), none, .p (.mv (.t 0))⟩,
    ⟨(some 10), none, .p (.lenA (.t 9))⟩,
    ⟨(some 11), none, .p (.bin .gtr (.t 10) (.c (.int .i64 80)))⟩])
  (.cond (.t 11) (.seq (.reg [⟨(some 12), none, .call 9 []⟩,
    ⟨(some 2), none, .p (.mv (.t 12))⟩])
  .ret) .skip))
  (.seq (.reg [⟨(some 13), none, .call 10 []⟩,
    ⟨(some 3), none, .p (.mv (.t 13))⟩])
  (.seq (.seq (.reg [⟨(some 14), none, .p (.mv (.t 3))⟩,
    ⟨(some 15), none, .p (.isNil 1 false (.t 14))⟩])
  (.cond (.t 15) (.seq (.reg [⟨(some 2), none, .p (.mv (.c (.bool false)))⟩])
  .ret) .skip))
  (.seq (.seq (.reg [⟨(some 4), none, .p (.mv (.c (.int .i64 0)))⟩])
  (.block 0 (.loop (.seq (.seq (.reg [⟨(some 16), none, .p (.mv (.t 4))⟩,
    ⟨(some 17), none, .p (.mv (.t 0))⟩,
    ⟨(some 18), none, .p (.lenA (.t 17))⟩,
    ⟨(some 19), none, .p (.bin .lss (.t 16) (.t 18))⟩])
  (.cond (.t 19) .skip (.exit 0)))
  (.seq (.block 1 (.reg [⟨(some 22), none, .p (.mv (.t 3))⟩,
    ⟨(some 23), none, .p (.mv (.t 0))⟩,
    ⟨(some 24), none, .p (.mv (.t 4))⟩,
    ⟨(some 25), none, .p (.idxA 6 (.t 23) (.t 24))⟩,
    ⟨(some 26), none, .p (.ldn 6 (.t 25))⟩,
    ⟨(some 27), none, .call 12 [(.t 22), (.t 26)]⟩]))
  (.reg [⟨(some 20), none, .p (.mv (.t 4))⟩,
    ⟨(some 21), none, .p (.bin .add (.t 20) (.c (.int .i64 1)))⟩,
    ⟨(some 4), none, .p (.mv (.t 21))⟩]))))))
  (.seq (.reg [⟨(some 28), none, .p (.mv (.t 3))⟩,
    ⟨(some 29), none, .call 21 [(.t 28)]⟩,
    ⟨(some 5), none, .p (.mv (.t 29))⟩])
  (.seq (.seq (.reg [⟨(some 6), none, .p (.mv (.c (.int .i64 0)))⟩])
  (.block 2 (.loop (.seq (.seq (.reg [⟨(some 30), none, .p (.mv (.t 6))⟩,
    ⟨(some 31), none, .p (.mv (.t 5))⟩,
    ⟨(some 32), none, .p (.lenA (.t 31))⟩,
    ⟨(some 33), none, .p (.bin .lss (.t 30) (.t 32))⟩])
  (.cond (.t 33) .skip (.exit 2)))
  (.seq (.block 3 (.seq (.oreg2 [(.stable, ⟨(some 37), none, .p (.mv (.t 3))⟩),
    (.stable, ⟨(some 38), none, .p (.mv (.t 5))⟩),
    (.stable, ⟨(some 39), none, .p (.mv (.t 6))⟩),
    (.grow, ⟨(some 40), none, .p (.idxA 4 (.t 38) (.t 39))⟩),
    (.grow, ⟨(some 41), none, .p (.faddr 0 (.t 40))⟩),
    (.grow, ⟨(some 42), none, .p (.ld1 (.t 41))⟩),
    (.stable, ⟨(some 43), none, .p (.mv (.t 5))⟩),
    (.stable, ⟨(some 44), none, .p (.mv (.t 6))⟩),
    (.grow, ⟨(some 45), none, .p (.idxA 4 (.t 43) (.t 44))⟩),
    (.grow, ⟨(some 46), none, .p (.faddr 1 (.t 45))⟩),
    (.grow, ⟨(some 47), none, .p (.ld1 (.t 46))⟩)]
  [(.loud, ⟨(some 48), none, .call 14 [(.t 37), (.t 42), (.t 47)]⟩),
    (.stable, ⟨(some 36), none, .p (.mv (.t 48))⟩),
    (.stable, ⟨(some 49), none, .p (.ext 0 (.t 36))⟩),
    (.stable, ⟨(some 50), none, .p (.ext 1 (.t 36))⟩),
    (.loud, ⟨(some 7), none, .newO 29 [(.int .i64 0), (.int .i64 0), (.int .i64 0), (.int .i64 0)]⟩),
    (.loud, ⟨none, none, .st 4 (.t 7) (.t 49)⟩),
    (.quiet, ⟨(some 8), none, .p (.mv (.t 50))⟩)]
  [(.loud, ⟨(some 7), none, .newO 29 [(.int .i64 0), (.int .i64 0), (.int .i64 0), (.int .i64 0)]⟩),
    (.loud, ⟨(some 48), none, .call 14 [(.t 37), (.t 42), (.t 47)]⟩),
    (.stable, ⟨(some 36), none, .p (.mv (.t 48))⟩),
    (.stable, ⟨(some 49), none, .p (.ext 0 (.t 36))⟩),
    (.stable, ⟨(some 50), none, .p (.ext 1 (.t 36))⟩),
    (.loud, ⟨none, none, .st 4 (.t 7) (.t 49)⟩),
    (.quiet, ⟨(some 8), none, .p (.mv (.t 50))⟩)])
  (.seq (.seq (.oreg [(.quiet, ⟨(some 51), none, .p (.mv (.t 8))⟩),
    (.quiet, ⟨(some 52), none, .p (.not (.t 51))⟩),
    (.quiet, ⟨(some 53), none, .p (.mv (.t 52))⟩),
    (.quiet, ⟨(some 54), (some (53, false)), .p (.ldn 4 (.t 7))⟩),
    (.quiet, ⟨(some 55), (some (53, false)), .p (.mv (.t 5))⟩),
    (.quiet, ⟨(some 56), (some (53, false)), .p (.mv (.t 6))⟩),
    (.quiet, ⟨(some 57), (some (53, false)), .p (.idxA 4 (.t 55) (.t 56))⟩),
    (.quiet, ⟨(some 58), (some (53, false)), .p (.ldn 4 (.t 57))⟩),
    (.quiet, ⟨(some 59), (some (53, false)), .p (.xo (.eqA [(.int .i64), (.int .i64), (.int .i64), (.int .i64)] true) [(.t 54), (.t 58)])⟩),
    (.quiet, ⟨(some 60), none, .p (.pick (.t 53) (.c (.bool true)) (.t 59))⟩)])
  (.cond (.t 60) (.seq (.reg [⟨(some 2), none, .p (.mv (.c (.bool false)))⟩])
  .ret) .skip))
  (.seq (.oreg [(.quiet, ⟨(some 61), none, .p (.mv (.t 6))⟩),
    (.quiet, ⟨(some 62), none, .p (.bin .gtr (.t 61) (.c (.int .i64 0)))⟩),
    (.quiet, ⟨(some 63), none, .p (.mv (.t 62))⟩),
    (.quiet, ⟨(some 64), (some (63, true)), .p (.mv (.t 5))⟩),
    (.quiet, ⟨(some 65), (some (63, true)), .p (.mv (.t 6))⟩),
    (.quiet, ⟨(some 66), (some (63, true)), .p (.idxA 4 (.t 64) (.t 65))⟩),
    (.quiet, ⟨(some 67), (some (63, true)), .p (.faddr 0 (.t 66))⟩),
    (.quiet, ⟨(some 68), (some (63, true)), .p (.ld1 (.t 67))⟩),
    (.quiet, ⟨(some 69), (some (63, true)), .p (.mv (.t 5))⟩),
    (.quiet, ⟨(some 70), (some (63, true)), .p (.mv (.t 6))⟩),
    (.quiet, ⟨(some 71), (some (63, true)), .p (.bin .sub (.t 70) (.c (.int .i64 1)))⟩),
    (.quiet, ⟨(some 72), (some (63, true)), .p (.idxA 4 (.t 69) (.t 71))⟩),
    (.quiet, ⟨(some 73), (some (63, true)), .p (.faddr 0 (.t 72))⟩),
    (.quiet, ⟨(some 74), (some (63, true)), .p (.ld1 (.t 73))⟩),
    (.quiet, ⟨(some 75), (some (63, true)), .p (.bin .lss (.t 68) (.t 74))⟩),
    (.quiet, ⟨(some 76), (some (63, true)), .p (.mv (.t 75))⟩),
    (.quiet, ⟨(some 77), (some (76, false)), .p (.mv (.t 5))⟩),
    (.quiet, ⟨(some 78), (some (76, false)), .p (.mv (.t 6))⟩),
    (.quiet, ⟨(some 79), (some (76, false)), .p (.idxA 4 (.t 77) (.t 78))⟩),
    (.quiet, ⟨(some 80), (some (76, false)), .p (.faddr 0 (.t 79))⟩),
    (.quiet, ⟨(some 81), (some (76, false)), .p (.ld1 (.t 80))⟩),
    (.quiet, ⟨(some 82), (some (76, false)), .p (.mv (.t 5))⟩),
    (.quiet, ⟨(some 83), (some (76, false)), .p (.mv (.t 6))⟩),
    (.quiet, ⟨(some 84), (some (76, false)), .p (.bin .sub (.t 83) (.c (.int .i64 1)))⟩),
    (.quiet, ⟨(some 85), (some (76, false)), .p (.idxA 4 (.t 82) (.t 84))⟩),
    (.quiet, ⟨(some 86), (some (76, false)), .p (.faddr 0 (.t 85))⟩),
    (.quiet, ⟨(some 87), (some (76, false)), .p (.ld1 (.t 86))⟩),
    (.quiet, ⟨(some 88), (some (76, false)), .p (.bin .eql (.t 81) (.t 87))⟩),
    (.quiet, ⟨(some 89), (some (76, false)), .p (.mv (.t 88))⟩),
    (.quiet, ⟨(some 90), (some (89, true)), .p (.mv (.t 5))⟩),
    (.quiet, ⟨(some 91), (some (89, true)), .p (.mv (.t 6))⟩),
    (.quiet, ⟨(some 92), (some (89, true)), .p (.idxA 4 (.t 90) (.t 91))⟩),
    (.quiet, ⟨(some 93), (some (89, true)), .p (.faddr 1 (.t 92))⟩),
    (.quiet, ⟨(some 94), (some (89, true)), .p (.ld1 (.t 93))⟩),
    (.quiet, ⟨(some 95), (some (89, true)), .p (.mv (.t 5))⟩),
    (.quiet, ⟨(some 96), (some (89, true)), .p (.mv (.t 6))⟩),
    (.quiet, ⟨(some 97), (some (89, true)), .p (.bin .sub (.t 96) (.c (.int .i64 1)))⟩),
    (.quiet, ⟨(some 98), (some (89, true)), .p (.idxA 4 (.t 95) (.t 97))⟩),
    (.quiet, ⟨(some 99), (some (89, true)), .p (.faddr 1 (.t 98))⟩),
    (.quiet, ⟨(some 100), (some (89, true)), .p (.ld1 (.t 99))⟩),
    (.quiet, ⟨(some 101), (some (89, true)), .p (.bin .leq (.t 94) (.t 100))⟩),
    (.quiet, ⟨(some 102), (some (76, false)), .p (.pick (.t 89) (.t 101) (.c (.bool false)))⟩),
    (.quiet, ⟨(some 103), (some (63, true)), .p (.pick (.t 76) (.c (.bool true)) (.t 102))⟩),
    (.quiet, ⟨(some 104), none, .p (.pick (.t 63) (.t 103) (.c (.bool false)))⟩)])
  (.cond (.t 104) (.seq (.reg [⟨(some 2), none, .p (.mv (.c (.bool false)))⟩])
  .ret) .skip)))))
  (.reg [⟨(some 34), none, .p (.mv (.t 6))⟩,
    ⟨(some 35), none, .p (.bin .add (.t 34) (.c (.int .i64 1)))⟩,
    ⟨(some 6), none, .p (.mv (.t 35))⟩]))))))
  (.seq (.reg [⟨(some 105), none, .p (.mv (.t 3))⟩,
    ⟨(some 106), none, .call 19 [(.t 105), (.c (.int .i64 0))]⟩,
    ⟨(some 107), none, .p (.lenA (.t 106))⟩,
    ⟨(some 108), none, .p (.mv (.t 5))⟩,
    ⟨(some 109), none, .p (.lenA (.t 108))⟩,
    ⟨(some 110), none, .p (.bin .eql (.t 107) (.t 109))⟩,
    ⟨(some 111), none, .p (.mv (.t 110))⟩,
    ⟨(some 112), (some (111, true)), .p (.mv (.t 3))⟩,
    ⟨(some 113), (some (111, true)), .p (.mv (.t 3))⟩,
    ⟨(some 114), (some (111, true)), .call 16 [(.t 113)]⟩,
    ⟨(some 115), (some (111, true)), .call 19 [(.t 112), (.t 114)]⟩,
    ⟨(some 116), (some (111, true)), .p (.lenA (.t 115))⟩,
    ⟨(some 117), (some (111, true)), .p (.bin .eql (.t 116) (.c (.int .i64 0)))⟩,
    ⟨(some 118), none, .p (.pick (.t 111) (.t 117) (.c (.bool false)))⟩,
    ⟨(some 119), none, .p (.mv (.t 118))⟩,
    ⟨(some 120), (some (119, true)), .call 9 []⟩,
    ⟨(some 121), none, .p (.pick (.t 119) (.t 120) (.c (.bool false)))⟩,
    ⟨(some 2), none, .p (.mv (.t 121))⟩])
  .ret))))))))⟩
theorem c6 : compF Try.prog ⟨fun s => [48].contains s, fun r => match r with | 14 => [(0, .stable), (1, .stable), (2, .stable), (3, .grow), (4, .grow), (5, .grow), (6, .stable), (7, .stable), (8, .grow), (9, .grow), (10, .grow), (1000000, .loud), (11, .loud), (12, .stable), (13, .stable), (14, .stable), (15, .loud), (16, .loud), (17, .quiet), (1000001, .loud), (15, .loud), (11, .loud), (12, .stable), (13, .stable), (14, .stable), (16, .loud), (17, .quiet)]  | 15 => [(0, .quiet), (1, .quiet), (2, .quiet), (3, .quiet), (4, .quiet), (5, .quiet), (6, .quiet), (7, .quiet), (8, .quiet), (9, .quiet)]  | 17 => [(0, .quiet), (1, .quiet), (2, .quiet), (3, .quiet), (4, .quiet), (5, .quiet), (6, .quiet), (7, .quiet), (8, .quiet), (9, .quiet), (10, .quiet), (11, .quiet), (12, .quiet), (13, .quiet), (14, .quiet), (15, .quiet), (16, .quiet), (17, .quiet), (18, .quiet), (19, .quiet), (20, .quiet), (21, .quiet), (22, .quiet), (23, .quiet), (24, .quiet), (25, .quiet), (26, .quiet), (27, .quiet), (28, .quiet), (29, .quiet), (30, .quiet), (31, .quiet), (32, .quiet), (33, .quiet), (34, .quiet), (35, .quiet), (36, .quiet), (37, .quiet), (38, .quiet), (39, .quiet), (40, .quiet), (41, .quiet), (42, .quiet), (43, .quiet)] | _ => []⟩ Try.f6 = some a6 := by kernel_rfl

/- airline/airlinelaw45.MirrorVersions -/
def a7 : AFun := ⟨100, [.tmp 2], (.seq (.reg [⟨(some 2), none, .p (.mv (.c (.bool false)))⟩])
  (.seq (.seq (.reg [⟨(some 13), none, .p (.mv (.t 0))⟩,
    ⟨(some 14), none, .p (.lenA (.t 13))⟩,
    ⟨(some 15), none, .p (.bin .gtr (.t 14) (.c (.int .i64 80)))⟩])
  (.cond (.t 15) (.seq (.reg [⟨(some 16), none, .call 9 []⟩,
    ⟨(some 2), none, .p (.mv (.t 16))⟩])
  .ret) .skip))
  (.seq (.reg [⟨(some 17), none, .call 10 []⟩,
    ⟨(some 3), none, .p (.mv (.t 17))⟩])
  (.seq (.seq (.reg [⟨(some 18), none, .p (.mv (.t 3))⟩,
    ⟨(some 19), none, .p (.isNil 1 false (.t 18))⟩])
  (.cond (.t 19) (.seq (.reg [⟨(some 2), none, .p (.mv (.c (.bool false)))⟩])
  .ret) .skip))
  (.seq (.seq (.reg [⟨(some 4), none, .p (.mv (.c (.int .i64 0)))⟩])
  (.block 0 (.loop (.seq (.seq (.reg [⟨(some 20), none, .p (.mv (.t 4))⟩,
    ⟨(some 21), none, .p (.mv (.t 0))⟩,
    ⟨(some 22), none, .p (.lenA (.t 21))⟩,
    ⟨(some 23), none, .p (.bin .lss (.t 20) (.t 22))⟩])
  (.cond (.t 23) .skip (.exit 0)))
  (.seq (.block 1 (.seq (.reg [⟨(some 26), none, .p (.mv (.t 3))⟩,
    ⟨(some 27), none, .call 21 [(.t 26)]⟩,
    ⟨(some 28), none, .p (.mv (.t 3))⟩,
    ⟨(some 29), none, .call 16 [(.t 28)]⟩,
    ⟨(some 5), none, .p (.mv (.t 27))⟩,
    ⟨(some 6), none, .p (.mv (.t 29))⟩])
  (.seq (.reg [⟨(some 31), none, .p (.mv (.t 3))⟩,
    ⟨(some 32), none, .p (.mv (.t 0))⟩,
    ⟨(some 33), none, .p (.mv (.t 4))⟩,
    ⟨(some 34), none, .p (.idxA 6 (.t 32) (.t 33))⟩,
    ⟨(some 35), none, .p (.ldn 6 (.t 34))⟩,
    ⟨(some 36), none, .call 12 [(.t 31), (.t 35)]⟩,
    ⟨(some 30), none, .p (.mv (.t 36))⟩,
    ⟨(some 37), none, .p (.ext 0 (.t 30))⟩,
    ⟨(some 38), none, .p (.ext 1 (.t 30))⟩,
    ⟨(some 7), none, .newO 29 [(.int .i64 0), (.int .i64 0), (.int .i64 0), (.int .i64 0)]⟩,
    ⟨none, none, .st 4 (.t 7) (.t 37)⟩,
    ⟨(some 8), none, .p (.mv (.t 38))⟩])
  (.seq (.reg [⟨(some 39), none, .p (.mv (.t 3))⟩,
    ⟨(some 40), none, .call 21 [(.t 39)]⟩,
    ⟨(some 9), none, .p (.mv (.t 40))⟩])
  (.seq (.seq (.reg [⟨(some 41), none, .p (.mv (.t 8))⟩,
    ⟨(some 42), none, .p (.bin .neq (.t 41) (.c (.int .i64 0)))⟩,
    ⟨(some 43), none, .p (.mv (.t 42))⟩,
    ⟨(some 44), (some (43, true)), .p (.mv (.t 5))⟩,
    ⟨(some 45), (some (43, true)), .p (.mv (.t 9))⟩,
    ⟨(some 46), (some (43, true)), .call 18 [(.t 44), (.t 45)]⟩,
    ⟨(some 47), (some (43, true)), .p (.not (.t 46))⟩,
    ⟨(some 48), (some (43, true)), .p (.mv (.t 47))⟩,
    ⟨(some 49), (some (48, false)), .p (.mv (.t 3))⟩,
    ⟨(some 50), (some (48, false)), .call 16 [(.t 49)]⟩,
    ⟨(some 51), (some (48, false)), .p (.mv (.t 6))⟩,
    ⟨(some 52), (some (48, false)), .p (.bin .neq (.t 50) (.t 51))⟩,
    ⟨(some 53), (some (43, true)), .p (.pick (.t 48) (.c (.bool true)) (.t 52))⟩,
    ⟨(some 54), none, .p (.pick (.t 43) (.t 53) (.c (.bool false)))⟩,
    ⟨(some 55), none, .p (.mv (.t 54))⟩,
    ⟨(some 56), (some (55, false)), .p (.mv (.t 8))⟩,
    ⟨(some 57), (some (55, false)), .p (.bin .eql (.t 56) (.c (.int .i64 0)))⟩,
    ⟨(some 58), (some (55, false)), .p (.mv (.t 57))⟩,
    ⟨(some 59), (some (58, true)), .p (.mv (.t 3))⟩,
    ⟨(some 60), (some (58, true)), .call 16 [(.t 59)]⟩,
    ⟨(some 61), (some (58, true)), .p (.mv (.t 6))⟩,
    ⟨(some 62), (some (58, true)), .p (.bin .add (.t 61) (.c (.int .i64 1)))⟩,
    ⟨(some 63), (some (58, true)), .p (.bin .neq (.t 60) (.t 62))⟩,
    ⟨(some 64), (some (55, false)), .p (.pick (.t 58) (.t 63) (.c (.bool false)))⟩,
    ⟨(some 65), none, .p (.pick (.t 55) (.c (.bool true)) (.t 64))⟩])
  (.cond (.t 65) (.seq (.reg [⟨(some 2), none, .p (.mv (.c (.bool false)))⟩])
  .ret) .skip))
  (.seq (.reg [⟨(some 10), none, .p (.mv (.c (.int .i64 0)))⟩])
  (.block 2 (.loop (.seq (.seq (.reg [⟨(some 66), none, .p (.mv (.t 10))⟩,
    ⟨(some 67), none, .p (.mv (.t 5))⟩,
    ⟨(some 68), none, .p (.lenA (.t 67))⟩,
    ⟨(some 69), none, .p (.bin .lss (.t 66) (.t 68))⟩])
  (.cond (.t 69) .skip (.exit 2)))
  (.seq (.block 3 (.seq (.oreg2 [(.stable, ⟨(some 73), none, .p (.mv (.t 3))⟩),
    (.stable, ⟨(some 74), none, .p (.mv (.t 5))⟩),
    (.stable, ⟨(some 75), none, .p (.mv (.t 10))⟩),
    (.grow, ⟨(some 76), none, .p (.idxA 4 (.t 74) (.t 75))⟩),
    (.grow, ⟨(some 77), none, .p (.faddr 0 (.t 76))⟩),
    (.grow, ⟨(some 78), none, .p (.ld1 (.t 77))⟩),
    (.stable, ⟨(some 79), none, .p (.mv (.t 5))⟩),
    (.stable, ⟨(some 80), none, .p (.mv (.t 10))⟩),
    (.grow, ⟨(some 81), none, .p (.idxA 4 (.t 79) (.t 80))⟩),
    (.grow, ⟨(some 82), none, .p (.faddr 1 (.t 81))⟩),
    (.grow, ⟨(some 83), none, .p (.ld1 (.t 82))⟩)]
  [(.loud, ⟨(some 84), none, .call 14 [(.t 73), (.t 78), (.t 83)]⟩),
    (.stable, ⟨(some 72), none, .p (.mv (.t 84))⟩),
    (.stable, ⟨(some 85), none, .p (.ext 0 (.t 72))⟩),
    (.stable, ⟨(some 86), none, .p (.ext 1 (.t 72))⟩),
    (.loud, ⟨(some 11), none, .newO 29 [(.int .i64 0), (.int .i64 0), (.int .i64 0), (.int .i64 0)]⟩),
    (.loud, ⟨none, none, .st 4 (.t 11) (.t 85)⟩),
    (.quiet, ⟨(some 12), none, .p (.mv (.t 86))⟩)]
  [(.loud, ⟨(some 11), none, .newO 29 [(.int .i64 0), (.int .i64 0), (.int .i64 0), (.int .i64 0)]⟩),
    (.loud, ⟨(some 84), none, .call 14 [(.t 73), (.t 78), (.t 83)]⟩),
    (.stable, ⟨(some 72), none, .p (.mv (.t 84))⟩),
    (.stable, ⟨(some 85), none, .p (.ext 0 (.t 72))⟩),
    (.stable, ⟨(some 86), none, .p (.ext 1 (.t 72))⟩),
    (.loud, ⟨none, none, .st 4 (.t 11) (.t 85)⟩),
    (.quiet, ⟨(some 12), none, .p (.mv (.t 86))⟩)])
  (.seq (.oreg [(.quiet, ⟨(some 87), none, .p (.mv (.t 12))⟩),
    (.quiet, ⟨(some 88), none, .p (.not (.t 87))⟩),
    (.quiet, ⟨(some 89), none, .p (.mv (.t 88))⟩),
    (.quiet, ⟨(some 90), (some (89, false)), .p (.faddr 2 (.t 11))⟩),
    (.quiet, ⟨(some 91), (some (89, false)), .p (.ld1 (.t 90))⟩),
    (.quiet, ⟨(some 92), (some (89, false)), .p (.mv (.t 5))⟩),
    (.quiet, ⟨(some 93), (some (89, false)), .p (.mv (.t 10))⟩),
    (.quiet, ⟨(some 94), (some (89, false)), .p (.idxA 4 (.t 92) (.t 93))⟩),
    (.quiet, ⟨(some 95), (some (89, false)), .p (.faddr 2 (.t 94))⟩),
    (.quiet, ⟨(some 96), (some (89, false)), .p (.ld1 (.t 95))⟩),
    (.quiet, ⟨(some 97), (some (89, false)), .p (.bin .lss (.t 91) (.t 96))⟩),
    (.quiet, ⟨(some 98), none, .p (.pick (.t 89) (.c (.bool true)) (.t 97))⟩)])
  (.cond (.t 98) (.seq (.reg [⟨(some 2), none, .p (.mv (.c (.bool false)))⟩])
  .ret) .skip))))
  (.reg [⟨(some 70), none, .p (.mv (.t 10))⟩,
    ⟨(some 71), none, .p (.bin .add (.t 70) (.c (.int .i64 1)))⟩,
    ⟨(some 10), none, .p (.mv (.t 71))⟩])))))))))))
  (.reg [⟨(some 24), none, .p (.mv (.t 4))⟩,
    ⟨(some 25), none, .p (.bin .add (.t 24) (.c (.int .i64 1)))⟩,
    ⟨(some 4), none, .p (.mv (.t 25))⟩]))))))
  (.seq (.reg [⟨(some 99), none, .call 9 []⟩,
    ⟨(some 2), none, .p (.mv (.t 99))⟩])
  .ret))))))⟩
theorem c7 : compF Try.prog ⟨fun s => [84].contains s, fun r => match r with | 17 => [(0, .stable), (1, .stable), (2, .stable), (3, .grow), (4, .grow), (5, .grow), (6, .stable), (7, .stable), (8, .grow), (9, .grow), (10, .grow), (1000000, .loud), (11, .loud), (12, .stable), (13, .stable), (14, .stable), (15, .loud), (16, .loud), (17, .quiet), (1000001, .loud), (15, .loud), (11, .loud), (12, .stable), (13, .stable), (14, .stable), (16, .loud), (17, .quiet)]  | 18 => [(0, .quiet), (1, .quiet), (2, .quiet), (3, .quiet), (4, .quiet), (5, .quiet), (6, .quiet), (7, .quiet), (8, .quiet), (9, .quiet), (10, .quiet), (11, .quiet)] | _ => []⟩ Try.f7 = some a7 := by kernel_rfl

/- airline/airlinelaw45.awake -/
def a9 : AFun := ⟨84, [.tmp 0], (.seq (.reg [⟨(some 0), none, .p (.mv (.c (.bool false)))⟩])
  (.seq (.reg [⟨(some 10), none, .call 10 []⟩,
    ⟨(some 1), none, .p (.mv (.t 10))⟩])
  (.seq (.seq (.reg [⟨(some 11), none, .p (.mv (.t 1))⟩,
    ⟨(some 12), none, .p (.isNil 1 false (.t 11))⟩])
  (.cond (.t 12) (.seq (.reg [⟨(some 0), none, .p (.mv (.c (.bool false)))⟩])
  .ret) .skip))
  (.seq (.reg [⟨(some 13), none, .p (.mv (.t 1))⟩,
    ⟨(some 14), none, .p (.build [(.int .i64 0), (.int .i64 0), (.int .i64 0), (.int .i64 0)] [(0, 1, (.c (.int .i64 7))), (1, 1, (.c (.int .i64 1))), (2, 1, (.c (.int .i64 2))), (3, 1, (.c (.int .i64 1)))])⟩,
    ⟨(some 15), none, .call 23 [(.t 13), (.t 14)]⟩,
    ⟨(some 16), none, .p (.mv (.t 1))⟩,
    ⟨(some 17), none, .p (.build [(.int .i64 0), (.int .i64 0), (.int .i64 0), (.int .i64 0)] [(0, 1, (.c (.int .i64 7))), (1, 1, (.c (.int .i64 1))), (2, 1, (.c (.int .i64 2))), (3, 1, (.c (.int .i64 2)))])⟩,
    ⟨(some 18), none, .call 23 [(.t 16), (.t 17)]⟩,
    ⟨(some 2), none, .p (.mv (.t 15))⟩,
    ⟨(some 3), none, .p (.mv (.t 18))⟩])
  (.seq (.reg [⟨(some 20), none, .p (.mv (.t 1))⟩,
    ⟨(some 21), none, .call 24 [(.t 20), (.c (.int .i64 7)), (.c (.int .i64 1)), (.c (.int .i64 1))]⟩,
    ⟨(some 19), none, .p (.mv (.t 21))⟩,
    ⟨(some 22), none, .p (.ext 0 (.t 19))⟩,
    ⟨(some 23), none, .p (.ext 1 (.t 19))⟩,
    ⟨(some 4), none, .newO 29 [(.int .i64 0), (.int .i64 0), (.int .i64 0), (.int .i64 0)]⟩,
    ⟨none, none, .st 4 (.t 4) (.t 22)⟩,
    ⟨(some 5), none, .p (.mv (.t 23))⟩])
  (.seq (.reg [⟨(some 25), none, .p (.mv (.t 1))⟩,
    ⟨(some 26), none, .call 14 [(.t 25), (.c (.int .i64 7)), (.c (.int .i64 1))]⟩,
    ⟨(some 24), none, .p (.mv (.t 26))⟩,
    ⟨(some 27), none, .p (.ext 0 (.t 24))⟩,
    ⟨(some 28), none, .p (.ext 1 (.t 24))⟩,
    ⟨(some 6), none, .newO 29 [(.int .i64 0), (.int .i64 0), (.int .i64 0), (.int .i64 0)]⟩,
    ⟨none, none, .st 4 (.t 6) (.t 27)⟩,
    ⟨(some 7), none, .p (.mv (.t 28))⟩])
  (.seq (.reg [⟨(some 30), none, .p (.mv (.t 1))⟩,
    ⟨(some 31), none, .call 24 [(.t 30), (.c (.int .i64 7)), (.c (.int .i64 2)), (.c (.int .i64 1))]⟩,
    ⟨(some 29), none, .p (.mv (.t 31))⟩,
    ⟨(some 32), none, .p (.ext 0 (.t 29))⟩,
    ⟨(some 33), none, .p (.ext 1 (.t 29))⟩,
    ⟨(some 8), none, .newO 29 [(.int .i64 0), (.int .i64 0), (.int .i64 0), (.int .i64 0)]⟩,
    ⟨none, none, .st 4 (.t 8) (.t 32)⟩,
    ⟨(some 9), none, .p (.mv (.t 33))⟩])
  (.seq (.reg [⟨(some 34), none, .p (.mv (.t 2))⟩,
    ⟨(some 35), none, .p (.bin .eql (.t 34) (.c (.int .i64 0)))⟩,
    ⟨(some 36), none, .p (.mv (.t 35))⟩,
    ⟨(some 37), (some (36, true)), .p (.mv (.t 3))⟩,
    ⟨(some 38), (some (36, true)), .p (.bin .eql (.t 37) (.c (.int .i64 30)))⟩,
    ⟨(some 39), none, .p (.pick (.t 36) (.t 38) (.c (.bool false)))⟩,
    ⟨(some 40), none, .p (.mv (.t 39))⟩,
    ⟨(some 41), (some (40, true)), .p (.mv (.t 5))⟩,
    ⟨(some 42), (some (40, true)), .p (.bin .eql (.t 41) (.c (.int .i64 0)))⟩,
    ⟨(some 43), none, .p (.pick (.t 40) (.t 42) (.c (.bool false)))⟩,
    ⟨(some 44), none, .p (.mv (.t 43))⟩,
    ⟨(some 45), (some (44, true)), .p (.ldn 4 (.t 4))⟩,
    ⟨(some 46), (some (44, true)), .p (.build [(.int .i64 0), (.int .i64 0), (.int .i64 0), (.int .i64 0)] [(0, 1, (.c (.int .i64 7))), (1, 1, (.c (.int .i64 1))), (2, 1, (.c (.int .i64 3))), (3, 1, (.c (.int .i64 2)))])⟩,
    ⟨(some 47), (some (44, true)), .p (.xo (.eqA [(.int .i64), (.int .i64), (.int .i64), (.int .i64)] false) [(.t 45), (.t 46)])⟩,
    ⟨(some 48), none, .p (.pick (.t 44) (.t 47) (.c (.bool false)))⟩,
    ⟨(some 49), none, .p (.mv (.t 48))⟩,
    ⟨(some 50), (some (49, true)), .p (.mv (.t 7))⟩,
    ⟨(some 51), none, .p (.pick (.t 49) (.t 50) (.c (.bool false)))⟩,
    ⟨(some 52), none, .p (.mv (.t 51))⟩,
    ⟨(some 53), (some (52, true)), .p (.ldn 4 (.t 6))⟩,
    ⟨(some 54), (some (52, true)), .p (.ldn 4 (.t 4))⟩,
    ⟨(some 55), (some (52, true)), .p (.xo (.eqA [(.int .i64), (.int .i64), (.int .i64), (.int .i64)] false) [(.t 53), (.t 54)])⟩,
    ⟨(some 56), none, .p (.pick (.t 52) (.t 55) (.c (.bool false)))⟩,
    ⟨(some 57), none, .p (.mv (.t 56))⟩,
    ⟨(some 58), (some (57, true)), .p (.mv (.t 9))⟩,
    ⟨(some 59), (some (57, true)), .p (.bin .eql (.t 58) (.c (.int .i64 7)))⟩,
    ⟨(some 60), none, .p (.pick (.t 57) (.t 59) (.c (.bool false)))⟩,
    ⟨(some 61), none, .p (.mv (.t 60))⟩,
    ⟨(some 62), (some (61, true)), .p (.mv (.t 1))⟩,
    ⟨(some 63), (some (61, true)), .call 16 [(.t 62)]⟩,
    ⟨(some 64), (some (61, true)), .p (.bin .eql (.t 63) (.c (.int .i64 2)))⟩,
    ⟨(some 65), none, .p (.pick (.t 61) (.t 64) (.c (.bool false)))⟩,
    ⟨(some 66), none, .p (.mv (.t 65))⟩,
    ⟨(some 67), (some (66, true)), .p (.mv (.t 1))⟩,
    ⟨(some 68), (some (66, true)), .call 19 [(.t 67), (.c (.int .i64 1))]⟩,
    ⟨(some 69), (some (66, true)), .p (.lenA (.t 68))⟩,
    ⟨(some 70), (some (66, true)), .p (.bin .eql (.t 69) (.c (.int .i64 1)))⟩,
    ⟨(some 71), none, .p (.pick (.t 66) (.t 70) (.c (.bool false)))⟩,
    ⟨(some 72), none, .p (.mv (.t 71))⟩,
    ⟨(some 73), (some (72, true)), .p (.mv (.t 1))⟩,
    ⟨(some 74), (some (72, true)), .call 19 [(.t 73), (.c (.int .i64 2))]⟩,
    ⟨(some 75), (some (72, true)), .p (.lenA (.t 74))⟩,
    ⟨(some 76), (some (72, true)), .p (.bin .eql (.t 75) (.c (.int .i64 0)))⟩,
    ⟨(some 77), none, .p (.pick (.t 72) (.t 76) (.c (.bool false)))⟩,
    ⟨(some 78), none, .p (.mv (.t 77))⟩,
    ⟨(some 79), (some (78, true)), .p (.mv (.t 1))⟩,
    ⟨(some 80), (some (78, true)), .call 21 [(.t 79)]⟩,
    ⟨(some 81), (some (78, true)), .p (.lenA (.t 80))⟩,
    ⟨(some 82), (some (78, true)), .p (.bin .eql (.t 81) (.c (.int .i64 1)))⟩,
    ⟨(some 83), none, .p (.pick (.t 78) (.t 82) (.c (.bool false)))⟩,
    ⟨(some 0), none, .p (.mv (.t 83))⟩])
  .ret))))))))⟩
theorem c9 : compF Try.prog ⟨fun s => [].contains s, fun _ => []⟩ Try.f9 = some a9 := by kernel_rfl

/- airline/mirror.New -/
def a10 : AFun := ⟨6, [.tmp 0], (.seq (.reg [⟨(some 0), none, .p (.mv (.c .nilPtr))⟩])
  (.seq (.reg [⟨(some 1), none, .xs (.mkM (.st [(.int .i64), (.int .i64)])) []⟩,
    ⟨(some 2), none, .xs (.mkM (.one (.int .i64))) []⟩,
    ⟨(some 3), none, .xs (.mkM (.one (.int .i64))) []⟩,
    ⟨(some 4), none, .p (.build [.nilMap, .nilMap, .nilMap, (.int .i64 0)] [(0, 1, (.t 1)), (1, 1, (.t 2)), (2, 1, (.t 3))])⟩,
    ⟨(some 5), none, .boxO 50 (.t 4)⟩,
    ⟨(some 0), none, .p (.mv (.t 5))⟩])
  .ret))⟩
theorem c10 : compF Try.prog ⟨fun s => [5].contains s, fun _ => []⟩ Try.f10 = some a10 := by kernel_rfl

/- airline/airlineref45.New -/
def a11 : AFun := ⟨3, [.tmp 0], (.seq (.reg [⟨(some 0), none, .p (.mv (.c .nilPtr))⟩])
  (.seq (.reg [⟨(some 1), none, .p (.build [(.bool false), .nilSl, (.int .i64 0)] [(0, 1, (.c (.bool true)))])⟩,
    ⟨(some 2), none, .boxO 58 (.t 1)⟩,
    ⟨(some 0), none, .p (.mv (.t 2))⟩])
  .ret))⟩
theorem c11 : compF Try.prog ⟨fun s => [2].contains s, fun _ => []⟩ Try.f11 = some a11 := by kernel_rfl

/- airline/airlinelaw45.do -/
def a12 : AFun := ⟨27, [.cell 4 (some 4), .tmp 5], (.seq (.reg [⟨(some 3), none, .p (.boxI (.t 1))⟩,
    ⟨(some 4), none, .newO 29 [(.int .i64 0), (.int .i64 0), (.int .i64 0), (.int .i64 0)]⟩,
    ⟨(some 5), none, .p (.mv (.c (.int .i64 0)))⟩])
  (.seq (.seq (.reg [⟨(some 6), none, .p (.faddr 0 (.t 3))⟩,
    ⟨(some 7), none, .p (.ld1 (.t 6))⟩,
    ⟨(some 8), none, .p (.bin .rem (.t 7) (.c (.int .u8 2)))⟩,
    ⟨(some 9), none, .p (.bin .eql (.t 8) (.c (.int .u8 0)))⟩])
  (.cond (.t 9) (.seq (.reg [⟨(some 10), none, .p (.build [(.int .i64 0), (.int .i64 0), (.int .i64 0), (.int .i64 0)] [])⟩,
    ⟨(some 11), none, .p (.mv (.t 0))⟩,
    ⟨(some 12), none, .p (.faddr 1 (.t 3))⟩,
    ⟨(some 13), none, .p (.ldn 4 (.t 12))⟩,
    ⟨(some 14), none, .call 23 [(.t 11), (.t 13)]⟩,
    ⟨none, none, .st 4 (.t 4) (.t 10)⟩,
    ⟨(some 5), none, .p (.mv (.t 14))⟩])
  .ret) .skip))
  (.seq (.reg [⟨(some 15), none, .p (.mv (.t 0))⟩,
    ⟨(some 16), none, .p (.faddr 1 (.t 3))⟩,
    ⟨(some 17), none, .p (.faddr 0 (.t 16))⟩,
    ⟨(some 18), none, .p (.ld1 (.t 17))⟩,
    ⟨(some 19), none, .p (.faddr 1 (.t 3))⟩,
    ⟨(some 20), none, .p (.faddr 1 (.t 19))⟩,
    ⟨(some 21), none, .p (.ld1 (.t 20))⟩,
    ⟨(some 22), none, .p (.faddr 5 (.t 3))⟩,
    ⟨(some 23), none, .p (.ld1 (.t 22))⟩,
    ⟨(some 24), none, .call 24 [(.t 15), (.t 18), (.t 21), (.t 23)]⟩,
    ⟨(some 25), none, .p (.ext 0 (.t 24))⟩,
    ⟨(some 26), none, .p (.ext 1 (.t 24))⟩,
    ⟨none, none, .st 4 (.t 4) (.t 25)⟩,
    ⟨(some 5), none, .p (.mv (.t 26))⟩])
  .ret)))⟩
theorem c12 : compF Try.prog ⟨fun s => [].contains s, fun _ => []⟩ Try.f12 = some a12 := by kernel_rfl

/- airline/airlinelaw45.say -/
def a13 : AFun := ⟨27, [.cell 4 (some 4), .tmp 5], (.seq (.reg [⟨(some 3), none, .p (.boxI (.t 1))⟩,
    ⟨(some 4), none, .newO 29 [(.int .i64 0), (.int .i64 0), (.int .i64 0), (.int .i64 0)]⟩,
    ⟨(some 5), none, .p (.mv (.c (.int .i64 0)))⟩])
  (.seq (.seq (.reg [⟨(some 6), none, .p (.faddr 0 (.t 3))⟩,
    ⟨(some 7), none, .p (.ld1 (.t 6))⟩,
    ⟨(some 8), none, .p (.bin .rem (.t 7) (.c (.int .u8 2)))⟩,
    ⟨(some 9), none, .p (.bin .eql (.t 8) (.c (.int .u8 0)))⟩])
  (.cond (.t 9) (.seq (.reg [⟨(some 10), none, .p (.build [(.int .i64 0), (.int .i64 0), (.int .i64 0), (.int .i64 0)] [])⟩,
    ⟨(some 11), none, .p (.mv (.t 0))⟩,
    ⟨(some 12), none, .p (.faddr 1 (.t 3))⟩,
    ⟨(some 13), none, .p (.ldn 4 (.t 12))⟩,
    ⟨(some 14), none, .call 32 [(.t 11), (.t 13)]⟩,
    ⟨none, none, .st 4 (.t 4) (.t 10)⟩,
    ⟨(some 5), none, .p (.mv (.t 14))⟩])
  .ret) .skip))
  (.seq (.reg [⟨(some 15), none, .p (.mv (.t 0))⟩,
    ⟨(some 16), none, .p (.faddr 1 (.t 3))⟩,
    ⟨(some 17), none, .p (.faddr 0 (.t 16))⟩,
    ⟨(some 18), none, .p (.ld1 (.t 17))⟩,
    ⟨(some 19), none, .p (.faddr 1 (.t 3))⟩,
    ⟨(some 20), none, .p (.faddr 1 (.t 19))⟩,
    ⟨(some 21), none, .p (.ld1 (.t 20))⟩,
    ⟨(some 22), none, .p (.faddr 5 (.t 3))⟩,
    ⟨(some 23), none, .p (.ld1 (.t 22))⟩,
    ⟨(some 24), none, .call 33 [(.t 15), (.t 18), (.t 21), (.t 23)]⟩,
    ⟨(some 25), none, .p (.ext 0 (.t 24))⟩,
    ⟨(some 26), none, .p (.ext 1 (.t 24))⟩,
    ⟨none, none, .st 4 (.t 4) (.t 25)⟩,
    ⟨(some 5), none, .p (.mv (.t 26))⟩])
  .ret)))⟩
theorem c13 : compF Try.prog ⟨fun s => [].contains s, fun _ => []⟩ Try.f13 = some a13 := by kernel_rfl

/- (*airline/mirror.Mirror).Get -/
def a14 : AFun := ⟨28, [.cell 6 (some 4), .tmp 7], (.seq (.reg [⟨(some 6), none, .newO 29 [(.int .i64 0), (.int .i64 0), (.int .i64 0), (.int .i64 0)]⟩,
    ⟨(some 7), none, .p (.mv (.c (.bool false)))⟩])
  (.seq (.seq (.reg [⟨(some 10), none, .p (.mv (.t 0))⟩,
    ⟨(some 11), none, .call 34 [(.t 10)]⟩,
    ⟨(some 12), none, .p (.not (.t 11))⟩])
  (.cond (.t 12) (.seq (.reg [⟨(some 13), none, .p (.build [(.int .i64 0), (.int .i64 0), (.int .i64 0), (.int .i64 0)] [])⟩,
    ⟨none, none, .st 4 (.t 6) (.t 13)⟩,
    ⟨(some 7), none, .p (.mv (.c (.bool false)))⟩])
  .ret) .skip))
  (.seq (.reg [⟨(some 15), none, .p (.mv (.t 0))⟩,
    ⟨(some 16), none, .p (.nilChk (.t 15))⟩,
    ⟨(some 17), none, .p (.faddr 0 (.t 16))⟩,
    ⟨(some 18), none, .p (.ld1 (.t 17))⟩,
    ⟨(some 19), none, .p (.mv (.t 1))⟩,
    ⟨(some 20), none, .p (.mv (.t 2))⟩,
    ⟨(some 21), none, .p (.build [(.int .i64 0), (.int .i64 0)] [(0, 1, (.t 19)), (1, 1, (.t 20))])⟩,
    ⟨(some 22), none, .p (.xo (.lk (.st [(.int .i64), (.int .i64)]) (.agg [(.int .i64 0), (.int .i64 0), (.int .i64 0), (.int .i64 0), (.int .i64 0)]) true) [(.t 18), (.t 21)])⟩,
    ⟨(some 14), none, .p (.mv (.t 22))⟩,
    ⟨(some 23), none, .p (.ext 0 (.t 14))⟩,
    ⟨(some 24), none, .p (.ext 1 (.t 14))⟩,
    ⟨(some 8), none, .newO 60 [(.int .i64 0), (.int .i64 0), (.int .i64 0), (.int .i64 0), (.int .i64 0)]⟩,
    ⟨none, none, .st 5 (.t 8) (.t 23)⟩,
    ⟨(some 9), none, .p (.mv (.t 24))⟩])
  (.seq (.reg [⟨(some 25), none, .p (.faddr 0 (.t 8))⟩,
    ⟨(some 26), none, .p (.ldn 4 (.t 25))⟩,
    ⟨(some 27), none, .p (.mv (.t 9))⟩,
    ⟨none, none, .st 4 (.t 6) (.t 26)⟩,
    ⟨(some 7), none, .p (.mv (.t 27))⟩])
  .ret))))⟩
theorem c14 : compF Try.prog ⟨fun s => [].contains s, fun _ => []⟩ Try.f14 = some a14 := by kernel_rfl

/- (*airline/airlineref45.Mirror).Get -/
def a15 : AFun := ⟨24, [.cell 6 (some 4), .tmp 7], (.seq (.reg [⟨(some 6), none, .newO 29 [(.int .i64 0), (.int .i64 0), (.int .i64 0), (.int .i64 0)]⟩,
    ⟨(some 7), none, .p (.mv (.c (.bool false)))⟩])
  (.seq (.reg [⟨(some 9), none, .p (.mv (.t 0))⟩,
    ⟨(some 10), none, .p (.mv (.t 1))⟩,
    ⟨(some 11), none, .p (.mv (.t 2))⟩,
    ⟨(some 12), none, .call 35 [(.t 9), (.t 10), (.t 11)]⟩,
    ⟨(some 8), none, .p (.mv (.t 12))⟩])
  (.seq (.seq (.reg [⟨(some 13), none, .p (.mv (.t 8))⟩,
    ⟨(some 14), none, .p (.bin .lss (.t 13) (.c (.int .i64 0)))⟩])
  (.cond (.t 14) (.seq (.reg [⟨(some 15), none, .p (.build [(.int .i64 0), (.int .i64 0), (.int .i64 0), (.int .i64 0)] [])⟩,
    ⟨none, none, .st 4 (.t 6) (.t 15)⟩,
    ⟨(some 7), none, .p (.mv (.c (.bool false)))⟩])
  .ret) .skip))
  (.seq (.reg [⟨(some 16), none, .p (.mv (.t 0))⟩,
    ⟨(some 17), none, .p (.nilChk (.t 16))⟩,
    ⟨(some 18), none, .p (.faddr 1 (.t 17))⟩,
    ⟨(some 19), none, .p (.ld1 (.t 18))⟩,
    ⟨(some 20), none, .p (.mv (.t 8))⟩,
    ⟨(some 21), none, .p (.idxA 5 (.t 19) (.t 20))⟩,
    ⟨(some 22), none, .p (.faddr 0 (.t 21))⟩,
    ⟨(some 23), none, .p (.ldn 4 (.t 22))⟩,
    ⟨none, none, .st 4 (.t 6) (.t 23)⟩,
    ⟨(some 7), none, .p (.mv (.c (.bool true)))⟩])
  .ret))))⟩
theorem c15 : compF Try.prog ⟨fun s => [].contains s, fun _ => []⟩ Try.f15 = some a15 := by kernel_rfl

/- (*airline/mirror.Mirror).Changes -/
def a16 : AFun := ⟨10, [.tmp 2], (.seq (.reg [⟨(some 2), none, .p (.mv (.c (.int .i64 0)))⟩])
  (.seq (.seq (.reg [⟨(some 3), none, .p (.mv (.t 0))⟩,
    ⟨(some 4), none, .call 34 [(.t 3)]⟩,
    ⟨(some 5), none, .p (.not (.t 4))⟩])
  (.cond (.t 5) (.seq (.reg [⟨(some 2), none, .p (.mv (.c (.int .i64 0)))⟩])
  .ret) .skip))
  (.seq (.reg [⟨(some 6), none, .p (.mv (.t 0))⟩,
    ⟨(some 7), none, .p (.nilChk (.t 6))⟩,
    ⟨(some 8), none, .p (.faddr 3 (.t 7))⟩,
    ⟨(some 9), none, .p (.ld1 (.t 8))⟩,
    ⟨(some 2), none, .p (.mv (.t 9))⟩])
  .ret)))⟩
theorem c16 : compF Try.prog ⟨fun s => [].contains s, fun _ => []⟩ Try.f16 = some a16 := by kernel_rfl

/- (*airline/airlineref45.Mirror).Changes -/
def a17 : AFun := ⟨16, [.tmp 2], (.seq (.reg [⟨(some 2), none, .p (.mv (.c (.int .i64 0)))⟩])
  (.seq (.seq (.reg [⟨(some 3), none, .p (.mv (.t 0))⟩,
    ⟨(some 4), none, .p (.isNil 1 false (.t 3))⟩,
    ⟨(some 5), none, .p (.mv (.t 4))⟩,
    ⟨(some 6), (some (5, false)), .p (.mv (.t 0))⟩,
    ⟨(some 7), (some (5, false)), .p (.nilChk (.t 6))⟩,
    ⟨(some 8), (some (5, false)), .p (.faddr 0 (.t 7))⟩,
    ⟨(some 9), (some (5, false)), .p (.ld1 (.t 8))⟩,
    ⟨(some 10), (some (5, false)), .p (.not (.t 9))⟩,
    ⟨(some 11), none, .p (.pick (.t 5) (.c (.bool true)) (.t 10))⟩])
  (.cond (.t 11) (.seq (.reg [⟨(some 2), none, .p (.mv (.c (.int .i64 0)))⟩])
  .ret) .skip))
  (.seq (.reg [⟨(some 12), none, .p (.mv (.t 0))⟩,
    ⟨(some 13), none, .p (.nilChk (.t 12))⟩,
    ⟨(some 14), none, .p (.faddr 2 (.t 13))⟩,
    ⟨(some 15), none, .p (.ld1 (.t 14))⟩,
    ⟨(some 2), none, .p (.mv (.t 15))⟩])
  .ret)))⟩
theorem c17 : compF Try.prog ⟨fun s => [].contains s, fun _ => []⟩ Try.f17 = some a17 := by kernel_rfl

/- airline/airlinelaw45.same -/
def a18 : AFun := ⟨26, [.tmp 4], (.seq (.reg [⟨(some 4), none, .p (.mv (.c (.bool false)))⟩])
  (.seq (.seq (.reg [⟨(some 6), none, .p (.mv (.t 0))⟩,
    ⟨(some 7), none, .p (.lenA (.t 6))⟩,
    ⟨(some 8), none, .p (.mv (.t 1))⟩,
    ⟨(some 9), none, .p (.lenA (.t 8))⟩,
    ⟨(some 10), none, .p (.bin .neq (.t 7) (.t 9))⟩])
  (.cond (.t 10) (.seq (.reg [⟨(some 4), none, .p (.mv (.c (.bool false)))⟩])
  .ret) .skip))
  (.seq (.seq (.reg [⟨(some 5), none, .p (.mv (.c (.int .i64 0)))⟩])
  (.block 0 (.loop (.seq (.seq (.reg [⟨(some 11), none, .p (.mv (.t 5))⟩,
    ⟨(some 12), none, .p (.mv (.t 0))⟩,
    ⟨(some 13), none, .p (.lenA (.t 12))⟩,
    ⟨(some 14), none, .p (.bin .lss (.t 11) (.t 13))⟩])
  (.cond (.t 14) .skip (.exit 0)))
  (.seq (.block 1 (.seq (.oreg [(.quiet, ⟨(some 17), none, .p (.mv (.t 0))⟩),
    (.quiet, ⟨(some 18), none, .p (.mv (.t 5))⟩),
    (.quiet, ⟨(some 19), none, .p (.idxA 4 (.t 17) (.t 18))⟩),
    (.quiet, ⟨(some 20), none, .p (.ldn 4 (.t 19))⟩),
    (.quiet, ⟨(some 21), none, .p (.mv (.t 1))⟩),
    (.quiet, ⟨(some 22), none, .p (.mv (.t 5))⟩),
    (.quiet, ⟨(some 23), none, .p (.idxA 4 (.t 21) (.t 22))⟩),
    (.quiet, ⟨(some 24), none, .p (.ldn 4 (.t 23))⟩),
    (.quiet, ⟨(some 25), none, .p (.xo (.eqA [(.int .i64), (.int .i64), (.int .i64), (.int .i64)] true) [(.t 20), (.t 24)])⟩)])
  (.cond (.t 25) (.seq (.reg [⟨(some 4), none, .p (.mv (.c (.bool false)))⟩])
  .ret) .skip)))
  (.reg [⟨(some 15), none, .p (.mv (.t 5))⟩,
    ⟨(some 16), none, .p (.bin .add (.t 15) (.c (.int .i64 1)))⟩,
    ⟨(some 5), none, .p (.mv (.t 16))⟩]))))))
  (.seq (.reg [⟨(some 4), none, .p (.mv (.c (.bool true)))⟩])
  .ret))))⟩
theorem c18 : compF Try.prog ⟨fun s => [].contains s, fun r => match r with | 6 => [(0, .quiet), (1, .quiet), (2, .quiet), (3, .quiet), (4, .quiet), (5, .quiet), (6, .quiet), (7, .quiet), (8, .quiet)] | _ => []⟩ Try.f18 = some a18 := by kernel_rfl

/- (*airline/mirror.Mirror).Since -/
def a19 : AFun := ⟨71, [.tmp 4], (.seq (.reg [⟨(some 4), none, .p (.mv (.c .nilSl))⟩])
  (.seq (.seq (.reg [⟨(some 11), none, .p (.mv (.t 0))⟩,
    ⟨(some 12), none, .call 34 [(.t 11)]⟩,
    ⟨(some 13), none, .p (.not (.t 12))⟩])
  (.cond (.t 13) (.seq (.reg [⟨(some 4), none, .p (.mv (.c .nilSl))⟩])
  .ret) .skip))
  (.seq (.reg [⟨(some 14), none, .p (.mv (.t 1))⟩,
    ⟨(some 15), none, .p (.minmax false (.t 14) (.c (.int .i64 0)))⟩,
    ⟨(some 16), none, .p (.mv (.t 0))⟩,
    ⟨(some 17), none, .p (.nilChk (.t 16))⟩,
    ⟨(some 18), none, .p (.faddr 3 (.t 17))⟩,
    ⟨(some 19), none, .p (.ld1 (.t 18))⟩,
    ⟨(some 20), none, .p (.minmax true (.t 15) (.t 19))⟩,
    ⟨(some 1), none, .p (.mv (.t 20))⟩])
  (.seq (.seq (.reg [⟨(some 22), none, .p (.mv (.t 0))⟩,
    ⟨(some 23), none, .p (.nilChk (.t 22))⟩,
    ⟨(some 24), none, .p (.faddr 2 (.t 23))⟩,
    ⟨(some 25), none, .p (.ld1 (.t 24))⟩,
    ⟨(some 26), none, .p (.mv (.t 1))⟩,
    ⟨(some 27), none, .p (.xo (.lk (.one (.int .i64)) .nilSl true) [(.t 25), (.t 26)])⟩,
    ⟨(some 21), none, .p (.mv (.t 27))⟩,
    ⟨(some 28), none, .p (.ext 0 (.t 21))⟩,
    ⟨(some 29), none, .p (.ext 1 (.t 21))⟩,
    ⟨(some 5), none, .p (.mv (.t 28))⟩,
    ⟨(some 6), none, .p (.mv (.t 29))⟩])
  (.seq (.reg [⟨(some 30), none, .p (.mv (.t 6))⟩])
  (.cond (.t 30) (.seq (.reg [⟨(some 31), none, .p (.mv (.t 5))⟩,
    ⟨(some 32), none, .call 36 [(.t 31)]⟩,
    ⟨(some 4), none, .p (.mv (.t 32))⟩])
  .ret) .skip)))
  (.seq (.reg [⟨(some 7), none, .p (.mv (.c .nilSl))⟩])
  (.seq (.seq (.reg [⟨(some 33), none, .p (.mv (.t 1))⟩,
    ⟨(some 34), none, .p (.bin .add (.t 33) (.c (.int .i64 1)))⟩,
    ⟨(some 8), none, .p (.mv (.t 34))⟩])
  (.block 0 (.loop (.seq (.seq (.reg [⟨(some 35), none, .p (.mv (.t 8))⟩,
    ⟨(some 36), none, .p (.mv (.t 0))⟩,
    ⟨(some 37), none, .p (.nilChk (.t 36))⟩,
    ⟨(some 38), none, .p (.faddr 3 (.t 37))⟩,
    ⟨(some 39), none, .p (.ld1 (.t 38))⟩,
    ⟨(some 40), none, .p (.bin .leq (.t 35) (.t 39))⟩])
  (.cond (.t 40) .skip (.exit 0)))
  (.seq (.block 1 (.seq (.reg [⟨(some 44), none, .p (.mv (.t 0))⟩,
    ⟨(some 45), none, .p (.nilChk (.t 44))⟩,
    ⟨(some 46), none, .p (.faddr 1 (.t 45))⟩,
    ⟨(some 47), none, .p (.ld1 (.t 46))⟩,
    ⟨(some 48), none, .p (.mv (.t 8))⟩,
    ⟨(some 49), none, .p (.xo (.lk (.one (.int .i64)) (.agg [(.int .i64 0), (.int .i64 0)]) true) [(.t 47), (.t 48)])⟩,
    ⟨(some 43), none, .p (.mv (.t 49))⟩,
    ⟨(some 50), none, .p (.ext 0 (.t 43))⟩,
    ⟨(some 51), none, .p (.ext 1 (.t 43))⟩,
    ⟨(some 9), none, .newO 63 [(.int .i64 0), (.int .i64 0)]⟩,
    ⟨none, none, .st 2 (.t 9) (.t 50)⟩,
    ⟨(some 10), none, .p (.mv (.t 51))⟩])
  (.seq (.reg [⟨(some 52), none, .p (.mv (.t 10))⟩])
  (.cond (.t 52) (.oreg [(.quiet, ⟨(some 53), none, .p (.mv (.t 7))⟩),
    (.quiet, ⟨(some 54), none, .p (.mv (.t 0))⟩),
    (.quiet, ⟨(some 55), none, .p (.nilChk (.t 54))⟩),
    (.quiet, ⟨(some 56), none, .p (.faddr 0 (.t 55))⟩),
    (.quiet, ⟨(some 57), none, .p (.ld1 (.t 56))⟩),
    (.quiet, ⟨(some 58), none, .p (.ldn 2 (.t 9))⟩),
    (.quiet, ⟨(some 59), none, .p (.xo (.lk (.st [(.int .i64), (.int .i64)]) (.agg [(.int .i64 0), (.int .i64 0), (.int .i64 0), (.int .i64 0), (.int .i64 0)]) false) [(.t 57), (.t 58)])⟩),
    (.quiet, ⟨(some 60), none, .p (.fldn 0 4 (.t 59))⟩),
    (.quiet, ⟨(some 61), none, .p (.bsl 4 [(.int .i64 0), (.int .i64 0), (.int .i64 0), (.int .i64 0)] 1 [(0, (.t 60))])⟩),
    (.loud, ⟨(some 62), none, .app 29 4 (.t 53) (.t 61)⟩),
    (.quiet, ⟨(some 7), none, .p (.mv (.t 62))⟩)]) .skip))))
  (.reg [⟨(some 41), none, .p (.mv (.t 8))⟩,
    ⟨(some 42), none, .p (.bin .add (.t 41) (.c (.int .i64 1)))⟩,
    ⟨(some 8), none, .p (.mv (.t 42))⟩]))))))
  (.seq (.reg [⟨(some 63), none, .p (.mv (.t 0))⟩,
    ⟨(some 64), none, .p (.nilChk (.t 63))⟩,
    ⟨(some 65), none, .p (.faddr 2 (.t 64))⟩,
    ⟨(some 66), none, .p (.ld1 (.t 65))⟩,
    ⟨(some 67), none, .p (.mv (.t 1))⟩,
    ⟨(some 68), none, .p (.mv (.t 7))⟩,
    ⟨none, none, .xs (.mu (.one (.int .i64))) [(.t 66), (.t 67), (.t 68)]⟩])
  (.seq (.reg [⟨(some 69), none, .p (.mv (.t 7))⟩,
    ⟨(some 70), none, .call 36 [(.t 69)]⟩,
    ⟨(some 4), none, .p (.mv (.t 70))⟩])
  .ret))))))))⟩
theorem c19 : compF Try.prog ⟨fun s => [].contains s, fun r => match r with | 13 => [(0, .quiet), (1, .quiet), (2, .quiet), (3, .quiet), (4, .quiet), (5, .quiet), (6, .quiet), (7, .quiet), (8, .quiet), (9, .loud), (10, .quiet)] | _ => []⟩ Try.f19 = some a19 := by kernel_rfl

/- (*airline/airlineref45.Mirror).Since -/
def a20 : AFun := ⟨62, [.tmp 4], (.seq (.reg [⟨(some 4), none, .p (.mv (.c .nilSl))⟩])
  (.seq (.reg [⟨(some 5), none, .p (.mv (.c .nilSl))⟩])
  (.seq (.seq (.reg [⟨(some 6), none, .p (.mv (.c (.int .i64 1)))⟩])
  (.block 0 (.loop (.seq (.seq (.reg [⟨(some 8), none, .p (.mv (.t 0))⟩,
    ⟨(some 9), none, .p (.isNil 1 true (.t 8))⟩,
    ⟨(some 10), none, .p (.mv (.t 9))⟩,
    ⟨(some 11), (some (10, true)), .p (.mv (.t 0))⟩,
    ⟨(some 12), (some (10, true)), .p (.nilChk (.t 11))⟩,
    ⟨(some 13), (some (10, true)), .p (.faddr 0 (.t 12))⟩,
    ⟨(some 14), (some (10, true)), .p (.ld1 (.t 13))⟩,
    ⟨(some 15), none, .p (.pick (.t 10) (.t 14) (.c (.bool false)))⟩,
    ⟨(some 16), none, .p (.mv (.t 15))⟩,
    ⟨(some 17), (some (16, true)), .p (.mv (.t 6))⟩,
    ⟨(some 18), (some (16, true)), .p (.mv (.t 0))⟩,
    ⟨(some 19), (some (16, true)), .p (.nilChk (.t 18))⟩,
    ⟨(some 20), (some (16, true)), .p (.faddr 2 (.t 19))⟩,
    ⟨(some 21), (some (16, true)), .p (.ld1 (.t 20))⟩,
    ⟨(some 22), (some (16, true)), .p (.bin .leq (.t 17) (.t 21))⟩,
    ⟨(some 23), none, .p (.pick (.t 16) (.t 22) (.c (.bool false)))⟩])
  (.cond (.t 23) .skip (.exit 0)))
  (.seq (.block 1 (.seq (.reg [⟨(some 7), none, .p (.mv (.c (.int .i64 0)))⟩])
  (.block 2 (.loop (.seq (.seq (.reg [⟨(some 26), none, .p (.mv (.t 7))⟩,
    ⟨(some 27), none, .p (.mv (.t 0))⟩,
    ⟨(some 28), none, .p (.nilChk (.t 27))⟩,
    ⟨(some 29), none, .p (.faddr 1 (.t 28))⟩,
    ⟨(some 30), none, .p (.ld1 (.t 29))⟩,
    ⟨(some 31), none, .p (.lenA (.t 30))⟩,
    ⟨(some 32), none, .p (.bin .lss (.t 26) (.t 31))⟩])
  (.cond (.t 32) .skip (.exit 2)))
  (.seq (.block 3 (.seq (.reg [⟨(some 35), none, .p (.mv (.t 0))⟩,
    ⟨(some 36), none, .p (.nilChk (.t 35))⟩,
    ⟨(some 37), none, .p (.faddr 1 (.t 36))⟩,
    ⟨(some 38), none, .p (.ld1 (.t 37))⟩,
    ⟨(some 39), none, .p (.mv (.t 7))⟩,
    ⟨(some 40), none, .p (.idxA 5 (.t 38) (.t 39))⟩,
    ⟨(some 41), none, .p (.faddr 4 (.t 40))⟩,
    ⟨(some 42), none, .p (.ld1 (.t 41))⟩,
    ⟨(some 43), none, .p (.mv (.t 6))⟩,
    ⟨(some 44), none, .p (.bin .eql (.t 42) (.t 43))⟩,
    ⟨(some 45), none, .p (.mv (.t 44))⟩,
    ⟨(some 46), (some (45, true)), .p (.mv (.t 6))⟩,
    ⟨(some 47), (some (45, true)), .p (.mv (.t 1))⟩,
    ⟨(some 48), (some (45, true)), .p (.bin .gtr (.t 46) (.t 47))⟩,
    ⟨(some 49), none, .p (.pick (.t 45) (.t 48) (.c (.bool false)))⟩])
  (.cond (.t 49) (.reg [⟨(some 50), none, .p (.mv (.t 5))⟩,
    ⟨(some 51), none, .p (.mv (.t 0))⟩,
    ⟨(some 52), none, .p (.nilChk (.t 51))⟩,
    ⟨(some 53), none, .p (.faddr 1 (.t 52))⟩,
    ⟨(some 54), none, .p (.ld1 (.t 53))⟩,
    ⟨(some 55), none, .p (.mv (.t 7))⟩,
    ⟨(some 56), none, .p (.idxA 5 (.t 54) (.t 55))⟩,
    ⟨(some 57), none, .p (.faddr 0 (.t 56))⟩,
    ⟨(some 58), none, .p (.ldn 4 (.t 57))⟩,
    ⟨(some 59), none, .p (.bsl 4 [(.int .i64 0), (.int .i64 0), (.int .i64 0), (.int .i64 0)] 1 [(0, (.t 58))])⟩,
    ⟨(some 60), none, .app 29 4 (.t 50) (.t 59)⟩,
    ⟨(some 5), none, .p (.mv (.t 60))⟩]) .skip)))
  (.reg [⟨(some 33), none, .p (.mv (.t 7))⟩,
    ⟨(some 34), none, .p (.bin .add (.t 33) (.c (.int .i64 1)))⟩,
    ⟨(some 7), none, .p (.mv (.t 34))⟩])))))))
  (.reg [⟨(some 24), none, .p (.mv (.t 6))⟩,
    ⟨(some 25), none, .p (.bin .add (.t 24) (.c (.int .i64 1)))⟩,
    ⟨(some 6), none, .p (.mv (.t 25))⟩]))))))
  (.seq (.reg [⟨(some 61), none, .p (.mv (.t 5))⟩,
    ⟨(some 4), none, .p (.mv (.t 61))⟩])
  .ret))))⟩
theorem c20 : compF Try.prog ⟨fun s => [].contains s, fun _ => []⟩ Try.f20 = some a20 := by kernel_rfl

/- (*airline/mirror.Mirror).All -/
def a21 : AFun := ⟨26, [.tmp 2], (.seq (.reg [⟨(some 2), none, .p (.mv (.c .nilSl))⟩])
  (.seq (.seq (.reg [⟨(some 6), none, .p (.mv (.t 0))⟩,
    ⟨(some 7), none, .call 34 [(.t 6)]⟩,
    ⟨(some 8), none, .p (.not (.t 7))⟩])
  (.cond (.t 8) (.seq (.reg [⟨(some 2), none, .p (.mv (.c .nilSl))⟩])
  .ret) .skip))
  (.seq (.reg [⟨(some 3), none, .p (.mv (.c .nilSl))⟩])
  (.seq (.seq (.reg [⟨(some 9), none, .p (.mv (.t 0))⟩,
    ⟨(some 10), none, .p (.nilChk (.t 9))⟩,
    ⟨(some 11), none, .p (.faddr 0 (.t 10))⟩,
    ⟨(some 12), none, .p (.ld1 (.t 11))⟩,
    ⟨(some 13), none, .xs .range [(.t 12)]⟩])
  (.block 0 (.loop (.seq (.reg [⟨(some 14), none, .xs .next [(.t 13)]⟩,
    ⟨(some 15), none, .p (.ext 0 (.t 14))⟩])
  (.seq (.cond (.t 15) .skip (.exit 0))
  (.block 1 (.seq (.reg [⟨(some 16), none, .p (.xo .ent [(.t 13)])⟩,
    ⟨(some 17), none, .p (.ext 1 (.t 16))⟩,
    ⟨(some 5), none, .newO 60 [(.int .i64 0), (.int .i64 0), (.int .i64 0), (.int .i64 0), (.int .i64 0)]⟩,
    ⟨none, none, .st 5 (.t 5) (.t 17)⟩])
  (.reg [⟨(some 18), none, .p (.mv (.t 3))⟩,
    ⟨(some 19), none, .p (.faddr 0 (.t 5))⟩,
    ⟨(some 20), none, .p (.ldn 4 (.t 19))⟩,
    ⟨(some 21), none, .p (.bsl 4 [(.int .i64 0), (.int .i64 0), (.int .i64 0), (.int .i64 0)] 1 [(0, (.t 20))])⟩,
    ⟨(some 22), none, .app 29 4 (.t 18) (.t 21)⟩,
    ⟨(some 3), none, .p (.mv (.t 22))⟩]))))))))
  (.seq (.reg [⟨(some 23), none, .p (.mv (.t 3))⟩,
    ⟨(some 24), none, .call 37 [(.t 23), (.c (.func 38 [] []))]⟩])
  (.seq (.reg [⟨(some 25), none, .p (.mv (.t 3))⟩,
    ⟨(some 2), none, .p (.mv (.t 25))⟩])
  .ret))))))⟩
theorem c21 : compF Try.prog ⟨fun s => [].contains s, fun _ => []⟩ Try.f21 = some a21 := by kernel_rfl

/- (*airline/airlineref45.Mirror).All -/
def a22 : AFun := ⟨84, [.tmp 2], (.seq (.reg [⟨(some 2), none, .p (.mv (.c .nilSl))⟩])
  (.seq (.reg [⟨(some 3), none, .p (.mv (.c .nilSl))⟩])
  (.seq (.seq (.reg [⟨(some 4), none, .p (.mv (.c (.int .i64 0)))⟩])
  (.block 0 (.loop (.seq (.seq (.reg [⟨(some 8), none, .p (.mv (.t 0))⟩,
    ⟨(some 9), none, .p (.isNil 1 true (.t 8))⟩,
    ⟨(some 10), none, .p (.mv (.t 9))⟩,
    ⟨(some 11), (some (10, true)), .p (.mv (.t 0))⟩,
    ⟨(some 12), (some (10, true)), .p (.nilChk (.t 11))⟩,
    ⟨(some 13), (some (10, true)), .p (.faddr 0 (.t 12))⟩,
    ⟨(some 14), (some (10, true)), .p (.ld1 (.t 13))⟩,
    ⟨(some 15), none, .p (.pick (.t 10) (.t 14) (.c (.bool false)))⟩,
    ⟨(some 16), none, .p (.mv (.t 15))⟩,
    ⟨(some 17), (some (16, true)), .p (.mv (.t 4))⟩,
    ⟨(some 18), (some (16, true)), .p (.mv (.t 0))⟩,
    ⟨(some 19), (some (16, true)), .p (.nilChk (.t 18))⟩,
    ⟨(some 20), (some (16, true)), .p (.faddr 1 (.t 19))⟩,
    ⟨(some 21), (some (16, true)), .p (.ld1 (.t 20))⟩,
    ⟨(some 22), (some (16, true)), .p (.lenA (.t 21))⟩,
    ⟨(some 23), (some (16, true)), .p (.bin .lss (.t 17) (.t 22))⟩,
    ⟨(some 24), none, .p (.pick (.t 16) (.t 23) (.c (.bool false)))⟩])
  (.cond (.t 24) .skip (.exit 0)))
  (.seq (.block 1 (.seq (.reg [⟨(some 27), none, .p (.mv (.t 0))⟩,
    ⟨(some 28), none, .p (.nilChk (.t 27))⟩,
    ⟨(some 29), none, .p (.faddr 1 (.t 28))⟩,
    ⟨(some 30), none, .p (.ld1 (.t 29))⟩,
    ⟨(some 31), none, .p (.mv (.t 4))⟩,
    ⟨(some 32), none, .p (.idxA 5 (.t 30) (.t 31))⟩,
    ⟨(some 33), none, .p (.faddr 0 (.t 32))⟩,
    ⟨(some 34), none, .p (.ldn 4 (.t 33))⟩,
    ⟨(some 5), none, .newO 29 [(.int .i64 0), (.int .i64 0), (.int .i64 0), (.int .i64 0)]⟩,
    ⟨none, none, .st 4 (.t 5) (.t 34)⟩,
    ⟨(some 6), none, .p (.mv (.c (.int .i64 0)))⟩])
  (.seq (.block 2 (.loop (.seq (.seq (.oreg [(.quiet, ⟨(some 35), none, .p (.mv (.t 6))⟩),
    (.quiet, ⟨(some 36), none, .p (.mv (.t 3))⟩),
    (.quiet, ⟨(some 37), none, .p (.lenA (.t 36))⟩),
    (.quiet, ⟨(some 38), none, .p (.bin .lss (.t 35) (.t 37))⟩),
    (.quiet, ⟨(some 39), none, .p (.mv (.t 38))⟩),
    (.quiet, ⟨(some 40), (some (39, true)), .p (.mv (.t 3))⟩),
    (.quiet, ⟨(some 41), (some (39, true)), .p (.mv (.t 6))⟩),
    (.quiet, ⟨(some 42), (some (39, true)), .p (.idxA 4 (.t 40) (.t 41))⟩),
    (.quiet, ⟨(some 43), (some (39, true)), .p (.faddr 0 (.t 42))⟩),
    (.quiet, ⟨(some 44), (some (39, true)), .p (.ld1 (.t 43))⟩),
    (.quiet, ⟨(some 45), (some (39, true)), .p (.faddr 0 (.t 5))⟩),
    (.quiet, ⟨(some 46), (some (39, true)), .p (.ld1 (.t 45))⟩),
    (.quiet, ⟨(some 47), (some (39, true)), .p (.bin .lss (.t 44) (.t 46))⟩),
    (.quiet, ⟨(some 48), (some (39, true)), .p (.mv (.t 47))⟩),
    (.quiet, ⟨(some 49), (some (48, false)), .p (.mv (.t 3))⟩),
    (.quiet, ⟨(some 50), (some (48, false)), .p (.mv (.t 6))⟩),
    (.quiet, ⟨(some 51), (some (48, false)), .p (.idxA 4 (.t 49) (.t 50))⟩),
    (.quiet, ⟨(some 52), (some (48, false)), .p (.faddr 0 (.t 51))⟩),
    (.quiet, ⟨(some 53), (some (48, false)), .p (.ld1 (.t 52))⟩),
    (.quiet, ⟨(some 54), (some (48, false)), .p (.faddr 0 (.t 5))⟩),
    (.quiet, ⟨(some 55), (some (48, false)), .p (.ld1 (.t 54))⟩),
    (.quiet, ⟨(some 56), (some (48, false)), .p (.bin .eql (.t 53) (.t 55))⟩),
    (.quiet, ⟨(some 57), (some (48, false)), .p (.mv (.t 56))⟩),
    (.quiet, ⟨(some 58), (some (57, true)), .p (.mv (.t 3))⟩),
    (.quiet, ⟨(some 59), (some (57, true)), .p (.mv (.t 6))⟩),
    (.quiet, ⟨(some 60), (some (57, true)), .p (.idxA 4 (.t 58) (.t 59))⟩),
    (.quiet, ⟨(some 61), (some (57, true)), .p (.faddr 1 (.t 60))⟩),
    (.quiet, ⟨(some 62), (some (57, true)), .p (.ld1 (.t 61))⟩),
    (.quiet, ⟨(some 63), (some (57, true)), .p (.faddr 1 (.t 5))⟩),
    (.quiet, ⟨(some 64), (some (57, true)), .p (.ld1 (.t 63))⟩),
    (.quiet, ⟨(some 65), (some (57, true)), .p (.bin .lss (.t 62) (.t 64))⟩),
    (.quiet, ⟨(some 66), (some (48, false)), .p (.pick (.t 57) (.t 65) (.c (.bool false)))⟩),
    (.quiet, ⟨(some 67), (some (39, true)), .p (.pick (.t 48) (.c (.bool true)) (.t 66))⟩),
    (.quiet, ⟨(some 68), none, .p (.pick (.t 39) (.t 67) (.c (.bool false)))⟩)])
  (.cond (.t 68) .skip (.exit 2)))
  (.block 3 (.reg [⟨(some 69), none, .p (.mv (.t 6))⟩,
    ⟨(some 70), none, .p (.bin .add (.t 69) (.c (.int .i64 1)))⟩,
    ⟨(some 6), none, .p (.mv (.t 70))⟩])))))
  (.seq (.oreg [(.quiet, ⟨(some 71), none, .p (.ldn 4 (.t 5))⟩),
    (.stable, ⟨(some 73), none, .p (.mv (.t 3))⟩),
    (.stable, ⟨(some 74), none, .p (.mv (.t 6))⟩),
    (.grow, ⟨(some 75), none, .p (.slA 4 (.t 73) (some (.t 74)) none)⟩),
    (.loud, ⟨(some 72), none, .bslO 29 4 [(.int .i64 0), (.int .i64 0), (.int .i64 0), (.int .i64 0)] 1 [(0, (.t 71))]⟩),
    (.loud, ⟨(some 76), none, .app 29 4 (.t 72) (.t 75)⟩),
    (.quiet, ⟨(some 7), none, .p (.mv (.t 76))⟩)])
  (.reg [⟨(some 77), none, .p (.mv (.t 3))⟩,
    ⟨(some 78), none, .p (.mv (.t 6))⟩,
    ⟨(some 79), none, .p (.mv (.t 6))⟩,
    ⟨(some 80), none, .xs (.clip 4) [(.t 77), (.t 78), (.t 79)]⟩,
    ⟨(some 81), none, .p (.mv (.t 7))⟩,
    ⟨(some 82), none, .app 29 4 (.t 80) (.t 81)⟩,
    ⟨(some 3), none, .p (.mv (.t 82))⟩])))))
  (.reg [⟨(some 25), none, .p (.mv (.t 4))⟩,
    ⟨(some 26), none, .p (.bin .add (.t 25) (.c (.int .i64 1)))⟩,
    ⟨(some 4), none, .p (.mv (.t 26))⟩]))))))
  (.seq (.reg [⟨(some 83), none, .p (.mv (.t 3))⟩,
    ⟨(some 2), none, .p (.mv (.t 83))⟩])
  .ret))))⟩
theorem c22 : compF Try.prog ⟨fun s => [72, 80].contains s, fun r => match r with | 6 => [(0, .quiet), (1, .quiet), (2, .quiet), (3, .quiet), (4, .quiet), (5, .quiet), (6, .quiet), (7, .quiet), (8, .quiet), (9, .quiet), (10, .quiet), (11, .quiet), (12, .quiet), (13, .quiet), (14, .quiet), (15, .quiet), (16, .quiet), (17, .quiet), (18, .quiet), (19, .quiet), (20, .quiet), (21, .quiet), (22, .quiet), (23, .quiet), (24, .quiet), (25, .quiet), (26, .quiet), (27, .quiet), (28, .quiet), (29, .quiet), (30, .quiet), (31, .quiet), (32, .quiet), (33, .quiet)]  | 8 => [(0, .quiet), (2, .stable), (3, .stable), (4, .grow), (1, .loud), (5, .loud), (6, .quiet)] | _ => []⟩ Try.f22 = some a22 := by kernel_rfl

/- (*airline/mirror.Mirror).Put -/
def a23 : AFun := ⟨48, [.tmp 4], (.seq (.reg [⟨(some 3), none, .p (.boxI (.t 1))⟩,
    ⟨(some 4), none, .p (.mv (.c (.int .i64 0)))⟩])
  (.seq (.seq (.reg [⟨(some 7), none, .p (.mv (.t 0))⟩,
    ⟨(some 8), none, .call 34 [(.t 7)]⟩,
    ⟨(some 9), none, .p (.not (.t 8))⟩])
  (.cond (.t 9) (.seq (.reg [⟨(some 4), none, .p (.mv (.c (.int .i64 1)))⟩])
  .ret) .skip))
  (.seq (.seq (.reg [⟨(some 10), none, .p (.faddr 2 (.t 3))⟩,
    ⟨(some 11), none, .p (.ld1 (.t 10))⟩,
    ⟨(some 12), none, .p (.bin .lss (.t 11) (.c (.int .i64 1)))⟩,
    ⟨(some 13), none, .p (.mv (.t 12))⟩,
    ⟨(some 14), (some (13, false)), .p (.faddr 3 (.t 3))⟩,
    ⟨(some 15), (some (13, false)), .p (.ld1 (.t 14))⟩,
    ⟨(some 16), (some (13, false)), .p (.bin .lss (.t 15) (.c (.int .i64 1)))⟩,
    ⟨(some 17), none, .p (.pick (.t 13) (.c (.bool true)) (.t 16))⟩,
    ⟨(some 18), none, .p (.mv (.t 17))⟩,
    ⟨(some 19), (some (18, false)), .p (.faddr 3 (.t 3))⟩,
    ⟨(some 20), (some (18, false)), .p (.ld1 (.t 19))⟩,
    ⟨(some 21), (some (18, false)), .p (.bin .gtr (.t 20) (.c (.int .i64 8)))⟩,
    ⟨(some 22), none, .p (.pick (.t 18) (.c (.bool true)) (.t 21))⟩])
  (.cond (.t 22) (.seq (.reg [⟨(some 4), none, .p (.mv (.c (.int .i64 2)))⟩])
  .ret) .skip))
  (.seq (.seq (.oreg [(.stable, ⟨(some 24), none, .p (.mv (.t 0))⟩),
    (.grow, ⟨(some 25), none, .p (.nilChk (.t 24))⟩),
    (.grow, ⟨(some 26), none, .p (.faddr 0 (.t 25))⟩),
    (.grow, ⟨(some 27), none, .p (.ld1 (.t 26))⟩),
    (.grow, ⟨(some 28), none, .p (.faddr 0 (.t 3))⟩),
    (.grow, ⟨(some 29), none, .p (.ld1 (.t 28))⟩),
    (.grow, ⟨(some 30), none, .p (.faddr 1 (.t 3))⟩),
    (.grow, ⟨(some 31), none, .p (.ld1 (.t 30))⟩),
    (.stable, ⟨(some 32), none, .p (.build [(.int .i64 0), (.int .i64 0)] [(0, 1, (.t 29)), (1, 1, (.t 31))])⟩),
    (.grow, ⟨(some 33), none, .p (.xo (.lk (.st [(.int .i64), (.int .i64)]) (.agg [(.int .i64 0), (.int .i64 0), (.int .i64 0), (.int .i64 0), (.int .i64 0)]) true) [(.t 27), (.t 32)])⟩),
    (.stable, ⟨(some 23), none, .p (.mv (.t 33))⟩),
    (.stable, ⟨(some 34), none, .p (.ext 0 (.t 23))⟩),
    (.stable, ⟨(some 35), none, .p (.ext 1 (.t 23))⟩),
    (.loud, ⟨(some 5), none, .newO 60 [(.int .i64 0), (.int .i64 0), (.int .i64 0), (.int .i64 0), (.int .i64 0)]⟩),
    (.loud, ⟨none, none, .st 5 (.t 5) (.t 34)⟩),
    (.quiet, ⟨(some 6), none, .p (.mv (.t 35))⟩)])
  (.seq (.reg [⟨(some 36), none, .p (.mv (.t 6))⟩,
    ⟨(some 37), none, .p (.mv (.t 36))⟩,
    ⟨(some 38), (some (37, true)), .p (.faddr 0 (.t 5))⟩,
    ⟨(some 39), (some (37, true)), .p (.faddr 2 (.t 38))⟩,
    ⟨(some 40), (some (37, true)), .p (.ld1 (.t 39))⟩,
    ⟨(some 41), (some (37, true)), .p (.faddr 2 (.t 3))⟩,
    ⟨(some 42), (some (37, true)), .p (.ld1 (.t 41))⟩,
    ⟨(some 43), (some (37, true)), .p (.bin .geq (.t 40) (.t 42))⟩,
    ⟨(some 44), none, .p (.pick (.t 37) (.t 43) (.c (.bool false)))⟩])
  (.cond (.t 44) (.seq (.reg [⟨(some 4), none, .p (.mv (.c (.int .i64 30)))⟩])
  .ret) .skip)))
  (.seq (.reg [⟨(some 45), none, .p (.mv (.t 0))⟩,
    ⟨(some 46), none, .p (.ldn 4 (.t 3))⟩,
    ⟨(some 47), none, .call 41 [(.t 45), (.t 46)]⟩])
  (.seq (.reg [⟨(some 4), none, .p (.mv (.c (.int .i64 0)))⟩])
  .ret))))))⟩
theorem c23 : compF Try.prog ⟨fun s => [].contains s, fun r => match r with | 5 => [(0, .stable), (1, .grow), (2, .grow), (3, .grow), (4, .grow), (5, .grow), (6, .grow), (7, .grow), (8, .stable), (9, .grow), (10, .stable), (11, .stable), (12, .stable), (13, .loud), (14, .loud), (15, .quiet)] | _ => []⟩ Try.f23 = some a23 := by kernel_rfl

/- (*airline/mirror.Mirror).Event -/
def a24 : AFun := ⟨60, [.cell 8 (some 4), .tmp 9], (.seq (.reg [⟨(some 8), none, .newO 29 [(.int .i64 0), (.int .i64 0), (.int .i64 0), (.int .i64 0)]⟩,
    ⟨(some 9), none, .p (.mv (.c (.int .i64 0)))⟩])
  (.seq (.seq (.reg [⟨(some 15), none, .p (.mv (.t 0))⟩,
    ⟨(some 16), none, .call 34 [(.t 15)]⟩,
    ⟨(some 17), none, .p (.not (.t 16))⟩])
  (.cond (.t 17) (.seq (.reg [⟨(some 18), none, .p (.build [(.int .i64 0), (.int .i64 0), (.int .i64 0), (.int .i64 0)] [])⟩,
    ⟨none, none, .st 4 (.t 8) (.t 18)⟩,
    ⟨(some 9), none, .p (.mv (.c (.int .i64 1)))⟩])
  .ret) .skip))
  (.seq (.reg [⟨(some 20), none, .p (.mv (.t 0))⟩,
    ⟨(some 21), none, .p (.nilChk (.t 20))⟩,
    ⟨(some 22), none, .p (.faddr 0 (.t 21))⟩,
    ⟨(some 23), none, .p (.ld1 (.t 22))⟩,
    ⟨(some 24), none, .p (.mv (.t 1))⟩,
    ⟨(some 25), none, .p (.mv (.t 2))⟩,
    ⟨(some 26), none, .p (.build [(.int .i64 0), (.int .i64 0)] [(0, 1, (.t 24)), (1, 1, (.t 25))])⟩,
    ⟨(some 27), none, .p (.xo (.lk (.st [(.int .i64), (.int .i64)]) (.agg [(.int .i64 0), (.int .i64 0), (.int .i64 0), (.int .i64 0), (.int .i64 0)]) true) [(.t 23), (.t 26)])⟩,
    ⟨(some 19), none, .p (.mv (.t 27))⟩,
    ⟨(some 28), none, .p (.ext 0 (.t 19))⟩,
    ⟨(some 29), none, .p (.ext 1 (.t 19))⟩,
    ⟨(some 10), none, .newO 60 [(.int .i64 0), (.int .i64 0), (.int .i64 0), (.int .i64 0), (.int .i64 0)]⟩,
    ⟨none, none, .st 5 (.t 10) (.t 28)⟩,
    ⟨(some 11), none, .p (.mv (.t 29))⟩])
  (.seq (.seq (.reg [⟨(some 30), none, .p (.mv (.t 11))⟩,
    ⟨(some 31), none, .p (.not (.t 30))⟩])
  (.cond (.t 31) (.seq (.reg [⟨(some 32), none, .p (.build [(.int .i64 0), (.int .i64 0), (.int .i64 0), (.int .i64 0)] [])⟩,
    ⟨none, none, .st 4 (.t 8) (.t 32)⟩,
    ⟨(some 9), none, .p (.mv (.c (.int .i64 7)))⟩])
  .ret) .skip))
  (.seq (.reg [⟨(some 33), none, .p (.faddr 0 (.t 10))⟩,
    ⟨(some 34), none, .p (.ldn 4 (.t 33))⟩,
    ⟨(some 12), none, .newO 29 [(.int .i64 0), (.int .i64 0), (.int .i64 0), (.int .i64 0)]⟩,
    ⟨none, none, .st 4 (.t 12) (.t 34)⟩])
  (.seq (.reg [⟨(some 36), none, .p (.faddr 3 (.t 12))⟩,
    ⟨(some 37), none, .p (.ld1 (.t 36))⟩,
    ⟨(some 38), none, .p (.mv (.t 3))⟩,
    ⟨(some 39), none, .call 42 [(.t 37), (.t 38)]⟩,
    ⟨(some 35), none, .p (.mv (.t 39))⟩,
    ⟨(some 40), none, .p (.ext 0 (.t 35))⟩,
    ⟨(some 41), none, .p (.ext 1 (.t 35))⟩,
    ⟨(some 13), none, .p (.mv (.t 40))⟩,
    ⟨(some 14), none, .p (.mv (.t 41))⟩])
  (.seq (.seq (.reg [⟨(some 42), none, .p (.mv (.t 14))⟩,
    ⟨(some 43), none, .p (.bin .neq (.t 42) (.c (.int .i64 0)))⟩])
  (.cond (.t 43) (.seq (.reg [⟨(some 44), none, .p (.build [(.int .i64 0), (.int .i64 0), (.int .i64 0), (.int .i64 0)] [])⟩,
    ⟨(some 45), none, .p (.mv (.t 14))⟩,
    ⟨none, none, .st 4 (.t 8) (.t 44)⟩,
    ⟨(some 9), none, .p (.mv (.t 45))⟩])
  .ret) .skip))
  (.seq (.seq (.reg [⟨(some 46), none, .p (.faddr 2 (.t 12))⟩,
    ⟨(some 47), none, .p (.ld1 (.t 46))⟩,
    ⟨(some 48), none, .p (.bin .eql (.t 47) (.c (.int .i64 9223372036854775807)))⟩])
  (.cond (.t 48) (.seq (.reg [⟨(some 49), none, .p (.build [(.int .i64 0), (.int .i64 0), (.int .i64 0), (.int .i64 0)] [])⟩,
    ⟨none, none, .st 4 (.t 8) (.t 49)⟩,
    ⟨(some 9), none, .p (.mv (.c (.int .i64 2)))⟩])
  .ret) .skip))
  (.seq (.reg [⟨(some 50), none, .p (.mv (.t 13))⟩,
    ⟨(some 51), none, .p (.faddr 2 (.t 12))⟩,
    ⟨(some 52), none, .p (.ld1 (.t 51))⟩,
    ⟨(some 53), none, .p (.bin .add (.t 52) (.c (.int .i64 1)))⟩,
    ⟨(some 54), none, .p (.faddr 3 (.t 12))⟩,
    ⟨none, none, .st 1 (.t 54) (.t 50)⟩,
    ⟨(some 55), none, .p (.faddr 2 (.t 12))⟩,
    ⟨none, none, .st 1 (.t 55) (.t 53)⟩])
  (.seq (.reg [⟨(some 56), none, .p (.mv (.t 0))⟩,
    ⟨(some 57), none, .p (.ldn 4 (.t 12))⟩,
    ⟨(some 58), none, .call 41 [(.t 56), (.t 57)]⟩])
  (.seq (.reg [⟨(some 59), none, .p (.ldn 4 (.t 12))⟩,
    ⟨none, none, .st 4 (.t 8) (.t 59)⟩,
    ⟨(some 9), none, .p (.mv (.c (.int .i64 0)))⟩])
  .ret)))))))))))⟩
theorem c24 : compF Try.prog ⟨fun s => [].contains s, fun _ => []⟩ Try.f24 = some a24 := by kernel_rfl

/- (*airline/airlineref45.Mirror).Put -/
def a32 : AFun := ⟨53, [.tmp 4], (.seq (.reg [⟨(some 3), none, .p (.boxI (.t 1))⟩,
    ⟨(some 4), none, .p (.mv (.c (.int .i64 0)))⟩])
  (.seq (.seq (.reg [⟨(some 6), none, .p (.mv (.t 0))⟩,
    ⟨(some 7), none, .p (.isNil 1 false (.t 6))⟩,
    ⟨(some 8), none, .p (.mv (.t 7))⟩,
    ⟨(some 9), (some (8, false)), .p (.mv (.t 0))⟩,
    ⟨(some 10), (some (8, false)), .p (.nilChk (.t 9))⟩,
    ⟨(some 11), (some (8, false)), .p (.faddr 0 (.t 10))⟩,
    ⟨(some 12), (some (8, false)), .p (.ld1 (.t 11))⟩,
    ⟨(some 13), (some (8, false)), .p (.not (.t 12))⟩,
    ⟨(some 14), none, .p (.pick (.t 8) (.c (.bool true)) (.t 13))⟩])
  (.cond (.t 14) (.seq (.reg [⟨(some 4), none, .p (.mv (.c (.int .i64 1)))⟩])
  .ret) .skip))
  (.seq (.seq (.reg [⟨(some 15), none, .p (.faddr 2 (.t 3))⟩,
    ⟨(some 16), none, .p (.ld1 (.t 15))⟩,
    ⟨(some 17), none, .p (.bin .lss (.t 16) (.c (.int .i64 1)))⟩,
    ⟨(some 18), none, .p (.mv (.t 17))⟩,
    ⟨(some 19), (some (18, false)), .p (.faddr 3 (.t 3))⟩,
    ⟨(some 20), (some (18, false)), .p (.ld1 (.t 19))⟩,
    ⟨(some 21), (some (18, false)), .p (.bin .lss (.t 20) (.c (.int .i64 1)))⟩,
    ⟨(some 22), none, .p (.pick (.t 18) (.c (.bool true)) (.t 21))⟩,
    ⟨(some 23), none, .p (.mv (.t 22))⟩,
    ⟨(some 24), (some (23, false)), .p (.faddr 3 (.t 3))⟩,
    ⟨(some 25), (some (23, false)), .p (.ld1 (.t 24))⟩,
    ⟨(some 26), (some (23, false)), .p (.bin .gtr (.t 25) (.c (.int .i64 8)))⟩,
    ⟨(some 27), none, .p (.pick (.t 23) (.c (.bool true)) (.t 26))⟩])
  (.cond (.t 27) (.seq (.reg [⟨(some 4), none, .p (.mv (.c (.int .i64 2)))⟩])
  .ret) .skip))
  (.seq (.reg [⟨(some 28), none, .p (.mv (.t 0))⟩,
    ⟨(some 29), none, .p (.faddr 0 (.t 3))⟩,
    ⟨(some 30), none, .p (.ld1 (.t 29))⟩,
    ⟨(some 31), none, .p (.faddr 1 (.t 3))⟩,
    ⟨(some 32), none, .p (.ld1 (.t 31))⟩,
    ⟨(some 33), none, .call 35 [(.t 28), (.t 30), (.t 32)]⟩,
    ⟨(some 5), none, .p (.mv (.t 33))⟩])
  (.seq (.seq (.oreg [(.quiet, ⟨(some 34), none, .p (.mv (.t 5))⟩),
    (.quiet, ⟨(some 35), none, .p (.bin .geq (.t 34) (.c (.int .i64 0)))⟩),
    (.quiet, ⟨(some 36), none, .p (.mv (.t 35))⟩),
    (.quiet, ⟨(some 37), (some (36, true)), .p (.mv (.t 0))⟩),
    (.quiet, ⟨(some 38), (some (36, true)), .p (.nilChk (.t 37))⟩),
    (.quiet, ⟨(some 39), (some (36, true)), .p (.faddr 1 (.t 38))⟩),
    (.quiet, ⟨(some 40), (some (36, true)), .p (.ld1 (.t 39))⟩),
    (.quiet, ⟨(some 41), (some (36, true)), .p (.mv (.t 5))⟩),
    (.quiet, ⟨(some 42), (some (36, true)), .p (.idxA 5 (.t 40) (.t 41))⟩),
    (.quiet, ⟨(some 43), (some (36, true)), .p (.faddr 0 (.t 42))⟩),
    (.quiet, ⟨(some 44), (some (36, true)), .p (.faddr 2 (.t 43))⟩),
    (.quiet, ⟨(some 45), (some (36, true)), .p (.ld1 (.t 44))⟩),
    (.quiet, ⟨(some 46), (some (36, true)), .p (.faddr 2 (.t 3))⟩),
    (.quiet, ⟨(some 47), (some (36, true)), .p (.ld1 (.t 46))⟩),
    (.quiet, ⟨(some 48), (some (36, true)), .p (.bin .geq (.t 45) (.t 47))⟩),
    (.quiet, ⟨(some 49), none, .p (.pick (.t 36) (.t 48) (.c (.bool false)))⟩)])
  (.cond (.t 49) (.seq (.reg [⟨(some 4), none, .p (.mv (.c (.int .i64 30)))⟩])
  .ret) .skip))
  (.seq (.reg [⟨(some 50), none, .p (.mv (.t 0))⟩,
    ⟨(some 51), none, .p (.ldn 4 (.t 3))⟩,
    ⟨(some 52), none, .call 49 [(.t 50), (.t 51)]⟩])
  (.seq (.reg [⟨(some 4), none, .p (.mv (.c (.int .i64 0)))⟩])
  .ret)))))))⟩
theorem c32 : compF Try.prog ⟨fun s => [].contains s, fun r => match r with | 6 => [(0, .quiet), (1, .quiet), (2, .quiet), (3, .quiet), (4, .quiet), (5, .quiet), (6, .quiet), (7, .quiet), (8, .quiet), (9, .quiet), (10, .quiet), (11, .quiet), (12, .quiet), (13, .quiet), (14, .quiet), (15, .quiet)] | _ => []⟩ Try.f32 = some a32 := by kernel_rfl

/- (*airline/airlineref45.Mirror).Event -/
def a33 : AFun := ⟨64, [.cell 8 (some 4), .tmp 9], (.seq (.reg [⟨(some 8), none, .newO 29 [(.int .i64 0), (.int .i64 0), (.int .i64 0), (.int .i64 0)]⟩,
    ⟨(some 9), none, .p (.mv (.c (.int .i64 0)))⟩])
  (.seq (.seq (.reg [⟨(some 14), none, .p (.mv (.t 0))⟩,
    ⟨(some 15), none, .p (.isNil 1 false (.t 14))⟩,
    ⟨(some 16), none, .p (.mv (.t 15))⟩,
    ⟨(some 17), (some (16, false)), .p (.mv (.t 0))⟩,
    ⟨(some 18), (some (16, false)), .p (.nilChk (.t 17))⟩,
    ⟨(some 19), (some (16, false)), .p (.faddr 0 (.t 18))⟩,
    ⟨(some 20), (some (16, false)), .p (.ld1 (.t 19))⟩,
    ⟨(some 21), (some (16, false)), .p (.not (.t 20))⟩,
    ⟨(some 22), none, .p (.pick (.t 16) (.c (.bool true)) (.t 21))⟩])
  (.cond (.t 22) (.seq (.reg [⟨(some 23), none, .p (.build [(.int .i64 0), (.int .i64 0), (.int .i64 0), (.int .i64 0)] [])⟩,
    ⟨none, none, .st 4 (.t 8) (.t 23)⟩,
    ⟨(some 9), none, .p (.mv (.c (.int .i64 1)))⟩])
  .ret) .skip))
  (.seq (.reg [⟨(some 24), none, .p (.mv (.t 0))⟩,
    ⟨(some 25), none, .p (.mv (.t 1))⟩,
    ⟨(some 26), none, .p (.mv (.t 2))⟩,
    ⟨(some 27), none, .call 35 [(.t 24), (.t 25), (.t 26)]⟩,
    ⟨(some 10), none, .p (.mv (.t 27))⟩])
  (.seq (.seq (.reg [⟨(some 28), none, .p (.mv (.t 10))⟩,
    ⟨(some 29), none, .p (.bin .lss (.t 28) (.c (.int .i64 0)))⟩])
  (.cond (.t 29) (.seq (.reg [⟨(some 30), none, .p (.build [(.int .i64 0), (.int .i64 0), (.int .i64 0), (.int .i64 0)] [])⟩,
    ⟨none, none, .st 4 (.t 8) (.t 30)⟩,
    ⟨(some 9), none, .p (.mv (.c (.int .i64 7)))⟩])
  .ret) .skip))
  (.seq (.reg [⟨(some 31), none, .p (.mv (.t 0))⟩,
    ⟨(some 32), none, .p (.nilChk (.t 31))⟩,
    ⟨(some 33), none, .p (.faddr 1 (.t 32))⟩,
    ⟨(some 34), none, .p (.ld1 (.t 33))⟩,
    ⟨(some 35), none, .p (.mv (.t 10))⟩,
    ⟨(some 36), none, .p (.idxA 5 (.t 34) (.t 35))⟩,
    ⟨(some 37), none, .p (.faddr 0 (.t 36))⟩,
    ⟨(some 38), none, .p (.ldn 4 (.t 37))⟩,
    ⟨(some 11), none, .newO 29 [(.int .i64 0), (.int .i64 0), (.int .i64 0), (.int .i64 0)]⟩,
    ⟨none, none, .st 4 (.t 11) (.t 38)⟩])
  (.seq (.reg [⟨(some 40), none, .p (.faddr 3 (.t 11))⟩,
    ⟨(some 41), none, .p (.ld1 (.t 40))⟩,
    ⟨(some 42), none, .p (.mv (.t 3))⟩,
    ⟨(some 43), none, .call 50 [(.t 41), (.t 42)]⟩,
    ⟨(some 39), none, .p (.mv (.t 43))⟩,
    ⟨(some 44), none, .p (.ext 0 (.t 39))⟩,
    ⟨(some 45), none, .p (.ext 1 (.t 39))⟩,
    ⟨(some 12), none, .p (.mv (.t 44))⟩,
    ⟨(some 13), none, .p (.mv (.t 45))⟩])
  (.seq (.seq (.reg [⟨(some 46), none, .p (.mv (.t 13))⟩,
    ⟨(some 47), none, .p (.bin .neq (.t 46) (.c (.int .i64 0)))⟩])
  (.cond (.t 47) (.seq (.reg [⟨(some 48), none, .p (.build [(.int .i64 0), (.int .i64 0), (.int .i64 0), (.int .i64 0)] [])⟩,
    ⟨(some 49), none, .p (.mv (.t 13))⟩,
    ⟨none, none, .st 4 (.t 8) (.t 48)⟩,
    ⟨(some 9), none, .p (.mv (.t 49))⟩])
  .ret) .skip))
  (.seq (.seq (.reg [⟨(some 50), none, .p (.faddr 2 (.t 11))⟩,
    ⟨(some 51), none, .p (.ld1 (.t 50))⟩,
    ⟨(some 52), none, .p (.bin .eql (.t 51) (.c (.int .i64 9223372036854775807)))⟩])
  (.cond (.t 52) (.seq (.reg [⟨(some 53), none, .p (.build [(.int .i64 0), (.int .i64 0), (.int .i64 0), (.int .i64 0)] [])⟩,
    ⟨none, none, .st 4 (.t 8) (.t 53)⟩,
    ⟨(some 9), none, .p (.mv (.c (.int .i64 2)))⟩])
  .ret) .skip))
  (.seq (.reg [⟨(some 54), none, .p (.mv (.t 12))⟩,
    ⟨(some 55), none, .p (.faddr 2 (.t 11))⟩,
    ⟨(some 56), none, .p (.ld1 (.t 55))⟩,
    ⟨(some 57), none, .p (.bin .add (.t 56) (.c (.int .i64 1)))⟩,
    ⟨(some 58), none, .p (.faddr 3 (.t 11))⟩,
    ⟨none, none, .st 1 (.t 58) (.t 54)⟩,
    ⟨(some 59), none, .p (.faddr 2 (.t 11))⟩,
    ⟨none, none, .st 1 (.t 59) (.t 57)⟩])
  (.seq (.reg [⟨(some 60), none, .p (.mv (.t 0))⟩,
    ⟨(some 61), none, .p (.ldn 4 (.t 11))⟩,
    ⟨(some 62), none, .call 49 [(.t 60), (.t 61)]⟩])
  (.seq (.reg [⟨(some 63), none, .p (.ldn 4 (.t 11))⟩,
    ⟨none, none, .st 4 (.t 8) (.t 63)⟩,
    ⟨(some 9), none, .p (.mv (.c (.int .i64 0)))⟩])
  .ret)))))))))))⟩
theorem c33 : compF Try.prog ⟨fun s => [].contains s, fun _ => []⟩ Try.f33 = some a33 := by kernel_rfl

/- (*airline/mirror.Mirror).made -/
def a34 : AFun := ⟨12, [.tmp 2], (.seq (.reg [⟨(some 2), none, .p (.mv (.c (.bool false)))⟩])
  (.seq (.reg [⟨(some 3), none, .p (.mv (.t 0))⟩,
    ⟨(some 4), none, .p (.isNil 1 true (.t 3))⟩,
    ⟨(some 5), none, .p (.mv (.t 4))⟩,
    ⟨(some 6), (some (5, true)), .p (.mv (.t 0))⟩,
    ⟨(some 7), (some (5, true)), .p (.nilChk (.t 6))⟩,
    ⟨(some 8), (some (5, true)), .p (.faddr 0 (.t 7))⟩,
    ⟨(some 9), (some (5, true)), .p (.ld1 (.t 8))⟩,
    ⟨(some 10), (some (5, true)), .p (.isNil 4 true (.t 9))⟩,
    ⟨(some 11), none, .p (.pick (.t 5) (.t 10) (.c (.bool false)))⟩,
    ⟨(some 2), none, .p (.mv (.t 11))⟩])
  .ret))⟩
theorem c34 : compF Try.prog ⟨fun s => [].contains s, fun _ => []⟩ Try.f34 = some a34 := by kernel_rfl

/- (*airline/airlineref45.Mirror).find -/
def a35 : AFun := ⟨52, [.tmp 6], (.seq (.reg [⟨(some 6), none, .p (.mv (.c (.int .i64 0)))⟩])
  (.seq (.seq (.reg [⟨(some 7), none, .p (.mv (.c (.int .i64 0)))⟩])
  (.block 0 (.loop (.seq (.seq (.reg [⟨(some 8), none, .p (.mv (.t 0))⟩,
    ⟨(some 9), none, .p (.isNil 1 true (.t 8))⟩,
    ⟨(some 10), none, .p (.mv (.t 9))⟩,
    ⟨(some 11), (some (10, true)), .p (.mv (.t 0))⟩,
    ⟨(some 12), (some (10, true)), .p (.nilChk (.t 11))⟩,
    ⟨(some 13), (some (10, true)), .p (.faddr 0 (.t 12))⟩,
    ⟨(some 14), (some (10, true)), .p (.ld1 (.t 13))⟩,
    ⟨(some 15), none, .p (.pick (.t 10) (.t 14) (.c (.bool false)))⟩,
    ⟨(some 16), none, .p (.mv (.t 15))⟩,
    ⟨(some 17), (some (16, true)), .p (.mv (.t 7))⟩,
    ⟨(some 18), (some (16, true)), .p (.mv (.t 0))⟩,
    ⟨(some 19), (some (16, true)), .p (.nilChk (.t 18))⟩,
    ⟨(some 20), (some (16, true)), .p (.faddr 1 (.t 19))⟩,
    ⟨(some 21), (some (16, true)), .p (.ld1 (.t 20))⟩,
    ⟨(some 22), (some (16, true)), .p (.lenA (.t 21))⟩,
    ⟨(some 23), (some (16, true)), .p (.bin .lss (.t 17) (.t 22))⟩,
    ⟨(some 24), none, .p (.pick (.t 16) (.t 23) (.c (.bool false)))⟩])
  (.cond (.t 24) .skip (.exit 0)))
  (.seq (.block 1 (.seq (.reg [⟨(some 27), none, .p (.mv (.t 0))⟩,
    ⟨(some 28), none, .p (.nilChk (.t 27))⟩,
    ⟨(some 29), none, .p (.faddr 1 (.t 28))⟩,
    ⟨(some 30), none, .p (.ld1 (.t 29))⟩,
    ⟨(some 31), none, .p (.mv (.t 7))⟩,
    ⟨(some 32), none, .p (.idxA 5 (.t 30) (.t 31))⟩,
    ⟨(some 33), none, .p (.faddr 0 (.t 32))⟩,
    ⟨(some 34), none, .p (.faddr 0 (.t 33))⟩,
    ⟨(some 35), none, .p (.ld1 (.t 34))⟩,
    ⟨(some 36), none, .p (.mv (.t 1))⟩,
    ⟨(some 37), none, .p (.bin .eql (.t 35) (.t 36))⟩,
    ⟨(some 38), none, .p (.mv (.t 37))⟩,
    ⟨(some 39), (some (38, true)), .p (.mv (.t 0))⟩,
    ⟨(some 40), (some (38, true)), .p (.nilChk (.t 39))⟩,
    ⟨(some 41), (some (38, true)), .p (.faddr 1 (.t 40))⟩,
    ⟨(some 42), (some (38, true)), .p (.ld1 (.t 41))⟩,
    ⟨(some 43), (some (38, true)), .p (.mv (.t 7))⟩,
    ⟨(some 44), (some (38, true)), .p (.idxA 5 (.t 42) (.t 43))⟩,
    ⟨(some 45), (some (38, true)), .p (.faddr 0 (.t 44))⟩,
    ⟨(some 46), (some (38, true)), .p (.faddr 1 (.t 45))⟩,
    ⟨(some 47), (some (38, true)), .p (.ld1 (.t 46))⟩,
    ⟨(some 48), (some (38, true)), .p (.mv (.t 2))⟩,
    ⟨(some 49), (some (38, true)), .p (.bin .eql (.t 47) (.t 48))⟩,
    ⟨(some 50), none, .p (.pick (.t 38) (.t 49) (.c (.bool false)))⟩])
  (.cond (.t 50) (.seq (.reg [⟨(some 51), none, .p (.mv (.t 7))⟩,
    ⟨(some 6), none, .p (.mv (.t 51))⟩])
  .ret) .skip)))
  (.reg [⟨(some 25), none, .p (.mv (.t 7))⟩,
    ⟨(some 26), none, .p (.bin .add (.t 25) (.c (.int .i64 1)))⟩,
    ⟨(some 7), none, .p (.mv (.t 26))⟩]))))))
  (.seq (.reg [⟨(some 6), none, .p (.mv (.c (.int .i64 (-1))))⟩])
  .ret)))⟩
theorem c35 : compF Try.prog ⟨fun s => [].contains s, fun _ => []⟩ Try.f35 = some a35 := by kernel_rfl

/- slices.Clone[[]airline/api.State,airline/api.State] -/
def a36 : AFun := ⟨8, [.tmp 2], (.seq (.reg [⟨(some 2), none, .p (.mv (.c .nilSl))⟩])
  (.seq (.seq (.reg [⟨(some 3), none, .p (.mv (.t 0))⟩,
    ⟨(some 4), none, .nilD false (.t 3)⟩])
  (.cond (.t 4) (.seq (.reg [⟨(some 2), none, .p (.mv (.c .nilSl))⟩])
  .ret) .skip))
  (.seq (.reg [⟨(some 5), none, .bslO 29 4 [(.int .i64 0), (.int .i64 0), (.int .i64 0), (.int .i64 0)] 0 []⟩,
    ⟨(some 6), none, .p (.mv (.t 0))⟩,
    ⟨(some 7), none, .app 29 4 (.t 5) (.t 6)⟩,
    ⟨(some 2), none, .p (.mv (.t 7))⟩])
  .ret)))⟩
theorem c36 : compF Try.prog ⟨fun s => [4, 5].contains s, fun _ => []⟩ Try.f36 = some a36 := by kernel_rfl

/- (*airline/mirror.Mirror).All$1 -/
def a38 : AFun := ⟨17, [.tmp 4], (.seq (.reg [⟨(some 2), none, .p (.boxI (.t 0))⟩,
    ⟨(some 3), none, .p (.boxI (.t 1))⟩,
    ⟨(some 4), none, .p (.mv (.c (.int .i64 0)))⟩])
  (.seq (.oreg [(.quiet, ⟨(some 5), none, .p (.faddr 0 (.t 2))⟩),
    (.quiet, ⟨(some 6), none, .p (.ld1 (.t 5))⟩),
    (.quiet, ⟨(some 7), none, .p (.faddr 0 (.t 3))⟩),
    (.quiet, ⟨(some 8), none, .p (.ld1 (.t 7))⟩),
    (.quiet, ⟨(some 10), none, .p (.faddr 1 (.t 2))⟩),
    (.quiet, ⟨(some 11), none, .p (.ld1 (.t 10))⟩),
    (.quiet, ⟨(some 12), none, .p (.faddr 1 (.t 3))⟩),
    (.quiet, ⟨(some 13), none, .p (.ld1 (.t 12))⟩),
    (.quiet, ⟨(some 9), none, .call 40 [(.t 6), (.t 8)]⟩),
    (.loud, ⟨(some 14), none, .call 40 [(.t 11), (.t 13)]⟩),
    (.quiet, ⟨(some 15), none, .p (.bsl 1 [(.int .i64 0)] 2 [(0, (.t 9)), (1, (.t 14))])⟩),
    (.loud, ⟨(some 16), none, .call 39 [(.t 15)]⟩),
    (.quiet, ⟨(some 4), none, .p (.mv (.t 16))⟩)])
  .ret))⟩
theorem c38 : compF Try.prog ⟨fun s => [].contains s, fun r => match r with | 1 => [(0, .quiet), (1, .quiet), (2, .quiet), (3, .quiet), (5, .quiet), (6, .quiet), (7, .quiet), (8, .quiet), (4, .quiet), (9, .loud), (10, .quiet), (11, .loud), (12, .quiet)] | _ => []⟩ Try.f38 = some a38 := by kernel_rfl

/- (*airline/mirror.Mirror).set -/
def a41 : AFun := ⟨59, [], (.seq (.reg [⟨(some 3), none, .p (.boxI (.t 1))⟩])
  (.seq (.reg [⟨(some 7), none, .p (.faddr 0 (.t 3))⟩,
    ⟨(some 8), none, .p (.ld1 (.t 7))⟩,
    ⟨(some 9), none, .p (.faddr 1 (.t 3))⟩,
    ⟨(some 10), none, .p (.ld1 (.t 9))⟩,
    ⟨(some 11), none, .p (.build [(.int .i64 0), (.int .i64 0)] [(0, 1, (.t 8)), (1, 1, (.t 10))])⟩,
    ⟨(some 4), none, .newO 63 [(.int .i64 0), (.int .i64 0)]⟩,
    ⟨none, none, .st 2 (.t 4) (.t 11)⟩])
  (.seq (.seq (.oreg [(.stable, ⟨(some 13), none, .p (.mv (.t 0))⟩),
    (.grow, ⟨(some 14), none, .p (.nilChk (.t 13))⟩),
    (.grow, ⟨(some 15), none, .p (.faddr 0 (.t 14))⟩),
    (.grow, ⟨(some 16), none, .p (.ld1 (.t 15))⟩),
    (.grow, ⟨(some 17), none, .p (.ldn 2 (.t 4))⟩),
    (.grow, ⟨(some 18), none, .p (.xo (.lk (.st [(.int .i64), (.int .i64)]) (.agg [(.int .i64 0), (.int .i64 0), (.int .i64 0), (.int .i64 0), (.int .i64 0)]) true) [(.t 16), (.t 17)])⟩),
    (.stable, ⟨(some 12), none, .p (.mv (.t 18))⟩),
    (.stable, ⟨(some 19), none, .p (.ext 0 (.t 12))⟩),
    (.stable, ⟨(some 20), none, .p (.ext 1 (.t 12))⟩),
    (.loud, ⟨(some 5), none, .newO 60 [(.int .i64 0), (.int .i64 0), (.int .i64 0), (.int .i64 0), (.int .i64 0)]⟩),
    (.loud, ⟨none, none, .st 5 (.t 5) (.t 19)⟩),
    (.quiet, ⟨(some 6), none, .p (.mv (.t 20))⟩)])
  (.seq (.reg [⟨(some 21), none, .p (.mv (.t 6))⟩])
  (.cond (.t 21) (.oreg [(.quiet, ⟨(some 22), none, .p (.mv (.t 0))⟩),
    (.quiet, ⟨(some 23), none, .p (.nilChk (.t 22))⟩),
    (.quiet, ⟨(some 24), none, .p (.faddr 1 (.t 23))⟩),
    (.quiet, ⟨(some 25), none, .p (.ld1 (.t 24))⟩),
    (.quiet, ⟨(some 26), none, .p (.faddr 4 (.t 5))⟩),
    (.quiet, ⟨(some 27), none, .p (.ld1 (.t 26))⟩),
    (.loud, ⟨none, none, .xs (.mdel (.one (.int .i64))) [(.t 25), (.t 27)]⟩)]) .skip)))
  (.seq (.reg [⟨(some 28), none, .p (.mv (.t 0))⟩,
    ⟨(some 29), none, .p (.nilChk (.t 28))⟩,
    ⟨(some 30), none, .p (.faddr 3 (.t 29))⟩,
    ⟨(some 31), none, .p (.ld1 (.t 30))⟩,
    ⟨(some 32), none, .p (.bin .add (.t 31) (.c (.int .i64 1)))⟩,
    ⟨(some 33), none, .p (.nilChk (.t 28))⟩,
    ⟨(some 34), none, .p (.faddr 3 (.t 33))⟩,
    ⟨none, none, .st 1 (.t 34) (.t 32)⟩])
  (.seq (.oreg [(.quiet, ⟨(some 35), none, .p (.mv (.t 0))⟩),
    (.quiet, ⟨(some 36), none, .p (.nilChk (.t 35))⟩),
    (.quiet, ⟨(some 37), none, .p (.faddr 0 (.t 36))⟩),
    (.quiet, ⟨(some 38), none, .p (.ld1 (.t 37))⟩),
    (.quiet, ⟨(some 39), none, .p (.ldn 2 (.t 4))⟩),
    (.quiet, ⟨(some 40), none, .p (.ldn 4 (.t 3))⟩),
    (.quiet, ⟨(some 41), none, .p (.mv (.t 0))⟩),
    (.quiet, ⟨(some 42), none, .p (.nilChk (.t 41))⟩),
    (.quiet, ⟨(some 43), none, .p (.faddr 3 (.t 42))⟩),
    (.quiet, ⟨(some 44), none, .p (.ld1 (.t 43))⟩),
    (.quiet, ⟨(some 45), none, .p (.build [(.int .i64 0), (.int .i64 0), (.int .i64 0), (.int .i64 0), (.int .i64 0)] [(0, 4, (.t 40)), (4, 1, (.t 44))])⟩),
    (.loud, ⟨none, none, .xs (.mu (.st [(.int .i64), (.int .i64)])) [(.t 38), (.t 39), (.t 45)]⟩)])
  (.seq (.oreg [(.quiet, ⟨(some 46), none, .p (.mv (.t 0))⟩),
    (.quiet, ⟨(some 47), none, .p (.nilChk (.t 46))⟩),
    (.quiet, ⟨(some 48), none, .p (.faddr 1 (.t 47))⟩),
    (.quiet, ⟨(some 49), none, .p (.ld1 (.t 48))⟩),
    (.quiet, ⟨(some 50), none, .p (.mv (.t 0))⟩),
    (.quiet, ⟨(some 51), none, .p (.nilChk (.t 50))⟩),
    (.quiet, ⟨(some 52), none, .p (.faddr 3 (.t 51))⟩),
    (.quiet, ⟨(some 53), none, .p (.ld1 (.t 52))⟩),
    (.quiet, ⟨(some 54), none, .p (.ldn 2 (.t 4))⟩),
    (.loud, ⟨none, none, .xs (.mu (.one (.int .i64))) [(.t 49), (.t 53), (.t 54)]⟩)])
  (.reg [⟨(some 55), none, .p (.mv (.t 0))⟩,
    ⟨(some 56), none, .p (.nilChk (.t 55))⟩,
    ⟨(some 57), none, .p (.faddr 2 (.t 56))⟩,
    ⟨(some 58), none, .p (.ld1 (.t 57))⟩,
    ⟨none, none, .xs .mclr [(.t 58)]⟩])))))))⟩
theorem c41 : compF Try.prog ⟨fun s => [].contains s, fun r => match r with | 2 => [(0, .stable), (1, .grow), (2, .grow), (3, .grow), (4, .grow), (5, .grow), (6, .stable), (7, .stable), (8, .stable), (9, .loud), (10, .loud), (11, .quiet)]  | 4 => [(0, .quiet), (1, .quiet), (2, .quiet), (3, .quiet), (4, .quiet), (5, .quiet), (6, .loud)]  | 6 => [(0, .quiet), (1, .quiet), (2, .quiet), (3, .quiet), (4, .quiet), (5, .quiet), (6, .quiet), (7, .quiet), (8, .quiet), (9, .quiet), (10, .quiet), (11, .loud)]  | 7 => [(0, .quiet), (1, .quiet), (2, .quiet), (3, .quiet), (4, .quiet), (5, .quiet), (6, .quiet), (7, .quiet), (8, .quiet), (9, .loud)] | _ => []⟩ Try.f41 = some a41 := by kernel_rfl

/- airline/coupon.Next -/
def a42 : AFun := ⟨33, [.tmp 4, .tmp 5], (.seq (.reg [⟨(some 4), none, .p (.mv (.c (.int .i64 0)))⟩,
    ⟨(some 5), none, .p (.mv (.c (.int .i64 0)))⟩])
  (.seq (.seq (.reg [⟨(some 7), none, .p (.mv (.t 0))⟩,
    ⟨(some 8), none, .p (.bin .lss (.t 7) (.c (.int .i64 1)))⟩,
    ⟨(some 9), none, .p (.mv (.t 8))⟩,
    ⟨(some 10), (some (9, false)), .p (.mv (.t 0))⟩,
    ⟨(some 11), (some (9, false)), .p (.bin .gtr (.t 10) (.c (.int .i64 8)))⟩,
    ⟨(some 12), none, .p (.pick (.t 9) (.c (.bool true)) (.t 11))⟩,
    ⟨(some 13), none, .p (.mv (.t 12))⟩,
    ⟨(some 14), (some (13, false)), .p (.mv (.t 1))⟩,
    ⟨(some 15), (some (13, false)), .p (.bin .lss (.t 14) (.c (.int .i64 1)))⟩,
    ⟨(some 16), none, .p (.pick (.t 13) (.c (.bool true)) (.t 15))⟩,
    ⟨(some 17), none, .p (.mv (.t 16))⟩,
    ⟨(some 18), (some (17, false)), .p (.mv (.t 1))⟩,
    ⟨(some 19), (some (17, false)), .p (.bin .gtr (.t 18) (.c (.int .i64 10)))⟩,
    ⟨(some 20), none, .p (.pick (.t 17) (.c (.bool true)) (.t 19))⟩])
  (.cond (.t 20) (.seq (.reg [⟨(some 4), none, .p (.mv (.c (.int .i64 0)))⟩,
    ⟨(some 5), none, .p (.mv (.c (.int .i64 8)))⟩])
  .ret) .skip))
  (.seq (.seq (.reg [⟨(some 21), none, .p (.mv (.t 0))⟩,
    ⟨(some 22), none, .p (.bin .eql (.t 21) (.c (.int .i64 2)))⟩,
    ⟨(some 23), none, .p (.mv (.t 22))⟩,
    ⟨(some 24), (some (23, true)), .p (.mv (.t 1))⟩,
    ⟨(some 25), (some (23, true)), .p (.bin .geq (.t 24) (.c (.int .i64 8)))⟩,
    ⟨(some 26), none, .p (.pick (.t 23) (.t 25) (.c (.bool false)))⟩])
  (.cond (.t 26) (.seq (.reg [⟨(some 4), none, .p (.mv (.c (.int .i64 0)))⟩,
    ⟨(some 5), none, .p (.mv (.c (.int .i64 28)))⟩])
  .ret) .skip))
  (.seq (.seq (.reg [⟨(some 27), none, .p (.mv (.t 0))⟩,
    ⟨(some 28), none, .p (.mv (.t 1))⟩,
    ⟨(some 29), none, .call 54 [(.t 27), (.t 28)]⟩,
    ⟨(some 6), none, .p (.mv (.t 29))⟩])
  (.seq (.reg [⟨(some 30), none, .p (.mv (.t 6))⟩,
    ⟨(some 31), none, .p (.bin .neq (.t 30) (.c (.int .i64 0)))⟩])
  (.cond (.t 31) (.seq (.reg [⟨(some 32), none, .p (.mv (.t 6))⟩,
    ⟨(some 4), none, .p (.mv (.t 32))⟩,
    ⟨(some 5), none, .p (.mv (.c (.int .i64 0)))⟩])
  .ret) .skip)))
  (.seq (.reg [⟨(some 4), none, .p (.mv (.c (.int .i64 0)))⟩,
    ⟨(some 5), none, .p (.mv (.c (.int .i64 27)))⟩])
  .ret)))))⟩
theorem c42 : compF Try.prog ⟨fun s => [].contains s, fun _ => []⟩ Try.f42 = some a42 := by kernel_rfl

/- (*airline/airlineref45.Mirror).record -/
def a49 : AFun := ⟨47, [], (.seq (.reg [⟨(some 3), none, .p (.boxI (.t 1))⟩])
  (.seq (.reg [⟨(some 5), none, .p (.mv (.t 0))⟩,
    ⟨(some 6), none, .p (.nilChk (.t 5))⟩,
    ⟨(some 7), none, .p (.faddr 2 (.t 6))⟩,
    ⟨(some 8), none, .p (.ld1 (.t 7))⟩,
    ⟨(some 9), none, .p (.bin .add (.t 8) (.c (.int .i64 1)))⟩,
    ⟨(some 10), none, .p (.nilChk (.t 5))⟩,
    ⟨(some 11), none, .p (.faddr 2 (.t 10))⟩,
    ⟨none, none, .st 1 (.t 11) (.t 9)⟩])
  (.seq (.reg [⟨(some 12), none, .p (.mv (.t 0))⟩,
    ⟨(some 13), none, .p (.faddr 0 (.t 3))⟩,
    ⟨(some 14), none, .p (.ld1 (.t 13))⟩,
    ⟨(some 15), none, .p (.faddr 1 (.t 3))⟩,
    ⟨(some 16), none, .p (.ld1 (.t 15))⟩,
    ⟨(some 17), none, .call 35 [(.t 12), (.t 14), (.t 16)]⟩,
    ⟨(some 4), none, .p (.mv (.t 17))⟩])
  (.seq (.seq (.reg [⟨(some 18), none, .p (.mv (.t 4))⟩,
    ⟨(some 19), none, .p (.bin .lss (.t 18) (.c (.int .i64 0)))⟩])
  (.cond (.t 19) (.seq (.oreg [(.stable, ⟨(some 20), none, .p (.mv (.t 0))⟩),
    (.quiet, ⟨(some 21), none, .p (.mv (.t 0))⟩),
    (.quiet, ⟨(some 22), none, .p (.nilChk (.t 21))⟩),
    (.quiet, ⟨(some 23), none, .p (.faddr 1 (.t 22))⟩),
    (.quiet, ⟨(some 24), none, .p (.ld1 (.t 23))⟩),
    (.quiet, ⟨(some 25), none, .p (.ldn 4 (.t 3))⟩),
    (.quiet, ⟨(some 26), none, .p (.mv (.t 0))⟩),
    (.quiet, ⟨(some 27), none, .p (.nilChk (.t 26))⟩),
    (.quiet, ⟨(some 28), none, .p (.faddr 2 (.t 27))⟩),
    (.quiet, ⟨(some 29), none, .p (.ld1 (.t 28))⟩),
    (.quiet, ⟨(some 30), none, .p (.build [(.int .i64 0), (.int .i64 0), (.int .i64 0), (.int .i64 0), (.int .i64 0)] [(0, 4, (.t 25)), (4, 1, (.t 29))])⟩),
    (.quiet, ⟨(some 31), none, .p (.bsl 5 [(.int .i64 0), (.int .i64 0), (.int .i64 0), (.int .i64 0), (.int .i64 0)] 1 [(0, (.t 30))])⟩),
    (.loud, ⟨(some 32), none, .app 66 5 (.t 24) (.t 31)⟩),
    (.quiet, ⟨(some 33), none, .p (.nilChk (.t 20))⟩),
    (.quiet, ⟨(some 34), none, .p (.faddr 1 (.t 33))⟩),
    (.loud, ⟨none, none, .st 1 (.t 34) (.t 32)⟩)])
  .ret) .skip))
  (.oreg [(.quiet, ⟨(some 35), none, .p (.mv (.t 0))⟩),
    (.quiet, ⟨(some 36), none, .p (.nilChk (.t 35))⟩),
    (.quiet, ⟨(some 37), none, .p (.faddr 1 (.t 36))⟩),
    (.quiet, ⟨(some 38), none, .p (.ld1 (.t 37))⟩),
    (.quiet, ⟨(some 39), none, .p (.mv (.t 4))⟩),
    (.quiet, ⟨(some 40), none, .p (.ldn 4 (.t 3))⟩),
    (.quiet, ⟨(some 41), none, .p (.mv (.t 0))⟩),
    (.quiet, ⟨(some 42), none, .p (.nilChk (.t 41))⟩),
    (.quiet, ⟨(some 43), none, .p (.faddr 2 (.t 42))⟩),
    (.quiet, ⟨(some 44), none, .p (.ld1 (.t 43))⟩),
    (.quiet, ⟨(some 45), none, .p (.build [(.int .i64 0), (.int .i64 0), (.int .i64 0), (.int .i64 0), (.int .i64 0)] [(0, 4, (.t 40)), (4, 1, (.t 44))])⟩),
    (.quiet, ⟨(some 46), none, .p (.idxA 5 (.t 38) (.t 39))⟩),
    (.loud, ⟨none, none, .st 5 (.t 46) (.t 45)⟩)])))))⟩
theorem c49 : compF Try.prog ⟨fun s => [].contains s, fun r => match r with | 4 => [(0, .stable), (1, .quiet), (2, .quiet), (3, .quiet), (4, .quiet), (5, .quiet), (6, .quiet), (7, .quiet), (8, .quiet), (9, .quiet), (10, .quiet), (11, .quiet), (12, .loud), (13, .quiet), (14, .quiet), (15, .loud)]  | 5 => [(0, .quiet), (1, .quiet), (2, .quiet), (3, .quiet), (4, .quiet), (5, .quiet), (6, .quiet), (7, .quiet), (8, .quiet), (9, .quiet), (10, .quiet), (11, .quiet), (12, .loud)] | _ => []⟩ Try.f49 = some a49 := by kernel_rfl

/- airline/airlineref38.Next -/
def a50 : AFun := ⟨30, [.tmp 4, .tmp 5], (.seq (.reg [⟨(some 4), none, .p (.mv (.c (.int .i64 0)))⟩,
    ⟨(some 5), none, .p (.mv (.c (.int .i64 0)))⟩])
  (.seq (.seq (.reg [⟨(some 6), none, .p (.mv (.t 0))⟩,
    ⟨(some 7), none, .call 58 [(.t 6)]⟩,
    ⟨(some 8), none, .p (.not (.t 7))⟩,
    ⟨(some 9), none, .p (.mv (.t 8))⟩,
    ⟨(some 10), (some (9, false)), .p (.mv (.t 1))⟩,
    ⟨(some 11), (some (9, false)), .p (.bin .lss (.t 10) (.c (.int .i64 1)))⟩,
    ⟨(some 12), none, .p (.pick (.t 9) (.c (.bool true)) (.t 11))⟩,
    ⟨(some 13), none, .p (.mv (.t 12))⟩,
    ⟨(some 14), (some (13, false)), .p (.mv (.t 1))⟩,
    ⟨(some 15), (some (13, false)), .p (.bin .gtr (.t 14) (.c (.int .i64 10)))⟩,
    ⟨(some 16), none, .p (.pick (.t 13) (.c (.bool true)) (.t 15))⟩])
  (.cond (.t 16) (.seq (.reg [⟨(some 4), none, .p (.mv (.c (.int .i64 0)))⟩,
    ⟨(some 5), none, .p (.mv (.c (.int .i64 8)))⟩])
  .ret) .skip))
  (.seq (.seq (.reg [⟨(some 17), none, .p (.mv (.t 0))⟩,
    ⟨(some 18), none, .p (.bin .eql (.t 17) (.c (.int .i64 2)))⟩,
    ⟨(some 19), none, .p (.mv (.t 18))⟩,
    ⟨(some 20), (some (19, true)), .p (.mv (.t 1))⟩,
    ⟨(some 21), (some (19, true)), .p (.bin .geq (.t 20) (.c (.int .i64 8)))⟩,
    ⟨(some 22), none, .p (.pick (.t 19) (.t 21) (.c (.bool false)))⟩])
  (.cond (.t 22) (.seq (.reg [⟨(some 4), none, .p (.mv (.c (.int .i64 0)))⟩,
    ⟨(some 5), none, .p (.mv (.c (.int .i64 28)))⟩])
  .ret) .skip))
  (.seq (.seq (.reg [⟨(some 23), none, .p (.mv (.t 0))⟩,
    ⟨(some 24), none, .p (.mv (.t 1))⟩,
    ⟨(some 25), none, .call 59 [(.t 23), (.t 24)]⟩,
    ⟨(some 26), none, .p (.bin .eql (.t 25) (.c (.int .i64 0)))⟩])
  (.cond (.t 26) (.seq (.reg [⟨(some 4), none, .p (.mv (.c (.int .i64 0)))⟩,
    ⟨(some 5), none, .p (.mv (.c (.int .i64 27)))⟩])
  .ret) .skip))
  (.seq (.reg [⟨(some 27), none, .p (.mv (.t 0))⟩,
    ⟨(some 28), none, .p (.mv (.t 1))⟩,
    ⟨(some 29), none, .call 59 [(.t 27), (.t 28)]⟩,
    ⟨(some 4), none, .p (.mv (.t 29))⟩,
    ⟨(some 5), none, .p (.mv (.c (.int .i64 0)))⟩])
  .ret)))))⟩
theorem c50 : compF Try.prog ⟨fun s => [].contains s, fun _ => []⟩ Try.f50 = some a50 := by kernel_rfl

/- airline/coupon.next -/
def a54 : AFun := ⟨38, [.tmp 4], (.seq (.reg [⟨(some 4), none, .p (.mv (.c (.int .i64 0)))⟩])
  (.seq (.seq (.reg [⟨(some 5), none, .p (.mv (.t 0))⟩,
    ⟨(some 6), none, .p (.mv (.t 1))⟩,
    ⟨(some 7), none, .p (.build [(.int .i64 0), (.int .i64 0)] [(0, 1, (.t 5)), (1, 1, (.t 6))])⟩])
  (.block 0 (.seq (.reg [⟨(some 9), none, .p (.build [(.int .i64 0), (.int .i64 0)] [(0, 1, (.c (.int .i64 1))), (1, 1, (.c (.int .i64 1)))])⟩,
    ⟨(some 10), none, .p (.xo (.eqA [(.int .i64), (.int .i64)] false) [(.t 7), (.t 9)])⟩,
    ⟨(some 8), none, .p (.mv (.t 10))⟩])
  (.cond (.t 8) (.seq (.reg [⟨(some 4), none, .p (.mv (.c (.int .i64 2)))⟩])
  .ret) (.seq (.seq (.reg [⟨(some 12), none, .p (.build [(.int .i64 0), (.int .i64 0)] [(0, 1, (.c (.int .i64 1))), (1, 1, (.c (.int .i64 3)))])⟩,
    ⟨(some 13), none, .p (.xo (.eqA [(.int .i64), (.int .i64)] false) [(.t 7), (.t 12)])⟩,
    ⟨(some 11), none, .p (.mv (.t 13))⟩])
  (.cond (.t 11) .skip (.seq (.reg [⟨(some 14), none, .p (.build [(.int .i64 0), (.int .i64 0)] [(0, 1, (.c (.int .i64 2))), (1, 1, (.c (.int .i64 3)))])⟩,
    ⟨(some 15), none, .p (.xo (.eqA [(.int .i64), (.int .i64)] false) [(.t 7), (.t 14)])⟩,
    ⟨(some 11), none, .p (.mv (.t 15))⟩])
  (.cond (.t 11) .skip (.reg [⟨(some 16), none, .p (.build [(.int .i64 0), (.int .i64 0)] [(0, 1, (.c (.int .i64 4))), (1, 1, (.c (.int .i64 6)))])⟩,
    ⟨(some 17), none, .p (.xo (.eqA [(.int .i64), (.int .i64)] false) [(.t 7), (.t 16)])⟩,
    ⟨(some 11), none, .p (.mv (.t 17))⟩])))))
  (.cond (.t 11) (.seq (.reg [⟨(some 4), none, .p (.mv (.c (.int .i64 3)))⟩])
  .ret) (.seq (.reg [⟨(some 19), none, .p (.build [(.int .i64 0), (.int .i64 0)] [(0, 1, (.c (.int .i64 1))), (1, 1, (.c (.int .i64 8)))])⟩,
    ⟨(some 20), none, .p (.xo (.eqA [(.int .i64), (.int .i64)] false) [(.t 7), (.t 19)])⟩,
    ⟨(some 18), none, .p (.mv (.t 20))⟩])
  (.cond (.t 18) (.seq (.reg [⟨(some 4), none, .p (.mv (.c (.int .i64 6)))⟩])
  .ret) (.seq (.reg [⟨(some 22), none, .p (.build [(.int .i64 0), (.int .i64 0)] [(0, 1, (.c (.int .i64 1))), (1, 1, (.c (.int .i64 9)))])⟩,
    ⟨(some 23), none, .p (.xo (.eqA [(.int .i64), (.int .i64)] false) [(.t 7), (.t 22)])⟩,
    ⟨(some 21), none, .p (.mv (.t 23))⟩])
  (.cond (.t 21) (.seq (.reg [⟨(some 4), none, .p (.mv (.c (.int .i64 7)))⟩])
  .ret) (.seq (.reg [⟨(some 25), none, .p (.build [(.int .i64 0), (.int .i64 0)] [(0, 1, (.c (.int .i64 1))), (1, 1, (.c (.int .i64 10)))])⟩,
    ⟨(some 26), none, .p (.xo (.eqA [(.int .i64), (.int .i64)] false) [(.t 7), (.t 25)])⟩,
    ⟨(some 24), none, .p (.mv (.t 26))⟩])
  (.cond (.t 24) (.seq (.reg [⟨(some 4), none, .p (.mv (.c (.int .i64 8)))⟩])
  .ret) (.seq (.seq (.reg [⟨(some 28), none, .p (.build [(.int .i64 0), (.int .i64 0)] [(0, 1, (.c (.int .i64 2))), (1, 1, (.c (.int .i64 2)))])⟩,
    ⟨(some 29), none, .p (.xo (.eqA [(.int .i64), (.int .i64)] false) [(.t 7), (.t 28)])⟩,
    ⟨(some 27), none, .p (.mv (.t 29))⟩])
  (.cond (.t 27) .skip (.reg [⟨(some 30), none, .p (.build [(.int .i64 0), (.int .i64 0)] [(0, 1, (.c (.int .i64 3))), (1, 1, (.c (.int .i64 4)))])⟩,
    ⟨(some 31), none, .p (.xo (.eqA [(.int .i64), (.int .i64)] false) [(.t 7), (.t 30)])⟩,
    ⟨(some 27), none, .p (.mv (.t 31))⟩])))
  (.cond (.t 27) (.seq (.reg [⟨(some 4), none, .p (.mv (.c (.int .i64 1)))⟩])
  .ret) (.seq (.reg [⟨(some 33), none, .p (.build [(.int .i64 0), (.int .i64 0)] [(0, 1, (.c (.int .i64 3))), (1, 1, (.c (.int .i64 5)))])⟩,
    ⟨(some 34), none, .p (.xo (.eqA [(.int .i64), (.int .i64)] false) [(.t 7), (.t 33)])⟩,
    ⟨(some 32), none, .p (.mv (.t 34))⟩])
  (.cond (.t 32) (.seq (.reg [⟨(some 4), none, .p (.mv (.c (.int .i64 4)))⟩])
  .ret) (.seq (.reg [⟨(some 36), none, .p (.build [(.int .i64 0), (.int .i64 0)] [(0, 1, (.c (.int .i64 4))), (1, 1, (.c (.int .i64 7)))])⟩,
    ⟨(some 37), none, .p (.xo (.eqA [(.int .i64), (.int .i64)] false) [(.t 7), (.t 36)])⟩,
    ⟨(some 35), none, .p (.mv (.t 37))⟩])
  (.cond (.t 35) (.seq (.reg [⟨(some 4), none, .p (.mv (.c (.int .i64 5)))⟩])
  .ret) .skip))))))))))))))))))
  (.seq (.reg [⟨(some 4), none, .p (.mv (.c (.int .i64 0)))⟩])
  .ret)))⟩
theorem c54 : compF Try.prog ⟨fun s => [].contains s, fun _ => []⟩ Try.f54 = some a54 := by kernel_rfl

/- airline/airlineref38.known -/
def a58 : AFun := ⟨9, [.tmp 2], (.seq (.reg [⟨(some 2), none, .p (.mv (.c (.bool false)))⟩])
  (.seq (.reg [⟨(some 3), none, .p (.mv (.t 0))⟩,
    ⟨(some 4), none, .p (.bin .geq (.t 3) (.c (.int .i64 1)))⟩,
    ⟨(some 5), none, .p (.mv (.t 4))⟩,
    ⟨(some 6), (some (5, true)), .p (.mv (.t 0))⟩,
    ⟨(some 7), (some (5, true)), .p (.bin .leq (.t 6) (.c (.int .i64 8)))⟩,
    ⟨(some 8), none, .p (.pick (.t 5) (.t 7) (.c (.bool false)))⟩,
    ⟨(some 2), none, .p (.mv (.t 8))⟩])
  .ret))⟩
theorem c58 : compF Try.prog ⟨fun s => [].contains s, fun _ => []⟩ Try.f58 = some a58 := by kernel_rfl

/- airline/airlineref38.after -/
def a59 : AFun := ⟨28, [.tmp 4], (.seq (.reg [⟨(some 4), none, .p (.mv (.c (.int .i64 0)))⟩])
  (.seq (.seq (.reg [⟨(some 5), none, .p (.mv (.t 0))⟩,
    ⟨(some 6), none, .p (.bin .mul (.c (.int .i64 100)) (.t 5))⟩,
    ⟨(some 7), none, .p (.mv (.t 1))⟩,
    ⟨(some 8), none, .p (.bin .add (.t 6) (.t 7))⟩])
  (.block 0 (.seq (.reg [⟨(some 10), none, .p (.bin .eql (.t 8) (.c (.int .i64 101)))⟩,
    ⟨(some 9), none, .p (.mv (.t 10))⟩])
  (.cond (.t 9) (.seq (.reg [⟨(some 4), none, .p (.mv (.c (.int .i64 2)))⟩])
  .ret) (.seq (.seq (.reg [⟨(some 12), none, .p (.bin .eql (.t 8) (.c (.int .i64 103)))⟩,
    ⟨(some 11), none, .p (.mv (.t 12))⟩])
  (.cond (.t 11) .skip (.seq (.reg [⟨(some 13), none, .p (.bin .eql (.t 8) (.c (.int .i64 203)))⟩,
    ⟨(some 11), none, .p (.mv (.t 13))⟩])
  (.cond (.t 11) .skip (.reg [⟨(some 14), none, .p (.bin .eql (.t 8) (.c (.int .i64 406)))⟩,
    ⟨(some 11), none, .p (.mv (.t 14))⟩])))))
  (.cond (.t 11) (.seq (.reg [⟨(some 4), none, .p (.mv (.c (.int .i64 3)))⟩])
  .ret) (.seq (.reg [⟨(some 16), none, .p (.bin .eql (.t 8) (.c (.int .i64 108)))⟩,
    ⟨(some 15), none, .p (.mv (.t 16))⟩])
  (.cond (.t 15) (.seq (.reg [⟨(some 4), none, .p (.mv (.c (.int .i64 6)))⟩])
  .ret) (.seq (.reg [⟨(some 18), none, .p (.bin .eql (.t 8) (.c (.int .i64 109)))⟩,
    ⟨(some 17), none, .p (.mv (.t 18))⟩])
  (.cond (.t 17) (.seq (.reg [⟨(some 4), none, .p (.mv (.c (.int .i64 7)))⟩])
  .ret) (.seq (.reg [⟨(some 20), none, .p (.bin .eql (.t 8) (.c (.int .i64 110)))⟩,
    ⟨(some 19), none, .p (.mv (.t 20))⟩])
  (.cond (.t 19) (.seq (.reg [⟨(some 4), none, .p (.mv (.c (.int .i64 8)))⟩])
  .ret) (.seq (.seq (.reg [⟨(some 22), none, .p (.bin .eql (.t 8) (.c (.int .i64 202)))⟩,
    ⟨(some 21), none, .p (.mv (.t 22))⟩])
  (.cond (.t 21) .skip (.reg [⟨(some 23), none, .p (.bin .eql (.t 8) (.c (.int .i64 304)))⟩,
    ⟨(some 21), none, .p (.mv (.t 23))⟩])))
  (.cond (.t 21) (.seq (.reg [⟨(some 4), none, .p (.mv (.c (.int .i64 1)))⟩])
  .ret) (.seq (.reg [⟨(some 25), none, .p (.bin .eql (.t 8) (.c (.int .i64 305)))⟩,
    ⟨(some 24), none, .p (.mv (.t 25))⟩])
  (.cond (.t 24) (.seq (.reg [⟨(some 4), none, .p (.mv (.c (.int .i64 4)))⟩])
  .ret) (.seq (.reg [⟨(some 27), none, .p (.bin .eql (.t 8) (.c (.int .i64 407)))⟩,
    ⟨(some 26), none, .p (.mv (.t 27))⟩])
  (.cond (.t 26) (.seq (.reg [⟨(some 4), none, .p (.mv (.c (.int .i64 5)))⟩])
  .ret) .skip))))))))))))))))))
  (.seq (.reg [⟨(some 4), none, .p (.mv (.c (.int .i64 0)))⟩])
  .ret)))⟩
theorem c59 : compF Try.prog ⟨fun s => [].contains s, fun _ => []⟩ Try.f59 = some a59 := by kernel_rfl

end Go.Proofs.Ytdkcicbpcagonaa
