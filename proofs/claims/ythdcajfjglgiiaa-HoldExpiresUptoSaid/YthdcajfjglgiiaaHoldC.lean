/- The functions of mirror and reconcile, compiled (printed by gen.sh). -/
import Derived.Test.YthdcajfjglgiiaaAlX
import Derived.Test.YthdcajfjglgiiaaProg
namespace Go.Proofs.Ythdcajfjglgiiaa
open Go Go.AL

/- slices.SortFunc[[]airline/hold.Hold,airline/hold.Hold] -/
def a37 : AFun := ⟨14, [], (.seq (.reg [⟨(some 5), none, .p (.mv (.t 0))⟩,
    ⟨(some 6), none, .p (.lenA (.t 5))⟩,
    ⟨(some 4), none, .p (.mv (.t 6))⟩])
  (.reg [⟨(some 7), none, .p (.mv (.t 0))⟩,
    ⟨(some 8), none, .p (.mv (.t 4))⟩,
    ⟨(some 9), none, .p (.mv (.t 4))⟩,
    ⟨(some 10), none, .p (.conv .u64 (.t 9))⟩,
    ⟨(some 11), none, .call 46 [(.t 10)]⟩,
    ⟨(some 12), none, .p (.mv (.t 1))⟩,
    ⟨(some 13), none, .call 45 [(.t 7), (.c (.int .i64 0)), (.t 8), (.t 11), (.t 12)]⟩]))⟩
theorem c37 : compF Try.prog ⟨fun s => [].contains s, fun _ => []⟩ Try.f40 = some a37 := by kernel_rfl

/- cmp.Or[int] -/
def a39 : AFun := ⟨18, [.tmp 2], (.seq (.reg [⟨(some 2), none, .p (.mv (.c (.int .i64 0)))⟩])
  (.seq (.reg [⟨(some 3), none, .p (.mv (.c (.int .i64 0)))⟩])
  (.seq (.seq (.reg [⟨(some 6), none, .p (.mv (.t 0))⟩,
    ⟨(some 7), none, .p (.lenA (.t 6))⟩,
    ⟨(some 8), none, .p (.mv (.c (.int .i64 0)))⟩])
  (.block 0 (.loop (.seq (.reg [⟨(some 9), none, .p (.bin .lss (.t 8) (.t 7))⟩])
  (.seq (.cond (.t 9) .skip (.exit 0))
  (.seq (.block 1 (.seq (.reg [⟨(some 10), none, .p (.idxA 1 (.t 6) (.t 8))⟩,
    ⟨(some 11), none, .p (.ld1 (.t 10))⟩,
    ⟨(some 5), none, .p (.mv (.t 11))⟩])
  (.seq (.reg [⟨(some 12), none, .p (.mv (.t 5))⟩,
    ⟨(some 13), none, .p (.mv (.t 3))⟩,
    ⟨(some 14), none, .p (.bin .neq (.t 12) (.t 13))⟩])
  (.cond (.t 14) (.seq (.reg [⟨(some 15), none, .p (.mv (.t 5))⟩,
    ⟨(some 2), none, .p (.mv (.t 15))⟩])
  .ret) .skip))))
  (.reg [⟨(some 16), none, .p (.bin .add (.t 8) (.c (.int .i64 1)))⟩,
    ⟨(some 8), none, .p (.mv (.t 16))⟩])))))))
  (.seq (.reg [⟨(some 17), none, .p (.mv (.t 3))⟩,
    ⟨(some 2), none, .p (.mv (.t 17))⟩])
  .ret))))⟩
theorem c39 : compF Try.prog ⟨fun s => [].contains s, fun _ => []⟩ Try.f32 = some a39 := by kernel_rfl

/- cmp.Compare[int] -/
def a40 : AFun := ⟨20, [.tmp 4], (.seq (.reg [⟨(some 4), none, .p (.mv (.c (.int .i64 0)))⟩])
  (.seq (.reg [⟨(some 7), none, .p (.mv (.t 0))⟩,
    ⟨(some 8), none, .call 42 [(.t 7)]⟩,
    ⟨(some 5), none, .p (.mv (.t 8))⟩])
  (.seq (.reg [⟨(some 9), none, .p (.mv (.t 1))⟩,
    ⟨(some 10), none, .call 42 [(.t 9)]⟩,
    ⟨(some 6), none, .p (.mv (.t 10))⟩])
  (.seq (.seq (.reg [⟨(some 11), none, .p (.mv (.t 5))⟩])
  (.cond (.t 11) (.seq (.seq (.reg [⟨(some 12), none, .p (.mv (.t 6))⟩])
  (.cond (.t 12) (.seq (.reg [⟨(some 4), none, .p (.mv (.c (.int .i64 0)))⟩])
  .ret) .skip))
  (.seq (.reg [⟨(some 4), none, .p (.mv (.c (.int .i64 (-1))))⟩])
  .ret)) .skip))
  (.seq (.seq (.reg [⟨(some 13), none, .p (.mv (.t 6))⟩])
  (.cond (.t 13) (.seq (.reg [⟨(some 4), none, .p (.mv (.c (.int .i64 1)))⟩])
  .ret) .skip))
  (.seq (.seq (.reg [⟨(some 14), none, .p (.mv (.t 0))⟩,
    ⟨(some 15), none, .p (.mv (.t 1))⟩,
    ⟨(some 16), none, .p (.bin .lss (.t 14) (.t 15))⟩])
  (.cond (.t 16) (.seq (.reg [⟨(some 4), none, .p (.mv (.c (.int .i64 (-1))))⟩])
  .ret) .skip))
  (.seq (.seq (.reg [⟨(some 17), none, .p (.mv (.t 0))⟩,
    ⟨(some 18), none, .p (.mv (.t 1))⟩,
    ⟨(some 19), none, .p (.bin .gtr (.t 17) (.t 18))⟩])
  (.cond (.t 19) (.seq (.reg [⟨(some 4), none, .p (.mv (.c (.int .i64 1)))⟩])
  .ret) .skip))
  (.seq (.reg [⟨(some 4), none, .p (.mv (.c (.int .i64 0)))⟩])
  .ret))))))))⟩
theorem c40 : compF Try.prog ⟨fun s => [].contains s, fun _ => []⟩ Try.f33 = some a40 := by kernel_rfl

/- slices.pdqsortCmpFunc[airline/hold.Hold] -/
def a51 : AFun := ⟨148, [], (.seq (.reg [⟨(some 10), none, .p (.mv (.c (.bool true)))⟩])
  (.seq (.reg [⟨(some 11), none, .p (.mv (.c (.bool true)))⟩])
  (.block 0 (.loop (.block 1 (.seq (.reg [⟨(some 21), none, .p (.mv (.t 2))⟩,
    ⟨(some 22), none, .p (.mv (.t 1))⟩,
    ⟨(some 23), none, .p (.bin .sub (.t 21) (.t 22))⟩,
    ⟨(some 12), none, .p (.mv (.t 23))⟩])
  (.seq (.seq (.reg [⟨(some 24), none, .p (.mv (.t 12))⟩,
    ⟨(some 25), none, .p (.bin .leq (.t 24) (.c (.int .i64 12)))⟩])
  (.cond (.t 25) (.seq (.reg [⟨(some 26), none, .p (.mv (.t 0))⟩,
    ⟨(some 27), none, .p (.mv (.t 1))⟩,
    ⟨(some 28), none, .p (.mv (.t 2))⟩,
    ⟨(some 29), none, .p (.mv (.t 4))⟩,
    ⟨(some 30), none, .call 47 [(.t 26), (.t 27), (.t 28), (.t 29)]⟩])
  .ret) .skip))
  (.seq (.seq (.reg [⟨(some 31), none, .p (.mv (.t 3))⟩,
    ⟨(some 32), none, .p (.bin .eql (.t 31) (.c (.int .i64 0)))⟩])
  (.cond (.t 32) (.seq (.reg [⟨(some 33), none, .p (.mv (.t 0))⟩,
    ⟨(some 34), none, .p (.mv (.t 1))⟩,
    ⟨(some 35), none, .p (.mv (.t 2))⟩,
    ⟨(some 36), none, .p (.mv (.t 4))⟩,
    ⟨(some 37), none, .call 48 [(.t 33), (.t 34), (.t 35), (.t 36)]⟩])
  .ret) .skip))
  (.seq (.seq (.reg [⟨(some 38), none, .p (.mv (.t 10))⟩,
    ⟨(some 39), none, .p (.not (.t 38))⟩])
  (.cond (.t 39) (.seq (.reg [⟨(some 40), none, .p (.mv (.t 0))⟩,
    ⟨(some 41), none, .p (.mv (.t 1))⟩,
    ⟨(some 42), none, .p (.mv (.t 2))⟩,
    ⟨(some 43), none, .p (.mv (.t 4))⟩,
    ⟨(some 44), none, .call 49 [(.t 40), (.t 41), (.t 42), (.t 43)]⟩])
  (.reg [⟨(some 45), none, .p (.mv (.t 3))⟩,
    ⟨(some 46), none, .p (.bin .sub (.t 45) (.c (.int .i64 1)))⟩,
    ⟨(some 3), none, .p (.mv (.t 46))⟩])) .skip))
  (.seq (.reg [⟨(some 48), none, .p (.mv (.t 0))⟩,
    ⟨(some 49), none, .p (.mv (.t 1))⟩,
    ⟨(some 50), none, .p (.mv (.t 2))⟩,
    ⟨(some 51), none, .p (.mv (.t 4))⟩,
    ⟨(some 52), none, .call 50 [(.t 48), (.t 49), (.t 50), (.t 51)]⟩,
    ⟨(some 47), none, .p (.mv (.t 52))⟩,
    ⟨(some 53), none, .p (.ext 0 (.t 47))⟩,
    ⟨(some 54), none, .p (.ext 1 (.t 47))⟩,
    ⟨(some 13), none, .p (.mv (.t 53))⟩,
    ⟨(some 14), none, .p (.mv (.t 54))⟩])
  (.seq (.seq (.reg [⟨(some 55), none, .p (.mv (.t 14))⟩,
    ⟨(some 56), none, .p (.bin .eql (.t 55) (.c (.int .i64 2)))⟩])
  (.cond (.t 56) (.seq (.reg [⟨(some 57), none, .p (.mv (.t 0))⟩,
    ⟨(some 58), none, .p (.mv (.t 1))⟩,
    ⟨(some 59), none, .p (.mv (.t 2))⟩,
    ⟨(some 60), none, .p (.mv (.t 4))⟩,
    ⟨(some 61), none, .call 51 [(.t 57), (.t 58), (.t 59), (.t 60)]⟩])
  (.seq (.reg [⟨(some 62), none, .p (.mv (.t 2))⟩,
    ⟨(some 63), none, .p (.bin .sub (.t 62) (.c (.int .i64 1)))⟩,
    ⟨(some 64), none, .p (.mv (.t 13))⟩,
    ⟨(some 65), none, .p (.mv (.t 1))⟩,
    ⟨(some 66), none, .p (.bin .sub (.t 64) (.t 65))⟩,
    ⟨(some 67), none, .p (.bin .sub (.t 63) (.t 66))⟩,
    ⟨(some 13), none, .p (.mv (.t 67))⟩])
  (.reg [⟨(some 14), none, .p (.mv (.c (.int .i64 1)))⟩]))) .skip))
  (.seq (.seq (.reg [⟨(some 68), none, .p (.mv (.t 10))⟩,
    ⟨(some 69), none, .p (.mv (.t 68))⟩,
    ⟨(some 70), (some (69, true)), .p (.mv (.t 11))⟩,
    ⟨(some 71), none, .p (.pick (.t 69) (.t 70) (.c (.bool false)))⟩,
    ⟨(some 72), none, .p (.mv (.t 71))⟩,
    ⟨(some 73), (some (72, true)), .p (.mv (.t 14))⟩,
    ⟨(some 74), (some (72, true)), .p (.bin .eql (.t 73) (.c (.int .i64 1)))⟩,
    ⟨(some 75), none, .p (.pick (.t 72) (.t 74) (.c (.bool false)))⟩])
  (.cond (.t 75) (.seq (.reg [⟨(some 76), none, .p (.mv (.t 0))⟩,
    ⟨(some 77), none, .p (.mv (.t 1))⟩,
    ⟨(some 78), none, .p (.mv (.t 2))⟩,
    ⟨(some 79), none, .p (.mv (.t 4))⟩,
    ⟨(some 80), none, .call 52 [(.t 76), (.t 77), (.t 78), (.t 79)]⟩])
  (.cond (.t 80) .ret .skip)) .skip))
  (.seq (.seq (.oreg [(.quiet, ⟨(some 81), none, .p (.mv (.t 1))⟩),
    (.quiet, ⟨(some 82), none, .p (.bin .gtr (.t 81) (.c (.int .i64 0)))⟩),
    (.quiet, ⟨(some 83), none, .p (.mv (.t 82))⟩),
    (.quiet, ⟨(some 84), (some (83, true)), .p (.mv (.t 4))⟩),
    (.quiet, ⟨(some 85), (some (83, true)), .p (.mv (.t 0))⟩),
    (.quiet, ⟨(some 86), (some (83, true)), .p (.mv (.t 1))⟩),
    (.quiet, ⟨(some 87), (some (83, true)), .p (.bin .sub (.t 86) (.c (.int .i64 1)))⟩),
    (.quiet, ⟨(some 88), (some (83, true)), .p (.idxA 5 (.t 85) (.t 87))⟩),
    (.quiet, ⟨(some 89), (some (83, true)), .p (.ldn 5 (.t 88))⟩),
    (.quiet, ⟨(some 90), (some (83, true)), .p (.mv (.t 0))⟩),
    (.quiet, ⟨(some 91), (some (83, true)), .p (.mv (.t 13))⟩),
    (.quiet, ⟨(some 92), (some (83, true)), .p (.idxA 5 (.t 90) (.t 91))⟩),
    (.quiet, ⟨(some 93), (some (83, true)), .p (.ldn 5 (.t 92))⟩),
    (.loud, ⟨(some 94), (some (83, true)), .callv (.t 84) [(.t 89), (.t 93)]⟩),
    (.quiet, ⟨(some 95), (some (83, true)), .p (.bin .lss (.t 94) (.c (.int .i64 0)))⟩),
    (.quiet, ⟨(some 96), (some (83, true)), .p (.not (.t 95))⟩),
    (.quiet, ⟨(some 97), none, .p (.pick (.t 83) (.t 96) (.c (.bool false)))⟩)])
  (.cond (.t 97) (.seq (.reg [⟨(some 98), none, .p (.mv (.t 0))⟩,
    ⟨(some 99), none, .p (.mv (.t 1))⟩,
    ⟨(some 100), none, .p (.mv (.t 2))⟩,
    ⟨(some 101), none, .p (.mv (.t 13))⟩,
    ⟨(some 102), none, .p (.mv (.t 4))⟩,
    ⟨(some 103), none, .call 53 [(.t 98), (.t 99), (.t 100), (.t 101), (.t 102)]⟩,
    ⟨(some 15), none, .p (.mv (.t 103))⟩])
  (.seq (.reg [⟨(some 104), none, .p (.mv (.t 15))⟩,
    ⟨(some 1), none, .p (.mv (.t 104))⟩])
  (.exit 1))) .skip))
  (.seq (.reg [⟨(some 106), none, .p (.mv (.t 0))⟩,
    ⟨(some 107), none, .p (.mv (.t 1))⟩,
    ⟨(some 108), none, .p (.mv (.t 2))⟩,
    ⟨(some 109), none, .p (.mv (.t 13))⟩,
    ⟨(some 110), none, .p (.mv (.t 4))⟩,
    ⟨(some 111), none, .call 54 [(.t 106), (.t 107), (.t 108), (.t 109), (.t 110)]⟩,
    ⟨(some 105), none, .p (.mv (.t 111))⟩,
    ⟨(some 112), none, .p (.ext 0 (.t 105))⟩,
    ⟨(some 113), none, .p (.ext 1 (.t 105))⟩,
    ⟨(some 16), none, .p (.mv (.t 112))⟩,
    ⟨(some 17), none, .p (.mv (.t 113))⟩])
  (.seq (.reg [⟨(some 114), none, .p (.mv (.t 17))⟩,
    ⟨(some 11), none, .p (.mv (.t 114))⟩])
  (.seq (.reg [⟨(some 115), none, .p (.mv (.t 16))⟩,
    ⟨(some 116), none, .p (.mv (.t 1))⟩,
    ⟨(some 117), none, .p (.bin .sub (.t 115) (.t 116))⟩,
    ⟨(some 118), none, .p (.mv (.t 2))⟩,
    ⟨(some 119), none, .p (.mv (.t 16))⟩,
    ⟨(some 120), none, .p (.bin .sub (.t 118) (.t 119))⟩,
    ⟨(some 18), none, .p (.mv (.t 117))⟩,
    ⟨(some 19), none, .p (.mv (.t 120))⟩])
  (.seq (.reg [⟨(some 121), none, .p (.mv (.t 12))⟩,
    ⟨(some 122), none, .p (.bin .quo (.t 121) (.c (.int .i64 8)))⟩,
    ⟨(some 20), none, .p (.mv (.t 122))⟩])
  (.seq (.reg [⟨(some 123), none, .p (.mv (.t 18))⟩,
    ⟨(some 124), none, .p (.mv (.t 19))⟩,
    ⟨(some 125), none, .p (.bin .lss (.t 123) (.t 124))⟩])
  (.cond (.t 125) (.seq (.reg [⟨(some 126), none, .p (.mv (.t 18))⟩,
    ⟨(some 127), none, .p (.mv (.t 20))⟩,
    ⟨(some 128), none, .p (.bin .geq (.t 126) (.t 127))⟩,
    ⟨(some 10), none, .p (.mv (.t 128))⟩])
  (.seq (.reg [⟨(some 129), none, .p (.mv (.t 0))⟩,
    ⟨(some 130), none, .p (.mv (.t 1))⟩,
    ⟨(some 131), none, .p (.mv (.t 16))⟩,
    ⟨(some 132), none, .p (.mv (.t 3))⟩,
    ⟨(some 133), none, .p (.mv (.t 4))⟩,
    ⟨(some 134), none, .call 45 [(.t 129), (.t 130), (.t 131), (.t 132), (.t 133)]⟩])
  (.reg [⟨(some 135), none, .p (.mv (.t 16))⟩,
    ⟨(some 136), none, .p (.bin .add (.t 135) (.c (.int .i64 1)))⟩,
    ⟨(some 1), none, .p (.mv (.t 136))⟩]))) (.seq (.reg [⟨(some 137), none, .p (.mv (.t 19))⟩,
    ⟨(some 138), none, .p (.mv (.t 20))⟩,
    ⟨(some 139), none, .p (.bin .geq (.t 137) (.t 138))⟩,
    ⟨(some 10), none, .p (.mv (.t 139))⟩])
  (.seq (.reg [⟨(some 140), none, .p (.mv (.t 0))⟩,
    ⟨(some 141), none, .p (.mv (.t 16))⟩,
    ⟨(some 142), none, .p (.bin .add (.t 141) (.c (.int .i64 1)))⟩,
    ⟨(some 143), none, .p (.mv (.t 2))⟩,
    ⟨(some 144), none, .p (.mv (.t 3))⟩,
    ⟨(some 145), none, .p (.mv (.t 4))⟩,
    ⟨(some 146), none, .call 45 [(.t 140), (.t 142), (.t 143), (.t 144), (.t 145)]⟩])
  (.reg [⟨(some 147), none, .p (.mv (.t 16))⟩,
    ⟨(some 2), none, .p (.mv (.t 147))⟩]))))))))))))))))))))))⟩
theorem c51 : compF Try.prog ⟨fun s => [].contains s, fun r => match r with | 17 => [(0, .quiet), (1, .quiet), (2, .quiet), (3, .quiet), (4, .quiet), (5, .quiet), (6, .quiet), (7, .quiet), (8, .quiet), (9, .quiet), (10, .quiet), (11, .quiet), (12, .quiet), (13, .loud), (14, .quiet), (15, .quiet), (16, .quiet)] | _ => []⟩ Try.f45 = some a51 := by kernel_rfl

/- math/bits.Len -/
def a52 : AFun := ⟨8, [.tmp 2], (.seq (.reg [⟨(some 2), none, .p (.mv (.c (.int .i64 0)))⟩])
  (.seq (.cond (.c (.bool false)) (.seq (.reg [⟨(some 3), none, .p (.mv (.t 0))⟩,
    ⟨(some 4), none, .p (.conv .u32 (.t 3))⟩,
    ⟨(some 5), none, .call 55 [(.t 4)]⟩,
    ⟨(some 2), none, .p (.mv (.t 5))⟩])
  .ret) .skip)
  (.seq (.reg [⟨(some 6), none, .p (.mv (.t 0))⟩,
    ⟨(some 7), none, .call 56 [(.t 6)]⟩,
    ⟨(some 2), none, .p (.mv (.t 7))⟩])
  .ret)))⟩
theorem c52 : compF Try.prog ⟨fun s => [].contains s, fun _ => []⟩ Try.f46 = some a52 := by kernel_rfl

/- cmp.isNaN[int] -/
def a53 : AFun := ⟨6, [.tmp 2], (.seq (.reg [⟨(some 2), none, .p (.mv (.c (.bool false)))⟩])
  (.seq (.reg [⟨(some 3), none, .p (.mv (.t 0))⟩,
    ⟨(some 4), none, .p (.mv (.t 0))⟩,
    ⟨(some 5), none, .p (.bin .neq (.t 3) (.t 4))⟩,
    ⟨(some 2), none, .p (.mv (.t 5))⟩])
  .ret))⟩
theorem c53 : compF Try.prog ⟨fun s => [].contains s, fun _ => []⟩ Try.f42 = some a53 := by kernel_rfl

/- slices.insertionSortCmpFunc[airline/hold.Hold] -/
def a60 : AFun := ⟨53, [], (.seq (.reg [⟨(some 10), none, .p (.mv (.t 1))⟩,
    ⟨(some 11), none, .p (.bin .add (.t 10) (.c (.int .i64 1)))⟩,
    ⟨(some 8), none, .p (.mv (.t 11))⟩])
  (.block 0 (.loop (.seq (.seq (.reg [⟨(some 12), none, .p (.mv (.t 8))⟩,
    ⟨(some 13), none, .p (.mv (.t 2))⟩,
    ⟨(some 14), none, .p (.bin .lss (.t 12) (.t 13))⟩])
  (.cond (.t 14) .skip (.exit 0)))
  (.seq (.block 1 (.seq (.reg [⟨(some 17), none, .p (.mv (.t 8))⟩,
    ⟨(some 9), none, .p (.mv (.t 17))⟩])
  (.block 2 (.loop (.seq (.seq (.oreg [(.quiet, ⟨(some 18), none, .p (.mv (.t 9))⟩),
    (.quiet, ⟨(some 19), none, .p (.mv (.t 1))⟩),
    (.quiet, ⟨(some 20), none, .p (.bin .gtr (.t 18) (.t 19))⟩),
    (.quiet, ⟨(some 21), none, .p (.mv (.t 20))⟩),
    (.quiet, ⟨(some 22), (some (21, true)), .p (.mv (.t 3))⟩),
    (.quiet, ⟨(some 23), (some (21, true)), .p (.mv (.t 0))⟩),
    (.quiet, ⟨(some 24), (some (21, true)), .p (.mv (.t 9))⟩),
    (.quiet, ⟨(some 25), (some (21, true)), .p (.idxA 5 (.t 23) (.t 24))⟩),
    (.quiet, ⟨(some 26), (some (21, true)), .p (.ldn 5 (.t 25))⟩),
    (.quiet, ⟨(some 27), (some (21, true)), .p (.mv (.t 0))⟩),
    (.quiet, ⟨(some 28), (some (21, true)), .p (.mv (.t 9))⟩),
    (.quiet, ⟨(some 29), (some (21, true)), .p (.bin .sub (.t 28) (.c (.int .i64 1)))⟩),
    (.quiet, ⟨(some 30), (some (21, true)), .p (.idxA 5 (.t 27) (.t 29))⟩),
    (.quiet, ⟨(some 31), (some (21, true)), .p (.ldn 5 (.t 30))⟩),
    (.loud, ⟨(some 32), (some (21, true)), .callv (.t 22) [(.t 26), (.t 31)]⟩),
    (.quiet, ⟨(some 33), (some (21, true)), .p (.bin .lss (.t 32) (.c (.int .i64 0)))⟩),
    (.quiet, ⟨(some 34), none, .p (.pick (.t 21) (.t 33) (.c (.bool false)))⟩)])
  (.cond (.t 34) .skip (.exit 2)))
  (.seq (.block 3 (.oreg [(.quiet, ⟨(some 37), none, .p (.mv (.t 0))⟩),
    (.quiet, ⟨(some 38), none, .p (.mv (.t 9))⟩),
    (.stable, ⟨(some 39), none, .p (.mv (.t 0))⟩),
    (.stable, ⟨(some 40), none, .p (.mv (.t 9))⟩),
    (.stable, ⟨(some 41), none, .p (.bin .sub (.t 40) (.c (.int .i64 1)))⟩),
    (.quiet, ⟨(some 42), none, .p (.mv (.t 0))⟩),
    (.quiet, ⟨(some 43), none, .p (.mv (.t 9))⟩),
    (.quiet, ⟨(some 44), none, .p (.bin .sub (.t 43) (.c (.int .i64 1)))⟩),
    (.quiet, ⟨(some 45), none, .p (.idxA 5 (.t 42) (.t 44))⟩),
    (.quiet, ⟨(some 46), none, .p (.ldn 5 (.t 45))⟩),
    (.quiet, ⟨(some 47), none, .p (.mv (.t 0))⟩),
    (.quiet, ⟨(some 48), none, .p (.mv (.t 9))⟩),
    (.quiet, ⟨(some 49), none, .p (.idxA 5 (.t 47) (.t 48))⟩),
    (.quiet, ⟨(some 50), none, .p (.ldn 5 (.t 49))⟩),
    (.quiet, ⟨(some 51), none, .p (.idxA 5 (.t 37) (.t 38))⟩),
    (.loud, ⟨none, none, .st 5 (.t 51) (.t 46)⟩),
    (.quiet, ⟨(some 52), none, .p (.idxA 5 (.t 39) (.t 41))⟩),
    (.loud, ⟨none, none, .st 5 (.t 52) (.t 50)⟩)]))
  (.reg [⟨(some 35), none, .p (.mv (.t 9))⟩,
    ⟨(some 36), none, .p (.bin .sub (.t 35) (.c (.int .i64 1)))⟩,
    ⟨(some 9), none, .p (.mv (.t 36))⟩])))))))
  (.reg [⟨(some 15), none, .p (.mv (.t 8))⟩,
    ⟨(some 16), none, .p (.bin .add (.t 15) (.c (.int .i64 1)))⟩,
    ⟨(some 8), none, .p (.mv (.t 16))⟩]))))))⟩
theorem c60 : compF Try.prog ⟨fun s => [].contains s, fun r => match r with | 4 => [(0, .quiet), (1, .quiet), (2, .quiet), (3, .quiet), (4, .quiet), (5, .quiet), (6, .quiet), (7, .quiet), (8, .quiet), (9, .quiet), (10, .quiet), (11, .quiet), (12, .quiet), (13, .quiet), (14, .loud), (15, .quiet), (16, .quiet)]  | 6 => [(0, .quiet), (1, .quiet), (2, .stable), (3, .stable), (4, .stable), (5, .quiet), (6, .quiet), (7, .quiet), (8, .quiet), (9, .quiet), (10, .quiet), (11, .quiet), (12, .quiet), (13, .quiet), (14, .quiet), (15, .loud), (16, .quiet), (17, .loud)] | _ => []⟩ Try.f47 = some a60 := by kernel_rfl

/- math/bits.Len64 -/
def a69 : AFun := ⟨25, [.tmp 2], (.seq (.reg [⟨(some 2), none, .p (.mv (.c (.int .i64 0)))⟩])
  (.seq (.seq (.reg [⟨(some 3), none, .p (.mv (.t 0))⟩,
    ⟨(some 4), none, .p (.bin .geq (.t 3) (.c (.int .u64 4294967296)))⟩])
  (.cond (.t 4) (.seq (.reg [⟨(some 5), none, .p (.mv (.t 0))⟩,
    ⟨(some 6), none, .p (.bin .shr (.t 5) (.c (.int .u64 32)))⟩,
    ⟨(some 0), none, .p (.mv (.t 6))⟩])
  (.reg [⟨(some 2), none, .p (.mv (.c (.int .i64 32)))⟩])) .skip))
  (.seq (.seq (.reg [⟨(some 7), none, .p (.mv (.t 0))⟩,
    ⟨(some 8), none, .p (.bin .geq (.t 7) (.c (.int .u64 65536)))⟩])
  (.cond (.t 8) (.seq (.reg [⟨(some 9), none, .p (.mv (.t 0))⟩,
    ⟨(some 10), none, .p (.bin .shr (.t 9) (.c (.int .u64 16)))⟩,
    ⟨(some 0), none, .p (.mv (.t 10))⟩])
  (.reg [⟨(some 11), none, .p (.mv (.t 2))⟩,
    ⟨(some 12), none, .p (.bin .add (.t 11) (.c (.int .i64 16)))⟩,
    ⟨(some 2), none, .p (.mv (.t 12))⟩])) .skip))
  (.seq (.seq (.reg [⟨(some 13), none, .p (.mv (.t 0))⟩,
    ⟨(some 14), none, .p (.bin .geq (.t 13) (.c (.int .u64 256)))⟩])
  (.cond (.t 14) (.seq (.reg [⟨(some 15), none, .p (.mv (.t 0))⟩,
    ⟨(some 16), none, .p (.bin .shr (.t 15) (.c (.int .u64 8)))⟩,
    ⟨(some 0), none, .p (.mv (.t 16))⟩])
  (.reg [⟨(some 17), none, .p (.mv (.t 2))⟩,
    ⟨(some 18), none, .p (.bin .add (.t 17) (.c (.int .i64 8)))⟩,
    ⟨(some 2), none, .p (.mv (.t 18))⟩])) .skip))
  (.seq (.reg [⟨(some 19), none, .p (.mv (.t 2))⟩,
    ⟨(some 20), none, .p (.mv (.t 0))⟩,
    ⟨(some 21), none, .p (.conv .u8 (.t 20))⟩,
    ⟨(some 22), none, .p (.idxS (.c (.str [0, 1, 2, 2, 3, 3, 3, 3, 4, 4, 4, 4, 4, 4, 4, 4, 5, 5, 5, 5, 5, 5, 5, 5, 5, 5, 5, 5, 5, 5, 5, 5, 6, 6, 6, 6, 6, 6, 6, 6, 6, 6, 6, 6, 6, 6, 6, 6, 6, 6, 6, 6, 6, 6, 6, 6, 6, 6, 6, 6, 6, 6, 6, 6, 7, 7, 7, 7, 7, 7, 7, 7, 7, 7, 7, 7, 7, 7, 7, 7, 7, 7, 7, 7, 7, 7, 7, 7, 7, 7, 7, 7, 7, 7, 7, 7, 7, 7, 7, 7, 7, 7, 7, 7, 7, 7, 7, 7, 7, 7, 7, 7, 7, 7, 7, 7, 7, 7, 7, 7, 7, 7, 7, 7, 7, 7, 7, 7, 8, 8, 8, 8, 8, 8, 8, 8, 8, 8, 8, 8, 8, 8, 8, 8, 8, 8, 8, 8, 8, 8, 8, 8, 8, 8, 8, 8, 8, 8, 8, 8, 8, 8, 8, 8, 8, 8, 8, 8, 8, 8, 8, 8, 8, 8, 8, 8, 8, 8, 8, 8, 8, 8, 8, 8, 8, 8, 8, 8, 8, 8, 8, 8, 8, 8, 8, 8, 8, 8, 8, 8, 8, 8, 8, 8, 8, 8, 8, 8, 8, 8, 8, 8, 8, 8, 8, 8, 8, 8, 8, 8, 8, 8, 8, 8, 8, 8, 8, 8, 8, 8, 8, 8, 8, 8, 8, 8, 8, 8, 8, 8, 8, 8, 8, 8, 8, 8, 8, 8, 8, 8, 8, 8, 8, 8, 8, 8])) (.t 21))⟩,
    ⟨(some 23), none, .p (.conv .i64 (.t 22))⟩,
    ⟨(some 24), none, .p (.bin .add (.t 19) (.t 23))⟩,
    ⟨(some 2), none, .p (.mv (.t 24))⟩])
  .ret)))))⟩
theorem c69 : compF Try.prog ⟨fun s => [].contains s, fun _ => []⟩ Try.f56 = some a69 := by kernel_rfl

/- airline/airlinelaw16.HoldExpires -/
def a303 : AFun := ⟨145, [.tmp 4], (.seq (.reg [⟨(some 4), none, .p (.mv (.c (.bool false)))⟩])
  (.seq (.seq (.reg [⟨(some 16), none, .p (.mv (.t 0))⟩,
    ⟨(some 17), none, .p (.lenA (.t 16))⟩,
    ⟨(some 18), none, .p (.bin .gtr (.t 17) (.c (.int .i64 20)))⟩])
  (.cond (.t 18) (.seq (.reg [⟨(some 19), none, .call 7 []⟩,
    ⟨(some 4), none, .p (.mv (.t 19))⟩])
  .ret) .skip))
  (.seq (.reg [⟨(some 20), none, .call 8 []⟩,
    ⟨(some 5), none, .p (.mv (.t 20))⟩])
  (.seq (.seq (.reg [⟨(some 6), none, .p (.mv (.c (.int .i64 0)))⟩])
  (.block 0 (.loop (.seq (.seq (.reg [⟨(some 21), none, .p (.mv (.t 6))⟩,
    ⟨(some 22), none, .p (.mv (.t 0))⟩,
    ⟨(some 23), none, .p (.lenA (.t 22))⟩,
    ⟨(some 24), none, .p (.bin .lss (.t 21) (.t 23))⟩])
  (.cond (.t 24) .skip (.exit 0)))
  (.seq (.block 1 (.seq (.seq (.reg [⟨(some 27), none, .p (.mv (.t 0))⟩,
    ⟨(some 28), none, .p (.mv (.t 6))⟩,
    ⟨(some 29), none, .p (.idxA 5 (.t 27) (.t 28))⟩,
    ⟨(some 30), none, .p (.faddr 1 (.t 29))⟩,
    ⟨(some 31), none, .p (.ld1 (.t 30))⟩,
    ⟨(some 32), none, .p (.lenA (.t 31))⟩,
    ⟨(some 33), none, .p (.bin .gtr (.t 32) (.c (.int .i64 8)))⟩])
  (.cond (.t 33) (.seq (.reg [⟨(some 34), none, .call 7 []⟩,
    ⟨(some 4), none, .p (.mv (.t 34))⟩])
  .ret) .skip))
  (.reg [⟨(some 35), none, .p (.mv (.t 5))⟩,
    ⟨(some 36), none, .p (.mv (.t 0))⟩,
    ⟨(some 37), none, .p (.mv (.t 6))⟩,
    ⟨(some 38), none, .p (.idxA 5 (.t 36) (.t 37))⟩,
    ⟨(some 39), none, .p (.ldn 5 (.t 38))⟩,
    ⟨(some 40), none, .call 9 [(.t 35), (.t 39)]⟩])))
  (.reg [⟨(some 25), none, .p (.mv (.t 6))⟩,
    ⟨(some 26), none, .p (.bin .add (.t 25) (.c (.int .i64 1)))⟩,
    ⟨(some 6), none, .p (.mv (.t 26))⟩]))))))
  (.seq (.reg [⟨(some 41), none, .p (.mv (.t 5))⟩,
    ⟨(some 42), none, .call 10 [(.t 41)]⟩,
    ⟨(some 43), none, .p (.lenA (.t 42))⟩,
    ⟨(some 7), none, .p (.mv (.t 43))⟩])
  (.seq (.reg [⟨(some 44), none, .p (.mv (.t 5))⟩,
    ⟨(some 45), none, .p (.mv (.t 1))⟩,
    ⟨(some 46), none, .call 11 [(.t 44), (.t 45)]⟩,
    ⟨(some 8), none, .p (.mv (.t 46))⟩])
  (.seq (.seq (.reg [⟨(some 9), none, .p (.mv (.c (.int .i64 0)))⟩])
  (.block 2 (.loop (.seq (.seq (.reg [⟨(some 47), none, .p (.mv (.t 9))⟩,
    ⟨(some 48), none, .p (.mv (.t 8))⟩,
    ⟨(some 49), none, .p (.lenA (.t 48))⟩,
    ⟨(some 50), none, .p (.bin .lss (.t 47) (.t 49))⟩])
  (.cond (.t 50) .skip (.exit 2)))
  (.seq (.block 3 (.seq (.reg [⟨(some 54), none, .p (.mv (.t 5))⟩,
    ⟨(some 55), none, .p (.mv (.t 8))⟩,
    ⟨(some 56), none, .p (.mv (.t 9))⟩,
    ⟨(some 57), none, .p (.idxA 5 (.t 55) (.t 56))⟩,
    ⟨(some 58), none, .p (.faddr 0 (.t 57))⟩,
    ⟨(some 59), none, .p (.ld1 (.t 58))⟩,
    ⟨(some 60), none, .call 12 [(.t 54), (.t 59)]⟩,
    ⟨(some 53), none, .p (.mv (.t 60))⟩,
    ⟨(some 61), none, .p (.ext 0 (.t 53))⟩,
    ⟨(some 62), none, .p (.ext 1 (.t 53))⟩,
    ⟨(some 10), none, .newO 31 [(.int .i64 0), .nilSl, (.str []), (.int .i64 0), (.int .i64 0)]⟩,
    ⟨none, none, .st 5 (.t 10) (.t 61)⟩,
    ⟨(some 11), none, .p (.mv (.t 62))⟩])
  (.seq (.reg [⟨(some 63), none, .p (.mv (.t 8))⟩,
    ⟨(some 64), none, .p (.mv (.t 9))⟩,
    ⟨(some 65), none, .p (.idxA 5 (.t 63) (.t 64))⟩,
    ⟨(some 66), none, .p (.faddr 4 (.t 65))⟩,
    ⟨(some 67), none, .p (.ld1 (.t 66))⟩,
    ⟨(some 68), none, .p (.mv (.t 1))⟩,
    ⟨(some 69), none, .p (.bin .gtr (.t 67) (.t 68))⟩,
    ⟨(some 70), none, .p (.mv (.t 69))⟩,
    ⟨(some 71), (some (70, false)), .p (.mv (.t 11))⟩,
    ⟨(some 72), (some (70, false)), .p (.bin .neq (.t 71) (.c (.int .i64 7)))⟩,
    ⟨(some 73), none, .p (.pick (.t 70) (.c (.bool true)) (.t 72))⟩])
  (.cond (.t 73) (.seq (.reg [⟨(some 4), none, .p (.mv (.c (.bool false)))⟩])
  .ret) .skip))))
  (.reg [⟨(some 51), none, .p (.mv (.t 9))⟩,
    ⟨(some 52), none, .p (.bin .add (.t 51) (.c (.int .i64 1)))⟩,
    ⟨(some 9), none, .p (.mv (.t 52))⟩]))))))
  (.seq (.reg [⟨(some 74), none, .p (.mv (.t 5))⟩,
    ⟨(some 75), none, .call 10 [(.t 74)]⟩,
    ⟨(some 12), none, .p (.mv (.t 75))⟩])
  (.seq (.seq (.reg [⟨(some 76), none, .p (.mv (.t 12))⟩,
    ⟨(some 77), none, .p (.lenA (.t 76))⟩,
    ⟨(some 78), none, .p (.mv (.t 8))⟩,
    ⟨(some 79), none, .p (.lenA (.t 78))⟩,
    ⟨(some 80), none, .p (.bin .add (.t 77) (.t 79))⟩,
    ⟨(some 81), none, .p (.mv (.t 7))⟩,
    ⟨(some 82), none, .p (.bin .neq (.t 80) (.t 81))⟩])
  (.cond (.t 82) (.seq (.reg [⟨(some 4), none, .p (.mv (.c (.bool false)))⟩])
  .ret) .skip))
  (.seq (.seq (.reg [⟨(some 13), none, .p (.mv (.c (.int .i64 0)))⟩])
  (.block 4 (.loop (.seq (.seq (.reg [⟨(some 83), none, .p (.mv (.t 13))⟩,
    ⟨(some 84), none, .p (.mv (.t 12))⟩,
    ⟨(some 85), none, .p (.lenA (.t 84))⟩,
    ⟨(some 86), none, .p (.bin .lss (.t 83) (.t 85))⟩])
  (.cond (.t 86) .skip (.exit 4)))
  (.seq (.block 5 (.seq (.reg [⟨(some 90), none, .p (.mv (.t 5))⟩,
    ⟨(some 91), none, .p (.mv (.t 12))⟩,
    ⟨(some 92), none, .p (.mv (.t 13))⟩,
    ⟨(some 93), none, .p (.idxA 5 (.t 91) (.t 92))⟩,
    ⟨(some 94), none, .p (.faddr 0 (.t 93))⟩,
    ⟨(some 95), none, .p (.ld1 (.t 94))⟩,
    ⟨(some 96), none, .call 12 [(.t 90), (.t 95)]⟩,
    ⟨(some 89), none, .p (.mv (.t 96))⟩,
    ⟨(some 97), none, .p (.ext 0 (.t 89))⟩,
    ⟨(some 98), none, .p (.ext 1 (.t 89))⟩,
    ⟨(some 14), none, .newO 31 [(.int .i64 0), .nilSl, (.str []), (.int .i64 0), (.int .i64 0)]⟩,
    ⟨none, none, .st 5 (.t 14) (.t 97)⟩,
    ⟨(some 15), none, .p (.mv (.t 98))⟩])
  (.seq (.oreg [(.quiet, ⟨(some 99), none, .p (.mv (.t 12))⟩),
    (.quiet, ⟨(some 100), none, .p (.mv (.t 13))⟩),
    (.quiet, ⟨(some 101), none, .p (.idxA 5 (.t 99) (.t 100))⟩),
    (.quiet, ⟨(some 102), none, .p (.faddr 4 (.t 101))⟩),
    (.quiet, ⟨(some 103), none, .p (.ld1 (.t 102))⟩),
    (.quiet, ⟨(some 104), none, .p (.mv (.t 1))⟩),
    (.quiet, ⟨(some 105), none, .p (.bin .leq (.t 103) (.t 104))⟩),
    (.quiet, ⟨(some 106), none, .p (.mv (.t 105))⟩),
    (.quiet, ⟨(some 107), (some (106, false)), .p (.mv (.t 15))⟩),
    (.quiet, ⟨(some 108), (some (106, false)), .p (.bin .neq (.t 107) (.c (.int .i64 0)))⟩),
    (.quiet, ⟨(some 109), none, .p (.pick (.t 106) (.c (.bool true)) (.t 108))⟩),
    (.quiet, ⟨(some 110), none, .p (.mv (.t 109))⟩),
    (.quiet, ⟨(some 111), (some (110, false)), .p (.faddr 0 (.t 14))⟩),
    (.quiet, ⟨(some 112), (some (110, false)), .p (.ld1 (.t 111))⟩),
    (.quiet, ⟨(some 113), (some (110, false)), .p (.mv (.t 12))⟩),
    (.quiet, ⟨(some 114), (some (110, false)), .p (.mv (.t 13))⟩),
    (.quiet, ⟨(some 115), (some (110, false)), .p (.idxA 5 (.t 113) (.t 114))⟩),
    (.quiet, ⟨(some 116), (some (110, false)), .p (.faddr 0 (.t 115))⟩),
    (.quiet, ⟨(some 117), (some (110, false)), .p (.ld1 (.t 116))⟩),
    (.quiet, ⟨(some 118), (some (110, false)), .p (.bin .neq (.t 112) (.t 117))⟩),
    (.quiet, ⟨(some 119), none, .p (.pick (.t 110) (.c (.bool true)) (.t 118))⟩),
    (.quiet, ⟨(some 120), none, .p (.mv (.t 119))⟩),
    (.quiet, ⟨(some 121), (some (120, false)), .p (.mv (.t 13))⟩),
    (.quiet, ⟨(some 122), (some (120, false)), .p (.bin .gtr (.t 121) (.c (.int .i64 0)))⟩),
    (.quiet, ⟨(some 123), (some (120, false)), .p (.mv (.t 122))⟩),
    (.quiet, ⟨(some 124), (some (123, true)), .p (.mv (.t 12))⟩),
    (.quiet, ⟨(some 125), (some (123, true)), .p (.mv (.t 13))⟩),
    (.quiet, ⟨(some 126), (some (123, true)), .p (.bin .sub (.t 125) (.c (.int .i64 1)))⟩),
    (.quiet, ⟨(some 127), (some (123, true)), .p (.idxA 5 (.t 124) (.t 126))⟩),
    (.quiet, ⟨(some 128), (some (123, true)), .p (.faddr 4 (.t 127))⟩),
    (.quiet, ⟨(some 129), (some (123, true)), .p (.ld1 (.t 128))⟩),
    (.quiet, ⟨(some 130), (some (123, true)), .p (.mv (.t 12))⟩),
    (.quiet, ⟨(some 131), (some (123, true)), .p (.mv (.t 13))⟩),
    (.quiet, ⟨(some 132), (some (123, true)), .p (.idxA 5 (.t 130) (.t 131))⟩),
    (.quiet, ⟨(some 133), (some (123, true)), .p (.faddr 4 (.t 132))⟩),
    (.quiet, ⟨(some 134), (some (123, true)), .p (.ld1 (.t 133))⟩),
    (.quiet, ⟨(some 135), (some (123, true)), .p (.bin .gtr (.t 129) (.t 134))⟩),
    (.quiet, ⟨(some 136), (some (120, false)), .p (.pick (.t 123) (.t 135) (.c (.bool false)))⟩),
    (.quiet, ⟨(some 137), none, .p (.pick (.t 120) (.c (.bool true)) (.t 136))⟩)])
  (.cond (.t 137) (.seq (.reg [⟨(some 4), none, .p (.mv (.c (.bool false)))⟩])
  .ret) .skip))))
  (.reg [⟨(some 87), none, .p (.mv (.t 13))⟩,
    ⟨(some 88), none, .p (.bin .add (.t 87) (.c (.int .i64 1)))⟩,
    ⟨(some 13), none, .p (.mv (.t 88))⟩]))))))
  (.seq (.reg [⟨(some 138), none, .p (.mv (.t 5))⟩,
    ⟨(some 139), none, .call 10 [(.t 138)]⟩,
    ⟨(some 140), none, .p (.lenA (.t 139))⟩,
    ⟨(some 141), none, .p (.bin .eql (.t 140) (.c (.int .i64 0)))⟩,
    ⟨(some 142), none, .p (.mv (.t 141))⟩,
    ⟨(some 143), (some (142, true)), .call 7 []⟩,
    ⟨(some 144), none, .p (.pick (.t 142) (.t 143) (.c (.bool false)))⟩,
    ⟨(some 4), none, .p (.mv (.t 144))⟩])
  .ret)))))))))))⟩
theorem c303 : compF Try.prog ⟨fun s => [].contains s, fun r => match r with | 25 => [(0, .quiet), (1, .quiet), (2, .quiet), (3, .quiet), (4, .quiet), (5, .quiet), (6, .quiet), (7, .quiet), (8, .quiet), (9, .quiet), (10, .quiet), (11, .quiet), (12, .quiet), (13, .quiet), (14, .quiet), (15, .quiet), (16, .quiet), (17, .quiet), (18, .quiet), (19, .quiet), (20, .quiet), (21, .quiet), (22, .quiet), (23, .quiet), (24, .quiet), (25, .quiet), (26, .quiet), (27, .quiet), (28, .quiet), (29, .quiet), (30, .quiet), (31, .quiet), (32, .quiet), (33, .quiet), (34, .quiet), (35, .quiet), (36, .quiet), (37, .quiet), (38, .quiet)] | _ => []⟩ Try.f3 = some a303 := by kernel_rfl

/- airline/airlinelaw16.HoldNil -/
def a304 : AFun := ⟨77, [.tmp 4], (.seq (.reg [⟨(some 2), none, .p (.boxI (.t 0))⟩,
    ⟨(some 4), none, .p (.mv (.c (.bool false)))⟩])
  (.seq (.seq (.reg [⟨(some 10), none, .p (.faddr 1 (.t 2))⟩,
    ⟨(some 11), none, .p (.ld1 (.t 10))⟩,
    ⟨(some 12), none, .p (.lenA (.t 11))⟩,
    ⟨(some 13), none, .p (.bin .gtr (.t 12) (.c (.int .i64 8)))⟩])
  (.cond (.t 13) (.seq (.reg [⟨(some 14), none, .call 7 []⟩,
    ⟨(some 4), none, .p (.mv (.t 14))⟩])
  .ret) .skip))
  (.seq (.reg [⟨(some 15), none, .p (.build [.nilMap] [])⟩,
    ⟨(some 16), none, .p (.boxI (.t 15))⟩,
    ⟨(some 17), none, .p (.bsl 1 [.nilPtr] 2 [(0, (.c .nilPtr)), (1, (.t 16))])⟩,
    ⟨(some 5), none, .p (.mv (.t 17))⟩])
  (.seq (.seq (.reg [⟨(some 6), none, .p (.mv (.c (.int .i64 0)))⟩])
  (.block 0 (.loop (.seq (.seq (.reg [⟨(some 18), none, .p (.mv (.t 6))⟩,
    ⟨(some 19), none, .p (.mv (.t 5))⟩,
    ⟨(some 20), none, .p (.lenA (.t 19))⟩,
    ⟨(some 21), none, .p (.bin .lss (.t 18) (.t 20))⟩])
  (.cond (.t 21) .skip (.exit 0)))
  (.seq (.block 1 (.seq (.reg [⟨(some 24), none, .p (.mv (.t 5))⟩,
    ⟨(some 25), none, .p (.mv (.t 6))⟩,
    ⟨(some 26), none, .p (.idxA 1 (.t 24) (.t 25))⟩,
    ⟨(some 27), none, .p (.ld1 (.t 26))⟩,
    ⟨(some 7), none, .p (.mv (.t 27))⟩])
  (.seq (.reg [⟨(some 29), none, .p (.mv (.t 7))⟩,
    ⟨(some 30), none, .p (.mv (.t 1))⟩,
    ⟨(some 31), none, .call 12 [(.t 29), (.t 30)]⟩,
    ⟨(some 28), none, .p (.mv (.t 31))⟩,
    ⟨(some 32), none, .p (.ext 0 (.t 28))⟩,
    ⟨(some 33), none, .p (.ext 1 (.t 28))⟩,
    ⟨(some 8), none, .newO 31 [(.int .i64 0), .nilSl, (.str []), (.int .i64 0), (.int .i64 0)]⟩,
    ⟨none, none, .st 5 (.t 8) (.t 32)⟩,
    ⟨(some 9), none, .p (.mv (.t 33))⟩])
  (.seq (.reg [⟨(some 34), none, .p (.mv (.t 7))⟩,
    ⟨(some 35), none, .p (.ldn 5 (.t 2))⟩,
    ⟨(some 36), none, .call 9 [(.t 34), (.t 35)]⟩,
    ⟨(some 37), none, .p (.bin .neq (.t 36) (.c (.int .i64 1)))⟩,
    ⟨(some 38), none, .p (.mv (.t 37))⟩,
    ⟨(some 39), (some (38, false)), .p (.mv (.t 9))⟩,
    ⟨(some 40), (some (38, false)), .p (.bin .neq (.t 39) (.c (.int .i64 1)))⟩,
    ⟨(some 41), none, .p (.pick (.t 38) (.c (.bool true)) (.t 40))⟩,
    ⟨(some 42), none, .p (.mv (.t 41))⟩,
    ⟨(some 43), (some (42, false)), .p (.faddr 0 (.t 8))⟩,
    ⟨(some 44), (some (42, false)), .p (.ld1 (.t 43))⟩,
    ⟨(some 45), (some (42, false)), .p (.bin .neq (.t 44) (.c (.int .i64 0)))⟩,
    ⟨(some 46), none, .p (.pick (.t 42) (.c (.bool true)) (.t 45))⟩,
    ⟨(some 47), none, .p (.mv (.t 46))⟩,
    ⟨(some 48), (some (47, false)), .p (.mv (.t 7))⟩,
    ⟨(some 49), (some (47, false)), .p (.mv (.t 1))⟩,
    ⟨(some 50), (some (47, false)), .p (.faddr 4 (.t 2))⟩,
    ⟨(some 51), (some (47, false)), .p (.ld1 (.t 50))⟩,
    ⟨(some 52), (some (47, false)), .call 13 [(.t 48), (.t 49), (.t 51)]⟩,
    ⟨(some 53), (some (47, false)), .p (.bin .neq (.t 52) (.c (.int .i64 1)))⟩,
    ⟨(some 54), none, .p (.pick (.t 47) (.c (.bool true)) (.t 53))⟩,
    ⟨(some 55), none, .p (.mv (.t 54))⟩,
    ⟨(some 56), (some (55, false)), .p (.mv (.t 7))⟩,
    ⟨(some 57), (some (55, false)), .p (.mv (.t 1))⟩,
    ⟨(some 58), (some (55, false)), .call 11 [(.t 56), (.t 57)]⟩,
    ⟨(some 59), (some (55, false)), .p (.lenA (.t 58))⟩,
    ⟨(some 60), (some (55, false)), .p (.bin .neq (.t 59) (.c (.int .i64 0)))⟩,
    ⟨(some 61), none, .p (.pick (.t 55) (.c (.bool true)) (.t 60))⟩,
    ⟨(some 62), none, .p (.mv (.t 61))⟩,
    ⟨(some 63), (some (62, false)), .p (.mv (.t 7))⟩,
    ⟨(some 64), (some (62, false)), .call 10 [(.t 63)]⟩,
    ⟨(some 65), (some (62, false)), .p (.lenA (.t 64))⟩,
    ⟨(some 66), (some (62, false)), .p (.bin .neq (.t 65) (.c (.int .i64 0)))⟩,
    ⟨(some 67), none, .p (.pick (.t 62) (.c (.bool true)) (.t 66))⟩,
    ⟨(some 68), none, .p (.mv (.t 67))⟩,
    ⟨(some 69), (some (68, false)), .p (.mv (.t 7))⟩,
    ⟨(some 70), (some (68, false)), .p (.build [(.str []), (.int .i64 0), (.int .i64 0), (.str [])] [])⟩,
    ⟨(some 71), (some (68, false)), .p (.faddr 2 (.t 2))⟩,
    ⟨(some 72), (some (68, false)), .p (.ld1 (.t 71))⟩,
    ⟨(some 73), (some (68, false)), .call 14 [(.t 69), (.t 70), (.t 72)]⟩,
    ⟨(some 74), (some (68, false)), .p (.bin .neq (.t 73) (.c (.int .i64 0)))⟩,
    ⟨(some 75), none, .p (.pick (.t 68) (.c (.bool true)) (.t 74))⟩])
  (.cond (.t 75) (.seq (.reg [⟨(some 4), none, .p (.mv (.c (.bool false)))⟩])
  .ret) .skip)))))
  (.reg [⟨(some 22), none, .p (.mv (.t 6))⟩,
    ⟨(some 23), none, .p (.bin .add (.t 22) (.c (.int .i64 1)))⟩,
    ⟨(some 6), none, .p (.mv (.t 23))⟩]))))))
  (.seq (.reg [⟨(some 76), none, .call 7 []⟩,
    ⟨(some 4), none, .p (.mv (.t 76))⟩])
  .ret)))))⟩
theorem c304 : compF Try.prog ⟨fun s => [].contains s, fun _ => []⟩ Try.f4 = some a304 := by kernel_rfl

/- airline/airlinelaw16.HoldPlays -/
def a305 : AFun := ⟨131, [.tmp 2], (.seq (.reg [⟨(some 2), none, .p (.mv (.c (.bool false)))⟩])
  (.seq (.seq (.reg [⟨(some 12), none, .p (.mv (.t 0))⟩,
    ⟨(some 13), none, .call 15 [(.t 12)]⟩])
  (.cond (.t 13) (.seq (.reg [⟨(some 14), none, .call 7 []⟩,
    ⟨(some 2), none, .p (.mv (.t 14))⟩])
  .ret) .skip))
  (.seq (.reg [⟨(some 15), none, .call 8 []⟩,
    ⟨(some 16), none, .call 16 []⟩,
    ⟨(some 3), none, .p (.mv (.t 15))⟩,
    ⟨(some 4), none, .p (.mv (.t 16))⟩])
  (.seq (.seq (.reg [⟨(some 5), none, .p (.mv (.c (.int .i64 0)))⟩])
  (.block 0 (.loop (.seq (.seq (.reg [⟨(some 17), none, .p (.mv (.t 5))⟩,
    ⟨(some 18), none, .p (.mv (.t 0))⟩,
    ⟨(some 19), none, .p (.lenA (.t 18))⟩,
    ⟨(some 20), none, .p (.bin .lss (.t 17) (.t 19))⟩])
  (.cond (.t 20) .skip (.exit 0)))
  (.seq (.block 1 (.seq (.seq (.reg [⟨(some 23), none, .p (.mv (.t 0))⟩,
    ⟨(some 24), none, .p (.mv (.t 5))⟩,
    ⟨(some 25), none, .p (.idxA 7 (.t 23) (.t 24))⟩,
    ⟨(some 26), none, .p (.ldn 7 (.t 25))⟩,
    ⟨(some 6), none, .newO 52 [(.int .i64 0), (.int .i64 0), (.int .i64 0), .nilSl, (.str []), (.int .i64 0), (.int .i64 0)]⟩,
    ⟨none, none, .st 7 (.t 6) (.t 26)⟩])
  (.frz 6))
  (.seq (.reg [⟨(some 7), none, .p (.mv (.c (.bool true)))⟩])
  (.seq (.seq (.reg [⟨(some 27), none, .p (.faddr 0 (.t 6))⟩,
    ⟨(some 28), none, .p (.ld1 (.t 27))⟩])
  (.block 2 (.seq (.reg [⟨(some 30), none, .p (.bin .eql (.t 28) (.c (.int .i64 0)))⟩,
    ⟨(some 29), none, .p (.mv (.t 30))⟩])
  (.cond (.t 29) (.oreg [(.quiet, ⟨(some 31), none, .p (.mv (.t 3))⟩),
    (.quiet, ⟨(some 32), none, .p (.faddr 2 (.t 6))⟩),
    (.quiet, ⟨(some 33), none, .p (.ldn 5 (.t 32))⟩),
    (.stable, ⟨(some 35), none, .p (.mv (.t 4))⟩),
    (.stable, ⟨(some 36), none, .p (.faddr 2 (.t 6))⟩),
    (.stable, ⟨(some 37), none, .p (.ldn 5 (.t 36))⟩),
    (.loud, ⟨(some 34), none, .call 9 [(.t 31), (.t 33)]⟩),
    (.loud, ⟨(some 38), none, .call 17 [(.t 35), (.t 37)]⟩),
    (.quiet, ⟨(some 39), none, .p (.bin .eql (.t 34) (.t 38))⟩),
    (.quiet, ⟨(some 7), none, .p (.mv (.t 39))⟩)]) (.seq (.reg [⟨(some 41), none, .p (.bin .eql (.t 28) (.c (.int .i64 1)))⟩,
    ⟨(some 40), none, .p (.mv (.t 41))⟩])
  (.cond (.t 40) (.seq (.reg [⟨(some 43), none, .p (.mv (.t 3))⟩,
    ⟨(some 44), none, .p (.faddr 1 (.t 6))⟩,
    ⟨(some 45), none, .p (.ld1 (.t 44))⟩,
    ⟨(some 46), none, .call 12 [(.t 43), (.t 45)]⟩,
    ⟨(some 42), none, .p (.mv (.t 46))⟩,
    ⟨(some 47), none, .p (.ext 0 (.t 42))⟩,
    ⟨(some 48), none, .p (.ext 1 (.t 42))⟩,
    ⟨(some 8), none, .newO 31 [(.int .i64 0), .nilSl, (.str []), (.int .i64 0), (.int .i64 0)]⟩,
    ⟨none, none, .st 5 (.t 8) (.t 47)⟩,
    ⟨(some 9), none, .p (.mv (.t 48))⟩])
  (.seq (.reg [⟨(some 50), none, .p (.mv (.t 4))⟩,
    ⟨(some 51), none, .p (.faddr 1 (.t 6))⟩,
    ⟨(some 52), none, .p (.ld1 (.t 51))⟩,
    ⟨(some 53), none, .call 18 [(.t 50), (.t 52)]⟩,
    ⟨(some 49), none, .p (.mv (.t 53))⟩,
    ⟨(some 54), none, .p (.ext 0 (.t 49))⟩,
    ⟨(some 55), none, .p (.ext 1 (.t 49))⟩,
    ⟨(some 10), none, .newO 28 [(.int .i64 0), .nilSl, (.str []), (.int .i64 0), (.int .i64 0)]⟩,
    ⟨none, none, .st 5 (.t 10) (.t 54)⟩,
    ⟨(some 11), none, .p (.mv (.t 55))⟩])
  (.reg [⟨(some 56), none, .p (.ldn 5 (.t 8))⟩,
    ⟨(some 57), none, .p (.ldn 5 (.t 10))⟩,
    ⟨(some 58), none, .call 19 [(.t 56), (.t 57)]⟩,
    ⟨(some 59), none, .p (.mv (.t 58))⟩,
    ⟨(some 60), (some (59, true)), .p (.mv (.t 9))⟩,
    ⟨(some 61), (some (59, true)), .p (.mv (.t 11))⟩,
    ⟨(some 62), (some (59, true)), .p (.bin .eql (.t 60) (.t 61))⟩,
    ⟨(some 63), none, .p (.pick (.t 59) (.t 62) (.c (.bool false)))⟩,
    ⟨(some 7), none, .p (.mv (.t 63))⟩]))) (.seq (.reg [⟨(some 65), none, .p (.bin .eql (.t 28) (.c (.int .i64 2)))⟩,
    ⟨(some 64), none, .p (.mv (.t 65))⟩])
  (.cond (.t 64) (.oreg [(.quiet, ⟨(some 66), none, .p (.mv (.t 3))⟩),
    (.quiet, ⟨(some 67), none, .p (.faddr 1 (.t 6))⟩),
    (.quiet, ⟨(some 68), none, .p (.ld1 (.t 67))⟩),
    (.quiet, ⟨(some 69), none, .p (.faddr 2 (.t 6))⟩),
    (.quiet, ⟨(some 70), none, .p (.faddr 4 (.t 69))⟩),
    (.quiet, ⟨(some 71), none, .p (.ld1 (.t 70))⟩),
    (.stable, ⟨(some 73), none, .p (.mv (.t 4))⟩),
    (.stable, ⟨(some 74), none, .p (.faddr 1 (.t 6))⟩),
    (.stable, ⟨(some 75), none, .p (.ld1 (.t 74))⟩),
    (.stable, ⟨(some 76), none, .p (.faddr 2 (.t 6))⟩),
    (.stable, ⟨(some 77), none, .p (.faddr 4 (.t 76))⟩),
    (.stable, ⟨(some 78), none, .p (.ld1 (.t 77))⟩),
    (.loud, ⟨(some 72), none, .call 13 [(.t 66), (.t 68), (.t 71)]⟩),
    (.loud, ⟨(some 79), none, .call 20 [(.t 73), (.t 75), (.t 78)]⟩),
    (.quiet, ⟨(some 80), none, .p (.bin .eql (.t 72) (.t 79))⟩),
    (.quiet, ⟨(some 7), none, .p (.mv (.t 80))⟩)]) (.seq (.reg [⟨(some 82), none, .p (.bin .eql (.t 28) (.c (.int .i64 3)))⟩,
    ⟨(some 81), none, .p (.mv (.t 82))⟩])
  (.cond (.t 81) (.oreg [(.quiet, ⟨(some 83), none, .p (.mv (.t 3))⟩),
    (.quiet, ⟨(some 84), none, .p (.faddr 1 (.t 6))⟩),
    (.quiet, ⟨(some 85), none, .p (.ld1 (.t 84))⟩),
    (.stable, ⟨(some 87), none, .p (.mv (.t 4))⟩),
    (.stable, ⟨(some 88), none, .p (.faddr 1 (.t 6))⟩),
    (.stable, ⟨(some 89), none, .p (.ld1 (.t 88))⟩),
    (.loud, ⟨(some 86), none, .call 11 [(.t 83), (.t 85)]⟩),
    (.loud, ⟨(some 90), none, .call 22 [(.t 87), (.t 89)]⟩),
    (.loud, ⟨(some 91), none, .call 21 [(.t 86), (.t 90)]⟩),
    (.quiet, ⟨(some 7), none, .p (.mv (.t 91))⟩)]) (.seq (.reg [⟨(some 93), none, .p (.bin .eql (.t 28) (.c (.int .i64 4)))⟩,
    ⟨(some 92), none, .p (.mv (.t 93))⟩])
  (.cond (.t 92) (.seq (.reg [⟨(some 94), none, .p (.faddr 2 (.t 6))⟩,
    ⟨(some 95), none, .p (.faddr 1 (.t 94))⟩,
    ⟨(some 96), none, .p (.ld1 (.t 95))⟩,
    ⟨(some 97), none, .p (.lenA (.t 96))⟩,
    ⟨(some 98), none, .p (.bin .gtr (.t 97) (.c (.int .i64 0)))⟩])
  (.cond (.t 98) (.oreg [(.quiet, ⟨(some 99), none, .p (.mv (.t 3))⟩),
    (.quiet, ⟨(some 100), none, .p (.faddr 2 (.t 6))⟩),
    (.quiet, ⟨(some 101), none, .p (.faddr 1 (.t 100))⟩),
    (.quiet, ⟨(some 102), none, .p (.ld1 (.t 101))⟩),
    (.quiet, ⟨(some 103), none, .p (.idxA 4 (.t 102) (.c (.int .i64 0)))⟩),
    (.quiet, ⟨(some 104), none, .p (.ldn 4 (.t 103))⟩),
    (.quiet, ⟨(some 105), none, .p (.faddr 2 (.t 6))⟩),
    (.quiet, ⟨(some 106), none, .p (.faddr 2 (.t 105))⟩),
    (.quiet, ⟨(some 107), none, .p (.ld1 (.t 106))⟩),
    (.quiet, ⟨(some 109), none, .p (.mv (.t 4))⟩),
    (.quiet, ⟨(some 110), none, .p (.faddr 2 (.t 6))⟩),
    (.quiet, ⟨(some 111), none, .p (.faddr 1 (.t 110))⟩),
    (.quiet, ⟨(some 112), none, .p (.ld1 (.t 111))⟩),
    (.quiet, ⟨(some 113), none, .p (.idxA 4 (.t 112) (.c (.int .i64 0)))⟩),
    (.quiet, ⟨(some 114), none, .p (.ldn 4 (.t 113))⟩),
    (.quiet, ⟨(some 115), none, .p (.faddr 2 (.t 6))⟩),
    (.quiet, ⟨(some 116), none, .p (.faddr 2 (.t 115))⟩),
    (.quiet, ⟨(some 117), none, .p (.ld1 (.t 116))⟩),
    (.quiet, ⟨(some 108), none, .call 14 [(.t 99), (.t 104), (.t 107)]⟩),
    (.loud, ⟨(some 118), none, .call 23 [(.t 109), (.t 114), (.t 117)]⟩),
    (.quiet, ⟨(some 119), none, .p (.bin .eql (.t 108) (.t 118))⟩),
    (.quiet, ⟨(some 7), none, .p (.mv (.t 119))⟩)]) .skip)) .skip))))))))))))
  (.seq (.reg [⟨(some 120), none, .p (.mv (.t 7))⟩,
    ⟨(some 121), none, .p (.not (.t 120))⟩,
    ⟨(some 122), none, .p (.mv (.t 121))⟩,
    ⟨(some 123), (some (122, false)), .p (.mv (.t 3))⟩,
    ⟨(some 124), (some (122, false)), .call 10 [(.t 123)]⟩,
    ⟨(some 125), (some (122, false)), .p (.mv (.t 4))⟩,
    ⟨(some 126), (some (122, false)), .call 24 [(.t 125)]⟩,
    ⟨(some 127), (some (122, false)), .call 21 [(.t 124), (.t 126)]⟩,
    ⟨(some 128), (some (122, false)), .p (.not (.t 127))⟩,
    ⟨(some 129), none, .p (.pick (.t 122) (.c (.bool true)) (.t 128))⟩])
  (.cond (.t 129) (.seq (.reg [⟨(some 2), none, .p (.mv (.c (.bool false)))⟩])
  .ret) .skip))))))
  (.reg [⟨(some 21), none, .p (.mv (.t 5))⟩,
    ⟨(some 22), none, .p (.bin .add (.t 21) (.c (.int .i64 1)))⟩,
    ⟨(some 5), none, .p (.mv (.t 22))⟩]))))))
  (.seq (.reg [⟨(some 130), none, .call 7 []⟩,
    ⟨(some 2), none, .p (.mv (.t 130))⟩])
  .ret)))))⟩
theorem c305 : compF Try.prog ⟨fun s => [34, 72, 86, 7000007].contains s, fun r => match r with | 11 => [(0, .quiet), (1, .quiet), (2, .quiet), (4, .stable), (5, .stable), (6, .stable), (3, .loud), (7, .loud), (8, .quiet), (9, .quiet)]  | 17 => [(0, .quiet), (1, .quiet), (2, .quiet), (3, .quiet), (4, .quiet), (5, .quiet), (7, .stable), (8, .stable), (9, .stable), (10, .stable), (11, .stable), (12, .stable), (6, .loud), (13, .loud), (14, .quiet), (15, .quiet)]  | 19 => [(0, .quiet), (1, .quiet), (2, .quiet), (4, .stable), (5, .stable), (6, .stable), (3, .loud), (7, .loud), (8, .loud), (9, .quiet)]  | 22 => [(0, .quiet), (1, .quiet), (2, .quiet), (3, .quiet), (4, .quiet), (5, .quiet), (6, .quiet), (7, .quiet), (8, .quiet), (10, .quiet), (11, .quiet), (12, .quiet), (13, .quiet), (14, .quiet), (15, .quiet), (16, .quiet), (17, .quiet), (18, .quiet), (9, .quiet), (19, .loud), (20, .quiet), (21, .quiet)] | _ => []⟩ Try.f5 = some a305 := by kernel_rfl

/- airline/airlinelaw16.HoldSums -/
def a306 : AFun := ⟨91, [.tmp 6], (.seq (.reg [⟨(some 4), none, .p (.boxI (.t 1))⟩,
    ⟨(some 6), none, .p (.mv (.c (.bool false)))⟩])
  (.seq (.seq (.reg [⟨(some 13), none, .p (.mv (.t 0))⟩,
    ⟨(some 14), none, .p (.lenA (.t 13))⟩,
    ⟨(some 15), none, .p (.bin .gtr (.t 14) (.c (.int .i64 20)))⟩])
  (.cond (.t 15) (.seq (.reg [⟨(some 16), none, .call 7 []⟩,
    ⟨(some 6), none, .p (.mv (.t 16))⟩])
  .ret) .skip))
  (.seq (.reg [⟨(some 17), none, .call 8 []⟩,
    ⟨(some 7), none, .p (.mv (.t 17))⟩])
  (.seq (.seq (.reg [⟨(some 8), none, .p (.mv (.c (.int .i64 0)))⟩])
  (.block 0 (.loop (.seq (.seq (.reg [⟨(some 18), none, .p (.mv (.t 8))⟩,
    ⟨(some 19), none, .p (.mv (.t 0))⟩,
    ⟨(some 20), none, .p (.lenA (.t 19))⟩,
    ⟨(some 21), none, .p (.bin .lss (.t 18) (.t 20))⟩])
  (.cond (.t 21) .skip (.exit 0)))
  (.seq (.block 1 (.seq (.seq (.reg [⟨(some 24), none, .p (.mv (.t 0))⟩,
    ⟨(some 25), none, .p (.mv (.t 8))⟩,
    ⟨(some 26), none, .p (.idxA 5 (.t 24) (.t 25))⟩,
    ⟨(some 27), none, .p (.faddr 1 (.t 26))⟩,
    ⟨(some 28), none, .p (.ld1 (.t 27))⟩,
    ⟨(some 29), none, .p (.lenA (.t 28))⟩,
    ⟨(some 30), none, .p (.bin .gtr (.t 29) (.c (.int .i64 8)))⟩])
  (.cond (.t 30) (.seq (.reg [⟨(some 31), none, .call 7 []⟩,
    ⟨(some 6), none, .p (.mv (.t 31))⟩])
  .ret) .skip))
  (.reg [⟨(some 32), none, .p (.mv (.t 7))⟩,
    ⟨(some 33), none, .p (.mv (.t 0))⟩,
    ⟨(some 34), none, .p (.mv (.t 8))⟩,
    ⟨(some 35), none, .p (.idxA 5 (.t 33) (.t 34))⟩,
    ⟨(some 36), none, .p (.ldn 5 (.t 35))⟩,
    ⟨(some 37), none, .call 9 [(.t 32), (.t 36)]⟩])))
  (.reg [⟨(some 22), none, .p (.mv (.t 8))⟩,
    ⟨(some 23), none, .p (.bin .add (.t 22) (.c (.int .i64 1)))⟩,
    ⟨(some 8), none, .p (.mv (.t 23))⟩]))))))
  (.seq (.reg [⟨(some 9), none, .p (.mv (.c (.int .i64 0)))⟩])
  (.seq (.reg [⟨(some 38), none, .p (.mv (.t 7))⟩,
    ⟨(some 39), none, .call 10 [(.t 38)]⟩,
    ⟨(some 10), none, .p (.mv (.t 39))⟩])
  (.seq (.seq (.reg [⟨(some 11), none, .p (.mv (.c (.int .i64 0)))⟩])
  (.block 2 (.loop (.seq (.seq (.reg [⟨(some 40), none, .p (.mv (.t 11))⟩,
    ⟨(some 41), none, .p (.mv (.t 10))⟩,
    ⟨(some 42), none, .p (.lenA (.t 41))⟩,
    ⟨(some 43), none, .p (.bin .lss (.t 40) (.t 42))⟩])
  (.cond (.t 43) .skip (.exit 2)))
  (.seq (.block 3 (.seq (.reg [⟨(some 12), none, .p (.mv (.c (.int .i64 0)))⟩])
  (.block 4 (.loop (.seq (.seq (.reg [⟨(some 46), none, .p (.mv (.t 12))⟩,
    ⟨(some 47), none, .p (.mv (.t 10))⟩,
    ⟨(some 48), none, .p (.mv (.t 11))⟩,
    ⟨(some 49), none, .p (.idxA 5 (.t 47) (.t 48))⟩,
    ⟨(some 50), none, .p (.faddr 1 (.t 49))⟩,
    ⟨(some 51), none, .p (.ld1 (.t 50))⟩,
    ⟨(some 52), none, .p (.lenA (.t 51))⟩,
    ⟨(some 53), none, .p (.bin .lss (.t 46) (.t 52))⟩])
  (.cond (.t 53) .skip (.exit 4)))
  (.seq (.block 5 (.seq (.oreg [(.quiet, ⟨(some 56), none, .p (.mv (.t 10))⟩),
    (.quiet, ⟨(some 57), none, .p (.mv (.t 11))⟩),
    (.quiet, ⟨(some 58), none, .p (.idxA 5 (.t 56) (.t 57))⟩),
    (.quiet, ⟨(some 59), none, .p (.faddr 2 (.t 58))⟩),
    (.quiet, ⟨(some 60), none, .p (.ld1 (.t 59))⟩),
    (.quiet, ⟨(some 61), none, .p (.mv (.t 2))⟩),
    (.quiet, ⟨(some 62), none, .p (.bin .eql (.t 60) (.t 61))⟩),
    (.quiet, ⟨(some 63), none, .p (.mv (.t 62))⟩),
    (.quiet, ⟨(some 64), (some (63, true)), .p (.mv (.t 10))⟩),
    (.quiet, ⟨(some 65), (some (63, true)), .p (.mv (.t 11))⟩),
    (.quiet, ⟨(some 66), (some (63, true)), .p (.idxA 5 (.t 64) (.t 65))⟩),
    (.quiet, ⟨(some 67), (some (63, true)), .p (.faddr 1 (.t 66))⟩),
    (.quiet, ⟨(some 68), (some (63, true)), .p (.ld1 (.t 67))⟩),
    (.quiet, ⟨(some 69), (some (63, true)), .p (.mv (.t 12))⟩),
    (.quiet, ⟨(some 70), (some (63, true)), .p (.idxA 4 (.t 68) (.t 69))⟩),
    (.quiet, ⟨(some 71), (some (63, true)), .p (.ldn 4 (.t 70))⟩),
    (.quiet, ⟨(some 72), (some (63, true)), .p (.ldn 4 (.t 4))⟩),
    (.quiet, ⟨(some 73), (some (63, true)), .p (.xo (.eqA [.str, (.int .i64), (.int .i64), .str] false) [(.t 71), (.t 72)])⟩),
    (.quiet, ⟨(some 74), none, .p (.pick (.t 63) (.t 73) (.c (.bool false)))⟩)])
  (.cond (.t 74) (.reg [⟨(some 75), none, .p (.mv (.t 9))⟩,
    ⟨(some 76), none, .p (.mv (.t 10))⟩,
    ⟨(some 77), none, .p (.mv (.t 11))⟩,
    ⟨(some 78), none, .p (.idxA 5 (.t 76) (.t 77))⟩,
    ⟨(some 79), none, .p (.faddr 3 (.t 78))⟩,
    ⟨(some 80), none, .p (.ld1 (.t 79))⟩,
    ⟨(some 81), none, .p (.bin .add (.t 75) (.t 80))⟩,
    ⟨(some 9), none, .p (.mv (.t 81))⟩]) .skip)))
  (.reg [⟨(some 54), none, .p (.mv (.t 12))⟩,
    ⟨(some 55), none, .p (.bin .add (.t 54) (.c (.int .i64 1)))⟩,
    ⟨(some 12), none, .p (.mv (.t 55))⟩])))))))
  (.reg [⟨(some 44), none, .p (.mv (.t 11))⟩,
    ⟨(some 45), none, .p (.bin .add (.t 44) (.c (.int .i64 1)))⟩,
    ⟨(some 11), none, .p (.mv (.t 45))⟩]))))))
  (.seq (.reg [⟨(some 82), none, .p (.mv (.t 7))⟩,
    ⟨(some 83), none, .p (.ldn 4 (.t 4))⟩,
    ⟨(some 84), none, .p (.mv (.t 2))⟩,
    ⟨(some 85), none, .call 14 [(.t 82), (.t 83), (.t 84)]⟩,
    ⟨(some 86), none, .p (.mv (.t 9))⟩,
    ⟨(some 87), none, .p (.bin .eql (.t 85) (.t 86))⟩,
    ⟨(some 88), none, .p (.mv (.t 87))⟩,
    ⟨(some 89), (some (88, true)), .call 7 []⟩,
    ⟨(some 90), none, .p (.pick (.t 88) (.t 89) (.c (.bool false)))⟩,
    ⟨(some 6), none, .p (.mv (.t 90))⟩])
  .ret))))))))⟩
theorem c306 : compF Try.prog ⟨fun s => [].contains s, fun r => match r with | 18 => [(0, .quiet), (1, .quiet), (2, .quiet), (3, .quiet), (4, .quiet), (5, .quiet), (6, .quiet), (7, .quiet), (8, .quiet), (9, .quiet), (10, .quiet), (11, .quiet), (12, .quiet), (13, .quiet), (14, .quiet), (15, .quiet), (16, .quiet), (17, .quiet), (18, .quiet)] | _ => []⟩ Try.f6 = some a306 := by kernel_rfl

/- airline/airlinelaw16.awake -/
def a307 : AFun := ⟨58, [.tmp 0], (.seq (.reg [⟨(some 0), none, .p (.mv (.c (.bool false)))⟩])
  (.seq (.seq (.reg [⟨(some 7), none, .p (.build [(.str []), (.int .i64 0), (.int .i64 0), (.str [])] [(0, 1, (.c (.str [66, 65]))), (1, 1, (.c (.int .i64 117))), (2, 1, (.c (.int .i64 9497))), (3, 1, (.c (.str [76, 72, 82])))])⟩,
    ⟨(some 1), none, .newO 45 [(.str []), (.int .i64 0), (.int .i64 0), (.str [])]⟩,
    ⟨none, none, .st 4 (.t 1) (.t 7)⟩])
  (.frz 1))
  (.seq (.reg [⟨(some 8), none, .call 8 []⟩,
    ⟨(some 2), none, .p (.mv (.t 8))⟩])
  (.seq (.reg [⟨(some 9), none, .p (.mv (.t 2))⟩,
    ⟨(some 10), none, .p (.ldn 4 (.t 1))⟩,
    ⟨(some 11), none, .p (.bsl 4 [(.str []), (.int .i64 0), (.int .i64 0), (.str [])] 1 [(0, (.t 10))])⟩,
    ⟨(some 12), none, .p (.build [(.int .i64 0), .nilSl, (.str []), (.int .i64 0), (.int .i64 0)] [(0, 1, (.c (.int .i64 1))), (1, 1, (.t 11)), (2, 1, (.c (.str [89]))), (3, 1, (.c (.int .i64 2))), (4, 1, (.c (.int .i64 50)))])⟩,
    ⟨(some 13), none, .call 9 [(.t 9), (.t 12)]⟩,
    ⟨(some 3), none, .p (.mv (.t 13))⟩])
  (.seq (.reg [⟨(some 14), none, .p (.mv (.t 2))⟩,
    ⟨(some 15), none, .p (.ldn 4 (.t 1))⟩,
    ⟨(some 16), none, .p (.bsl 4 [(.str []), (.int .i64 0), (.int .i64 0), (.str [])] 1 [(0, (.t 15))])⟩,
    ⟨(some 17), none, .p (.build [(.int .i64 0), .nilSl, (.str []), (.int .i64 0), (.int .i64 0)] [(0, 1, (.c (.int .i64 2))), (1, 1, (.t 16)), (2, 1, (.c (.str [89]))), (3, 1, (.c (.int .i64 2))), (4, 1, (.c (.int .i64 40)))])⟩,
    ⟨(some 18), none, .call 9 [(.t 14), (.t 17)]⟩,
    ⟨(some 4), none, .p (.mv (.t 18))⟩])
  (.seq (.reg [⟨(some 19), none, .p (.mv (.t 2))⟩,
    ⟨(some 20), none, .p (.ldn 4 (.t 1))⟩,
    ⟨(some 21), none, .p (.bsl 4 [(.str []), (.int .i64 0), (.int .i64 0), (.str [])] 1 [(0, (.t 20))])⟩,
    ⟨(some 22), none, .p (.build [(.int .i64 0), .nilSl, (.str []), (.int .i64 0), (.int .i64 0)] [(0, 1, (.c (.int .i64 1))), (1, 1, (.t 21)), (2, 1, (.c (.str [89]))), (3, 1, (.c (.int .i64 2))), (4, 1, (.c (.int .i64 50)))])⟩,
    ⟨(some 23), none, .call 9 [(.t 19), (.t 22)]⟩,
    ⟨(some 5), none, .p (.mv (.t 23))⟩])
  (.seq (.seq (.reg [⟨(some 24), none, .p (.mv (.t 3))⟩,
    ⟨(some 25), none, .p (.bin .neq (.t 24) (.c (.int .i64 0)))⟩,
    ⟨(some 26), none, .p (.mv (.t 25))⟩,
    ⟨(some 27), (some (26, false)), .p (.mv (.t 4))⟩,
    ⟨(some 28), (some (26, false)), .p (.bin .neq (.t 27) (.c (.int .i64 0)))⟩,
    ⟨(some 29), none, .p (.pick (.t 26) (.c (.bool true)) (.t 28))⟩,
    ⟨(some 30), none, .p (.mv (.t 29))⟩,
    ⟨(some 31), (some (30, false)), .p (.mv (.t 5))⟩,
    ⟨(some 32), (some (30, false)), .p (.bin .neq (.t 31) (.c (.int .i64 6)))⟩,
    ⟨(some 33), none, .p (.pick (.t 30) (.c (.bool true)) (.t 32))⟩,
    ⟨(some 34), none, .p (.mv (.t 33))⟩,
    ⟨(some 35), (some (34, false)), .p (.mv (.t 2))⟩,
    ⟨(some 36), (some (34, false)), .p (.ldn 4 (.t 1))⟩,
    ⟨(some 37), (some (34, false)), .call 14 [(.t 35), (.t 36), (.c (.str [89]))]⟩,
    ⟨(some 38), (some (34, false)), .p (.bin .neq (.t 37) (.c (.int .i64 4)))⟩,
    ⟨(some 39), none, .p (.pick (.t 34) (.c (.bool true)) (.t 38))⟩])
  (.cond (.t 39) (.seq (.reg [⟨(some 0), none, .p (.mv (.c (.bool false)))⟩])
  .ret) .skip))
  (.seq (.reg [⟨(some 40), none, .p (.mv (.t 2))⟩,
    ⟨(some 41), none, .call 11 [(.t 40), (.c (.int .i64 40))]⟩,
    ⟨(some 6), none, .p (.mv (.t 41))⟩])
  (.seq (.reg [⟨(some 42), none, .p (.mv (.t 6))⟩,
    ⟨(some 43), none, .p (.lenA (.t 42))⟩,
    ⟨(some 44), none, .p (.bin .eql (.t 43) (.c (.int .i64 1)))⟩,
    ⟨(some 45), none, .p (.mv (.t 44))⟩,
    ⟨(some 46), (some (45, true)), .p (.mv (.t 6))⟩,
    ⟨(some 47), (some (45, true)), .p (.idxA 5 (.t 46) (.c (.int .i64 0)))⟩,
    ⟨(some 48), (some (45, true)), .p (.faddr 0 (.t 47))⟩,
    ⟨(some 49), (some (45, true)), .p (.ld1 (.t 48))⟩,
    ⟨(some 50), (some (45, true)), .p (.bin .eql (.t 49) (.c (.int .i64 2)))⟩,
    ⟨(some 51), none, .p (.pick (.t 45) (.t 50) (.c (.bool false)))⟩,
    ⟨(some 52), none, .p (.mv (.t 51))⟩,
    ⟨(some 53), (some (52, true)), .p (.mv (.t 2))⟩,
    ⟨(some 54), (some (52, true)), .p (.ldn 4 (.t 1))⟩,
    ⟨(some 55), (some (52, true)), .call 14 [(.t 53), (.t 54), (.c (.str [89]))]⟩,
    ⟨(some 56), (some (52, true)), .p (.bin .eql (.t 55) (.c (.int .i64 2)))⟩,
    ⟨(some 57), none, .p (.pick (.t 52) (.t 56) (.c (.bool false)))⟩,
    ⟨(some 0), none, .p (.mv (.t 57))⟩])
  .ret)))))))))⟩
theorem c307 : compF Try.prog ⟨fun s => [2000001].contains s, fun _ => []⟩ Try.f7 = some a307 := by kernel_rfl

/- airline/hold.New -/
def a308 : AFun := ⟨4, [.tmp 0], (.seq (.reg [⟨(some 0), none, .p (.mv (.c .nilPtr))⟩])
  (.seq (.reg [⟨(some 1), none, .xs (.mkM (.one (.int .i64))) []⟩,
    ⟨(some 2), none, .p (.build [.nilMap] [(0, 1, (.t 1))])⟩,
    ⟨(some 3), none, .boxO 40 (.t 2)⟩,
    ⟨(some 0), none, .p (.mv (.t 3))⟩])
  .ret))⟩
theorem c308 : compF Try.prog ⟨fun s => [3].contains s, fun _ => []⟩ Try.f8 = some a308 := by kernel_rfl

/- (*airline/hold.Holds).Put -/
def a309 : AFun := ⟨63, [.tmp 4], (.seq (.reg [⟨(some 3), none, .boxO 31 (.t 1)⟩,
    ⟨(some 4), none, .p (.mv (.c (.int .i64 0)))⟩])
  (.seq (.seq (.reg [⟨(some 7), none, .p (.mv (.t 0))⟩,
    ⟨(some 8), none, .call 25 [(.t 7)]⟩,
    ⟨(some 9), none, .p (.not (.t 8))⟩])
  (.cond (.t 9) (.seq (.reg [⟨(some 4), none, .p (.mv (.c (.int .i64 1)))⟩])
  .ret) .skip))
  (.seq (.seq (.reg [⟨(some 10), none, .p (.faddr 0 (.t 3))⟩,
    ⟨(some 11), none, .p (.ld1 (.t 10))⟩,
    ⟨(some 12), none, .p (.bin .lss (.t 11) (.c (.int .i64 1)))⟩,
    ⟨(some 13), none, .p (.mv (.t 12))⟩,
    ⟨(some 14), (some (13, false)), .p (.faddr 1 (.t 3))⟩,
    ⟨(some 15), (some (13, false)), .p (.ld1 (.t 14))⟩,
    ⟨(some 16), (some (13, false)), .p (.lenA (.t 15))⟩,
    ⟨(some 17), (some (13, false)), .p (.bin .eql (.t 16) (.c (.int .i64 0)))⟩,
    ⟨(some 18), none, .p (.pick (.t 13) (.c (.bool true)) (.t 17))⟩,
    ⟨(some 19), none, .p (.mv (.t 18))⟩,
    ⟨(some 20), (some (19, false)), .p (.faddr 1 (.t 3))⟩,
    ⟨(some 21), (some (19, false)), .p (.ld1 (.t 20))⟩,
    ⟨(some 22), (some (19, false)), .call 26 [(.t 21)]⟩,
    ⟨(some 23), (some (19, false)), .p (.not (.t 22))⟩,
    ⟨(some 24), none, .p (.pick (.t 19) (.c (.bool true)) (.t 23))⟩,
    ⟨(some 25), none, .p (.mv (.t 24))⟩,
    ⟨(some 26), (some (25, false)), .p (.faddr 3 (.t 3))⟩,
    ⟨(some 27), (some (25, false)), .p (.ld1 (.t 26))⟩,
    ⟨(some 28), (some (25, false)), .p (.bin .lss (.t 27) (.c (.int .i64 1)))⟩,
    ⟨(some 29), none, .p (.pick (.t 25) (.c (.bool true)) (.t 28))⟩,
    ⟨(some 30), none, .p (.mv (.t 29))⟩,
    ⟨(some 31), (some (30, false)), .p (.faddr 3 (.t 3))⟩,
    ⟨(some 32), (some (30, false)), .p (.ld1 (.t 31))⟩,
    ⟨(some 33), (some (30, false)), .p (.bin .gtr (.t 32) (.c (.int .i64 99)))⟩,
    ⟨(some 34), none, .p (.pick (.t 30) (.c (.bool true)) (.t 33))⟩,
    ⟨(some 35), none, .p (.mv (.t 34))⟩,
    ⟨(some 36), (some (35, false)), .p (.faddr 4 (.t 3))⟩,
    ⟨(some 37), (some (35, false)), .p (.ld1 (.t 36))⟩,
    ⟨(some 38), (some (35, false)), .call 27 [(.t 37)]⟩,
    ⟨(some 39), (some (35, false)), .p (.not (.t 38))⟩,
    ⟨(some 40), none, .p (.pick (.t 35) (.c (.bool true)) (.t 39))⟩])
  (.cond (.t 40) (.seq (.reg [⟨(some 4), none, .p (.mv (.c (.int .i64 2)))⟩])
  .ret) .skip))
  (.seq (.seq (.oreg [(.stable, ⟨(some 42), none, .p (.mv (.t 0))⟩),
    (.grow, ⟨(some 43), none, .p (.nilChk (.t 42))⟩),
    (.grow, ⟨(some 44), none, .p (.faddr 0 (.t 43))⟩),
    (.grow, ⟨(some 45), none, .p (.ld1 (.t 44))⟩),
    (.grow, ⟨(some 46), none, .p (.faddr 0 (.t 3))⟩),
    (.grow, ⟨(some 47), none, .p (.ld1 (.t 46))⟩),
    (.grow, ⟨(some 48), none, .p (.xo (.lk (.one (.int .i64)) (.agg [(.int .i64 0), .nilSl, (.str []), (.int .i64 0), (.int .i64 0)]) true) [(.t 45), (.t 47)])⟩),
    (.stable, ⟨(some 41), none, .p (.mv (.t 48))⟩),
    (.stable, ⟨(some 49), none, .p (.ext 0 (.t 41))⟩),
    (.stable, ⟨(some 50), none, .p (.ext 1 (.t 41))⟩),
    (.loud, ⟨(some 5), none, .newO 31 [(.int .i64 0), .nilSl, (.str []), (.int .i64 0), (.int .i64 0)]⟩),
    (.loud, ⟨none, none, .st 5 (.t 5) (.t 49)⟩),
    (.quiet, ⟨(some 6), none, .p (.mv (.t 50))⟩)])
  (.seq (.reg [⟨(some 51), none, .p (.mv (.t 6))⟩])
  (.cond (.t 51) (.seq (.reg [⟨(some 4), none, .p (.mv (.c (.int .i64 6)))⟩])
  .ret) .skip)))
  (.seq (.reg [⟨(some 52), none, .p (.faddr 1 (.t 3))⟩,
    ⟨(some 53), none, .p (.ld1 (.t 52))⟩,
    ⟨(some 54), none, .call 28 [(.t 53)]⟩,
    ⟨(some 55), none, .p (.faddr 1 (.t 3))⟩,
    ⟨none, none, .st 1 (.t 55) (.t 54)⟩])
  (.seq (.oreg [(.quiet, ⟨(some 56), none, .p (.mv (.t 0))⟩),
    (.quiet, ⟨(some 57), none, .p (.nilChk (.t 56))⟩),
    (.quiet, ⟨(some 58), none, .p (.faddr 0 (.t 57))⟩),
    (.quiet, ⟨(some 59), none, .p (.ld1 (.t 58))⟩),
    (.quiet, ⟨(some 60), none, .p (.faddr 0 (.t 3))⟩),
    (.quiet, ⟨(some 61), none, .p (.ld1 (.t 60))⟩),
    (.quiet, ⟨(some 62), none, .p (.ldn 5 (.t 3))⟩),
    (.loud, ⟨none, none, .xs (.mu (.one (.int .i64))) [(.t 59), (.t 61), (.t 62)]⟩)])
  (.seq (.reg [⟨(some 4), none, .p (.mv (.c (.int .i64 0)))⟩])
  .ret)))))))⟩
theorem c309 : compF Try.prog ⟨fun s => [3].contains s, fun r => match r with | 5 => [(0, .stable), (1, .grow), (2, .grow), (3, .grow), (4, .grow), (5, .grow), (6, .grow), (7, .stable), (8, .stable), (9, .stable), (10, .loud), (11, .loud), (12, .quiet)]  | 9 => [(0, .quiet), (1, .quiet), (2, .quiet), (3, .quiet), (4, .quiet), (5, .quiet), (6, .quiet), (7, .loud)] | _ => []⟩ Try.f9 = some a309 := by kernel_rfl

/- (*airline/hold.Holds).All -/
def a310 : AFun := ⟨12, [.tmp 2], (.seq (.reg [⟨(some 2), none, .p (.mv (.c .nilSl))⟩])
  (.seq (.seq (.reg [⟨(some 3), none, .p (.mv (.t 0))⟩,
    ⟨(some 4), none, .call 25 [(.t 3)]⟩,
    ⟨(some 5), none, .p (.not (.t 4))⟩])
  (.cond (.t 5) (.seq (.reg [⟨(some 2), none, .p (.mv (.c .nilSl))⟩])
  .ret) .skip))
  (.seq (.reg [⟨(some 6), none, .p (.mv (.t 0))⟩,
    ⟨(some 7), none, .p (.nilChk (.t 6))⟩,
    ⟨(some 8), none, .p (.faddr 0 (.t 7))⟩,
    ⟨(some 9), none, .p (.ld1 (.t 8))⟩,
    ⟨(some 10), none, .call 30 [(.t 9)]⟩,
    ⟨(some 11), none, .call 29 [(.t 10), (.c (.func 31 [] []))]⟩,
    ⟨(some 2), none, .p (.mv (.t 11))⟩])
  .ret)))⟩
theorem c310 : compF Try.prog ⟨fun s => [].contains s, fun _ => []⟩ Try.f10 = some a310 := by kernel_rfl

/- (*airline/hold.Holds).Expire -/
def a311 : AFun := ⟨31, [.tmp 4], (.seq (.reg [⟨(some 4), none, .p (.mv (.c .nilSl))⟩])
  (.seq (.reg [⟨(some 5), none, .p (.mv (.c .nilSl))⟩])
  (.seq (.seq (.reg [⟨(some 8), none, .p (.mv (.t 0))⟩,
    ⟨(some 9), none, .call 10 [(.t 8)]⟩,
    ⟨(some 10), none, .p (.lenA (.t 9))⟩,
    ⟨(some 11), none, .p (.mv (.c (.int .i64 0)))⟩])
  (.block 0 (.loop (.seq (.reg [⟨(some 12), none, .p (.bin .lss (.t 11) (.t 10))⟩])
  (.seq (.cond (.t 12) .skip (.exit 0))
  (.seq (.block 1 (.seq (.reg [⟨(some 13), none, .p (.idxA 5 (.t 9) (.t 11))⟩,
    ⟨(some 14), none, .p (.ldn 5 (.t 13))⟩,
    ⟨(some 7), none, .newO 31 [(.int .i64 0), .nilSl, (.str []), (.int .i64 0), (.int .i64 0)]⟩,
    ⟨none, none, .st 5 (.t 7) (.t 14)⟩])
  (.seq (.reg [⟨(some 15), none, .p (.faddr 4 (.t 7))⟩,
    ⟨(some 16), none, .p (.ld1 (.t 15))⟩,
    ⟨(some 17), none, .p (.mv (.t 1))⟩,
    ⟨(some 18), none, .p (.bin .leq (.t 16) (.t 17))⟩])
  (.cond (.t 18) (.seq (.reg [⟨(some 19), none, .p (.mv (.t 5))⟩,
    ⟨(some 20), none, .p (.ldn 5 (.t 7))⟩,
    ⟨(some 21), none, .p (.bsl 5 [(.int .i64 0), .nilSl, (.str []), (.int .i64 0), (.int .i64 0)] 1 [(0, (.t 20))])⟩,
    ⟨(some 22), none, .app 31 5 (.t 19) (.t 21)⟩,
    ⟨(some 5), none, .p (.mv (.t 22))⟩])
  (.oreg [(.quiet, ⟨(some 23), none, .p (.mv (.t 0))⟩),
    (.quiet, ⟨(some 24), none, .p (.nilChk (.t 23))⟩),
    (.quiet, ⟨(some 25), none, .p (.faddr 0 (.t 24))⟩),
    (.quiet, ⟨(some 26), none, .p (.ld1 (.t 25))⟩),
    (.quiet, ⟨(some 27), none, .p (.faddr 0 (.t 7))⟩),
    (.quiet, ⟨(some 28), none, .p (.ld1 (.t 27))⟩),
    (.loud, ⟨none, none, .xs (.mdel (.one (.int .i64))) [(.t 26), (.t 28)]⟩)])) .skip))))
  (.reg [⟨(some 29), none, .p (.bin .add (.t 11) (.c (.int .i64 1)))⟩,
    ⟨(some 11), none, .p (.mv (.t 29))⟩])))))))
  (.seq (.reg [⟨(some 30), none, .p (.mv (.t 5))⟩,
    ⟨(some 4), none, .p (.mv (.t 30))⟩])
  .ret))))⟩
theorem c311 : compF Try.prog ⟨fun s => [].contains s, fun r => match r with | 7 => [(0, .quiet), (1, .quiet), (2, .quiet), (3, .quiet), (4, .quiet), (5, .quiet), (6, .loud)] | _ => []⟩ Try.f11 = some a311 := by kernel_rfl

/- (*airline/hold.Holds).Drop -/
def a312 : AFun := ⟨30, [.cell 4 (some 5), .tmp 5], (.seq (.reg [⟨(some 4), none, .newO 31 [(.int .i64 0), .nilSl, (.str []), (.int .i64 0), (.int .i64 0)]⟩,
    ⟨(some 5), none, .p (.mv (.c (.int .i64 0)))⟩])
  (.seq (.seq (.reg [⟨(some 8), none, .p (.mv (.t 0))⟩,
    ⟨(some 9), none, .call 25 [(.t 8)]⟩,
    ⟨(some 10), none, .p (.not (.t 9))⟩])
  (.cond (.t 10) (.seq (.reg [⟨(some 11), none, .p (.build [(.int .i64 0), .nilSl, (.str []), (.int .i64 0), (.int .i64 0)] [])⟩,
    ⟨none, none, .st 5 (.t 4) (.t 11)⟩,
    ⟨(some 5), none, .p (.mv (.c (.int .i64 1)))⟩])
  .ret) .skip))
  (.seq (.reg [⟨(some 13), none, .p (.mv (.t 0))⟩,
    ⟨(some 14), none, .p (.nilChk (.t 13))⟩,
    ⟨(some 15), none, .p (.faddr 0 (.t 14))⟩,
    ⟨(some 16), none, .p (.ld1 (.t 15))⟩,
    ⟨(some 17), none, .p (.mv (.t 1))⟩,
    ⟨(some 18), none, .p (.xo (.lk (.one (.int .i64)) (.agg [(.int .i64 0), .nilSl, (.str []), (.int .i64 0), (.int .i64 0)]) true) [(.t 16), (.t 17)])⟩,
    ⟨(some 12), none, .p (.mv (.t 18))⟩,
    ⟨(some 19), none, .p (.ext 0 (.t 12))⟩,
    ⟨(some 20), none, .p (.ext 1 (.t 12))⟩,
    ⟨(some 6), none, .newO 31 [(.int .i64 0), .nilSl, (.str []), (.int .i64 0), (.int .i64 0)]⟩,
    ⟨none, none, .st 5 (.t 6) (.t 19)⟩,
    ⟨(some 7), none, .p (.mv (.t 20))⟩])
  (.seq (.seq (.reg [⟨(some 21), none, .p (.mv (.t 7))⟩,
    ⟨(some 22), none, .p (.not (.t 21))⟩])
  (.cond (.t 22) (.seq (.reg [⟨(some 23), none, .p (.build [(.int .i64 0), .nilSl, (.str []), (.int .i64 0), (.int .i64 0)] [])⟩,
    ⟨none, none, .st 5 (.t 4) (.t 23)⟩,
    ⟨(some 5), none, .p (.mv (.c (.int .i64 7)))⟩])
  .ret) .skip))
  (.seq (.reg [⟨(some 24), none, .p (.mv (.t 0))⟩,
    ⟨(some 25), none, .p (.nilChk (.t 24))⟩,
    ⟨(some 26), none, .p (.faddr 0 (.t 25))⟩,
    ⟨(some 27), none, .p (.ld1 (.t 26))⟩,
    ⟨(some 28), none, .p (.mv (.t 1))⟩,
    ⟨none, none, .xs (.mdel (.one (.int .i64))) [(.t 27), (.t 28)]⟩])
  (.seq (.reg [⟨(some 29), none, .p (.ldn 5 (.t 6))⟩,
    ⟨none, none, .st 5 (.t 4) (.t 29)⟩,
    ⟨(some 5), none, .p (.mv (.c (.int .i64 0)))⟩])
  .ret))))))⟩
theorem c312 : compF Try.prog ⟨fun s => [].contains s, fun _ => []⟩ Try.f12 = some a312 := by kernel_rfl

/- (*airline/hold.Holds).Extend -/
def a313 : AFun := ⟨34, [.tmp 6], (.seq (.reg [⟨(some 6), none, .p (.mv (.c (.int .i64 0)))⟩])
  (.seq (.seq (.reg [⟨(some 9), none, .p (.mv (.t 0))⟩,
    ⟨(some 10), none, .call 25 [(.t 9)]⟩,
    ⟨(some 11), none, .p (.not (.t 10))⟩])
  (.cond (.t 11) (.seq (.reg [⟨(some 6), none, .p (.mv (.c (.int .i64 1)))⟩])
  .ret) .skip))
  (.seq (.reg [⟨(some 13), none, .p (.mv (.t 0))⟩,
    ⟨(some 14), none, .p (.nilChk (.t 13))⟩,
    ⟨(some 15), none, .p (.faddr 0 (.t 14))⟩,
    ⟨(some 16), none, .p (.ld1 (.t 15))⟩,
    ⟨(some 17), none, .p (.mv (.t 1))⟩,
    ⟨(some 18), none, .p (.xo (.lk (.one (.int .i64)) (.agg [(.int .i64 0), .nilSl, (.str []), (.int .i64 0), (.int .i64 0)]) true) [(.t 16), (.t 17)])⟩,
    ⟨(some 12), none, .p (.mv (.t 18))⟩,
    ⟨(some 19), none, .p (.ext 0 (.t 12))⟩,
    ⟨(some 20), none, .p (.ext 1 (.t 12))⟩,
    ⟨(some 7), none, .newO 31 [(.int .i64 0), .nilSl, (.str []), (.int .i64 0), (.int .i64 0)]⟩,
    ⟨none, none, .st 5 (.t 7) (.t 19)⟩,
    ⟨(some 8), none, .p (.mv (.t 20))⟩])
  (.seq (.seq (.reg [⟨(some 21), none, .p (.mv (.t 8))⟩,
    ⟨(some 22), none, .p (.not (.t 21))⟩])
  (.cond (.t 22) (.seq (.reg [⟨(some 6), none, .p (.mv (.c (.int .i64 7)))⟩])
  .ret) .skip))
  (.seq (.seq (.reg [⟨(some 23), none, .p (.mv (.t 2))⟩,
    ⟨(some 24), none, .call 27 [(.t 23)]⟩,
    ⟨(some 25), none, .p (.not (.t 24))⟩])
  (.cond (.t 25) (.seq (.reg [⟨(some 6), none, .p (.mv (.c (.int .i64 2)))⟩])
  .ret) .skip))
  (.seq (.reg [⟨(some 26), none, .p (.mv (.t 2))⟩,
    ⟨(some 27), none, .p (.faddr 4 (.t 7))⟩,
    ⟨none, none, .st 1 (.t 27) (.t 26)⟩])
  (.seq (.oreg [(.quiet, ⟨(some 28), none, .p (.mv (.t 0))⟩),
    (.quiet, ⟨(some 29), none, .p (.nilChk (.t 28))⟩),
    (.quiet, ⟨(some 30), none, .p (.faddr 0 (.t 29))⟩),
    (.quiet, ⟨(some 31), none, .p (.ld1 (.t 30))⟩),
    (.quiet, ⟨(some 32), none, .p (.mv (.t 1))⟩),
    (.quiet, ⟨(some 33), none, .p (.ldn 5 (.t 7))⟩),
    (.loud, ⟨none, none, .xs (.mu (.one (.int .i64))) [(.t 31), (.t 32), (.t 33)]⟩)])
  (.seq (.reg [⟨(some 6), none, .p (.mv (.c (.int .i64 0)))⟩])
  .ret))))))))⟩
theorem c313 : compF Try.prog ⟨fun s => [].contains s, fun r => match r with | 9 => [(0, .quiet), (1, .quiet), (2, .quiet), (3, .quiet), (4, .quiet), (5, .quiet), (6, .loud)] | _ => []⟩ Try.f13 = some a313 := by kernel_rfl

/- (*airline/hold.Holds).Held -/
def a314 : AFun := ⟨33, [.tmp 6], (.seq (.reg [⟨(some 4), none, .p (.boxI (.t 1))⟩,
    ⟨(some 6), none, .p (.mv (.c (.int .i64 0)))⟩])
  (.seq (.reg [⟨(some 7), none, .p (.mv (.c (.int .i64 0)))⟩])
  (.seq (.seq (.reg [⟨(some 10), none, .p (.mv (.t 0))⟩,
    ⟨(some 11), none, .call 10 [(.t 10)]⟩,
    ⟨(some 12), none, .p (.lenA (.t 11))⟩,
    ⟨(some 13), none, .p (.mv (.c (.int .i64 0)))⟩])
  (.block 0 (.loop (.seq (.reg [⟨(some 14), none, .p (.bin .lss (.t 13) (.t 12))⟩])
  (.seq (.cond (.t 14) .skip (.exit 0))
  (.seq (.block 1 (.seq (.reg [⟨(some 15), none, .p (.idxA 5 (.t 11) (.t 13))⟩,
    ⟨(some 16), none, .p (.ldn 5 (.t 15))⟩,
    ⟨(some 9), none, .newO 31 [(.int .i64 0), .nilSl, (.str []), (.int .i64 0), (.int .i64 0)]⟩,
    ⟨none, none, .st 5 (.t 9) (.t 16)⟩])
  (.seq (.reg [⟨(some 17), none, .p (.faddr 2 (.t 9))⟩,
    ⟨(some 18), none, .p (.ld1 (.t 17))⟩,
    ⟨(some 19), none, .p (.mv (.t 2))⟩,
    ⟨(some 20), none, .p (.bin .eql (.t 18) (.t 19))⟩,
    ⟨(some 21), none, .p (.mv (.t 20))⟩,
    ⟨(some 22), (some (21, true)), .p (.faddr 1 (.t 9))⟩,
    ⟨(some 23), (some (21, true)), .p (.ld1 (.t 22))⟩,
    ⟨(some 24), (some (21, true)), .p (.ldn 4 (.t 4))⟩,
    ⟨(some 25), (some (21, true)), .call 34 [(.t 23), (.t 24)]⟩,
    ⟨(some 26), none, .p (.pick (.t 21) (.t 25) (.c (.bool false)))⟩])
  (.cond (.t 26) (.reg [⟨(some 27), none, .p (.mv (.t 7))⟩,
    ⟨(some 28), none, .p (.faddr 3 (.t 9))⟩,
    ⟨(some 29), none, .p (.ld1 (.t 28))⟩,
    ⟨(some 30), none, .p (.bin .add (.t 27) (.t 29))⟩,
    ⟨(some 7), none, .p (.mv (.t 30))⟩]) .skip))))
  (.reg [⟨(some 31), none, .p (.bin .add (.t 13) (.c (.int .i64 1)))⟩,
    ⟨(some 13), none, .p (.mv (.t 31))⟩])))))))
  (.seq (.reg [⟨(some 32), none, .p (.mv (.t 7))⟩,
    ⟨(some 6), none, .p (.mv (.t 32))⟩])
  .ret))))⟩
theorem c314 : compF Try.prog ⟨fun s => [].contains s, fun _ => []⟩ Try.f14 = some a314 := by kernel_rfl

/- airline/airlinelaw16.big -/
def a315 : AFun := ⟨31, [.tmp 2], (.seq (.reg [⟨(some 2), none, .p (.mv (.c (.bool false)))⟩])
  (.seq (.seq (.reg [⟨(some 4), none, .p (.mv (.t 0))⟩,
    ⟨(some 5), none, .p (.lenA (.t 4))⟩,
    ⟨(some 6), none, .p (.bin .gtr (.t 5) (.c (.int .i64 40)))⟩])
  (.cond (.t 6) (.seq (.reg [⟨(some 2), none, .p (.mv (.c (.bool true)))⟩])
  .ret) .skip))
  (.seq (.seq (.reg [⟨(some 3), none, .p (.mv (.c (.int .i64 0)))⟩])
  (.block 0 (.loop (.seq (.seq (.reg [⟨(some 7), none, .p (.mv (.t 3))⟩,
    ⟨(some 8), none, .p (.mv (.t 0))⟩,
    ⟨(some 9), none, .p (.lenA (.t 8))⟩,
    ⟨(some 10), none, .p (.bin .lss (.t 7) (.t 9))⟩])
  (.cond (.t 10) .skip (.exit 0)))
  (.seq (.block 1 (.seq (.reg [⟨(some 13), none, .p (.mv (.t 0))⟩,
    ⟨(some 14), none, .p (.mv (.t 3))⟩,
    ⟨(some 15), none, .p (.idxA 7 (.t 13) (.t 14))⟩,
    ⟨(some 16), none, .p (.faddr 2 (.t 15))⟩,
    ⟨(some 17), none, .p (.faddr 1 (.t 16))⟩,
    ⟨(some 18), none, .p (.ld1 (.t 17))⟩,
    ⟨(some 19), none, .p (.lenA (.t 18))⟩,
    ⟨(some 20), none, .p (.bin .gtr (.t 19) (.c (.int .i64 8)))⟩,
    ⟨(some 21), none, .p (.mv (.t 20))⟩,
    ⟨(some 22), (some (21, false)), .p (.mv (.t 0))⟩,
    ⟨(some 23), (some (21, false)), .p (.mv (.t 3))⟩,
    ⟨(some 24), (some (21, false)), .p (.idxA 7 (.t 22) (.t 23))⟩,
    ⟨(some 25), (some (21, false)), .p (.faddr 2 (.t 24))⟩,
    ⟨(some 26), (some (21, false)), .p (.faddr 2 (.t 25))⟩,
    ⟨(some 27), (some (21, false)), .p (.ld1 (.t 26))⟩,
    ⟨(some 28), (some (21, false)), .p (.lenS (.t 27))⟩,
    ⟨(some 29), (some (21, false)), .p (.bin .gtr (.t 28) (.c (.int .i64 100)))⟩,
    ⟨(some 30), none, .p (.pick (.t 21) (.c (.bool true)) (.t 29))⟩])
  (.cond (.t 30) (.seq (.reg [⟨(some 2), none, .p (.mv (.c (.bool true)))⟩])
  .ret) .skip)))
  (.reg [⟨(some 11), none, .p (.mv (.t 3))⟩,
    ⟨(some 12), none, .p (.bin .add (.t 11) (.c (.int .i64 1)))⟩,
    ⟨(some 3), none, .p (.mv (.t 12))⟩]))))))
  (.seq (.reg [⟨(some 2), none, .p (.mv (.c (.bool false)))⟩])
  .ret))))⟩
theorem c315 : compF Try.prog ⟨fun s => [].contains s, fun _ => []⟩ Try.f15 = some a315 := by kernel_rfl

/- airline/airlineref16.New -/
def a316 : AFun := ⟨3, [.tmp 0], (.seq (.reg [⟨(some 0), none, .p (.mv (.c .nilPtr))⟩])
  (.seq (.reg [⟨(some 1), none, .p (.build [.nilSl] [])⟩,
    ⟨(some 2), none, .boxO 74 (.t 1)⟩,
    ⟨(some 0), none, .p (.mv (.t 2))⟩])
  .ret))⟩
theorem c316 : compF Try.prog ⟨fun s => [2].contains s, fun _ => []⟩ Try.f16 = some a316 := by kernel_rfl

/- (*airline/airlineref16.Holds).Put -/
def a317 : AFun := ⟨112, [.tmp 4], (.seq (.reg [⟨(some 3), none, .p (.boxI (.t 1))⟩,
    ⟨(some 4), none, .p (.mv (.c (.int .i64 0)))⟩])
  (.seq (.seq (.reg [⟨(some 7), none, .p (.faddr 0 (.t 3))⟩,
    ⟨(some 8), none, .p (.ld1 (.t 7))⟩,
    ⟨(some 9), none, .p (.bin .lss (.t 8) (.c (.int .i64 1)))⟩,
    ⟨(some 10), none, .p (.mv (.t 9))⟩,
    ⟨(some 11), (some (10, false)), .p (.faddr 1 (.t 3))⟩,
    ⟨(some 12), (some (10, false)), .p (.ld1 (.t 11))⟩,
    ⟨(some 13), (some (10, false)), .p (.lenA (.t 12))⟩,
    ⟨(some 14), (some (10, false)), .p (.bin .eql (.t 13) (.c (.int .i64 0)))⟩,
    ⟨(some 15), none, .p (.pick (.t 10) (.c (.bool true)) (.t 14))⟩,
    ⟨(some 16), none, .p (.mv (.t 15))⟩,
    ⟨(some 17), (some (16, false)), .p (.faddr 1 (.t 3))⟩,
    ⟨(some 18), (some (16, false)), .p (.ld1 (.t 17))⟩,
    ⟨(some 19), (some (16, false)), .call 35 [(.t 18)]⟩,
    ⟨(some 20), none, .p (.pick (.t 16) (.c (.bool true)) (.t 19))⟩,
    ⟨(some 21), none, .p (.mv (.t 20))⟩,
    ⟨(some 22), (some (21, false)), .p (.faddr 3 (.t 3))⟩,
    ⟨(some 23), (some (21, false)), .p (.ld1 (.t 22))⟩,
    ⟨(some 24), (some (21, false)), .p (.bin .lss (.t 23) (.c (.int .i64 1)))⟩,
    ⟨(some 25), none, .p (.pick (.t 21) (.c (.bool true)) (.t 24))⟩,
    ⟨(some 26), none, .p (.mv (.t 25))⟩,
    ⟨(some 27), (some (26, false)), .p (.faddr 3 (.t 3))⟩,
    ⟨(some 28), (some (26, false)), .p (.ld1 (.t 27))⟩,
    ⟨(some 29), (some (26, false)), .p (.bin .gtr (.t 28) (.c (.int .i64 99)))⟩,
    ⟨(some 30), none, .p (.pick (.t 26) (.c (.bool true)) (.t 29))⟩,
    ⟨(some 31), none, .p (.mv (.t 30))⟩,
    ⟨(some 32), (some (31, false)), .p (.faddr 4 (.t 3))⟩,
    ⟨(some 33), (some (31, false)), .p (.ld1 (.t 32))⟩,
    ⟨(some 34), (some (31, false)), .call 36 [(.t 33)]⟩,
    ⟨(some 35), (some (31, false)), .p (.not (.t 34))⟩,
    ⟨(some 36), none, .p (.pick (.t 31) (.c (.bool true)) (.t 35))⟩])
  (.cond (.t 36) (.seq (.reg [⟨(some 4), none, .p (.mv (.c (.int .i64 2)))⟩])
  .ret) .skip))
  (.seq (.seq (.reg [⟨(some 37), none, .p (.mv (.t 0))⟩,
    ⟨(some 38), none, .p (.faddr 0 (.t 3))⟩,
    ⟨(some 39), none, .p (.ld1 (.t 38))⟩,
    ⟨(some 40), none, .call 37 [(.t 37), (.t 39)]⟩,
    ⟨(some 41), none, .p (.bin .geq (.t 40) (.c (.int .i64 0)))⟩])
  (.cond (.t 41) (.seq (.reg [⟨(some 4), none, .p (.mv (.c (.int .i64 6)))⟩])
  .ret) .skip))
  (.seq (.reg [⟨(some 5), none, .p (.mv (.c (.int .i64 0)))⟩])
  (.seq (.block 0 (.loop (.seq (.seq (.oreg [(.quiet, ⟨(some 42), none, .p (.mv (.t 5))⟩),
    (.quiet, ⟨(some 43), none, .p (.mv (.t 0))⟩),
    (.quiet, ⟨(some 44), none, .p (.nilChk (.t 43))⟩),
    (.quiet, ⟨(some 45), none, .p (.faddr 0 (.t 44))⟩),
    (.quiet, ⟨(some 46), none, .p (.ld1 (.t 45))⟩),
    (.quiet, ⟨(some 47), none, .p (.lenA (.t 46))⟩),
    (.quiet, ⟨(some 48), none, .p (.bin .lss (.t 42) (.t 47))⟩),
    (.quiet, ⟨(some 49), none, .p (.mv (.t 48))⟩),
    (.quiet, ⟨(some 50), (some (49, true)), .p (.mv (.t 0))⟩),
    (.quiet, ⟨(some 51), (some (49, true)), .p (.nilChk (.t 50))⟩),
    (.quiet, ⟨(some 52), (some (49, true)), .p (.faddr 0 (.t 51))⟩),
    (.quiet, ⟨(some 53), (some (49, true)), .p (.ld1 (.t 52))⟩),
    (.quiet, ⟨(some 54), (some (49, true)), .p (.mv (.t 5))⟩),
    (.quiet, ⟨(some 55), (some (49, true)), .p (.idxA 5 (.t 53) (.t 54))⟩),
    (.quiet, ⟨(some 56), (some (49, true)), .p (.faddr 4 (.t 55))⟩),
    (.quiet, ⟨(some 57), (some (49, true)), .p (.ld1 (.t 56))⟩),
    (.quiet, ⟨(some 58), (some (49, true)), .p (.faddr 4 (.t 3))⟩),
    (.quiet, ⟨(some 59), (some (49, true)), .p (.ld1 (.t 58))⟩),
    (.quiet, ⟨(some 60), (some (49, true)), .p (.bin .lss (.t 57) (.t 59))⟩),
    (.quiet, ⟨(some 61), (some (49, true)), .p (.mv (.t 60))⟩),
    (.quiet, ⟨(some 62), (some (61, false)), .p (.mv (.t 0))⟩),
    (.quiet, ⟨(some 63), (some (61, false)), .p (.nilChk (.t 62))⟩),
    (.quiet, ⟨(some 64), (some (61, false)), .p (.faddr 0 (.t 63))⟩),
    (.quiet, ⟨(some 65), (some (61, false)), .p (.ld1 (.t 64))⟩),
    (.quiet, ⟨(some 66), (some (61, false)), .p (.mv (.t 5))⟩),
    (.quiet, ⟨(some 67), (some (61, false)), .p (.idxA 5 (.t 65) (.t 66))⟩),
    (.quiet, ⟨(some 68), (some (61, false)), .p (.faddr 4 (.t 67))⟩),
    (.quiet, ⟨(some 69), (some (61, false)), .p (.ld1 (.t 68))⟩),
    (.quiet, ⟨(some 70), (some (61, false)), .p (.faddr 4 (.t 3))⟩),
    (.quiet, ⟨(some 71), (some (61, false)), .p (.ld1 (.t 70))⟩),
    (.quiet, ⟨(some 72), (some (61, false)), .p (.bin .eql (.t 69) (.t 71))⟩),
    (.quiet, ⟨(some 73), (some (61, false)), .p (.mv (.t 72))⟩),
    (.quiet, ⟨(some 74), (some (73, true)), .p (.mv (.t 0))⟩),
    (.quiet, ⟨(some 75), (some (73, true)), .p (.nilChk (.t 74))⟩),
    (.quiet, ⟨(some 76), (some (73, true)), .p (.faddr 0 (.t 75))⟩),
    (.quiet, ⟨(some 77), (some (73, true)), .p (.ld1 (.t 76))⟩),
    (.quiet, ⟨(some 78), (some (73, true)), .p (.mv (.t 5))⟩),
    (.quiet, ⟨(some 79), (some (73, true)), .p (.idxA 5 (.t 77) (.t 78))⟩),
    (.quiet, ⟨(some 80), (some (73, true)), .p (.faddr 0 (.t 79))⟩),
    (.quiet, ⟨(some 81), (some (73, true)), .p (.ld1 (.t 80))⟩),
    (.quiet, ⟨(some 82), (some (73, true)), .p (.faddr 0 (.t 3))⟩),
    (.quiet, ⟨(some 83), (some (73, true)), .p (.ld1 (.t 82))⟩),
    (.quiet, ⟨(some 84), (some (73, true)), .p (.bin .lss (.t 81) (.t 83))⟩),
    (.quiet, ⟨(some 85), (some (61, false)), .p (.pick (.t 73) (.t 84) (.c (.bool false)))⟩),
    (.quiet, ⟨(some 86), (some (49, true)), .p (.pick (.t 61) (.c (.bool true)) (.t 85))⟩),
    (.quiet, ⟨(some 87), none, .p (.pick (.t 49) (.t 86) (.c (.bool false)))⟩)])
  (.cond (.t 87) .skip (.exit 0)))
  (.block 1 (.reg [⟨(some 88), none, .p (.mv (.t 5))⟩,
    ⟨(some 89), none, .p (.bin .add (.t 88) (.c (.int .i64 1)))⟩,
    ⟨(some 5), none, .p (.mv (.t 89))⟩])))))
  (.seq (.reg [⟨(some 6), none, .p (.mv (.c .nilSl))⟩])
  (.seq (.oreg [(.quiet, ⟨(some 90), none, .p (.mv (.t 6))⟩),
    (.quiet, ⟨(some 91), none, .p (.mv (.t 0))⟩),
    (.quiet, ⟨(some 92), none, .p (.nilChk (.t 91))⟩),
    (.quiet, ⟨(some 93), none, .p (.faddr 0 (.t 92))⟩),
    (.quiet, ⟨(some 94), none, .p (.ld1 (.t 93))⟩),
    (.quiet, ⟨(some 95), none, .p (.mv (.t 5))⟩),
    (.quiet, ⟨(some 96), none, .p (.slA 5 (.t 94) none (some (.t 95)))⟩),
    (.stable, ⟨(some 98), none, .p (.ldn 5 (.t 3))⟩),
    (.stable, ⟨(some 99), none, .p (.bsl 5 [(.int .i64 0), .nilSl, (.str []), (.int .i64 0), (.int .i64 0)] 1 [(0, (.t 98))])⟩),
    (.loud, ⟨(some 97), none, .app 28 5 (.t 90) (.t 96)⟩),
    (.loud, ⟨(some 100), none, .app 28 5 (.t 97) (.t 99)⟩),
    (.quiet, ⟨(some 6), none, .p (.mv (.t 100))⟩)])
  (.seq (.reg [⟨(some 101), none, .p (.mv (.t 0))⟩,
    ⟨(some 102), none, .p (.mv (.t 6))⟩,
    ⟨(some 103), none, .p (.mv (.t 0))⟩,
    ⟨(some 104), none, .p (.nilChk (.t 103))⟩,
    ⟨(some 105), none, .p (.faddr 0 (.t 104))⟩,
    ⟨(some 106), none, .p (.ld1 (.t 105))⟩,
    ⟨(some 107), none, .p (.mv (.t 5))⟩,
    ⟨(some 108), none, .p (.slA 5 (.t 106) (some (.t 107)) none)⟩,
    ⟨(some 109), none, .app 28 5 (.t 102) (.t 108)⟩,
    ⟨(some 110), none, .p (.nilChk (.t 101))⟩,
    ⟨(some 111), none, .p (.faddr 0 (.t 110))⟩,
    ⟨none, none, .st 1 (.t 111) (.t 109)⟩])
  (.seq (.reg [⟨(some 4), none, .p (.mv (.c (.int .i64 0)))⟩])
  .ret)))))))))⟩
theorem c317 : compF Try.prog ⟨fun s => [].contains s, fun r => match r with | 6 => [(0, .quiet), (1, .quiet), (2, .quiet), (3, .quiet), (4, .quiet), (5, .quiet), (6, .quiet), (7, .quiet), (8, .quiet), (9, .quiet), (10, .quiet), (11, .quiet), (12, .quiet), (13, .quiet), (14, .quiet), (15, .quiet), (16, .quiet), (17, .quiet), (18, .quiet), (19, .quiet), (20, .quiet), (21, .quiet), (22, .quiet), (23, .quiet), (24, .quiet), (25, .quiet), (26, .quiet), (27, .quiet), (28, .quiet), (29, .quiet), (30, .quiet), (31, .quiet), (32, .quiet), (33, .quiet), (34, .quiet), (35, .quiet), (36, .quiet), (37, .quiet), (38, .quiet), (39, .quiet), (40, .quiet), (41, .quiet), (42, .quiet), (43, .quiet), (44, .quiet), (45, .quiet)]  | 9 => [(0, .quiet), (1, .quiet), (2, .quiet), (3, .quiet), (4, .quiet), (5, .quiet), (6, .quiet), (8, .stable), (9, .stable), (7, .loud), (10, .loud), (11, .quiet)] | _ => []⟩ Try.f17 = some a317 := by kernel_rfl

/- (*airline/airlineref16.Holds).Drop -/
def a318 : AFun := ⟨43, [.cell 4 (some 5), .tmp 5], (.seq (.reg [⟨(some 4), none, .newO 28 [(.int .i64 0), .nilSl, (.str []), (.int .i64 0), (.int .i64 0)]⟩,
    ⟨(some 5), none, .p (.mv (.c (.int .i64 0)))⟩])
  (.seq (.reg [⟨(some 9), none, .p (.mv (.t 0))⟩,
    ⟨(some 10), none, .p (.mv (.t 1))⟩,
    ⟨(some 11), none, .call 37 [(.t 9), (.t 10)]⟩,
    ⟨(some 6), none, .p (.mv (.t 11))⟩])
  (.seq (.seq (.reg [⟨(some 12), none, .p (.mv (.t 6))⟩,
    ⟨(some 13), none, .p (.bin .lss (.t 12) (.c (.int .i64 0)))⟩])
  (.cond (.t 13) (.seq (.reg [⟨(some 14), none, .p (.build [(.int .i64 0), .nilSl, (.str []), (.int .i64 0), (.int .i64 0)] [])⟩,
    ⟨none, none, .st 5 (.t 4) (.t 14)⟩,
    ⟨(some 5), none, .p (.mv (.c (.int .i64 7)))⟩])
  .ret) .skip))
  (.seq (.reg [⟨(some 15), none, .p (.mv (.t 0))⟩,
    ⟨(some 16), none, .p (.nilChk (.t 15))⟩,
    ⟨(some 17), none, .p (.faddr 0 (.t 16))⟩,
    ⟨(some 18), none, .p (.ld1 (.t 17))⟩,
    ⟨(some 19), none, .p (.mv (.t 6))⟩,
    ⟨(some 20), none, .p (.idxA 5 (.t 18) (.t 19))⟩,
    ⟨(some 21), none, .p (.ldn 5 (.t 20))⟩,
    ⟨(some 7), none, .newO 28 [(.int .i64 0), .nilSl, (.str []), (.int .i64 0), (.int .i64 0)]⟩,
    ⟨none, none, .st 5 (.t 7) (.t 21)⟩])
  (.seq (.reg [⟨(some 8), none, .p (.mv (.c .nilSl))⟩])
  (.seq (.reg [⟨(some 22), none, .p (.mv (.t 8))⟩,
    ⟨(some 23), none, .p (.mv (.t 0))⟩,
    ⟨(some 24), none, .p (.nilChk (.t 23))⟩,
    ⟨(some 25), none, .p (.faddr 0 (.t 24))⟩,
    ⟨(some 26), none, .p (.ld1 (.t 25))⟩,
    ⟨(some 27), none, .p (.mv (.t 6))⟩,
    ⟨(some 28), none, .p (.slA 5 (.t 26) none (some (.t 27)))⟩,
    ⟨(some 29), none, .app 28 5 (.t 22) (.t 28)⟩,
    ⟨(some 8), none, .p (.mv (.t 29))⟩])
  (.seq (.reg [⟨(some 30), none, .p (.mv (.t 0))⟩,
    ⟨(some 31), none, .p (.mv (.t 8))⟩,
    ⟨(some 32), none, .p (.mv (.t 0))⟩,
    ⟨(some 33), none, .p (.nilChk (.t 32))⟩,
    ⟨(some 34), none, .p (.faddr 0 (.t 33))⟩,
    ⟨(some 35), none, .p (.ld1 (.t 34))⟩,
    ⟨(some 36), none, .p (.mv (.t 6))⟩,
    ⟨(some 37), none, .p (.bin .add (.t 36) (.c (.int .i64 1)))⟩,
    ⟨(some 38), none, .p (.slA 5 (.t 35) (some (.t 37)) none)⟩,
    ⟨(some 39), none, .app 28 5 (.t 31) (.t 38)⟩,
    ⟨(some 40), none, .p (.nilChk (.t 30))⟩,
    ⟨(some 41), none, .p (.faddr 0 (.t 40))⟩,
    ⟨none, none, .st 1 (.t 41) (.t 39)⟩])
  (.seq (.reg [⟨(some 42), none, .p (.ldn 5 (.t 7))⟩,
    ⟨none, none, .st 5 (.t 4) (.t 42)⟩,
    ⟨(some 5), none, .p (.mv (.c (.int .i64 0)))⟩])
  .ret))))))))⟩
theorem c318 : compF Try.prog ⟨fun s => [].contains s, fun _ => []⟩ Try.f18 = some a318 := by kernel_rfl

/- airline/airlineref16.Same -/
def a319 : AFun := ⟨38, [.tmp 4], (.seq (.reg [⟨(some 2), none, .p (.boxI (.t 0))⟩,
    ⟨(some 3), none, .p (.boxI (.t 1))⟩,
    ⟨(some 4), none, .p (.mv (.c (.bool false)))⟩])
  (.seq (.reg [⟨(some 5), none, .p (.faddr 0 (.t 2))⟩,
    ⟨(some 6), none, .p (.ld1 (.t 5))⟩,
    ⟨(some 7), none, .p (.faddr 0 (.t 3))⟩,
    ⟨(some 8), none, .p (.ld1 (.t 7))⟩,
    ⟨(some 9), none, .p (.bin .eql (.t 6) (.t 8))⟩,
    ⟨(some 10), none, .p (.mv (.t 9))⟩,
    ⟨(some 11), (some (10, true)), .p (.faddr 2 (.t 2))⟩,
    ⟨(some 12), (some (10, true)), .p (.ld1 (.t 11))⟩,
    ⟨(some 13), (some (10, true)), .p (.faddr 2 (.t 3))⟩,
    ⟨(some 14), (some (10, true)), .p (.ld1 (.t 13))⟩,
    ⟨(some 15), (some (10, true)), .p (.bin .eql (.t 12) (.t 14))⟩,
    ⟨(some 16), none, .p (.pick (.t 10) (.t 15) (.c (.bool false)))⟩,
    ⟨(some 17), none, .p (.mv (.t 16))⟩,
    ⟨(some 18), (some (17, true)), .p (.faddr 3 (.t 2))⟩,
    ⟨(some 19), (some (17, true)), .p (.ld1 (.t 18))⟩,
    ⟨(some 20), (some (17, true)), .p (.faddr 3 (.t 3))⟩,
    ⟨(some 21), (some (17, true)), .p (.ld1 (.t 20))⟩,
    ⟨(some 22), (some (17, true)), .p (.bin .eql (.t 19) (.t 21))⟩,
    ⟨(some 23), none, .p (.pick (.t 17) (.t 22) (.c (.bool false)))⟩,
    ⟨(some 24), none, .p (.mv (.t 23))⟩,
    ⟨(some 25), (some (24, true)), .p (.faddr 4 (.t 2))⟩,
    ⟨(some 26), (some (24, true)), .p (.ld1 (.t 25))⟩,
    ⟨(some 27), (some (24, true)), .p (.faddr 4 (.t 3))⟩,
    ⟨(some 28), (some (24, true)), .p (.ld1 (.t 27))⟩,
    ⟨(some 29), (some (24, true)), .p (.bin .eql (.t 26) (.t 28))⟩,
    ⟨(some 30), none, .p (.pick (.t 24) (.t 29) (.c (.bool false)))⟩,
    ⟨(some 31), none, .p (.mv (.t 30))⟩,
    ⟨(some 32), (some (31, true)), .p (.faddr 1 (.t 2))⟩,
    ⟨(some 33), (some (31, true)), .p (.ld1 (.t 32))⟩,
    ⟨(some 34), (some (31, true)), .p (.faddr 1 (.t 3))⟩,
    ⟨(some 35), (some (31, true)), .p (.ld1 (.t 34))⟩,
    ⟨(some 36), (some (31, true)), .call 38 [(.t 33), (.t 35)]⟩,
    ⟨(some 37), none, .p (.pick (.t 31) (.t 36) (.c (.bool false)))⟩,
    ⟨(some 4), none, .p (.mv (.t 37))⟩])
  .ret))⟩
theorem c319 : compF Try.prog ⟨fun s => [].contains s, fun _ => []⟩ Try.f19 = some a319 := by kernel_rfl

/- (*airline/airlineref16.Holds).Extend -/
def a320 : AFun := ⟨27, [.tmp 6], (.seq (.reg [⟨(some 6), none, .p (.mv (.c (.int .i64 0)))⟩])
  (.seq (.seq (.reg [⟨(some 9), none, .p (.mv (.t 0))⟩,
    ⟨(some 10), none, .p (.mv (.t 1))⟩,
    ⟨(some 11), none, .call 37 [(.t 9), (.t 10)]⟩,
    ⟨(some 12), none, .p (.bin .lss (.t 11) (.c (.int .i64 0)))⟩])
  (.cond (.t 12) (.seq (.reg [⟨(some 6), none, .p (.mv (.c (.int .i64 7)))⟩])
  .ret) .skip))
  (.seq (.seq (.reg [⟨(some 13), none, .p (.mv (.t 2))⟩,
    ⟨(some 14), none, .call 36 [(.t 13)]⟩,
    ⟨(some 15), none, .p (.not (.t 14))⟩])
  (.cond (.t 15) (.seq (.reg [⟨(some 6), none, .p (.mv (.c (.int .i64 2)))⟩])
  .ret) .skip))
  (.seq (.reg [⟨(some 17), none, .p (.mv (.t 0))⟩,
    ⟨(some 18), none, .p (.mv (.t 1))⟩,
    ⟨(some 19), none, .call 18 [(.t 17), (.t 18)]⟩,
    ⟨(some 16), none, .p (.mv (.t 19))⟩,
    ⟨(some 20), none, .p (.ext 0 (.t 16))⟩,
    ⟨(some 21), none, .p (.ext 1 (.t 16))⟩,
    ⟨(some 7), none, .newO 28 [(.int .i64 0), .nilSl, (.str []), (.int .i64 0), (.int .i64 0)]⟩,
    ⟨none, none, .st 5 (.t 7) (.t 20)⟩,
    ⟨(some 8), none, .p (.mv (.t 21))⟩])
  (.seq (.reg [⟨(some 22), none, .p (.mv (.t 2))⟩,
    ⟨(some 23), none, .p (.faddr 4 (.t 7))⟩,
    ⟨none, none, .st 1 (.t 23) (.t 22)⟩])
  (.seq (.reg [⟨(some 24), none, .p (.mv (.t 0))⟩,
    ⟨(some 25), none, .p (.ldn 5 (.t 7))⟩,
    ⟨(some 26), none, .call 17 [(.t 24), (.t 25)]⟩,
    ⟨(some 6), none, .p (.mv (.t 26))⟩])
  .ret))))))⟩
theorem c320 : compF Try.prog ⟨fun s => [].contains s, fun _ => []⟩ Try.f20 = some a320 := by kernel_rfl

/- airline/airlinelaw16.same -/
def a321 : AFun := ⟨27, [.tmp 4], (.seq (.reg [⟨(some 4), none, .p (.mv (.c (.bool false)))⟩])
  (.seq (.seq (.reg [⟨(some 6), none, .p (.mv (.t 0))⟩,
    ⟨(some 7), none, .p (.lenA (.t 6))⟩,
    ⟨(some 8), none, .p (.mv (.t 1))⟩,
    ⟨(some 9), none, .p (.lenA (.t 8))⟩,
    ⟨(some 10), none, .p (.bin .neq (.t 7) (.t 9))⟩])
  (.cond (.t 10) (.seq (.reg [⟨(some 4), none, .p (.mv (.c (.bool false)))⟩])
  .ret) .skip))
  (.seq (.seq (.reg [⟨(some 5), none, .p (.mv (.c (.int .i64 0)))⟩])
  (.block 0 (.loop (.seq (.seq (.reg [⟨(some 11), none, .p (.mv (.t 5))⟩,
    ⟨(some 12), none, .p (.mv (.t 0))⟩,
    ⟨(some 13), none, .p (.lenA (.t 12))⟩,
    ⟨(some 14), none, .p (.bin .lss (.t 11) (.t 13))⟩])
  (.cond (.t 14) .skip (.exit 0)))
  (.seq (.block 1 (.seq (.oreg [(.quiet, ⟨(some 17), none, .p (.mv (.t 0))⟩),
    (.quiet, ⟨(some 18), none, .p (.mv (.t 5))⟩),
    (.quiet, ⟨(some 19), none, .p (.idxA 5 (.t 17) (.t 18))⟩),
    (.quiet, ⟨(some 20), none, .p (.ldn 5 (.t 19))⟩),
    (.quiet, ⟨(some 21), none, .p (.mv (.t 1))⟩),
    (.quiet, ⟨(some 22), none, .p (.mv (.t 5))⟩),
    (.quiet, ⟨(some 23), none, .p (.idxA 5 (.t 21) (.t 22))⟩),
    (.quiet, ⟨(some 24), none, .p (.ldn 5 (.t 23))⟩),
    (.loud, ⟨(some 25), none, .call 19 [(.t 20), (.t 24)]⟩),
    (.quiet, ⟨(some 26), none, .p (.not (.t 25))⟩)])
  (.cond (.t 26) (.seq (.reg [⟨(some 4), none, .p (.mv (.c (.bool false)))⟩])
  .ret) .skip)))
  (.reg [⟨(some 15), none, .p (.mv (.t 5))⟩,
    ⟨(some 16), none, .p (.bin .add (.t 15) (.c (.int .i64 1)))⟩,
    ⟨(some 5), none, .p (.mv (.t 16))⟩]))))))
  (.seq (.reg [⟨(some 4), none, .p (.mv (.c (.bool true)))⟩])
  .ret))))⟩
theorem c321 : compF Try.prog ⟨fun s => [].contains s, fun r => match r with | 6 => [(0, .quiet), (1, .quiet), (2, .quiet), (3, .quiet), (4, .quiet), (5, .quiet), (6, .quiet), (7, .quiet), (8, .loud), (9, .quiet)] | _ => []⟩ Try.f21 = some a321 := by kernel_rfl

/- (*airline/airlineref16.Holds).Expire -/
def a322 : AFun := ⟨42, [.tmp 4], (.seq (.reg [⟨(some 4), none, .p (.mv (.c .nilSl))⟩])
  (.seq (.reg [⟨(some 5), none, .p (.mv (.c .nilSl))⟩])
  (.seq (.block 0 (.loop (.seq (.seq (.reg [⟨(some 8), none, .p (.mv (.t 0))⟩,
    ⟨(some 9), none, .p (.nilChk (.t 8))⟩,
    ⟨(some 10), none, .p (.faddr 0 (.t 9))⟩,
    ⟨(some 11), none, .p (.ld1 (.t 10))⟩,
    ⟨(some 12), none, .p (.lenA (.t 11))⟩,
    ⟨(some 13), none, .p (.bin .gtr (.t 12) (.c (.int .i64 0)))⟩,
    ⟨(some 14), none, .p (.mv (.t 13))⟩,
    ⟨(some 15), (some (14, true)), .p (.mv (.t 0))⟩,
    ⟨(some 16), (some (14, true)), .p (.nilChk (.t 15))⟩,
    ⟨(some 17), (some (14, true)), .p (.faddr 0 (.t 16))⟩,
    ⟨(some 18), (some (14, true)), .p (.ld1 (.t 17))⟩,
    ⟨(some 19), (some (14, true)), .p (.idxA 5 (.t 18) (.c (.int .i64 0)))⟩,
    ⟨(some 20), (some (14, true)), .p (.faddr 4 (.t 19))⟩,
    ⟨(some 21), (some (14, true)), .p (.ld1 (.t 20))⟩,
    ⟨(some 22), (some (14, true)), .p (.mv (.t 1))⟩,
    ⟨(some 23), (some (14, true)), .p (.bin .leq (.t 21) (.t 22))⟩,
    ⟨(some 24), none, .p (.pick (.t 14) (.t 23) (.c (.bool false)))⟩])
  (.cond (.t 24) .skip (.exit 0)))
  (.block 1 (.seq (.reg [⟨(some 26), none, .p (.mv (.t 0))⟩,
    ⟨(some 27), none, .p (.mv (.t 0))⟩,
    ⟨(some 28), none, .p (.nilChk (.t 27))⟩,
    ⟨(some 29), none, .p (.faddr 0 (.t 28))⟩,
    ⟨(some 30), none, .p (.ld1 (.t 29))⟩,
    ⟨(some 31), none, .p (.idxA 5 (.t 30) (.c (.int .i64 0)))⟩,
    ⟨(some 32), none, .p (.faddr 0 (.t 31))⟩,
    ⟨(some 33), none, .p (.ld1 (.t 32))⟩,
    ⟨(some 34), none, .call 18 [(.t 26), (.t 33)]⟩,
    ⟨(some 25), none, .p (.mv (.t 34))⟩,
    ⟨(some 35), none, .p (.ext 0 (.t 25))⟩,
    ⟨(some 36), none, .p (.ext 1 (.t 25))⟩,
    ⟨(some 6), none, .newO 28 [(.int .i64 0), .nilSl, (.str []), (.int .i64 0), (.int .i64 0)]⟩,
    ⟨none, none, .st 5 (.t 6) (.t 35)⟩,
    ⟨(some 7), none, .p (.mv (.t 36))⟩])
  (.reg [⟨(some 37), none, .p (.mv (.t 5))⟩,
    ⟨(some 38), none, .p (.ldn 5 (.t 6))⟩,
    ⟨(some 39), none, .p (.bsl 5 [(.int .i64 0), .nilSl, (.str []), (.int .i64 0), (.int .i64 0)] 1 [(0, (.t 38))])⟩,
    ⟨(some 40), none, .app 28 5 (.t 37) (.t 39)⟩,
    ⟨(some 5), none, .p (.mv (.t 40))⟩]))))))
  (.seq (.reg [⟨(some 41), none, .p (.mv (.t 5))⟩,
    ⟨(some 4), none, .p (.mv (.t 41))⟩])
  .ret))))⟩
theorem c322 : compF Try.prog ⟨fun s => [].contains s, fun _ => []⟩ Try.f22 = some a322 := by kernel_rfl

/- (*airline/airlineref16.Holds).Held -/
def a323 : AFun := ⟨68, [.tmp 6], (.seq (.reg [⟨(some 4), none, .p (.boxI (.t 1))⟩,
    ⟨(some 6), none, .p (.mv (.c (.int .i64 0)))⟩])
  (.seq (.reg [⟨(some 7), none, .p (.mv (.c (.int .i64 0)))⟩])
  (.seq (.seq (.reg [⟨(some 8), none, .p (.mv (.c (.int .i64 0)))⟩])
  (.block 0 (.loop (.seq (.seq (.reg [⟨(some 10), none, .p (.mv (.t 8))⟩,
    ⟨(some 11), none, .p (.mv (.t 0))⟩,
    ⟨(some 12), none, .p (.nilChk (.t 11))⟩,
    ⟨(some 13), none, .p (.faddr 0 (.t 12))⟩,
    ⟨(some 14), none, .p (.ld1 (.t 13))⟩,
    ⟨(some 15), none, .p (.lenA (.t 14))⟩,
    ⟨(some 16), none, .p (.bin .lss (.t 10) (.t 15))⟩])
  (.cond (.t 16) .skip (.exit 0)))
  (.seq (.block 1 (.seq (.reg [⟨(some 9), none, .p (.mv (.c (.int .i64 0)))⟩])
  (.block 2 (.loop (.seq (.seq (.reg [⟨(some 19), none, .p (.mv (.t 9))⟩,
    ⟨(some 20), none, .p (.mv (.t 0))⟩,
    ⟨(some 21), none, .p (.nilChk (.t 20))⟩,
    ⟨(some 22), none, .p (.faddr 0 (.t 21))⟩,
    ⟨(some 23), none, .p (.ld1 (.t 22))⟩,
    ⟨(some 24), none, .p (.mv (.t 8))⟩,
    ⟨(some 25), none, .p (.idxA 5 (.t 23) (.t 24))⟩,
    ⟨(some 26), none, .p (.faddr 1 (.t 25))⟩,
    ⟨(some 27), none, .p (.ld1 (.t 26))⟩,
    ⟨(some 28), none, .p (.lenA (.t 27))⟩,
    ⟨(some 29), none, .p (.bin .lss (.t 19) (.t 28))⟩,
    ⟨(some 30), none, .p (.mv (.t 29))⟩,
    ⟨(some 31), (some (30, true)), .p (.mv (.t 0))⟩,
    ⟨(some 32), (some (30, true)), .p (.nilChk (.t 31))⟩,
    ⟨(some 33), (some (30, true)), .p (.faddr 0 (.t 32))⟩,
    ⟨(some 34), (some (30, true)), .p (.ld1 (.t 33))⟩,
    ⟨(some 35), (some (30, true)), .p (.mv (.t 8))⟩,
    ⟨(some 36), (some (30, true)), .p (.idxA 5 (.t 34) (.t 35))⟩,
    ⟨(some 37), (some (30, true)), .p (.faddr 2 (.t 36))⟩,
    ⟨(some 38), (some (30, true)), .p (.ld1 (.t 37))⟩,
    ⟨(some 39), (some (30, true)), .p (.mv (.t 2))⟩,
    ⟨(some 40), (some (30, true)), .p (.bin .eql (.t 38) (.t 39))⟩,
    ⟨(some 41), none, .p (.pick (.t 30) (.t 40) (.c (.bool false)))⟩])
  (.cond (.t 41) .skip (.exit 2)))
  (.seq (.block 3 (.seq (.oreg [(.quiet, ⟨(some 44), none, .p (.mv (.t 0))⟩),
    (.quiet, ⟨(some 45), none, .p (.nilChk (.t 44))⟩),
    (.quiet, ⟨(some 46), none, .p (.faddr 0 (.t 45))⟩),
    (.quiet, ⟨(some 47), none, .p (.ld1 (.t 46))⟩),
    (.quiet, ⟨(some 48), none, .p (.mv (.t 8))⟩),
    (.quiet, ⟨(some 49), none, .p (.idxA 5 (.t 47) (.t 48))⟩),
    (.quiet, ⟨(some 50), none, .p (.faddr 1 (.t 49))⟩),
    (.quiet, ⟨(some 51), none, .p (.ld1 (.t 50))⟩),
    (.quiet, ⟨(some 52), none, .p (.mv (.t 9))⟩),
    (.quiet, ⟨(some 53), none, .p (.idxA 4 (.t 51) (.t 52))⟩),
    (.quiet, ⟨(some 54), none, .p (.ldn 4 (.t 53))⟩),
    (.quiet, ⟨(some 55), none, .p (.ldn 4 (.t 4))⟩),
    (.quiet, ⟨(some 56), none, .p (.xo (.eqA [.str, (.int .i64), (.int .i64), .str] false) [(.t 54), (.t 55)])⟩)])
  (.cond (.t 56) (.reg [⟨(some 57), none, .p (.mv (.t 7))⟩,
    ⟨(some 58), none, .p (.mv (.t 0))⟩,
    ⟨(some 59), none, .p (.nilChk (.t 58))⟩,
    ⟨(some 60), none, .p (.faddr 0 (.t 59))⟩,
    ⟨(some 61), none, .p (.ld1 (.t 60))⟩,
    ⟨(some 62), none, .p (.mv (.t 8))⟩,
    ⟨(some 63), none, .p (.idxA 5 (.t 61) (.t 62))⟩,
    ⟨(some 64), none, .p (.faddr 3 (.t 63))⟩,
    ⟨(some 65), none, .p (.ld1 (.t 64))⟩,
    ⟨(some 66), none, .p (.bin .add (.t 57) (.t 65))⟩,
    ⟨(some 7), none, .p (.mv (.t 66))⟩]) .skip)))
  (.reg [⟨(some 42), none, .p (.mv (.t 9))⟩,
    ⟨(some 43), none, .p (.bin .add (.t 42) (.c (.int .i64 1)))⟩,
    ⟨(some 9), none, .p (.mv (.t 43))⟩])))))))
  (.reg [⟨(some 17), none, .p (.mv (.t 8))⟩,
    ⟨(some 18), none, .p (.bin .add (.t 17) (.c (.int .i64 1)))⟩,
    ⟨(some 8), none, .p (.mv (.t 18))⟩]))))))
  (.seq (.reg [⟨(some 67), none, .p (.mv (.t 7))⟩,
    ⟨(some 6), none, .p (.mv (.t 67))⟩])
  .ret))))⟩
theorem c323 : compF Try.prog ⟨fun s => [].contains s, fun r => match r with | 8 => [(0, .quiet), (1, .quiet), (2, .quiet), (3, .quiet), (4, .quiet), (5, .quiet), (6, .quiet), (7, .quiet), (8, .quiet), (9, .quiet), (10, .quiet), (11, .quiet), (12, .quiet)] | _ => []⟩ Try.f23 = some a323 := by kernel_rfl

/- (*airline/airlineref16.Holds).All -/
def a324 : AFun := ⟨7, [.tmp 2], (.seq (.reg [⟨(some 2), none, .p (.mv (.c .nilSl))⟩])
  (.seq (.reg [⟨(some 3), none, .p (.mv (.t 0))⟩,
    ⟨(some 4), none, .p (.nilChk (.t 3))⟩,
    ⟨(some 5), none, .p (.faddr 0 (.t 4))⟩,
    ⟨(some 6), none, .p (.ld1 (.t 5))⟩,
    ⟨(some 2), none, .p (.mv (.t 6))⟩])
  .ret))⟩
theorem c324 : compF Try.prog ⟨fun s => [].contains s, fun _ => []⟩ Try.f24 = some a324 := by kernel_rfl

/- (*airline/hold.Holds).made -/
def a325 : AFun := ⟨12, [.tmp 2], (.seq (.reg [⟨(some 2), none, .p (.mv (.c (.bool false)))⟩])
  (.seq (.reg [⟨(some 3), none, .p (.mv (.t 0))⟩,
    ⟨(some 4), none, .p (.isNil 1 true (.t 3))⟩,
    ⟨(some 5), none, .p (.mv (.t 4))⟩,
    ⟨(some 6), (some (5, true)), .p (.mv (.t 0))⟩,
    ⟨(some 7), (some (5, true)), .p (.nilChk (.t 6))⟩,
    ⟨(some 8), (some (5, true)), .p (.faddr 0 (.t 7))⟩,
    ⟨(some 9), (some (5, true)), .p (.ld1 (.t 8))⟩,
    ⟨(some 10), (some (5, true)), .p (.isNil 4 true (.t 9))⟩,
    ⟨(some 11), none, .p (.pick (.t 5) (.t 10) (.c (.bool false)))⟩,
    ⟨(some 2), none, .p (.mv (.t 11))⟩])
  .ret))⟩
theorem c325 : compF Try.prog ⟨fun s => [].contains s, fun _ => []⟩ Try.f25 = some a325 := by kernel_rfl

/- airline/hold.distinct -/
def a326 : AFun := ⟨27, [.tmp 2], (.seq (.reg [⟨(some 2), none, .p (.mv (.c (.bool false)))⟩])
  (.seq (.reg [⟨(some 6), none, .p (.mv (.t 0))⟩,
    ⟨(some 7), none, .p (.lenA (.t 6))⟩,
    ⟨(some 8), none, .xs (.mkM (.st [.str, (.int .i64), (.int .i64), .str])) [(.t 7)]⟩,
    ⟨(some 3), none, .p (.mv (.t 8))⟩])
  (.seq (.seq (.reg [⟨(some 9), none, .p (.mv (.t 0))⟩,
    ⟨(some 10), none, .p (.lenA (.t 9))⟩,
    ⟨(some 11), none, .p (.mv (.c (.int .i64 0)))⟩])
  (.block 0 (.loop (.seq (.reg [⟨(some 12), none, .p (.bin .lss (.t 11) (.t 10))⟩])
  (.seq (.cond (.t 12) .skip (.exit 0))
  (.seq (.block 1 (.seq (.reg [⟨(some 13), none, .p (.idxA 4 (.t 9) (.t 11))⟩,
    ⟨(some 14), none, .p (.ldn 4 (.t 13))⟩,
    ⟨(some 5), none, .newO 45 [(.str []), (.int .i64 0), (.int .i64 0), (.str [])]⟩,
    ⟨none, none, .st 4 (.t 5) (.t 14)⟩])
  (.oreg2 [(.quiet, ⟨(some 15), none, .p (.mv (.t 3))⟩),
    (.quiet, ⟨(some 16), none, .p (.ldn 4 (.t 5))⟩)]
  [(.loud, ⟨(some 17), none, .p (.xo (.lk (.st [.str, (.int .i64), (.int .i64), .str]) (.int .i64 0) false) [(.t 15), (.t 16)])⟩),
    (.stable, ⟨(some 18), none, .p (.bin .add (.t 17) (.c (.int .i64 1)))⟩),
    (.loud, ⟨(some 19), none, .xs (.mEnt (.st [.str, (.int .i64), (.int .i64), .str]) (.int .i64 0)) [(.t 15), (.t 16)]⟩),
    (.stable, ⟨(some 20), none, .p (.ext 1 (.t 19))⟩),
    (.loud, ⟨none, none, .xs .mSto [(.t 15), (.t 20), (.t 18)]⟩)]
  [(.loud, ⟨(some 19), none, .xs (.mEnt (.st [.str, (.int .i64), (.int .i64), .str]) (.int .i64 0)) [(.t 15), (.t 16)]⟩),
    (.stable, ⟨(some 20), none, .p (.ext 1 (.t 19))⟩),
    (.loud, ⟨(some 17), none, .p (.xo (.lk (.st [.str, (.int .i64), (.int .i64), .str]) (.int .i64 0) false) [(.t 15), (.t 16)])⟩),
    (.stable, ⟨(some 18), none, .p (.bin .add (.t 17) (.c (.int .i64 1)))⟩),
    (.loud, ⟨none, none, .xs .mSto [(.t 15), (.t 20), (.t 18)]⟩)])))
  (.reg [⟨(some 21), none, .p (.bin .add (.t 11) (.c (.int .i64 1)))⟩,
    ⟨(some 11), none, .p (.mv (.t 21))⟩])))))))
  (.seq (.reg [⟨(some 22), none, .p (.mv (.t 3))⟩,
    ⟨(some 23), none, .p (.xo .lenM [(.t 22)])⟩,
    ⟨(some 24), none, .p (.mv (.t 0))⟩,
    ⟨(some 25), none, .p (.lenA (.t 24))⟩,
    ⟨(some 26), none, .p (.bin .eql (.t 23) (.t 25))⟩,
    ⟨(some 2), none, .p (.mv (.t 26))⟩])
  .ret))))⟩
theorem c326 : compF Try.prog ⟨fun s => [].contains s, fun r => match r with | 5 => [(0, .quiet), (1, .quiet), (1000000, .loud), (2, .loud), (3, .stable), (4, .loud), (5, .stable), (6, .loud), (1000001, .loud), (4, .loud), (5, .stable), (2, .loud), (3, .stable), (6, .loud)] | _ => []⟩ Try.f26 = some a326 := by kernel_rfl

/- airline/hold.minute -/
def a327 : AFun := ⟨9, [.tmp 2], (.seq (.reg [⟨(some 2), none, .p (.mv (.c (.bool false)))⟩])
  (.seq (.reg [⟨(some 3), none, .p (.mv (.t 0))⟩,
    ⟨(some 4), none, .p (.bin .geq (.t 3) (.c (.int .i64 0)))⟩,
    ⟨(some 5), none, .p (.mv (.t 4))⟩,
    ⟨(some 6), (some (5, true)), .p (.mv (.t 0))⟩,
    ⟨(some 7), (some (5, true)), .p (.bin .lss (.t 6) (.c (.int .i64 52596000)))⟩,
    ⟨(some 8), none, .p (.pick (.t 5) (.t 7) (.c (.bool false)))⟩,
    ⟨(some 2), none, .p (.mv (.t 8))⟩])
  .ret))⟩
theorem c327 : compF Try.prog ⟨fun s => [].contains s, fun _ => []⟩ Try.f27 = some a327 := by kernel_rfl

/- slices.Clone[[]airline/api.LegId,airline/api.LegId] -/
def a328 : AFun := ⟨8, [.tmp 2], (.seq (.reg [⟨(some 2), none, .p (.mv (.c .nilSl))⟩])
  (.seq (.seq (.reg [⟨(some 3), none, .p (.mv (.t 0))⟩,
    ⟨(some 4), none, .nilD false (.t 3)⟩])
  (.cond (.t 4) (.seq (.reg [⟨(some 2), none, .p (.mv (.c .nilSl))⟩])
  .ret) .skip))
  (.seq (.reg [⟨(some 5), none, .bslO 45 4 [(.str []), (.int .i64 0), (.int .i64 0), (.str [])] 0 []⟩,
    ⟨(some 6), none, .p (.mv (.t 0))⟩,
    ⟨(some 7), none, .app 45 4 (.t 5) (.t 6)⟩,
    ⟨(some 2), none, .p (.mv (.t 7))⟩])
  .ret)))⟩
theorem c328 : compF Try.prog ⟨fun s => [4, 5].contains s, fun _ => []⟩ Try.f28 = some a328 := by kernel_rfl

/- slices.SortedFunc[airline/hold.Hold] -/
def a329 : AFun := ⟨12, [.tmp 4], (.seq (.reg [⟨(some 4), none, .p (.mv (.c .nilSl))⟩])
  (.seq (.reg [⟨(some 6), none, .p (.mv (.t 0))⟩,
    ⟨(some 7), none, .call 39 [(.t 6)]⟩,
    ⟨(some 5), none, .p (.mv (.t 7))⟩])
  (.seq (.reg [⟨(some 8), none, .p (.mv (.t 5))⟩,
    ⟨(some 9), none, .p (.mv (.t 1))⟩,
    ⟨(some 10), none, .call 40 [(.t 8), (.t 9)]⟩])
  (.seq (.reg [⟨(some 11), none, .p (.mv (.t 5))⟩,
    ⟨(some 4), none, .p (.mv (.t 11))⟩])
  .ret))))⟩
theorem c329 : compF Try.prog ⟨fun s => [].contains s, fun _ => []⟩ Try.f29 = some a329 := by kernel_rfl

/- maps.Values[map[int]airline/hold.Hold,int,airline/hold.Hold] -/
def a330 : AFun := ⟨4, [.tmp 2], (.seq (.reg [⟨(some 1), none, .boxO 38 (.t 0)⟩,
    ⟨(some 2), none, .p (.mv (.c .nilFn))⟩])
  (.seq (.reg [⟨(some 3), none, .p (.mkfn 41 [] [(.t 1)])⟩,
    ⟨(some 2), none, .p (.mv (.t 3))⟩])
  .ret))⟩
theorem c330 : compF Try.prog ⟨fun s => [1].contains s, fun _ => []⟩ Try.f30 = some a330 := by kernel_rfl

/- (*airline/hold.Holds).All$1 -/
def a331 : AFun := ⟨17, [.tmp 4], (.seq (.reg [⟨(some 2), none, .p (.boxI (.t 0))⟩,
    ⟨(some 3), none, .p (.boxI (.t 1))⟩,
    ⟨(some 4), none, .p (.mv (.c (.int .i64 0)))⟩])
  (.seq (.oreg [(.quiet, ⟨(some 5), none, .p (.faddr 4 (.t 2))⟩),
    (.quiet, ⟨(some 6), none, .p (.ld1 (.t 5))⟩),
    (.quiet, ⟨(some 7), none, .p (.faddr 4 (.t 3))⟩),
    (.quiet, ⟨(some 8), none, .p (.ld1 (.t 7))⟩),
    (.quiet, ⟨(some 10), none, .p (.faddr 0 (.t 2))⟩),
    (.quiet, ⟨(some 11), none, .p (.ld1 (.t 10))⟩),
    (.quiet, ⟨(some 12), none, .p (.faddr 0 (.t 3))⟩),
    (.quiet, ⟨(some 13), none, .p (.ld1 (.t 12))⟩),
    (.quiet, ⟨(some 9), none, .call 33 [(.t 6), (.t 8)]⟩),
    (.loud, ⟨(some 14), none, .call 33 [(.t 11), (.t 13)]⟩),
    (.quiet, ⟨(some 15), none, .p (.bsl 1 [(.int .i64 0)] 2 [(0, (.t 9)), (1, (.t 14))])⟩),
    (.loud, ⟨(some 16), none, .call 32 [(.t 15)]⟩),
    (.quiet, ⟨(some 4), none, .p (.mv (.t 16))⟩)])
  .ret))⟩
theorem c331 : compF Try.prog ⟨fun s => [].contains s, fun r => match r with | 1 => [(0, .quiet), (1, .quiet), (2, .quiet), (3, .quiet), (5, .quiet), (6, .quiet), (7, .quiet), (8, .quiet), (4, .quiet), (9, .loud), (10, .quiet), (11, .loud), (12, .quiet)] | _ => []⟩ Try.f31 = some a331 := by kernel_rfl

/- slices.Contains[[]airline/api.LegId,airline/api.LegId] -/
def a334 : AFun := ⟨9, [.tmp 4], (.seq (.reg [⟨(some 3), none, .p (.boxI (.t 1))⟩,
    ⟨(some 4), none, .p (.mv (.c (.bool false)))⟩])
  (.seq (.reg [⟨(some 5), none, .p (.mv (.t 0))⟩,
    ⟨(some 6), none, .p (.ldn 4 (.t 3))⟩,
    ⟨(some 7), none, .call 43 [(.t 5), (.t 6)]⟩,
    ⟨(some 8), none, .p (.bin .geq (.t 7) (.c (.int .i64 0)))⟩,
    ⟨(some 4), none, .p (.mv (.t 8))⟩])
  .ret))⟩
theorem c334 : compF Try.prog ⟨fun s => [].contains s, fun _ => []⟩ Try.f34 = some a334 := by kernel_rfl

/- airline/airlineref16.Twice -/
def a335 : AFun := ⟨25, [.tmp 2], (.seq (.reg [⟨(some 2), none, .p (.mv (.c (.bool false)))⟩])
  (.seq (.seq (.reg [⟨(some 3), none, .p (.mv (.c (.int .i64 0)))⟩])
  (.block 0 (.loop (.seq (.seq (.reg [⟨(some 5), none, .p (.mv (.t 3))⟩,
    ⟨(some 6), none, .p (.mv (.t 0))⟩,
    ⟨(some 7), none, .p (.lenA (.t 6))⟩,
    ⟨(some 8), none, .p (.bin .lss (.t 5) (.t 7))⟩])
  (.cond (.t 8) .skip (.exit 0)))
  (.seq (.block 1 (.seq (.reg [⟨(some 4), none, .p (.mv (.c (.int .i64 0)))⟩])
  (.block 2 (.loop (.seq (.seq (.reg [⟨(some 11), none, .p (.mv (.t 4))⟩,
    ⟨(some 12), none, .p (.mv (.t 3))⟩,
    ⟨(some 13), none, .p (.bin .lss (.t 11) (.t 12))⟩])
  (.cond (.t 13) .skip (.exit 2)))
  (.seq (.block 3 (.seq (.oreg [(.quiet, ⟨(some 16), none, .p (.mv (.t 0))⟩),
    (.quiet, ⟨(some 17), none, .p (.mv (.t 4))⟩),
    (.quiet, ⟨(some 18), none, .p (.idxA 4 (.t 16) (.t 17))⟩),
    (.quiet, ⟨(some 19), none, .p (.ldn 4 (.t 18))⟩),
    (.quiet, ⟨(some 20), none, .p (.mv (.t 0))⟩),
    (.quiet, ⟨(some 21), none, .p (.mv (.t 3))⟩),
    (.quiet, ⟨(some 22), none, .p (.idxA 4 (.t 20) (.t 21))⟩),
    (.quiet, ⟨(some 23), none, .p (.ldn 4 (.t 22))⟩),
    (.quiet, ⟨(some 24), none, .p (.xo (.eqA [.str, (.int .i64), (.int .i64), .str] false) [(.t 19), (.t 23)])⟩)])
  (.cond (.t 24) (.seq (.reg [⟨(some 2), none, .p (.mv (.c (.bool true)))⟩])
  .ret) .skip)))
  (.reg [⟨(some 14), none, .p (.mv (.t 4))⟩,
    ⟨(some 15), none, .p (.bin .add (.t 14) (.c (.int .i64 1)))⟩,
    ⟨(some 4), none, .p (.mv (.t 15))⟩])))))))
  (.reg [⟨(some 9), none, .p (.mv (.t 3))⟩,
    ⟨(some 10), none, .p (.bin .add (.t 9) (.c (.int .i64 1)))⟩,
    ⟨(some 3), none, .p (.mv (.t 10))⟩]))))))
  (.seq (.reg [⟨(some 2), none, .p (.mv (.c (.bool false)))⟩])
  .ret)))⟩
theorem c335 : compF Try.prog ⟨fun s => [].contains s, fun r => match r with | 7 => [(0, .quiet), (1, .quiet), (2, .quiet), (3, .quiet), (4, .quiet), (5, .quiet), (6, .quiet), (7, .quiet), (8, .quiet)] | _ => []⟩ Try.f35 = some a335 := by kernel_rfl

/- airline/airlineref16.time -/
def a336 : AFun := ⟨9, [.tmp 2], (.seq (.reg [⟨(some 2), none, .p (.mv (.c (.bool false)))⟩])
  (.seq (.reg [⟨(some 3), none, .p (.mv (.t 0))⟩,
    ⟨(some 4), none, .p (.bin .geq (.t 3) (.c (.int .i64 0)))⟩,
    ⟨(some 5), none, .p (.mv (.t 4))⟩,
    ⟨(some 6), (some (5, true)), .p (.mv (.t 0))⟩,
    ⟨(some 7), (some (5, true)), .p (.bin .lss (.t 6) (.c (.int .i64 52596000)))⟩,
    ⟨(some 8), none, .p (.pick (.t 5) (.t 7) (.c (.bool false)))⟩,
    ⟨(some 2), none, .p (.mv (.t 8))⟩])
  .ret))⟩
theorem c336 : compF Try.prog ⟨fun s => [].contains s, fun _ => []⟩ Try.f36 = some a336 := by kernel_rfl

/- (*airline/airlineref16.Holds).at -/
def a337 : AFun := ⟨26, [.tmp 4], (.seq (.reg [⟨(some 4), none, .p (.mv (.c (.int .i64 0)))⟩])
  (.seq (.seq (.reg [⟨(some 5), none, .p (.mv (.c (.int .i64 0)))⟩])
  (.block 0 (.loop (.seq (.seq (.reg [⟨(some 6), none, .p (.mv (.t 5))⟩,
    ⟨(some 7), none, .p (.mv (.t 0))⟩,
    ⟨(some 8), none, .p (.nilChk (.t 7))⟩,
    ⟨(some 9), none, .p (.faddr 0 (.t 8))⟩,
    ⟨(some 10), none, .p (.ld1 (.t 9))⟩,
    ⟨(some 11), none, .p (.lenA (.t 10))⟩,
    ⟨(some 12), none, .p (.bin .lss (.t 6) (.t 11))⟩])
  (.cond (.t 12) .skip (.exit 0)))
  (.seq (.block 1 (.seq (.reg [⟨(some 15), none, .p (.mv (.t 0))⟩,
    ⟨(some 16), none, .p (.nilChk (.t 15))⟩,
    ⟨(some 17), none, .p (.faddr 0 (.t 16))⟩,
    ⟨(some 18), none, .p (.ld1 (.t 17))⟩,
    ⟨(some 19), none, .p (.mv (.t 5))⟩,
    ⟨(some 20), none, .p (.idxA 5 (.t 18) (.t 19))⟩,
    ⟨(some 21), none, .p (.faddr 0 (.t 20))⟩,
    ⟨(some 22), none, .p (.ld1 (.t 21))⟩,
    ⟨(some 23), none, .p (.mv (.t 1))⟩,
    ⟨(some 24), none, .p (.bin .eql (.t 22) (.t 23))⟩])
  (.cond (.t 24) (.seq (.reg [⟨(some 25), none, .p (.mv (.t 5))⟩,
    ⟨(some 4), none, .p (.mv (.t 25))⟩])
  .ret) .skip)))
  (.reg [⟨(some 13), none, .p (.mv (.t 5))⟩,
    ⟨(some 14), none, .p (.bin .add (.t 13) (.c (.int .i64 1)))⟩,
    ⟨(some 5), none, .p (.mv (.t 14))⟩]))))))
  (.seq (.reg [⟨(some 4), none, .p (.mv (.c (.int .i64 (-1))))⟩])
  .ret)))⟩
theorem c337 : compF Try.prog ⟨fun s => [].contains s, fun _ => []⟩ Try.f37 = some a337 := by kernel_rfl

/- airline/airlineref16.SameLegs -/
def a338 : AFun := ⟨26, [.tmp 4], (.seq (.reg [⟨(some 4), none, .p (.mv (.c (.bool false)))⟩])
  (.seq (.seq (.reg [⟨(some 6), none, .p (.mv (.t 0))⟩,
    ⟨(some 7), none, .p (.lenA (.t 6))⟩,
    ⟨(some 8), none, .p (.mv (.t 1))⟩,
    ⟨(some 9), none, .p (.lenA (.t 8))⟩,
    ⟨(some 10), none, .p (.bin .neq (.t 7) (.t 9))⟩])
  (.cond (.t 10) (.seq (.reg [⟨(some 4), none, .p (.mv (.c (.bool false)))⟩])
  .ret) .skip))
  (.seq (.seq (.reg [⟨(some 5), none, .p (.mv (.c (.int .i64 0)))⟩])
  (.block 0 (.loop (.seq (.seq (.reg [⟨(some 11), none, .p (.mv (.t 5))⟩,
    ⟨(some 12), none, .p (.mv (.t 0))⟩,
    ⟨(some 13), none, .p (.lenA (.t 12))⟩,
    ⟨(some 14), none, .p (.bin .lss (.t 11) (.t 13))⟩])
  (.cond (.t 14) .skip (.exit 0)))
  (.seq (.block 1 (.seq (.oreg [(.quiet, ⟨(some 17), none, .p (.mv (.t 0))⟩),
    (.quiet, ⟨(some 18), none, .p (.mv (.t 5))⟩),
    (.quiet, ⟨(some 19), none, .p (.idxA 4 (.t 17) (.t 18))⟩),
    (.quiet, ⟨(some 20), none, .p (.ldn 4 (.t 19))⟩),
    (.quiet, ⟨(some 21), none, .p (.mv (.t 1))⟩),
    (.quiet, ⟨(some 22), none, .p (.mv (.t 5))⟩),
    (.quiet, ⟨(some 23), none, .p (.idxA 4 (.t 21) (.t 22))⟩),
    (.quiet, ⟨(some 24), none, .p (.ldn 4 (.t 23))⟩),
    (.quiet, ⟨(some 25), none, .p (.xo (.eqA [.str, (.int .i64), (.int .i64), .str] true) [(.t 20), (.t 24)])⟩)])
  (.cond (.t 25) (.seq (.reg [⟨(some 4), none, .p (.mv (.c (.bool false)))⟩])
  .ret) .skip)))
  (.reg [⟨(some 15), none, .p (.mv (.t 5))⟩,
    ⟨(some 16), none, .p (.bin .add (.t 15) (.c (.int .i64 1)))⟩,
    ⟨(some 5), none, .p (.mv (.t 16))⟩]))))))
  (.seq (.reg [⟨(some 4), none, .p (.mv (.c (.bool true)))⟩])
  .ret))))⟩
theorem c338 : compF Try.prog ⟨fun s => [].contains s, fun r => match r with | 6 => [(0, .quiet), (1, .quiet), (2, .quiet), (3, .quiet), (4, .quiet), (5, .quiet), (6, .quiet), (7, .quiet), (8, .quiet)] | _ => []⟩ Try.f38 = some a338 := by kernel_rfl

/- slices.Collect[airline/hold.Hold] -/
def a339 : AFun := ⟨5, [.tmp 2], (.seq (.reg [⟨(some 2), none, .p (.mv (.c .nilSl))⟩])
  (.seq (.reg [⟨(some 3), none, .p (.mv (.t 0))⟩,
    ⟨(some 4), none, .call 44 [(.c .nilSl), (.t 3)]⟩,
    ⟨(some 2), none, .p (.mv (.t 4))⟩])
  .ret))⟩
theorem c339 : compF Try.prog ⟨fun s => [].contains s, fun _ => []⟩ Try.f39 = some a339 := by kernel_rfl

/- slices.Index[[]airline/api.LegId,airline/api.LegId] -/
def a343 : AFun := ⟨19, [.tmp 4], (.seq (.reg [⟨(some 3), none, .p (.boxI (.t 1))⟩,
    ⟨(some 4), none, .p (.mv (.c (.int .i64 0)))⟩])
  (.seq (.seq (.reg [⟨(some 6), none, .p (.mv (.t 0))⟩,
    ⟨(some 7), none, .p (.lenA (.t 6))⟩,
    ⟨(some 8), none, .p (.mv (.c (.int .i64 0)))⟩])
  (.block 0 (.loop (.seq (.reg [⟨(some 9), none, .p (.bin .lss (.t 8) (.t 7))⟩])
  (.seq (.cond (.t 9) .skip (.exit 0))
  (.seq (.block 1 (.seq (.reg [⟨(some 10), none, .p (.mv (.t 8))⟩,
    ⟨(some 5), none, .p (.mv (.t 10))⟩])
  (.seq (.oreg [(.quiet, ⟨(some 11), none, .p (.ldn 4 (.t 3))⟩),
    (.quiet, ⟨(some 12), none, .p (.mv (.t 0))⟩),
    (.quiet, ⟨(some 13), none, .p (.mv (.t 5))⟩),
    (.quiet, ⟨(some 14), none, .p (.idxA 4 (.t 12) (.t 13))⟩),
    (.quiet, ⟨(some 15), none, .p (.ldn 4 (.t 14))⟩),
    (.quiet, ⟨(some 16), none, .p (.xo (.eqA [.str, (.int .i64), (.int .i64), .str] false) [(.t 11), (.t 15)])⟩)])
  (.cond (.t 16) (.seq (.reg [⟨(some 17), none, .p (.mv (.t 5))⟩,
    ⟨(some 4), none, .p (.mv (.t 17))⟩])
  .ret) .skip))))
  (.reg [⟨(some 18), none, .p (.bin .add (.t 8) (.c (.int .i64 1)))⟩,
    ⟨(some 8), none, .p (.mv (.t 18))⟩])))))))
  (.seq (.reg [⟨(some 4), none, .p (.mv (.c (.int .i64 (-1))))⟩])
  .ret)))⟩
theorem c343 : compF Try.prog ⟨fun s => [].contains s, fun r => match r with | 4 => [(0, .quiet), (1, .quiet), (2, .quiet), (3, .quiet), (4, .quiet), (5, .quiet)] | _ => []⟩ Try.f43 = some a343 := by kernel_rfl

end Go.Proofs.Ythdcajfjglgiiaa
