/- The functions of mirror and reconcile, compiled (printed by gen.sh). -/
import Derived.Test.YtdkcicbpcagonabAlX
import Derived.Test.YtdkcicbpcagonabProg
namespace Go.Proofs.Ytdkcicbpcagonab
open Go Go.AL

/- airline/airlinelaw46.few -/
def a25 : AFun := ⟨39, [.tmp 4], (.seq (.reg [⟨(some 4), none, .p (.mv (.c (.bool false)))⟩])
  (.seq (.seq (.reg [⟨(some 7), none, .p (.mv (.t 0))⟩,
    ⟨(some 8), none, .p (.lenA (.t 7))⟩,
    ⟨(some 9), none, .p (.bin .gtr (.t 8) (.c (.int .i64 60)))⟩,
    ⟨(some 10), none, .p (.mv (.t 9))⟩,
    ⟨(some 11), (some (10, false)), .p (.mv (.t 1))⟩,
    ⟨(some 12), (some (10, false)), .p (.lenA (.t 11))⟩,
    ⟨(some 13), (some (10, false)), .p (.bin .gtr (.t 12) (.c (.int .i64 60)))⟩,
    ⟨(some 14), none, .p (.pick (.t 10) (.c (.bool true)) (.t 13))⟩])
  (.cond (.t 14) (.seq (.reg [⟨(some 4), none, .p (.mv (.c (.bool false)))⟩])
  .ret) .skip))
  (.seq (.seq (.reg [⟨(some 5), none, .p (.mv (.c (.int .i64 0)))⟩])
  (.block 0 (.loop (.seq (.seq (.reg [⟨(some 15), none, .p (.mv (.t 5))⟩,
    ⟨(some 16), none, .p (.mv (.t 0))⟩,
    ⟨(some 17), none, .p (.lenA (.t 16))⟩,
    ⟨(some 18), none, .p (.bin .lss (.t 15) (.t 17))⟩])
  (.cond (.t 18) .skip (.exit 0)))
  (.seq (.block 1 (.seq (.reg [⟨(some 21), none, .p (.mv (.t 0))⟩,
    ⟨(some 22), none, .p (.mv (.t 5))⟩,
    ⟨(some 23), none, .p (.idxA 4 (.t 21) (.t 22))⟩,
    ⟨(some 24), none, .p (.faddr 2 (.t 23))⟩,
    ⟨(some 25), none, .p (.ld1 (.t 24))⟩,
    ⟨(some 26), none, .p (.bin .gtr (.t 25) (.c (.int .i64 1099511627776)))⟩])
  (.cond (.t 26) (.seq (.reg [⟨(some 4), none, .p (.mv (.c (.bool false)))⟩])
  .ret) .skip)))
  (.reg [⟨(some 19), none, .p (.mv (.t 5))⟩,
    ⟨(some 20), none, .p (.bin .add (.t 19) (.c (.int .i64 1)))⟩,
    ⟨(some 5), none, .p (.mv (.t 20))⟩]))))))
  (.seq (.seq (.reg [⟨(some 6), none, .p (.mv (.c (.int .i64 0)))⟩])
  (.block 2 (.loop (.seq (.seq (.reg [⟨(some 27), none, .p (.mv (.t 6))⟩,
    ⟨(some 28), none, .p (.mv (.t 1))⟩,
    ⟨(some 29), none, .p (.lenA (.t 28))⟩,
    ⟨(some 30), none, .p (.bin .lss (.t 27) (.t 29))⟩])
  (.cond (.t 30) .skip (.exit 2)))
  (.seq (.block 3 (.seq (.reg [⟨(some 33), none, .p (.mv (.t 1))⟩,
    ⟨(some 34), none, .p (.mv (.t 6))⟩,
    ⟨(some 35), none, .p (.idxA 4 (.t 33) (.t 34))⟩,
    ⟨(some 36), none, .p (.faddr 2 (.t 35))⟩,
    ⟨(some 37), none, .p (.ld1 (.t 36))⟩,
    ⟨(some 38), none, .p (.bin .gtr (.t 37) (.c (.int .i64 1099511627776)))⟩])
  (.cond (.t 38) (.seq (.reg [⟨(some 4), none, .p (.mv (.c (.bool false)))⟩])
  .ret) .skip)))
  (.reg [⟨(some 31), none, .p (.mv (.t 6))⟩,
    ⟨(some 32), none, .p (.bin .add (.t 31) (.c (.int .i64 1)))⟩,
    ⟨(some 6), none, .p (.mv (.t 32))⟩]))))))
  (.seq (.reg [⟨(some 4), none, .p (.mv (.c (.bool true)))⟩])
  .ret)))))⟩
theorem c25 : compF Try.prog ⟨fun s => [].contains s, fun _ => []⟩ Try.f6 = some a25 := by kernel_rfl

/- airline/airlinelaw46.exampleHolds -/
def a26 : AFun := ⟨21, [.tmp 0], (.seq (.reg [⟨(some 0), none, .p (.mv (.c (.bool false)))⟩])
  (.seq (.reg [⟨(some 4), none, .p (.build [(.int .i64 0), (.int .i64 0), (.int .i64 0), (.int .i64 0)] [(0, 1, (.c (.int .i64 5))), (2, 1, (.c (.int .i64 2))), (3, 1, (.c (.int .i64 1)))])⟩,
    ⟨(some 5), none, .p (.build [(.int .i64 0), (.int .i64 0), (.int .i64 0), (.int .i64 0)] [(0, 1, (.c (.int .i64 5))), (2, 1, (.c (.int .i64 2))), (3, 1, (.c (.int .i64 3)))])⟩,
    ⟨(some 1), none, .newO 27 [(.int .i64 0), (.int .i64 0), (.int .i64 0), (.int .i64 0)]⟩,
    ⟨(some 2), none, .newO 27 [(.int .i64 0), (.int .i64 0), (.int .i64 0), (.int .i64 0)]⟩,
    ⟨none, none, .st 4 (.t 1) (.t 4)⟩,
    ⟨none, none, .st 4 (.t 2) (.t 5)⟩])
  (.seq (.reg [⟨(some 6), none, .p (.ldn 4 (.t 1))⟩,
    ⟨(some 7), none, .p (.bsl 4 [(.int .i64 0), (.int .i64 0), (.int .i64 0), (.int .i64 0)] 1 [(0, (.t 6))])⟩,
    ⟨(some 8), none, .p (.ldn 4 (.t 2))⟩,
    ⟨(some 9), none, .p (.bsl 4 [(.int .i64 0), (.int .i64 0), (.int .i64 0), (.int .i64 0)] 1 [(0, (.t 8))])⟩,
    ⟨(some 10), none, .call 8 [(.t 7), (.t 9)]⟩,
    ⟨(some 3), none, .p (.mv (.t 10))⟩])
  (.seq (.reg [⟨(some 11), none, .p (.mv (.t 3))⟩,
    ⟨(some 12), none, .p (.lenA (.t 11))⟩,
    ⟨(some 13), none, .p (.bin .eql (.t 12) (.c (.int .i64 1)))⟩,
    ⟨(some 14), none, .p (.mv (.t 13))⟩,
    ⟨(some 15), (some (14, true)), .p (.mv (.t 3))⟩,
    ⟨(some 16), (some (14, true)), .p (.idxA 4 (.t 15) (.c (.int .i64 0)))⟩,
    ⟨(some 17), (some (14, true)), .p (.ldn 4 (.t 16))⟩,
    ⟨(some 18), (some (14, true)), .p (.build [(.int .i64 0), (.int .i64 0), (.int .i64 0), (.int .i64 0)] [(0, 1, (.c (.int .i64 5))), (2, 1, (.c (.int .i64 3))), (3, 1, (.c (.int .i64 3)))])⟩,
    ⟨(some 19), (some (14, true)), .p (.xo (.eqA [(.int .i64), (.int .i64), (.int .i64), (.int .i64)] false) [(.t 17), (.t 18)])⟩,
    ⟨(some 20), none, .p (.pick (.t 14) (.t 19) (.c (.bool false)))⟩,
    ⟨(some 0), none, .p (.mv (.t 20))⟩])
  .ret))))⟩
theorem c26 : compF Try.prog ⟨fun s => [].contains s, fun _ => []⟩ Try.f7 = some a26 := by kernel_rfl

/- airline/airlinelaw46.states -/
def a27 : AFun := ⟨26, [.tmp 4], (.seq (.reg [⟨(some 4), none, .p (.mv (.c (.bool false)))⟩])
  (.seq (.seq (.reg [⟨(some 6), none, .p (.mv (.t 0))⟩,
    ⟨(some 7), none, .p (.lenA (.t 6))⟩,
    ⟨(some 8), none, .p (.mv (.t 1))⟩,
    ⟨(some 9), none, .p (.lenA (.t 8))⟩,
    ⟨(some 10), none, .p (.bin .neq (.t 7) (.t 9))⟩])
  (.cond (.t 10) (.seq (.reg [⟨(some 4), none, .p (.mv (.c (.bool false)))⟩])
  .ret) .skip))
  (.seq (.seq (.reg [⟨(some 5), none, .p (.mv (.c (.int .i64 0)))⟩])
  (.block 0 (.loop (.seq (.seq (.reg [⟨(some 11), none, .p (.mv (.t 5))⟩,
    ⟨(some 12), none, .p (.mv (.t 0))⟩,
    ⟨(some 13), none, .p (.lenA (.t 12))⟩,
    ⟨(some 14), none, .p (.bin .lss (.t 11) (.t 13))⟩])
  (.cond (.t 14) .skip (.exit 0)))
  (.seq (.block 1 (.seq (.oreg [(.quiet, ⟨(some 17), none, .p (.mv (.t 0))⟩),
    (.quiet, ⟨(some 18), none, .p (.mv (.t 5))⟩),
    (.quiet, ⟨(some 19), none, .p (.idxA 4 (.t 17) (.t 18))⟩),
    (.quiet, ⟨(some 20), none, .p (.ldn 4 (.t 19))⟩),
    (.quiet, ⟨(some 21), none, .p (.mv (.t 1))⟩),
    (.quiet, ⟨(some 22), none, .p (.mv (.t 5))⟩),
    (.quiet, ⟨(some 23), none, .p (.idxA 4 (.t 21) (.t 22))⟩),
    (.quiet, ⟨(some 24), none, .p (.ldn 4 (.t 23))⟩),
    (.quiet, ⟨(some 25), none, .p (.xo (.eqA [(.int .i64), (.int .i64), (.int .i64), (.int .i64)] true) [(.t 20), (.t 24)])⟩)])
  (.cond (.t 25) (.seq (.reg [⟨(some 4), none, .p (.mv (.c (.bool false)))⟩])
  .ret) .skip)))
  (.reg [⟨(some 15), none, .p (.mv (.t 5))⟩,
    ⟨(some 16), none, .p (.bin .add (.t 15) (.c (.int .i64 1)))⟩,
    ⟨(some 5), none, .p (.mv (.t 16))⟩]))))))
  (.seq (.reg [⟨(some 4), none, .p (.mv (.c (.bool true)))⟩])
  .ret))))⟩
theorem c27 : compF Try.prog ⟨fun s => [].contains s, fun r => match r with | 6 => [(0, .quiet), (1, .quiet), (2, .quiet), (3, .quiet), (4, .quiet), (5, .quiet), (6, .quiet), (7, .quiet), (8, .quiet)] | _ => []⟩ Try.f9 = some a27 := by kernel_rfl

/- airline/reconcile.Differ -/
def a28 : AFun := ⟨39, [.tmp 4], (.seq (.reg [⟨(some 4), none, .p (.mv (.c .nilSl))⟩])
  (.seq (.reg [⟨(some 11), none, .p (.mv (.t 1))⟩,
    ⟨(some 12), none, .call 17 [(.t 11)]⟩,
    ⟨(some 5), none, .p (.mv (.t 12))⟩])
  (.seq (.reg [⟨(some 6), none, .p (.mv (.c .nilSl))⟩])
  (.seq (.seq (.reg [⟨(some 13), none, .p (.mv (.t 0))⟩,
    ⟨(some 14), none, .call 17 [(.t 13)]⟩,
    ⟨(some 15), none, .xs .range [(.t 14)]⟩])
  (.block 0 (.loop (.seq (.reg [⟨(some 16), none, .xs .next [(.t 15)]⟩,
    ⟨(some 17), none, .p (.ext 0 (.t 16))⟩])
  (.seq (.cond (.t 17) .skip (.exit 0))
  (.block 1 (.seq (.reg [⟨(some 18), none, .p (.xo .ent [(.t 15)])⟩,
    ⟨(some 19), none, .p (.ext 0 (.t 18))⟩,
    ⟨(some 20), none, .p (.ext 1 (.t 18))⟩,
    ⟨(some 7), none, .newO 49 [(.int .i64 0), (.int .i64 0)]⟩,
    ⟨(some 8), none, .newO 27 [(.int .i64 0), (.int .i64 0), (.int .i64 0), (.int .i64 0)]⟩,
    ⟨none, none, .st 2 (.t 7) (.t 19)⟩,
    ⟨none, none, .st 4 (.t 8) (.t 20)⟩])
  (.seq (.reg [⟨(some 22), none, .p (.mv (.t 5))⟩,
    ⟨(some 23), none, .p (.ldn 2 (.t 7))⟩,
    ⟨(some 24), none, .p (.xo (.lk (.st [(.int .i64), (.int .i64)]) (.agg [(.int .i64 0), (.int .i64 0), (.int .i64 0), (.int .i64 0)]) true) [(.t 22), (.t 23)])⟩,
    ⟨(some 21), none, .p (.mv (.t 24))⟩,
    ⟨(some 25), none, .p (.ext 0 (.t 21))⟩,
    ⟨(some 26), none, .p (.ext 1 (.t 21))⟩,
    ⟨(some 9), none, .newO 27 [(.int .i64 0), (.int .i64 0), (.int .i64 0), (.int .i64 0)]⟩,
    ⟨none, none, .st 4 (.t 9) (.t 25)⟩,
    ⟨(some 10), none, .p (.mv (.t 26))⟩])
  (.seq (.reg [⟨(some 27), none, .p (.mv (.t 10))⟩,
    ⟨(some 28), none, .p (.mv (.t 27))⟩,
    ⟨(some 29), (some (28, true)), .p (.ldn 4 (.t 9))⟩,
    ⟨(some 30), (some (28, true)), .p (.ldn 4 (.t 8))⟩,
    ⟨(some 31), (some (28, true)), .p (.xo (.eqA [(.int .i64), (.int .i64), (.int .i64), (.int .i64)] true) [(.t 29), (.t 30)])⟩,
    ⟨(some 32), none, .p (.pick (.t 28) (.t 31) (.c (.bool false)))⟩])
  (.cond (.t 32) (.reg [⟨(some 33), none, .p (.mv (.t 6))⟩,
    ⟨(some 34), none, .p (.ldn 4 (.t 8))⟩,
    ⟨(some 35), none, .p (.bsl 4 [(.int .i64 0), (.int .i64 0), (.int .i64 0), (.int .i64 0)] 1 [(0, (.t 34))])⟩,
    ⟨(some 36), none, .app 27 4 (.t 33) (.t 35)⟩,
    ⟨(some 6), none, .p (.mv (.t 36))⟩]) .skip))))))))))
  (.seq (.reg [⟨(some 37), none, .p (.mv (.t 6))⟩,
    ⟨(some 38), none, .call 19 [(.t 37)]⟩,
    ⟨(some 4), none, .p (.mv (.t 38))⟩])
  .ret)))))⟩
theorem c28 : compF Try.prog ⟨fun s => [].contains s, fun _ => []⟩ Try.f10 = some a28 := by kernel_rfl

/- airline/reconcile.Merge -/
def a30 : AFun := ⟨50, [.tmp 4], (.seq (.reg [⟨(some 4), none, .p (.mv (.c .nilSl))⟩])
  (.seq (.reg [⟨(some 14), none, .p (.mv (.t 0))⟩,
    ⟨(some 15), none, .call 17 [(.t 14)]⟩,
    ⟨(some 16), none, .p (.mv (.t 1))⟩,
    ⟨(some 17), none, .call 17 [(.t 16)]⟩,
    ⟨(some 5), none, .p (.mv (.t 15))⟩,
    ⟨(some 6), none, .p (.mv (.t 17))⟩])
  (.seq (.seq (.reg [⟨(some 18), none, .p (.mv (.t 6))⟩,
    ⟨(some 19), none, .xs .range [(.t 18)]⟩])
  (.block 0 (.loop (.seq (.reg [⟨(some 20), none, .xs .next [(.t 19)]⟩,
    ⟨(some 21), none, .p (.ext 0 (.t 20))⟩])
  (.seq (.cond (.t 21) .skip (.exit 0))
  (.block 1 (.seq (.reg [⟨(some 22), none, .p (.xo .ent [(.t 19)])⟩,
    ⟨(some 23), none, .p (.ext 0 (.t 22))⟩,
    ⟨(some 24), none, .p (.ext 1 (.t 22))⟩,
    ⟨(some 7), none, .newO 49 [(.int .i64 0), (.int .i64 0)]⟩,
    ⟨(some 8), none, .newO 27 [(.int .i64 0), (.int .i64 0), (.int .i64 0), (.int .i64 0)]⟩,
    ⟨none, none, .st 2 (.t 7) (.t 23)⟩,
    ⟨none, none, .st 4 (.t 8) (.t 24)⟩])
  (.seq (.seq (.reg [⟨(some 26), none, .p (.mv (.t 5))⟩,
    ⟨(some 27), none, .p (.ldn 2 (.t 7))⟩,
    ⟨(some 28), none, .p (.xo (.lk (.st [(.int .i64), (.int .i64)]) (.agg [(.int .i64 0), (.int .i64 0), (.int .i64 0), (.int .i64 0)]) true) [(.t 26), (.t 27)])⟩,
    ⟨(some 25), none, .p (.mv (.t 28))⟩,
    ⟨(some 29), none, .p (.ext 0 (.t 25))⟩,
    ⟨(some 30), none, .p (.ext 1 (.t 25))⟩,
    ⟨(some 9), none, .newO 27 [(.int .i64 0), (.int .i64 0), (.int .i64 0), (.int .i64 0)]⟩,
    ⟨none, none, .st 4 (.t 9) (.t 29)⟩,
    ⟨(some 10), none, .p (.mv (.t 30))⟩])
  (.seq (.reg [⟨(some 31), none, .p (.mv (.t 10))⟩])
  (.cond (.t 31) (.reg [⟨(some 32), none, .p (.ldn 4 (.t 9))⟩,
    ⟨(some 33), none, .p (.ldn 4 (.t 8))⟩,
    ⟨(some 34), none, .call 18 [(.t 32), (.t 33)]⟩,
    ⟨none, none, .st 4 (.t 8) (.t 34)⟩]) .skip)))
  (.reg [⟨(some 35), none, .p (.mv (.t 5))⟩,
    ⟨(some 36), none, .p (.ldn 2 (.t 7))⟩,
    ⟨(some 37), none, .p (.ldn 4 (.t 8))⟩,
    ⟨none, none, .xs (.mu (.st [(.int .i64), (.int .i64)])) [(.t 35), (.t 36), (.t 37)]⟩])))))))))
  (.seq (.reg [⟨(some 11), none, .p (.mv (.c .nilSl))⟩])
  (.seq (.seq (.reg [⟨(some 38), none, .p (.mv (.t 5))⟩,
    ⟨(some 39), none, .xs .range [(.t 38)]⟩])
  (.block 2 (.loop (.seq (.reg [⟨(some 40), none, .xs .next [(.t 39)]⟩,
    ⟨(some 41), none, .p (.ext 0 (.t 40))⟩])
  (.seq (.cond (.t 41) .skip (.exit 2))
  (.block 3 (.seq (.reg [⟨(some 42), none, .p (.xo .ent [(.t 39)])⟩,
    ⟨(some 43), none, .p (.ext 1 (.t 42))⟩,
    ⟨(some 13), none, .newO 27 [(.int .i64 0), (.int .i64 0), (.int .i64 0), (.int .i64 0)]⟩,
    ⟨none, none, .st 4 (.t 13) (.t 43)⟩])
  (.reg [⟨(some 44), none, .p (.mv (.t 11))⟩,
    ⟨(some 45), none, .p (.ldn 4 (.t 13))⟩,
    ⟨(some 46), none, .p (.bsl 4 [(.int .i64 0), (.int .i64 0), (.int .i64 0), (.int .i64 0)] 1 [(0, (.t 45))])⟩,
    ⟨(some 47), none, .app 27 4 (.t 44) (.t 46)⟩,
    ⟨(some 11), none, .p (.mv (.t 47))⟩]))))))))
  (.seq (.reg [⟨(some 48), none, .p (.mv (.t 11))⟩,
    ⟨(some 49), none, .call 19 [(.t 48)]⟩,
    ⟨(some 4), none, .p (.mv (.t 49))⟩])
  .ret))))))⟩
theorem c30 : compF Try.prog ⟨fun s => [].contains s, fun _ => []⟩ Try.f8 = some a30 := by kernel_rfl

/- airline/airlineref46.Merge -/
def a31 : AFun := ⟨72, [.tmp 4], (.seq (.reg [⟨(some 4), none, .p (.mv (.c .nilSl))⟩])
  (.seq (.reg [⟨(some 16), none, .p (.mv (.t 0))⟩,
    ⟨(some 17), none, .call 40 [(.t 16)]⟩,
    ⟨(some 18), none, .p (.mv (.t 1))⟩,
    ⟨(some 19), none, .call 40 [(.t 18)]⟩,
    ⟨(some 5), none, .p (.mv (.t 17))⟩,
    ⟨(some 6), none, .p (.mv (.t 19))⟩])
  (.seq (.reg [⟨(some 7), none, .p (.mv (.c .nilSl))⟩])
  (.seq (.reg [⟨(some 20), none, .p (.mv (.t 7))⟩,
    ⟨(some 21), none, .p (.mv (.t 5))⟩,
    ⟨(some 22), none, .app 27 4 (.t 20) (.t 21)⟩,
    ⟨(some 7), none, .p (.mv (.t 22))⟩])
  (.seq (.reg [⟨(some 23), none, .p (.mv (.t 7))⟩,
    ⟨(some 24), none, .p (.mv (.t 6))⟩,
    ⟨(some 25), none, .app 27 4 (.t 23) (.t 24)⟩,
    ⟨(some 7), none, .p (.mv (.t 25))⟩])
  (.seq (.reg [⟨(some 26), none, .p (.mv (.t 7))⟩,
    ⟨(some 27), none, .call 40 [(.t 26)]⟩,
    ⟨(some 8), none, .p (.mv (.t 27))⟩])
  (.seq (.reg [⟨(some 9), none, .p (.mv (.c .nilSl))⟩])
  (.seq (.seq (.reg [⟨(some 10), none, .p (.mv (.c (.int .i64 0)))⟩])
  (.block 0 (.loop (.seq (.seq (.reg [⟨(some 28), none, .p (.mv (.t 10))⟩,
    ⟨(some 29), none, .p (.mv (.t 8))⟩,
    ⟨(some 30), none, .p (.lenA (.t 29))⟩,
    ⟨(some 31), none, .p (.bin .lss (.t 28) (.t 30))⟩])
  (.cond (.t 31) .skip (.exit 0)))
  (.seq (.block 1 (.seq (.reg [⟨(some 35), none, .p (.mv (.t 5))⟩,
    ⟨(some 36), none, .p (.mv (.t 8))⟩,
    ⟨(some 37), none, .p (.mv (.t 10))⟩,
    ⟨(some 38), none, .p (.idxA 4 (.t 36) (.t 37))⟩,
    ⟨(some 39), none, .p (.ldn 4 (.t 38))⟩,
    ⟨(some 40), none, .call 41 [(.t 35), (.t 39)]⟩,
    ⟨(some 34), none, .p (.mv (.t 40))⟩,
    ⟨(some 41), none, .p (.ext 0 (.t 34))⟩,
    ⟨(some 42), none, .p (.ext 1 (.t 34))⟩,
    ⟨(some 11), none, .newO 27 [(.int .i64 0), (.int .i64 0), (.int .i64 0), (.int .i64 0)]⟩,
    ⟨none, none, .st 4 (.t 11) (.t 41)⟩,
    ⟨(some 12), none, .p (.mv (.t 42))⟩])
  (.seq (.reg [⟨(some 44), none, .p (.mv (.t 6))⟩,
    ⟨(some 45), none, .p (.mv (.t 8))⟩,
    ⟨(some 46), none, .p (.mv (.t 10))⟩,
    ⟨(some 47), none, .p (.idxA 4 (.t 45) (.t 46))⟩,
    ⟨(some 48), none, .p (.ldn 4 (.t 47))⟩,
    ⟨(some 49), none, .call 41 [(.t 44), (.t 48)]⟩,
    ⟨(some 43), none, .p (.mv (.t 49))⟩,
    ⟨(some 50), none, .p (.ext 0 (.t 43))⟩,
    ⟨(some 51), none, .p (.ext 1 (.t 43))⟩,
    ⟨(some 13), none, .newO 27 [(.int .i64 0), (.int .i64 0), (.int .i64 0), (.int .i64 0)]⟩,
    ⟨none, none, .st 4 (.t 13) (.t 50)⟩,
    ⟨(some 14), none, .p (.mv (.t 51))⟩])
  (.block 2 (.seq (.reg [⟨(some 60), none, .p (.mv (.t 12))⟩,
    ⟨(some 61), none, .p (.mv (.t 60))⟩,
    ⟨(some 62), (some (61, true)), .p (.mv (.t 14))⟩,
    ⟨(some 63), none, .p (.pick (.t 61) (.t 62) (.c (.bool false)))⟩,
    ⟨(some 59), none, .p (.mv (.t 63))⟩])
  (.cond (.t 59) (.seq (.reg [⟨(some 64), none, .p (.ldn 4 (.t 11))⟩,
    ⟨(some 65), none, .p (.ldn 4 (.t 13))⟩,
    ⟨(some 66), none, .call 42 [(.t 64), (.t 65)]⟩,
    ⟨(some 15), none, .newO 27 [(.int .i64 0), (.int .i64 0), (.int .i64 0), (.int .i64 0)]⟩,
    ⟨none, none, .st 4 (.t 15) (.t 66)⟩])
  (.reg [⟨(some 67), none, .p (.mv (.t 9))⟩,
    ⟨(some 68), none, .p (.ldn 4 (.t 15))⟩,
    ⟨(some 69), none, .p (.bsl 4 [(.int .i64 0), (.int .i64 0), (.int .i64 0), (.int .i64 0)] 1 [(0, (.t 68))])⟩,
    ⟨(some 70), none, .app 27 4 (.t 67) (.t 69)⟩,
    ⟨(some 9), none, .p (.mv (.t 70))⟩])) (.reg [⟨(some 52), none, .p (.mv (.t 9))⟩,
    ⟨(some 53), none, .p (.mv (.t 8))⟩,
    ⟨(some 54), none, .p (.mv (.t 10))⟩,
    ⟨(some 55), none, .p (.idxA 4 (.t 53) (.t 54))⟩,
    ⟨(some 56), none, .p (.ldn 4 (.t 55))⟩,
    ⟨(some 57), none, .p (.bsl 4 [(.int .i64 0), (.int .i64 0), (.int .i64 0), (.int .i64 0)] 1 [(0, (.t 56))])⟩,
    ⟨(some 58), none, .app 27 4 (.t 52) (.t 57)⟩,
    ⟨(some 9), none, .p (.mv (.t 58))⟩])))))))
  (.reg [⟨(some 32), none, .p (.mv (.t 10))⟩,
    ⟨(some 33), none, .p (.bin .add (.t 32) (.c (.int .i64 1)))⟩,
    ⟨(some 10), none, .p (.mv (.t 33))⟩]))))))
  (.seq (.reg [⟨(some 71), none, .p (.mv (.t 9))⟩,
    ⟨(some 4), none, .p (.mv (.t 71))⟩])
  .ret)))))))))⟩
theorem c31 : compF Try.prog ⟨fun s => [].contains s, fun _ => []⟩ Try.f31 = some a31 := by kernel_rfl

/- slices.SortFunc[[]airline/api.State,airline/api.State] -/
def a37 : AFun := ⟨14, [], (.seq (.reg [⟨(some 5), none, .p (.mv (.t 0))⟩,
    ⟨(some 6), none, .p (.lenA (.t 5))⟩,
    ⟨(some 4), none, .p (.mv (.t 6))⟩])
  (.reg [⟨(some 7), none, .p (.mv (.t 0))⟩,
    ⟨(some 8), none, .p (.mv (.t 4))⟩,
    ⟨(some 9), none, .p (.mv (.t 4))⟩,
    ⟨(some 10), none, .p (.conv .u64 (.t 9))⟩,
    ⟨(some 11), none, .call 38 [(.t 10)]⟩,
    ⟨(some 12), none, .p (.mv (.t 1))⟩,
    ⟨(some 13), none, .call 37 [(.t 7), (.c (.int .i64 0)), (.t 8), (.t 11), (.t 12)]⟩]))⟩
theorem c37 : compF Try.prog ⟨fun s => [].contains s, fun _ => []⟩ Try.f27 = some a37 := by kernel_rfl

/- cmp.Or[int] -/
def a39 : AFun := ⟨18, [.tmp 2], (.seq (.reg [⟨(some 2), none, .p (.mv (.c (.int .i64 0)))⟩])
  (.seq (.reg [⟨(some 3), none, .p (.mv (.c (.int .i64 0)))⟩])
  (.seq (.seq (.reg [⟨(some 6), none, .p (.mv (.t 0))⟩,
    ⟨(some 7), none, .p (.lenA (.t 6))⟩,
    ⟨(some 8), none, .p (.mv (.c (.int .i64 0)))⟩])
  (.block 0 (.loop (.seq (.reg [⟨(some 9), none, .p (.bin .lss (.t 8) (.t 7))⟩])
  (.seq (.cond (.t 9) .skip (.exit 0))
  (.seq (.block 1 (.seq (.reg [⟨(some 10), none, .p (.idxA 1 (.t 6) (.t 8))⟩,
    ⟨(some 11), none, .p (.ld1 (.t 10))⟩,
    ⟨(some 5), none, .p (.mv (.t 11))⟩])
  (.seq (.reg [⟨(some 12), none, .p (.mv (.t 5))⟩,
    ⟨(some 13), none, .p (.mv (.t 3))⟩,
    ⟨(some 14), none, .p (.bin .neq (.t 12) (.t 13))⟩])
  (.cond (.t 14) (.seq (.reg [⟨(some 15), none, .p (.mv (.t 5))⟩,
    ⟨(some 2), none, .p (.mv (.t 15))⟩])
  .ret) .skip))))
  (.reg [⟨(some 16), none, .p (.bin .add (.t 8) (.c (.int .i64 1)))⟩,
    ⟨(some 8), none, .p (.mv (.t 16))⟩])))))))
  (.seq (.reg [⟨(some 17), none, .p (.mv (.t 3))⟩,
    ⟨(some 2), none, .p (.mv (.t 17))⟩])
  .ret))))⟩
theorem c39 : compF Try.prog ⟨fun s => [].contains s, fun _ => []⟩ Try.f29 = some a39 := by kernel_rfl

/- cmp.Compare[int] -/
def a40 : AFun := ⟨20, [.tmp 4], (.seq (.reg [⟨(some 4), none, .p (.mv (.c (.int .i64 0)))⟩])
  (.seq (.reg [⟨(some 7), none, .p (.mv (.t 0))⟩,
    ⟨(some 8), none, .call 39 [(.t 7)]⟩,
    ⟨(some 5), none, .p (.mv (.t 8))⟩])
  (.seq (.reg [⟨(some 9), none, .p (.mv (.t 1))⟩,
    ⟨(some 10), none, .call 39 [(.t 9)]⟩,
    ⟨(some 6), none, .p (.mv (.t 10))⟩])
  (.seq (.seq (.reg [⟨(some 11), none, .p (.mv (.t 5))⟩])
  (.cond (.t 11) (.seq (.seq (.reg [⟨(some 12), none, .p (.mv (.t 6))⟩])
  (.cond (.t 12) (.seq (.reg [⟨(some 4), none, .p (.mv (.c (.int .i64 0)))⟩])
  .ret) .skip))
  (.seq (.reg [⟨(some 4), none, .p (.mv (.c (.int .i64 (-1))))⟩])
  .ret)) .skip))
  (.seq (.seq (.reg [⟨(some 13), none, .p (.mv (.t 6))⟩])
  (.cond (.t 13) (.seq (.reg [⟨(some 4), none, .p (.mv (.c (.int .i64 1)))⟩])
  .ret) .skip))
  (.seq (.seq (.reg [⟨(some 14), none, .p (.mv (.t 0))⟩,
    ⟨(some 15), none, .p (.mv (.t 1))⟩,
    ⟨(some 16), none, .p (.bin .lss (.t 14) (.t 15))⟩])
  (.cond (.t 16) (.seq (.reg [⟨(some 4), none, .p (.mv (.c (.int .i64 (-1))))⟩])
  .ret) .skip))
  (.seq (.seq (.reg [⟨(some 17), none, .p (.mv (.t 0))⟩,
    ⟨(some 18), none, .p (.mv (.t 1))⟩,
    ⟨(some 19), none, .p (.bin .gtr (.t 17) (.t 18))⟩])
  (.cond (.t 19) (.seq (.reg [⟨(some 4), none, .p (.mv (.c (.int .i64 1)))⟩])
  .ret) .skip))
  (.seq (.reg [⟨(some 4), none, .p (.mv (.c (.int .i64 0)))⟩])
  .ret))))))))⟩
theorem c40 : compF Try.prog ⟨fun s => [].contains s, fun _ => []⟩ Try.f30 = some a40 := by kernel_rfl

/- airline/reconcile.of -/
def a43 : AFun := ⟨34, [.tmp 2], (.seq (.reg [⟨(some 2), none, .p (.mv (.c .nilMap))⟩])
  (.seq (.reg [⟨(some 9), none, .xs (.mkM (.st [(.int .i64), (.int .i64)])) []⟩,
    ⟨(some 3), none, .p (.mv (.t 9))⟩])
  (.seq (.seq (.reg [⟨(some 10), none, .p (.mv (.t 0))⟩,
    ⟨(some 11), none, .p (.lenA (.t 10))⟩,
    ⟨(some 12), none, .p (.mv (.c (.int .i64 0)))⟩])
  (.block 0 (.loop (.seq (.reg [⟨(some 13), none, .p (.bin .lss (.t 12) (.t 11))⟩])
  (.seq (.cond (.t 13) .skip (.exit 0))
  (.seq (.block 1 (.seq (.reg [⟨(some 14), none, .p (.idxA 4 (.t 10) (.t 12))⟩,
    ⟨(some 15), none, .p (.ldn 4 (.t 14))⟩,
    ⟨(some 5), none, .newO 27 [(.int .i64 0), (.int .i64 0), (.int .i64 0), (.int .i64 0)]⟩,
    ⟨none, none, .st 4 (.t 5) (.t 15)⟩])
  (.seq (.reg [⟨(some 16), none, .p (.faddr 0 (.t 5))⟩,
    ⟨(some 17), none, .p (.ld1 (.t 16))⟩,
    ⟨(some 18), none, .p (.faddr 1 (.t 5))⟩,
    ⟨(some 19), none, .p (.ld1 (.t 18))⟩,
    ⟨(some 20), none, .p (.build [(.int .i64 0), (.int .i64 0)] [(0, 1, (.t 17)), (1, 1, (.t 19))])⟩,
    ⟨(some 6), none, .newO 49 [(.int .i64 0), (.int .i64 0)]⟩,
    ⟨none, none, .st 2 (.t 6) (.t 20)⟩])
  (.seq (.reg [⟨(some 22), none, .p (.mv (.t 3))⟩,
    ⟨(some 23), none, .p (.ldn 2 (.t 6))⟩,
    ⟨(some 24), none, .p (.xo (.lk (.st [(.int .i64), (.int .i64)]) (.agg [(.int .i64 0), (.int .i64 0), (.int .i64 0), (.int .i64 0)]) true) [(.t 22), (.t 23)])⟩,
    ⟨(some 21), none, .p (.mv (.t 24))⟩,
    ⟨(some 25), none, .p (.ext 0 (.t 21))⟩,
    ⟨(some 26), none, .p (.ext 1 (.t 21))⟩,
    ⟨(some 7), none, .newO 27 [(.int .i64 0), (.int .i64 0), (.int .i64 0), (.int .i64 0)]⟩,
    ⟨none, none, .st 4 (.t 7) (.t 25)⟩,
    ⟨(some 8), none, .p (.mv (.t 26))⟩])
  (.seq (.reg [⟨(some 27), none, .p (.mv (.t 8))⟩,
    ⟨(some 28), none, .p (.not (.t 27))⟩])
  (.cond (.t 28) (.reg [⟨(some 29), none, .p (.mv (.t 3))⟩,
    ⟨(some 30), none, .p (.ldn 2 (.t 6))⟩,
    ⟨(some 31), none, .p (.ldn 4 (.t 5))⟩,
    ⟨none, none, .xs (.mu (.st [(.int .i64), (.int .i64)])) [(.t 29), (.t 30), (.t 31)]⟩]) .skip))))))
  (.reg [⟨(some 32), none, .p (.bin .add (.t 12) (.c (.int .i64 1)))⟩,
    ⟨(some 12), none, .p (.mv (.t 32))⟩])))))))
  (.seq (.reg [⟨(some 33), none, .p (.mv (.t 3))⟩,
    ⟨(some 2), none, .p (.mv (.t 33))⟩])
  .ret))))⟩
theorem c43 : compF Try.prog ⟨fun s => [].contains s, fun _ => []⟩ Try.f17 = some a43 := by kernel_rfl

/- airline/reconcile.sorted -/
def a44 : AFun := ⟨6, [.tmp 2], (.seq (.reg [⟨(some 2), none, .p (.mv (.c .nilSl))⟩])
  (.seq (.reg [⟨(some 3), none, .p (.mv (.t 0))⟩,
    ⟨(some 4), none, .call 27 [(.t 3), (.c (.func 33 [] []))]⟩])
  (.seq (.reg [⟨(some 5), none, .p (.mv (.t 0))⟩,
    ⟨(some 2), none, .p (.mv (.t 5))⟩])
  .ret)))⟩
theorem c44 : compF Try.prog ⟨fun s => [].contains s, fun _ => []⟩ Try.f19 = some a44 := by kernel_rfl

/- airline/airlineref46.coupons -/
def a45 : AFun := ⟨66, [.tmp 2], (.seq (.reg [⟨(some 2), none, .p (.mv (.c .nilSl))⟩])
  (.seq (.reg [⟨(some 3), none, .p (.mv (.c .nilSl))⟩])
  (.seq (.seq (.reg [⟨(some 4), none, .p (.mv (.c (.int .i64 0)))⟩])
  (.block 0 (.loop (.seq (.seq (.reg [⟨(some 9), none, .p (.mv (.t 4))⟩,
    ⟨(some 10), none, .p (.mv (.t 0))⟩,
    ⟨(some 11), none, .p (.lenA (.t 10))⟩,
    ⟨(some 12), none, .p (.bin .lss (.t 9) (.t 11))⟩])
  (.cond (.t 12) .skip (.exit 0)))
  (.seq (.block 1 (.seq (.reg [⟨(some 16), none, .p (.mv (.t 0))⟩,
    ⟨(some 17), none, .p (.mv (.t 0))⟩,
    ⟨(some 18), none, .p (.mv (.t 4))⟩,
    ⟨(some 19), none, .p (.idxA 4 (.t 17) (.t 18))⟩,
    ⟨(some 20), none, .p (.ldn 4 (.t 19))⟩,
    ⟨(some 21), none, .call 41 [(.t 16), (.t 20)]⟩,
    ⟨(some 15), none, .p (.mv (.t 21))⟩,
    ⟨(some 22), none, .p (.ext 0 (.t 15))⟩,
    ⟨(some 23), none, .p (.ext 1 (.t 15))⟩,
    ⟨(some 5), none, .newO 27 [(.int .i64 0), (.int .i64 0), (.int .i64 0), (.int .i64 0)]⟩,
    ⟨none, none, .st 4 (.t 5) (.t 22)⟩,
    ⟨(some 6), none, .p (.mv (.t 23))⟩])
  (.seq (.reg [⟨(some 7), none, .p (.mv (.c (.int .i64 0)))⟩])
  (.seq (.block 2 (.loop (.seq (.seq (.oreg [(.quiet, ⟨(some 24), none, .p (.mv (.t 7))⟩),
    (.quiet, ⟨(some 25), none, .p (.mv (.t 3))⟩),
    (.quiet, ⟨(some 26), none, .p (.lenA (.t 25))⟩),
    (.quiet, ⟨(some 27), none, .p (.bin .lss (.t 24) (.t 26))⟩),
    (.quiet, ⟨(some 28), none, .p (.mv (.t 27))⟩),
    (.quiet, ⟨(some 29), (some (28, true)), .p (.mv (.t 3))⟩),
    (.quiet, ⟨(some 30), (some (28, true)), .p (.mv (.t 7))⟩),
    (.quiet, ⟨(some 31), (some (28, true)), .p (.idxA 4 (.t 29) (.t 30))⟩),
    (.quiet, ⟨(some 32), (some (28, true)), .p (.ldn 4 (.t 31))⟩),
    (.quiet, ⟨(some 33), (some (28, true)), .p (.ldn 4 (.t 5))⟩),
    (.loud, ⟨(some 34), (some (28, true)), .call 54 [(.t 32), (.t 33)]⟩),
    (.quiet, ⟨(some 35), none, .p (.pick (.t 28) (.t 34) (.c (.bool false)))⟩)])
  (.cond (.t 35) .skip (.exit 2)))
  (.block 3 (.reg [⟨(some 36), none, .p (.mv (.t 7))⟩,
    ⟨(some 37), none, .p (.bin .add (.t 36) (.c (.int .i64 1)))⟩,
    ⟨(some 7), none, .p (.mv (.t 37))⟩])))))
  (.seq (.seq (.oreg [(.quiet, ⟨(some 38), none, .p (.mv (.t 7))⟩),
    (.quiet, ⟨(some 39), none, .p (.mv (.t 3))⟩),
    (.quiet, ⟨(some 40), none, .p (.lenA (.t 39))⟩),
    (.quiet, ⟨(some 41), none, .p (.bin .lss (.t 38) (.t 40))⟩),
    (.quiet, ⟨(some 42), none, .p (.mv (.t 41))⟩),
    (.quiet, ⟨(some 43), (some (42, true)), .p (.mv (.t 3))⟩),
    (.quiet, ⟨(some 44), (some (42, true)), .p (.mv (.t 7))⟩),
    (.quiet, ⟨(some 45), (some (42, true)), .p (.idxA 4 (.t 43) (.t 44))⟩),
    (.quiet, ⟨(some 46), (some (42, true)), .p (.ldn 4 (.t 45))⟩),
    (.quiet, ⟨(some 47), (some (42, true)), .p (.ldn 4 (.t 5))⟩),
    (.loud, ⟨(some 48), (some (42, true)), .call 55 [(.t 46), (.t 47)]⟩),
    (.quiet, ⟨(some 49), none, .p (.pick (.t 42) (.t 48) (.c (.bool false)))⟩)])
  (.cond (.t 49) (.exit 1) .skip))
  (.seq (.reg [⟨(some 8), none, .p (.mv (.c .nilSl))⟩])
  (.seq (.reg [⟨(some 50), none, .p (.mv (.t 8))⟩,
    ⟨(some 51), none, .p (.mv (.t 3))⟩,
    ⟨(some 52), none, .p (.mv (.t 7))⟩,
    ⟨(some 53), none, .p (.slA 4 (.t 51) none (some (.t 52)))⟩,
    ⟨(some 54), none, .app 27 4 (.t 50) (.t 53)⟩,
    ⟨(some 8), none, .p (.mv (.t 54))⟩])
  (.seq (.reg [⟨(some 55), none, .p (.mv (.t 8))⟩,
    ⟨(some 56), none, .p (.ldn 4 (.t 5))⟩,
    ⟨(some 57), none, .p (.bsl 4 [(.int .i64 0), (.int .i64 0), (.int .i64 0), (.int .i64 0)] 1 [(0, (.t 56))])⟩,
    ⟨(some 58), none, .app 27 4 (.t 55) (.t 57)⟩,
    ⟨(some 8), none, .p (.mv (.t 58))⟩])
  (.seq (.reg [⟨(some 59), none, .p (.mv (.t 8))⟩,
    ⟨(some 60), none, .p (.mv (.t 3))⟩,
    ⟨(some 61), none, .p (.mv (.t 7))⟩,
    ⟨(some 62), none, .p (.slA 4 (.t 60) (some (.t 61)) none)⟩,
    ⟨(some 63), none, .app 27 4 (.t 59) (.t 62)⟩,
    ⟨(some 8), none, .p (.mv (.t 63))⟩])
  (.reg [⟨(some 64), none, .p (.mv (.t 8))⟩,
    ⟨(some 3), none, .p (.mv (.t 64))⟩]))))))))))
  (.reg [⟨(some 13), none, .p (.mv (.t 4))⟩,
    ⟨(some 14), none, .p (.bin .add (.t 13) (.c (.int .i64 1)))⟩,
    ⟨(some 4), none, .p (.mv (.t 14))⟩]))))))
  (.seq (.reg [⟨(some 65), none, .p (.mv (.t 3))⟩,
    ⟨(some 2), none, .p (.mv (.t 65))⟩])
  .ret))))⟩
theorem c45 : compF Try.prog ⟨fun s => [].contains s, fun r => match r with | 7 => [(0, .quiet), (1, .quiet), (2, .quiet), (3, .quiet), (4, .quiet), (5, .quiet), (6, .quiet), (7, .quiet), (8, .quiet), (9, .quiet), (10, .loud), (11, .quiet)]  | 9 => [(0, .quiet), (1, .quiet), (2, .quiet), (3, .quiet), (4, .quiet), (5, .quiet), (6, .quiet), (7, .quiet), (8, .quiet), (9, .quiet), (10, .loud), (11, .quiet)] | _ => []⟩ Try.f40 = some a45 := by kernel_rfl

/- airline/airlineref46.find -/
def a46 : AFun := ⟨24, [.cell 4 (some 4), .tmp 5], (.seq (.reg [⟨(some 3), none, .p (.boxI (.t 1))⟩,
    ⟨(some 4), none, .newO 27 [(.int .i64 0), (.int .i64 0), (.int .i64 0), (.int .i64 0)]⟩,
    ⟨(some 5), none, .p (.mv (.c (.bool false)))⟩])
  (.seq (.seq (.reg [⟨(some 6), none, .p (.mv (.c (.int .i64 0)))⟩])
  (.block 0 (.loop (.seq (.seq (.reg [⟨(some 7), none, .p (.mv (.t 6))⟩,
    ⟨(some 8), none, .p (.mv (.t 0))⟩,
    ⟨(some 9), none, .p (.lenA (.t 8))⟩,
    ⟨(some 10), none, .p (.bin .lss (.t 7) (.t 9))⟩])
  (.cond (.t 10) .skip (.exit 0)))
  (.seq (.block 1 (.seq (.oreg [(.quiet, ⟨(some 13), none, .p (.mv (.t 0))⟩),
    (.quiet, ⟨(some 14), none, .p (.mv (.t 6))⟩),
    (.quiet, ⟨(some 15), none, .p (.idxA 4 (.t 13) (.t 14))⟩),
    (.quiet, ⟨(some 16), none, .p (.ldn 4 (.t 15))⟩),
    (.quiet, ⟨(some 17), none, .p (.ldn 4 (.t 3))⟩),
    (.loud, ⟨(some 18), none, .call 55 [(.t 16), (.t 17)]⟩)])
  (.cond (.t 18) (.seq (.reg [⟨(some 19), none, .p (.mv (.t 0))⟩,
    ⟨(some 20), none, .p (.mv (.t 6))⟩,
    ⟨(some 21), none, .p (.idxA 4 (.t 19) (.t 20))⟩,
    ⟨(some 22), none, .p (.ldn 4 (.t 21))⟩,
    ⟨none, none, .st 4 (.t 4) (.t 22)⟩,
    ⟨(some 5), none, .p (.mv (.c (.bool true)))⟩])
  .ret) .skip)))
  (.reg [⟨(some 11), none, .p (.mv (.t 6))⟩,
    ⟨(some 12), none, .p (.bin .add (.t 11) (.c (.int .i64 1)))⟩,
    ⟨(some 6), none, .p (.mv (.t 12))⟩]))))))
  (.seq (.reg [⟨(some 23), none, .p (.build [(.int .i64 0), (.int .i64 0), (.int .i64 0), (.int .i64 0)] [])⟩,
    ⟨none, none, .st 4 (.t 4) (.t 23)⟩,
    ⟨(some 5), none, .p (.mv (.c (.bool false)))⟩])
  .ret)))⟩
theorem c46 : compF Try.prog ⟨fun s => [].contains s, fun r => match r with | 4 => [(0, .quiet), (1, .quiet), (2, .quiet), (3, .quiet), (4, .quiet), (5, .loud)] | _ => []⟩ Try.f41 = some a46 := by kernel_rfl

/- airline/reconcile.merged -/
def a47 : AFun := ⟨35, [.cell 4 (some 4)], (.seq (.reg [⟨(some 2), none, .boxO 27 (.t 0)⟩,
    ⟨(some 3), none, .p (.boxI (.t 1))⟩,
    ⟨(some 4), none, .newO 27 [(.int .i64 0), (.int .i64 0), (.int .i64 0), (.int .i64 0)]⟩])
  (.seq (.block 0 (.seq (.reg [⟨(some 6), none, .p (.faddr 2 (.t 2))⟩,
    ⟨(some 7), none, .p (.ld1 (.t 6))⟩,
    ⟨(some 8), none, .p (.faddr 2 (.t 3))⟩,
    ⟨(some 9), none, .p (.ld1 (.t 8))⟩,
    ⟨(some 10), none, .p (.bin .gtr (.t 7) (.t 9))⟩,
    ⟨(some 11), none, .p (.mv (.t 10))⟩,
    ⟨(some 12), (some (11, false)), .p (.ldn 4 (.t 2))⟩,
    ⟨(some 13), (some (11, false)), .p (.ldn 4 (.t 3))⟩,
    ⟨(some 14), (some (11, false)), .p (.xo (.eqA [(.int .i64), (.int .i64), (.int .i64), (.int .i64)] false) [(.t 12), (.t 13)])⟩,
    ⟨(some 15), none, .p (.pick (.t 11) (.c (.bool true)) (.t 14))⟩,
    ⟨(some 5), none, .p (.mv (.t 15))⟩])
  (.cond (.t 5) (.seq (.reg [⟨(some 16), none, .p (.ldn 4 (.t 2))⟩,
    ⟨none, none, .st 4 (.t 4) (.t 16)⟩])
  .ret) (.seq (.reg [⟨(some 18), none, .p (.faddr 2 (.t 2))⟩,
    ⟨(some 19), none, .p (.ld1 (.t 18))⟩,
    ⟨(some 20), none, .p (.faddr 2 (.t 3))⟩,
    ⟨(some 21), none, .p (.ld1 (.t 20))⟩,
    ⟨(some 22), none, .p (.bin .lss (.t 19) (.t 21))⟩,
    ⟨(some 17), none, .p (.mv (.t 22))⟩])
  (.cond (.t 17) (.seq (.reg [⟨(some 23), none, .p (.ldn 4 (.t 3))⟩,
    ⟨none, none, .st 4 (.t 4) (.t 23)⟩])
  .ret) .skip)))))
  (.seq (.reg [⟨(some 24), none, .p (.faddr 3 (.t 2))⟩,
    ⟨(some 25), none, .p (.ld1 (.t 24))⟩,
    ⟨(some 26), none, .p (.faddr 3 (.t 3))⟩,
    ⟨(some 27), none, .p (.ld1 (.t 26))⟩,
    ⟨(some 28), none, .p (.minmax false (.t 25) (.t 27))⟩,
    ⟨(some 29), none, .p (.faddr 3 (.t 2))⟩,
    ⟨none, none, .st 1 (.t 29) (.t 28)⟩])
  (.seq (.reg [⟨(some 30), none, .p (.faddr 2 (.t 2))⟩,
    ⟨(some 31), none, .p (.ld1 (.t 30))⟩,
    ⟨(some 32), none, .p (.bin .add (.t 31) (.c (.int .i64 1)))⟩,
    ⟨(some 33), none, .p (.faddr 2 (.t 2))⟩,
    ⟨none, none, .st 1 (.t 33) (.t 32)⟩])
  (.seq (.reg [⟨(some 34), none, .p (.ldn 4 (.t 2))⟩,
    ⟨none, none, .st 4 (.t 4) (.t 34)⟩])
  .ret)))))⟩
theorem c47 : compF Try.prog ⟨fun s => [2].contains s, fun _ => []⟩ Try.f18 = some a47 := by kernel_rfl

/- airline/airlineref46.merged -/
def a48 : AFun := ⟨39, [.cell 4 (some 4)], (.seq (.reg [⟨(some 2), none, .boxO 27 (.t 0)⟩,
    ⟨(some 3), none, .p (.boxI (.t 1))⟩,
    ⟨(some 4), none, .newO 27 [(.int .i64 0), (.int .i64 0), (.int .i64 0), (.int .i64 0)]⟩])
  (.seq (.block 0 (.seq (.reg [⟨(some 6), none, .p (.faddr 2 (.t 2))⟩,
    ⟨(some 7), none, .p (.ld1 (.t 6))⟩,
    ⟨(some 8), none, .p (.faddr 2 (.t 3))⟩,
    ⟨(some 9), none, .p (.ld1 (.t 8))⟩,
    ⟨(some 10), none, .p (.bin .gtr (.t 7) (.t 9))⟩,
    ⟨(some 5), none, .p (.mv (.t 10))⟩])
  (.cond (.t 5) (.seq (.reg [⟨(some 11), none, .p (.ldn 4 (.t 2))⟩,
    ⟨none, none, .st 4 (.t 4) (.t 11)⟩])
  .ret) (.seq (.reg [⟨(some 13), none, .p (.faddr 2 (.t 2))⟩,
    ⟨(some 14), none, .p (.ld1 (.t 13))⟩,
    ⟨(some 15), none, .p (.faddr 2 (.t 3))⟩,
    ⟨(some 16), none, .p (.ld1 (.t 15))⟩,
    ⟨(some 17), none, .p (.bin .lss (.t 14) (.t 16))⟩,
    ⟨(some 12), none, .p (.mv (.t 17))⟩])
  (.cond (.t 12) (.seq (.reg [⟨(some 18), none, .p (.ldn 4 (.t 3))⟩,
    ⟨none, none, .st 4 (.t 4) (.t 18)⟩])
  .ret) (.seq (.reg [⟨(some 20), none, .p (.faddr 3 (.t 2))⟩,
    ⟨(some 21), none, .p (.ld1 (.t 20))⟩,
    ⟨(some 22), none, .p (.faddr 3 (.t 3))⟩,
    ⟨(some 23), none, .p (.ld1 (.t 22))⟩,
    ⟨(some 24), none, .p (.bin .eql (.t 21) (.t 23))⟩,
    ⟨(some 19), none, .p (.mv (.t 24))⟩])
  (.cond (.t 19) (.seq (.reg [⟨(some 25), none, .p (.ldn 4 (.t 2))⟩,
    ⟨none, none, .st 4 (.t 4) (.t 25)⟩])
  .ret) .skip)))))))
  (.seq (.seq (.reg [⟨(some 26), none, .p (.faddr 3 (.t 3))⟩,
    ⟨(some 27), none, .p (.ld1 (.t 26))⟩,
    ⟨(some 28), none, .p (.faddr 3 (.t 2))⟩,
    ⟨(some 29), none, .p (.ld1 (.t 28))⟩,
    ⟨(some 30), none, .p (.bin .gtr (.t 27) (.t 29))⟩])
  (.cond (.t 30) (.reg [⟨(some 31), none, .p (.faddr 3 (.t 3))⟩,
    ⟨(some 32), none, .p (.ld1 (.t 31))⟩,
    ⟨(some 33), none, .p (.faddr 3 (.t 2))⟩,
    ⟨none, none, .st 1 (.t 33) (.t 32)⟩]) .skip))
  (.seq (.reg [⟨(some 34), none, .p (.faddr 2 (.t 2))⟩,
    ⟨(some 35), none, .p (.ld1 (.t 34))⟩,
    ⟨(some 36), none, .p (.bin .add (.t 35) (.c (.int .i64 1)))⟩,
    ⟨(some 37), none, .p (.faddr 2 (.t 2))⟩,
    ⟨none, none, .st 1 (.t 37) (.t 36)⟩])
  (.seq (.reg [⟨(some 38), none, .p (.ldn 4 (.t 2))⟩,
    ⟨none, none, .st 4 (.t 4) (.t 38)⟩])
  .ret)))))⟩
theorem c48 : compF Try.prog ⟨fun s => [2].contains s, fun _ => []⟩ Try.f42 = some a48 := by kernel_rfl

/- slices.pdqsortCmpFunc[airline/api.State] -/
def a51 : AFun := ⟨148, [], (.seq (.reg [⟨(some 10), none, .p (.mv (.c (.bool true)))⟩])
  (.seq (.reg [⟨(some 11), none, .p (.mv (.c (.bool true)))⟩])
  (.block 0 (.loop (.block 1 (.seq (.reg [⟨(some 21), none, .p (.mv (.t 2))⟩,
    ⟨(some 22), none, .p (.mv (.t 1))⟩,
    ⟨(some 23), none, .p (.bin .sub (.t 21) (.t 22))⟩,
    ⟨(some 12), none, .p (.mv (.t 23))⟩])
  (.seq (.seq (.reg [⟨(some 24), none, .p (.mv (.t 12))⟩,
    ⟨(some 25), none, .p (.bin .leq (.t 24) (.c (.int .i64 12)))⟩])
  (.cond (.t 25) (.seq (.reg [⟨(some 26), none, .p (.mv (.t 0))⟩,
    ⟨(some 27), none, .p (.mv (.t 1))⟩,
    ⟨(some 28), none, .p (.mv (.t 2))⟩,
    ⟨(some 29), none, .p (.mv (.t 4))⟩,
    ⟨(some 30), none, .call 44 [(.t 26), (.t 27), (.t 28), (.t 29)]⟩])
  .ret) .skip))
  (.seq (.seq (.reg [⟨(some 31), none, .p (.mv (.t 3))⟩,
    ⟨(some 32), none, .p (.bin .eql (.t 31) (.c (.int .i64 0)))⟩])
  (.cond (.t 32) (.seq (.reg [⟨(some 33), none, .p (.mv (.t 0))⟩,
    ⟨(some 34), none, .p (.mv (.t 1))⟩,
    ⟨(some 35), none, .p (.mv (.t 2))⟩,
    ⟨(some 36), none, .p (.mv (.t 4))⟩,
    ⟨(some 37), none, .call 45 [(.t 33), (.t 34), (.t 35), (.t 36)]⟩])
  .ret) .skip))
  (.seq (.seq (.reg [⟨(some 38), none, .p (.mv (.t 10))⟩,
    ⟨(some 39), none, .p (.not (.t 38))⟩])
  (.cond (.t 39) (.seq (.reg [⟨(some 40), none, .p (.mv (.t 0))⟩,
    ⟨(some 41), none, .p (.mv (.t 1))⟩,
    ⟨(some 42), none, .p (.mv (.t 2))⟩,
    ⟨(some 43), none, .p (.mv (.t 4))⟩,
    ⟨(some 44), none, .call 46 [(.t 40), (.t 41), (.t 42), (.t 43)]⟩])
  (.reg [⟨(some 45), none, .p (.mv (.t 3))⟩,
    ⟨(some 46), none, .p (.bin .sub (.t 45) (.c (.int .i64 1)))⟩,
    ⟨(some 3), none, .p (.mv (.t 46))⟩])) .skip))
  (.seq (.reg [⟨(some 48), none, .p (.mv (.t 0))⟩,
    ⟨(some 49), none, .p (.mv (.t 1))⟩,
    ⟨(some 50), none, .p (.mv (.t 2))⟩,
    ⟨(some 51), none, .p (.mv (.t 4))⟩,
    ⟨(some 52), none, .call 47 [(.t 48), (.t 49), (.t 50), (.t 51)]⟩,
    ⟨(some 47), none, .p (.mv (.t 52))⟩,
    ⟨(some 53), none, .p (.ext 0 (.t 47))⟩,
    ⟨(some 54), none, .p (.ext 1 (.t 47))⟩,
    ⟨(some 13), none, .p (.mv (.t 53))⟩,
    ⟨(some 14), none, .p (.mv (.t 54))⟩])
  (.seq (.seq (.reg [⟨(some 55), none, .p (.mv (.t 14))⟩,
    ⟨(some 56), none, .p (.bin .eql (.t 55) (.c (.int .i64 2)))⟩])
  (.cond (.t 56) (.seq (.reg [⟨(some 57), none, .p (.mv (.t 0))⟩,
    ⟨(some 58), none, .p (.mv (.t 1))⟩,
    ⟨(some 59), none, .p (.mv (.t 2))⟩,
    ⟨(some 60), none, .p (.mv (.t 4))⟩,
    ⟨(some 61), none, .call 48 [(.t 57), (.t 58), (.t 59), (.t 60)]⟩])
  (.seq (.reg [⟨(some 62), none, .p (.mv (.t 2))⟩,
    ⟨(some 63), none, .p (.bin .sub (.t 62) (.c (.int .i64 1)))⟩,
    ⟨(some 64), none, .p (.mv (.t 13))⟩,
    ⟨(some 65), none, .p (.mv (.t 1))⟩,
    ⟨(some 66), none, .p (.bin .sub (.t 64) (.t 65))⟩,
    ⟨(some 67), none, .p (.bin .sub (.t 63) (.t 66))⟩,
    ⟨(some 13), none, .p (.mv (.t 67))⟩])
  (.reg [⟨(some 14), none, .p (.mv (.c (.int .i64 1)))⟩]))) .skip))
  (.seq (.seq (.reg [⟨(some 68), none, .p (.mv (.t 10))⟩,
    ⟨(some 69), none, .p (.mv (.t 68))⟩,
    ⟨(some 70), (some (69, true)), .p (.mv (.t 11))⟩,
    ⟨(some 71), none, .p (.pick (.t 69) (.t 70) (.c (.bool false)))⟩,
    ⟨(some 72), none, .p (.mv (.t 71))⟩,
    ⟨(some 73), (some (72, true)), .p (.mv (.t 14))⟩,
    ⟨(some 74), (some (72, true)), .p (.bin .eql (.t 73) (.c (.int .i64 1)))⟩,
    ⟨(some 75), none, .p (.pick (.t 72) (.t 74) (.c (.bool false)))⟩])
  (.cond (.t 75) (.seq (.reg [⟨(some 76), none, .p (.mv (.t 0))⟩,
    ⟨(some 77), none, .p (.mv (.t 1))⟩,
    ⟨(some 78), none, .p (.mv (.t 2))⟩,
    ⟨(some 79), none, .p (.mv (.t 4))⟩,
    ⟨(some 80), none, .call 49 [(.t 76), (.t 77), (.t 78), (.t 79)]⟩])
  (.cond (.t 80) .ret .skip)) .skip))
  (.seq (.seq (.oreg [(.quiet, ⟨(some 81), none, .p (.mv (.t 1))⟩),
    (.quiet, ⟨(some 82), none, .p (.bin .gtr (.t 81) (.c (.int .i64 0)))⟩),
    (.quiet, ⟨(some 83), none, .p (.mv (.t 82))⟩),
    (.quiet, ⟨(some 84), (some (83, true)), .p (.mv (.t 4))⟩),
    (.quiet, ⟨(some 85), (some (83, true)), .p (.mv (.t 0))⟩),
    (.quiet, ⟨(some 86), (some (83, true)), .p (.mv (.t 1))⟩),
    (.quiet, ⟨(some 87), (some (83, true)), .p (.bin .sub (.t 86) (.c (.int .i64 1)))⟩),
    (.quiet, ⟨(some 88), (some (83, true)), .p (.idxA 4 (.t 85) (.t 87))⟩),
    (.quiet, ⟨(some 89), (some (83, true)), .p (.ldn 4 (.t 88))⟩),
    (.quiet, ⟨(some 90), (some (83, true)), .p (.mv (.t 0))⟩),
    (.quiet, ⟨(some 91), (some (83, true)), .p (.mv (.t 13))⟩),
    (.quiet, ⟨(some 92), (some (83, true)), .p (.idxA 4 (.t 90) (.t 91))⟩),
    (.quiet, ⟨(some 93), (some (83, true)), .p (.ldn 4 (.t 92))⟩),
    (.loud, ⟨(some 94), (some (83, true)), .callv (.t 84) [(.t 89), (.t 93)]⟩),
    (.quiet, ⟨(some 95), (some (83, true)), .p (.bin .lss (.t 94) (.c (.int .i64 0)))⟩),
    (.quiet, ⟨(some 96), (some (83, true)), .p (.not (.t 95))⟩),
    (.quiet, ⟨(some 97), none, .p (.pick (.t 83) (.t 96) (.c (.bool false)))⟩)])
  (.cond (.t 97) (.seq (.reg [⟨(some 98), none, .p (.mv (.t 0))⟩,
    ⟨(some 99), none, .p (.mv (.t 1))⟩,
    ⟨(some 100), none, .p (.mv (.t 2))⟩,
    ⟨(some 101), none, .p (.mv (.t 13))⟩,
    ⟨(some 102), none, .p (.mv (.t 4))⟩,
    ⟨(some 103), none, .call 50 [(.t 98), (.t 99), (.t 100), (.t 101), (.t 102)]⟩,
    ⟨(some 15), none, .p (.mv (.t 103))⟩])
  (.seq (.reg [⟨(some 104), none, .p (.mv (.t 15))⟩,
    ⟨(some 1), none, .p (.mv (.t 104))⟩])
  (.exit 1))) .skip))
  (.seq (.reg [⟨(some 106), none, .p (.mv (.t 0))⟩,
    ⟨(some 107), none, .p (.mv (.t 1))⟩,
    ⟨(some 108), none, .p (.mv (.t 2))⟩,
    ⟨(some 109), none, .p (.mv (.t 13))⟩,
    ⟨(some 110), none, .p (.mv (.t 4))⟩,
    ⟨(some 111), none, .call 51 [(.t 106), (.t 107), (.t 108), (.t 109), (.t 110)]⟩,
    ⟨(some 105), none, .p (.mv (.t 111))⟩,
    ⟨(some 112), none, .p (.ext 0 (.t 105))⟩,
    ⟨(some 113), none, .p (.ext 1 (.t 105))⟩,
    ⟨(some 16), none, .p (.mv (.t 112))⟩,
    ⟨(some 17), none, .p (.mv (.t 113))⟩])
  (.seq (.reg [⟨(some 114), none, .p (.mv (.t 17))⟩,
    ⟨(some 11), none, .p (.mv (.t 114))⟩])
  (.seq (.reg [⟨(some 115), none, .p (.mv (.t 16))⟩,
    ⟨(some 116), none, .p (.mv (.t 1))⟩,
    ⟨(some 117), none, .p (.bin .sub (.t 115) (.t 116))⟩,
    ⟨(some 118), none, .p (.mv (.t 2))⟩,
    ⟨(some 119), none, .p (.mv (.t 16))⟩,
    ⟨(some 120), none, .p (.bin .sub (.t 118) (.t 119))⟩,
    ⟨(some 18), none, .p (.mv (.t 117))⟩,
    ⟨(some 19), none, .p (.mv (.t 120))⟩])
  (.seq (.reg [⟨(some 121), none, .p (.mv (.t 12))⟩,
    ⟨(some 122), none, .p (.bin .quo (.t 121) (.c (.int .i64 8)))⟩,
    ⟨(some 20), none, .p (.mv (.t 122))⟩])
  (.seq (.reg [⟨(some 123), none, .p (.mv (.t 18))⟩,
    ⟨(some 124), none, .p (.mv (.t 19))⟩,
    ⟨(some 125), none, .p (.bin .lss (.t 123) (.t 124))⟩])
  (.cond (.t 125) (.seq (.reg [⟨(some 126), none, .p (.mv (.t 18))⟩,
    ⟨(some 127), none, .p (.mv (.t 20))⟩,
    ⟨(some 128), none, .p (.bin .geq (.t 126) (.t 127))⟩,
    ⟨(some 10), none, .p (.mv (.t 128))⟩])
  (.seq (.reg [⟨(some 129), none, .p (.mv (.t 0))⟩,
    ⟨(some 130), none, .p (.mv (.t 1))⟩,
    ⟨(some 131), none, .p (.mv (.t 16))⟩,
    ⟨(some 132), none, .p (.mv (.t 3))⟩,
    ⟨(some 133), none, .p (.mv (.t 4))⟩,
    ⟨(some 134), none, .call 37 [(.t 129), (.t 130), (.t 131), (.t 132), (.t 133)]⟩])
  (.reg [⟨(some 135), none, .p (.mv (.t 16))⟩,
    ⟨(some 136), none, .p (.bin .add (.t 135) (.c (.int .i64 1)))⟩,
    ⟨(some 1), none, .p (.mv (.t 136))⟩]))) (.seq (.reg [⟨(some 137), none, .p (.mv (.t 19))⟩,
    ⟨(some 138), none, .p (.mv (.t 20))⟩,
    ⟨(some 139), none, .p (.bin .geq (.t 137) (.t 138))⟩,
    ⟨(some 10), none, .p (.mv (.t 139))⟩])
  (.seq (.reg [⟨(some 140), none, .p (.mv (.t 0))⟩,
    ⟨(some 141), none, .p (.mv (.t 16))⟩,
    ⟨(some 142), none, .p (.bin .add (.t 141) (.c (.int .i64 1)))⟩,
    ⟨(some 143), none, .p (.mv (.t 2))⟩,
    ⟨(some 144), none, .p (.mv (.t 3))⟩,
    ⟨(some 145), none, .p (.mv (.t 4))⟩,
    ⟨(some 146), none, .call 37 [(.t 140), (.t 142), (.t 143), (.t 144), (.t 145)]⟩])
  (.reg [⟨(some 147), none, .p (.mv (.t 16))⟩,
    ⟨(some 2), none, .p (.mv (.t 147))⟩]))))))))))))))))))))))⟩
theorem c51 : compF Try.prog ⟨fun s => [].contains s, fun r => match r with | 17 => [(0, .quiet), (1, .quiet), (2, .quiet), (3, .quiet), (4, .quiet), (5, .quiet), (6, .quiet), (7, .quiet), (8, .quiet), (9, .quiet), (10, .quiet), (11, .quiet), (12, .quiet), (13, .loud), (14, .quiet), (15, .quiet), (16, .quiet)] | _ => []⟩ Try.f37 = some a51 := by kernel_rfl

/- math/bits.Len -/
def a52 : AFun := ⟨8, [.tmp 2], (.seq (.reg [⟨(some 2), none, .p (.mv (.c (.int .i64 0)))⟩])
  (.seq (.cond (.c (.bool false)) (.seq (.reg [⟨(some 3), none, .p (.mv (.t 0))⟩,
    ⟨(some 4), none, .p (.conv .u32 (.t 3))⟩,
    ⟨(some 5), none, .call 52 [(.t 4)]⟩,
    ⟨(some 2), none, .p (.mv (.t 5))⟩])
  .ret) .skip)
  (.seq (.reg [⟨(some 6), none, .p (.mv (.t 0))⟩,
    ⟨(some 7), none, .call 53 [(.t 6)]⟩,
    ⟨(some 2), none, .p (.mv (.t 7))⟩])
  .ret)))⟩
theorem c52 : compF Try.prog ⟨fun s => [].contains s, fun _ => []⟩ Try.f38 = some a52 := by kernel_rfl

/- cmp.isNaN[int] -/
def a53 : AFun := ⟨6, [.tmp 2], (.seq (.reg [⟨(some 2), none, .p (.mv (.c (.bool false)))⟩])
  (.seq (.reg [⟨(some 3), none, .p (.mv (.t 0))⟩,
    ⟨(some 4), none, .p (.mv (.t 0))⟩,
    ⟨(some 5), none, .p (.bin .neq (.t 3) (.t 4))⟩,
    ⟨(some 2), none, .p (.mv (.t 5))⟩])
  .ret))⟩
theorem c53 : compF Try.prog ⟨fun s => [].contains s, fun _ => []⟩ Try.f39 = some a53 := by kernel_rfl

/- airline/reconcile.sorted$1 -/
def a55 : AFun := ⟨17, [.tmp 4], (.seq (.reg [⟨(some 2), none, .p (.boxI (.t 0))⟩,
    ⟨(some 3), none, .p (.boxI (.t 1))⟩,
    ⟨(some 4), none, .p (.mv (.c (.int .i64 0)))⟩])
  (.seq (.oreg [(.quiet, ⟨(some 5), none, .p (.faddr 0 (.t 2))⟩),
    (.quiet, ⟨(some 6), none, .p (.ld1 (.t 5))⟩),
    (.quiet, ⟨(some 7), none, .p (.faddr 0 (.t 3))⟩),
    (.quiet, ⟨(some 8), none, .p (.ld1 (.t 7))⟩),
    (.quiet, ⟨(some 10), none, .p (.faddr 1 (.t 2))⟩),
    (.quiet, ⟨(some 11), none, .p (.ld1 (.t 10))⟩),
    (.quiet, ⟨(some 12), none, .p (.faddr 1 (.t 3))⟩),
    (.quiet, ⟨(some 13), none, .p (.ld1 (.t 12))⟩),
    (.quiet, ⟨(some 9), none, .call 30 [(.t 6), (.t 8)]⟩),
    (.loud, ⟨(some 14), none, .call 30 [(.t 11), (.t 13)]⟩),
    (.quiet, ⟨(some 15), none, .p (.bsl 1 [(.int .i64 0)] 2 [(0, (.t 9)), (1, (.t 14))])⟩),
    (.loud, ⟨(some 16), none, .call 29 [(.t 15)]⟩),
    (.quiet, ⟨(some 4), none, .p (.mv (.t 16))⟩)])
  .ret))⟩
theorem c55 : compF Try.prog ⟨fun s => [].contains s, fun r => match r with | 1 => [(0, .quiet), (1, .quiet), (2, .quiet), (3, .quiet), (5, .quiet), (6, .quiet), (7, .quiet), (8, .quiet), (4, .quiet), (9, .loud), (10, .quiet), (11, .loud), (12, .quiet)] | _ => []⟩ Try.f33 = some a55 := by kernel_rfl

/- airline/airlineref46.less -/
def a56 : AFun := ⟨24, [.tmp 4], (.seq (.reg [⟨(some 2), none, .p (.boxI (.t 0))⟩,
    ⟨(some 3), none, .p (.boxI (.t 1))⟩,
    ⟨(some 4), none, .p (.mv (.c (.bool false)))⟩])
  (.seq (.reg [⟨(some 5), none, .p (.faddr 0 (.t 2))⟩,
    ⟨(some 6), none, .p (.ld1 (.t 5))⟩,
    ⟨(some 7), none, .p (.faddr 0 (.t 3))⟩,
    ⟨(some 8), none, .p (.ld1 (.t 7))⟩,
    ⟨(some 9), none, .p (.bin .lss (.t 6) (.t 8))⟩,
    ⟨(some 10), none, .p (.mv (.t 9))⟩,
    ⟨(some 11), (some (10, false)), .p (.faddr 0 (.t 2))⟩,
    ⟨(some 12), (some (10, false)), .p (.ld1 (.t 11))⟩,
    ⟨(some 13), (some (10, false)), .p (.faddr 0 (.t 3))⟩,
    ⟨(some 14), (some (10, false)), .p (.ld1 (.t 13))⟩,
    ⟨(some 15), (some (10, false)), .p (.bin .eql (.t 12) (.t 14))⟩,
    ⟨(some 16), (some (10, false)), .p (.mv (.t 15))⟩,
    ⟨(some 17), (some (16, true)), .p (.faddr 1 (.t 2))⟩,
    ⟨(some 18), (some (16, true)), .p (.ld1 (.t 17))⟩,
    ⟨(some 19), (some (16, true)), .p (.faddr 1 (.t 3))⟩,
    ⟨(some 20), (some (16, true)), .p (.ld1 (.t 19))⟩,
    ⟨(some 21), (some (16, true)), .p (.bin .lss (.t 18) (.t 20))⟩,
    ⟨(some 22), (some (10, false)), .p (.pick (.t 16) (.t 21) (.c (.bool false)))⟩,
    ⟨(some 23), none, .p (.pick (.t 10) (.c (.bool true)) (.t 22))⟩,
    ⟨(some 4), none, .p (.mv (.t 23))⟩])
  .ret))⟩
theorem c56 : compF Try.prog ⟨fun s => [].contains s, fun _ => []⟩ Try.f54 = some a56 := by kernel_rfl

/- airline/airlineref46.same -/
def a57 : AFun := ⟨17, [.tmp 4], (.seq (.reg [⟨(some 2), none, .p (.boxI (.t 0))⟩,
    ⟨(some 3), none, .p (.boxI (.t 1))⟩,
    ⟨(some 4), none, .p (.mv (.c (.bool false)))⟩])
  (.seq (.reg [⟨(some 5), none, .p (.faddr 0 (.t 2))⟩,
    ⟨(some 6), none, .p (.ld1 (.t 5))⟩,
    ⟨(some 7), none, .p (.faddr 0 (.t 3))⟩,
    ⟨(some 8), none, .p (.ld1 (.t 7))⟩,
    ⟨(some 9), none, .p (.bin .eql (.t 6) (.t 8))⟩,
    ⟨(some 10), none, .p (.mv (.t 9))⟩,
    ⟨(some 11), (some (10, true)), .p (.faddr 1 (.t 2))⟩,
    ⟨(some 12), (some (10, true)), .p (.ld1 (.t 11))⟩,
    ⟨(some 13), (some (10, true)), .p (.faddr 1 (.t 3))⟩,
    ⟨(some 14), (some (10, true)), .p (.ld1 (.t 13))⟩,
    ⟨(some 15), (some (10, true)), .p (.bin .eql (.t 12) (.t 14))⟩,
    ⟨(some 16), none, .p (.pick (.t 10) (.t 15) (.c (.bool false)))⟩,
    ⟨(some 4), none, .p (.mv (.t 16))⟩])
  .ret))⟩
theorem c57 : compF Try.prog ⟨fun s => [].contains s, fun _ => []⟩ Try.f55 = some a57 := by kernel_rfl

/- slices.insertionSortCmpFunc[airline/api.State] -/
def a60 : AFun := ⟨53, [], (.seq (.reg [⟨(some 10), none, .p (.mv (.t 1))⟩,
    ⟨(some 11), none, .p (.bin .add (.t 10) (.c (.int .i64 1)))⟩,
    ⟨(some 8), none, .p (.mv (.t 11))⟩])
  (.block 0 (.loop (.seq (.seq (.reg [⟨(some 12), none, .p (.mv (.t 8))⟩,
    ⟨(some 13), none, .p (.mv (.t 2))⟩,
    ⟨(some 14), none, .p (.bin .lss (.t 12) (.t 13))⟩])
  (.cond (.t 14) .skip (.exit 0)))
  (.seq (.block 1 (.seq (.reg [⟨(some 17), none, .p (.mv (.t 8))⟩,
    ⟨(some 9), none, .p (.mv (.t 17))⟩])
  (.block 2 (.loop (.seq (.seq (.oreg [(.quiet, ⟨(some 18), none, .p (.mv (.t 9))⟩),
    (.quiet, ⟨(some 19), none, .p (.mv (.t 1))⟩),
    (.quiet, ⟨(some 20), none, .p (.bin .gtr (.t 18) (.t 19))⟩),
    (.quiet, ⟨(some 21), none, .p (.mv (.t 20))⟩),
    (.quiet, ⟨(some 22), (some (21, true)), .p (.mv (.t 3))⟩),
    (.quiet, ⟨(some 23), (some (21, true)), .p (.mv (.t 0))⟩),
    (.quiet, ⟨(some 24), (some (21, true)), .p (.mv (.t 9))⟩),
    (.quiet, ⟨(some 25), (some (21, true)), .p (.idxA 4 (.t 23) (.t 24))⟩),
    (.quiet, ⟨(some 26), (some (21, true)), .p (.ldn 4 (.t 25))⟩),
    (.quiet, ⟨(some 27), (some (21, true)), .p (.mv (.t 0))⟩),
    (.quiet, ⟨(some 28), (some (21, true)), .p (.mv (.t 9))⟩),
    (.quiet, ⟨(some 29), (some (21, true)), .p (.bin .sub (.t 28) (.c (.int .i64 1)))⟩),
    (.quiet, ⟨(some 30), (some (21, true)), .p (.idxA 4 (.t 27) (.t 29))⟩),
    (.quiet, ⟨(some 31), (some (21, true)), .p (.ldn 4 (.t 30))⟩),
    (.loud, ⟨(some 32), (some (21, true)), .callv (.t 22) [(.t 26), (.t 31)]⟩),
    (.quiet, ⟨(some 33), (some (21, true)), .p (.bin .lss (.t 32) (.c (.int .i64 0)))⟩),
    (.quiet, ⟨(some 34), none, .p (.pick (.t 21) (.t 33) (.c (.bool false)))⟩)])
  (.cond (.t 34) .skip (.exit 2)))
  (.seq (.block 3 (.oreg [(.quiet, ⟨(some 37), none, .p (.mv (.t 0))⟩),
    (.quiet, ⟨(some 38), none, .p (.mv (.t 9))⟩),
    (.stable, ⟨(some 39), none, .p (.mv (.t 0))⟩),
    (.stable, ⟨(some 40), none, .p (.mv (.t 9))⟩),
    (.stable, ⟨(some 41), none, .p (.bin .sub (.t 40) (.c (.int .i64 1)))⟩),
    (.quiet, ⟨(some 42), none, .p (.mv (.t 0))⟩),
    (.quiet, ⟨(some 43), none, .p (.mv (.t 9))⟩),
    (.quiet, ⟨(some 44), none, .p (.bin .sub (.t 43) (.c (.int .i64 1)))⟩),
    (.quiet, ⟨(some 45), none, .p (.idxA 4 (.t 42) (.t 44))⟩),
    (.quiet, ⟨(some 46), none, .p (.ldn 4 (.t 45))⟩),
    (.quiet, ⟨(some 47), none, .p (.mv (.t 0))⟩),
    (.quiet, ⟨(some 48), none, .p (.mv (.t 9))⟩),
    (.quiet, ⟨(some 49), none, .p (.idxA 4 (.t 47) (.t 48))⟩),
    (.quiet, ⟨(some 50), none, .p (.ldn 4 (.t 49))⟩),
    (.quiet, ⟨(some 51), none, .p (.idxA 4 (.t 37) (.t 38))⟩),
    (.loud, ⟨none, none, .st 4 (.t 51) (.t 46)⟩),
    (.quiet, ⟨(some 52), none, .p (.idxA 4 (.t 39) (.t 41))⟩),
    (.loud, ⟨none, none, .st 4 (.t 52) (.t 50)⟩)]))
  (.reg [⟨(some 35), none, .p (.mv (.t 9))⟩,
    ⟨(some 36), none, .p (.bin .sub (.t 35) (.c (.int .i64 1)))⟩,
    ⟨(some 9), none, .p (.mv (.t 36))⟩])))))))
  (.reg [⟨(some 15), none, .p (.mv (.t 8))⟩,
    ⟨(some 16), none, .p (.bin .add (.t 15) (.c (.int .i64 1)))⟩,
    ⟨(some 8), none, .p (.mv (.t 16))⟩]))))))⟩
theorem c60 : compF Try.prog ⟨fun s => [].contains s, fun r => match r with | 4 => [(0, .quiet), (1, .quiet), (2, .quiet), (3, .quiet), (4, .quiet), (5, .quiet), (6, .quiet), (7, .quiet), (8, .quiet), (9, .quiet), (10, .quiet), (11, .quiet), (12, .quiet), (13, .quiet), (14, .loud), (15, .quiet), (16, .quiet)]  | 6 => [(0, .quiet), (1, .quiet), (2, .stable), (3, .stable), (4, .stable), (5, .quiet), (6, .quiet), (7, .quiet), (8, .quiet), (9, .quiet), (10, .quiet), (11, .quiet), (12, .quiet), (13, .quiet), (14, .quiet), (15, .loud), (16, .quiet), (17, .loud)] | _ => []⟩ Try.f44 = some a60 := by kernel_rfl

/- math/bits.Len32 -/
def a68 : AFun := ⟨19, [.tmp 2], (.seq (.reg [⟨(some 2), none, .p (.mv (.c (.int .i64 0)))⟩])
  (.seq (.seq (.reg [⟨(some 3), none, .p (.mv (.t 0))⟩,
    ⟨(some 4), none, .p (.bin .geq (.t 3) (.c (.int .u32 65536)))⟩])
  (.cond (.t 4) (.seq (.reg [⟨(some 5), none, .p (.mv (.t 0))⟩,
    ⟨(some 6), none, .p (.bin .shr (.t 5) (.c (.int .u64 16)))⟩,
    ⟨(some 0), none, .p (.mv (.t 6))⟩])
  (.reg [⟨(some 2), none, .p (.mv (.c (.int .i64 16)))⟩])) .skip))
  (.seq (.seq (.reg [⟨(some 7), none, .p (.mv (.t 0))⟩,
    ⟨(some 8), none, .p (.bin .geq (.t 7) (.c (.int .u32 256)))⟩])
  (.cond (.t 8) (.seq (.reg [⟨(some 9), none, .p (.mv (.t 0))⟩,
    ⟨(some 10), none, .p (.bin .shr (.t 9) (.c (.int .u64 8)))⟩,
    ⟨(some 0), none, .p (.mv (.t 10))⟩])
  (.reg [⟨(some 11), none, .p (.mv (.t 2))⟩,
    ⟨(some 12), none, .p (.bin .add (.t 11) (.c (.int .i64 8)))⟩,
    ⟨(some 2), none, .p (.mv (.t 12))⟩])) .skip))
  (.seq (.reg [⟨(some 13), none, .p (.mv (.t 2))⟩,
    ⟨(some 14), none, .p (.mv (.t 0))⟩,
    ⟨(some 15), none, .p (.conv .u8 (.t 14))⟩,
    ⟨(some 16), none, .p (.idxS (.c (.str [0, 1, 2, 2, 3, 3, 3, 3, 4, 4, 4, 4, 4, 4, 4, 4, 5, 5, 5, 5, 5, 5, 5, 5, 5, 5, 5, 5, 5, 5, 5, 5, 6, 6, 6, 6, 6, 6, 6, 6, 6, 6, 6, 6, 6, 6, 6, 6, 6, 6, 6, 6, 6, 6, 6, 6, 6, 6, 6, 6, 6, 6, 6, 6, 7, 7, 7, 7, 7, 7, 7, 7, 7, 7, 7, 7, 7, 7, 7, 7, 7, 7, 7, 7, 7, 7, 7, 7, 7, 7, 7, 7, 7, 7, 7, 7, 7, 7, 7, 7, 7, 7, 7, 7, 7, 7, 7, 7, 7, 7, 7, 7, 7, 7, 7, 7, 7, 7, 7, 7, 7, 7, 7, 7, 7, 7, 7, 7, 8, 8, 8, 8, 8, 8, 8, 8, 8, 8, 8, 8, 8, 8, 8, 8, 8, 8, 8, 8, 8, 8, 8, 8, 8, 8, 8, 8, 8, 8, 8, 8, 8, 8, 8, 8, 8, 8, 8, 8, 8, 8, 8, 8, 8, 8, 8, 8, 8, 8, 8, 8, 8, 8, 8, 8, 8, 8, 8, 8, 8, 8, 8, 8, 8, 8, 8, 8, 8, 8, 8, 8, 8, 8, 8, 8, 8, 8, 8, 8, 8, 8, 8, 8, 8, 8, 8, 8, 8, 8, 8, 8, 8, 8, 8, 8, 8, 8, 8, 8, 8, 8, 8, 8, 8, 8, 8, 8, 8, 8, 8, 8, 8, 8, 8, 8, 8, 8, 8, 8, 8, 8, 8, 8, 8, 8, 8, 8])) (.t 15))⟩,
    ⟨(some 17), none, .p (.conv .i64 (.t 16))⟩,
    ⟨(some 18), none, .p (.bin .add (.t 13) (.t 17))⟩,
    ⟨(some 2), none, .p (.mv (.t 18))⟩])
  .ret))))⟩
theorem c68 : compF Try.prog ⟨fun s => [].contains s, fun _ => []⟩ Try.f52 = some a68 := by kernel_rfl

/- math/bits.Len64 -/
def a69 : AFun := ⟨25, [.tmp 2], (.seq (.reg [⟨(some 2), none, .p (.mv (.c (.int .i64 0)))⟩])
  (.seq (.seq (.reg [⟨(some 3), none, .p (.mv (.t 0))⟩,
    ⟨(some 4), none, .p (.bin .geq (.t 3) (.c (.int .u64 4294967296)))⟩])
  (.cond (.t 4) (.seq (.reg [⟨(some 5), none, .p (.mv (.t 0))⟩,
    ⟨(some 6), none, .p (.bin .shr (.t 5) (.c (.int .u64 32)))⟩,
    ⟨(some 0), none, .p (.mv (.t 6))⟩])
  (.reg [⟨(some 2), none, .p (.mv (.c (.int .i64 32)))⟩])) .skip))
  (.seq (.seq (.reg [⟨(some 7), none, .p (.mv (.t 0))⟩,
    ⟨(some 8), none, .p (.bin .geq (.t 7) (.c (.int .u64 65536)))⟩])
  (.cond (.t 8) (.seq (.reg [⟨(some 9), none, .p (.mv (.t 0))⟩,
    ⟨(some 10), none, .p (.bin .shr (.t 9) (.c (.int .u64 16)))⟩,
    ⟨(some 0), none, .p (.mv (.t 10))⟩])
  (.reg [⟨(some 11), none, .p (.mv (.t 2))⟩,
    ⟨(some 12), none, .p (.bin .add (.t 11) (.c (.int .i64 16)))⟩,
    ⟨(some 2), none, .p (.mv (.t 12))⟩])) .skip))
  (.seq (.seq (.reg [⟨(some 13), none, .p (.mv (.t 0))⟩,
    ⟨(some 14), none, .p (.bin .geq (.t 13) (.c (.int .u64 256)))⟩])
  (.cond (.t 14) (.seq (.reg [⟨(some 15), none, .p (.mv (.t 0))⟩,
    ⟨(some 16), none, .p (.bin .shr (.t 15) (.c (.int .u64 8)))⟩,
    ⟨(some 0), none, .p (.mv (.t 16))⟩])
  (.reg [⟨(some 17), none, .p (.mv (.t 2))⟩,
    ⟨(some 18), none, .p (.bin .add (.t 17) (.c (.int .i64 8)))⟩,
    ⟨(some 2), none, .p (.mv (.t 18))⟩])) .skip))
  (.seq (.reg [⟨(some 19), none, .p (.mv (.t 2))⟩,
    ⟨(some 20), none, .p (.mv (.t 0))⟩,
    ⟨(some 21), none, .p (.conv .u8 (.t 20))⟩,
    ⟨(some 22), none, .p (.idxS (.c (.str [0, 1, 2, 2, 3, 3, 3, 3, 4, 4, 4, 4, 4, 4, 4, 4, 5, 5, 5, 5, 5, 5, 5, 5, 5, 5, 5, 5, 5, 5, 5, 5, 6, 6, 6, 6, 6, 6, 6, 6, 6, 6, 6, 6, 6, 6, 6, 6, 6, 6, 6, 6, 6, 6, 6, 6, 6, 6, 6, 6, 6, 6, 6, 6, 7, 7, 7, 7, 7, 7, 7, 7, 7, 7, 7, 7, 7, 7, 7, 7, 7, 7, 7, 7, 7, 7, 7, 7, 7, 7, 7, 7, 7, 7, 7, 7, 7, 7, 7, 7, 7, 7, 7, 7, 7, 7, 7, 7, 7, 7, 7, 7, 7, 7, 7, 7, 7, 7, 7, 7, 7, 7, 7, 7, 7, 7, 7, 7, 8, 8, 8, 8, 8, 8, 8, 8, 8, 8, 8, 8, 8, 8, 8, 8, 8, 8, 8, 8, 8, 8, 8, 8, 8, 8, 8, 8, 8, 8, 8, 8, 8, 8, 8, 8, 8, 8, 8, 8, 8, 8, 8, 8, 8, 8, 8, 8, 8, 8, 8, 8, 8, 8, 8, 8, 8, 8, 8, 8, 8, 8, 8, 8, 8, 8, 8, 8, 8, 8, 8, 8, 8, 8, 8, 8, 8, 8, 8, 8, 8, 8, 8, 8, 8, 8, 8, 8, 8, 8, 8, 8, 8, 8, 8, 8, 8, 8, 8, 8, 8, 8, 8, 8, 8, 8, 8, 8, 8, 8, 8, 8, 8, 8, 8, 8, 8, 8, 8, 8, 8, 8, 8, 8, 8, 8, 8, 8])) (.t 21))⟩,
    ⟨(some 23), none, .p (.conv .i64 (.t 22))⟩,
    ⟨(some 24), none, .p (.bin .add (.t 19) (.t 23))⟩,
    ⟨(some 2), none, .p (.mv (.t 24))⟩])
  .ret)))))⟩
theorem c69 : compF Try.prog ⟨fun s => [].contains s, fun _ => []⟩ Try.f53 = some a69 := by kernel_rfl

/- airline/airlinelaw46.ReconcileMerges -/
def a203 : AFun := ⟨138, [.tmp 4], (.seq (.reg [⟨(some 4), none, .p (.mv (.c (.bool false)))⟩])
  (.seq (.seq (.reg [⟨(some 10), none, .p (.mv (.t 0))⟩,
    ⟨(some 11), none, .p (.mv (.t 1))⟩,
    ⟨(some 12), none, .call 6 [(.t 10), (.t 11)]⟩,
    ⟨(some 13), none, .p (.not (.t 12))⟩])
  (.cond (.t 13) (.seq (.reg [⟨(some 14), none, .call 7 []⟩,
    ⟨(some 4), none, .p (.mv (.t 14))⟩])
  .ret) .skip))
  (.seq (.reg [⟨(some 15), none, .p (.mv (.t 0))⟩,
    ⟨(some 16), none, .p (.mv (.t 1))⟩,
    ⟨(some 17), none, .call 8 [(.t 15), (.t 16)]⟩,
    ⟨(some 5), none, .p (.mv (.t 17))⟩])
  (.seq (.seq (.reg [⟨(some 18), none, .p (.mv (.t 5))⟩,
    ⟨(some 19), none, .p (.mv (.t 1))⟩,
    ⟨(some 20), none, .p (.mv (.t 0))⟩,
    ⟨(some 21), none, .call 8 [(.t 19), (.t 20)]⟩,
    ⟨(some 22), none, .call 9 [(.t 18), (.t 21)]⟩,
    ⟨(some 23), none, .p (.not (.t 22))⟩,
    ⟨(some 24), none, .p (.mv (.t 23))⟩,
    ⟨(some 25), (some (24, false)), .p (.mv (.t 5))⟩,
    ⟨(some 26), (some (24, false)), .p (.mv (.t 5))⟩,
    ⟨(some 27), (some (24, false)), .call 8 [(.t 25), (.t 26)]⟩,
    ⟨(some 28), (some (24, false)), .p (.mv (.t 5))⟩,
    ⟨(some 29), (some (24, false)), .call 9 [(.t 27), (.t 28)]⟩,
    ⟨(some 30), (some (24, false)), .p (.not (.t 29))⟩,
    ⟨(some 31), none, .p (.pick (.t 24) (.c (.bool true)) (.t 30))⟩,
    ⟨(some 32), none, .p (.mv (.t 31))⟩,
    ⟨(some 33), (some (32, false)), .p (.mv (.t 5))⟩,
    ⟨(some 34), (some (32, false)), .p (.mv (.t 5))⟩,
    ⟨(some 35), (some (32, false)), .call 10 [(.t 33), (.t 34)]⟩,
    ⟨(some 36), (some (32, false)), .p (.lenA (.t 35))⟩,
    ⟨(some 37), (some (32, false)), .p (.bin .gtr (.t 36) (.c (.int .i64 0)))⟩,
    ⟨(some 38), none, .p (.pick (.t 32) (.c (.bool true)) (.t 37))⟩])
  (.cond (.t 38) (.seq (.reg [⟨(some 4), none, .p (.mv (.c (.bool false)))⟩])
  .ret) .skip))
  (.seq (.seq (.reg [⟨(some 6), none, .p (.mv (.c (.int .i64 1)))⟩])
  (.block 0 (.loop (.seq (.seq (.reg [⟨(some 39), none, .p (.mv (.t 6))⟩,
    ⟨(some 40), none, .p (.mv (.t 5))⟩,
    ⟨(some 41), none, .p (.lenA (.t 40))⟩,
    ⟨(some 42), none, .p (.bin .lss (.t 39) (.t 41))⟩])
  (.cond (.t 42) .skip (.exit 0)))
  (.seq (.block 1 (.seq (.oreg [(.quiet, ⟨(some 45), none, .p (.mv (.t 5))⟩),
    (.quiet, ⟨(some 46), none, .p (.mv (.t 6))⟩),
    (.quiet, ⟨(some 47), none, .p (.bin .sub (.t 46) (.c (.int .i64 1)))⟩),
    (.quiet, ⟨(some 48), none, .p (.idxA 4 (.t 45) (.t 47))⟩),
    (.quiet, ⟨(some 49), none, .p (.faddr 0 (.t 48))⟩),
    (.quiet, ⟨(some 50), none, .p (.ld1 (.t 49))⟩),
    (.quiet, ⟨(some 51), none, .p (.mv (.t 5))⟩),
    (.quiet, ⟨(some 52), none, .p (.mv (.t 6))⟩),
    (.quiet, ⟨(some 53), none, .p (.idxA 4 (.t 51) (.t 52))⟩),
    (.quiet, ⟨(some 54), none, .p (.faddr 0 (.t 53))⟩),
    (.quiet, ⟨(some 55), none, .p (.ld1 (.t 54))⟩),
    (.quiet, ⟨(some 56), none, .p (.bin .gtr (.t 50) (.t 55))⟩),
    (.quiet, ⟨(some 57), none, .p (.mv (.t 56))⟩),
    (.quiet, ⟨(some 58), (some (57, false)), .p (.mv (.t 5))⟩),
    (.quiet, ⟨(some 59), (some (57, false)), .p (.mv (.t 6))⟩),
    (.quiet, ⟨(some 60), (some (57, false)), .p (.bin .sub (.t 59) (.c (.int .i64 1)))⟩),
    (.quiet, ⟨(some 61), (some (57, false)), .p (.idxA 4 (.t 58) (.t 60))⟩),
    (.quiet, ⟨(some 62), (some (57, false)), .p (.faddr 0 (.t 61))⟩),
    (.quiet, ⟨(some 63), (some (57, false)), .p (.ld1 (.t 62))⟩),
    (.quiet, ⟨(some 64), (some (57, false)), .p (.mv (.t 5))⟩),
    (.quiet, ⟨(some 65), (some (57, false)), .p (.mv (.t 6))⟩),
    (.quiet, ⟨(some 66), (some (57, false)), .p (.idxA 4 (.t 64) (.t 65))⟩),
    (.quiet, ⟨(some 67), (some (57, false)), .p (.faddr 0 (.t 66))⟩),
    (.quiet, ⟨(some 68), (some (57, false)), .p (.ld1 (.t 67))⟩),
    (.quiet, ⟨(some 69), (some (57, false)), .p (.bin .eql (.t 63) (.t 68))⟩),
    (.quiet, ⟨(some 70), (some (57, false)), .p (.mv (.t 69))⟩),
    (.quiet, ⟨(some 71), (some (70, true)), .p (.mv (.t 5))⟩),
    (.quiet, ⟨(some 72), (some (70, true)), .p (.mv (.t 6))⟩),
    (.quiet, ⟨(some 73), (some (70, true)), .p (.bin .sub (.t 72) (.c (.int .i64 1)))⟩),
    (.quiet, ⟨(some 74), (some (70, true)), .p (.idxA 4 (.t 71) (.t 73))⟩),
    (.quiet, ⟨(some 75), (some (70, true)), .p (.faddr 1 (.t 74))⟩),
    (.quiet, ⟨(some 76), (some (70, true)), .p (.ld1 (.t 75))⟩),
    (.quiet, ⟨(some 77), (some (70, true)), .p (.mv (.t 5))⟩),
    (.quiet, ⟨(some 78), (some (70, true)), .p (.mv (.t 6))⟩),
    (.quiet, ⟨(some 79), (some (70, true)), .p (.idxA 4 (.t 77) (.t 78))⟩),
    (.quiet, ⟨(some 80), (some (70, true)), .p (.faddr 1 (.t 79))⟩),
    (.quiet, ⟨(some 81), (some (70, true)), .p (.ld1 (.t 80))⟩),
    (.quiet, ⟨(some 82), (some (70, true)), .p (.bin .geq (.t 76) (.t 81))⟩),
    (.quiet, ⟨(some 83), (some (57, false)), .p (.pick (.t 70) (.t 82) (.c (.bool false)))⟩),
    (.quiet, ⟨(some 84), none, .p (.pick (.t 57) (.c (.bool true)) (.t 83))⟩)])
  (.cond (.t 84) (.seq (.reg [⟨(some 4), none, .p (.mv (.c (.bool false)))⟩])
  .ret) .skip)))
  (.reg [⟨(some 43), none, .p (.mv (.t 6))⟩,
    ⟨(some 44), none, .p (.bin .add (.t 43) (.c (.int .i64 1)))⟩,
    ⟨(some 6), none, .p (.mv (.t 44))⟩]))))))
  (.seq (.reg [⟨(some 85), none, .p (.mv (.t 0))⟩,
    ⟨(some 86), none, .p (.mv (.t 5))⟩,
    ⟨(some 87), none, .call 10 [(.t 85), (.t 86)]⟩,
    ⟨(some 7), none, .p (.mv (.t 87))⟩])
  (.seq (.seq (.reg [⟨(some 8), none, .p (.mv (.c (.int .i64 0)))⟩])
  (.block 2 (.loop (.seq (.seq (.reg [⟨(some 88), none, .p (.mv (.t 8))⟩,
    ⟨(some 89), none, .p (.mv (.t 7))⟩,
    ⟨(some 90), none, .p (.lenA (.t 89))⟩,
    ⟨(some 91), none, .p (.bin .lss (.t 88) (.t 90))⟩])
  (.cond (.t 91) .skip (.exit 2)))
  (.seq (.block 3 (.seq (.reg [⟨(some 9), none, .p (.mv (.c (.int .i64 0)))⟩])
  (.block 4 (.loop (.seq (.seq (.reg [⟨(some 94), none, .p (.mv (.t 9))⟩,
    ⟨(some 95), none, .p (.mv (.t 5))⟩,
    ⟨(some 96), none, .p (.lenA (.t 95))⟩,
    ⟨(some 97), none, .p (.bin .lss (.t 94) (.t 96))⟩])
  (.cond (.t 97) .skip (.exit 4)))
  (.seq (.block 5 (.seq (.oreg [(.quiet, ⟨(some 100), none, .p (.mv (.t 5))⟩),
    (.quiet, ⟨(some 101), none, .p (.mv (.t 9))⟩),
    (.quiet, ⟨(some 102), none, .p (.idxA 4 (.t 100) (.t 101))⟩),
    (.quiet, ⟨(some 103), none, .p (.faddr 0 (.t 102))⟩),
    (.quiet, ⟨(some 104), none, .p (.ld1 (.t 103))⟩),
    (.quiet, ⟨(some 105), none, .p (.mv (.t 7))⟩),
    (.quiet, ⟨(some 106), none, .p (.mv (.t 8))⟩),
    (.quiet, ⟨(some 107), none, .p (.idxA 4 (.t 105) (.t 106))⟩),
    (.quiet, ⟨(some 108), none, .p (.faddr 0 (.t 107))⟩),
    (.quiet, ⟨(some 109), none, .p (.ld1 (.t 108))⟩),
    (.quiet, ⟨(some 110), none, .p (.bin .eql (.t 104) (.t 109))⟩),
    (.quiet, ⟨(some 111), none, .p (.mv (.t 110))⟩),
    (.quiet, ⟨(some 112), (some (111, true)), .p (.mv (.t 5))⟩),
    (.quiet, ⟨(some 113), (some (111, true)), .p (.mv (.t 9))⟩),
    (.quiet, ⟨(some 114), (some (111, true)), .p (.idxA 4 (.t 112) (.t 113))⟩),
    (.quiet, ⟨(some 115), (some (111, true)), .p (.faddr 1 (.t 114))⟩),
    (.quiet, ⟨(some 116), (some (111, true)), .p (.ld1 (.t 115))⟩),
    (.quiet, ⟨(some 117), (some (111, true)), .p (.mv (.t 7))⟩),
    (.quiet, ⟨(some 118), (some (111, true)), .p (.mv (.t 8))⟩),
    (.quiet, ⟨(some 119), (some (111, true)), .p (.idxA 4 (.t 117) (.t 118))⟩),
    (.quiet, ⟨(some 120), (some (111, true)), .p (.faddr 1 (.t 119))⟩),
    (.quiet, ⟨(some 121), (some (111, true)), .p (.ld1 (.t 120))⟩),
    (.quiet, ⟨(some 122), (some (111, true)), .p (.bin .eql (.t 116) (.t 121))⟩),
    (.quiet, ⟨(some 123), none, .p (.pick (.t 111) (.t 122) (.c (.bool false)))⟩),
    (.quiet, ⟨(some 124), none, .p (.mv (.t 123))⟩),
    (.quiet, ⟨(some 125), (some (124, true)), .p (.mv (.t 5))⟩),
    (.quiet, ⟨(some 126), (some (124, true)), .p (.mv (.t 9))⟩),
    (.quiet, ⟨(some 127), (some (124, true)), .p (.idxA 4 (.t 125) (.t 126))⟩),
    (.quiet, ⟨(some 128), (some (124, true)), .p (.faddr 2 (.t 127))⟩),
    (.quiet, ⟨(some 129), (some (124, true)), .p (.ld1 (.t 128))⟩),
    (.quiet, ⟨(some 130), (some (124, true)), .p (.mv (.t 7))⟩),
    (.quiet, ⟨(some 131), (some (124, true)), .p (.mv (.t 8))⟩),
    (.quiet, ⟨(some 132), (some (124, true)), .p (.idxA 4 (.t 130) (.t 131))⟩),
    (.quiet, ⟨(some 133), (some (124, true)), .p (.faddr 2 (.t 132))⟩),
    (.quiet, ⟨(some 134), (some (124, true)), .p (.ld1 (.t 133))⟩),
    (.quiet, ⟨(some 135), (some (124, true)), .p (.bin .leq (.t 129) (.t 134))⟩),
    (.quiet, ⟨(some 136), none, .p (.pick (.t 124) (.t 135) (.c (.bool false)))⟩)])
  (.cond (.t 136) (.seq (.reg [⟨(some 4), none, .p (.mv (.c (.bool false)))⟩])
  .ret) .skip)))
  (.reg [⟨(some 98), none, .p (.mv (.t 9))⟩,
    ⟨(some 99), none, .p (.bin .add (.t 98) (.c (.int .i64 1)))⟩,
    ⟨(some 9), none, .p (.mv (.t 99))⟩])))))))
  (.reg [⟨(some 92), none, .p (.mv (.t 8))⟩,
    ⟨(some 93), none, .p (.bin .add (.t 92) (.c (.int .i64 1)))⟩,
    ⟨(some 8), none, .p (.mv (.t 93))⟩]))))))
  (.seq (.reg [⟨(some 137), none, .call 7 []⟩,
    ⟨(some 4), none, .p (.mv (.t 137))⟩])
  .ret))))))))⟩
theorem c203 : compF Try.prog ⟨fun s => [].contains s, fun r => match r with | 9 => [(0, .quiet), (1, .quiet), (2, .quiet), (3, .quiet), (4, .quiet), (5, .quiet), (6, .quiet), (7, .quiet), (8, .quiet), (9, .quiet), (10, .quiet), (11, .quiet), (12, .quiet), (13, .quiet), (14, .quiet), (15, .quiet), (16, .quiet), (17, .quiet), (18, .quiet), (19, .quiet), (20, .quiet), (21, .quiet), (22, .quiet), (23, .quiet), (24, .quiet), (25, .quiet), (26, .quiet), (27, .quiet), (28, .quiet), (29, .quiet), (30, .quiet), (31, .quiet), (32, .quiet), (33, .quiet), (34, .quiet), (35, .quiet), (36, .quiet), (37, .quiet), (38, .quiet), (39, .quiet)]  | 18 => [(0, .quiet), (1, .quiet), (2, .quiet), (3, .quiet), (4, .quiet), (5, .quiet), (6, .quiet), (7, .quiet), (8, .quiet), (9, .quiet), (10, .quiet), (11, .quiet), (12, .quiet), (13, .quiet), (14, .quiet), (15, .quiet), (16, .quiet), (17, .quiet), (18, .quiet), (19, .quiet), (20, .quiet), (21, .quiet), (22, .quiet), (23, .quiet), (24, .quiet), (25, .quiet), (26, .quiet), (27, .quiet), (28, .quiet), (29, .quiet), (30, .quiet), (31, .quiet), (32, .quiet), (33, .quiet), (34, .quiet), (35, .quiet), (36, .quiet)] | _ => []⟩ Try.f3 = some a203 := by kernel_rfl

end Go.Proofs.Ytdkcicbpcagonab
