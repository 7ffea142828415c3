/- The examples, and the laws that follow from the contracts alone. -/
import Derived.Test.YtoidchljifelgaaBid13
import Derived.Test.YtoidchljifelgaaAlH
namespace Go.Proofs.Ytoidchljifelgaa
open Go Go.AL
set_option linter.unusedSimpArgs false
set_option maxHeartbeats 4000000

theorem curve_known : curveV [(100, 1), (300, 2)] 4 = .tup [iSl [300, 300, 100, 0], .int .i64 0] := by
  have h : sortedE [(100, 1), (300, 2)] = [300, 300, 100] := by
    refine desc_eq (sortedE_spec _).1 (by simp [desc]) ((sortedE_spec _).2.trans ?_)
    have : E [(100, 1), (300, 2)] = [100] ++ [300, 300] := rfl
    rw [this]
    exact List.perm_append_comm (l₁ := [100]) (l₂ := [300, 300])
  have h2 : curveF [(100, 1), (300, 2)] 4 = ([300, 300, 100, 0], 0) := by
    rw [curveF, if_neg (by decide), if_neg (by decide), h]
    rfl
  rw [curveV, h2]

theorem knows_A (S : Store) : CallA Try.prog 8 [] S fun r S' => r = .bool true ∧ S' = S := by
  refine CallA.keep Try.func8 c8 (Nat.le_of_ble_eq_true rfl) fun σ hσ => ?_
  simp only [a8, ↓evPre, ↓evPreW, evPost, evPostW, ← List.map_take, ← List.map_drop, ↓reduceIte, reduceCtorEq, Nat.reduceEqDiff, forall_const, implies_true, Nat.reduceAdd, Nat.reduceSub, Nat.reduceMul, Nat.reduceLT, Nat.reduceLeDiff, Int.reduceToNat, Int.reduceAdd, Int.reduceSub, Int.reduceNeg, Int.reduceMul, Int.reduceLT, Int.reduceLE, Int.reduceEq]
  refine (curve_A [(100, 1), (300, 2)] 4 S (by decide)).then ?_
  rw [curve_known]
  simp only [iSl, ↓evPre, ↓evPreW, evPost, evPostW, ← List.map_take, ← List.map_drop, ↓reduceIte, reduceCtorEq, Nat.reduceEqDiff, forall_const, implies_true, Nat.reduceAdd, Nat.reduceSub, Nat.reduceMul, Nat.reduceLT, Nat.reduceLeDiff, Int.reduceToNat, Int.reduceAdd, Int.reduceSub, Int.reduceNeg, Int.reduceMul, Int.reduceLT, Int.reduceLE, Int.reduceEq]
  refine (same_A [300, 300, 100, 0] [300, 300, 100, 0] S (by decide)).then ?_
  simp only [iSl, decide_true, ↓evPre, ↓evPreW, evPost, evPostW, ← List.map_take, ← List.map_drop, ↓reduceIte, reduceCtorEq, Nat.reduceEqDiff, forall_const, implies_true, Nat.reduceAdd, Nat.reduceSub, Nat.reduceMul, Nat.reduceLT, Nat.reduceLeDiff, Int.reduceToNat, Int.reduceAdd, Int.reduceSub, Int.reduceNeg, Int.reduceMul, Int.reduceLT, Int.reduceLE, Int.reduceEq]
  refine (right_A [3, 3, 0] S (by decide)).then ?_
  simp only [show rightF [3, 3, 0] = true by decide, ↓evPre, ↓evPreW, evPost, evPostW, ← List.map_take, ← List.map_drop, ↓reduceIte, reduceCtorEq, Nat.reduceEqDiff, forall_const, implies_true, Nat.reduceAdd, Nat.reduceSub, Nat.reduceMul, Nat.reduceLT, Nat.reduceLeDiff, Int.reduceToNat, Int.reduceAdd, Int.reduceSub, Int.reduceNeg, Int.reduceMul, Int.reduceLT, Int.reduceLE, Int.reduceEq]
  refine (right_A [1, 2] S (by decide)).then ?_
  simp only [show rightF [1, 2] = false by decide, ↓evPre, ↓evPreW, evPost, evPostW, ← List.map_take, ← List.map_drop, ↓reduceIte, reduceCtorEq, Nat.reduceEqDiff, forall_const, implies_true, Nat.reduceAdd, Nat.reduceSub, Nat.reduceMul, Nat.reduceLT, Nat.reduceLeDiff, Int.reduceToNat, Int.reduceAdd, Int.reduceSub, Int.reduceNeg, Int.reduceMul, Int.reduceLT, Int.reduceLE, Int.reduceEq]
  refine (price_A [200, 100] 1 S (by decide)).then ?_
  simp only [show priceF [200, 100] 1 = 200 by decide, ↓evPre, ↓evPreW, evPost, evPostW, ← List.map_take, ← List.map_drop, ↓reduceIte, reduceCtorEq, Nat.reduceEqDiff, forall_const, implies_true, Nat.reduceAdd, Nat.reduceSub, Nat.reduceMul, Nat.reduceLT, Nat.reduceLeDiff, Int.reduceToNat, Int.reduceAdd, Int.reduceSub, Int.reduceNeg, Int.reduceMul, Int.reduceLT, Int.reduceLE, Int.reduceEq]
  refine (price_A [200, 100] 3 S (by decide)).then ?_
  simp only [show priceF [200, 100] 3 = 0 by decide, ↓evPre, ↓evPreW, evPost, evPostW, ← List.map_take, ← List.map_drop, ↓reduceIte, reduceCtorEq, Nat.reduceEqDiff, forall_const, implies_true, Nat.reduceAdd, Nat.reduceSub, Nat.reduceMul, Nat.reduceLT, Nat.reduceLeDiff, Int.reduceToNat, Int.reduceAdd, Int.reduceSub, Int.reduceNeg, Int.reduceMul, Int.reduceLT, Int.reduceLE, Int.reduceEq]
  refine (price_A [200, 100] 0 S (by decide)).then ?_
  simp only [show priceF [200, 100] 0 = -1 by decide, ↓evPre, ↓evPreW, evPost, evPostW, ← List.map_take, ← List.map_drop, ↓reduceIte, reduceCtorEq, Nat.reduceEqDiff, forall_const, implies_true, Nat.reduceAdd, Nat.reduceSub, Nat.reduceMul, Nat.reduceLT, Nat.reduceLeDiff, Int.reduceToNat, Int.reduceAdd, Int.reduceSub, Int.reduceNeg, Int.reduceMul, Int.reduceLT, Int.reduceLE, Int.reduceEq]
  refine (worth_A [200, 100] 5 S (by decide) (by decide)).then ?_
  simp only [show worthF [200, 100] 5 = 300 by decide, ↓evPre, ↓evPreW, evPost, evPostW, ← List.map_take, ← List.map_drop, ↓reduceIte, reduceCtorEq, Nat.reduceEqDiff, forall_const, implies_true, Nat.reduceAdd, Nat.reduceSub, Nat.reduceMul, Nat.reduceLT, Nat.reduceLeDiff, Int.reduceToNat, Int.reduceAdd, Int.reduceSub, Int.reduceNeg, Int.reduceMul, Int.reduceLT, Int.reduceLE, Int.reduceEq]
  refine (seats_A [[300, 100, 50], [200, 100]] [3, 2] 250 5 S (by decide) (by decide) (by decide)).then ?_
  simp only [show seatsF [[300, 100, 50], [200, 100]] [3, 2] 250 5 = 1 by decide, ↓evPre, ↓evPreW, evPost, evPostW, ← List.map_take, ← List.map_drop, ↓reduceIte, reduceCtorEq, Nat.reduceEqDiff, forall_const, implies_true, Nat.reduceAdd, Nat.reduceSub, Nat.reduceMul, Nat.reduceLT, Nat.reduceLeDiff, Int.reduceToNat, Int.reduceAdd, Int.reduceSub, Int.reduceNeg, Int.reduceMul, Int.reduceLT, Int.reduceLE, Int.reduceEq]

theorem tells_A (l : List Int) (left : Int) (S : Store) (hl : l.length ≤ 1048576) : CallA Try.prog 4 [iSl l, .int .i64 left] S fun r S' => r = .bool true ∧ S' = S := by
  refine CallA.keep Try.func4 c4 (Nat.le_of_ble_eq_true rfl) fun σ hσ => ?_
  simp only [a4, iSl, ↓evPre, ↓evPreW, evPost, evPostW, ← List.map_take, ← List.map_drop, ↓reduceIte, reduceCtorEq, Nat.reduceEqDiff, forall_const, implies_true, Nat.reduceAdd, Nat.reduceSub, Nat.reduceMul, Nat.reduceLT, Nat.reduceLeDiff, Int.reduceToNat, Int.reduceAdd, Int.reduceSub, Int.reduceNeg, Int.reduceMul, Int.reduceLT, Int.reduceLE, Int.reduceEq]
  refine ⟨fun h => ?_, fun h => ?_⟩
  · refine (knows_A S).then ?_
    simp only [↓evPre, ↓evPreW, evPost, evPostW, ← List.map_take, ← List.map_drop, ↓reduceIte, reduceCtorEq, Nat.reduceEqDiff, forall_const, implies_true, Nat.reduceAdd, Nat.reduceSub, Nat.reduceMul, Nat.reduceLT, Nat.reduceLeDiff, Int.reduceToNat, Int.reduceAdd, Int.reduceSub, Int.reduceNeg, Int.reduceMul, Int.reduceLT, Int.reduceLE, Int.reduceEq]
  · refine (right_A l S (by omega)).then ?_
    simp only [iSl, ↓evPre, ↓evPreW, evPost, evPostW, ← List.map_take, ← List.map_drop, ↓reduceIte, reduceCtorEq, Nat.reduceEqDiff, forall_const, implies_true, Nat.reduceAdd, Nat.reduceSub, Nat.reduceMul, Nat.reduceLT, Nat.reduceLeDiff, Int.reduceToNat, Int.reduceAdd, Int.reduceSub, Int.reduceNeg, Int.reduceMul, Int.reduceLT, Int.reduceLE, Int.reduceEq]
    refine (refright_A l S (by omega)).then ?_
    simp only [iSl, beq_self_eq_true, ↓evPre, ↓evPreW, evPost, evPostW, ← List.map_take, ← List.map_drop, ↓reduceIte, reduceCtorEq, Nat.reduceEqDiff, forall_const, implies_true, Nat.reduceAdd, Nat.reduceSub, Nat.reduceMul, Nat.reduceLT, Nat.reduceLeDiff, Int.reduceToNat, Int.reduceAdd, Int.reduceSub, Int.reduceNeg, Int.reduceMul, Int.reduceLT, Int.reduceLE, Int.reduceEq]
    refine (price_A l left S (by omega)).then ?_
    simp only [iSl, ↓evPre, ↓evPreW, evPost, evPostW, ← List.map_take, ← List.map_drop, ↓reduceIte, reduceCtorEq, Nat.reduceEqDiff, forall_const, implies_true, Nat.reduceAdd, Nat.reduceSub, Nat.reduceMul, Nat.reduceLT, Nat.reduceLeDiff, Int.reduceToNat, Int.reduceAdd, Int.reduceSub, Int.reduceNeg, Int.reduceMul, Int.reduceLT, Int.reduceLE, Int.reduceEq]
    refine (refprice_A l left S (by omega)).then ?_
    simp only [iSl, decide_true, ↓evPre, ↓evPreW, evPost, evPostW, ← List.map_take, ← List.map_drop, ↓reduceIte, reduceCtorEq, Nat.reduceEqDiff, forall_const, implies_true, Nat.reduceAdd, Nat.reduceSub, Nat.reduceMul, Nat.reduceLT, Nat.reduceLeDiff, Int.reduceToNat, Int.reduceAdd, Int.reduceSub, Int.reduceNeg, Int.reduceMul, Int.reduceLT, Int.reduceLE, Int.reduceEq]
    cases hr : rightF l
    · simp only [↓evPre, ↓evPreW, evPost, evPostW, ← List.map_take, ← List.map_drop, ↓reduceIte, reduceCtorEq, Nat.reduceEqDiff, forall_const, implies_true, Nat.reduceAdd, Nat.reduceSub, Nat.reduceMul, Nat.reduceLT, Nat.reduceLeDiff, Int.reduceToNat, Int.reduceAdd, Int.reduceSub, Int.reduceNeg, Int.reduceMul, Int.reduceLT, Int.reduceLE, Int.reduceEq]
      refine (knows_A S).then ?_
      simp only [↓evPre, ↓evPreW, evPost, evPostW, ← List.map_take, ← List.map_drop, ↓reduceIte, reduceCtorEq, Nat.reduceEqDiff, forall_const, implies_true, Nat.reduceAdd, Nat.reduceSub, Nat.reduceMul, Nat.reduceLT, Nat.reduceLeDiff, Int.reduceToNat, Int.reduceAdd, Int.reduceSub, Int.reduceNeg, Int.reduceMul, Int.reduceLT, Int.reduceLE, Int.reduceEq]
    · simp only [↓evPre, ↓evPreW, evPost, evPostW, ← List.map_take, ← List.map_drop, ↓reduceIte, reduceCtorEq, Nat.reduceEqDiff, forall_const, implies_true, Nat.reduceAdd, Nat.reduceSub, Nat.reduceMul, Nat.reduceLT, Nat.reduceLeDiff, Int.reduceToNat, Int.reduceAdd, Int.reduceSub, Int.reduceNeg, Int.reduceMul, Int.reduceLT, Int.reduceLE, Int.reduceEq]
      refine (worth_A l left S hl (right_bound hr).2).then ?_
      simp only [iSl, ↓evPre, ↓evPreW, evPost, evPostW, ← List.map_take, ← List.map_drop, ↓reduceIte, reduceCtorEq, Nat.reduceEqDiff, forall_const, implies_true, Nat.reduceAdd, Nat.reduceSub, Nat.reduceMul, Nat.reduceLT, Nat.reduceLeDiff, Int.reduceToNat, Int.reduceAdd, Int.reduceSub, Int.reduceNeg, Int.reduceMul, Int.reduceLT, Int.reduceLE, Int.reduceEq]
      refine (refworth_A l left S hl (right_bound hr).2).then ?_
      simp only [iSl, decide_true, ↓evPre, ↓evPreW, evPost, evPostW, ← List.map_take, ← List.map_drop, ↓reduceIte, reduceCtorEq, Nat.reduceEqDiff, forall_const, implies_true, Nat.reduceAdd, Nat.reduceSub, Nat.reduceMul, Nat.reduceLT, Nat.reduceLeDiff, Int.reduceToNat, Int.reduceAdd, Int.reduceSub, Int.reduceNeg, Int.reduceMul, Int.reduceLT, Int.reduceLE, Int.reduceEq]
      refine (knows_A S).then ?_
      simp only [↓evPre, ↓evPreW, evPost, evPostW, ← List.map_take, ← List.map_drop, ↓reduceIte, reduceCtorEq, Nat.reduceEqDiff, forall_const, implies_true, Nat.reduceAdd, Nat.reduceSub, Nat.reduceMul, Nat.reduceLT, Nat.reduceLeDiff, Int.reduceToNat, Int.reduceAdd, Int.reduceSub, Int.reduceNeg, Int.reduceMul, Int.reduceLT, Int.reduceLE, Int.reduceEq]
end Go.Proofs.Ytoidchljifelgaa
