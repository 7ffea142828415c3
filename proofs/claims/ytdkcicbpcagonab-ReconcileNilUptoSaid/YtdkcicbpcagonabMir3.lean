/- A mirror's methods: made, set, Put, Get, Changes. -/
import Derived.Test.YtdkcicbpcagonabMir2
import Derived.Test.YtdkcicbpcagonabMirC
namespace Go.Proofs.Ytdkcicbpcagonab
open Go Go.AL
set_option linter.unusedSimpArgs false
set_option linter.unusedVariables false

theorem New_A (S : Store) : CallA Try.prog 20 [] S fun r S' => r = .ptr (S.length + 3) 0 0 0 ∧ S' = mst S [] Mi0 [] [] := by
  refine CallA.keep Try.func20 c10 (Nat.le_of_ble_eq_true rfl) fun σ hσ => ?_
  simp (disch := first | omega | (simp only [List.length_cons, List.length_nil, List.length_map, List.length_drop]; omega)) only [a10, cells_mapv, ok_mapv, evSt, ↓evPre, ↓evPreW, evPost, evPostW, ← List.map_take, ← List.map_drop, ↓reduceIte, reduceCtorEq, Nat.reduceEqDiff, forall_const, implies_true, Nat.reduceAdd, Nat.reduceSub, Nat.reduceMul, Nat.reduceLT, Nat.reduceLeDiff, Int.reduceToNat, Int.reduceAdd, Int.reduceSub, Int.reduceNeg, Int.reduceMul, Int.reduceLT, Int.reduceLE, Int.reduceEq]
  rfl

theorem made_A (A B : Store) (M : Mi) (Q : List (Nat × Int × Int)) (C : List (Nat × List St)) : CallA Try.prog 26 [.ptr (A.length + 3) 0 0 0] (mst A B M Q C) fun r S' => r = .bool true ∧ S' = mst A B M Q C := by
  unfold mst
  refine CallA.keep Try.func26 c34 (Nat.le_of_ble_eq_true rfl) fun σ hσ => ?_
  simp (disch := first | omega | (simp only [List.length_cons, List.length_nil, List.length_map, List.length_drop]; omega)) only [a34, evM, evSt, ↓evPre, ↓evPreW, evPost, evPostW, ← List.map_take, ← List.map_drop, ↓reduceIte, reduceCtorEq, Nat.reduceEqDiff, forall_const, implies_true, Nat.reduceAdd, Nat.reduceSub, Nat.reduceMul, Nat.reduceLT, Nat.reduceLeDiff, Int.reduceToNat, Int.reduceAdd, Int.reduceSub, Int.reduceNeg, Int.reduceMul, Int.reduceLT, Int.reduceLE, Int.reduceEq]
theorem made_nil (S : Store) : CallA Try.prog 26 [.nilPtr] S fun r S' => r = .bool false ∧ S' = S := by
  refine CallA.keep Try.func26 c34 (Nat.le_of_ble_eq_true rfl) fun σ hσ => ?_
  simp (disch := first | omega | (simp only [List.length_cons, List.length_nil, List.length_map, List.length_drop]; omega)) only [a34, evSt, ↓evPre, ↓evPreW, evPost, evPostW, ← List.map_take, ← List.map_drop, ↓reduceIte, reduceCtorEq, Nat.reduceEqDiff, forall_const, implies_true, Nat.reduceAdd, Nat.reduceSub, Nat.reduceMul, Nat.reduceLT, Nat.reduceLeDiff, Int.reduceToNat, Int.reduceAdd, Int.reduceSub, Int.reduceNeg, Int.reduceMul, Int.reduceLT, Int.reduceLE, Int.reduceEq]
theorem made_zero (S : Store) (id : Nat) (h : S.obj? id 0 = some (39, 4, [[.nilMap, .nilMap, .nilMap, .int .i64 0]])) : CallA Try.prog 26 [.ptr id 0 0 0] S fun r S' => r = .bool false ∧ S' = S := by
  refine CallA.keep Try.func26 c34 (Nat.le_of_ble_eq_true rfl) fun σ hσ => ?_
  simp (disch := first | omega | (simp only [List.length_cons, List.length_nil, List.length_map, List.length_drop]; omega)) only [a34, h, evSt, ↓evPre, ↓evPreW, evPost, evPostW, ← List.map_take, ← List.map_drop, ↓reduceIte, reduceCtorEq, Nat.reduceEqDiff, forall_const, implies_true, Nat.reduceAdd, Nat.reduceSub, Nat.reduceMul, Nat.reduceLT, Nat.reduceLeDiff, Int.reduceToNat, Int.reduceAdd, Int.reduceSub, Int.reduceNeg, Int.reduceMul, Int.reduceLT, Int.reduceLE, Int.reduceEq]

set_option maxRecDepth 100000 in
theorem set_A (A B : Store) (M : Mi) (Q : List (Nat × Int × Int)) (C : List (Nat × List St)) (x : St) (hN : M.N ≤ 1000000) :
    CallA Try.prog 34 [.ptr (A.length + 3) 0 0 0, stV x] (mst A B M Q C) fun r S' => r = .tup [] ∧ S' = mst A B (recM M x) (recQ M x Q) [] := by
  refine CallA.withNeat Try.func34 c41 fun hn => ?_
  refine CallA.fin Try.func34 c41 (Nat.le_of_ble_eq_true rfl) fun σ hσ => ?_
  have hf := find_entM x M.R
  have hN1 : (M.N : Int) + 1 = ((M.N + 1 : Nat) : Int) := by omega
  have hp : putV (.agg [.int .i64 x.t, .int .i64 x.c]) (.agg [.int .i64 x.t, .int .i64 x.c, .int .i64 x.v, .int .i64 x.s, .int .i64 ((M.N : Int) + 1)]) (M.R.map entM) = (recM M x).R.map entM := by rw [hN1]; exact put_entM x (M.N + 1) M.R
  have hq : ∀ Q', putV (.int .i64 ((M.N : Int) + 1)) (.agg [.int .i64 x.t, .int .i64 x.c]) (Q'.map entQ) = (putQ (M.N + 1) (x.t, x.c) Q').map entQ := fun Q' => by rw [hN1]; exact put_entQ (M.N + 1) (x.t, x.c) Q'
  have fin : ∀ (T : Store) (q : List (V × V)), q = (recQ M x Q).map entQ → ∃ r1 S1, Fgt (mirX A B ((recM M x).R.map entM) .free q [] ((M.N : Int) + 1) ++ T) S1 ∧ Frz (mirX A B ((recM M x).R.map entM) .free q [] ((M.N : Int) + 1) ++ T) S1 (.tup []) r1 ∧ mxN A B ≤ S1.length ∧ r1 = .tup [] ∧ S1 = mst A B (recM M x) (recQ M x Q) [] := by
    intro T q hq
    subst hq
    rw [hN1]
    have e : mirX A B ((recM M x).R.map entM) .free ((recQ M x Q).map entQ) [] ((M.N + 1 : Nat) : Int) = mst A B (recM M x) (recQ M x Q) [] := rfl
    rw [e]
    exact ⟨_, mst A B (recM M x) (recQ M x Q) [], (mst_neat hn).fgt T, .imm rfl, by unfold mst; rw [mx_len]; exact Nat.le_refl _, rfl, rfl⟩
  unfold keyV at hf
  cases hg : findR M.R x with
  | none =>
    rw [hg] at hf
    simp (disch := first | omega | (simp only [List.length_cons, List.length_nil, List.length_map, List.length_drop]; omega)) only [a41, mst, stV, stR, wrap_i64, hf, hp, hq, Option.map_none, Option.getD_none, Option.isSome_none, evM, evSt, ↓evPre, ↓evPreW, evPost, evPostW, ← List.map_take, ← List.map_drop, ↓reduceIte, reduceCtorEq, Nat.reduceEqDiff, forall_const, implies_true, Nat.reduceAdd, Nat.reduceSub, Nat.reduceMul, Nat.reduceLT, Nat.reduceLeDiff, Int.reduceToNat, Int.reduceAdd, Int.reduceSub, Int.reduceNeg, Int.reduceMul, Int.reduceLT, Int.reduceLE, Int.reduceEq]
    exact fin _ _ (by rw [recQ, hg])
  | some r =>
    rw [hg] at hf
    have hd := del_entQ r.2 Q
    simp (disch := first | omega | (simp only [List.length_cons, List.length_nil, List.length_map, List.length_drop]; omega)) only [a41, mst, entM, stV, stR, wrap_i64, hf, hp, hq, hd, Option.map_some, Option.getD_some, Option.isSome_some, evM, evSt, ↓evPre, ↓evPreW, evPost, evPostW, ← List.map_take, ← List.map_drop, ↓reduceIte, reduceCtorEq, Nat.reduceEqDiff, forall_const, implies_true, Nat.reduceAdd, Nat.reduceSub, Nat.reduceMul, Nat.reduceLT, Nat.reduceLeDiff, Int.reduceToNat, Int.reduceAdd, Int.reduceSub, Int.reduceNeg, Int.reduceMul, Int.reduceLT, Int.reduceLE, Int.reduceEq]
    exact fin _ _ (by rw [recQ, hg])
end Go.Proofs.Ytdkcicbpcagonab
