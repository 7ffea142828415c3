/- A mirror's methods: Get. -/
import Derived.Test.YtdkcicbpcagonabMir5
namespace Go.Proofs.Ytdkcicbpcagonab
open Go Go.AL
set_option linter.unusedSimpArgs false
set_option linter.unusedVariables false

section
variable (A B : Store) (M : Mi) (Q : List (Nat × Int × Int)) (C : List (Nat × List St))

theorem Get_A (t c : Int) : CallA Try.prog 16 [.ptr (A.length + 3) 0 0 0, .int .i64 t, .int .i64 c] (mst A B M Q C) fun r S' => r = .tup [stV (getF M t c).1, .bool (getF M t c).2] ∧ S' = mst A B M Q C := by
  refine CallA.withNeat Try.func16 c14 fun hn => ?_
  refine CallA.fin Try.func16 c14 (Nat.le_of_ble_eq_true rfl) fun σ hσ => ?_
  have hf : findV (.agg [.int .i64 t, .int .i64 c]) (M.R.map entM) = (findR M.R ⟨t, c, 0, 0⟩).map fun r => (entM r).2 := find_entM ⟨t, c, 0, 0⟩ M.R
  simp (disch := first | omega | (simp only [List.length_cons, List.length_nil, List.length_map, List.length_drop]; omega)) only [a14, mst, evM, evSt, ↓evPre, ↓evPreW, evPost, evPostW, ← List.map_take, ← List.map_drop, ↓reduceIte, reduceCtorEq, Nat.reduceEqDiff, forall_const, implies_true, Nat.reduceAdd, Nat.reduceSub, Nat.reduceMul, Nat.reduceLT, Nat.reduceLeDiff, Int.reduceToNat, Int.reduceAdd, Int.reduceSub, Int.reduceNeg, Int.reduceMul, Int.reduceLT, Int.reduceLE, Int.reduceEq]
  refine (made_AL A B _ M Q C).then ?_
  cases hg : findR M.R ⟨t, c, 0, 0⟩ with
  | none =>
    rw [hg] at hf
    have hp : getF M t c = (⟨0, 0, 0, 0⟩, false) := by rw [getF, hg]
    simp (disch := first | omega | (simp only [List.length_cons, List.length_nil, List.length_map, List.length_drop]; omega)) only [hf, Option.map_none, Option.getD_none, Option.isSome_none, mst, evM, evSt, ↓evPre, ↓evPreW, evPost, evPostW, ← List.map_take, ← List.map_drop, ↓reduceIte, reduceCtorEq, Nat.reduceEqDiff, forall_const, implies_true, Nat.reduceAdd, Nat.reduceSub, Nat.reduceMul, Nat.reduceLT, Nat.reduceLeDiff, Int.reduceToNat, Int.reduceAdd, Int.reduceSub, Int.reduceNeg, Int.reduceMul, Int.reduceLT, Int.reduceLE, Int.reduceEq]
    exact mst_fin hn (.imm rfl) ⟨by rw [hp]; rfl, rfl⟩
  | some r =>
    rw [hg] at hf
    have hp : getF M t c = (r.1, true) := by rw [getF, hg]
    simp (disch := first | omega | (simp only [List.length_cons, List.length_nil, List.length_map, List.length_drop]; omega)) only [hf, entM, Option.map_some, Option.getD_some, Option.isSome_some, mst, evM, evSt, ↓evPre, ↓evPreW, evPost, evPostW, ← List.map_take, ← List.map_drop, ↓reduceIte, reduceCtorEq, Nat.reduceEqDiff, forall_const, implies_true, Nat.reduceAdd, Nat.reduceSub, Nat.reduceMul, Nat.reduceLT, Nat.reduceLeDiff, Int.reduceToNat, Int.reduceAdd, Int.reduceSub, Int.reduceNeg, Int.reduceMul, Int.reduceLT, Int.reduceLE, Int.reduceEq]
    exact mst_fin hn (.imm rfl) ⟨by rw [hp]; rfl, rfl⟩
end
end Go.Proofs.Ytdkcicbpcagonab
