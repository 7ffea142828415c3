/- A mirror's methods: Get, Changes, Event. -/
import Derived.Test.YtdkcicbpcagonaaMir5
namespace Go.Proofs.Ytdkcicbpcagonaa
open Go Go.AL
set_option linter.unusedSimpArgs false
set_option linter.unusedVariables false

section
variable (A B : Store) (M : Mi) (Q : List (Nat × Int × Int)) (C : List (Nat × List St))

theorem Changes_A : CallA Try.prog 16 [.ptr (A.length + 3) 0 0 0] (mst A B M Q C) fun r S' => r = .int .i64 (M.N : Nat) ∧ S' = mst A B M Q C := by
  refine CallA.keep Try.func16 c16 (Nat.le_of_ble_eq_true rfl) fun σ hσ => ?_
  simp (disch := first | omega | (simp only [List.length_cons, List.length_nil, List.length_map, List.length_drop]; omega)) only [a16, evSt, ↓evPre, ↓evPreW, evPost, evPostW, ← List.map_take, ← List.map_drop, ↓reduceIte, reduceCtorEq, Nat.reduceEqDiff, forall_const, implies_true, Nat.reduceAdd, Nat.reduceSub, Nat.reduceMul, Nat.reduceLT, Nat.reduceLeDiff, Int.reduceToNat, Int.reduceAdd, Int.reduceSub, Int.reduceNeg, Int.reduceMul, Int.reduceLT, Int.reduceLE, Int.reduceEq]
  refine (made_A A B M Q C).then ?_
  simp (disch := first | omega | (simp only [List.length_cons, List.length_nil, List.length_map, List.length_drop]; omega)) only [mst, evM, evSt, ↓evPre, ↓evPreW, evPost, evPostW, ← List.map_take, ← List.map_drop, ↓reduceIte, reduceCtorEq, Nat.reduceEqDiff, forall_const, implies_true, Nat.reduceAdd, Nat.reduceSub, Nat.reduceMul, Nat.reduceLT, Nat.reduceLeDiff, Int.reduceToNat, Int.reduceAdd, Int.reduceSub, Int.reduceNeg, Int.reduceMul, Int.reduceLT, Int.reduceLE, Int.reduceEq]

theorem Get_A (t c : Int) : CallA Try.prog 14 [.ptr (A.length + 3) 0 0 0, .int .i64 t, .int .i64 c] (mst A B M Q C) fun r S' => r = .tup [stV (getF M t c).1, .bool (getF M t c).2] ∧ S' = mst A B M Q C := by
  refine CallA.withNeat Try.func14 c14 fun hn => ?_
  refine CallA.fin Try.func14 c14 (Nat.le_of_ble_eq_true rfl) fun σ hσ => ?_
  have hf : findV (.agg [.int .i64 t, .int .i64 c]) (M.R.map entM) = (findR M.R ⟨t, c, 0, 0⟩).map fun r => (entM r).2 := find_entM ⟨t, c, 0, 0⟩ M.R
  simp (disch := first | omega | (simp only [List.length_cons, List.length_nil, List.length_map, List.length_drop]; omega)) only [a14, mst, evM, evSt, ↓evPre, ↓evPreW, evPost, evPostW, ← List.map_take, ← List.map_drop, ↓reduceIte, reduceCtorEq, Nat.reduceEqDiff, forall_const, implies_true, Nat.reduceAdd, Nat.reduceSub, Nat.reduceMul, Nat.reduceLT, Nat.reduceLeDiff, Int.reduceToNat, Int.reduceAdd, Int.reduceSub, Int.reduceNeg, Int.reduceMul, Int.reduceLT, Int.reduceLE, Int.reduceEq]
  refine (made_AL A B _ M Q C).then ?_
  cases hg : findR M.R ⟨t, c, 0, 0⟩ with
  | none =>
    rw [hg] at hf
    have hp : getF M t c = (⟨0, 0, 0, 0⟩, false) := by rw [getF, hg]
    simp (disch := first | omega | (simp only [List.length_cons, List.length_nil, List.length_map, List.length_drop]; omega)) only [hf, Option.map_none, Option.getD_none, Option.isSome_none, mst, evM, evSt, ↓evPre, ↓evPreW, evPost, evPostW, ← List.map_take, ← List.map_drop, ↓reduceIte, reduceCtorEq, Nat.reduceEqDiff, forall_const, implies_true, Nat.reduceAdd, Nat.reduceSub, Nat.reduceMul, Nat.reduceLT, Nat.reduceLeDiff, Int.reduceToNat, Int.reduceAdd, Int.reduceSub, Int.reduceNeg, Int.reduceMul, Int.reduceLT, Int.reduceLE, Int.reduceEq]
    exact mst_fin hn (.imm rfl) ⟨by rw [hp]; rfl, rfl⟩
  | some r =>
    rw [hg] at hf
    have hp : getF M t c = (r.1, true) := by rw [getF, hg]
    simp (disch := first | omega | (simp only [List.length_cons, List.length_nil, List.length_map, List.length_drop]; omega)) only [hf, entM, Option.map_some, Option.getD_some, Option.isSome_some, mst, evM, evSt, ↓evPre, ↓evPreW, evPost, evPostW, ← List.map_take, ← List.map_drop, ↓reduceIte, reduceCtorEq, Nat.reduceEqDiff, forall_const, implies_true, Nat.reduceAdd, Nat.reduceSub, Nat.reduceMul, Nat.reduceLT, Nat.reduceLeDiff, Int.reduceToNat, Int.reduceAdd, Int.reduceSub, Int.reduceNeg, Int.reduceMul, Int.reduceLT, Int.reduceLE, Int.reduceEq]
    exact mst_fin hn (.imm rfl) ⟨by rw [hp]; rfl, rfl⟩

set_option maxRecDepth 100000 in
theorem Event_A (h : MOk M Q C) (hN : M.N ≤ 1000000) (hv : ∀ r ∈ M.R, i64r r.1.v) (t c e : Int) : CallA Try.prog 24 [.ptr (A.length + 3) 0 0 0, .int .i64 t, .int .i64 c, .int .i64 e] (mst A B M Q C) fun r S' => r = .tup [stV (evF M t c e).1.1, .int .i64 (evF M t c e).1.2] ∧ Leaves A B (evF M t c e).2 S' := by
  refine CallA.withNeat Try.func24 c24 fun hn => ?_
  refine CallA.fin Try.func24 c24 (Nat.le_of_ble_eq_true rfl) fun σ hσ => ?_
  have hf : findV (.agg [.int .i64 t, .int .i64 c]) (M.R.map entM) = (findR M.R ⟨t, c, 0, 0⟩).map fun r => (entM r).2 := find_entM ⟨t, c, 0, 0⟩ M.R
  have same : ∀ (T : Store) (x : St) (n : Int), evF M t c e = ((x, n), M) → ∃ r1 S1, Fgt (mst A B M Q C ++ T) S1 ∧ Frz (mst A B M Q C ++ T) S1 (.tup [stV x, .int .i64 n]) r1 ∧ mxN A B ≤ S1.length ∧ r1 = .tup [stV (evF M t c e).1.1, .int .i64 (evF M t c e).1.2] ∧ Leaves A B (evF M t c e).2 S1 := fun T x n hp =>
    mst_fin hn (.imm rfl) ⟨by rw [hp], by rw [hp]; exact ⟨Q, C, h, rfl⟩⟩
  have fin : ∀ (T : Store) (x : St), evF M t c e = ((x, 0), recM M x) → ∃ r1 S1, Fgt (mst A B (recM M x) (recQ M x Q) [] ++ T) S1 ∧ Frz (mst A B (recM M x) (recQ M x Q) [] ++ T) S1 (.tup [stV x, .int .i64 0]) r1 ∧ mxN A B ≤ S1.length ∧ r1 = .tup [stV (evF M t c e).1.1, .int .i64 (evF M t c e).1.2] ∧ Leaves A B (evF M t c e).2 S1 := fun T x hp =>
    mst_fin (mst_neat hn) (.imm rfl) ⟨by rw [hp], by rw [hp]; exact ⟨_, _, h.step x, rfl⟩⟩
  simp (disch := first | omega | (simp only [List.length_cons, List.length_nil, List.length_map, List.length_drop]; omega)) only [a24, mst, evM, evSt, ↓evPre, ↓evPreW, evPost, evPostW, ← List.map_take, ← List.map_drop, ↓reduceIte, reduceCtorEq, Nat.reduceEqDiff, forall_const, implies_true, Nat.reduceAdd, Nat.reduceSub, Nat.reduceMul, Nat.reduceLT, Nat.reduceLeDiff, Int.reduceToNat, Int.reduceAdd, Int.reduceSub, Int.reduceNeg, Int.reduceMul, Int.reduceLT, Int.reduceLE, Int.reduceEq]
  refine (made_AL A B _ M Q C).then ?_
  cases hg : findR M.R ⟨t, c, 0, 0⟩ with
  | none =>
    rw [hg] at hf
    simp (disch := first | omega | (simp only [List.length_cons, List.length_nil, List.length_map, List.length_drop]; omega)) only [hf, Option.map_none, Option.getD_none, Option.isSome_none, mst, evM, evSt, ↓evPre, ↓evPreW, evPost, evPostW, ← List.map_take, ← List.map_drop, ↓reduceIte, reduceCtorEq, Nat.reduceEqDiff, forall_const, implies_true, Nat.reduceAdd, Nat.reduceSub, Nat.reduceMul, Nat.reduceLT, Nat.reduceLeDiff, Int.reduceToNat, Int.reduceAdd, Int.reduceSub, Int.reduceNeg, Int.reduceMul, Int.reduceLT, Int.reduceLE, Int.reduceEq]
    exact same _ ⟨0, 0, 0, 0⟩ 7 (by rw [evF, hg])
  | some r =>
    rw [hg] at hf
    have hrv := hv r (List.mem_of_find?_eq_some hg)
    unfold i64r at hrv
    simp (disch := first | omega | (simp only [List.length_cons, List.length_nil, List.length_map, List.length_drop]; omega)) only [hf, entM, Option.map_some, Option.getD_some, Option.isSome_some, mst, evM, evSt, ↓evPre, ↓evPreW, evPost, evPostW, ← List.map_take, ← List.map_drop, ↓reduceIte, reduceCtorEq, Nat.reduceEqDiff, forall_const, implies_true, Nat.reduceAdd, Nat.reduceSub, Nat.reduceMul, Nat.reduceLT, Nat.reduceLeDiff, Int.reduceToNat, Int.reduceAdd, Int.reduceSub, Int.reduceNeg, Int.reduceMul, Int.reduceLT, Int.reduceLE, Int.reduceEq]
    refine (Next_A _ _ _).then ?_
    by_cases h1 : (nextF r.1.s e).2 = 0
    · by_cases h2 : r.1.v = 9223372036854775807
      · simp (disch := first | omega | (simp only [List.length_cons, List.length_nil, List.length_map, List.length_drop]; omega)) only [dT h1, dT h2, mst, evM, evSt, ↓evPre, ↓evPreW, evPost, evPostW, ← List.map_take, ← List.map_drop, ↓reduceIte, reduceCtorEq, Nat.reduceEqDiff, forall_const, implies_true, Nat.reduceAdd, Nat.reduceSub, Nat.reduceMul, Nat.reduceLT, Nat.reduceLeDiff, Int.reduceToNat, Int.reduceAdd, Int.reduceSub, Int.reduceNeg, Int.reduceMul, Int.reduceLT, Int.reduceLE, Int.reduceEq]
        exact same _ ⟨0, 0, 0, 0⟩ 2 (by rw [evF, hg]; simp only [h1, h2, ne_eq, not_true_eq_false, if_false, if_true])
      · have hp : evF M t c e = ((⟨r.1.t, r.1.c, r.1.v + 1, (nextF r.1.s e).1⟩, 0), recM M ⟨r.1.t, r.1.c, r.1.v + 1, (nextF r.1.s e).1⟩) := by rw [evF, hg]; simp only [h1, h2, ne_eq, not_true_eq_false, if_false]
        simp (disch := first | omega | (simp only [List.length_cons, List.length_nil, List.length_map, List.length_drop]; omega)) only [dT h1, dF h2, wrap_i64, mst, evM, evSt, ↓evPre, ↓evPreW, evPost, evPostW, ← List.map_take, ← List.map_drop, ↓reduceIte, reduceCtorEq, Nat.reduceEqDiff, forall_const, implies_true, Nat.reduceAdd, Nat.reduceSub, Nat.reduceMul, Nat.reduceLT, Nat.reduceLeDiff, Int.reduceToNat, Int.reduceAdd, Int.reduceSub, Int.reduceNeg, Int.reduceMul, Int.reduceLT, Int.reduceLE, Int.reduceEq]
        refine (set_AL A B _ M Q C ⟨r.1.t, r.1.c, r.1.v + 1, (nextF r.1.s e).1⟩ hN).then2 ?_
        simp (disch := first | omega | (simp only [List.length_cons, List.length_nil, List.length_map, List.length_drop]; omega)) only [mst, evM, evSt, ↓evPre, ↓evPreW, evPost, evPostW, ← List.map_take, ← List.map_drop, ↓reduceIte, reduceCtorEq, Nat.reduceEqDiff, forall_const, implies_true, Nat.reduceAdd, Nat.reduceSub, Nat.reduceMul, Nat.reduceLT, Nat.reduceLeDiff, Int.reduceToNat, Int.reduceAdd, Int.reduceSub, Int.reduceNeg, Int.reduceMul, Int.reduceLT, Int.reduceLE, Int.reduceEq]
        exact fin _ _ hp
    · simp (disch := first | omega | (simp only [List.length_cons, List.length_nil, List.length_map, List.length_drop]; omega)) only [dF h1, mst, evM, evSt, ↓evPre, ↓evPreW, evPost, evPostW, ← List.map_take, ← List.map_drop, ↓reduceIte, reduceCtorEq, Nat.reduceEqDiff, forall_const, implies_true, Nat.reduceAdd, Nat.reduceSub, Nat.reduceMul, Nat.reduceLT, Nat.reduceLeDiff, Int.reduceToNat, Int.reduceAdd, Int.reduceSub, Int.reduceNeg, Int.reduceMul, Int.reduceLT, Int.reduceLE, Int.reduceEq]
      exact same _ ⟨0, 0, 0, 0⟩ _ (by rw [evF, hg]; simp only [h1, ne_eq, not_false_eq_true, if_true])
end
end Go.Proofs.Ytdkcicbpcagonaa
