/- Surcharges and levels. -/
import Derived.Test.YtbbjjnhcbfdhlaaMil3
namespace Go.Proofs.Ytbbjjnhcbfdhlaa
open Go Go.AL
set_option linter.unusedSimpArgs false
set_option linter.unusedVariables false

def stepP (p : Int) : Prop := p = 0 ∨ p = 5 ∨ p = 10 ∨ p = 15 ∨ p = 20 ∨ p = 25
instance (p : Int) : Decidable (stepP p) := by unfold stepP; infer_instance
def applyF (a p : Int) : Int × Int := if stepP p then percentF a ((100 + p) * 100) else (0, 2)

theorem apply_A (a p : Int) (S : Store) : CallA Try.prog 8 [.int .i64 a, .int .i64 p] S fun r S' => r = .tup [.int .i64 (applyF a p).1, .int .i64 (applyF a p).2] ∧ S' = S := by
  refine CallA.keep Try.func8 c8 (Nat.le_of_ble_eq_true rfl) fun σ hσ => ?_
  have h5 : (5 : Int) ≠ 0 := by omega
  by_cases hp : stepP p
  · have e : applyF a p = percentF a ((100 + p) * 100) := if_pos hp
    unfold stepP at hp
    have h1 : ¬ p < 0 := by omega
    have h2 : ¬ 25 < p := by omega
    have h3 : p.tmod 5 = 0 := by rw [Int.tmod_eq_emod_of_nonneg (by omega)]; omega
    have h4 : (100 + p) * 100 = ((((100 + p) * 100).toNat : Nat) : Int) := by omega
    have hn : ((100 + p) * 100).toNat ≤ 12500 := by omega
    rw [e]
    have pc := percent_A a ((100 + p) * 100).toNat S hn
    rw [← h4] at pc
    simp (disch := omega) only [a8, bi_rem h5, h1, h2, h3, wrap_i64, decide_true, decide_false, ↓evPre, ↓evPreW, evPost, evPostW, ← List.map_take, ← List.map_drop, ↓reduceIte, reduceCtorEq, Nat.reduceEqDiff, forall_const, implies_true, Nat.reduceAdd, Nat.reduceSub, Nat.reduceMul, Nat.reduceLT, Nat.reduceLeDiff, Int.reduceToNat, Int.reduceAdd, Int.reduceSub, Int.reduceNeg, Int.reduceMul, Int.reduceLT, Int.reduceLE, Int.reduceEq]
    refine pc.then ?_
    simp only [↓evPre, ↓evPreW, evPost, evPostW, ← List.map_take, ← List.map_drop, ↓reduceIte, reduceCtorEq, Nat.reduceEqDiff, forall_const, implies_true, Nat.reduceAdd, Nat.reduceSub, Nat.reduceMul, Nat.reduceLT, Nat.reduceLeDiff, Int.reduceToNat, Int.reduceAdd, Int.reduceSub, Int.reduceNeg, Int.reduceMul, Int.reduceLT, Int.reduceLE, Int.reduceEq]
  · have e : applyF a p = (0, 2) := if_neg hp
    rw [e]
    unfold stepP at hp
    have ht := tdm (a := p) (b := 5) (by omega)
    by_cases h1 : p < 0
    · simp (disch := omega) only [a8, bi_rem h5, h1, wrap_i64, decide_true, decide_false, ↓evPre, ↓evPreW, evPost, evPostW, ← List.map_take, ← List.map_drop, ↓reduceIte, reduceCtorEq, Nat.reduceEqDiff, forall_const, implies_true, Nat.reduceAdd, Nat.reduceSub, Nat.reduceMul, Nat.reduceLT, Nat.reduceLeDiff, Int.reduceToNat, Int.reduceAdd, Int.reduceSub, Int.reduceNeg, Int.reduceMul, Int.reduceLT, Int.reduceLE, Int.reduceEq]
    by_cases h2 : 25 < p
    · simp (disch := omega) only [a8, bi_rem h5, h1, h2, wrap_i64, decide_true, decide_false, ↓evPre, ↓evPreW, evPost, evPostW, ← List.map_take, ← List.map_drop, ↓reduceIte, reduceCtorEq, Nat.reduceEqDiff, forall_const, implies_true, Nat.reduceAdd, Nat.reduceSub, Nat.reduceMul, Nat.reduceLT, Nat.reduceLeDiff, Int.reduceToNat, Int.reduceAdd, Int.reduceSub, Int.reduceNeg, Int.reduceMul, Int.reduceLT, Int.reduceLE, Int.reduceEq]
    have h3 : ¬ p.tmod 5 = 0 := by rw [(ht.1 (by omega)).2]; omega
    simp (disch := omega) only [a8, bi_rem h5, h1, h2, h3, wrap_i64, decide_true, decide_false, ↓evPre, ↓evPreW, evPost, evPostW, ← List.map_take, ← List.map_drop, ↓reduceIte, reduceCtorEq, Nat.reduceEqDiff, forall_const, implies_true, Nat.reduceAdd, Nat.reduceSub, Nat.reduceMul, Nat.reduceLT, Nat.reduceLeDiff, Int.reduceToNat, Int.reduceAdd, Int.reduceSub, Int.reduceNeg, Int.reduceMul, Int.reduceLT, Int.reduceLE, Int.reduceEq]

def stepQ (p : Int) : Prop := p = 0 ∨ p = 5 ∨ p = 10 ∨ p = 15 ∨ p = 20 ∨ p = 25 ∨ p = 30

theorem refapply_A (a p : Int) (S : Store) : CallA Try.prog 9 [.int .i64 a, .int .i64 p] S fun r S' => r = .tup [.int .i64 (applyF a p).1, .int .i64 (applyF a p).2] ∧ S' = S := by
  refine CallA.keep Try.func9 c9 (Nat.le_of_ble_eq_true rfl) fun σ hσ => ?_
  simp only [a9, ↓evPre, ↓evPreW, evPost, evPostW, ← List.map_take, ← List.map_drop, ↓reduceIte, reduceCtorEq, Nat.reduceEqDiff, forall_const, implies_true, Nat.reduceAdd, Nat.reduceSub, Nat.reduceMul, Nat.reduceLT, Nat.reduceLeDiff, Int.reduceToNat, Int.reduceAdd, Int.reduceSub, Int.reduceNeg, Int.reduceMul, Int.reduceLT, Int.reduceLE, Int.reduceEq]
  refine loopA (ι := Int) (fun i => [(0, .int .i64 a), (1, .int .i64 p), (6, .int .i64 i)]) (fun _ => S) (fun i => stepQ i ∧ ∀ j, stepP j → j < i → ¬ p = j) (fun i => (30 - i).toNat) 0 ⟨.inl rfl, fun j hj h => by unfold stepP at hj; omega⟩ ?_ rfl ?_
  · simp only [↓evPre, ↓evPreW, evPost, evPostW, ← List.map_take, ← List.map_drop, ↓reduceIte, reduceCtorEq, Nat.reduceEqDiff, forall_const, implies_true, Nat.reduceAdd, Nat.reduceSub, Nat.reduceMul, Nat.reduceLT, Nat.reduceLeDiff, Int.reduceToNat, Int.reduceAdd, Int.reduceSub, Int.reduceNeg, Int.reduceMul, Int.reduceLT, Int.reduceLE, Int.reduceEq]
  · rintro i ⟨hi, hno⟩
    by_cases h25 : i ≤ 25
    · have hip : stepP i := by unfold stepP; unfold stepQ at hi; omega
      have hib : 0 ≤ i := by unfold stepP at hip; omega
      by_cases e : i = p
      · subst e
        have ef : applyF a i = percentF a ((100 + i) * 100) := if_pos hip
        have h4 : (100 + i) * 100 = ((((100 + i) * 100).toNat : Nat) : Int) := by omega
        have pc := refpercent_A a ((100 + i) * 100).toNat S (by omega) (by omega)
        rw [← h4] at pc
        rw [ef]
        simp (disch := omega) only [h25, wrap_i64, eq_self, decide_true, decide_false, ↓evPre, ↓evPreW, evPost, evPostW, ← List.map_take, ← List.map_drop, ↓reduceIte, reduceCtorEq, Nat.reduceEqDiff, forall_const, implies_true, Nat.reduceAdd, Nat.reduceSub, Nat.reduceMul, Nat.reduceLT, Nat.reduceLeDiff, Int.reduceToNat, Int.reduceAdd, Int.reduceSub, Int.reduceNeg, Int.reduceMul, Int.reduceLT, Int.reduceLE, Int.reduceEq]
        refine pc.then ?_
        simp only [↓evPre, ↓evPreW, evPost, evPostW, ← List.map_take, ← List.map_drop, ↓reduceIte, reduceCtorEq, Nat.reduceEqDiff, forall_const, implies_true, Nat.reduceAdd, Nat.reduceSub, Nat.reduceMul, Nat.reduceLT, Nat.reduceLeDiff, Int.reduceToNat, Int.reduceAdd, Int.reduceSub, Int.reduceNeg, Int.reduceMul, Int.reduceLT, Int.reduceLE, Int.reduceEq]
      · simp (disch := omega) only [h25, e, wrap_i64, eq_self, decide_true, decide_false, ↓evPre, ↓evPreW, evPost, evPostW, ← List.map_take, ← List.map_drop, ↓reduceIte, reduceCtorEq, Nat.reduceEqDiff, forall_const, implies_true, Nat.reduceAdd, Nat.reduceSub, Nat.reduceMul, Nat.reduceLT, Nat.reduceLeDiff, Int.reduceToNat, Int.reduceAdd, Int.reduceSub, Int.reduceNeg, Int.reduceMul, Int.reduceLT, Int.reduceLE, Int.reduceEq]
        refine ⟨i + 5, ⟨by unfold stepQ; unfold stepP at hip; omega, fun j hj hlt hpj => ?_⟩, by omega, rfl⟩
        by_cases hlt2 : j < i
        · exact hno j hj hlt2 hpj
        · unfold stepP at hj hip
          omega
    · have h30 : i = 30 := by unfold stepQ at hi; omega
      have ef : applyF a p = (0, 2) := if_neg fun hp => hno p hp (by unfold stepP at hp; omega) rfl
      rw [ef]
      simp (disch := omega) only [h25, wrap_i64, decide_true, decide_false, ↓evPre, ↓evPreW, evPost, evPostW, ← List.map_take, ← List.map_drop, ↓reduceIte, reduceCtorEq, Nat.reduceEqDiff, forall_const, implies_true, Nat.reduceAdd, Nat.reduceSub, Nat.reduceMul, Nat.reduceLT, Nat.reduceLeDiff, Int.reduceToNat, Int.reduceAdd, Int.reduceSub, Int.reduceNeg, Int.reduceMul, Int.reduceLT, Int.reduceLE, Int.reduceEq]

def levF (m n : Int) : Int × Int :=
  if m < 0 ∨ 1099511627776 < m ∨ n < 1 ∨ 1099511627776 < n then (0, 2)
  else if m * 100 ≤ n * 100 then (0, 0) else if m * 100 ≤ n * 105 then (5, 0) else if m * 100 ≤ n * 110 then (10, 0) else if m * 100 ≤ n * 115 then (15, 0) else if m * 100 ≤ n * 120 then (20, 0) else if m * 100 ≤ n * 125 then (25, 0) else (0, 22)

theorem level_A (m n : Int) (S : Store) : CallA Try.prog 6 [.int .i64 m, .int .i64 n] S fun r S' => r = .tup [.int .i64 (levF m n).1, .int .i64 (levF m n).2] ∧ S' = S := by
  refine CallA.keep Try.func6 c6 (Nat.le_of_ble_eq_true rfl) fun σ hσ => ?_
  by_cases h : m < 0 ∨ 1099511627776 < m ∨ n < 1 ∨ 1099511627776 < n
  · have e : levF m n = (0, 2) := if_pos h
    rw [e]
    by_cases h1 : m < 0
    · simp (disch := omega) only [a6, h1, decide_true, decide_false, ↓evPre, ↓evPreW, evPost, evPostW, ← List.map_take, ← List.map_drop, ↓reduceIte, reduceCtorEq, Nat.reduceEqDiff, forall_const, implies_true, Nat.reduceAdd, Nat.reduceSub, Nat.reduceMul, Nat.reduceLT, Nat.reduceLeDiff, Int.reduceToNat, Int.reduceAdd, Int.reduceSub, Int.reduceNeg, Int.reduceMul, Int.reduceLT, Int.reduceLE, Int.reduceEq]
    by_cases h2 : 1099511627776 < m
    · simp (disch := omega) only [a6, h1, h2, decide_true, decide_false, ↓evPre, ↓evPreW, evPost, evPostW, ← List.map_take, ← List.map_drop, ↓reduceIte, reduceCtorEq, Nat.reduceEqDiff, forall_const, implies_true, Nat.reduceAdd, Nat.reduceSub, Nat.reduceMul, Nat.reduceLT, Nat.reduceLeDiff, Int.reduceToNat, Int.reduceAdd, Int.reduceSub, Int.reduceNeg, Int.reduceMul, Int.reduceLT, Int.reduceLE, Int.reduceEq]
    by_cases h3 : n < 1
    · simp (disch := omega) only [a6, h1, h2, h3, decide_true, decide_false, ↓evPre, ↓evPreW, evPost, evPostW, ← List.map_take, ← List.map_drop, ↓reduceIte, reduceCtorEq, Nat.reduceEqDiff, forall_const, implies_true, Nat.reduceAdd, Nat.reduceSub, Nat.reduceMul, Nat.reduceLT, Nat.reduceLeDiff, Int.reduceToNat, Int.reduceAdd, Int.reduceSub, Int.reduceNeg, Int.reduceMul, Int.reduceLT, Int.reduceLE, Int.reduceEq]
    have h4 : 1099511627776 < n := by omega
    simp (disch := omega) only [a6, h1, h2, h3, h4, decide_true, decide_false, ↓evPre, ↓evPreW, evPost, evPostW, ← List.map_take, ← List.map_drop, ↓reduceIte, reduceCtorEq, Nat.reduceEqDiff, forall_const, implies_true, Nat.reduceAdd, Nat.reduceSub, Nat.reduceMul, Nat.reduceLT, Nat.reduceLeDiff, Int.reduceToNat, Int.reduceAdd, Int.reduceSub, Int.reduceNeg, Int.reduceMul, Int.reduceLT, Int.reduceLE, Int.reduceEq]
  · have h1 : ¬ m < 0 := by omega
    have h2 : ¬ 1099511627776 < m := by omega
    have h3 : ¬ n < 1 := by omega
    have h4 : ¬ 1099511627776 < n := by omega
    have e : levF m n = if m * 100 ≤ n * 100 then (0, 0) else if m * 100 ≤ n * 105 then (5, 0) else if m * 100 ≤ n * 110 then (10, 0) else if m * 100 ≤ n * 115 then (15, 0) else if m * 100 ≤ n * 120 then (20, 0) else if m * 100 ≤ n * 125 then (25, 0) else (0, 22) := if_neg h
    rw [e]
    simp (disch := omega) only [a6, h1, h2, h3, h4, decide_true, decide_false, ↓evPre, ↓evPreW, evPost, evPostW, ← List.map_take, ← List.map_drop, ↓reduceIte, reduceCtorEq, Nat.reduceEqDiff, forall_const, implies_true, Nat.reduceAdd, Nat.reduceSub, Nat.reduceMul, Nat.reduceLT, Nat.reduceLeDiff, Int.reduceToNat, Int.reduceAdd, Int.reduceSub, Int.reduceNeg, Int.reduceMul, Int.reduceLT, Int.reduceLE, Int.reduceEq]
    refine loopA (ι := Int) (fun i => [(0, .int .i64 m), (1, .int .i64 n), (6, .int .i64 i)]) (fun _ => S) (fun i => stepQ i ∧ (0 < i → ¬ m * 100 ≤ n * 100) ∧ (5 < i → ¬ m * 100 ≤ n * 105) ∧ (10 < i → ¬ m * 100 ≤ n * 110) ∧ (15 < i → ¬ m * 100 ≤ n * 115) ∧ (20 < i → ¬ m * 100 ≤ n * 120) ∧ (25 < i → ¬ m * 100 ≤ n * 125)) (fun i => (30 - i).toNat) 0
      ⟨.inl rfl, fun h => by omega, fun h => by omega, fun h => by omega, fun h => by omega, fun h => by omega, fun h => by omega⟩ ?_ rfl ?_
    · simp only [↓evPre, ↓evPreW, evPost, evPostW, ← List.map_take, ← List.map_drop, ↓reduceIte, reduceCtorEq, Nat.reduceEqDiff, forall_const, implies_true, Nat.reduceAdd, Nat.reduceSub, Nat.reduceMul, Nat.reduceLT, Nat.reduceLeDiff, Int.reduceToNat, Int.reduceAdd, Int.reduceSub, Int.reduceNeg, Int.reduceMul, Int.reduceLT, Int.reduceLE, Int.reduceEq]
    · rintro i ⟨hi, g0, g1, g2, g3, g4, g5⟩
      unfold stepQ at hi
      rcases hi with rfl | rfl | rfl | rfl | rfl | rfl | rfl
      · by_cases hc : m * 100 ≤ n * 100
        · rw [if_pos hc]
          simp (disch := omega) only [hc, wrap_i64, decide_true, decide_false, Int.reduceAdd, Int.reduceLE, ↓evPre, ↓evPreW, evPost, evPostW, ← List.map_take, ← List.map_drop, ↓reduceIte, reduceCtorEq, Nat.reduceEqDiff, forall_const, implies_true, Nat.reduceAdd, Nat.reduceSub, Nat.reduceMul, Nat.reduceLT, Nat.reduceLeDiff, Int.reduceToNat, Int.reduceAdd, Int.reduceSub, Int.reduceNeg, Int.reduceMul, Int.reduceLT, Int.reduceLE, Int.reduceEq]
        · simp (disch := omega) only [hc, wrap_i64, decide_true, decide_false, Int.reduceAdd, Int.reduceLE, ↓evPre, ↓evPreW, evPost, evPostW, ← List.map_take, ← List.map_drop, ↓reduceIte, reduceCtorEq, Nat.reduceEqDiff, forall_const, implies_true, Nat.reduceAdd, Nat.reduceSub, Nat.reduceMul, Nat.reduceLT, Nat.reduceLeDiff, Int.reduceToNat, Int.reduceAdd, Int.reduceSub, Int.reduceNeg, Int.reduceMul, Int.reduceLT, Int.reduceLE, Int.reduceEq]
          exact ⟨5, ⟨by unfold stepQ; omega, by omega⟩, by decide, rfl⟩
      · by_cases hc : m * 100 ≤ n * 105
        · rw [if_neg (g0 (by omega)), if_pos hc]
          simp (disch := omega) only [hc, wrap_i64, decide_true, decide_false, Int.reduceAdd, Int.reduceLE, ↓evPre, ↓evPreW, evPost, evPostW, ← List.map_take, ← List.map_drop, ↓reduceIte, reduceCtorEq, Nat.reduceEqDiff, forall_const, implies_true, Nat.reduceAdd, Nat.reduceSub, Nat.reduceMul, Nat.reduceLT, Nat.reduceLeDiff, Int.reduceToNat, Int.reduceAdd, Int.reduceSub, Int.reduceNeg, Int.reduceMul, Int.reduceLT, Int.reduceLE, Int.reduceEq]
        · simp (disch := omega) only [hc, wrap_i64, decide_true, decide_false, Int.reduceAdd, Int.reduceLE, ↓evPre, ↓evPreW, evPost, evPostW, ← List.map_take, ← List.map_drop, ↓reduceIte, reduceCtorEq, Nat.reduceEqDiff, forall_const, implies_true, Nat.reduceAdd, Nat.reduceSub, Nat.reduceMul, Nat.reduceLT, Nat.reduceLeDiff, Int.reduceToNat, Int.reduceAdd, Int.reduceSub, Int.reduceNeg, Int.reduceMul, Int.reduceLT, Int.reduceLE, Int.reduceEq]
          exact ⟨10, ⟨by unfold stepQ; omega, by omega⟩, by decide, rfl⟩
      · by_cases hc : m * 100 ≤ n * 110
        · rw [if_neg (g0 (by omega)), if_neg (g1 (by omega)), if_pos hc]
          simp (disch := omega) only [hc, wrap_i64, decide_true, decide_false, Int.reduceAdd, Int.reduceLE, ↓evPre, ↓evPreW, evPost, evPostW, ← List.map_take, ← List.map_drop, ↓reduceIte, reduceCtorEq, Nat.reduceEqDiff, forall_const, implies_true, Nat.reduceAdd, Nat.reduceSub, Nat.reduceMul, Nat.reduceLT, Nat.reduceLeDiff, Int.reduceToNat, Int.reduceAdd, Int.reduceSub, Int.reduceNeg, Int.reduceMul, Int.reduceLT, Int.reduceLE, Int.reduceEq]
        · simp (disch := omega) only [hc, wrap_i64, decide_true, decide_false, Int.reduceAdd, Int.reduceLE, ↓evPre, ↓evPreW, evPost, evPostW, ← List.map_take, ← List.map_drop, ↓reduceIte, reduceCtorEq, Nat.reduceEqDiff, forall_const, implies_true, Nat.reduceAdd, Nat.reduceSub, Nat.reduceMul, Nat.reduceLT, Nat.reduceLeDiff, Int.reduceToNat, Int.reduceAdd, Int.reduceSub, Int.reduceNeg, Int.reduceMul, Int.reduceLT, Int.reduceLE, Int.reduceEq]
          exact ⟨15, ⟨by unfold stepQ; omega, by omega⟩, by decide, rfl⟩
      · by_cases hc : m * 100 ≤ n * 115
        · rw [if_neg (g0 (by omega)), if_neg (g1 (by omega)), if_neg (g2 (by omega)), if_pos hc]
          simp (disch := omega) only [hc, wrap_i64, decide_true, decide_false, Int.reduceAdd, Int.reduceLE, ↓evPre, ↓evPreW, evPost, evPostW, ← List.map_take, ← List.map_drop, ↓reduceIte, reduceCtorEq, Nat.reduceEqDiff, forall_const, implies_true, Nat.reduceAdd, Nat.reduceSub, Nat.reduceMul, Nat.reduceLT, Nat.reduceLeDiff, Int.reduceToNat, Int.reduceAdd, Int.reduceSub, Int.reduceNeg, Int.reduceMul, Int.reduceLT, Int.reduceLE, Int.reduceEq]
        · simp (disch := omega) only [hc, wrap_i64, decide_true, decide_false, Int.reduceAdd, Int.reduceLE, ↓evPre, ↓evPreW, evPost, evPostW, ← List.map_take, ← List.map_drop, ↓reduceIte, reduceCtorEq, Nat.reduceEqDiff, forall_const, implies_true, Nat.reduceAdd, Nat.reduceSub, Nat.reduceMul, Nat.reduceLT, Nat.reduceLeDiff, Int.reduceToNat, Int.reduceAdd, Int.reduceSub, Int.reduceNeg, Int.reduceMul, Int.reduceLT, Int.reduceLE, Int.reduceEq]
          exact ⟨20, ⟨by unfold stepQ; omega, by omega⟩, by decide, rfl⟩
      · by_cases hc : m * 100 ≤ n * 120
        · rw [if_neg (g0 (by omega)), if_neg (g1 (by omega)), if_neg (g2 (by omega)), if_neg (g3 (by omega)), if_pos hc]
          simp (disch := omega) only [hc, wrap_i64, decide_true, decide_false, Int.reduceAdd, Int.reduceLE, ↓evPre, ↓evPreW, evPost, evPostW, ← List.map_take, ← List.map_drop, ↓reduceIte, reduceCtorEq, Nat.reduceEqDiff, forall_const, implies_true, Nat.reduceAdd, Nat.reduceSub, Nat.reduceMul, Nat.reduceLT, Nat.reduceLeDiff, Int.reduceToNat, Int.reduceAdd, Int.reduceSub, Int.reduceNeg, Int.reduceMul, Int.reduceLT, Int.reduceLE, Int.reduceEq]
        · simp (disch := omega) only [hc, wrap_i64, decide_true, decide_false, Int.reduceAdd, Int.reduceLE, ↓evPre, ↓evPreW, evPost, evPostW, ← List.map_take, ← List.map_drop, ↓reduceIte, reduceCtorEq, Nat.reduceEqDiff, forall_const, implies_true, Nat.reduceAdd, Nat.reduceSub, Nat.reduceMul, Nat.reduceLT, Nat.reduceLeDiff, Int.reduceToNat, Int.reduceAdd, Int.reduceSub, Int.reduceNeg, Int.reduceMul, Int.reduceLT, Int.reduceLE, Int.reduceEq]
          exact ⟨25, ⟨by unfold stepQ; omega, by omega⟩, by decide, rfl⟩
      · by_cases hc : m * 100 ≤ n * 125
        · rw [if_neg (g0 (by omega)), if_neg (g1 (by omega)), if_neg (g2 (by omega)), if_neg (g3 (by omega)), if_neg (g4 (by omega)), if_pos hc]
          simp (disch := omega) only [hc, wrap_i64, decide_true, decide_false, Int.reduceAdd, Int.reduceLE, ↓evPre, ↓evPreW, evPost, evPostW, ← List.map_take, ← List.map_drop, ↓reduceIte, reduceCtorEq, Nat.reduceEqDiff, forall_const, implies_true, Nat.reduceAdd, Nat.reduceSub, Nat.reduceMul, Nat.reduceLT, Nat.reduceLeDiff, Int.reduceToNat, Int.reduceAdd, Int.reduceSub, Int.reduceNeg, Int.reduceMul, Int.reduceLT, Int.reduceLE, Int.reduceEq]
        · simp (disch := omega) only [hc, wrap_i64, decide_true, decide_false, Int.reduceAdd, Int.reduceLE, ↓evPre, ↓evPreW, evPost, evPostW, ← List.map_take, ← List.map_drop, ↓reduceIte, reduceCtorEq, Nat.reduceEqDiff, forall_const, implies_true, Nat.reduceAdd, Nat.reduceSub, Nat.reduceMul, Nat.reduceLT, Nat.reduceLeDiff, Int.reduceToNat, Int.reduceAdd, Int.reduceSub, Int.reduceNeg, Int.reduceMul, Int.reduceLT, Int.reduceLE, Int.reduceEq]
          exact ⟨30, ⟨by unfold stepQ; omega, by omega⟩, by decide, rfl⟩
      · rw [if_neg (g0 (by omega)), if_neg (g1 (by omega)), if_neg (g2 (by omega)), if_neg (g3 (by omega)), if_neg (g4 (by omega)), if_neg (g5 (by omega))]
        simp (disch := omega) only [wrap_i64, decide_true, decide_false, Int.reduceAdd, Int.reduceLE, ↓evPre, ↓evPreW, evPost, evPostW, ← List.map_take, ← List.map_drop, ↓reduceIte, reduceCtorEq, Nat.reduceEqDiff, forall_const, implies_true, Nat.reduceAdd, Nat.reduceSub, Nat.reduceMul, Nat.reduceLT, Nat.reduceLeDiff, Int.reduceToNat, Int.reduceAdd, Int.reduceSub, Int.reduceNeg, Int.reduceMul, Int.reduceLT, Int.reduceLE, Int.reduceEq]

theorem reflevel_A (m n : Int) (S : Store) : CallA Try.prog 7 [.int .i64 m, .int .i64 n] S fun r S' => r = .tup [.int .i64 (levF m n).1, .int .i64 (levF m n).2] ∧ S' = S := by
  refine CallA.keep Try.func7 c7 (Nat.le_of_ble_eq_true rfl) fun σ hσ => ?_
  by_cases h : m < 0 ∨ 1099511627776 < m ∨ n < 1 ∨ 1099511627776 < n
  · have e : levF m n = (0, 2) := if_pos h
    rw [e]
    by_cases h1 : m < 0
    · simp (disch := omega) only [a7, h1, decide_true, decide_false, ↓evPre, ↓evPreW, evPost, evPostW, ← List.map_take, ← List.map_drop, ↓reduceIte, reduceCtorEq, Nat.reduceEqDiff, forall_const, implies_true, Nat.reduceAdd, Nat.reduceSub, Nat.reduceMul, Nat.reduceLT, Nat.reduceLeDiff, Int.reduceToNat, Int.reduceAdd, Int.reduceSub, Int.reduceNeg, Int.reduceMul, Int.reduceLT, Int.reduceLE, Int.reduceEq]
    by_cases h2 : 1099511627776 < m
    · simp (disch := omega) only [a7, h1, h2, decide_true, decide_false, ↓evPre, ↓evPreW, evPost, evPostW, ← List.map_take, ← List.map_drop, ↓reduceIte, reduceCtorEq, Nat.reduceEqDiff, forall_const, implies_true, Nat.reduceAdd, Nat.reduceSub, Nat.reduceMul, Nat.reduceLT, Nat.reduceLeDiff, Int.reduceToNat, Int.reduceAdd, Int.reduceSub, Int.reduceNeg, Int.reduceMul, Int.reduceLT, Int.reduceLE, Int.reduceEq]
    by_cases h3 : n < 1
    · simp (disch := omega) only [a7, h1, h2, h3, decide_true, decide_false, ↓evPre, ↓evPreW, evPost, evPostW, ← List.map_take, ← List.map_drop, ↓reduceIte, reduceCtorEq, Nat.reduceEqDiff, forall_const, implies_true, Nat.reduceAdd, Nat.reduceSub, Nat.reduceMul, Nat.reduceLT, Nat.reduceLeDiff, Int.reduceToNat, Int.reduceAdd, Int.reduceSub, Int.reduceNeg, Int.reduceMul, Int.reduceLT, Int.reduceLE, Int.reduceEq]
    have h4 : 1099511627776 < n := by omega
    simp (disch := omega) only [a7, h1, h2, h3, h4, decide_true, decide_false, ↓evPre, ↓evPreW, evPost, evPostW, ← List.map_take, ← List.map_drop, ↓reduceIte, reduceCtorEq, Nat.reduceEqDiff, forall_const, implies_true, Nat.reduceAdd, Nat.reduceSub, Nat.reduceMul, Nat.reduceLT, Nat.reduceLeDiff, Int.reduceToNat, Int.reduceAdd, Int.reduceSub, Int.reduceNeg, Int.reduceMul, Int.reduceLT, Int.reduceLE, Int.reduceEq]
  · have h1 : ¬ m < 0 := by omega
    have h2 : ¬ 1099511627776 < m := by omega
    have h3 : ¬ n < 1 := by omega
    have h4 : ¬ 1099511627776 < n := by omega
    have e : levF m n = if m * 100 ≤ n * 100 then (0, 0) else if m * 100 ≤ n * 105 then (5, 0) else if m * 100 ≤ n * 110 then (10, 0) else if m * 100 ≤ n * 115 then (15, 0) else if m * 100 ≤ n * 120 then (20, 0) else if m * 100 ≤ n * 125 then (25, 0) else (0, 22) := if_neg h
    rw [e]
    simp (disch := omega) only [a7, h1, h2, h3, h4, decide_true, decide_false, ↓evPre, ↓evPreW, evPost, evPostW, ← List.map_take, ← List.map_drop, ↓reduceIte, reduceCtorEq, Nat.reduceEqDiff, forall_const, implies_true, Nat.reduceAdd, Nat.reduceSub, Nat.reduceMul, Nat.reduceLT, Nat.reduceLeDiff, Int.reduceToNat, Int.reduceAdd, Int.reduceSub, Int.reduceNeg, Int.reduceMul, Int.reduceLT, Int.reduceLE, Int.reduceEq]
    refine loopA (ι := Int) (fun i => [(0, .int .i64 m), (1, .int .i64 n), (6, .int .i64 i)]) (fun _ => S) (fun i => stepQ i ∧ (0 < i → ¬ m * 100 ≤ n * 100) ∧ (5 < i → ¬ m * 100 ≤ n * 105) ∧ (10 < i → ¬ m * 100 ≤ n * 110) ∧ (15 < i → ¬ m * 100 ≤ n * 115) ∧ (20 < i → ¬ m * 100 ≤ n * 120) ∧ (25 < i → ¬ m * 100 ≤ n * 125)) (fun i => (30 - i).toNat) 0
      ⟨.inl rfl, fun h => by omega, fun h => by omega, fun h => by omega, fun h => by omega, fun h => by omega, fun h => by omega⟩ ?_ rfl ?_
    · simp only [↓evPre, ↓evPreW, evPost, evPostW, ← List.map_take, ← List.map_drop, ↓reduceIte, reduceCtorEq, Nat.reduceEqDiff, forall_const, implies_true, Nat.reduceAdd, Nat.reduceSub, Nat.reduceMul, Nat.reduceLT, Nat.reduceLeDiff, Int.reduceToNat, Int.reduceAdd, Int.reduceSub, Int.reduceNeg, Int.reduceMul, Int.reduceLT, Int.reduceLE, Int.reduceEq]
    · rintro i ⟨hi, g0, g1, g2, g3, g4, g5⟩
      unfold stepQ at hi
      rcases hi with rfl | rfl | rfl | rfl | rfl | rfl | rfl
      · by_cases hc : m * 100 ≤ n * 100
        · rw [if_pos hc]
          simp (disch := omega) only [hc, wrap_i64, decide_true, decide_false, Int.reduceAdd, Int.reduceLE, ↓evPre, ↓evPreW, evPost, evPostW, ← List.map_take, ← List.map_drop, ↓reduceIte, reduceCtorEq, Nat.reduceEqDiff, forall_const, implies_true, Nat.reduceAdd, Nat.reduceSub, Nat.reduceMul, Nat.reduceLT, Nat.reduceLeDiff, Int.reduceToNat, Int.reduceAdd, Int.reduceSub, Int.reduceNeg, Int.reduceMul, Int.reduceLT, Int.reduceLE, Int.reduceEq]
        · simp (disch := omega) only [hc, wrap_i64, decide_true, decide_false, Int.reduceAdd, Int.reduceLE, ↓evPre, ↓evPreW, evPost, evPostW, ← List.map_take, ← List.map_drop, ↓reduceIte, reduceCtorEq, Nat.reduceEqDiff, forall_const, implies_true, Nat.reduceAdd, Nat.reduceSub, Nat.reduceMul, Nat.reduceLT, Nat.reduceLeDiff, Int.reduceToNat, Int.reduceAdd, Int.reduceSub, Int.reduceNeg, Int.reduceMul, Int.reduceLT, Int.reduceLE, Int.reduceEq]
          exact ⟨5, ⟨by unfold stepQ; omega, by omega⟩, by decide, rfl⟩
      · by_cases hc : m * 100 ≤ n * 105
        · rw [if_neg (g0 (by omega)), if_pos hc]
          simp (disch := omega) only [hc, wrap_i64, decide_true, decide_false, Int.reduceAdd, Int.reduceLE, ↓evPre, ↓evPreW, evPost, evPostW, ← List.map_take, ← List.map_drop, ↓reduceIte, reduceCtorEq, Nat.reduceEqDiff, forall_const, implies_true, Nat.reduceAdd, Nat.reduceSub, Nat.reduceMul, Nat.reduceLT, Nat.reduceLeDiff, Int.reduceToNat, Int.reduceAdd, Int.reduceSub, Int.reduceNeg, Int.reduceMul, Int.reduceLT, Int.reduceLE, Int.reduceEq]
        · simp (disch := omega) only [hc, wrap_i64, decide_true, decide_false, Int.reduceAdd, Int.reduceLE, ↓evPre, ↓evPreW, evPost, evPostW, ← List.map_take, ← List.map_drop, ↓reduceIte, reduceCtorEq, Nat.reduceEqDiff, forall_const, implies_true, Nat.reduceAdd, Nat.reduceSub, Nat.reduceMul, Nat.reduceLT, Nat.reduceLeDiff, Int.reduceToNat, Int.reduceAdd, Int.reduceSub, Int.reduceNeg, Int.reduceMul, Int.reduceLT, Int.reduceLE, Int.reduceEq]
          exact ⟨10, ⟨by unfold stepQ; omega, by omega⟩, by decide, rfl⟩
      · by_cases hc : m * 100 ≤ n * 110
        · rw [if_neg (g0 (by omega)), if_neg (g1 (by omega)), if_pos hc]
          simp (disch := omega) only [hc, wrap_i64, decide_true, decide_false, Int.reduceAdd, Int.reduceLE, ↓evPre, ↓evPreW, evPost, evPostW, ← List.map_take, ← List.map_drop, ↓reduceIte, reduceCtorEq, Nat.reduceEqDiff, forall_const, implies_true, Nat.reduceAdd, Nat.reduceSub, Nat.reduceMul, Nat.reduceLT, Nat.reduceLeDiff, Int.reduceToNat, Int.reduceAdd, Int.reduceSub, Int.reduceNeg, Int.reduceMul, Int.reduceLT, Int.reduceLE, Int.reduceEq]
        · simp (disch := omega) only [hc, wrap_i64, decide_true, decide_false, Int.reduceAdd, Int.reduceLE, ↓evPre, ↓evPreW, evPost, evPostW, ← List.map_take, ← List.map_drop, ↓reduceIte, reduceCtorEq, Nat.reduceEqDiff, forall_const, implies_true, Nat.reduceAdd, Nat.reduceSub, Nat.reduceMul, Nat.reduceLT, Nat.reduceLeDiff, Int.reduceToNat, Int.reduceAdd, Int.reduceSub, Int.reduceNeg, Int.reduceMul, Int.reduceLT, Int.reduceLE, Int.reduceEq]
          exact ⟨15, ⟨by unfold stepQ; omega, by omega⟩, by decide, rfl⟩
      · by_cases hc : m * 100 ≤ n * 115
        · rw [if_neg (g0 (by omega)), if_neg (g1 (by omega)), if_neg (g2 (by omega)), if_pos hc]
          simp (disch := omega) only [hc, wrap_i64, decide_true, decide_false, Int.reduceAdd, Int.reduceLE, ↓evPre, ↓evPreW, evPost, evPostW, ← List.map_take, ← List.map_drop, ↓reduceIte, reduceCtorEq, Nat.reduceEqDiff, forall_const, implies_true, Nat.reduceAdd, Nat.reduceSub, Nat.reduceMul, Nat.reduceLT, Nat.reduceLeDiff, Int.reduceToNat, Int.reduceAdd, Int.reduceSub, Int.reduceNeg, Int.reduceMul, Int.reduceLT, Int.reduceLE, Int.reduceEq]
        · simp (disch := omega) only [hc, wrap_i64, decide_true, decide_false, Int.reduceAdd, Int.reduceLE, ↓evPre, ↓evPreW, evPost, evPostW, ← List.map_take, ← List.map_drop, ↓reduceIte, reduceCtorEq, Nat.reduceEqDiff, forall_const, implies_true, Nat.reduceAdd, Nat.reduceSub, Nat.reduceMul, Nat.reduceLT, Nat.reduceLeDiff, Int.reduceToNat, Int.reduceAdd, Int.reduceSub, Int.reduceNeg, Int.reduceMul, Int.reduceLT, Int.reduceLE, Int.reduceEq]
          exact ⟨20, ⟨by unfold stepQ; omega, by omega⟩, by decide, rfl⟩
      · by_cases hc : m * 100 ≤ n * 120
        · rw [if_neg (g0 (by omega)), if_neg (g1 (by omega)), if_neg (g2 (by omega)), if_neg (g3 (by omega)), if_pos hc]
          simp (disch := omega) only [hc, wrap_i64, decide_true, decide_false, Int.reduceAdd, Int.reduceLE, ↓evPre, ↓evPreW, evPost, evPostW, ← List.map_take, ← List.map_drop, ↓reduceIte, reduceCtorEq, Nat.reduceEqDiff, forall_const, implies_true, Nat.reduceAdd, Nat.reduceSub, Nat.reduceMul, Nat.reduceLT, Nat.reduceLeDiff, Int.reduceToNat, Int.reduceAdd, Int.reduceSub, Int.reduceNeg, Int.reduceMul, Int.reduceLT, Int.reduceLE, Int.reduceEq]
        · simp (disch := omega) only [hc, wrap_i64, decide_true, decide_false, Int.reduceAdd, Int.reduceLE, ↓evPre, ↓evPreW, evPost, evPostW, ← List.map_take, ← List.map_drop, ↓reduceIte, reduceCtorEq, Nat.reduceEqDiff, forall_const, implies_true, Nat.reduceAdd, Nat.reduceSub, Nat.reduceMul, Nat.reduceLT, Nat.reduceLeDiff, Int.reduceToNat, Int.reduceAdd, Int.reduceSub, Int.reduceNeg, Int.reduceMul, Int.reduceLT, Int.reduceLE, Int.reduceEq]
          exact ⟨25, ⟨by unfold stepQ; omega, by omega⟩, by decide, rfl⟩
      · by_cases hc : m * 100 ≤ n * 125
        · rw [if_neg (g0 (by omega)), if_neg (g1 (by omega)), if_neg (g2 (by omega)), if_neg (g3 (by omega)), if_neg (g4 (by omega)), if_pos hc]
          simp (disch := omega) only [hc, wrap_i64, decide_true, decide_false, Int.reduceAdd, Int.reduceLE, ↓evPre, ↓evPreW, evPost, evPostW, ← List.map_take, ← List.map_drop, ↓reduceIte, reduceCtorEq, Nat.reduceEqDiff, forall_const, implies_true, Nat.reduceAdd, Nat.reduceSub, Nat.reduceMul, Nat.reduceLT, Nat.reduceLeDiff, Int.reduceToNat, Int.reduceAdd, Int.reduceSub, Int.reduceNeg, Int.reduceMul, Int.reduceLT, Int.reduceLE, Int.reduceEq]
        · simp (disch := omega) only [hc, wrap_i64, decide_true, decide_false, Int.reduceAdd, Int.reduceLE, ↓evPre, ↓evPreW, evPost, evPostW, ← List.map_take, ← List.map_drop, ↓reduceIte, reduceCtorEq, Nat.reduceEqDiff, forall_const, implies_true, Nat.reduceAdd, Nat.reduceSub, Nat.reduceMul, Nat.reduceLT, Nat.reduceLeDiff, Int.reduceToNat, Int.reduceAdd, Int.reduceSub, Int.reduceNeg, Int.reduceMul, Int.reduceLT, Int.reduceLE, Int.reduceEq]
          exact ⟨30, ⟨by unfold stepQ; omega, by omega⟩, by decide, rfl⟩
      · rw [if_neg (g0 (by omega)), if_neg (g1 (by omega)), if_neg (g2 (by omega)), if_neg (g3 (by omega)), if_neg (g4 (by omega)), if_neg (g5 (by omega))]
        simp (disch := omega) only [wrap_i64, decide_true, decide_false, Int.reduceAdd, Int.reduceLE, ↓evPre, ↓evPreW, evPost, evPostW, ← List.map_take, ← List.map_drop, ↓reduceIte, reduceCtorEq, Nat.reduceEqDiff, forall_const, implies_true, Nat.reduceAdd, Nat.reduceSub, Nat.reduceMul, Nat.reduceLT, Nat.reduceLeDiff, Int.reduceToNat, Int.reduceAdd, Int.reduceSub, Int.reduceNeg, Int.reduceMul, Int.reduceLT, Int.reduceLE, Int.reduceEq]
end Go.Proofs.Ytbbjjnhcbfdhlaa
