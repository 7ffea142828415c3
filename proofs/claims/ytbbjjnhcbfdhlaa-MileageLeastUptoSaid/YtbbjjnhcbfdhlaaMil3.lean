/- The reference's percentages; surcharges and levels. -/
import Derived.Test.YtbbjjnhcbfdhlaaMil2
namespace Go.Proofs.Ytbbjjnhcbfdhlaa
open Go Go.AL
set_option linter.unusedSimpArgs false
set_option linter.unusedVariables false

theorem tdm {a b : Int} (hb : 0 < b) : (0 ≤ a → a.tdiv b = a / b ∧ a.tmod b = a % b) ∧ (a < 0 → a.tdiv b = -((-a) / b) ∧ a.tmod b = -((-a) % b)) := by
  refine ⟨fun h => ⟨Int.tdiv_eq_ediv_of_nonneg h, Int.tmod_eq_emod_of_nonneg h⟩, fun h => ?_⟩
  have e : a = -(-a) := by omega
  have h1 : a.tdiv b = -((-a).tdiv b) := by conv => lhs; rw [e, Int.neg_tdiv]
  have h2 : a.tmod b = -((-a).tmod b) := by conv => lhs; rw [e, Int.neg_tmod]
  rw [h1, h2, Int.tdiv_eq_ediv_of_nonneg (by omega), Int.tmod_eq_emod_of_nonneg (by omega)]
  exact ⟨rfl, rfl⟩

theorem floor10000_A (a : Int) (S : Store) (h0 : -1152921504606846976 ≤ a) (h1 : a ≤ 1152921504606846976) : CallA Try.prog 25 [.int .i64 a, .int .i64 10000] S fun r S' => r = .tup [.int .i64 (a / 10000), .int .i64 (a % 10000)] ∧ S' = S := by
  refine CallA.keep Try.func25 c25 (Nat.le_of_ble_eq_true rfl) fun σ hσ => ?_
  have ht := tdm (a := a) (b := 10000) (by omega)
  have hb0 : (10000 : Int) ≠ 0 := by omega
  by_cases ha : 0 ≤ a
  · obtain ⟨e1, e2⟩ := ht.1 ha
    have h2 : ¬ a % 10000 < 0 := by omega
    simp (disch := omega) only [a25, bi_quo hb0, bi_rem hb0, e1, e2, h2, wrap_i64, decide_false, ↓evPre, ↓evPreW, evPost, evPostW, ← List.map_take, ← List.map_drop, ↓reduceIte, reduceCtorEq, Nat.reduceEqDiff, forall_const, implies_true, Nat.reduceAdd, Nat.reduceSub, Nat.reduceMul, Nat.reduceLT, Nat.reduceLeDiff, Int.reduceToNat, Int.reduceAdd, Int.reduceSub, Int.reduceNeg, Int.reduceMul, Int.reduceLT, Int.reduceLE, Int.reduceEq]
  · obtain ⟨e1, e2⟩ := ht.2 (by omega)
    by_cases hr : (-a) % 10000 = 0
    · have e3 : a.tdiv 10000 = a / 10000 := by rw [e1]; omega
      have e4 : a.tmod 10000 = a % 10000 := by rw [e2]; omega
      have h2 : ¬ a % 10000 < 0 := by omega
      simp (disch := omega) only [a25, bi_quo hb0, bi_rem hb0, e3, e4, h2, wrap_i64, decide_false, ↓evPre, ↓evPreW, evPost, evPostW, ← List.map_take, ← List.map_drop, ↓reduceIte, reduceCtorEq, Nat.reduceEqDiff, forall_const, implies_true, Nat.reduceAdd, Nat.reduceSub, Nat.reduceMul, Nat.reduceLT, Nat.reduceLeDiff, Int.reduceToNat, Int.reduceAdd, Int.reduceSub, Int.reduceNeg, Int.reduceMul, Int.reduceLT, Int.reduceLE, Int.reduceEq]
    · have e3 : a.tdiv 10000 = a / 10000 + 1 := by rw [e1]; omega
      have e4 : a.tmod 10000 = a % 10000 - 10000 := by rw [e2]; omega
      have h2 : a % 10000 - 10000 < 0 := by omega
      have e5 : a / 10000 + 1 - 1 = a / 10000 := by omega
      have e6 : a % 10000 - 10000 + 10000 = a % 10000 := by omega
      simp (disch := omega) only [a25, bi_quo hb0, bi_rem hb0, e3, e4, e5, e6, h2, wrap_i64, decide_true, ↓evPre, ↓evPreW, evPost, evPostW, ← List.map_take, ← List.map_drop, ↓reduceIte, reduceCtorEq, Nat.reduceEqDiff, forall_const, implies_true, Nat.reduceAdd, Nat.reduceSub, Nat.reduceMul, Nat.reduceLT, Nat.reduceLeDiff, Int.reduceToNat, Int.reduceAdd, Int.reduceSub, Int.reduceNeg, Int.reduceMul, Int.reduceLT, Int.reduceLE, Int.reduceEq]

theorem floor20000_A (a : Int) (S : Store) (h0 : -1152921504606846976 ≤ a) (h1 : a ≤ 1152921504606846976) : CallA Try.prog 25 [.int .i64 a, .int .i64 20000] S fun r S' => r = .tup [.int .i64 (a / 20000), .int .i64 (a % 20000)] ∧ S' = S := by
  refine CallA.keep Try.func25 c25 (Nat.le_of_ble_eq_true rfl) fun σ hσ => ?_
  have ht := tdm (a := a) (b := 20000) (by omega)
  have hb0 : (20000 : Int) ≠ 0 := by omega
  by_cases ha : 0 ≤ a
  · obtain ⟨e1, e2⟩ := ht.1 ha
    have h2 : ¬ a % 20000 < 0 := by omega
    simp (disch := omega) only [a25, bi_quo hb0, bi_rem hb0, e1, e2, h2, wrap_i64, decide_false, ↓evPre, ↓evPreW, evPost, evPostW, ← List.map_take, ← List.map_drop, ↓reduceIte, reduceCtorEq, Nat.reduceEqDiff, forall_const, implies_true, Nat.reduceAdd, Nat.reduceSub, Nat.reduceMul, Nat.reduceLT, Nat.reduceLeDiff, Int.reduceToNat, Int.reduceAdd, Int.reduceSub, Int.reduceNeg, Int.reduceMul, Int.reduceLT, Int.reduceLE, Int.reduceEq]
  · obtain ⟨e1, e2⟩ := ht.2 (by omega)
    by_cases hr : (-a) % 20000 = 0
    · have e3 : a.tdiv 20000 = a / 20000 := by rw [e1]; omega
      have e4 : a.tmod 20000 = a % 20000 := by rw [e2]; omega
      have h2 : ¬ a % 20000 < 0 := by omega
      simp (disch := omega) only [a25, bi_quo hb0, bi_rem hb0, e3, e4, h2, wrap_i64, decide_false, ↓evPre, ↓evPreW, evPost, evPostW, ← List.map_take, ← List.map_drop, ↓reduceIte, reduceCtorEq, Nat.reduceEqDiff, forall_const, implies_true, Nat.reduceAdd, Nat.reduceSub, Nat.reduceMul, Nat.reduceLT, Nat.reduceLeDiff, Int.reduceToNat, Int.reduceAdd, Int.reduceSub, Int.reduceNeg, Int.reduceMul, Int.reduceLT, Int.reduceLE, Int.reduceEq]
    · have e3 : a.tdiv 20000 = a / 20000 + 1 := by rw [e1]; omega
      have e4 : a.tmod 20000 = a % 20000 - 20000 := by rw [e2]; omega
      have h2 : a % 20000 - 20000 < 0 := by omega
      have e5 : a / 20000 + 1 - 1 = a / 20000 := by omega
      have e6 : a % 20000 - 20000 + 20000 = a % 20000 := by omega
      simp (disch := omega) only [a25, bi_quo hb0, bi_rem hb0, e3, e4, e5, e6, h2, wrap_i64, decide_true, ↓evPre, ↓evPreW, evPost, evPostW, ← List.map_take, ← List.map_drop, ↓reduceIte, reduceCtorEq, Nat.reduceEqDiff, forall_const, implies_true, Nat.reduceAdd, Nat.reduceSub, Nat.reduceMul, Nat.reduceLT, Nat.reduceLeDiff, Int.reduceToNat, Int.reduceAdd, Int.reduceSub, Int.reduceNeg, Int.reduceMul, Int.reduceLT, Int.reduceLE, Int.reduceEq]

theorem refpercent_A (a : Int) (h : Nat) (S : Store) (hl : 10000 ≤ h) (hh : h ≤ 12500) : CallA Try.prog 16 [.int .i64 a, .int .i64 h] S fun r S' => r = .tup [.int .i64 (percentF a h).1, .int .i64 (percentF a h).2] ∧ S' = S := by
  refine CallA.keep Try.func16 c16 (Nat.le_of_ble_eq_true rfl) fun σ hσ => ?_
  have hf : decide (-1099511627776 ≤ (h : Int) ∧ (h : Int) ≤ 1099511627776) = true := by simp; omega
  simp only [a16, ↓evPre, ↓evPreW, evPost, evPostW, ← List.map_take, ← List.map_drop, ↓reduceIte, reduceCtorEq, Nat.reduceEqDiff, forall_const, implies_true, Nat.reduceAdd, Nat.reduceSub, Nat.reduceMul, Nat.reduceLT, Nat.reduceLeDiff, Int.reduceToNat, Int.reduceAdd, Int.reduceSub, Int.reduceNeg, Int.reduceMul, Int.reduceLT, Int.reduceLE, Int.reduceEq]
  refine (amount_A a S).then ?_
  by_cases hr : -1099511627776 ≤ a ∧ a ≤ 1099511627776
  · obtain ⟨r1, r2⟩ := hr
    simp only [r1, r2, and_self, decide_true, ↓evPre, ↓evPreW, evPost, evPostW, ← List.map_take, ← List.map_drop, ↓reduceIte, reduceCtorEq, Nat.reduceEqDiff, forall_const, implies_true, Nat.reduceAdd, Nat.reduceSub, Nat.reduceMul, Nat.reduceLT, Nat.reduceLeDiff, Int.reduceToNat, Int.reduceAdd, Int.reduceSub, Int.reduceNeg, Int.reduceMul, Int.reduceLT, Int.reduceLE, Int.reduceEq]
    refine (amount_A h S).then ?_
    simp only [hf, ↓evPre, ↓evPreW, evPost, evPostW, ← List.map_take, ← List.map_drop, ↓reduceIte, reduceCtorEq, Nat.reduceEqDiff, forall_const, implies_true, Nat.reduceAdd, Nat.reduceSub, Nat.reduceMul, Nat.reduceLT, Nat.reduceLeDiff, Int.reduceToNat, Int.reduceAdd, Int.reduceSub, Int.reduceNeg, Int.reduceMul, Int.reduceLT, Int.reduceLE, Int.reduceEq]
    refine (floor10000_A h S (by omega) (by omega)).then ?_
    have hd1 : (h : Int) / 10000 = 1 := by omega
    have hd2 : (h : Int) % 10000 = ((h - 10000 : Nat) : Int) := by omega
    have hx : a * (h : Int) = 10000 * a + a * ((h - 10000 : Nat) : Int) := by
      have e : (h : Int) = 10000 + ((h - 10000 : Nat) : Int) := by omega
      conv => lhs; rw [e, Int.mul_add]
      omega
    have hm2 : 2 * a * ((h - 10000 : Nat) : Int) = 2 * (a * ((h - 10000 : Nat) : Int)) := by rw [Int.mul_assoc]
    have hy : a.natAbs * (h - 10000) ≤ 1099511627776 * 2500 := Nat.mul_le_mul (by omega) (by omega)
    have hy2 : (a * ((h - 10000 : Nat) : Int)).natAbs = a.natAbs * (h - 10000) := by rw [Int.natAbs_mul, Int.natAbs_natCast]
    rw [← hy2] at hy
    have pc : percentF a h = if a + (2 * (a * ((h - 10000 : Nat) : Int)) + 10000) / 20000 < -1099511627776 ∨ 1099511627776 < a + (2 * (a * ((h - 10000 : Nat) : Int)) + 10000) / 20000 then (0, 11) else (a + (2 * (a * ((h - 10000 : Nat) : Int)) + 10000) / 20000, 0) := by
      have e : (2 * (a * (h : Int)) + 10000) / 20000 = a + (2 * (a * ((h - 10000 : Nat) : Int)) + 10000) / 20000 := by omega
      unfold percentF
      rw [if_neg (by omega), e]
    rw [hd1, hd2, pc]
    generalize a * ((h - 10000 : Nat) : Int) = y at hm2 hy
    clear hx hy2 pc
    have fin : CallA Try.prog 25 [.int .i64 (2 * y + 10000), .int .i64 20000] S fun r S' => r = .tup [.int .i64 ((2 * y + 10000) / 20000), .int .i64 ((2 * y + 10000) % 20000)] ∧ S' = S := floor20000_A _ S (by omega) (by omega)
    by_cases ha : a = 0
    · obtain rfl : y = 0 := by subst ha; omega
      subst ha
      have fin0 := floor20000_A 10000 S (by omega) (by omega)
      have hd0 : decide (-1099511627776 ≤ (0 : Int) ∧ (0 : Int) ≤ 1099511627776) = true := by decide
      have hz : (10000 : Int) / 20000 = 0 := by decide
      have hpc : (if (0 : Int) + (2 * 0 + 10000) / 20000 < -1099511627776 ∨ 1099511627776 < (0 : Int) + (2 * 0 + 10000) / 20000 then ((0 : Int), (11 : Int)) else (0 + (2 * 0 + 10000) / 20000, 0)) = (0, 0) := by decide
      rw [hpc]
      simp (disch := omega) only [hm2, wrap_i64, decide_true, decide_false, Int.mul_zero, Int.zero_mul, Int.zero_add, ↓evPre, ↓evPreW, evPost, evPostW, ← List.map_take, ← List.map_drop, ↓reduceIte, reduceCtorEq, Nat.reduceEqDiff, forall_const, implies_true, Nat.reduceAdd, Nat.reduceSub, Nat.reduceMul, Nat.reduceLT, Nat.reduceLeDiff, Int.reduceToNat, Int.reduceAdd, Int.reduceSub, Int.reduceNeg, Int.reduceMul, Int.reduceLT, Int.reduceLE, Int.reduceEq]
      refine fin0.then ?_
      simp (disch := omega) only [hz, wrap_i64, Int.mul_one, Int.mul_zero, Int.zero_mul, Int.zero_add, ↓evPre, ↓evPreW, evPost, evPostW, ← List.map_take, ← List.map_drop, ↓reduceIte, reduceCtorEq, Nat.reduceEqDiff, forall_const, implies_true, Nat.reduceAdd, Nat.reduceSub, Nat.reduceMul, Nat.reduceLT, Nat.reduceLeDiff, Int.reduceToNat, Int.reduceAdd, Int.reduceSub, Int.reduceNeg, Int.reduceMul, Int.reduceLT, Int.reduceLE, Int.reduceEq]
      refine (amount_A 0 S).then ?_
      simp (disch := omega) only [hd0, wrap_i64, Int.mul_one, Int.mul_zero, Int.zero_mul, Int.zero_add, ↓evPre, ↓evPreW, evPost, evPostW, ← List.map_take, ← List.map_drop, ↓reduceIte, reduceCtorEq, Nat.reduceEqDiff, forall_const, implies_true, Nat.reduceAdd, Nat.reduceSub, Nat.reduceMul, Nat.reduceLT, Nat.reduceLeDiff, Int.reduceToNat, Int.reduceAdd, Int.reduceSub, Int.reduceNeg, Int.reduceMul, Int.reduceLT, Int.reduceLE, Int.reduceEq]
    · simp (disch := omega) only [ha, hm2, wrap_i64, decide_true, decide_false, ↓evPre, ↓evPreW, evPost, evPostW, ← List.map_take, ← List.map_drop, ↓reduceIte, reduceCtorEq, Nat.reduceEqDiff, forall_const, implies_true, Nat.reduceAdd, Nat.reduceSub, Nat.reduceMul, Nat.reduceLT, Nat.reduceLeDiff, Int.reduceToNat, Int.reduceAdd, Int.reduceSub, Int.reduceNeg, Int.reduceMul, Int.reduceLT, Int.reduceLE, Int.reduceEq]
      refine (rsize_A 1 S (by omega) (by omega)).then ?_
      simp (disch := omega) only [↓evPre, ↓evPreW, evPost, evPostW, ← List.map_take, ← List.map_drop, ↓reduceIte, reduceCtorEq, Nat.reduceEqDiff, forall_const, implies_true, Nat.reduceAdd, Nat.reduceSub, Nat.reduceMul, Nat.reduceLT, Nat.reduceLeDiff, Int.reduceToNat, Int.reduceAdd, Int.reduceSub, Int.reduceNeg, Int.reduceMul, Int.reduceLT, Int.reduceLE, Int.reduceEq]
      refine (rsize_A a S (by omega) (by omega)).then ?_
      have hn0 : ((a.natAbs : Nat) : Int) ≠ 0 := by omega
      have hq : ¬ (2199023255552 : Int).tdiv ((a.natAbs : Nat) : Int) < 1 := by
        rw [Int.tdiv_eq_ediv_of_nonneg (by omega)]
        have : 1 ≤ (2199023255552 : Int) / ((a.natAbs : Nat) : Int) := by
          rw [Int.le_ediv_iff_mul_le (by omega)]
          omega
        omega
      have hq2 : (2199023255552 : Int).tdiv ((a.natAbs : Nat) : Int) ≤ 2199023255552 := by
        rw [Int.tdiv_eq_ediv_of_nonneg (by omega)]
        exact Int.ediv_le_self _ (by omega)
      have h1a : ((Int.natAbs 1 : Nat) : Int) = 1 := rfl
      generalize hz : (2199023255552 : Int).tdiv ((a.natAbs : Nat) : Int) = z at hq hq2
      have hz0 : 0 ≤ z := by omega
      simp (disch := omega) only [bi_quo hn0, hz, h1a, hq, hm2, wrap_i64, decide_false, ↓evPre, ↓evPreW, evPost, evPostW, ← List.map_take, ← List.map_drop, ↓reduceIte, reduceCtorEq, Nat.reduceEqDiff, forall_const, implies_true, Nat.reduceAdd, Nat.reduceSub, Nat.reduceMul, Nat.reduceLT, Nat.reduceLeDiff, Int.reduceToNat, Int.reduceAdd, Int.reduceSub, Int.reduceNeg, Int.reduceMul, Int.reduceLT, Int.reduceLE, Int.reduceEq]
      refine fin.then ?_
      simp (disch := omega) only [Int.mul_one, hm2, wrap_i64, ↓evPre, ↓evPreW, evPost, evPostW, ← List.map_take, ← List.map_drop, ↓reduceIte, reduceCtorEq, Nat.reduceEqDiff, forall_const, implies_true, Nat.reduceAdd, Nat.reduceSub, Nat.reduceMul, Nat.reduceLT, Nat.reduceLeDiff, Int.reduceToNat, Int.reduceAdd, Int.reduceSub, Int.reduceNeg, Int.reduceMul, Int.reduceLT, Int.reduceLE, Int.reduceEq]
      refine (amount_A (a + (2 * y + 10000) / 20000) S).then ?_
      by_cases hc : a + (2 * y + 10000) / 20000 < -1099511627776 ∨ 1099511627776 < a + (2 * y + 10000) / 20000
      · have hd : decide (-1099511627776 ≤ a + (2 * y + 10000) / 20000 ∧ a + (2 * y + 10000) / 20000 ≤ 1099511627776) = false := by simp; omega
        simp (disch := omega) only [hd, if_pos hc, ↓evPre, ↓evPreW, evPost, evPostW, ← List.map_take, ← List.map_drop, ↓reduceIte, reduceCtorEq, Nat.reduceEqDiff, forall_const, implies_true, Nat.reduceAdd, Nat.reduceSub, Nat.reduceMul, Nat.reduceLT, Nat.reduceLeDiff, Int.reduceToNat, Int.reduceAdd, Int.reduceSub, Int.reduceNeg, Int.reduceMul, Int.reduceLT, Int.reduceLE, Int.reduceEq]
      · have hd : decide (-1099511627776 ≤ a + (2 * y + 10000) / 20000 ∧ a + (2 * y + 10000) / 20000 ≤ 1099511627776) = true := by simp; omega
        simp (disch := omega) only [hd, if_neg hc, Int.mul_one, wrap_i64, ↓evPre, ↓evPreW, evPost, evPostW, ← List.map_take, ← List.map_drop, ↓reduceIte, reduceCtorEq, Nat.reduceEqDiff, forall_const, implies_true, Nat.reduceAdd, Nat.reduceSub, Nat.reduceMul, Nat.reduceLT, Nat.reduceLeDiff, Int.reduceToNat, Int.reduceAdd, Int.reduceSub, Int.reduceNeg, Int.reduceMul, Int.reduceLT, Int.reduceLE, Int.reduceEq]
  · have e : percentF a h = (0, 11) := if_pos (by omega)
    have hd : decide (-1099511627776 ≤ a ∧ a ≤ 1099511627776) = false := by simpa using hr
    simp only [hd, e, ↓evPre, ↓evPreW, evPost, evPostW, ← List.map_take, ← List.map_drop, ↓reduceIte, reduceCtorEq, Nat.reduceEqDiff, forall_const, implies_true, Nat.reduceAdd, Nat.reduceSub, Nat.reduceMul, Nat.reduceLT, Nat.reduceLeDiff, Int.reduceToNat, Int.reduceAdd, Int.reduceSub, Int.reduceNeg, Int.reduceMul, Int.reduceLT, Int.reduceLE, Int.reduceEq]
end Go.Proofs.Ytbbjjnhcbfdhlaa
