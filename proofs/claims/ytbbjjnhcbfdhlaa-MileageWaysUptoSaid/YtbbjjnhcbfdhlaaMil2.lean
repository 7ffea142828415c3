/- Percentages of amounts. -/
import Derived.Test.YtbbjjnhcbfdhlaaMilC
import Derived.Test.YtbbjjnhcbfdhlaaMil1
namespace Go.Proofs.Ytbbjjnhcbfdhlaa
open Go Go.AL
set_option linter.unusedSimpArgs false
set_option linter.unusedVariables false

theorem and_lo {a : Int} (h0 : 0 ≤ a) (h1 : a < 18446744073709551616) : IntKind.u64.wrap (((BitVec.ofInt IntKind.u64.bits a &&& BitVec.ofInt IntKind.u64.bits 4294967295).toNat : Nat) : Int) = a % 4294967296 := by
  obtain ⟨n, rfl⟩ := Int.eq_ofNat_of_zero_le h0
  have hn : n < 2 ^ 64 := by omega
  have e1 : (BitVec.ofInt IntKind.u64.bits ((n : Nat) : Int)).toNat = n := by
    simp only [IntKind.bits, BitVec.toNat_ofInt]
    omega
  have e2 : (BitVec.ofInt IntKind.u64.bits 4294967295).toNat = 2 ^ 32 - 1 := by decide
  rw [BitVec.toNat_and, e1, e2, Nat.and_two_pow_sub_one_eq_mod, wrap_u64 (by omega) (by omega)]
  omega
theorem sh_r32 {a : Int} : shiftV false .u64 a 32 = some (.int .u64 (a / 4294967296)) := by
  simp only [shiftV, IntKind.bits]
  rw [Int.fdiv_eq_ediv_of_nonneg _ (by decide)]
  rfl

theorem mul64_A (a b : Nat) (S : Store) (ha : a ≤ 1099511627776) (hb : b ≤ 12500) : CallA Try.prog 34 [.int .u64 a, .int .u64 b] S fun r S' => r = .tup [.int .u64 0, .int .u64 ((a * b : Nat) : Int)] ∧ S' = S := by
  refine CallA.keep Try.func34 c34 (Nat.le_of_ble_eq_true rfl) fun σ hσ => ?_
  have hb0 : (b : Int) % 4294967296 = b := by omega
  have hb1 : (b : Int) / 4294967296 = 0 := by omega
  have q0 : (a % 4294967296) * b ≤ 4294967296 * 12500 := Nat.mul_le_mul (by omega) hb
  have q1 : (a / 4294967296) * b ≤ 256 * 12500 := Nat.mul_le_mul (by omega) hb
  have q2 : a * b ≤ 1099511627776 * 12500 := Nat.mul_le_mul ha hb
  have p0 : (a : Int) % 4294967296 * b = (((a % 4294967296) * b : Nat) : Int) := by simp
  have p1 : (a : Int) / 4294967296 * b = (((a / 4294967296) * b : Nat) : Int) := by simp
  have p2 : (a : Int) * b = ((a * b : Nat) : Int) := by simp
  generalize (a % 4294967296) * b = u at q0 p0
  generalize (a / 4294967296) * b = v at q1 p1
  generalize a * b = w at q2 p2
  simp (disch := omega) only [a34, and_lo, sh_r32, wrap_u64, hb0, hb1, p0, p1, p2, Int.mul_zero, Int.add_zero, Int.zero_add, ↓evPre, ↓evPreW, evPost, evPostW, ← List.map_take, ← List.map_drop, ↓reduceIte, reduceCtorEq, Nat.reduceEqDiff, forall_const, implies_true, Nat.reduceAdd, Nat.reduceSub, Nat.reduceMul, Nat.reduceLT, Nat.reduceLeDiff, Int.reduceToNat, Int.reduceAdd, Int.reduceSub, Int.reduceNeg, Int.reduceMul, Int.reduceLT, Int.reduceLE, Int.reduceEq]
  have e : ((v : Int) + (u : Int) / 4294967296) / 4294967296 + ((v : Int) + (u : Int) / 4294967296) % 4294967296 / 4294967296 = 0 := by omega
  rw [e]

theorem div64_A (n m : Nat) (S : Store) (hn : n < 18446744073709551616) (hm0 : 0 < m) (hm : m < 18446744073709551616) : CallA Try.prog 35 [.int .u64 0, .int .u64 n, .int .u64 m] S fun r S' => r = .tup [.int .u64 ((n / m : Nat) : Int), .int .u64 ((n % m : Nat) : Int)] ∧ S' = S := by
  refine CallA.keep Try.func35 c35 (Nat.le_of_ble_eq_true rfl) fun σ hσ => ?_
  have h1 : ¬ (m : Int) = 0 := by omega
  have h2 : ¬ (m : Int) ≤ 0 := by omega
  have e1 : (n : Int).tdiv m = ((n / m : Nat) : Int) := by rw [Int.tdiv_eq_ediv_of_nonneg (by omega)]; simp
  have e2 : (n : Int).tmod m = ((n % m : Nat) : Int) := by rw [Int.tmod_eq_emod_of_nonneg (by omega)]; simp
  have e3 : n / m ≤ n := Nat.div_le_self n m
  generalize n / m = q at e1 e3
  generalize n % m = r at e2
  simp (disch := omega) only [a35, h1, h2, e1, e2, wrap_u64, eq_self, decide_true, decide_false, ↓evPre, ↓evPreW, evPost, evPostW, ← List.map_take, ← List.map_drop, ↓reduceIte, reduceCtorEq, Nat.reduceEqDiff, forall_const, implies_true, Nat.reduceAdd, Nat.reduceSub, Nat.reduceMul, Nat.reduceLT, Nat.reduceLeDiff, Int.reduceToNat, Int.reduceAdd, Int.reduceSub, Int.reduceNeg, Int.reduceMul, Int.reduceLT, Int.reduceLE, Int.reduceEq]

theorem fits_A (a : Int) (S : Store) : CallA Try.prog 21 [.int .i64 a] S fun r S' => r = .bool (decide (-1099511627776 ≤ a ∧ a ≤ 1099511627776)) ∧ S' = S := by
  refine CallA.keep Try.func21 c21 (Nat.le_of_ble_eq_true rfl) fun σ hσ => ?_
  by_cases h1 : -1099511627776 ≤ a
  · have e : decide (-1099511627776 ≤ a ∧ a ≤ 1099511627776) = decide (a ≤ 1099511627776) := by simp [h1]
    simp only [a21, h1, e, decide_true, ↓evPre, ↓evPreW, evPost, evPostW, ← List.map_take, ← List.map_drop, ↓reduceIte, reduceCtorEq, Nat.reduceEqDiff, forall_const, implies_true, Nat.reduceAdd, Nat.reduceSub, Nat.reduceMul, Nat.reduceLT, Nat.reduceLeDiff, Int.reduceToNat, Int.reduceAdd, Int.reduceSub, Int.reduceNeg, Int.reduceMul, Int.reduceLT, Int.reduceLE, Int.reduceEq]
  · have e : decide (-1099511627776 ≤ a ∧ a ≤ 1099511627776) = false := by simp [h1]
    rw [e]
    simp only [a21, h1, decide_false, ↓evPre, ↓evPreW, evPost, evPostW, ← List.map_take, ← List.map_drop, ↓reduceIte, reduceCtorEq, Nat.reduceEqDiff, forall_const, implies_true, Nat.reduceAdd, Nat.reduceSub, Nat.reduceMul, Nat.reduceLT, Nat.reduceLeDiff, Int.reduceToNat, Int.reduceAdd, Int.reduceSub, Int.reduceNeg, Int.reduceMul, Int.reduceLT, Int.reduceLE, Int.reduceEq]
theorem amount_A (a : Int) (S : Store) : CallA Try.prog 24 [.int .i64 a] S fun r S' => r = .bool (decide (-1099511627776 ≤ a ∧ a ≤ 1099511627776)) ∧ S' = S := by
  refine CallA.keep Try.func24 c24 (Nat.le_of_ble_eq_true rfl) fun σ hσ => ?_
  by_cases h1 : -1099511627776 ≤ a
  · have e : decide (-1099511627776 ≤ a ∧ a ≤ 1099511627776) = decide (a ≤ 1099511627776) := by simp [h1]
    simp only [a24, h1, e, decide_true, ↓evPre, ↓evPreW, evPost, evPostW, ← List.map_take, ← List.map_drop, ↓reduceIte, reduceCtorEq, Nat.reduceEqDiff, forall_const, implies_true, Nat.reduceAdd, Nat.reduceSub, Nat.reduceMul, Nat.reduceLT, Nat.reduceLeDiff, Int.reduceToNat, Int.reduceAdd, Int.reduceSub, Int.reduceNeg, Int.reduceMul, Int.reduceLT, Int.reduceLE, Int.reduceEq]
  · have e : decide (-1099511627776 ≤ a ∧ a ≤ 1099511627776) = false := by simp [h1]
    rw [e]
    simp only [a24, h1, decide_false, ↓evPre, ↓evPreW, evPost, evPostW, ← List.map_take, ← List.map_drop, ↓reduceIte, reduceCtorEq, Nat.reduceEqDiff, forall_const, implies_true, Nat.reduceAdd, Nat.reduceSub, Nat.reduceMul, Nat.reduceLT, Nat.reduceLeDiff, Int.reduceToNat, Int.reduceAdd, Int.reduceSub, Int.reduceNeg, Int.reduceMul, Int.reduceLT, Int.reduceLE, Int.reduceEq]

theorem wrap_u64_neg {a : Int} (h0 : a < 0) (h1 : -18446744073709551616 ≤ a) : IntKind.u64.wrap a = a + 18446744073709551616 := by
  simp [IntKind.wrap, IntKind.bits, IntKind.signed]
  omega

theorem msize_A (a : Int) (S : Store) (h0 : -1099511627776 ≤ a) (h1 : a ≤ 1099511627776) : CallA Try.prog 23 [.int .i64 a] S fun r S' => r = .int .u64 (a.natAbs : Int) ∧ S' = S := by
  refine CallA.keep Try.func23 c23 (Nat.le_of_ble_eq_true rfl) fun σ hσ => ?_
  by_cases h : a < 0
  · have e : 0 - (a + 18446744073709551616) = -18446744073709551616 - a := by omega
    have e2 : IntKind.u64.wrap (-18446744073709551616 - a) = (a.natAbs : Int) := by rw [wrap_u64_neg (by omega) (by omega)]; omega
    simp (disch := omega) only [a23, h, wrap_u64_neg, e, e2, decide_true, ↓evPre, ↓evPreW, evPost, evPostW, ← List.map_take, ← List.map_drop, ↓reduceIte, reduceCtorEq, Nat.reduceEqDiff, forall_const, implies_true, Nat.reduceAdd, Nat.reduceSub, Nat.reduceMul, Nat.reduceLT, Nat.reduceLeDiff, Int.reduceToNat, Int.reduceAdd, Int.reduceSub, Int.reduceNeg, Int.reduceMul, Int.reduceLT, Int.reduceLE, Int.reduceEq]
  · have e : a = (a.natAbs : Int) := by omega
    generalize a.natAbs = n at e
    subst e
    simp (disch := omega) only [a23, h, wrap_u64, decide_false, ↓evPre, ↓evPreW, evPost, evPostW, ← List.map_take, ← List.map_drop, ↓reduceIte, reduceCtorEq, Nat.reduceEqDiff, forall_const, implies_true, Nat.reduceAdd, Nat.reduceSub, Nat.reduceMul, Nat.reduceLT, Nat.reduceLeDiff, Int.reduceToNat, Int.reduceAdd, Int.reduceSub, Int.reduceNeg, Int.reduceMul, Int.reduceLT, Int.reduceLE, Int.reduceEq]
theorem rsize_A (a : Int) (S : Store) (h0 : -1099511627776 ≤ a) (h1 : a ≤ 1099511627776) : CallA Try.prog 26 [.int .i64 a] S fun r S' => r = .int .i64 (a.natAbs : Int) ∧ S' = S := by
  refine CallA.keep Try.func26 c26 (Nat.le_of_ble_eq_true rfl) fun σ hσ => ?_
  by_cases h : a < 0
  · have e : 0 - a = (a.natAbs : Int) := by omega
    simp (disch := omega) only [a26, h, e, wrap_i64, decide_true, ↓evPre, ↓evPreW, evPost, evPostW, ← List.map_take, ← List.map_drop, ↓reduceIte, reduceCtorEq, Nat.reduceEqDiff, forall_const, implies_true, Nat.reduceAdd, Nat.reduceSub, Nat.reduceMul, Nat.reduceLT, Nat.reduceLeDiff, Int.reduceToNat, Int.reduceAdd, Int.reduceSub, Int.reduceNeg, Int.reduceMul, Int.reduceLT, Int.reduceLE, Int.reduceEq]
  · have e : a = (a.natAbs : Int) := by omega
    generalize a.natAbs = n at e
    subst e
    simp (disch := omega) only [a26, h, wrap_i64, decide_false, ↓evPre, ↓evPreW, evPost, evPostW, ← List.map_take, ← List.map_drop, ↓reduceIte, reduceCtorEq, Nat.reduceEqDiff, forall_const, implies_true, Nat.reduceAdd, Nat.reduceSub, Nat.reduceMul, Nat.reduceLT, Nat.reduceLeDiff, Int.reduceToNat, Int.reduceAdd, Int.reduceSub, Int.reduceNeg, Int.reduceMul, Int.reduceLT, Int.reduceLE, Int.reduceEq]

theorem scale_A (a b : Nat) (S : Store) (ha : a ≤ 1099511627776) (hb : b ≤ 12500) : CallA Try.prog 22 [.int .u64 a, .int .u64 b, .int .u64 10000] S fun r S' => r = .tup [.int .u64 ((a * b / 10000 : Nat) : Int), .int .u64 ((a * b % 10000 : Nat) : Int), .bool true] ∧ S' = S := by
  refine CallA.keep Try.func22 c22 (Nat.le_of_ble_eq_true rfl) fun σ hσ => ?_
  have q2 : a * b ≤ 1099511627776 * 12500 := Nat.mul_le_mul ha hb
  have h0 : ¬ (10000 : Int) ≤ 0 := by omega
  simp only [a22, ↓evPre, ↓evPreW, evPost, evPostW, ← List.map_take, ← List.map_drop, ↓reduceIte, reduceCtorEq, Nat.reduceEqDiff, forall_const, implies_true, Nat.reduceAdd, Nat.reduceSub, Nat.reduceMul, Nat.reduceLT, Nat.reduceLeDiff, Int.reduceToNat, Int.reduceAdd, Int.reduceSub, Int.reduceNeg, Int.reduceMul, Int.reduceLT, Int.reduceLE, Int.reduceEq]
  refine (mul64_A a b S ha hb).then ?_
  simp only [h0, decide_false, ↓evPre, ↓evPreW, evPost, evPostW, ← List.map_take, ← List.map_drop, ↓reduceIte, reduceCtorEq, Nat.reduceEqDiff, forall_const, implies_true, Nat.reduceAdd, Nat.reduceSub, Nat.reduceMul, Nat.reduceLT, Nat.reduceLeDiff, Int.reduceToNat, Int.reduceAdd, Int.reduceSub, Int.reduceNeg, Int.reduceMul, Int.reduceLT, Int.reduceLE, Int.reduceEq]
  refine (div64_A (a * b) 10000 S (by omega) (by omega) (by omega)).then ?_
  simp only [↓evPre, ↓evPreW, evPost, evPostW, ← List.map_take, ← List.map_drop, ↓reduceIte, reduceCtorEq, Nat.reduceEqDiff, forall_const, implies_true, Nat.reduceAdd, Nat.reduceSub, Nat.reduceMul, Nat.reduceLT, Nat.reduceLeDiff, Int.reduceToNat, Int.reduceAdd, Int.reduceSub, Int.reduceNeg, Int.reduceMul, Int.reduceLT, Int.reduceLE, Int.reduceEq]

/-- So many hundredths of a percent, rounded, halves up. -/
def percentF (a h : Int) : Int × Int :=
  if a < -1099511627776 ∨ 1099511627776 < a then (0, 11)
  else if (2 * (a * h) + 10000) / 20000 < -1099511627776 ∨ 1099511627776 < (2 * (a * h) + 10000) / 20000 then (0, 11)
  else ((2 * (a * h) + 10000) / 20000, 0)

theorem percent_A (a : Int) (h : Nat) (S : Store) (hh : h ≤ 12500) : CallA Try.prog 15 [.int .i64 a, .int .i64 h] S fun r S' => r = .tup [.int .i64 (percentF a h).1, .int .i64 (percentF a h).2] ∧ S' = S := by
  refine CallA.keep Try.func15 c15 (Nat.le_of_ble_eq_true rfl) fun σ hσ => ?_
  have hf : decide (-1099511627776 ≤ (h : Int) ∧ (h : Int) ≤ 1099511627776) = true := by simp; omega
  simp only [a15, ↓evPre, ↓evPreW, evPost, evPostW, ← List.map_take, ← List.map_drop, ↓reduceIte, reduceCtorEq, Nat.reduceEqDiff, forall_const, implies_true, Nat.reduceAdd, Nat.reduceSub, Nat.reduceMul, Nat.reduceLT, Nat.reduceLeDiff, Int.reduceToNat, Int.reduceAdd, Int.reduceSub, Int.reduceNeg, Int.reduceMul, Int.reduceLT, Int.reduceLE, Int.reduceEq]
  refine (fits_A a S).then ?_
  by_cases hr : -1099511627776 ≤ a ∧ a ≤ 1099511627776
  · obtain ⟨r1, r2⟩ := hr
    simp only [r1, r2, and_self, decide_true, ↓evPre, ↓evPreW, evPost, evPostW, ← List.map_take, ← List.map_drop, ↓reduceIte, reduceCtorEq, Nat.reduceEqDiff, forall_const, implies_true, Nat.reduceAdd, Nat.reduceSub, Nat.reduceMul, Nat.reduceLT, Nat.reduceLeDiff, Int.reduceToNat, Int.reduceAdd, Int.reduceSub, Int.reduceNeg, Int.reduceMul, Int.reduceLT, Int.reduceLE, Int.reduceEq]
    refine (fits_A h S).then ?_
    simp only [hf, ↓evPre, ↓evPreW, evPost, evPostW, ← List.map_take, ← List.map_drop, ↓reduceIte, reduceCtorEq, Nat.reduceEqDiff, forall_const, implies_true, Nat.reduceAdd, Nat.reduceSub, Nat.reduceMul, Nat.reduceLT, Nat.reduceLeDiff, Int.reduceToNat, Int.reduceAdd, Int.reduceSub, Int.reduceNeg, Int.reduceMul, Int.reduceLT, Int.reduceLE, Int.reduceEq]
    refine (msize_A a S r1 r2).then ?_
    simp only [↓evPre, ↓evPreW, evPost, evPostW, ← List.map_take, ← List.map_drop, ↓reduceIte, reduceCtorEq, Nat.reduceEqDiff, forall_const, implies_true, Nat.reduceAdd, Nat.reduceSub, Nat.reduceMul, Nat.reduceLT, Nat.reduceLeDiff, Int.reduceToNat, Int.reduceAdd, Int.reduceSub, Int.reduceNeg, Int.reduceMul, Int.reduceLT, Int.reduceLE, Int.reduceEq]
    refine (msize_A h S (by omega) (by omega)).then ?_
    simp only [Int.natAbs_natCast, ↓evPre, ↓evPreW, evPost, evPostW, ← List.map_take, ← List.map_drop, ↓reduceIte, reduceCtorEq, Nat.reduceEqDiff, forall_const, implies_true, Nat.reduceAdd, Nat.reduceSub, Nat.reduceMul, Nat.reduceLT, Nat.reduceLeDiff, Int.reduceToNat, Int.reduceAdd, Int.reduceSub, Int.reduceNeg, Int.reduceMul, Int.reduceLT, Int.reduceLE, Int.reduceEq]
    refine (scale_A a.natAbs h S (by omega) hh).then ?_
    have hng : ¬ (h : Int) < 0 := by omega
    have hw : a.natAbs * h ≤ 1099511627776 * 12500 := Nat.mul_le_mul (by omega) hh
    have hah : (a < 0 → a * (h : Int) = -((a.natAbs * h : Nat) : Int)) ∧ (¬ a < 0 → a * (h : Int) = ((a.natAbs * h : Nat) : Int)) := by
      refine ⟨fun hn => ?_, fun hn => ?_⟩
      · have e : a = -(a.natAbs : Int) := by omega
        rw [Int.natCast_mul, ← Int.neg_mul, ← e]
      · have e : a = (a.natAbs : Int) := by omega
        rw [Int.natCast_mul, ← e]
    have pcOver : ((2 * (a * (h : Int)) + 10000) / 20000 < -1099511627776 ∨ 1099511627776 < (2 * (a * (h : Int)) + 10000) / 20000) → percentF a h = (0, 11) := fun hc => by
      unfold percentF
      rw [if_neg (by omega), if_pos hc]
    have pcOk : ∀ n : Int, n = (2 * (a * (h : Int)) + 10000) / 20000 → -1099511627776 ≤ n → n ≤ 1099511627776 → percentF a h = (n, 0) := fun n hn h1 h2 => by
      unfold percentF
      rw [if_neg (by omega), if_neg (by omega), hn]
    generalize a.natAbs * h = w at hw hah
    generalize a * (h : Int) = x at hah pcOver pcOk
    have pcOver' : ((2 * x + 10000) / 20000 < -1099511627776 ∨ 1099511627776 < (2 * x + 10000) / 20000) → V.tup [V.int IntKind.i64 0, V.int IntKind.i64 11] = V.tup [V.int IntKind.i64 (percentF a h).1, V.int IntKind.i64 (percentF a h).2] := fun hc => by rw [pcOver hc]
    have pcOk' : ∀ n : Int, n = (2 * x + 10000) / 20000 → -1099511627776 ≤ n → n ≤ 1099511627776 → V.tup [V.int IntKind.i64 n, V.int IntKind.i64 0] = V.tup [V.int IntKind.i64 (percentF a h).1, V.int IntKind.i64 (percentF a h).2] := fun n h1 h2 h3 => by rw [pcOk n h1 h2 h3]
    have hwr : IntKind.u64.wrap (((w / 10000 : Nat) : Int) + 1) = ((w / 10000 : Nat) : Int) + 1 := wrap_u64 (by omega) (by omega)
    clear pcOver pcOk
    generalize percentF a h = pf at pcOver' pcOk'
    by_cases ha : a < 0
    · have hx := hah.1 ha
      simp only [hng, ha, decide_true, decide_false, hwr, show (true == false) = false from rfl, ↓evPre, ↓evPreW, evPost, evPostW, ← List.map_take, ← List.map_drop, ↓reduceIte, reduceCtorEq, Nat.reduceEqDiff, forall_const, implies_true, Nat.reduceAdd, Nat.reduceSub, Nat.reduceMul, Nat.reduceLT, Nat.reduceLeDiff, Int.reduceToNat, Int.reduceAdd, Int.reduceSub, Int.reduceNeg, Int.reduceMul, Int.reduceLT, Int.reduceLE, Int.reduceEq]
      repeat' first
        | intro _
        | refine And.intro ?_ ?_
      all_goals first
        | (exfalso; rename_i hc; exact Bool.noConfusion hc)
        | (refine pcOver' ?_; omega)
        | (simp (disch := omega) only [wrap_u64, wrap_i64]; refine pcOk' _ ?_ ?_ ?_ <;> omega)
        | omega
    · have hx := hah.2 ha
      simp only [hng, ha, decide_true, decide_false, hwr, show (false == false) = true from rfl, ↓evPre, ↓evPreW, evPost, evPostW, ← List.map_take, ← List.map_drop, ↓reduceIte, reduceCtorEq, Nat.reduceEqDiff, forall_const, implies_true, Nat.reduceAdd, Nat.reduceSub, Nat.reduceMul, Nat.reduceLT, Nat.reduceLeDiff, Int.reduceToNat, Int.reduceAdd, Int.reduceSub, Int.reduceNeg, Int.reduceMul, Int.reduceLT, Int.reduceLE, Int.reduceEq]
      repeat' first
        | intro _
        | refine And.intro ?_ ?_
      all_goals first
        | (exfalso; rename_i hc; exact Bool.noConfusion hc)
        | (refine pcOver' ?_; omega)
        | (simp (disch := omega) only [wrap_u64, wrap_i64]; refine pcOk' _ ?_ ?_ ?_ <;> omega)
        | omega
  · have e : percentF a h = (0, 11) := if_pos (by omega)
    have hd : decide (-1099511627776 ≤ a ∧ a ≤ 1099511627776) = false := by simpa using hr
    simp only [hd, e, ↓evPre, ↓evPreW, evPost, evPostW, ← List.map_take, ← List.map_drop, ↓reduceIte, reduceCtorEq, Nat.reduceEqDiff, forall_const, implies_true, Nat.reduceAdd, Nat.reduceSub, Nat.reduceMul, Nat.reduceLT, Nat.reduceLeDiff, Int.reduceToNat, Int.reduceAdd, Int.reduceSub, Int.reduceNeg, Int.reduceMul, Int.reduceLT, Int.reduceLE, Int.reduceEq]
end Go.Proofs.Ytbbjjnhcbfdhlaa
