/- The law on the least surcharge. -/
import Derived.Test.YtbbjjnhcbfdhlaaMil10
namespace Go.Proofs.Ytbbjjnhcbfdhlaa
open Go Go.AL
set_option linter.unusedSimpArgs false
set_option linter.unusedVariables false
set_option maxRecDepth 20000
set_option maxHeartbeats 4000000

def LevOk (m n : Int) (r : Int × Int) : Prop :=
  (r = (0, 22) ∧ n * 125 < m * 100) ∨ (r = (0, 0) ∧ m * 100 ≤ n * 100) ∨ (r = (5, 0) ∧ n * 100 < m * 100 ∧ m * 100 ≤ n * 105) ∨ (r = (10, 0) ∧ n * 105 < m * 100 ∧ m * 100 ≤ n * 110) ∨
    (r = (15, 0) ∧ n * 110 < m * 100 ∧ m * 100 ≤ n * 115) ∨ (r = (20, 0) ∧ n * 115 < m * 100 ∧ m * 100 ≤ n * 120) ∨ (r = (25, 0) ∧ n * 120 < m * 100 ∧ m * 100 ≤ n * 125)
theorem lev_ok {m n : Int} (h0 : 0 ≤ m) (h1 : m ≤ 1099511627776) (h2 : 1 ≤ n) (h3 : n ≤ 1099511627776) : LevOk m n (levF m n) := by
  unfold LevOk levF
  rw [if_neg (by omega)]
  by_cases c1 : m * 100 ≤ n * 100
  · rw [if_pos c1]; exact .inr (.inl ⟨rfl, c1⟩)
  rw [if_neg c1]
  by_cases c2 : m * 100 ≤ n * 105
  · rw [if_pos c2]; exact .inr (.inr (.inl ⟨rfl, by omega, c2⟩))
  rw [if_neg c2]
  by_cases c3 : m * 100 ≤ n * 110
  · rw [if_pos c3]; exact .inr (.inr (.inr (.inl ⟨rfl, by omega, c3⟩)))
  rw [if_neg c3]
  by_cases c4 : m * 100 ≤ n * 115
  · rw [if_pos c4]; exact .inr (.inr (.inr (.inr (.inl ⟨rfl, by omega, c4⟩))))
  rw [if_neg c4]
  by_cases c5 : m * 100 ≤ n * 120
  · rw [if_pos c5]; exact .inr (.inr (.inr (.inr (.inr (.inl ⟨rfl, by omega, c5⟩)))))
  rw [if_neg c5]
  by_cases c6 : m * 100 ≤ n * 125
  · rw [if_pos c6]; exact .inr (.inr (.inr (.inr (.inr (.inr ⟨rfl, by omega, c6⟩)))))
  rw [if_neg c6]
  exact .inl ⟨rfl, by omega⟩

/-- What is known of three levels. -/
theorem lev_three {m n : Int} {A B C : Int × Int} (hn : 1 ≤ n) (hm : 0 ≤ m) (ha : LevOk m n A) (hb : LevOk (m + 1) n B) (hc : LevOk m (n + 1) C) :
    (A = (0, 22) ∧ B = (0, 22) ∧ n * 125 < m * 100) ∨ (A.2 = 0 ∧ stepP A.1 ∧ (¬ B.2 = 0 ∨ ¬ B.1 < A.1) ∧ C.2 = 0 ∧ ¬ A.1 < C.1) := by
  unfold LevOk at ha hb hc
  rcases ha with ⟨rfl, a1⟩ | ⟨rfl, a1⟩ | ⟨rfl, a1, a2⟩ | ⟨rfl, a1, a2⟩ | ⟨rfl, a1, a2⟩ | ⟨rfl, a1, a2⟩ | ⟨rfl, a1, a2⟩
  · left
    rcases hb with ⟨rfl, b1⟩ | ⟨rfl, b1⟩ | ⟨rfl, b1, b2⟩ | ⟨rfl, b1, b2⟩ | ⟨rfl, b1, b2⟩ | ⟨rfl, b1, b2⟩ | ⟨rfl, b1, b2⟩
    · exact ⟨rfl, rfl, a1⟩
    all_goals omega
  all_goals
    right
    refine ⟨rfl, by unfold stepP; omega, ?_, ?_⟩
    · rcases hb with ⟨rfl, b1⟩ | ⟨rfl, b1⟩ | ⟨rfl, b1, b2⟩ | ⟨rfl, b1, b2⟩ | ⟨rfl, b1, b2⟩ | ⟨rfl, b1, b2⟩ | ⟨rfl, b1, b2⟩
      all_goals first
        | exact .inl (by decide)
        | exact .inr (by decide)
        | (exfalso; omega)
    · rcases hc with ⟨rfl, b1⟩ | ⟨rfl, b1⟩ | ⟨rfl, b1, b2⟩ | ⟨rfl, b1, b2⟩ | ⟨rfl, b1, b2⟩ | ⟨rfl, b1, b2⟩ | ⟨rfl, b1, b2⟩
      all_goals first
        | exact ⟨by decide, by decide⟩
        | (exfalso; omega)

def xF (a p : Int) : Int := (2 * (a * ((100 + p) * 100)) + 10000) / 20000
theorem apply_x {a p : Int} (h0 : -2147483648 ≤ a) (h1 : a ≤ 2147483647) (hp : stepP p) : applyF a p = (xF a p, 0) := by
  unfold applyF percentF xF
  rw [if_pos hp, if_neg (by omega)]
  rw [if_neg]
  unfold stepP at hp
  rcases hp with rfl | rfl | rfl | rfl | rfl | rfl <;> omega

theorem law_least (m0 n0 q : Int) (S : Store) (hm0 : 0 ≤ m0) (hm1 : m0 ≤ 4294967295) (hn0 : 0 ≤ n0) (hn1 : n0 ≤ 4294967295) (hq0 : -2147483648 ≤ q) (hq1 : q ≤ 2147483647) :
    CallA Try.prog 5 [.int .u32 m0, .int .u32 n0, .int .i32 q] S fun r S' => r = .bool true ∧ S' = S := by
  refine CallA.keep Try.func5 c5 (Nat.le_of_ble_eq_true rfl) fun σ hσ => ?_
  have hA := lev_ok (m := m0) (n := n0 + 1) (by omega) (by omega) (by omega) (by omega)
  have hB := lev_ok (m := m0 + 1) (n := n0 + 1) (by omega) (by omega) (by omega) (by omega)
  have hC := lev_ok (m := m0) (n := n0 + 1 + 1) (by omega) (by omega) (by omega) (by omega)
  have h3 := lev_three (by omega) hm0 hA hB hC
  have lA := level_A m0 (n0 + 1) S
  have lB := level_A (m0 + 1) (n0 + 1) S
  have lC := level_A m0 (n0 + 1 + 1) S
  generalize levF m0 (n0 + 1) = A at *
  generalize levF (m0 + 1) (n0 + 1) = B at *
  generalize levF m0 (n0 + 1 + 1) = C at *
  simp (disch := omega) only [a5, wrap_i64, ↓evPre, ↓evPreW, evPost, evPostW, ← List.map_take, ← List.map_drop, ↓reduceIte, reduceCtorEq, Nat.reduceEqDiff, forall_const, implies_true, Nat.reduceAdd, Nat.reduceSub, Nat.reduceMul, Nat.reduceLT, Nat.reduceLeDiff, Int.reduceToNat, Int.reduceAdd, Int.reduceSub, Int.reduceNeg, Int.reduceMul, Int.reduceLT, Int.reduceLE, Int.reduceEq]
  refine lA.then ?_
  simp (disch := omega) only [wrap_i64, ↓evPre, ↓evPreW, evPost, evPostW, ← List.map_take, ← List.map_drop, ↓reduceIte, reduceCtorEq, Nat.reduceEqDiff, forall_const, implies_true, Nat.reduceAdd, Nat.reduceSub, Nat.reduceMul, Nat.reduceLT, Nat.reduceLeDiff, Int.reduceToNat, Int.reduceAdd, Int.reduceSub, Int.reduceNeg, Int.reduceMul, Int.reduceLT, Int.reduceLE, Int.reduceEq]
  refine lB.then ?_
  simp (disch := omega) only [wrap_i64, ↓evPre, ↓evPreW, evPost, evPostW, ← List.map_take, ← List.map_drop, ↓reduceIte, reduceCtorEq, Nat.reduceEqDiff, forall_const, implies_true, Nat.reduceAdd, Nat.reduceSub, Nat.reduceMul, Nat.reduceLT, Nat.reduceLeDiff, Int.reduceToNat, Int.reduceAdd, Int.reduceSub, Int.reduceNeg, Int.reduceMul, Int.reduceLT, Int.reduceLE, Int.reduceEq]
  refine lC.then ?_
  rcases h3 with ⟨rfl, rfl, h4⟩ | ⟨g1, g2, g3, g4, g5⟩
  · have h4' : (n0 + 1) * 125 < m0 * 100 := h4
    simp (disch := omega) only [h4', wrap_i64, eq_self, decide_true, decide_false, Int.reduceAdd, Int.reduceMul, Int.reduceLT, Int.reduceLE, Int.reduceEq, ↓evPre, ↓evPreW, evPost, evPostW, ← List.map_take, ← List.map_drop, ↓reduceIte, reduceCtorEq, Nat.reduceEqDiff, forall_const, implies_true, Nat.reduceAdd, Nat.reduceSub, Nat.reduceMul, Nat.reduceLT, Nat.reduceLeDiff, Int.reduceToNat, Int.reduceAdd, Int.reduceSub, Int.reduceNeg, Int.reduceMul, Int.reduceLT, Int.reduceLE, Int.reduceEq]
    refine (knows_A S).then ?_
    simp only [↓evPre, ↓evPreW, evPost, evPostW, ← List.map_take, ← List.map_drop, ↓reduceIte, reduceCtorEq, Nat.reduceEqDiff, forall_const, implies_true, Nat.reduceAdd, Nat.reduceSub, Nat.reduceMul, Nat.reduceLT, Nat.reduceLeDiff, Int.reduceToNat, Int.reduceAdd, Int.reduceSub, Int.reduceNeg, Int.reduceMul, Int.reduceLT, Int.reduceLE, Int.reduceEq]
  · obtain ⟨a, e⟩ := A
    obtain ⟨b, f⟩ := B
    obtain ⟨c, g⟩ := C
    simp only at g1 g2 g3 g4 g5
    subst g1 g4
    unfold LevOk at hA
    simp only [Prod.mk.injEq] at hA
    unfold stepP at g2
    have f1 : ¬ a < 0 := by omega
    have f2 : ¬ 25 < a := by omega
    have hr : a.tmod 5 = 0 := by rw [Int.tmod_eq_emod_of_nonneg (by omega)]; omega
    have hp1 : 0 ≤ (n0 + 1) * (100 + a) ∧ (n0 + 1) * (100 + a) ≤ 9999999999999 := by rcases g2 with rfl | rfl | rfl | rfl | rfl | rfl <;> omega
    have hp2 : 0 ≤ (n0 + 1) * (95 + a) ∧ (n0 + 1) * (95 + a) ≤ 9999999999999 := by rcases g2 with rfl | rfl | rfl | rfl | rfl | rfl <;> omega
    have hcmp : ¬ (n0 + 1) * (100 + a) < m0 * 100 := by rcases g2 with rfl | rfl | rfl | rfl | rfl | rfl <;> omega
    have hz : ¬ 0 < a ∨ (0 < a ∧ ¬ m0 * 100 ≤ (n0 + 1) * (95 + a)) := by rcases g2 with rfl | rfl | rfl | rfl | rfl | rfl <;> omega
    have h5 : (5 : Int) ≠ 0 := by decide
    have hf : (decide (f = 0) = true ∧ decide (b < a) = false) ∨ decide (f = 0) = false := by
      by_cases hf0 : f = 0
      · left; exact ⟨by simp [hf0], by simp; omega⟩
      · right; simp [hf0]
    generalize hg1 : (n0 + 1) * (100 + a) = p1 at *
    generalize hg2 : (n0 + 1) * (95 + a) = p2 at *
    clear hA hB hC lA lB lC
    rcases hf with ⟨hf1, hf2⟩ | hf1
    · rcases hz with hz | ⟨hz, hz2⟩
      · simp (disch := omega) only [hg1, hg2, f1, f2, hcmp, hz, hf1, hf2, hr, g5, bi_rem h5, wrap_i64, eq_self, decide_true, decide_false, Int.reduceAdd, Int.reduceMul, Int.reduceLT, Int.reduceLE, Int.reduceEq, ↓evPre, ↓evPreW, evPost, evPostW, ← List.map_take, ← List.map_drop, ↓reduceIte, reduceCtorEq, Nat.reduceEqDiff, forall_const, implies_true, Nat.reduceAdd, Nat.reduceSub, Nat.reduceMul, Nat.reduceLT, Nat.reduceLeDiff, Int.reduceToNat, Int.reduceAdd, Int.reduceSub, Int.reduceNeg, Int.reduceMul, Int.reduceLT, Int.reduceLE, Int.reduceEq]
        refine loopA (ι := Int × Int) (fun i => [(2, .int .i32 q), (15, .int .i64 i.2), (16, .int .i64 i.1)]) (fun _ => S) (fun i => (i.1 = 0 ∧ i.2 = q) ∨ (i.1 = 5 ∧ i.2 = xF q 0) ∨ (i.1 = 10 ∧ i.2 = xF q 5) ∨ (i.1 = 15 ∧ i.2 = xF q 10) ∨ (i.1 = 20 ∧ i.2 = xF q 15) ∨ (i.1 = 25 ∧ i.2 = xF q 20) ∨ (i.1 = 30 ∧ i.2 = xF q 25)) (fun i => (30 - i.1).toNat) (0, q) (.inl ⟨rfl, rfl⟩) ?_ rfl ?_
        · simp only [↓evPre, ↓evPreW, evPost, evPostW, ← List.map_take, ← List.map_drop, ↓reduceIte, reduceCtorEq, Nat.reduceEqDiff, forall_const, implies_true, Nat.reduceAdd, Nat.reduceSub, Nat.reduceMul, Nat.reduceLT, Nat.reduceLeDiff, Int.reduceToNat, Int.reduceAdd, Int.reduceSub, Int.reduceNeg, Int.reduceMul, Int.reduceLT, Int.reduceLE, Int.reduceEq]
        · rintro ⟨i, last⟩ hi
          simp only at hi ⊢
          by_cases h25 : i ≤ 25
          · have hsp : stepP i := by unfold stepP; omega
            have hap := apply_A q i S
            rw [apply_x hq0 hq1 hsp] at hap
            have hx : (0 ≤ q → ¬ xF q i < last) ∧ (q < 0 → ¬ last < xF q i) := by
              unfold xF at hi ⊢
              rcases hi with ⟨rfl, rfl⟩ | ⟨rfl, rfl⟩ | ⟨rfl, rfl⟩ | ⟨rfl, rfl⟩ | ⟨rfl, rfl⟩ | ⟨rfl, rfl⟩ | ⟨rfl, rfl⟩ <;> omega
            have hnx : ∃ i' : Int × Int, ((i'.1 = 0 ∧ i'.2 = q) ∨ (i'.1 = 5 ∧ i'.2 = xF q 0) ∨ (i'.1 = 10 ∧ i'.2 = xF q 5) ∨ (i'.1 = 15 ∧ i'.2 = xF q 10) ∨ (i'.1 = 20 ∧ i'.2 = xF q 15) ∨ (i'.1 = 25 ∧ i'.2 = xF q 20) ∨ (i'.1 = 30 ∧ i'.2 = xF q 25)) ∧ (30 - i'.1).toNat < (30 - i).toNat ∧ xF q i = i'.2 ∧ i + 5 = i'.1 := by
              refine ⟨(i + 5, xF q i), ?_, by simp only; omega, rfl, rfl⟩
              simp only
              unfold stepP at hsp
              rcases hsp with rfl | rfl | rfl | rfl | rfl | rfl <;> simp
            simp (disch := omega) only [h25, wrap_i64, decide_true, decide_false, ↓evPre, ↓evPreW, evPost, evPostW, ← List.map_take, ← List.map_drop, ↓reduceIte, reduceCtorEq, Nat.reduceEqDiff, forall_const, implies_true, Nat.reduceAdd, Nat.reduceSub, Nat.reduceMul, Nat.reduceLT, Nat.reduceLeDiff, Int.reduceToNat, Int.reduceAdd, Int.reduceSub, Int.reduceNeg, Int.reduceMul, Int.reduceLT, Int.reduceLE, Int.reduceEq]
            refine hap.then ?_
            by_cases hq : 0 ≤ q
            · have hq' : ¬ q < 0 := by omega
              have hx1 := hx.1 hq
              simp (disch := omega) only [hq, hq', hx1, wrap_i64, decide_true, decide_false, ↓evPre, ↓evPreW, evPost, evPostW, ← List.map_take, ← List.map_drop, ↓reduceIte, reduceCtorEq, Nat.reduceEqDiff, forall_const, implies_true, Nat.reduceAdd, Nat.reduceSub, Nat.reduceMul, Nat.reduceLT, Nat.reduceLeDiff, Int.reduceToNat, Int.reduceAdd, Int.reduceSub, Int.reduceNeg, Int.reduceMul, Int.reduceLT, Int.reduceLE, Int.reduceEq]
              exact hnx
            · have hq' : q < 0 := by omega
              have hx1 := hx.2 hq'
              simp (disch := omega) only [hq, hq', hx1, wrap_i64, decide_true, decide_false, ↓evPre, ↓evPreW, evPost, evPostW, ← List.map_take, ← List.map_drop, ↓reduceIte, reduceCtorEq, Nat.reduceEqDiff, forall_const, implies_true, Nat.reduceAdd, Nat.reduceSub, Nat.reduceMul, Nat.reduceLT, Nat.reduceLeDiff, Int.reduceToNat, Int.reduceAdd, Int.reduceSub, Int.reduceNeg, Int.reduceMul, Int.reduceLT, Int.reduceLE, Int.reduceEq]
              exact hnx
          · simp (disch := omega) only [h25, wrap_i64, decide_true, decide_false, ↓evPre, ↓evPreW, evPost, evPostW, ← List.map_take, ← List.map_drop, ↓reduceIte, reduceCtorEq, Nat.reduceEqDiff, forall_const, implies_true, Nat.reduceAdd, Nat.reduceSub, Nat.reduceMul, Nat.reduceLT, Nat.reduceLeDiff, Int.reduceToNat, Int.reduceAdd, Int.reduceSub, Int.reduceNeg, Int.reduceMul, Int.reduceLT, Int.reduceLE, Int.reduceEq]
            refine (knows_A S).then ?_
            simp only [↓evPre, ↓evPreW, evPost, evPostW, ← List.map_take, ← List.map_drop, ↓reduceIte, reduceCtorEq, Nat.reduceEqDiff, forall_const, implies_true, Nat.reduceAdd, Nat.reduceSub, Nat.reduceMul, Nat.reduceLT, Nat.reduceLeDiff, Int.reduceToNat, Int.reduceAdd, Int.reduceSub, Int.reduceNeg, Int.reduceMul, Int.reduceLT, Int.reduceLE, Int.reduceEq]
      · simp (disch := omega) only [hg1, hg2, f1, f2, hcmp, hz, hf1, hf2, hz2, hr, g5, bi_rem h5, wrap_i64, eq_self, decide_true, decide_false, Int.reduceAdd, Int.reduceMul, Int.reduceLT, Int.reduceLE, Int.reduceEq, ↓evPre, ↓evPreW, evPost, evPostW, ← List.map_take, ← List.map_drop, ↓reduceIte, reduceCtorEq, Nat.reduceEqDiff, forall_const, implies_true, Nat.reduceAdd, Nat.reduceSub, Nat.reduceMul, Nat.reduceLT, Nat.reduceLeDiff, Int.reduceToNat, Int.reduceAdd, Int.reduceSub, Int.reduceNeg, Int.reduceMul, Int.reduceLT, Int.reduceLE, Int.reduceEq]
        refine loopA (ι := Int × Int) (fun i => [(2, .int .i32 q), (15, .int .i64 i.2), (16, .int .i64 i.1)]) (fun _ => S) (fun i => (i.1 = 0 ∧ i.2 = q) ∨ (i.1 = 5 ∧ i.2 = xF q 0) ∨ (i.1 = 10 ∧ i.2 = xF q 5) ∨ (i.1 = 15 ∧ i.2 = xF q 10) ∨ (i.1 = 20 ∧ i.2 = xF q 15) ∨ (i.1 = 25 ∧ i.2 = xF q 20) ∨ (i.1 = 30 ∧ i.2 = xF q 25)) (fun i => (30 - i.1).toNat) (0, q) (.inl ⟨rfl, rfl⟩) ?_ rfl ?_
        · simp only [↓evPre, ↓evPreW, evPost, evPostW, ← List.map_take, ← List.map_drop, ↓reduceIte, reduceCtorEq, Nat.reduceEqDiff, forall_const, implies_true, Nat.reduceAdd, Nat.reduceSub, Nat.reduceMul, Nat.reduceLT, Nat.reduceLeDiff, Int.reduceToNat, Int.reduceAdd, Int.reduceSub, Int.reduceNeg, Int.reduceMul, Int.reduceLT, Int.reduceLE, Int.reduceEq]
        · rintro ⟨i, last⟩ hi
          simp only at hi ⊢
          by_cases h25 : i ≤ 25
          · have hsp : stepP i := by unfold stepP; omega
            have hap := apply_A q i S
            rw [apply_x hq0 hq1 hsp] at hap
            have hx : (0 ≤ q → ¬ xF q i < last) ∧ (q < 0 → ¬ last < xF q i) := by
              unfold xF at hi ⊢
              rcases hi with ⟨rfl, rfl⟩ | ⟨rfl, rfl⟩ | ⟨rfl, rfl⟩ | ⟨rfl, rfl⟩ | ⟨rfl, rfl⟩ | ⟨rfl, rfl⟩ | ⟨rfl, rfl⟩ <;> omega
            have hnx : ∃ i' : Int × Int, ((i'.1 = 0 ∧ i'.2 = q) ∨ (i'.1 = 5 ∧ i'.2 = xF q 0) ∨ (i'.1 = 10 ∧ i'.2 = xF q 5) ∨ (i'.1 = 15 ∧ i'.2 = xF q 10) ∨ (i'.1 = 20 ∧ i'.2 = xF q 15) ∨ (i'.1 = 25 ∧ i'.2 = xF q 20) ∨ (i'.1 = 30 ∧ i'.2 = xF q 25)) ∧ (30 - i'.1).toNat < (30 - i).toNat ∧ xF q i = i'.2 ∧ i + 5 = i'.1 := by
              refine ⟨(i + 5, xF q i), ?_, by simp only; omega, rfl, rfl⟩
              simp only
              unfold stepP at hsp
              rcases hsp with rfl | rfl | rfl | rfl | rfl | rfl <;> simp
            simp (disch := omega) only [h25, wrap_i64, decide_true, decide_false, ↓evPre, ↓evPreW, evPost, evPostW, ← List.map_take, ← List.map_drop, ↓reduceIte, reduceCtorEq, Nat.reduceEqDiff, forall_const, implies_true, Nat.reduceAdd, Nat.reduceSub, Nat.reduceMul, Nat.reduceLT, Nat.reduceLeDiff, Int.reduceToNat, Int.reduceAdd, Int.reduceSub, Int.reduceNeg, Int.reduceMul, Int.reduceLT, Int.reduceLE, Int.reduceEq]
            refine hap.then ?_
            by_cases hq : 0 ≤ q
            · have hq' : ¬ q < 0 := by omega
              have hx1 := hx.1 hq
              simp (disch := omega) only [hq, hq', hx1, wrap_i64, decide_true, decide_false, ↓evPre, ↓evPreW, evPost, evPostW, ← List.map_take, ← List.map_drop, ↓reduceIte, reduceCtorEq, Nat.reduceEqDiff, forall_const, implies_true, Nat.reduceAdd, Nat.reduceSub, Nat.reduceMul, Nat.reduceLT, Nat.reduceLeDiff, Int.reduceToNat, Int.reduceAdd, Int.reduceSub, Int.reduceNeg, Int.reduceMul, Int.reduceLT, Int.reduceLE, Int.reduceEq]
              exact hnx
            · have hq' : q < 0 := by omega
              have hx1 := hx.2 hq'
              simp (disch := omega) only [hq, hq', hx1, wrap_i64, decide_true, decide_false, ↓evPre, ↓evPreW, evPost, evPostW, ← List.map_take, ← List.map_drop, ↓reduceIte, reduceCtorEq, Nat.reduceEqDiff, forall_const, implies_true, Nat.reduceAdd, Nat.reduceSub, Nat.reduceMul, Nat.reduceLT, Nat.reduceLeDiff, Int.reduceToNat, Int.reduceAdd, Int.reduceSub, Int.reduceNeg, Int.reduceMul, Int.reduceLT, Int.reduceLE, Int.reduceEq]
              exact hnx
          · simp (disch := omega) only [h25, wrap_i64, decide_true, decide_false, ↓evPre, ↓evPreW, evPost, evPostW, ← List.map_take, ← List.map_drop, ↓reduceIte, reduceCtorEq, Nat.reduceEqDiff, forall_const, implies_true, Nat.reduceAdd, Nat.reduceSub, Nat.reduceMul, Nat.reduceLT, Nat.reduceLeDiff, Int.reduceToNat, Int.reduceAdd, Int.reduceSub, Int.reduceNeg, Int.reduceMul, Int.reduceLT, Int.reduceLE, Int.reduceEq]
            refine (knows_A S).then ?_
            simp only [↓evPre, ↓evPreW, evPost, evPostW, ← List.map_take, ← List.map_drop, ↓reduceIte, reduceCtorEq, Nat.reduceEqDiff, forall_const, implies_true, Nat.reduceAdd, Nat.reduceSub, Nat.reduceMul, Nat.reduceLT, Nat.reduceLeDiff, Int.reduceToNat, Int.reduceAdd, Int.reduceSub, Int.reduceNeg, Int.reduceMul, Int.reduceLT, Int.reduceLE, Int.reduceEq]
    · rcases hz with hz | ⟨hz, hz2⟩
      · simp (disch := omega) only [hg1, hg2, f1, f2, hcmp, hz, hf1, hr, g5, bi_rem h5, wrap_i64, eq_self, decide_true, decide_false, Int.reduceAdd, Int.reduceMul, Int.reduceLT, Int.reduceLE, Int.reduceEq, ↓evPre, ↓evPreW, evPost, evPostW, ← List.map_take, ← List.map_drop, ↓reduceIte, reduceCtorEq, Nat.reduceEqDiff, forall_const, implies_true, Nat.reduceAdd, Nat.reduceSub, Nat.reduceMul, Nat.reduceLT, Nat.reduceLeDiff, Int.reduceToNat, Int.reduceAdd, Int.reduceSub, Int.reduceNeg, Int.reduceMul, Int.reduceLT, Int.reduceLE, Int.reduceEq]
        refine loopA (ι := Int × Int) (fun i => [(2, .int .i32 q), (15, .int .i64 i.2), (16, .int .i64 i.1)]) (fun _ => S) (fun i => (i.1 = 0 ∧ i.2 = q) ∨ (i.1 = 5 ∧ i.2 = xF q 0) ∨ (i.1 = 10 ∧ i.2 = xF q 5) ∨ (i.1 = 15 ∧ i.2 = xF q 10) ∨ (i.1 = 20 ∧ i.2 = xF q 15) ∨ (i.1 = 25 ∧ i.2 = xF q 20) ∨ (i.1 = 30 ∧ i.2 = xF q 25)) (fun i => (30 - i.1).toNat) (0, q) (.inl ⟨rfl, rfl⟩) ?_ rfl ?_
        · simp only [↓evPre, ↓evPreW, evPost, evPostW, ← List.map_take, ← List.map_drop, ↓reduceIte, reduceCtorEq, Nat.reduceEqDiff, forall_const, implies_true, Nat.reduceAdd, Nat.reduceSub, Nat.reduceMul, Nat.reduceLT, Nat.reduceLeDiff, Int.reduceToNat, Int.reduceAdd, Int.reduceSub, Int.reduceNeg, Int.reduceMul, Int.reduceLT, Int.reduceLE, Int.reduceEq]
        · rintro ⟨i, last⟩ hi
          simp only at hi ⊢
          by_cases h25 : i ≤ 25
          · have hsp : stepP i := by unfold stepP; omega
            have hap := apply_A q i S
            rw [apply_x hq0 hq1 hsp] at hap
            have hx : (0 ≤ q → ¬ xF q i < last) ∧ (q < 0 → ¬ last < xF q i) := by
              unfold xF at hi ⊢
              rcases hi with ⟨rfl, rfl⟩ | ⟨rfl, rfl⟩ | ⟨rfl, rfl⟩ | ⟨rfl, rfl⟩ | ⟨rfl, rfl⟩ | ⟨rfl, rfl⟩ | ⟨rfl, rfl⟩ <;> omega
            have hnx : ∃ i' : Int × Int, ((i'.1 = 0 ∧ i'.2 = q) ∨ (i'.1 = 5 ∧ i'.2 = xF q 0) ∨ (i'.1 = 10 ∧ i'.2 = xF q 5) ∨ (i'.1 = 15 ∧ i'.2 = xF q 10) ∨ (i'.1 = 20 ∧ i'.2 = xF q 15) ∨ (i'.1 = 25 ∧ i'.2 = xF q 20) ∨ (i'.1 = 30 ∧ i'.2 = xF q 25)) ∧ (30 - i'.1).toNat < (30 - i).toNat ∧ xF q i = i'.2 ∧ i + 5 = i'.1 := by
              refine ⟨(i + 5, xF q i), ?_, by simp only; omega, rfl, rfl⟩
              simp only
              unfold stepP at hsp
              rcases hsp with rfl | rfl | rfl | rfl | rfl | rfl <;> simp
            simp (disch := omega) only [h25, wrap_i64, decide_true, decide_false, ↓evPre, ↓evPreW, evPost, evPostW, ← List.map_take, ← List.map_drop, ↓reduceIte, reduceCtorEq, Nat.reduceEqDiff, forall_const, implies_true, Nat.reduceAdd, Nat.reduceSub, Nat.reduceMul, Nat.reduceLT, Nat.reduceLeDiff, Int.reduceToNat, Int.reduceAdd, Int.reduceSub, Int.reduceNeg, Int.reduceMul, Int.reduceLT, Int.reduceLE, Int.reduceEq]
            refine hap.then ?_
            by_cases hq : 0 ≤ q
            · have hq' : ¬ q < 0 := by omega
              have hx1 := hx.1 hq
              simp (disch := omega) only [hq, hq', hx1, wrap_i64, decide_true, decide_false, ↓evPre, ↓evPreW, evPost, evPostW, ← List.map_take, ← List.map_drop, ↓reduceIte, reduceCtorEq, Nat.reduceEqDiff, forall_const, implies_true, Nat.reduceAdd, Nat.reduceSub, Nat.reduceMul, Nat.reduceLT, Nat.reduceLeDiff, Int.reduceToNat, Int.reduceAdd, Int.reduceSub, Int.reduceNeg, Int.reduceMul, Int.reduceLT, Int.reduceLE, Int.reduceEq]
              exact hnx
            · have hq' : q < 0 := by omega
              have hx1 := hx.2 hq'
              simp (disch := omega) only [hq, hq', hx1, wrap_i64, decide_true, decide_false, ↓evPre, ↓evPreW, evPost, evPostW, ← List.map_take, ← List.map_drop, ↓reduceIte, reduceCtorEq, Nat.reduceEqDiff, forall_const, implies_true, Nat.reduceAdd, Nat.reduceSub, Nat.reduceMul, Nat.reduceLT, Nat.reduceLeDiff, Int.reduceToNat, Int.reduceAdd, Int.reduceSub, Int.reduceNeg, Int.reduceMul, Int.reduceLT, Int.reduceLE, Int.reduceEq]
              exact hnx
          · simp (disch := omega) only [h25, wrap_i64, decide_true, decide_false, ↓evPre, ↓evPreW, evPost, evPostW, ← List.map_take, ← List.map_drop, ↓reduceIte, reduceCtorEq, Nat.reduceEqDiff, forall_const, implies_true, Nat.reduceAdd, Nat.reduceSub, Nat.reduceMul, Nat.reduceLT, Nat.reduceLeDiff, Int.reduceToNat, Int.reduceAdd, Int.reduceSub, Int.reduceNeg, Int.reduceMul, Int.reduceLT, Int.reduceLE, Int.reduceEq]
            refine (knows_A S).then ?_
            simp only [↓evPre, ↓evPreW, evPost, evPostW, ← List.map_take, ← List.map_drop, ↓reduceIte, reduceCtorEq, Nat.reduceEqDiff, forall_const, implies_true, Nat.reduceAdd, Nat.reduceSub, Nat.reduceMul, Nat.reduceLT, Nat.reduceLeDiff, Int.reduceToNat, Int.reduceAdd, Int.reduceSub, Int.reduceNeg, Int.reduceMul, Int.reduceLT, Int.reduceLE, Int.reduceEq]
      · simp (disch := omega) only [hg1, hg2, f1, f2, hcmp, hz, hf1, hz2, hr, g5, bi_rem h5, wrap_i64, eq_self, decide_true, decide_false, Int.reduceAdd, Int.reduceMul, Int.reduceLT, Int.reduceLE, Int.reduceEq, ↓evPre, ↓evPreW, evPost, evPostW, ← List.map_take, ← List.map_drop, ↓reduceIte, reduceCtorEq, Nat.reduceEqDiff, forall_const, implies_true, Nat.reduceAdd, Nat.reduceSub, Nat.reduceMul, Nat.reduceLT, Nat.reduceLeDiff, Int.reduceToNat, Int.reduceAdd, Int.reduceSub, Int.reduceNeg, Int.reduceMul, Int.reduceLT, Int.reduceLE, Int.reduceEq]
        refine loopA (ι := Int × Int) (fun i => [(2, .int .i32 q), (15, .int .i64 i.2), (16, .int .i64 i.1)]) (fun _ => S) (fun i => (i.1 = 0 ∧ i.2 = q) ∨ (i.1 = 5 ∧ i.2 = xF q 0) ∨ (i.1 = 10 ∧ i.2 = xF q 5) ∨ (i.1 = 15 ∧ i.2 = xF q 10) ∨ (i.1 = 20 ∧ i.2 = xF q 15) ∨ (i.1 = 25 ∧ i.2 = xF q 20) ∨ (i.1 = 30 ∧ i.2 = xF q 25)) (fun i => (30 - i.1).toNat) (0, q) (.inl ⟨rfl, rfl⟩) ?_ rfl ?_
        · simp only [↓evPre, ↓evPreW, evPost, evPostW, ← List.map_take, ← List.map_drop, ↓reduceIte, reduceCtorEq, Nat.reduceEqDiff, forall_const, implies_true, Nat.reduceAdd, Nat.reduceSub, Nat.reduceMul, Nat.reduceLT, Nat.reduceLeDiff, Int.reduceToNat, Int.reduceAdd, Int.reduceSub, Int.reduceNeg, Int.reduceMul, Int.reduceLT, Int.reduceLE, Int.reduceEq]
        · rintro ⟨i, last⟩ hi
          simp only at hi ⊢
          by_cases h25 : i ≤ 25
          · have hsp : stepP i := by unfold stepP; omega
            have hap := apply_A q i S
            rw [apply_x hq0 hq1 hsp] at hap
            have hx : (0 ≤ q → ¬ xF q i < last) ∧ (q < 0 → ¬ last < xF q i) := by
              unfold xF at hi ⊢
              rcases hi with ⟨rfl, rfl⟩ | ⟨rfl, rfl⟩ | ⟨rfl, rfl⟩ | ⟨rfl, rfl⟩ | ⟨rfl, rfl⟩ | ⟨rfl, rfl⟩ | ⟨rfl, rfl⟩ <;> omega
            have hnx : ∃ i' : Int × Int, ((i'.1 = 0 ∧ i'.2 = q) ∨ (i'.1 = 5 ∧ i'.2 = xF q 0) ∨ (i'.1 = 10 ∧ i'.2 = xF q 5) ∨ (i'.1 = 15 ∧ i'.2 = xF q 10) ∨ (i'.1 = 20 ∧ i'.2 = xF q 15) ∨ (i'.1 = 25 ∧ i'.2 = xF q 20) ∨ (i'.1 = 30 ∧ i'.2 = xF q 25)) ∧ (30 - i'.1).toNat < (30 - i).toNat ∧ xF q i = i'.2 ∧ i + 5 = i'.1 := by
              refine ⟨(i + 5, xF q i), ?_, by simp only; omega, rfl, rfl⟩
              simp only
              unfold stepP at hsp
              rcases hsp with rfl | rfl | rfl | rfl | rfl | rfl <;> simp
            simp (disch := omega) only [h25, wrap_i64, decide_true, decide_false, ↓evPre, ↓evPreW, evPost, evPostW, ← List.map_take, ← List.map_drop, ↓reduceIte, reduceCtorEq, Nat.reduceEqDiff, forall_const, implies_true, Nat.reduceAdd, Nat.reduceSub, Nat.reduceMul, Nat.reduceLT, Nat.reduceLeDiff, Int.reduceToNat, Int.reduceAdd, Int.reduceSub, Int.reduceNeg, Int.reduceMul, Int.reduceLT, Int.reduceLE, Int.reduceEq]
            refine hap.then ?_
            by_cases hq : 0 ≤ q
            · have hq' : ¬ q < 0 := by omega
              have hx1 := hx.1 hq
              simp (disch := omega) only [hq, hq', hx1, wrap_i64, decide_true, decide_false, ↓evPre, ↓evPreW, evPost, evPostW, ← List.map_take, ← List.map_drop, ↓reduceIte, reduceCtorEq, Nat.reduceEqDiff, forall_const, implies_true, Nat.reduceAdd, Nat.reduceSub, Nat.reduceMul, Nat.reduceLT, Nat.reduceLeDiff, Int.reduceToNat, Int.reduceAdd, Int.reduceSub, Int.reduceNeg, Int.reduceMul, Int.reduceLT, Int.reduceLE, Int.reduceEq]
              exact hnx
            · have hq' : q < 0 := by omega
              have hx1 := hx.2 hq'
              simp (disch := omega) only [hq, hq', hx1, wrap_i64, decide_true, decide_false, ↓evPre, ↓evPreW, evPost, evPostW, ← List.map_take, ← List.map_drop, ↓reduceIte, reduceCtorEq, Nat.reduceEqDiff, forall_const, implies_true, Nat.reduceAdd, Nat.reduceSub, Nat.reduceMul, Nat.reduceLT, Nat.reduceLeDiff, Int.reduceToNat, Int.reduceAdd, Int.reduceSub, Int.reduceNeg, Int.reduceMul, Int.reduceLT, Int.reduceLE, Int.reduceEq]
              exact hnx
          · simp (disch := omega) only [h25, wrap_i64, decide_true, decide_false, ↓evPre, ↓evPreW, evPost, evPostW, ← List.map_take, ← List.map_drop, ↓reduceIte, reduceCtorEq, Nat.reduceEqDiff, forall_const, implies_true, Nat.reduceAdd, Nat.reduceSub, Nat.reduceMul, Nat.reduceLT, Nat.reduceLeDiff, Int.reduceToNat, Int.reduceAdd, Int.reduceSub, Int.reduceNeg, Int.reduceMul, Int.reduceLT, Int.reduceLE, Int.reduceEq]
            refine (knows_A S).then ?_
            simp only [↓evPre, ↓evPreW, evPost, evPostW, ← List.map_take, ← List.map_drop, ↓reduceIte, reduceCtorEq, Nat.reduceEqDiff, forall_const, implies_true, Nat.reduceAdd, Nat.reduceSub, Nat.reduceMul, Nat.reduceLT, Nat.reduceLeDiff, Int.reduceToNat, Int.reduceAdd, Int.reduceSub, Int.reduceNeg, Int.reduceMul, Int.reduceLT, Int.reduceLE, Int.reduceEq]
end Go.Proofs.Ytbbjjnhcbfdhlaa
