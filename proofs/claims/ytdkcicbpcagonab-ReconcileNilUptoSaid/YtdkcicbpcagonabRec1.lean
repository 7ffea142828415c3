/- States of coupons: compared, ordered, merged. -/
import Derived.Test.YtdkcicbpcagonabRecC
import Derived.Test.YtdkcicbpcagonabAlM
namespace Go.Proofs.Ytdkcicbpcagonab
open Go Go.AL
set_option linter.unusedSimpArgs false
set_option linter.unusedVariables false

structure St where
  t : Int
  c : Int
  v : Int
  s : Int
  deriving DecidableEq, Inhabited
def stR (x : St) : List V := [.int .i64 x.t, .int .i64 x.c, .int .i64 x.v, .int .i64 x.s]
def stV (x : St) : V := .agg (stR x)
def stSl (l : List St) : V := .sl 4 (l.map stR)
def i64r (n : Int) : Prop := -9223372036854775808 ≤ n ∧ n ≤ 9223372036854775807

theorem stR_imm (l : List St) : ∀ r ∈ l.map stR, r.length = 4 ∧ V.allImm r = true := fun r hr => by
  obtain ⟨x, _, rfl⟩ := List.mem_map.1 hr
  exact ⟨rfl, rfl⟩
theorem eqd_st (x y : St) : (decide (x.t = y.t) && (decide (x.c = y.c) && (decide (x.v = y.v) && decide (x.s = y.s)))) = decide (x = y) := by
  obtain ⟨a, b, c, d⟩ := x
  obtain ⟨a', b', c', d'⟩ := y
  simp
theorem dT {p : Prop} [Decidable p] (h : p) : decide p = true := decide_eq_true h
theorem dF {p : Prop} [Decidable p] (h : ¬ p) : decide p = false := decide_eq_false h

/-! ### The order -/
theorem isNaN_A (n : Int) (S : Store) : CallA Try.prog 39 [.int .i64 n] S fun r S' => r = .bool false ∧ S' = S := by
  refine CallA.keep Try.func39 c53 (Nat.le_of_ble_eq_true rfl) fun σ hσ => ?_
  simp only [a53, ↓evPre, ↓evPreW, evPost, evPostW, ← List.map_take, ← List.map_drop, ↓reduceIte, reduceCtorEq, Nat.reduceEqDiff, forall_const, implies_true, Nat.reduceAdd, Nat.reduceSub, Nat.reduceMul, Nat.reduceLT, Nat.reduceLeDiff, Int.reduceToNat, Int.reduceAdd, Int.reduceSub, Int.reduceNeg, Int.reduceMul, Int.reduceLT, Int.reduceLE, Int.reduceEq]

def cmpF (a b : Int) : Int := if a < b then -1 else if b < a then 1 else 0
theorem compare_A (a b : Int) (S : Store) : CallA Try.prog 30 [.int .i64 a, .int .i64 b] S fun r S' => r = .int .i64 (cmpF a b) ∧ S' = S := by
  refine CallA.keep Try.func30 c40 (Nat.le_of_ble_eq_true rfl) fun σ hσ => ?_
  simp only [a40, ↓evPre, ↓evPreW, evPost, evPostW, ← List.map_take, ← List.map_drop, ↓reduceIte, reduceCtorEq, Nat.reduceEqDiff, forall_const, implies_true, Nat.reduceAdd, Nat.reduceSub, Nat.reduceMul, Nat.reduceLT, Nat.reduceLeDiff, Int.reduceToNat, Int.reduceAdd, Int.reduceSub, Int.reduceNeg, Int.reduceMul, Int.reduceLT, Int.reduceLE, Int.reduceEq]
  refine (isNaN_A a S).then ?_
  simp only [↓evPre, ↓evPreW, evPost, evPostW, ← List.map_take, ← List.map_drop, ↓reduceIte, reduceCtorEq, Nat.reduceEqDiff, forall_const, implies_true, Nat.reduceAdd, Nat.reduceSub, Nat.reduceMul, Nat.reduceLT, Nat.reduceLeDiff, Int.reduceToNat, Int.reduceAdd, Int.reduceSub, Int.reduceNeg, Int.reduceMul, Int.reduceLT, Int.reduceLE, Int.reduceEq]
  refine (isNaN_A b S).then ?_
  by_cases h1 : a < b
  · simp only [cmpF, h1, if_true, ↓evPre, ↓evPreW, evPost, evPostW, ← List.map_take, ← List.map_drop, ↓reduceIte, reduceCtorEq, Nat.reduceEqDiff, forall_const, implies_true, Nat.reduceAdd, Nat.reduceSub, Nat.reduceMul, Nat.reduceLT, Nat.reduceLeDiff, Int.reduceToNat, Int.reduceAdd, Int.reduceSub, Int.reduceNeg, Int.reduceMul, Int.reduceLT, Int.reduceLE, Int.reduceEq]
  by_cases h2 : b < a
  · simp only [cmpF, h1, h2, if_true, if_false, ↓evPre, ↓evPreW, evPost, evPostW, ← List.map_take, ← List.map_drop, ↓reduceIte, reduceCtorEq, Nat.reduceEqDiff, forall_const, implies_true, Nat.reduceAdd, Nat.reduceSub, Nat.reduceMul, Nat.reduceLT, Nat.reduceLeDiff, Int.reduceToNat, Int.reduceAdd, Int.reduceSub, Int.reduceNeg, Int.reduceMul, Int.reduceLT, Int.reduceLE, Int.reduceEq]
  simp only [cmpF, h1, h2, if_false, ↓evPre, ↓evPreW, evPost, evPostW, ← List.map_take, ← List.map_drop, ↓reduceIte, reduceCtorEq, Nat.reduceEqDiff, forall_const, implies_true, Nat.reduceAdd, Nat.reduceSub, Nat.reduceMul, Nat.reduceLT, Nat.reduceLeDiff, Int.reduceToNat, Int.reduceAdd, Int.reduceSub, Int.reduceNeg, Int.reduceMul, Int.reduceLT, Int.reduceLE, Int.reduceEq]

theorem or_A (a b : Int) (S : Store) : CallA Try.prog 29 [.sl 1 [[.int .i64 a], [.int .i64 b]]] S fun r S' => r = .int .i64 (if a ≠ 0 then a else b) ∧ S' = S := by
  refine CallA.keep Try.func29 c39 (Nat.le_of_ble_eq_true rfl) fun σ hσ => ?_
  simp only [a39, ↓evPre, ↓evPreW, evPost, evPostW, ← List.map_take, ← List.map_drop, ↓reduceIte, reduceCtorEq, Nat.reduceEqDiff, forall_const, implies_true, Nat.reduceAdd, Nat.reduceSub, Nat.reduceMul, Nat.reduceLT, Nat.reduceLeDiff, Int.reduceToNat, Int.reduceAdd, Int.reduceSub, Int.reduceNeg, Int.reduceMul, Int.reduceLT, Int.reduceLE, Int.reduceEq]
  refine loopA (ι := Nat) (fun k => [(3, .int .i64 0), (6, .sl 1 [[.int .i64 a], [.int .i64 b]]), (7, .int .i64 2), (8, .int .i64 k)]) (fun _ => S) (fun k => k ≤ 2 ∧ (0 < k → a = 0) ∧ (1 < k → b = 0)) (fun k => 2 - k) 0 ⟨by omega, fun h => by omega, fun h => by omega⟩ ?_ rfl ?_
  · simp only [↓evPre, ↓evPreW, evPost, evPostW, ← List.map_take, ← List.map_drop, ↓reduceIte, reduceCtorEq, Nat.reduceEqDiff, forall_const, implies_true, Nat.reduceAdd, Nat.reduceSub, Nat.reduceMul, Nat.reduceLT, Nat.reduceLeDiff, Int.reduceToNat, Int.reduceAdd, Int.reduceSub, Int.reduceNeg, Int.reduceMul, Int.reduceLT, Int.reduceLE, Int.reduceEq]
    rfl
  · rintro k ⟨hk, h1, h2⟩
    match k, hk, h1, h2 with
    | 0, hk, h1, h2 =>
      simp (disch := first | omega | (simp only [List.length_cons, List.length_nil, List.length_map, List.length_drop]; omega)) only [wrap_i64, ↓evPre, ↓evPreW, evPost, evPostW, ← List.map_take, ← List.map_drop, ↓reduceIte, reduceCtorEq, Nat.reduceEqDiff, forall_const, implies_true, Nat.reduceAdd, Nat.reduceSub, Nat.reduceMul, Nat.reduceLT, Nat.reduceLeDiff, Int.reduceToNat, Int.reduceAdd, Int.reduceSub, Int.reduceNeg, Int.reduceMul, Int.reduceLT, Int.reduceLE, Int.reduceEq]
      exact ⟨fun h => by rw [if_pos h], fun h => ⟨1, ⟨by omega, fun _ => Decidable.not_not.1 h, fun h => by omega⟩, by omega, rfl⟩⟩
    | 1, hk, h1, h2 =>
      simp (disch := first | omega | (simp only [List.length_cons, List.length_nil, List.length_map, List.length_drop]; omega)) only [wrap_i64, ↓evPre, ↓evPreW, evPost, evPostW, ← List.map_take, ← List.map_drop, ↓reduceIte, reduceCtorEq, Nat.reduceEqDiff, forall_const, implies_true, Nat.reduceAdd, Nat.reduceSub, Nat.reduceMul, Nat.reduceLT, Nat.reduceLeDiff, Int.reduceToNat, Int.reduceAdd, Int.reduceSub, Int.reduceNeg, Int.reduceMul, Int.reduceLT, Int.reduceLE, Int.reduceEq]
      have h0 : ¬ a ≠ 0 := fun h => h (h1 (by omega))
      exact ⟨fun h => by rw [if_neg h0], fun h => ⟨2, ⟨by omega, fun _ => h1 (by omega), fun _ => Decidable.not_not.1 h⟩, by omega, rfl⟩⟩
    | 2, hk, h1, h2 =>
      have h22 : ¬ ((2 : Nat) : Int) < 2 := by omega
      have h0 : ¬ a ≠ 0 := fun h => h (h1 (by omega))
      simp (disch := first | omega | (simp only [List.length_cons, List.length_nil, List.length_map, List.length_drop]; omega)) only [wrap_i64, h22, decide_false, ↓evPre, ↓evPreW, evPost, evPostW, ← List.map_take, ← List.map_drop, ↓reduceIte, reduceCtorEq, Nat.reduceEqDiff, forall_const, implies_true, Nat.reduceAdd, Nat.reduceSub, Nat.reduceMul, Nat.reduceLT, Nat.reduceLeDiff, Int.reduceToNat, Int.reduceAdd, Int.reduceSub, Int.reduceNeg, Int.reduceMul, Int.reduceLT, Int.reduceLE, Int.reduceEq]
      rw [if_neg h0, h2 (by omega)]

def cfS (x y : St) : Int := if cmpF x.t y.t ≠ 0 then cmpF x.t y.t else cmpF x.c y.c
def ltS (x y : St) : Bool := decide (x.t < y.t ∨ (x.t = y.t ∧ x.c < y.c))
def sameS (x y : St) : Bool := decide (x.t = y.t ∧ x.c = y.c)
theorem cfS_lt (x y : St) : decide (cfS x y < 0) = ltS x y := by
  unfold cfS ltS cmpF
  apply decide_eq_decide.2
  repeat' split
  all_goals omega

theorem cmpS_A (x y : St) (S : Store) : CallA Try.prog 33 [stV x, stV y] S fun r S' => r = .int .i64 (cfS x y) ∧ S' = S := by
  refine CallA.keep Try.func33 c55 (Nat.le_of_ble_eq_true rfl) fun σ hσ => ?_
  simp only [a55, stV, stR, ↓evPre, ↓evPreW, evPost, evPostW, ← List.map_take, ← List.map_drop, ↓reduceIte, reduceCtorEq, Nat.reduceEqDiff, forall_const, implies_true, Nat.reduceAdd, Nat.reduceSub, Nat.reduceMul, Nat.reduceLT, Nat.reduceLeDiff, Int.reduceToNat, Int.reduceAdd, Int.reduceSub, Int.reduceNeg, Int.reduceMul, Int.reduceLT, Int.reduceLE, Int.reduceEq]
  refine exD.intro (compare_A _ _ S) ?_
  simp only [↓evPre, ↓evPreW, evPost, evPostW, ← List.map_take, ← List.map_drop, ↓reduceIte, reduceCtorEq, Nat.reduceEqDiff, forall_const, implies_true, Nat.reduceAdd, Nat.reduceSub, Nat.reduceMul, Nat.reduceLT, Nat.reduceLeDiff, Int.reduceToNat, Int.reduceAdd, Int.reduceSub, Int.reduceNeg, Int.reduceMul, Int.reduceLT, Int.reduceLE, Int.reduceEq]
  refine (compare_A _ _ S).then ?_
  simp only [↓evPre, ↓evPreW, evPost, evPostW, ← List.map_take, ← List.map_drop, ↓reduceIte, reduceCtorEq, Nat.reduceEqDiff, forall_const, implies_true, Nat.reduceAdd, Nat.reduceSub, Nat.reduceMul, Nat.reduceLT, Nat.reduceLeDiff, Int.reduceToNat, Int.reduceAdd, Int.reduceSub, Int.reduceNeg, Int.reduceMul, Int.reduceLT, Int.reduceLE, Int.reduceEq]
  refine (or_A _ _ S).then ?_
  simp only [↓evPre, ↓evPreW, evPost, evPostW, ← List.map_take, ← List.map_drop, ↓reduceIte, reduceCtorEq, Nat.reduceEqDiff, forall_const, implies_true, Nat.reduceAdd, Nat.reduceSub, Nat.reduceMul, Nat.reduceLT, Nat.reduceLeDiff, Int.reduceToNat, Int.reduceAdd, Int.reduceSub, Int.reduceNeg, Int.reduceMul, Int.reduceLT, Int.reduceLE, Int.reduceEq]
  rfl

theorem less_A (x y : St) (S : Store) : CallA Try.prog 54 [stV x, stV y] S fun r S' => r = .bool (ltS x y) ∧ S' = S := by
  refine CallA.keep Try.func54 c56 (Nat.le_of_ble_eq_true rfl) fun σ hσ => ?_
  unfold ltS
  by_cases h1 : x.t < y.t
  · simp only [a56, stV, stR, h1, true_or, ↓evPre, ↓evPreW, evPost, evPostW, ← List.map_take, ← List.map_drop, ↓reduceIte, reduceCtorEq, Nat.reduceEqDiff, forall_const, implies_true, Nat.reduceAdd, Nat.reduceSub, Nat.reduceMul, Nat.reduceLT, Nat.reduceLeDiff, Int.reduceToNat, Int.reduceAdd, Int.reduceSub, Int.reduceNeg, Int.reduceMul, Int.reduceLT, Int.reduceLE, Int.reduceEq]
  by_cases h2 : x.t = y.t
  · simp only [a56, stV, stR, h1, h2, false_or, Int.lt_irrefl, decide_true, decide_false, ↓evPre, ↓evPreW, evPost, evPostW, ← List.map_take, ← List.map_drop, ↓reduceIte, reduceCtorEq, Nat.reduceEqDiff, forall_const, implies_true, Nat.reduceAdd, Nat.reduceSub, Nat.reduceMul, Nat.reduceLT, Nat.reduceLeDiff, Int.reduceToNat, Int.reduceAdd, Int.reduceSub, Int.reduceNeg, Int.reduceMul, Int.reduceLT, Int.reduceLE, Int.reduceEq]
  simp only [a56, stV, stR, h1, h2, false_or, false_and, decide_true, decide_false, ↓evPre, ↓evPreW, evPost, evPostW, ← List.map_take, ← List.map_drop, ↓reduceIte, reduceCtorEq, Nat.reduceEqDiff, forall_const, implies_true, Nat.reduceAdd, Nat.reduceSub, Nat.reduceMul, Nat.reduceLT, Nat.reduceLeDiff, Int.reduceToNat, Int.reduceAdd, Int.reduceSub, Int.reduceNeg, Int.reduceMul, Int.reduceLT, Int.reduceLE, Int.reduceEq]

theorem same_A (x y : St) (S : Store) : CallA Try.prog 55 [stV x, stV y] S fun r S' => r = .bool (sameS x y) ∧ S' = S := by
  refine CallA.keep Try.func55 c57 (Nat.le_of_ble_eq_true rfl) fun σ hσ => ?_
  unfold sameS
  by_cases h1 : x.t = y.t
  · simp only [a57, stV, stR, h1, true_and, decide_true, decide_false, ↓evPre, ↓evPreW, evPost, evPostW, ← List.map_take, ← List.map_drop, ↓reduceIte, reduceCtorEq, Nat.reduceEqDiff, forall_const, implies_true, Nat.reduceAdd, Nat.reduceSub, Nat.reduceMul, Nat.reduceLT, Nat.reduceLeDiff, Int.reduceToNat, Int.reduceAdd, Int.reduceSub, Int.reduceNeg, Int.reduceMul, Int.reduceLT, Int.reduceLE, Int.reduceEq]
  simp only [a57, stV, stR, h1, false_and, decide_true, decide_false, ↓evPre, ↓evPreW, evPost, evPostW, ← List.map_take, ← List.map_drop, ↓reduceIte, reduceCtorEq, Nat.reduceEqDiff, forall_const, implies_true, Nat.reduceAdd, Nat.reduceSub, Nat.reduceMul, Nat.reduceLT, Nat.reduceLeDiff, Int.reduceToNat, Int.reduceAdd, Int.reduceSub, Int.reduceNeg, Int.reduceMul, Int.reduceLT, Int.reduceLE, Int.reduceEq]

/-! ### Merging -/
def mrgS (a b : St) : St := if a.v > b.v ∨ a = b then a else if a.v < b.v then b else ⟨a.t, a.c, a.v + 1, max a.s b.s⟩
def mrgR (a b : St) : St := if a.v > b.v then a else if a.v < b.v then b else if a.s = b.s then a else ⟨a.t, a.c, a.v + 1, max a.s b.s⟩
theorem mrg_eq (a b : St) (h : sameS a b = true) : mrgS a b = mrgR a b := by
  obtain ⟨t, c, v, s⟩ := a
  obtain ⟨t', c', v', s'⟩ := b
  simp only [sameS, decide_eq_true_eq] at h
  obtain ⟨rfl, rfl⟩ := h
  unfold mrgS mrgR
  simp only [St.mk.injEq, true_and]
  by_cases h1 : v > v'
  · simp [h1]
  by_cases h2 : v < v'
  · simp [h1, h2, show v ≠ v' by omega]
  have h3 : v = v' := by omega
  subst h3
  simp

theorem merged_A (a b : St) (S : Store) (hv : a.v ≤ 9223372036854775806 ∧ -9223372036854775808 ≤ a.v) : CallA Try.prog 18 [stV a, stV b] S fun r S' => r = stV (mrgS a b) ∧ S' = S := by
  refine CallA.withNeat Try.func18 c47 fun hn => ?_
  refine CallA.fin Try.func18 c47 (Nat.le_of_ble_eq_true rfl) fun σ hσ => ?_
  unfold mrgS
  have fin : ∀ (T : Store) (x : St), ∃ r1 S1, Fgt (S ++ T) S1 ∧ Frz (S ++ T) S1 (stV x) r1 ∧ S.length ≤ S1.length ∧ r1 = stV x ∧ S1 = S := fun T x => ⟨_, S, hn.fgt _, .imm rfl, Nat.le_refl _, rfl, rfl⟩
  by_cases h1 : a.v > b.v
  · have h1' : b.v < a.v := h1
    simp (disch := first | omega | (simp only [List.length_cons, List.length_nil, List.length_map, List.length_drop]; omega)) only [a47, stV, stR, h1, h1', decide_true, true_or, if_true, evSt, ↓evPre, ↓evPreW, evPost, evPostW, ← List.map_take, ← List.map_drop, ↓reduceIte, reduceCtorEq, Nat.reduceEqDiff, forall_const, implies_true, Nat.reduceAdd, Nat.reduceSub, Nat.reduceMul, Nat.reduceLT, Nat.reduceLeDiff, Int.reduceToNat, Int.reduceAdd, Int.reduceSub, Int.reduceNeg, Int.reduceMul, Int.reduceLT, Int.reduceLE, Int.reduceEq]
    exact fin _ a
  have h1' : ¬ b.v < a.v := h1
  by_cases h2 : a = b
  · subst h2
    simp (disch := first | omega | (simp only [List.length_cons, List.length_nil, List.length_map, List.length_drop]; omega)) only [a47, stV, stR, eqd_st, Int.lt_irrefl, gt_iff_lt, decide_true, decide_false, or_true, if_true, evSt, ↓evPre, ↓evPreW, evPost, evPostW, ← List.map_take, ← List.map_drop, ↓reduceIte, reduceCtorEq, Nat.reduceEqDiff, forall_const, implies_true, Nat.reduceAdd, Nat.reduceSub, Nat.reduceMul, Nat.reduceLT, Nat.reduceLeDiff, Int.reduceToNat, Int.reduceAdd, Int.reduceSub, Int.reduceNeg, Int.reduceMul, Int.reduceLT, Int.reduceLE, Int.reduceEq]
    exact fin _ a
  rw [if_neg (not_or.2 ⟨h1, h2⟩)]
  by_cases h3 : a.v < b.v
  · simp (disch := first | omega | (simp only [List.length_cons, List.length_nil, List.length_map, List.length_drop]; omega)) only [a47, stV, stR, eqd_st, h1, h1', dF h2, h3, decide_true, decide_false, or_self, if_true, if_false, evSt, ↓evPre, ↓evPreW, evPost, evPostW, ← List.map_take, ← List.map_drop, ↓reduceIte, reduceCtorEq, Nat.reduceEqDiff, forall_const, implies_true, Nat.reduceAdd, Nat.reduceSub, Nat.reduceMul, Nat.reduceLT, Nat.reduceLeDiff, Int.reduceToNat, Int.reduceAdd, Int.reduceSub, Int.reduceNeg, Int.reduceMul, Int.reduceLT, Int.reduceLE, Int.reduceEq]
    exact fin _ b
  simp (disch := first | omega | (simp only [List.length_cons, List.length_nil, List.length_map, List.length_drop]; omega)) only [a47, stV, stR, eqd_st, h1, h1', dF h2, h3, wrap_i64, decide_true, decide_false, or_self, if_true, if_false, evSt, ↓evPre, ↓evPreW, evPost, evPostW, ← List.map_take, ← List.map_drop, ↓reduceIte, reduceCtorEq, Nat.reduceEqDiff, forall_const, implies_true, Nat.reduceAdd, Nat.reduceSub, Nat.reduceMul, Nat.reduceLT, Nat.reduceLeDiff, Int.reduceToNat, Int.reduceAdd, Int.reduceSub, Int.reduceNeg, Int.reduceMul, Int.reduceLT, Int.reduceLE, Int.reduceEq]
  exact fin _ ⟨a.t, a.c, a.v + 1, max a.s b.s⟩

theorem mergedR_A (a b : St) (S : Store) (hv : a.v ≤ 9223372036854775806 ∧ -9223372036854775808 ≤ a.v) : CallA Try.prog 42 [stV a, stV b] S fun r S' => r = stV (mrgR a b) ∧ S' = S := by
  refine CallA.withNeat Try.func42 c48 fun hn => ?_
  refine CallA.fin Try.func42 c48 (Nat.le_of_ble_eq_true rfl) fun σ hσ => ?_
  unfold mrgR
  have fin : ∀ (T : Store) (x : St), ∃ r1 S1, Fgt (S ++ T) S1 ∧ Frz (S ++ T) S1 (stV x) r1 ∧ S.length ≤ S1.length ∧ r1 = stV x ∧ S1 = S := fun T x => ⟨_, S, hn.fgt _, .imm rfl, Nat.le_refl _, rfl, rfl⟩
  by_cases h1 : a.v > b.v
  · have h1' : b.v < a.v := h1
    simp (disch := first | omega | (simp only [List.length_cons, List.length_nil, List.length_map, List.length_drop]; omega)) only [a48, stV, stR, h1, h1', decide_true, true_or, if_true, evSt, ↓evPre, ↓evPreW, evPost, evPostW, ← List.map_take, ← List.map_drop, ↓reduceIte, reduceCtorEq, Nat.reduceEqDiff, forall_const, implies_true, Nat.reduceAdd, Nat.reduceSub, Nat.reduceMul, Nat.reduceLT, Nat.reduceLeDiff, Int.reduceToNat, Int.reduceAdd, Int.reduceSub, Int.reduceNeg, Int.reduceMul, Int.reduceLT, Int.reduceLE, Int.reduceEq]
    exact fin _ a
  have h1' : ¬ b.v < a.v := h1
  by_cases h3 : a.v < b.v
  · simp (disch := first | omega | (simp only [List.length_cons, List.length_nil, List.length_map, List.length_drop]; omega)) only [a48, stV, stR, h1, h1', h3, decide_true, decide_false, or_self, if_true, if_false, evSt, ↓evPre, ↓evPreW, evPost, evPostW, ← List.map_take, ← List.map_drop, ↓reduceIte, reduceCtorEq, Nat.reduceEqDiff, forall_const, implies_true, Nat.reduceAdd, Nat.reduceSub, Nat.reduceMul, Nat.reduceLT, Nat.reduceLeDiff, Int.reduceToNat, Int.reduceAdd, Int.reduceSub, Int.reduceNeg, Int.reduceMul, Int.reduceLT, Int.reduceLE, Int.reduceEq]
    exact fin _ b
  by_cases h2 : a.s = b.s
  · simp (disch := first | omega | (simp only [List.length_cons, List.length_nil, List.length_map, List.length_drop]; omega)) only [a48, stV, stR, h1, h1', dT h2, h3, decide_false, or_self, if_true, if_false, evSt, ↓evPre, ↓evPreW, evPost, evPostW, ← List.map_take, ← List.map_drop, ↓reduceIte, reduceCtorEq, Nat.reduceEqDiff, forall_const, implies_true, Nat.reduceAdd, Nat.reduceSub, Nat.reduceMul, Nat.reduceLT, Nat.reduceLeDiff, Int.reduceToNat, Int.reduceAdd, Int.reduceSub, Int.reduceNeg, Int.reduceMul, Int.reduceLT, Int.reduceLE, Int.reduceEq]
    rw [if_pos h2]
    exact fin _ a
  rw [if_neg h2]
  by_cases h4 : a.s < b.s
  · simp (disch := first | omega | (simp only [List.length_cons, List.length_nil, List.length_map, List.length_drop]; omega)) only [a48, stV, stR, h1, h1', dF h2, h3, dT h4, wrap_i64, decide_false, or_self, if_true, if_false, evSt, ↓evPre, ↓evPreW, evPost, evPostW, ← List.map_take, ← List.map_drop, ↓reduceIte, reduceCtorEq, Nat.reduceEqDiff, forall_const, implies_true, Nat.reduceAdd, Nat.reduceSub, Nat.reduceMul, Nat.reduceLT, Nat.reduceLeDiff, Int.reduceToNat, Int.reduceAdd, Int.reduceSub, Int.reduceNeg, Int.reduceMul, Int.reduceLT, Int.reduceLE, Int.reduceEq]
    rw [show max a.s b.s = b.s by omega]
    exact fin _ ⟨a.t, a.c, a.v + 1, b.s⟩
  simp (disch := first | omega | (simp only [List.length_cons, List.length_nil, List.length_map, List.length_drop]; omega)) only [a48, stV, stR, h1, h1', dF h2, h3, dF h4, wrap_i64, decide_false, or_self, if_true, if_false, evSt, ↓evPre, ↓evPreW, evPost, evPostW, ← List.map_take, ← List.map_drop, ↓reduceIte, reduceCtorEq, Nat.reduceEqDiff, forall_const, implies_true, Nat.reduceAdd, Nat.reduceSub, Nat.reduceMul, Nat.reduceLT, Nat.reduceLeDiff, Int.reduceToNat, Int.reduceAdd, Int.reduceSub, Int.reduceNeg, Int.reduceMul, Int.reduceLT, Int.reduceLE, Int.reduceEq]
  rw [show max a.s b.s = a.s by omega]
  exact fin _ ⟨a.t, a.c, a.v + 1, a.s⟩
end Go.Proofs.Ytdkcicbpcagonab
