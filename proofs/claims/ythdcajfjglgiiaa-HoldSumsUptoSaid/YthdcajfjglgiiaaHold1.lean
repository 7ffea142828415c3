/- Holds: plain data, the comparison (draws counted or not). -/
import Derived.Test.YthdcajfjglgiiaaHoldC
import Derived.Test.YthdcajfjglgiiaaAlM
namespace Go.Proofs.Ythdcajfjglgiiaa
open Go Go.AL
set_option linter.unusedSectionVars false
variable [Go.AL.Mode]

set_option linter.unusedSimpArgs false
set_option linter.unusedVariables false

/-- A leg's name; a hold. -/
structure Lg where
  c : List UInt8
  n : Int
  d : Int
  f : List UInt8
  deriving DecidableEq, Inhabited
structure Hd where
  id : Int
  legs : List Lg
  cls : List UInt8
  cnt : Int
  til : Int
  deriving DecidableEq, Inhabited
def lgR (x : Lg) : List V := [.str x.c, .int .i64 x.n, .int .i64 x.d, .str x.f]
def lgSl (l : List Lg) : V := .sl 4 (l.map lgR)
def hdR (h : Hd) : List V := [.int .i64 h.id, .sl 4 (h.legs.map lgR), .str h.cls, .int .i64 h.cnt, .int .i64 h.til]
def hdV (h : Hd) : V := .agg (hdR h)
def hdSl (l : List Hd) : V := .sl 5 (l.map hdR)
def entH (h : Hd) : V × V := (.int .i64 h.id, .agg (hdR h))

theorem dT {p : Prop} [Decidable p] (h : p) : decide p = true := decide_eq_true h
theorem dF {p : Prop} [Decidable p] (h : ¬ p) : decide p = false := decide_eq_false h
theorem lgRows_imm (l : List Lg) : ∀ r ∈ l.map lgR, r.length = 4 ∧ V.allImm r = true := fun r hr => by
  obtain ⟨x, _, rfl⟩ := List.mem_map.1 hr
  exact ⟨rfl, rfl⟩
theorem hdR_imm (l : List Hd) : ∀ r ∈ l.map hdR, r.length = 5 ∧ V.allImm r = true := fun r hr => by
  obtain ⟨x, _, rfl⟩ := List.mem_map.1 hr
  exact ⟨rfl, rfl⟩

/-! ### The order -/
theorem isNaN_A (n : Int) (S : Store) : CallA Try.prog 42 [.int .i64 n] S fun r S' => r = .bool false ∧ S' = S := by
  refine CallA.keep Try.func42 c53 (Nat.le_of_ble_eq_true rfl) fun σ hσ => ?_
  simp only [a53, ↓evPre, ↓evPreW, evPost, evPostW, ← List.map_take, ← List.map_drop, ↓reduceIte, reduceCtorEq, Nat.reduceEqDiff, forall_const, implies_true, Nat.reduceAdd, Nat.reduceSub, Nat.reduceMul, Nat.reduceLT, Nat.reduceLeDiff, Int.reduceToNat, Int.reduceAdd, Int.reduceSub, Int.reduceNeg, Int.reduceMul, Int.reduceLT, Int.reduceLE, Int.reduceEq]
def cmpF (a b : Int) : Int := if a < b then -1 else if b < a then 1 else 0
theorem compare_A (a b : Int) (S : Store) : CallA Try.prog 33 [.int .i64 a, .int .i64 b] S fun r S' => r = .int .i64 (cmpF a b) ∧ S' = S := by
  refine CallA.keep Try.func33 c40 (Nat.le_of_ble_eq_true rfl) fun σ hσ => ?_
  simp only [a40, ↓evPre, ↓evPreW, evPost, evPostW, ← List.map_take, ← List.map_drop, ↓reduceIte, reduceCtorEq, Nat.reduceEqDiff, forall_const, implies_true, Nat.reduceAdd, Nat.reduceSub, Nat.reduceMul, Nat.reduceLT, Nat.reduceLeDiff, Int.reduceToNat, Int.reduceAdd, Int.reduceSub, Int.reduceNeg, Int.reduceMul, Int.reduceLT, Int.reduceLE, Int.reduceEq]
  refine (isNaN_A a S).then ?_
  simp only [↓evPre, ↓evPreW, evPost, evPostW, ← List.map_take, ← List.map_drop, ↓reduceIte, reduceCtorEq, Nat.reduceEqDiff, forall_const, implies_true, Nat.reduceAdd, Nat.reduceSub, Nat.reduceMul, Nat.reduceLT, Nat.reduceLeDiff, Int.reduceToNat, Int.reduceAdd, Int.reduceSub, Int.reduceNeg, Int.reduceMul, Int.reduceLT, Int.reduceLE, Int.reduceEq]
  refine (isNaN_A b S).then ?_
  by_cases h1 : a < b
  · simp only [cmpF, h1, if_true, ↓evPre, ↓evPreW, evPost, evPostW, ← List.map_take, ← List.map_drop, ↓reduceIte, reduceCtorEq, Nat.reduceEqDiff, forall_const, implies_true, Nat.reduceAdd, Nat.reduceSub, Nat.reduceMul, Nat.reduceLT, Nat.reduceLeDiff, Int.reduceToNat, Int.reduceAdd, Int.reduceSub, Int.reduceNeg, Int.reduceMul, Int.reduceLT, Int.reduceLE, Int.reduceEq]
  by_cases h2 : b < a
  · simp only [cmpF, h1, h2, if_true, if_false, ↓evPre, ↓evPreW, evPost, evPostW, ← List.map_take, ← List.map_drop, ↓reduceIte, reduceCtorEq, Nat.reduceEqDiff, forall_const, implies_true, Nat.reduceAdd, Nat.reduceSub, Nat.reduceMul, Nat.reduceLT, Nat.reduceLeDiff, Int.reduceToNat, Int.reduceAdd, Int.reduceSub, Int.reduceNeg, Int.reduceMul, Int.reduceLT, Int.reduceLE, Int.reduceEq]
  simp only [cmpF, h1, h2, if_false, ↓evPre, ↓evPreW, evPost, evPostW, ← List.map_take, ← List.map_drop, ↓reduceIte, reduceCtorEq, Nat.reduceEqDiff, forall_const, implies_true, Nat.reduceAdd, Nat.reduceSub, Nat.reduceMul, Nat.reduceLT, Nat.reduceLeDiff, Int.reduceToNat, Int.reduceAdd, Int.reduceSub, Int.reduceNeg, Int.reduceMul, Int.reduceLT, Int.reduceLE, Int.reduceEq]
theorem or_A (a b : Int) (S : Store) : CallA Try.prog 32 [.sl 1 [[.int .i64 a], [.int .i64 b]]] S fun r S' => r = .int .i64 (if a ≠ 0 then a else b) ∧ S' = S := by
  refine CallA.keep Try.func32 c39 (Nat.le_of_ble_eq_true rfl) fun σ hσ => ?_
  simp only [a39, ↓evPre, ↓evPreW, evPost, evPostW, ← List.map_take, ← List.map_drop, ↓reduceIte, reduceCtorEq, Nat.reduceEqDiff, forall_const, implies_true, Nat.reduceAdd, Nat.reduceSub, Nat.reduceMul, Nat.reduceLT, Nat.reduceLeDiff, Int.reduceToNat, Int.reduceAdd, Int.reduceSub, Int.reduceNeg, Int.reduceMul, Int.reduceLT, Int.reduceLE, Int.reduceEq]
  refine loopA (ι := Nat) (fun k => [(3, .int .i64 0), (6, .sl 1 [[.int .i64 a], [.int .i64 b]]), (7, .int .i64 2), (8, .int .i64 k)]) (fun _ => S) (fun k => k ≤ 2 ∧ (0 < k → a = 0) ∧ (1 < k → b = 0)) (fun k => 2 - k) 0 ⟨by omega, fun h => by omega, fun h => by omega⟩ ?_ rfl ?_
  · simp only [↓evPre, ↓evPreW, evPost, evPostW, ← List.map_take, ← List.map_drop, ↓reduceIte, reduceCtorEq, Nat.reduceEqDiff, forall_const, implies_true, Nat.reduceAdd, Nat.reduceSub, Nat.reduceMul, Nat.reduceLT, Nat.reduceLeDiff, Int.reduceToNat, Int.reduceAdd, Int.reduceSub, Int.reduceNeg, Int.reduceMul, Int.reduceLT, Int.reduceLE, Int.reduceEq]
    rfl
  · rintro k ⟨hk, h1, h2⟩
    match k, hk, h1, h2 with
    | 0, hk, h1, h2 =>
      simp (disch := first | omega | (simp only [List.length_cons, List.length_nil, List.length_map, List.length_drop]; omega)) only [wrap_i64, ↓evPre, ↓evPreW, evPost, evPostW, ← List.map_take, ← List.map_drop, ↓reduceIte, reduceCtorEq, Nat.reduceEqDiff, forall_const, implies_true, Nat.reduceAdd, Nat.reduceSub, Nat.reduceMul, Nat.reduceLT, Nat.reduceLeDiff, Int.reduceToNat, Int.reduceAdd, Int.reduceSub, Int.reduceNeg, Int.reduceMul, Int.reduceLT, Int.reduceLE, Int.reduceEq]
      exact ⟨fun h => by rw [if_pos h], fun h => ⟨1, ⟨by omega, fun _ => Decidable.not_not.1 h, fun h => by omega⟩, by omega, rfl⟩⟩
    | 1, hk, h1, h2 =>
      simp (disch := first | omega | (simp only [List.length_cons, List.length_nil, List.length_map, List.length_drop]; omega)) only [wrap_i64, ↓evPre, ↓evPreW, evPost, evPostW, ← List.map_take, ← List.map_drop, ↓reduceIte, reduceCtorEq, Nat.reduceEqDiff, forall_const, implies_true, Nat.reduceAdd, Nat.reduceSub, Nat.reduceMul, Nat.reduceLT, Nat.reduceLeDiff, Int.reduceToNat, Int.reduceAdd, Int.reduceSub, Int.reduceNeg, Int.reduceMul, Int.reduceLT, Int.reduceLE, Int.reduceEq]
      have h0 : ¬ a ≠ 0 := fun h => h (h1 (by omega))
      exact ⟨fun h => by rw [if_neg h0], fun h => ⟨2, ⟨by omega, fun _ => h1 (by omega), fun _ => Decidable.not_not.1 h⟩, by omega, rfl⟩⟩
    | 2, hk, h1, h2 =>
      have h22 : ¬ ((2 : Nat) : Int) < 2 := by omega
      have h0 : ¬ a ≠ 0 := fun h => h (h1 (by omega))
      simp (disch := first | omega | (simp only [List.length_cons, List.length_nil, List.length_map, List.length_drop]; omega)) only [wrap_i64, h22, decide_false, ↓evPre, ↓evPreW, evPost, evPostW, ← List.map_take, ← List.map_drop, ↓reduceIte, reduceCtorEq, Nat.reduceEqDiff, forall_const, implies_true, Nat.reduceAdd, Nat.reduceSub, Nat.reduceMul, Nat.reduceLT, Nat.reduceLeDiff, Int.reduceToNat, Int.reduceAdd, Int.reduceSub, Int.reduceNeg, Int.reduceMul, Int.reduceLT, Int.reduceLE, Int.reduceEq]
      rw [if_neg h0, h2 (by omega)]

def cfH (x y : Hd) : Int := if cmpF x.til y.til ≠ 0 then cmpF x.til y.til else cmpF x.id y.id
def ltH (x y : Hd) : Bool := decide (x.til < y.til ∨ (x.til = y.til ∧ x.id < y.id))
theorem cfH_lt (x y : Hd) : decide (cfH x y < 0) = ltH x y := by
  unfold cfH ltH cmpF
  apply decide_eq_decide.2
  repeat' split
  all_goals omega

theorem cmpH_A (x y : Hd) (S : Store) : CallA Try.prog 31 [.agg (hdR x), .agg (hdR y)] S fun r S' => r = .int .i64 (cfH x y) ∧ S' = S := by
  refine CallA.keep Try.func31 c331 (Nat.le_of_ble_eq_true rfl) fun σ hσ => ?_
  simp only [a331, hdR, ↓evPre, ↓evPreW, evPost, evPostW, ← List.map_take, ← List.map_drop, ↓reduceIte, reduceCtorEq, Nat.reduceEqDiff, forall_const, implies_true, Nat.reduceAdd, Nat.reduceSub, Nat.reduceMul, Nat.reduceLT, Nat.reduceLeDiff, Int.reduceToNat, Int.reduceAdd, Int.reduceSub, Int.reduceNeg, Int.reduceMul, Int.reduceLT, Int.reduceLE, Int.reduceEq]
  refine exD.intro (compare_A _ _ S) ?_
  simp only [↓evPre, ↓evPreW, evPost, evPostW, ← List.map_take, ← List.map_drop, ↓reduceIte, reduceCtorEq, Nat.reduceEqDiff, forall_const, implies_true, Nat.reduceAdd, Nat.reduceSub, Nat.reduceMul, Nat.reduceLT, Nat.reduceLeDiff, Int.reduceToNat, Int.reduceAdd, Int.reduceSub, Int.reduceNeg, Int.reduceMul, Int.reduceLT, Int.reduceLE, Int.reduceEq]
  refine (compare_A _ _ S).then ?_
  simp only [↓evPre, ↓evPreW, evPost, evPostW, ← List.map_take, ← List.map_drop, ↓reduceIte, reduceCtorEq, Nat.reduceEqDiff, forall_const, implies_true, Nat.reduceAdd, Nat.reduceSub, Nat.reduceMul, Nat.reduceLT, Nat.reduceLeDiff, Int.reduceToNat, Int.reduceAdd, Int.reduceSub, Int.reduceNeg, Int.reduceMul, Int.reduceLT, Int.reduceLE, Int.reduceEq]
  refine (or_A _ _ S).then ?_
  simp only [↓evPre, ↓evPreW, evPost, evPostW, ← List.map_take, ← List.map_drop, ↓reduceIte, reduceCtorEq, Nat.reduceEqDiff, forall_const, implies_true, Nat.reduceAdd, Nat.reduceSub, Nat.reduceMul, Nat.reduceLT, Nat.reduceLeDiff, Int.reduceToNat, Int.reduceAdd, Int.reduceSub, Int.reduceNeg, Int.reduceMul, Int.reduceLT, Int.reduceLE, Int.reduceEq]
  rfl
end Go.Proofs.Ythdcajfjglgiiaa
