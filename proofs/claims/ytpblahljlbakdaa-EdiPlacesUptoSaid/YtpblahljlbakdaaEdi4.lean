/- Lines: which are the same; components. -/
import Derived.Test.YtpblahljlbakdaaEdi3
namespace Go.Proofs.Ytpblahljlbakdaa
open Go Go.AL
set_option linter.unusedSimpArgs false

section
variable {α : Type} {a b : List α} {k : Nat} {x y : α}
theorem eq_take_succ (h : a.take k = b.take k) (hx : a[k]? = some x) (hy : b[k]? = some x) : a.take (k + 1) = b.take (k + 1) := by
  rw [List.take_add_one, List.take_add_one, h, hx, hy]
theorem ne_of_get (hx : a[k]? = some x) (hy : b[k]? = some y) (h : ¬ x = y) : ¬ a = b := by
  rintro rfl
  rw [hx] at hy
  exact h (Option.some.inj hy)
theorem eq_of_take (hl : a.length = b.length) (hk : k = a.length) (h : a.take k = b.take k) : a = b := by
  subst hk
  rw [List.take_length] at h
  rw [h, hl, List.take_length]
theorem get_lt (h : k < a.length) : ∃ x, a[k]? = some x := ⟨a[k], List.getElem?_eq_getElem h⟩
theorem ne_of_len (h : ¬ a.length = b.length) : ¬ a = b := fun e => h (by rw [e])
end

theorem same35_A (a b : List Txt) (S : Store) (ha : a.length ≤ 1048576) (hb : b.length ≤ 1048576) : CallA Try.prog 35 [cmV a, cmV b] S fun r S' => r = .bool (decide (a = b)) ∧ S' = S := by
  refine CallA.keep Try.func35 c35 (Nat.le_of_ble_eq_true rfl) fun σ hσ => ?_
  by_cases hl : a.length = b.length
  · have hli : ((a.length : Int) = b.length) := by omega
    simp (disch := first | omega | (simp only [List.length_cons, List.length_nil, List.length_map, List.length_drop]; omega)) only [a35, cmV, hli, decide_true, Bool.not_true, ↓evPre, ↓evPreW, evPost, evPostW, ← List.map_take, ← List.map_drop, ↓reduceIte, reduceCtorEq, Nat.reduceEqDiff, forall_const, implies_true, Nat.reduceAdd, Nat.reduceSub, Nat.reduceMul, Nat.reduceLT, Nat.reduceLeDiff, Int.reduceToNat, Int.reduceAdd, Int.reduceSub, Int.reduceNeg, Int.reduceMul, Int.reduceLT, Int.reduceLE, Int.reduceEq]
    refine loopA (ι := Nat) (fun k => [(0, .sl 1 (a.map cmR)), (1, .sl 1 (b.map cmR)), (12, .int .i64 b.length), (13, .int .i64 k)]) (fun _ => S) (fun k => k ≤ b.length ∧ a.take k = b.take k) (fun k => b.length - k) 0 ⟨Nat.zero_le _, by simp⟩ ?_ rfl ?_
    · simp only [↓evPre, ↓evPreW, evPost, evPostW, ← List.map_take, ← List.map_drop, ↓reduceIte, reduceCtorEq, Nat.reduceEqDiff, forall_const, implies_true, Nat.reduceAdd, Nat.reduceSub, Nat.reduceMul, Nat.reduceLT, Nat.reduceLeDiff, Int.reduceToNat, Int.reduceAdd, Int.reduceSub, Int.reduceNeg, Int.reduceMul, Int.reduceLT, Int.reduceLE, Int.reduceEq]
    · rintro k ⟨hk, hall⟩
      by_cases hlt : (k : Int) < b.length
      · obtain ⟨x, hx⟩ := get_lt (a := a) (k := k) (by omega)
        obtain ⟨y, hy⟩ := get_lt (a := b) (k := k) (by omega)
        by_cases he : x = y
        · subst he
          simp (disch := first | omega | (simp only [List.length_cons, List.length_nil, List.length_map, List.length_drop]; omega)) only [hlt, hx, hy, List.getElem?_map, Option.map_some, cmR, wrap_i64, decide_true, Bool.not_true, ↓evPre, ↓evPreW, evPost, evPostW, ← List.map_take, ← List.map_drop, ↓reduceIte, reduceCtorEq, Nat.reduceEqDiff, forall_const, implies_true, Nat.reduceAdd, Nat.reduceSub, Nat.reduceMul, Nat.reduceLT, Nat.reduceLeDiff, Int.reduceToNat, Int.reduceAdd, Int.reduceSub, Int.reduceNeg, Int.reduceMul, Int.reduceLT, Int.reduceLE, Int.reduceEq]
          exact ⟨k + 1, ⟨by omega, eq_take_succ hall hx hy⟩, by omega, by omega⟩
        · simp (disch := first | omega | (simp only [List.length_cons, List.length_nil, List.length_map, List.length_drop]; omega)) only [hlt, hx, hy, List.getElem?_map, Option.map_some, cmR, wrap_i64, he, decide_false, Bool.not_false, ne_of_get hx hy he, ↓evPre, ↓evPreW, evPost, evPostW, ← List.map_take, ← List.map_drop, ↓reduceIte, reduceCtorEq, Nat.reduceEqDiff, forall_const, implies_true, Nat.reduceAdd, Nat.reduceSub, Nat.reduceMul, Nat.reduceLT, Nat.reduceLeDiff, Int.reduceToNat, Int.reduceAdd, Int.reduceSub, Int.reduceNeg, Int.reduceMul, Int.reduceLT, Int.reduceLE, Int.reduceEq]
      · have hab : a = b := eq_of_take hl (by omega) hall
        simp (disch := first | omega | (simp only [List.length_cons, List.length_nil, List.length_map, List.length_drop]; omega)) only [hlt, wrap_i64, hab, decide_true, ↓evPre, ↓evPreW, evPost, evPostW, ← List.map_take, ← List.map_drop, ↓reduceIte, reduceCtorEq, Nat.reduceEqDiff, forall_const, implies_true, Nat.reduceAdd, Nat.reduceSub, Nat.reduceMul, Nat.reduceLT, Nat.reduceLeDiff, Int.reduceToNat, Int.reduceAdd, Int.reduceSub, Int.reduceNeg, Int.reduceMul, Int.reduceLT, Int.reduceLE, Int.reduceEq]
  · have hli : ¬ ((a.length : Int) = b.length) := by omega
    simp (disch := first | omega | (simp only [List.length_cons, List.length_nil, List.length_map, List.length_drop]; omega)) only [a35, cmV, hli, decide_false, Bool.not_false, ne_of_len hl, ↓evPre, ↓evPreW, evPost, evPostW, ← List.map_take, ← List.map_drop, ↓reduceIte, reduceCtorEq, Nat.reduceEqDiff, forall_const, implies_true, Nat.reduceAdd, Nat.reduceSub, Nat.reduceMul, Nat.reduceLT, Nat.reduceLeDiff, Int.reduceToNat, Int.reduceAdd, Int.reduceSub, Int.reduceNeg, Int.reduceMul, Int.reduceLT, Int.reduceLE, Int.reduceEq]

theorem same36_A (a b : List Txt) (S : Store) (ha : a.length ≤ 1048576) (hb : b.length ≤ 1048576) : CallA Try.prog 36 [cmV a, cmV b] S fun r S' => r = .bool (decide (a = b)) ∧ S' = S := by
  refine CallA.keep Try.func36 c36 (Nat.le_of_ble_eq_true rfl) fun σ hσ => ?_
  by_cases hl : a.length = b.length
  · have hli : ((a.length : Int) = b.length) := by omega
    simp (disch := first | omega | (simp only [List.length_cons, List.length_nil, List.length_map, List.length_drop]; omega)) only [a36, cmV, hli, decide_true, Bool.not_true, ↓evPre, ↓evPreW, evPost, evPostW, ← List.map_take, ← List.map_drop, ↓reduceIte, reduceCtorEq, Nat.reduceEqDiff, forall_const, implies_true, Nat.reduceAdd, Nat.reduceSub, Nat.reduceMul, Nat.reduceLT, Nat.reduceLeDiff, Int.reduceToNat, Int.reduceAdd, Int.reduceSub, Int.reduceNeg, Int.reduceMul, Int.reduceLT, Int.reduceLE, Int.reduceEq]
    refine loopA (ι := Nat) (fun k => [(0, .sl 1 (a.map cmR)), (1, .sl 1 (b.map cmR)), (5, .int .i64 k)]) (fun _ => S) (fun k => k ≤ a.length ∧ a.take k = b.take k) (fun k => a.length - k) 0 ⟨Nat.zero_le _, by simp⟩ ?_ rfl ?_
    · simp only [↓evPre, ↓evPreW, evPost, evPostW, ← List.map_take, ← List.map_drop, ↓reduceIte, reduceCtorEq, Nat.reduceEqDiff, forall_const, implies_true, Nat.reduceAdd, Nat.reduceSub, Nat.reduceMul, Nat.reduceLT, Nat.reduceLeDiff, Int.reduceToNat, Int.reduceAdd, Int.reduceSub, Int.reduceNeg, Int.reduceMul, Int.reduceLT, Int.reduceLE, Int.reduceEq]
    · rintro k ⟨hk, hall⟩
      by_cases hlt : (k : Int) < a.length
      · obtain ⟨x, hx⟩ := get_lt (a := a) (k := k) (by omega)
        obtain ⟨y, hy⟩ := get_lt (a := b) (k := k) (by omega)
        by_cases he : x = y
        · subst he
          simp (disch := first | omega | (simp only [List.length_cons, List.length_nil, List.length_map, List.length_drop]; omega)) only [hlt, hx, hy, List.getElem?_map, Option.map_some, cmR, wrap_i64, decide_true, Bool.not_true, ↓evPre, ↓evPreW, evPost, evPostW, ← List.map_take, ← List.map_drop, ↓reduceIte, reduceCtorEq, Nat.reduceEqDiff, forall_const, implies_true, Nat.reduceAdd, Nat.reduceSub, Nat.reduceMul, Nat.reduceLT, Nat.reduceLeDiff, Int.reduceToNat, Int.reduceAdd, Int.reduceSub, Int.reduceNeg, Int.reduceMul, Int.reduceLT, Int.reduceLE, Int.reduceEq]
          exact ⟨k + 1, ⟨by omega, eq_take_succ hall hx hy⟩, by omega, by omega⟩
        · simp (disch := first | omega | (simp only [List.length_cons, List.length_nil, List.length_map, List.length_drop]; omega)) only [hlt, hx, hy, List.getElem?_map, Option.map_some, cmR, wrap_i64, he, decide_false, Bool.not_false, ne_of_get hx hy he, ↓evPre, ↓evPreW, evPost, evPostW, ← List.map_take, ← List.map_drop, ↓reduceIte, reduceCtorEq, Nat.reduceEqDiff, forall_const, implies_true, Nat.reduceAdd, Nat.reduceSub, Nat.reduceMul, Nat.reduceLT, Nat.reduceLeDiff, Int.reduceToNat, Int.reduceAdd, Int.reduceSub, Int.reduceNeg, Int.reduceMul, Int.reduceLT, Int.reduceLE, Int.reduceEq]
      · have hab : a = b := eq_of_take hl (by omega) hall
        subst hab
        simp (disch := first | omega | (simp only [List.length_cons, List.length_nil, List.length_map, List.length_drop]; omega)) only [hlt, wrap_i64, decide_true, ↓evPre, ↓evPreW, evPost, evPostW, ← List.map_take, ← List.map_drop, ↓reduceIte, reduceCtorEq, Nat.reduceEqDiff, forall_const, implies_true, Nat.reduceAdd, Nat.reduceSub, Nat.reduceMul, Nat.reduceLT, Nat.reduceLeDiff, Int.reduceToNat, Int.reduceAdd, Int.reduceSub, Int.reduceNeg, Int.reduceMul, Int.reduceLT, Int.reduceLE, Int.reduceEq]
  · have hli : ¬ ((a.length : Int) = b.length) := by omega
    simp (disch := first | omega | (simp only [List.length_cons, List.length_nil, List.length_map, List.length_drop]; omega)) only [a36, cmV, hli, decide_false, Bool.not_false, ne_of_len hl, ↓evPre, ↓evPreW, evPost, evPostW, ← List.map_take, ← List.map_drop, ↓reduceIte, reduceCtorEq, Nat.reduceEqDiff, forall_const, implies_true, Nat.reduceAdd, Nat.reduceSub, Nat.reduceMul, Nat.reduceLT, Nat.reduceLeDiff, Int.reduceToNat, Int.reduceAdd, Int.reduceSub, Int.reduceNeg, Int.reduceMul, Int.reduceLT, Int.reduceLE, Int.reduceEq]

theorem same34_A (a b : List Txt) (S : Store) (ha : a.length ≤ 1048576) (hb : b.length ≤ 1048576) : CallA Try.prog 34 [cmV a, cmV b] S fun r S' => r = .bool (decide (a = b)) ∧ S' = S := by
  refine CallA.keep Try.func34 c34 (Nat.le_of_ble_eq_true rfl) fun σ hσ => ?_
  simp (disch := first | omega | (simp only [List.length_cons, List.length_nil, List.length_map, List.length_drop]; omega)) only [a34, ↓evPre, ↓evPreW, evPost, evPostW, ← List.map_take, ← List.map_drop, ↓reduceIte, reduceCtorEq, Nat.reduceEqDiff, forall_const, implies_true, Nat.reduceAdd, Nat.reduceSub, Nat.reduceMul, Nat.reduceLT, Nat.reduceLeDiff, Int.reduceToNat, Int.reduceAdd, Int.reduceSub, Int.reduceNeg, Int.reduceMul, Int.reduceLT, Int.reduceLE, Int.reduceEq]
  refine (same35_A a b S ha hb).then ?_
  simp (disch := first | omega | (simp only [List.length_cons, List.length_nil, List.length_map, List.length_drop]; omega)) only [↓evPre, ↓evPreW, evPost, evPostW, ← List.map_take, ← List.map_drop, ↓reduceIte, reduceCtorEq, Nat.reduceEqDiff, forall_const, implies_true, Nat.reduceAdd, Nat.reduceSub, Nat.reduceMul, Nat.reduceLT, Nat.reduceLeDiff, Int.reduceToNat, Int.reduceAdd, Int.reduceSub, Int.reduceNeg, Int.reduceMul, Int.reduceLT, Int.reduceLE, Int.reduceEq]

theorem same33_A (a b : List (List Txt)) (S : Store) (ha : a.length ≤ 1048576 ∧ ∀ e ∈ a, FitE e) (hb : b.length ≤ 1048576 ∧ ∀ e ∈ b, FitE e) : CallA Try.prog 33 [elV a, elV b, .func 34 [] []] S fun r S' => r = .bool (decide (a = b)) ∧ S' = S := by
  refine CallA.keep Try.func33 c33 (Nat.le_of_ble_eq_true rfl) fun σ hσ => ?_
  obtain ⟨ha1, ha2⟩ := ha
  obtain ⟨hb1, hb2⟩ := hb
  by_cases hl : a.length = b.length
  · have hli : ((a.length : Int) = b.length) := by omega
    simp (disch := first | omega | (simp only [List.length_cons, List.length_nil, List.length_map, List.length_drop]; omega)) only [a33, elV, hli, decide_true, Bool.not_true, ↓evPre, ↓evPreW, evPost, evPostW, ← List.map_take, ← List.map_drop, ↓reduceIte, reduceCtorEq, Nat.reduceEqDiff, forall_const, implies_true, Nat.reduceAdd, Nat.reduceSub, Nat.reduceMul, Nat.reduceLT, Nat.reduceLeDiff, Int.reduceToNat, Int.reduceAdd, Int.reduceSub, Int.reduceNeg, Int.reduceMul, Int.reduceLT, Int.reduceLE, Int.reduceEq]
    refine loopA (ι := Nat) (fun k => [(1, .sl 1 (b.map elR)), (2, .func 34 [] []), (15, .sl 1 (a.map elR)), (16, .int .i64 b.length), (17, .int .i64 k)]) (fun _ => S) (fun k => k ≤ b.length ∧ a.take k = b.take k) (fun k => b.length - k) 0 ⟨Nat.zero_le _, by simp⟩ ?_ rfl ?_
    · simp only [↓evPre, ↓evPreW, evPost, evPostW, ← List.map_take, ← List.map_drop, ↓reduceIte, reduceCtorEq, Nat.reduceEqDiff, forall_const, implies_true, Nat.reduceAdd, Nat.reduceSub, Nat.reduceMul, Nat.reduceLT, Nat.reduceLeDiff, Int.reduceToNat, Int.reduceAdd, Int.reduceSub, Int.reduceNeg, Int.reduceMul, Int.reduceLT, Int.reduceLE, Int.reduceEq]
    · rintro k ⟨hk, hall⟩
      by_cases hlt : (k : Int) < b.length
      · obtain ⟨x, hx⟩ := get_lt (a := a) (k := k) (by omega)
        obtain ⟨y, hy⟩ := get_lt (a := b) (k := k) (by omega)
        simp (disch := first | omega | (simp only [List.length_cons, List.length_nil, List.length_map, List.length_drop]; omega)) only [hlt, hx, hy, List.getElem?_map, Option.map_some, elR, wrap_i64, ↓evPre, ↓evPreW, evPost, evPostW, ← List.map_take, ← List.map_drop, ↓reduceIte, reduceCtorEq, Nat.reduceEqDiff, forall_const, implies_true, Nat.reduceAdd, Nat.reduceSub, Nat.reduceMul, Nat.reduceLT, Nat.reduceLeDiff, Int.reduceToNat, Int.reduceAdd, Int.reduceSub, Int.reduceNeg, Int.reduceMul, Int.reduceLT, Int.reduceLE, Int.reduceEq]
        refine (same34_A x y S (ha2 x (List.mem_of_getElem? hx)).1 (hb2 y (List.mem_of_getElem? hy)).1).then ?_
        by_cases he : x = y
        · subst he
          simp (disch := first | omega | (simp only [List.length_cons, List.length_nil, List.length_map, List.length_drop]; omega)) only [hlt, hx, hy, wrap_i64, decide_true, Bool.not_true, ↓evPre, ↓evPreW, evPost, evPostW, ← List.map_take, ← List.map_drop, ↓reduceIte, reduceCtorEq, Nat.reduceEqDiff, forall_const, implies_true, Nat.reduceAdd, Nat.reduceSub, Nat.reduceMul, Nat.reduceLT, Nat.reduceLeDiff, Int.reduceToNat, Int.reduceAdd, Int.reduceSub, Int.reduceNeg, Int.reduceMul, Int.reduceLT, Int.reduceLE, Int.reduceEq]
          exact ⟨k + 1, ⟨by omega, eq_take_succ hall hx hy⟩, by omega, by omega⟩
        · simp (disch := first | omega | (simp only [List.length_cons, List.length_nil, List.length_map, List.length_drop]; omega)) only [hlt, hx, hy, wrap_i64, he, decide_false, Bool.not_false, ne_of_get hx hy he, ↓evPre, ↓evPreW, evPost, evPostW, ← List.map_take, ← List.map_drop, ↓reduceIte, reduceCtorEq, Nat.reduceEqDiff, forall_const, implies_true, Nat.reduceAdd, Nat.reduceSub, Nat.reduceMul, Nat.reduceLT, Nat.reduceLeDiff, Int.reduceToNat, Int.reduceAdd, Int.reduceSub, Int.reduceNeg, Int.reduceMul, Int.reduceLT, Int.reduceLE, Int.reduceEq]
      · have hab : a = b := eq_of_take hl (by omega) hall
        simp (disch := first | omega | (simp only [List.length_cons, List.length_nil, List.length_map, List.length_drop]; omega)) only [hlt, wrap_i64, hab, decide_true, ↓evPre, ↓evPreW, evPost, evPostW, ← List.map_take, ← List.map_drop, ↓reduceIte, reduceCtorEq, Nat.reduceEqDiff, forall_const, implies_true, Nat.reduceAdd, Nat.reduceSub, Nat.reduceMul, Nat.reduceLT, Nat.reduceLeDiff, Int.reduceToNat, Int.reduceAdd, Int.reduceSub, Int.reduceNeg, Int.reduceMul, Int.reduceLT, Int.reduceLE, Int.reduceEq]
  · have hli : ¬ ((a.length : Int) = b.length) := by omega
    simp (disch := first | omega | (simp only [List.length_cons, List.length_nil, List.length_map, List.length_drop]; omega)) only [a33, elV, hli, decide_false, Bool.not_false, ne_of_len hl, ↓evPre, ↓evPreW, evPost, evPostW, ← List.map_take, ← List.map_drop, ↓reduceIte, reduceCtorEq, Nat.reduceEqDiff, forall_const, implies_true, Nat.reduceAdd, Nat.reduceSub, Nat.reduceMul, Nat.reduceLT, Nat.reduceLeDiff, Int.reduceToNat, Int.reduceAdd, Int.reduceSub, Int.reduceNeg, Int.reduceMul, Int.reduceLT, Int.reduceLE, Int.reduceEq]

theorem ln_eq (x y : Ln) : decide (x = y) = (decide (x.tag = y.tag) && decide (x.els = y.els)) := by
  cases x; cases y; simp

theorem same32_A (x y : Ln) (S : Store) (hx : FitX x) (hy : FitX y) : CallA Try.prog 32 [.agg (lnR x), .agg (lnR y)] S fun r S' => r = .bool (decide (x = y)) ∧ S' = S := by
  refine CallA.keep Try.func32 c32 (Nat.le_of_ble_eq_true rfl) fun σ hσ => ?_
  by_cases ht : x.tag = y.tag
  · simp (disch := first | omega | (simp only [List.length_cons, List.length_nil, List.length_map, List.length_drop]; omega)) only [a32, lnR, elV, ht, decide_true, ↓evPre, ↓evPreW, evPost, evPostW, ← List.map_take, ← List.map_drop, ↓reduceIte, reduceCtorEq, Nat.reduceEqDiff, forall_const, implies_true, Nat.reduceAdd, Nat.reduceSub, Nat.reduceMul, Nat.reduceLT, Nat.reduceLeDiff, Int.reduceToNat, Int.reduceAdd, Int.reduceSub, Int.reduceNeg, Int.reduceMul, Int.reduceLT, Int.reduceLE, Int.reduceEq]
    refine (same33_A x.els y.els S hx.2 hy.2).then ?_
    simp (disch := first | omega | (simp only [List.length_cons, List.length_nil, List.length_map, List.length_drop]; omega)) only [ln_eq, ht, decide_true, Bool.true_and, ↓evPre, ↓evPreW, evPost, evPostW, ← List.map_take, ← List.map_drop, ↓reduceIte, reduceCtorEq, Nat.reduceEqDiff, forall_const, implies_true, Nat.reduceAdd, Nat.reduceSub, Nat.reduceMul, Nat.reduceLT, Nat.reduceLeDiff, Int.reduceToNat, Int.reduceAdd, Int.reduceSub, Int.reduceNeg, Int.reduceMul, Int.reduceLT, Int.reduceLE, Int.reduceEq]
  · simp (disch := first | omega | (simp only [List.length_cons, List.length_nil, List.length_map, List.length_drop]; omega)) only [a32, lnR, elV, ht, decide_false, ln_eq, Bool.false_and, ↓evPre, ↓evPreW, evPost, evPostW, ← List.map_take, ← List.map_drop, ↓reduceIte, reduceCtorEq, Nat.reduceEqDiff, forall_const, implies_true, Nat.reduceAdd, Nat.reduceSub, Nat.reduceMul, Nat.reduceLT, Nat.reduceLeDiff, Int.reduceToNat, Int.reduceAdd, Int.reduceSub, Int.reduceNeg, Int.reduceMul, Int.reduceLT, Int.reduceLE, Int.reduceEq]

theorem same31_A (a b : List Ln) (S : Store) (ha : FitL a) (hb : FitL b) : CallA Try.prog 31 [lnV a, lnV b, .func 32 [] []] S fun r S' => r = .bool (decide (a = b)) ∧ S' = S := by
  refine CallA.back Try.func31 c31 (Nat.le_of_ble_eq_true rfl) fun σ hσ hn => ?_
  obtain ⟨ha1, ha2⟩ := ha
  obtain ⟨hb1, hb2⟩ := hb
  by_cases hl : a.length = b.length
  · have hli : ((a.length : Int) = b.length) := by omega
    simp (disch := first | omega | (simp only [List.length_cons, List.length_nil, List.length_map, List.length_drop]; omega)) only [a31, lnV, hli, decide_true, Bool.not_true, ↓evPre, ↓evPreW, evPost, evPostW, ← List.map_take, ← List.map_drop, ↓reduceIte, reduceCtorEq, Nat.reduceEqDiff, forall_const, implies_true, Nat.reduceAdd, Nat.reduceSub, Nat.reduceMul, Nat.reduceLT, Nat.reduceLeDiff, Int.reduceToNat, Int.reduceAdd, Int.reduceSub, Int.reduceNeg, Int.reduceMul, Int.reduceLT, Int.reduceLE, Int.reduceEq]
    refine loopA (ι := Nat × Store) (fun k => [(1, .sl 2 (b.map lnR)), (2, .func 32 [] []), (15, .sl 2 (a.map lnR)), (16, .int .i64 b.length), (17, .int .i64 k.1)]) (fun k => S ++ k.2) (fun k => k.1 ≤ b.length ∧ a.take k.1 = b.take k.1) (fun k => b.length - k.1) (0, []) ⟨Nat.zero_le _, by simp⟩ ?_ (List.append_nil S).symm ?_
    · simp only [↓evPre, ↓evPreW, evPost, evPostW, ← List.map_take, ← List.map_drop, ↓reduceIte, reduceCtorEq, Nat.reduceEqDiff, forall_const, implies_true, Nat.reduceAdd, Nat.reduceSub, Nat.reduceMul, Nat.reduceLT, Nat.reduceLeDiff, Int.reduceToNat, Int.reduceAdd, Int.reduceSub, Int.reduceNeg, Int.reduceMul, Int.reduceLT, Int.reduceLE, Int.reduceEq]
    · rintro ⟨k, T⟩ ⟨hk, hall⟩
      simp only at hk hall
      by_cases hlt : (k : Int) < b.length
      · obtain ⟨x, hx⟩ := get_lt (a := a) (k := k) (by omega)
        obtain ⟨y, hy⟩ := get_lt (a := b) (k := k) (by omega)
        simp (disch := first | omega | (simp only [List.length_cons, List.length_nil, List.length_map, List.length_drop]; omega)) only [hlt, hx, hy, List.getElem?_map, Option.map_some, lnR, elV, wrap_i64, ob_app, ob_app0, ob_cons, ob_head, se_app, se_app0, se_cons, se_head, ap_app, le_app, List.cons_append, List.nil_append, List.length_cons, List.length_nil, ↓evPre, ↓evPreW, evPost, evPostW, ← List.map_take, ← List.map_drop, ↓reduceIte, reduceCtorEq, Nat.reduceEqDiff, forall_const, implies_true, Nat.reduceAdd, Nat.reduceSub, Nat.reduceMul, Nat.reduceLT, Nat.reduceLeDiff, Int.reduceToNat, Int.reduceAdd, Int.reduceSub, Int.reduceNeg, Int.reduceMul, Int.reduceLT, Int.reduceLE, Int.reduceEq]
        refine (same32_A x y _ (ha2 x (List.mem_of_getElem? hx)) (hb2 y (List.mem_of_getElem? hy))).then ?_
        by_cases he : x = y
        · subst he
          simp (disch := first | omega | (simp only [List.length_cons, List.length_nil, List.length_map, List.length_drop]; omega)) only [hlt, hx, hy, wrap_i64, decide_true, Bool.not_true, ↓evPre, ↓evPreW, evPost, evPostW, ← List.map_take, ← List.map_drop, ↓reduceIte, reduceCtorEq, Nat.reduceEqDiff, forall_const, implies_true, Nat.reduceAdd, Nat.reduceSub, Nat.reduceMul, Nat.reduceLT, Nat.reduceLeDiff, Int.reduceToNat, Int.reduceAdd, Int.reduceSub, Int.reduceNeg, Int.reduceMul, Int.reduceLT, Int.reduceLE, Int.reduceEq]
          exact ⟨(k + 1, _), ⟨by simp only; omega, eq_take_succ hall hx hy⟩, by simp only; omega, by simp only; omega, rfl⟩
        · simp (disch := first | omega | (simp only [List.length_cons, List.length_nil, List.length_map, List.length_drop]; omega)) only [hlt, hx, hy, wrap_i64, he, decide_false, Bool.not_false, ne_of_get hx hy he, ↓evPre, ↓evPreW, evPost, evPostW, ← List.map_take, ← List.map_drop, ↓reduceIte, reduceCtorEq, Nat.reduceEqDiff, forall_const, implies_true, Nat.reduceAdd, Nat.reduceSub, Nat.reduceMul, Nat.reduceLT, Nat.reduceLeDiff, Int.reduceToNat, Int.reduceAdd, Int.reduceSub, Int.reduceNeg, Int.reduceMul, Int.reduceLT, Int.reduceLE, Int.reduceEq]
          exact ⟨.bool false, ⟨_, rfl⟩, .imm rfl, rfl⟩
      · have hab : a = b := eq_of_take hl (by omega) hall
        simp (disch := first | omega | (simp only [List.length_cons, List.length_nil, List.length_map, List.length_drop]; omega)) only [hlt, wrap_i64, hab, decide_true, ↓evPre, ↓evPreW, evPost, evPostW, ← List.map_take, ← List.map_drop, ↓reduceIte, reduceCtorEq, Nat.reduceEqDiff, forall_const, implies_true, Nat.reduceAdd, Nat.reduceSub, Nat.reduceMul, Nat.reduceLT, Nat.reduceLeDiff, Int.reduceToNat, Int.reduceAdd, Int.reduceSub, Int.reduceNeg, Int.reduceMul, Int.reduceLT, Int.reduceLE, Int.reduceEq]
        exact ⟨.bool true, ⟨_, rfl⟩, .imm rfl, rfl⟩
  · have hli : ¬ ((a.length : Int) = b.length) := by omega
    simp (disch := first | omega | (simp only [List.length_cons, List.length_nil, List.length_map, List.length_drop]; omega)) only [a31, lnV, hli, decide_false, Bool.not_false, ne_of_len hl, ↓evPre, ↓evPreW, evPost, evPostW, ← List.map_take, ← List.map_drop, ↓reduceIte, reduceCtorEq, Nat.reduceEqDiff, forall_const, implies_true, Nat.reduceAdd, Nat.reduceSub, Nat.reduceMul, Nat.reduceLT, Nat.reduceLeDiff, Int.reduceToNat, Int.reduceAdd, Int.reduceSub, Int.reduceNeg, Int.reduceMul, Int.reduceLT, Int.reduceLE, Int.reduceEq]
    exact ⟨.bool false, ⟨[], by simp⟩, .imm rfl, rfl⟩
theorem same_A (a b : List Ln) (S : Store) (ha : FitL a) (hb : FitL b) : CallA Try.prog 14 [lnV a, lnV b] S fun r S' => r = .bool (decide (a = b)) ∧ S' = S := by
  refine CallA.keep Try.func14 c14 (Nat.le_of_ble_eq_true rfl) fun σ hσ => ?_
  simp (disch := first | omega | (simp only [List.length_cons, List.length_nil, List.length_map, List.length_drop]; omega)) only [a14, ↓evPre, ↓evPreW, evPost, evPostW, ← List.map_take, ← List.map_drop, ↓reduceIte, reduceCtorEq, Nat.reduceEqDiff, forall_const, implies_true, Nat.reduceAdd, Nat.reduceSub, Nat.reduceMul, Nat.reduceLT, Nat.reduceLeDiff, Int.reduceToNat, Int.reduceAdd, Int.reduceSub, Int.reduceNeg, Int.reduceMul, Int.reduceLT, Int.reduceLE, Int.reduceEq]
  refine (same31_A a b S ha hb).then ?_
  simp (disch := first | omega | (simp only [List.length_cons, List.length_nil, List.length_map, List.length_drop]; omega)) only [↓evPre, ↓evPreW, evPost, evPostW, ← List.map_take, ← List.map_drop, ↓reduceIte, reduceCtorEq, Nat.reduceEqDiff, forall_const, implies_true, Nat.reduceAdd, Nat.reduceSub, Nat.reduceMul, Nat.reduceLT, Nat.reduceLeDiff, Int.reduceToNat, Int.reduceAdd, Int.reduceSub, Int.reduceNeg, Int.reduceMul, Int.reduceLT, Int.reduceLE, Int.reduceEq]

theorem refSame_A (a b : List Ln) (S : Store) (ha : FitL a) (hb : FitL b) : CallA Try.prog 15 [lnV a, lnV b] S fun r S' => r = .bool (decide (a = b)) ∧ S' = S := by
  refine CallA.keep Try.func15 c15 (Nat.le_of_ble_eq_true rfl) fun σ hσ => ?_
  obtain ⟨ha1, ha2⟩ := ha
  obtain ⟨hb1, hb2⟩ := hb
  by_cases hl : a.length = b.length
  · have hli : ((a.length : Int) = b.length) := by omega
    simp (disch := first | omega | (simp only [List.length_cons, List.length_nil, List.length_map, List.length_drop]; omega)) only [a15, lnV, hli, decide_true, Bool.not_true, ↓evPre, ↓evPreW, evPost, evPostW, ← List.map_take, ← List.map_drop, ↓reduceIte, reduceCtorEq, Nat.reduceEqDiff, forall_const, implies_true, Nat.reduceAdd, Nat.reduceSub, Nat.reduceMul, Nat.reduceLT, Nat.reduceLeDiff, Int.reduceToNat, Int.reduceAdd, Int.reduceSub, Int.reduceNeg, Int.reduceMul, Int.reduceLT, Int.reduceLE, Int.reduceEq]
    refine loopA (ι := Nat) (fun k => [(0, .sl 2 (a.map lnR)), (1, .sl 2 (b.map lnR)), (5, .int .i64 k)]) (fun _ => S) (fun k => k ≤ a.length ∧ a.take k = b.take k) (fun k => a.length - k) 0 ⟨Nat.zero_le _, by simp⟩ ?_ rfl ?_
    · simp only [↓evPre, ↓evPreW, evPost, evPostW, ← List.map_take, ← List.map_drop, ↓reduceIte, reduceCtorEq, Nat.reduceEqDiff, forall_const, implies_true, Nat.reduceAdd, Nat.reduceSub, Nat.reduceMul, Nat.reduceLT, Nat.reduceLeDiff, Int.reduceToNat, Int.reduceAdd, Int.reduceSub, Int.reduceNeg, Int.reduceMul, Int.reduceLT, Int.reduceLE, Int.reduceEq]
    · rintro k ⟨hk, hall⟩
      by_cases hlt : (k : Int) < a.length
      · obtain ⟨x, hx⟩ := get_lt (a := a) (k := k) (by omega)
        obtain ⟨y, hy⟩ := get_lt (a := b) (k := k) (by omega)
        obtain ⟨hx1, hx2, hx3⟩ := ha2 x (List.mem_of_getElem? hx)
        obtain ⟨hy1, hy2, hy3⟩ := hb2 y (List.mem_of_getElem? hy)
        by_cases ht : x.tag = y.tag
        · by_cases hn : x.els.length = y.els.length
          · have hni : (x.els.length : Int) = y.els.length := by omega
            simp (disch := first | omega | (simp only [List.length_cons, List.length_nil, List.length_map, List.length_drop]; omega)) only [hlt, hx, hy, List.getElem?_map, Option.map_some, lnR, elV, wrap_i64, ht, hni, decide_true, Bool.not_true, ↓evPre, ↓evPreW, evPost, evPostW, ← List.map_take, ← List.map_drop, ↓reduceIte, reduceCtorEq, Nat.reduceEqDiff, forall_const, implies_true, Nat.reduceAdd, Nat.reduceSub, Nat.reduceMul, Nat.reduceLT, Nat.reduceLeDiff, Int.reduceToNat, Int.reduceAdd, Int.reduceSub, Int.reduceNeg, Int.reduceMul, Int.reduceLT, Int.reduceLE, Int.reduceEq]
            refine loopA (ι := Nat) (fun i => [(0, .sl 2 (a.map lnR)), (1, .sl 2 (b.map lnR)), (5, .int .i64 k), (6, .int .i64 i)]) (fun _ => S) (fun i => i ≤ x.els.length ∧ x.els.take i = y.els.take i) (fun i => x.els.length - i) 0 ⟨Nat.zero_le _, by simp⟩ ?_ rfl ?_
            · simp only [↓evPre, ↓evPreW, evPost, evPostW, ← List.map_take, ← List.map_drop, ↓reduceIte, reduceCtorEq, Nat.reduceEqDiff, forall_const, implies_true, Nat.reduceAdd, Nat.reduceSub, Nat.reduceMul, Nat.reduceLT, Nat.reduceLeDiff, Int.reduceToNat, Int.reduceAdd, Int.reduceSub, Int.reduceNeg, Int.reduceMul, Int.reduceLT, Int.reduceLE, Int.reduceEq]
            · rintro i ⟨hi, hal⟩
              by_cases hlt2 : (i : Int) < x.els.length
              · obtain ⟨p, hp⟩ := get_lt (a := x.els) (k := i) (by omega)
                obtain ⟨q, hq⟩ := get_lt (a := y.els) (k := i) (by omega)
                simp (disch := first | omega | (simp only [List.length_cons, List.length_nil, List.length_map, List.length_drop]; omega)) only [hlt, hlt2, hx, hy, hp, hq, List.getElem?_map, Option.map_some, lnR, elV, elR, wrap_i64, ↓evPre, ↓evPreW, evPost, evPostW, ← List.map_take, ← List.map_drop, ↓reduceIte, reduceCtorEq, Nat.reduceEqDiff, forall_const, implies_true, Nat.reduceAdd, Nat.reduceSub, Nat.reduceMul, Nat.reduceLT, Nat.reduceLeDiff, Int.reduceToNat, Int.reduceAdd, Int.reduceSub, Int.reduceNeg, Int.reduceMul, Int.reduceLT, Int.reduceLE, Int.reduceEq]
                refine (same36_A p q _ (hx3 p (List.mem_of_getElem? hp)).1 (hy3 q (List.mem_of_getElem? hq)).1).then ?_
                by_cases he : p = q
                · subst he
                  simp (disch := first | omega | (simp only [List.length_cons, List.length_nil, List.length_map, List.length_drop]; omega)) only [wrap_i64, decide_true, Bool.not_true, ↓evPre, ↓evPreW, evPost, evPostW, ← List.map_take, ← List.map_drop, ↓reduceIte, reduceCtorEq, Nat.reduceEqDiff, forall_const, implies_true, Nat.reduceAdd, Nat.reduceSub, Nat.reduceMul, Nat.reduceLT, Nat.reduceLeDiff, Int.reduceToNat, Int.reduceAdd, Int.reduceSub, Int.reduceNeg, Int.reduceMul, Int.reduceLT, Int.reduceLE, Int.reduceEq]
                  exact ⟨i + 1, ⟨by omega, eq_take_succ hal hp hq⟩, by omega, by omega⟩
                · have hxy : ¬ x = y := fun h => ne_of_get hp hq he (by rw [h])
                  simp (disch := first | omega | (simp only [List.length_cons, List.length_nil, List.length_map, List.length_drop]; omega)) only [wrap_i64, he, decide_false, Bool.not_false, ne_of_get hx hy hxy, ↓evPre, ↓evPreW, evPost, evPostW, ← List.map_take, ← List.map_drop, ↓reduceIte, reduceCtorEq, Nat.reduceEqDiff, forall_const, implies_true, Nat.reduceAdd, Nat.reduceSub, Nat.reduceMul, Nat.reduceLT, Nat.reduceLeDiff, Int.reduceToNat, Int.reduceAdd, Int.reduceSub, Int.reduceNeg, Int.reduceMul, Int.reduceLT, Int.reduceLE, Int.reduceEq]
              · have hels : x.els = y.els := eq_of_take hn (by omega) hal
                have hxy : x = y := by
                  cases x
                  cases y
                  simp only at hels ht
                  rw [hels, ht]
                subst hxy
                simp (disch := first | omega | (simp only [List.length_cons, List.length_nil, List.length_map, List.length_drop]; omega)) only [hlt, hlt2, hx, hy, List.getElem?_map, Option.map_some, lnR, elV, wrap_i64, ↓evPre, ↓evPreW, evPost, evPostW, ← List.map_take, ← List.map_drop, ↓reduceIte, reduceCtorEq, Nat.reduceEqDiff, forall_const, implies_true, Nat.reduceAdd, Nat.reduceSub, Nat.reduceMul, Nat.reduceLT, Nat.reduceLeDiff, Int.reduceToNat, Int.reduceAdd, Int.reduceSub, Int.reduceNeg, Int.reduceMul, Int.reduceLT, Int.reduceLE, Int.reduceEq]
                exact ⟨k + 1, ⟨by omega, eq_take_succ hall hx hy⟩, by omega, by omega⟩
          · have hni : ¬ (x.els.length : Int) = y.els.length := by omega
            have hxy : ¬ x = y := fun h => hn (by rw [h])
            simp (disch := first | omega | (simp only [List.length_cons, List.length_nil, List.length_map, List.length_drop]; omega)) only [hlt, hx, hy, List.getElem?_map, Option.map_some, lnR, elV, wrap_i64, ht, hni, decide_true, decide_false, Bool.not_true, Bool.not_false, ne_of_get hx hy hxy, ↓evPre, ↓evPreW, evPost, evPostW, ← List.map_take, ← List.map_drop, ↓reduceIte, reduceCtorEq, Nat.reduceEqDiff, forall_const, implies_true, Nat.reduceAdd, Nat.reduceSub, Nat.reduceMul, Nat.reduceLT, Nat.reduceLeDiff, Int.reduceToNat, Int.reduceAdd, Int.reduceSub, Int.reduceNeg, Int.reduceMul, Int.reduceLT, Int.reduceLE, Int.reduceEq]
        · have hxy : ¬ x = y := fun h => ht (by rw [h])
          simp (disch := first | omega | (simp only [List.length_cons, List.length_nil, List.length_map, List.length_drop]; omega)) only [hlt, hx, hy, List.getElem?_map, Option.map_some, lnR, elV, wrap_i64, ht, decide_false, Bool.not_false, ne_of_get hx hy hxy, ↓evPre, ↓evPreW, evPost, evPostW, ← List.map_take, ← List.map_drop, ↓reduceIte, reduceCtorEq, Nat.reduceEqDiff, forall_const, implies_true, Nat.reduceAdd, Nat.reduceSub, Nat.reduceMul, Nat.reduceLT, Nat.reduceLeDiff, Int.reduceToNat, Int.reduceAdd, Int.reduceSub, Int.reduceNeg, Int.reduceMul, Int.reduceLT, Int.reduceLE, Int.reduceEq]
      · have hab : a = b := eq_of_take hl (by omega) hall
        subst hab
        simp (disch := first | omega | (simp only [List.length_cons, List.length_nil, List.length_map, List.length_drop]; omega)) only [hlt, wrap_i64, decide_true, ↓evPre, ↓evPreW, evPost, evPostW, ← List.map_take, ← List.map_drop, ↓reduceIte, reduceCtorEq, Nat.reduceEqDiff, forall_const, implies_true, Nat.reduceAdd, Nat.reduceSub, Nat.reduceMul, Nat.reduceLT, Nat.reduceLeDiff, Int.reduceToNat, Int.reduceAdd, Int.reduceSub, Int.reduceNeg, Int.reduceMul, Int.reduceLT, Int.reduceLE, Int.reduceEq]
  · have hli : ¬ ((a.length : Int) = b.length) := by omega
    simp (disch := first | omega | (simp only [List.length_cons, List.length_nil, List.length_map, List.length_drop]; omega)) only [a15, lnV, hli, decide_false, Bool.not_false, ne_of_len hl, ↓evPre, ↓evPreW, evPost, evPostW, ← List.map_take, ← List.map_drop, ↓reduceIte, reduceCtorEq, Nat.reduceEqDiff, forall_const, implies_true, Nat.reduceAdd, Nat.reduceSub, Nat.reduceMul, Nat.reduceLT, Nat.reduceLeDiff, Int.reduceToNat, Int.reduceAdd, Int.reduceSub, Int.reduceNeg, Int.reduceMul, Int.reduceLT, Int.reduceLE, Int.reduceEq]

/-- A component, or the empty text. -/
def getL (x : Ln) (i j : Int) : Txt :=
  if i < 0 ∨ (x.els.length : Int) ≤ i then [] else
  match x.els[i.toNat]? with
  | some e => if j < 0 ∨ (e.length : Int) ≤ j then [] else (e[j.toNat]?).getD []
  | none => []

theorem get_A (x : Ln) (i j : Int) (S : Store) : CallA Try.prog 18 [.agg (lnR x), .int .i64 i, .int .i64 j] S fun r S' => r = .str (getL x i j) ∧ S' = S := by
  refine CallA.keep Try.func18 c18 (Nat.le_of_ble_eq_true rfl) fun σ hσ => ?_
  by_cases h0 : i < 0
  · simp (disch := first | omega | (simp only [List.length_cons, List.length_nil, List.length_map, List.length_drop]; omega)) only [a18, lnR, elV, h0, decide_true, getL, true_or, if_true, ↓evPre, ↓evPreW, evPost, evPostW, ← List.map_take, ← List.map_drop, ↓reduceIte, reduceCtorEq, Nat.reduceEqDiff, forall_const, implies_true, Nat.reduceAdd, Nat.reduceSub, Nat.reduceMul, Nat.reduceLT, Nat.reduceLeDiff, Int.reduceToNat, Int.reduceAdd, Int.reduceSub, Int.reduceNeg, Int.reduceMul, Int.reduceLT, Int.reduceLE, Int.reduceEq]
  · by_cases h1 : (x.els.length : Int) ≤ i
    · simp (disch := first | omega | (simp only [List.length_cons, List.length_nil, List.length_map, List.length_drop]; omega)) only [a18, lnR, elV, h0, h1, decide_true, decide_false, getL, or_true, if_true, ↓evPre, ↓evPreW, evPost, evPostW, ← List.map_take, ← List.map_drop, ↓reduceIte, reduceCtorEq, Nat.reduceEqDiff, forall_const, implies_true, Nat.reduceAdd, Nat.reduceSub, Nat.reduceMul, Nat.reduceLT, Nat.reduceLeDiff, Int.reduceToNat, Int.reduceAdd, Int.reduceSub, Int.reduceNeg, Int.reduceMul, Int.reduceLT, Int.reduceLE, Int.reduceEq]
    · obtain ⟨e, he⟩ := get_lt (a := x.els) (k := i.toNat) (by omega)
      have h2 : 0 ≤ i := by omega
      by_cases h3 : j < 0
      · simp (disch := first | omega | (simp only [List.length_cons, List.length_nil, List.length_map, List.length_drop]; omega)) only [a18, lnR, elV, h0, h1, h2, h3, he, List.getElem?_map, Option.map_some, elR, decide_true, decide_false, getL, or_false, true_or, if_true, if_false, ↓evPre, ↓evPreW, evPost, evPostW, ← List.map_take, ← List.map_drop, ↓reduceIte, reduceCtorEq, Nat.reduceEqDiff, forall_const, implies_true, Nat.reduceAdd, Nat.reduceSub, Nat.reduceMul, Nat.reduceLT, Nat.reduceLeDiff, Int.reduceToNat, Int.reduceAdd, Int.reduceSub, Int.reduceNeg, Int.reduceMul, Int.reduceLT, Int.reduceLE, Int.reduceEq]
      · by_cases h4 : (e.length : Int) ≤ j
        · simp (disch := first | omega | (simp only [List.length_cons, List.length_nil, List.length_map, List.length_drop]; omega)) only [a18, lnR, elV, h0, h1, h2, h3, h4, he, List.getElem?_map, Option.map_some, elR, cmV, decide_true, decide_false, getL, or_false, or_true, if_true, if_false, ↓evPre, ↓evPreW, evPost, evPostW, ← List.map_take, ← List.map_drop, ↓reduceIte, reduceCtorEq, Nat.reduceEqDiff, forall_const, implies_true, Nat.reduceAdd, Nat.reduceSub, Nat.reduceMul, Nat.reduceLT, Nat.reduceLeDiff, Int.reduceToNat, Int.reduceAdd, Int.reduceSub, Int.reduceNeg, Int.reduceMul, Int.reduceLT, Int.reduceLE, Int.reduceEq]
        · obtain ⟨c, hc⟩ := get_lt (a := e) (k := j.toNat) (by omega)
          have h5 : 0 ≤ j := by omega
          simp (disch := first | omega | (simp only [List.length_cons, List.length_nil, List.length_map, List.length_drop]; omega)) only [a18, lnR, elV, h0, h1, h2, h3, h4, h5, he, hc, List.getElem?_map, Option.map_some, elR, cmV, cmR, Option.getD_some, decide_true, decide_false, getL, or_false, or_true, if_true, if_false, ↓evPre, ↓evPreW, evPost, evPostW, ← List.map_take, ← List.map_drop, ↓reduceIte, reduceCtorEq, Nat.reduceEqDiff, forall_const, implies_true, Nat.reduceAdd, Nat.reduceSub, Nat.reduceMul, Nat.reduceLT, Nat.reduceLeDiff, Int.reduceToNat, Int.reduceAdd, Int.reduceSub, Int.reduceNeg, Int.reduceMul, Int.reduceLT, Int.reduceLE, Int.reduceEq]

theorem refGet_A (x : Ln) (i j : Int) (S : Store) : CallA Try.prog 19 [.agg (lnR x), .int .i64 i, .int .i64 j] S fun r S' => r = .str (getL x i j) ∧ S' = S := by
  refine CallA.keep Try.func19 c19 (Nat.le_of_ble_eq_true rfl) fun σ hσ => ?_
  by_cases h0 : i < 0
  · simp (disch := first | omega | (simp only [List.length_cons, List.length_nil, List.length_map, List.length_drop]; omega)) only [a19, lnR, elV, h0, decide_true, getL, true_or, if_true, ↓evPre, ↓evPreW, evPost, evPostW, ← List.map_take, ← List.map_drop, ↓reduceIte, reduceCtorEq, Nat.reduceEqDiff, forall_const, implies_true, Nat.reduceAdd, Nat.reduceSub, Nat.reduceMul, Nat.reduceLT, Nat.reduceLeDiff, Int.reduceToNat, Int.reduceAdd, Int.reduceSub, Int.reduceNeg, Int.reduceMul, Int.reduceLT, Int.reduceLE, Int.reduceEq]
  · by_cases h1 : (x.els.length : Int) ≤ i
    · simp (disch := first | omega | (simp only [List.length_cons, List.length_nil, List.length_map, List.length_drop]; omega)) only [a19, lnR, elV, h0, h1, decide_true, decide_false, getL, or_true, if_true, ↓evPre, ↓evPreW, evPost, evPostW, ← List.map_take, ← List.map_drop, ↓reduceIte, reduceCtorEq, Nat.reduceEqDiff, forall_const, implies_true, Nat.reduceAdd, Nat.reduceSub, Nat.reduceMul, Nat.reduceLT, Nat.reduceLeDiff, Int.reduceToNat, Int.reduceAdd, Int.reduceSub, Int.reduceNeg, Int.reduceMul, Int.reduceLT, Int.reduceLE, Int.reduceEq]
    · obtain ⟨e, he⟩ := get_lt (a := x.els) (k := i.toNat) (by omega)
      have h2 : 0 ≤ i := by omega
      by_cases h3 : j < 0
      · simp (disch := first | omega | (simp only [List.length_cons, List.length_nil, List.length_map, List.length_drop]; omega)) only [a19, lnR, elV, h0, h1, h2, h3, he, List.getElem?_map, Option.map_some, elR, decide_true, decide_false, getL, or_false, true_or, if_true, if_false, ↓evPre, ↓evPreW, evPost, evPostW, ← List.map_take, ← List.map_drop, ↓reduceIte, reduceCtorEq, Nat.reduceEqDiff, forall_const, implies_true, Nat.reduceAdd, Nat.reduceSub, Nat.reduceMul, Nat.reduceLT, Nat.reduceLeDiff, Int.reduceToNat, Int.reduceAdd, Int.reduceSub, Int.reduceNeg, Int.reduceMul, Int.reduceLT, Int.reduceLE, Int.reduceEq]
      · by_cases h4 : (e.length : Int) ≤ j
        · simp (disch := first | omega | (simp only [List.length_cons, List.length_nil, List.length_map, List.length_drop]; omega)) only [a19, lnR, elV, h0, h1, h2, h3, h4, he, List.getElem?_map, Option.map_some, elR, cmV, decide_true, decide_false, getL, or_false, or_true, if_true, if_false, ↓evPre, ↓evPreW, evPost, evPostW, ← List.map_take, ← List.map_drop, ↓reduceIte, reduceCtorEq, Nat.reduceEqDiff, forall_const, implies_true, Nat.reduceAdd, Nat.reduceSub, Nat.reduceMul, Nat.reduceLT, Nat.reduceLeDiff, Int.reduceToNat, Int.reduceAdd, Int.reduceSub, Int.reduceNeg, Int.reduceMul, Int.reduceLT, Int.reduceLE, Int.reduceEq]
        · obtain ⟨c, hc⟩ := get_lt (a := e) (k := j.toNat) (by omega)
          have h5 : 0 ≤ j := by omega
          simp (disch := first | omega | (simp only [List.length_cons, List.length_nil, List.length_map, List.length_drop]; omega)) only [a19, lnR, elV, h0, h1, h2, h3, h4, h5, he, hc, List.getElem?_map, Option.map_some, elR, cmV, cmR, Option.getD_some, decide_true, decide_false, getL, or_false, or_true, if_true, if_false, ↓evPre, ↓evPreW, evPost, evPostW, ← List.map_take, ← List.map_drop, ↓reduceIte, reduceCtorEq, Nat.reduceEqDiff, forall_const, implies_true, Nat.reduceAdd, Nat.reduceSub, Nat.reduceMul, Nat.reduceLT, Nat.reduceLeDiff, Int.reduceToNat, Int.reduceAdd, Int.reduceSub, Int.reduceNeg, Int.reduceMul, Int.reduceLT, Int.reduceLE, Int.reduceEq]
end Go.Proofs.Ytpblahljlbakdaa
