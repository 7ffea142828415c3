/- Short lists; the example; the law of lists. -/
import Derived.Test.YtdkcicbpcagonaaRec9
namespace Go.Proofs.Ytdkcicbpcagonaa
open Go Go.AL
set_option linter.unusedSimpArgs false
set_option linter.unusedVariables false

theorem few_A (a b : List St) (S : Store) (ha : a.length ≤ 2000000) (hb : b.length ≤ 2000000) : CallA Try.prog 25 [stSl a, stSl b] S fun r S' => (∃ t, r = .bool t ∧ (t = true → a.length ≤ 60 ∧ b.length ≤ 60 ∧ (∀ x ∈ a, x.v ≤ 1099511627776) ∧ ∀ x ∈ b, x.v ≤ 1099511627776)) ∧ S' = S := by
  refine CallA.keep Try.func25 c25 (Nat.le_of_ble_eq_true rfl) fun σ hσ => ?_
  by_cases h1 : a.length > 60
  · have h1' : (60 : Int) < a.length := by omega
    simp (disch := first | omega | (simp only [List.length_cons, List.length_nil, List.length_map, List.length_drop]; omega)) only [a25, stSl, List.length_map, dT h1', ↓evPre, ↓evPreW, evPost, evPostW, ← List.map_take, ← List.map_drop, ↓reduceIte, reduceCtorEq, Nat.reduceEqDiff, forall_const, implies_true, Nat.reduceAdd, Nat.reduceSub, Nat.reduceMul, Nat.reduceLT, Nat.reduceLeDiff, Int.reduceToNat, Int.reduceAdd, Int.reduceSub, Int.reduceNeg, Int.reduceMul, Int.reduceLT, Int.reduceLE, Int.reduceEq]
    exact ⟨_, rfl, fun h => by cases h⟩
  have h1' : ¬ (60 : Int) < a.length := by omega
  by_cases h2 : b.length > 60
  · have h2' : (60 : Int) < b.length := by omega
    simp (disch := first | omega | (simp only [List.length_cons, List.length_nil, List.length_map, List.length_drop]; omega)) only [a25, stSl, List.length_map, dF h1', dT h2', ↓evPre, ↓evPreW, evPost, evPostW, ← List.map_take, ← List.map_drop, ↓reduceIte, reduceCtorEq, Nat.reduceEqDiff, forall_const, implies_true, Nat.reduceAdd, Nat.reduceSub, Nat.reduceMul, Nat.reduceLT, Nat.reduceLeDiff, Int.reduceToNat, Int.reduceAdd, Int.reduceSub, Int.reduceNeg, Int.reduceMul, Int.reduceLT, Int.reduceLE, Int.reduceEq]
    exact ⟨_, rfl, fun h => by cases h⟩
  have h2' : ¬ (60 : Int) < b.length := by omega
  simp (disch := first | omega | (simp only [List.length_cons, List.length_nil, List.length_map, List.length_drop]; omega)) only [a25, stSl, List.length_map, dF h1', dF h2', ↓evPre, ↓evPreW, evPost, evPostW, ← List.map_take, ← List.map_drop, ↓reduceIte, reduceCtorEq, Nat.reduceEqDiff, forall_const, implies_true, Nat.reduceAdd, Nat.reduceSub, Nat.reduceMul, Nat.reduceLT, Nat.reduceLeDiff, Int.reduceToNat, Int.reduceAdd, Int.reduceSub, Int.reduceNeg, Int.reduceMul, Int.reduceLT, Int.reduceLE, Int.reduceEq]
  refine loopA (ι := Nat) (fun k => [(0, stSl a), (1, stSl b), (5, .int .i64 k)]) (fun _ => S) (fun k => k ≤ a.length ∧ ∀ (i : Nat) (x : St), i < k → a[i]? = some x → x.v ≤ 1099511627776) (fun k => a.length - k) 0 ⟨Nat.zero_le _, fun i x h => by omega⟩ ?_ rfl ?_
  · simp only [stSl, ↓evPre, ↓evPreW, evPost, evPostW, ← List.map_take, ← List.map_drop, ↓reduceIte, reduceCtorEq, Nat.reduceEqDiff, forall_const, implies_true, Nat.reduceAdd, Nat.reduceSub, Nat.reduceMul, Nat.reduceLT, Nat.reduceLeDiff, Int.reduceToNat, Int.reduceAdd, Int.reduceSub, Int.reduceNeg, Int.reduceMul, Int.reduceLT, Int.reduceLE, Int.reduceEq]
    try rfl
  rintro k ⟨hk, hv⟩
  cases hc : a[k]? with
  | some x =>
    have hlt' := (List.getElem?_eq_some_iff.1 hc).1
    have hlt : (k : Int) < a.length := by omega
    by_cases hx : (1099511627776 : Int) < x.v
    · simp (disch := first | omega | (simp only [List.length_cons, List.length_nil, List.length_map, List.length_drop]; omega)) only [stSl, stR, List.length_map, List.getElem?_map, Option.map_some, hc, dT hlt, dT hx, ↓evPre, ↓evPreW, evPost, evPostW, ← List.map_take, ← List.map_drop, ↓reduceIte, reduceCtorEq, Nat.reduceEqDiff, forall_const, implies_true, Nat.reduceAdd, Nat.reduceSub, Nat.reduceMul, Nat.reduceLT, Nat.reduceLeDiff, Int.reduceToNat, Int.reduceAdd, Int.reduceSub, Int.reduceNeg, Int.reduceMul, Int.reduceLT, Int.reduceLE, Int.reduceEq]
      exact ⟨_, rfl, fun h => by cases h⟩
    · simp (disch := first | omega | (simp only [List.length_cons, List.length_nil, List.length_map, List.length_drop]; omega)) only [stSl, stR, wrap_i64, List.length_map, List.getElem?_map, Option.map_some, hc, dT hlt, dF hx, ↓evPre, ↓evPreW, evPost, evPostW, ← List.map_take, ← List.map_drop, ↓reduceIte, reduceCtorEq, Nat.reduceEqDiff, forall_const, implies_true, Nat.reduceAdd, Nat.reduceSub, Nat.reduceMul, Nat.reduceLT, Nat.reduceLeDiff, Int.reduceToNat, Int.reduceAdd, Int.reduceSub, Int.reduceNeg, Int.reduceMul, Int.reduceLT, Int.reduceLE, Int.reduceEq]
      refine ⟨k + 1, ⟨by omega, fun i y hi hy => ?_⟩, by omega, rfl⟩
      by_cases hik : i = k
      · subst hik; rw [hc] at hy; cases hy; omega
      · exact hv i y (by omega) hy
  | none =>
    have hge : a.length ≤ k := List.getElem?_eq_none_iff.1 hc
    have hlt : ¬ ((k : Int) < a.length) := by omega
    have hva : ∀ x ∈ a, x.v ≤ 1099511627776 := fun x hx => by
      obtain ⟨i, hi⟩ := List.getElem?_of_mem hx
      exact hv i x (by have := (List.getElem?_eq_some_iff.1 hi).1; omega) hi
    simp (disch := first | omega | (simp only [List.length_cons, List.length_nil, List.length_map, List.length_drop]; omega)) only [stSl, List.length_map, dF hlt, ↓evPre, ↓evPreW, evPost, evPostW, ← List.map_take, ← List.map_drop, ↓reduceIte, reduceCtorEq, Nat.reduceEqDiff, forall_const, implies_true, Nat.reduceAdd, Nat.reduceSub, Nat.reduceMul, Nat.reduceLT, Nat.reduceLeDiff, Int.reduceToNat, Int.reduceAdd, Int.reduceSub, Int.reduceNeg, Int.reduceMul, Int.reduceLT, Int.reduceLE, Int.reduceEq]
    refine loopA (ι := Nat) (fun k => [(1, stSl b), (6, .int .i64 k)]) (fun _ => S) (fun k => k ≤ b.length ∧ ∀ (i : Nat) (x : St), i < k → b[i]? = some x → x.v ≤ 1099511627776) (fun k => b.length - k) 0 ⟨Nat.zero_le _, fun i x h => by omega⟩ ?_ rfl ?_
    · simp only [stSl, ↓evPre, ↓evPreW, evPost, evPostW, ← List.map_take, ← List.map_drop, ↓reduceIte, reduceCtorEq, Nat.reduceEqDiff, forall_const, implies_true, Nat.reduceAdd, Nat.reduceSub, Nat.reduceMul, Nat.reduceLT, Nat.reduceLeDiff, Int.reduceToNat, Int.reduceAdd, Int.reduceSub, Int.reduceNeg, Int.reduceMul, Int.reduceLT, Int.reduceLE, Int.reduceEq]
      try rfl
    rintro k ⟨hk, hv⟩
    cases hc : b[k]? with
    | some x =>
      have hlt' := (List.getElem?_eq_some_iff.1 hc).1
      have hlt : (k : Int) < b.length := by omega
      by_cases hx : (1099511627776 : Int) < x.v
      · simp (disch := first | omega | (simp only [List.length_cons, List.length_nil, List.length_map, List.length_drop]; omega)) only [stSl, stR, List.length_map, List.getElem?_map, Option.map_some, hc, dT hlt, dT hx, ↓evPre, ↓evPreW, evPost, evPostW, ← List.map_take, ← List.map_drop, ↓reduceIte, reduceCtorEq, Nat.reduceEqDiff, forall_const, implies_true, Nat.reduceAdd, Nat.reduceSub, Nat.reduceMul, Nat.reduceLT, Nat.reduceLeDiff, Int.reduceToNat, Int.reduceAdd, Int.reduceSub, Int.reduceNeg, Int.reduceMul, Int.reduceLT, Int.reduceLE, Int.reduceEq]
        exact ⟨_, rfl, fun h => by cases h⟩
      · simp (disch := first | omega | (simp only [List.length_cons, List.length_nil, List.length_map, List.length_drop]; omega)) only [stSl, stR, wrap_i64, List.length_map, List.getElem?_map, Option.map_some, hc, dT hlt, dF hx, ↓evPre, ↓evPreW, evPost, evPostW, ← List.map_take, ← List.map_drop, ↓reduceIte, reduceCtorEq, Nat.reduceEqDiff, forall_const, implies_true, Nat.reduceAdd, Nat.reduceSub, Nat.reduceMul, Nat.reduceLT, Nat.reduceLeDiff, Int.reduceToNat, Int.reduceAdd, Int.reduceSub, Int.reduceNeg, Int.reduceMul, Int.reduceLT, Int.reduceLE, Int.reduceEq]
        refine ⟨k + 1, ⟨by omega, fun i y hi hy => ?_⟩, by omega, rfl⟩
        by_cases hik : i = k
        · subst hik; rw [hc] at hy; cases hy; omega
        · exact hv i y (by omega) hy
    | none =>
      have hge : b.length ≤ k := List.getElem?_eq_none_iff.1 hc
      have hlt : ¬ ((k : Int) < b.length) := by omega
      have hvb : ∀ x ∈ b, x.v ≤ 1099511627776 := fun x hx => by
        obtain ⟨i, hi⟩ := List.getElem?_of_mem hx
        exact hv i x (by have := (List.getElem?_eq_some_iff.1 hi).1; omega) hi
      simp (disch := first | omega | (simp only [List.length_cons, List.length_nil, List.length_map, List.length_drop]; omega)) only [stSl, List.length_map, dF hlt, ↓evPre, ↓evPreW, evPost, evPostW, ← List.map_take, ← List.map_drop, ↓reduceIte, reduceCtorEq, Nat.reduceEqDiff, forall_const, implies_true, Nat.reduceAdd, Nat.reduceSub, Nat.reduceMul, Nat.reduceLT, Nat.reduceLeDiff, Int.reduceToNat, Int.reduceAdd, Int.reduceSub, Int.reduceNeg, Int.reduceMul, Int.reduceLT, Int.reduceLE, Int.reduceEq]
      exact ⟨_, rfl, fun _ => ⟨by omega, by omega, hva, hvb⟩⟩

theorem states_A (a b : List St) (S : Store) (ha : a.length ≤ 1000000) : CallA Try.prog 27 [stSl a, stSl b] S fun r S' => r = .bool (decide (a = b)) ∧ S' = S := by
  refine CallA.keep Try.func27 c27 (Nat.le_of_ble_eq_true rfl) fun σ hσ => ?_
  by_cases h1 : a.length = b.length
  · have h1' : (a.length : Int) = b.length := by omega
    simp (disch := first | omega | (simp only [List.length_cons, List.length_nil, List.length_map, List.length_drop]; omega)) only [a27, stSl, List.length_map, dT h1', ↓evPre, ↓evPreW, evPost, evPostW, ← List.map_take, ← List.map_drop, ↓reduceIte, reduceCtorEq, Nat.reduceEqDiff, forall_const, implies_true, Nat.reduceAdd, Nat.reduceSub, Nat.reduceMul, Nat.reduceLT, Nat.reduceLeDiff, Int.reduceToNat, Int.reduceAdd, Int.reduceSub, Int.reduceNeg, Int.reduceMul, Int.reduceLT, Int.reduceLE, Int.reduceEq]
    refine loopA (ι := Nat) (fun k => [(0, stSl a), (1, stSl b), (5, .int .i64 k)]) (fun _ => S) (fun k => k ≤ a.length ∧ a.take k = b.take k) (fun k => a.length - k) 0 ⟨Nat.zero_le _, rfl⟩ ?_ rfl ?_
    · simp only [stSl, ↓evPre, ↓evPreW, evPost, evPostW, ← List.map_take, ← List.map_drop, ↓reduceIte, reduceCtorEq, Nat.reduceEqDiff, forall_const, implies_true, Nat.reduceAdd, Nat.reduceSub, Nat.reduceMul, Nat.reduceLT, Nat.reduceLeDiff, Int.reduceToNat, Int.reduceAdd, Int.reduceSub, Int.reduceNeg, Int.reduceMul, Int.reduceLT, Int.reduceLE, Int.reduceEq]
      try rfl
    rintro k ⟨hk, hv⟩
    cases hc : a[k]? with
    | some x =>
      have hlt' := (List.getElem?_eq_some_iff.1 hc).1
      have hlt : (k : Int) < a.length := by omega
      obtain ⟨y, hd⟩ : ∃ y, b[k]? = some y := ⟨b[k]'(by omega), List.getElem?_eq_getElem _⟩
      by_cases hxy : x = y
      · subst hxy
        simp (disch := first | omega | (simp only [List.length_cons, List.length_nil, List.length_map, List.length_drop]; omega)) only [stSl, stR, wrap_i64, List.length_map, List.getElem?_map, Option.map_some, hc, hd, dT hlt, eqd_st, ↓evPre, ↓evPreW, evPost, evPostW, ← List.map_take, ← List.map_drop, ↓reduceIte, reduceCtorEq, Nat.reduceEqDiff, forall_const, implies_true, Nat.reduceAdd, Nat.reduceSub, Nat.reduceMul, Nat.reduceLT, Nat.reduceLeDiff, Int.reduceToNat, Int.reduceAdd, Int.reduceSub, Int.reduceNeg, Int.reduceMul, Int.reduceLT, Int.reduceLE, Int.reduceEq]
        exact ⟨k + 1, ⟨by omega, by rw [List.take_add_one, List.take_add_one, hc, hd, hv]⟩, by omega, rfl⟩
      · have hab : a ≠ b := fun h => by rw [h, hd] at hc; cases hc; exact hxy rfl
        simp (disch := first | omega | (simp only [List.length_cons, List.length_nil, List.length_map, List.length_drop]; omega)) only [stSl, stR, wrap_i64, List.length_map, List.getElem?_map, Option.map_some, hc, hd, dT hlt, dF hxy, dF hab, eqd_st, ↓evPre, ↓evPreW, evPost, evPostW, ← List.map_take, ← List.map_drop, ↓reduceIte, reduceCtorEq, Nat.reduceEqDiff, forall_const, implies_true, Nat.reduceAdd, Nat.reduceSub, Nat.reduceMul, Nat.reduceLT, Nat.reduceLeDiff, Int.reduceToNat, Int.reduceAdd, Int.reduceSub, Int.reduceNeg, Int.reduceMul, Int.reduceLT, Int.reduceLE, Int.reduceEq]
    | none =>
      have hge : a.length ≤ k := List.getElem?_eq_none_iff.1 hc
      have hlt : ¬ ((k : Int) < a.length) := by omega
      rw [List.take_of_length_le hge, List.take_of_length_le (by omega)] at hv
      simp (disch := first | omega | (simp only [List.length_cons, List.length_nil, List.length_map, List.length_drop]; omega)) only [stSl, List.length_map, dF hlt, dT hv, ↓evPre, ↓evPreW, evPost, evPostW, ← List.map_take, ← List.map_drop, ↓reduceIte, reduceCtorEq, Nat.reduceEqDiff, forall_const, implies_true, Nat.reduceAdd, Nat.reduceSub, Nat.reduceMul, Nat.reduceLT, Nat.reduceLeDiff, Int.reduceToNat, Int.reduceAdd, Int.reduceSub, Int.reduceNeg, Int.reduceMul, Int.reduceLT, Int.reduceLE, Int.reduceEq]
  · have h1' : ¬ (a.length : Int) = b.length := by omega
    have hab : a ≠ b := fun h => h1 (by rw [h])
    simp (disch := first | omega | (simp only [List.length_cons, List.length_nil, List.length_map, List.length_drop]; omega)) only [a27, stSl, List.length_map, dF h1', dF hab, ↓evPre, ↓evPreW, evPost, evPostW, ← List.map_take, ← List.map_drop, ↓reduceIte, reduceCtorEq, Nat.reduceEqDiff, forall_const, implies_true, Nat.reduceAdd, Nat.reduceSub, Nat.reduceMul, Nat.reduceLT, Nat.reduceLeDiff, Int.reduceToNat, Int.reduceAdd, Int.reduceSub, Int.reduceNeg, Int.reduceMul, Int.reduceLT, Int.reduceLE, Int.reduceEq]

theorem mF_ex (w : St) : mF [⟨5, 0, 2, 1⟩] [⟨5, 0, 2, 3⟩] w = [(⟨5, 0, 3, 3⟩ : St)].find? (sameS w) := by
  unfold mF
  simp only [List.find?_cons, List.find?_nil]
  have h1 : sameS w ⟨5, 0, 2, 1⟩ = sameS w ⟨5, 0, 3, 3⟩ := rfl
  have h2 : sameS w ⟨5, 0, 2, 3⟩ = sameS w ⟨5, 0, 3, 3⟩ := rfl
  rw [h1, h2]
  cases sameS w ⟨5, 0, 3, 3⟩
  · rfl
  · decide

theorem example_A (S : Store) : CallA Try.prog 26 [] S fun r S' => r = .bool true ∧ S' = S := by
  refine CallA.withNeat Try.func26 c26 fun hn => ?_
  refine CallA.fin Try.func26 c26 (Nat.le_of_ble_eq_true rfl) fun σ hσ => ?_
  simp (disch := first | omega | (simp only [List.length_cons, List.length_nil, List.length_map, List.length_drop]; omega)) only [a26, evSt, ↓evPre, ↓evPreW, evPost, evPostW, ← List.map_take, ← List.map_drop, ↓reduceIte, reduceCtorEq, Nat.reduceEqDiff, forall_const, implies_true, Nat.reduceAdd, Nat.reduceSub, Nat.reduceMul, Nat.reduceLT, Nat.reduceLeDiff, Int.reduceToNat, Int.reduceAdd, Int.reduceSub, Int.reduceNeg, Int.reduceMul, Int.reduceLT, Int.reduceLE, Int.reduceEq]
  refine (merge_A [⟨5, 0, 2, 1⟩] [⟨5, 0, 2, 3⟩] _ (by simp) (by simp) (fun x hx => by simp at hx; subst hx; simp) (fun x hx => by simp at hx; subst hx; simp)).mono ?_
  rintro r S' ⟨⟨d, h1, h2, rfl⟩, rfl⟩
  have hd : d = [⟨5, 0, 3, 3⟩] := h1.uniqF (List.pairwise_singleton ..) fun w => by rw [h2, mF_ex]
  subst hd
  simp (disch := first | omega | (simp only [List.length_cons, List.length_nil, List.length_map, List.length_drop]; omega)) only [stSl, stR, evSt, ↓evPre, ↓evPreW, evPost, evPostW, ← List.map_take, ← List.map_drop, ↓reduceIte, reduceCtorEq, Nat.reduceEqDiff, forall_const, implies_true, Nat.reduceAdd, Nat.reduceSub, Nat.reduceMul, Nat.reduceLT, Nat.reduceLeDiff, Int.reduceToNat, Int.reduceAdd, Int.reduceSub, Int.reduceNeg, Int.reduceMul, Int.reduceLT, Int.reduceLE, Int.reduceEq]
  exact ⟨_, S, hn.fgt _, .imm rfl, Nat.le_refl _, rfl, rfl⟩

theorem stps_len : ∀ (l m : List St), (l.foldl stp m).length ≤ m.length + l.length
  | [], m => by simp
  | y :: l, m => by
    have h1 := stps_len l (stp m y)
    have h2 := stp_len m y
    simp only [List.foldl_cons, List.length_cons]
    omega
theorem mF_perm {a b d : List St} (h : Asc d) (hf : ∀ w, d.find? (sameS w) = mF a b w) : d.Perm ((firsts b).foldl stp (firsts a)) :=
  h.apart.permF (stps_apart (firsts_apart a)) fun w => by rw [hf, stps_find (firsts_apart b), firsts_find, firsts_find]; rfl
theorem mF_len {a b d : List St} (h : Asc d) (hf : ∀ w, d.find? (sameS w) = mF a b w) : d.length ≤ a.length + b.length := by
  have h1 := (mF_perm h hf).length_eq
  have h2 := stps_len (firsts b) (firsts a)
  have h3 := firsts_len a
  have h4 := firsts_len b
  omega

theorem law_lists (a b : List St) (S : Store) (ha : a.length ≤ 2000000) (hb : b.length ≤ 2000000) (ra : ∀ x ∈ a, i64r x.v) (rb : ∀ x ∈ b, i64r x.v) : CallA Try.prog 8 [stSl a, stSl b] S fun r S' => r = .bool true ∧ S' = S := by
  refine CallA.keep Try.func8 c8 (Nat.le_of_ble_eq_true rfl) fun σ hσ => ?_
  simp (disch := first | omega | (simp only [List.length_cons, List.length_nil, List.length_map, List.length_drop]; omega)) only [a8, ↓evPre, ↓evPreW, evPost, evPostW, ← List.map_take, ← List.map_drop, ↓reduceIte, reduceCtorEq, Nat.reduceEqDiff, forall_const, implies_true, Nat.reduceAdd, Nat.reduceSub, Nat.reduceMul, Nat.reduceLT, Nat.reduceLeDiff, Int.reduceToNat, Int.reduceAdd, Int.reduceSub, Int.reduceNeg, Int.reduceMul, Int.reduceLT, Int.reduceLE, Int.reduceEq]
  refine (few_A a b S ha hb).mono ?_
  rintro r S' ⟨⟨t, rfl, ht⟩, rfl⟩
  cases t with
  | false =>
    simp (disch := first | omega | (simp only [List.length_cons, List.length_nil, List.length_map, List.length_drop]; omega)) only [↓evPre, ↓evPreW, evPost, evPostW, ← List.map_take, ← List.map_drop, ↓reduceIte, reduceCtorEq, Nat.reduceEqDiff, forall_const, implies_true, Nat.reduceAdd, Nat.reduceSub, Nat.reduceMul, Nat.reduceLT, Nat.reduceLeDiff, Int.reduceToNat, Int.reduceAdd, Int.reduceSub, Int.reduceNeg, Int.reduceMul, Int.reduceLT, Int.reduceLE, Int.reduceEq]
    refine (example_A _).then ?_
    simp (disch := first | omega | (simp only [List.length_cons, List.length_nil, List.length_map, List.length_drop]; omega)) only [↓evPre, ↓evPreW, evPost, evPostW, ← List.map_take, ← List.map_drop, ↓reduceIte, reduceCtorEq, Nat.reduceEqDiff, forall_const, implies_true, Nat.reduceAdd, Nat.reduceSub, Nat.reduceMul, Nat.reduceLT, Nat.reduceLeDiff, Int.reduceToNat, Int.reduceAdd, Int.reduceSub, Int.reduceNeg, Int.reduceMul, Int.reduceLT, Int.reduceLE, Int.reduceEq]
  | true =>
    obtain ⟨h1, h2, h3, h4⟩ := ht rfl
    have va : vOk 4611686018427387904 a := fun x hx => ⟨(ra x hx).1, by have := h3 x hx; omega⟩
    have vb : vOk 4611686018427387904 b := fun x hx => ⟨(rb x hx).1, by have := h4 x hx; omega⟩
    simp (disch := first | omega | (simp only [List.length_cons, List.length_nil, List.length_map, List.length_drop]; omega)) only [↓evPre, ↓evPreW, evPost, evPostW, ← List.map_take, ← List.map_drop, ↓reduceIte, reduceCtorEq, Nat.reduceEqDiff, forall_const, implies_true, Nat.reduceAdd, Nat.reduceSub, Nat.reduceMul, Nat.reduceLT, Nat.reduceLeDiff, Int.reduceToNat, Int.reduceAdd, Int.reduceSub, Int.reduceNeg, Int.reduceMul, Int.reduceLT, Int.reduceLE, Int.reduceEq]
    refine (differ_A a b _ (by omega) (by omega)).mono ?_
    rintro r S' ⟨⟨d, d1, d2, rfl⟩, rfl⟩
    simp (disch := first | omega | (simp only [List.length_cons, List.length_nil, List.length_map, List.length_drop]; omega)) only [↓evPre, ↓evPreW, evPost, evPostW, ← List.map_take, ← List.map_drop, ↓reduceIte, reduceCtorEq, Nat.reduceEqDiff, forall_const, implies_true, Nat.reduceAdd, Nat.reduceSub, Nat.reduceMul, Nat.reduceLT, Nat.reduceLeDiff, Int.reduceToNat, Int.reduceAdd, Int.reduceSub, Int.reduceNeg, Int.reduceMul, Int.reduceLT, Int.reduceLE, Int.reduceEq]
    refine (differR_A a b _ (by omega) (by omega)).mono ?_
    rintro r S' ⟨⟨e, e1, e2, rfl⟩, rfl⟩
    have hde : e = d := e1.uniq d1 (e2.trans d2.symm)
    subst hde
    have hdl : e.length ≤ 1000 := by
      have h5 := e2.length_eq
      have h6 := List.length_filter_le (diffs b) (firsts a)
      have h7 := firsts_len a
      omega
    simp (disch := first | omega | (simp only [List.length_cons, List.length_nil, List.length_map, List.length_drop]; omega)) only [↓evPre, ↓evPreW, evPost, evPostW, ← List.map_take, ← List.map_drop, ↓reduceIte, reduceCtorEq, Nat.reduceEqDiff, forall_const, implies_true, Nat.reduceAdd, Nat.reduceSub, Nat.reduceMul, Nat.reduceLT, Nat.reduceLeDiff, Int.reduceToNat, Int.reduceAdd, Int.reduceSub, Int.reduceNeg, Int.reduceMul, Int.reduceLT, Int.reduceLE, Int.reduceEq]
    refine (states_A e e _ (by omega)).then ?_
    simp (disch := first | omega | (simp only [List.length_cons, List.length_nil, List.length_map, List.length_drop]; omega)) only [↓evPre, ↓evPreW, evPost, evPostW, ← List.map_take, ← List.map_drop, ↓reduceIte, reduceCtorEq, Nat.reduceEqDiff, forall_const, implies_true, Nat.reduceAdd, Nat.reduceSub, Nat.reduceMul, Nat.reduceLT, Nat.reduceLeDiff, Int.reduceToNat, Int.reduceAdd, Int.reduceSub, Int.reduceNeg, Int.reduceMul, Int.reduceLT, Int.reduceLE, Int.reduceEq]
    refine (merge_A a b _ (by omega) (by omega) va vb).mono ?_
    rintro r S' ⟨⟨m, m1, m2, rfl⟩, rfl⟩
    simp (disch := first | omega | (simp only [List.length_cons, List.length_nil, List.length_map, List.length_drop]; omega)) only [↓evPre, ↓evPreW, evPost, evPostW, ← List.map_take, ← List.map_drop, ↓reduceIte, reduceCtorEq, Nat.reduceEqDiff, forall_const, implies_true, Nat.reduceAdd, Nat.reduceSub, Nat.reduceMul, Nat.reduceLT, Nat.reduceLeDiff, Int.reduceToNat, Int.reduceAdd, Int.reduceSub, Int.reduceNeg, Int.reduceMul, Int.reduceLT, Int.reduceLE, Int.reduceEq]
    refine (mergeR_A a b _ (by omega) (by omega) va).mono ?_
    rintro r S' ⟨⟨n, n1, n2, rfl⟩, rfl⟩
    have hmn : n = m := n1.uniqF m1 fun w => by rw [n2, m2]
    subst hmn
    simp (disch := first | omega | (simp only [List.length_cons, List.length_nil, List.length_map, List.length_drop]; omega)) only [↓evPre, ↓evPreW, evPost, evPostW, ← List.map_take, ← List.map_drop, ↓reduceIte, reduceCtorEq, Nat.reduceEqDiff, forall_const, implies_true, Nat.reduceAdd, Nat.reduceSub, Nat.reduceMul, Nat.reduceLT, Nat.reduceLeDiff, Int.reduceToNat, Int.reduceAdd, Int.reduceSub, Int.reduceNeg, Int.reduceMul, Int.reduceLT, Int.reduceLE, Int.reduceEq]
    have hml := mF_len n1 n2
    refine (states_A n n _ (by omega)).then ?_
    simp (disch := first | omega | (simp only [List.length_cons, List.length_nil, List.length_map, List.length_drop]; omega)) only [↓evPre, ↓evPreW, evPost, evPostW, ← List.map_take, ← List.map_drop, ↓reduceIte, reduceCtorEq, Nat.reduceEqDiff, forall_const, implies_true, Nat.reduceAdd, Nat.reduceSub, Nat.reduceMul, Nat.reduceLT, Nat.reduceLeDiff, Int.reduceToNat, Int.reduceAdd, Int.reduceSub, Int.reduceNeg, Int.reduceMul, Int.reduceLT, Int.reduceLE, Int.reduceEq]
    refine (example_A _).then ?_
    simp (disch := first | omega | (simp only [List.length_cons, List.length_nil, List.length_map, List.length_drop]; omega)) only [↓evPre, ↓evPreW, evPost, evPostW, ← List.map_take, ← List.map_drop, ↓reduceIte, reduceCtorEq, Nat.reduceEqDiff, forall_const, implies_true, Nat.reduceAdd, Nat.reduceSub, Nat.reduceMul, Nat.reduceLT, Nat.reduceLeDiff, Int.reduceToNat, Int.reduceAdd, Int.reduceSub, Int.reduceNeg, Int.reduceMul, Int.reduceLT, Int.reduceLE, Int.reduceEq]
end Go.Proofs.Ytdkcicbpcagonaa
