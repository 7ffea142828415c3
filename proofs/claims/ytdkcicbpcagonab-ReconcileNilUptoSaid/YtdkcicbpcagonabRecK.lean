/- Short lists; the example. -/
import Derived.Test.YtdkcicbpcagonabRec9
namespace Go.Proofs.Ytdkcicbpcagonab
open Go Go.AL
set_option linter.unusedSimpArgs false
set_option linter.unusedVariables false

theorem few_A (a b : List St) (S : Store) (ha : a.length ≤ 2000000) (hb : b.length ≤ 2000000) : CallA Try.prog 6 [stSl a, stSl b] S fun r S' => (∃ t, r = .bool t ∧ (t = true → a.length ≤ 60 ∧ b.length ≤ 60 ∧ (∀ x ∈ a, x.v ≤ 1099511627776) ∧ ∀ x ∈ b, x.v ≤ 1099511627776)) ∧ S' = S := by
  refine CallA.keep Try.func6 c25 (Nat.le_of_ble_eq_true rfl) fun σ hσ => ?_
  by_cases h1 : a.length > 60
  · have h1' : (60 : Int) < a.length := by omega
    simp (disch := first | omega | (simp only [List.length_cons, List.length_nil, List.length_map, List.length_drop]; omega)) only [a25, stSl, List.length_map, dT h1', ↓evPre, ↓evPreW, evPost, evPostW, ← List.map_take, ← List.map_drop, ↓reduceIte, reduceCtorEq, Nat.reduceEqDiff, forall_const, implies_true, Nat.reduceAdd, Nat.reduceSub, Nat.reduceMul, Nat.reduceLT, Nat.reduceLeDiff, Int.reduceToNat, Int.reduceAdd, Int.reduceSub, Int.reduceNeg, Int.reduceMul, Int.reduceLT, Int.reduceLE, Int.reduceEq]
    exact ⟨_, rfl, fun h => by cases h⟩
  have h1' : ¬ (60 : Int) < a.length := by omega
  by_cases h2 : b.length > 60
  · have h2' : (60 : Int) < b.length := by omega
    simp (disch := first | omega | (simp only [List.length_cons, List.length_nil, List.length_map, List.length_drop]; omega)) only [a25, stSl, List.length_map, dF h1', dT h2', ↓evPre, ↓evPreW, evPost, evPostW, ← List.map_take, ← List.map_drop, ↓reduceIte, reduceCtorEq, Nat.reduceEqDiff, forall_const, implies_true, Nat.reduceAdd, Nat.reduceSub, Nat.reduceMul, Nat.reduceLT, Nat.reduceLeDiff, Int.reduceToNat, Int.reduceAdd, Int.reduceSub, Int.reduceNeg, Int.reduceMul, Int.reduceLT, Int.reduceLE, Int.reduceEq]
    exact ⟨_, rfl, fun h => by cases h⟩
  have h2' : ¬ (60 : Int) < b.length := by omega
  simp (disch := first | omega | (simp only [List.length_cons, List.length_nil, List.length_map, List.length_drop]; omega)) only [a25, stSl, List.length_map, dF h1', dF h2', ↓evPre, ↓evPreW, evPost, evPostW, ← List.map_take, ← List.map_drop, ↓reduceIte, reduceCtorEq, Nat.reduceEqDiff, forall_const, implies_true, Nat.reduceAdd, Nat.reduceSub, Nat.reduceMul, Nat.reduceLT, Nat.reduceLeDiff, Int.reduceToNat, Int.reduceAdd, Int.reduceSub, Int.reduceNeg, Int.reduceMul, Int.reduceLT, Int.reduceLE, Int.reduceEq]
  refine loopA (ι := Nat) (fun k => [(0, stSl a), (1, stSl b), (5, .int .i64 k)]) (fun _ => S) (fun k => k ≤ a.length ∧ ∀ (i : Nat) (x : St), i < k → a[i]? = some x → x.v ≤ 1099511627776) (fun k => a.length - k) 0 ⟨Nat.zero_le _, fun i x h => by omega⟩ ?_ rfl ?_
  · simp only [stSl, ↓evPre, ↓evPreW, evPost, evPostW, ← List.map_take, ← List.map_drop, ↓reduceIte, reduceCtorEq, Nat.reduceEqDiff, forall_const, implies_true, Nat.reduceAdd, Nat.reduceSub, Nat.reduceMul, Nat.reduceLT, Nat.reduceLeDiff, Int.reduceToNat, Int.reduceAdd, Int.reduceSub, Int.reduceNeg, Int.reduceMul, Int.reduceLT, Int.reduceLE, Int.reduceEq]
    try rfl
  rintro k ⟨hk, hv⟩
  cases hc : a[k]? with
  | some x =>
    have hlt' := (List.getElem?_eq_some_iff.1 hc).1
    have hlt : (k : Int) < a.length := by omega
    by_cases hx : (1099511627776 : Int) < x.v
    · simp (disch := first | omega | (simp only [List.length_cons, List.length_nil, List.length_map, List.length_drop]; omega)) only [stSl, stR, List.length_map, List.getElem?_map, Option.map_some, hc, dT hlt, dT hx, ↓evPre, ↓evPreW, evPost, evPostW, ← List.map_take, ← List.map_drop, ↓reduceIte, reduceCtorEq, Nat.reduceEqDiff, forall_const, implies_true, Nat.reduceAdd, Nat.reduceSub, Nat.reduceMul, Nat.reduceLT, Nat.reduceLeDiff, Int.reduceToNat, Int.reduceAdd, Int.reduceSub, Int.reduceNeg, Int.reduceMul, Int.reduceLT, Int.reduceLE, Int.reduceEq]
      exact ⟨_, rfl, fun h => by cases h⟩
    · simp (disch := first | omega | (simp only [List.length_cons, List.length_nil, List.length_map, List.length_drop]; omega)) only [stSl, stR, wrap_i64, List.length_map, List.getElem?_map, Option.map_some, hc, dT hlt, dF hx, ↓evPre, ↓evPreW, evPost, evPostW, ← List.map_take, ← List.map_drop, ↓reduceIte, reduceCtorEq, Nat.reduceEqDiff, forall_const, implies_true, Nat.reduceAdd, Nat.reduceSub, Nat.reduceMul, Nat.reduceLT, Nat.reduceLeDiff, Int.reduceToNat, Int.reduceAdd, Int.reduceSub, Int.reduceNeg, Int.reduceMul, Int.reduceLT, Int.reduceLE, Int.reduceEq]
      refine ⟨k + 1, ⟨by omega, fun i y hi hy => ?_⟩, by omega, rfl⟩
      by_cases hik : i = k
      · subst hik; rw [hc] at hy; cases hy; omega
      · exact hv i y (by omega) hy
  | none =>
    have hge : a.length ≤ k := List.getElem?_eq_none_iff.1 hc
    have hlt : ¬ ((k : Int) < a.length) := by omega
    have hva : ∀ x ∈ a, x.v ≤ 1099511627776 := fun x hx => by
      obtain ⟨i, hi⟩ := List.getElem?_of_mem hx
      exact hv i x (by have := (List.getElem?_eq_some_iff.1 hi).1; omega) hi
    simp (disch := first | omega | (simp only [List.length_cons, List.length_nil, List.length_map, List.length_drop]; omega)) only [stSl, List.length_map, dF hlt, ↓evPre, ↓evPreW, evPost, evPostW, ← List.map_take, ← List.map_drop, ↓reduceIte, reduceCtorEq, Nat.reduceEqDiff, forall_const, implies_true, Nat.reduceAdd, Nat.reduceSub, Nat.reduceMul, Nat.reduceLT, Nat.reduceLeDiff, Int.reduceToNat, Int.reduceAdd, Int.reduceSub, Int.reduceNeg, Int.reduceMul, Int.reduceLT, Int.reduceLE, Int.reduceEq]
    refine loopA (ι := Nat) (fun k => [(1, stSl b), (6, .int .i64 k)]) (fun _ => S) (fun k => k ≤ b.length ∧ ∀ (i : Nat) (x : St), i < k → b[i]? = some x → x.v ≤ 1099511627776) (fun k => b.length - k) 0 ⟨Nat.zero_le _, fun i x h => by omega⟩ ?_ rfl ?_
    · simp only [stSl, ↓evPre, ↓evPreW, evPost, evPostW, ← List.map_take, ← List.map_drop, ↓reduceIte, reduceCtorEq, Nat.reduceEqDiff, forall_const, implies_true, Nat.reduceAdd, Nat.reduceSub, Nat.reduceMul, Nat.reduceLT, Nat.reduceLeDiff, Int.reduceToNat, Int.reduceAdd, Int.reduceSub, Int.reduceNeg, Int.reduceMul, Int.reduceLT, Int.reduceLE, Int.reduceEq]
      try rfl
    rintro k ⟨hk, hv⟩
    cases hc : b[k]? with
    | some x =>
      have hlt' := (List.getElem?_eq_some_iff.1 hc).1
      have hlt : (k : Int) < b.length := by omega
      by_cases hx : (1099511627776 : Int) < x.v
      · simp (disch := first | omega | (simp only [List.length_cons, List.length_nil, List.length_map, List.length_drop]; omega)) only [stSl, stR, List.length_map, List.getElem?_map, Option.map_some, hc, dT hlt, dT hx, ↓evPre, ↓evPreW, evPost, evPostW, ← List.map_take, ← List.map_drop, ↓reduceIte, reduceCtorEq, Nat.reduceEqDiff, forall_const, implies_true, Nat.reduceAdd, Nat.reduceSub, Nat.reduceMul, Nat.reduceLT, Nat.reduceLeDiff, Int.reduceToNat, Int.reduceAdd, Int.reduceSub, Int.reduceNeg, Int.reduceMul, Int.reduceLT, Int.reduceLE, Int.reduceEq]
        exact ⟨_, rfl, fun h => by cases h⟩
      · simp (disch := first | omega | (simp only [List.length_cons, List.length_nil, List.length_map, List.length_drop]; omega)) only [stSl, stR, wrap_i64, List.length_map, List.getElem?_map, Option.map_some, hc, dT hlt, dF hx, ↓evPre, ↓evPreW, evPost, evPostW, ← List.map_take, ← List.map_drop, ↓reduceIte, reduceCtorEq, Nat.reduceEqDiff, forall_const, implies_true, Nat.reduceAdd, Nat.reduceSub, Nat.reduceMul, Nat.reduceLT, Nat.reduceLeDiff, Int.reduceToNat, Int.reduceAdd, Int.reduceSub, Int.reduceNeg, Int.reduceMul, Int.reduceLT, Int.reduceLE, Int.reduceEq]
        refine ⟨k + 1, ⟨by omega, fun i y hi hy => ?_⟩, by omega, rfl⟩
        by_cases hik : i = k
        · subst hik; rw [hc] at hy; cases hy; omega
        · exact hv i y (by omega) hy
    | none =>
      have hge : b.length ≤ k := List.getElem?_eq_none_iff.1 hc
      have hlt : ¬ ((k : Int) < b.length) := by omega
      have hvb : ∀ x ∈ b, x.v ≤ 1099511627776 := fun x hx => by
        obtain ⟨i, hi⟩ := List.getElem?_of_mem hx
        exact hv i x (by have := (List.getElem?_eq_some_iff.1 hi).1; omega) hi
      simp (disch := first | omega | (simp only [List.length_cons, List.length_nil, List.length_map, List.length_drop]; omega)) only [stSl, List.length_map, dF hlt, ↓evPre, ↓evPreW, evPost, evPostW, ← List.map_take, ← List.map_drop, ↓reduceIte, reduceCtorEq, Nat.reduceEqDiff, forall_const, implies_true, Nat.reduceAdd, Nat.reduceSub, Nat.reduceMul, Nat.reduceLT, Nat.reduceLeDiff, Int.reduceToNat, Int.reduceAdd, Int.reduceSub, Int.reduceNeg, Int.reduceMul, Int.reduceLT, Int.reduceLE, Int.reduceEq]
      exact ⟨_, rfl, fun _ => ⟨by omega, by omega, hva, hvb⟩⟩

theorem states_A (a b : List St) (S : Store) (ha : a.length ≤ 1000000) : CallA Try.prog 9 [stSl a, stSl b] S fun r S' => r = .bool (decide (a = b)) ∧ S' = S := by
  refine CallA.keep Try.func9 c27 (Nat.le_of_ble_eq_true rfl) fun σ hσ => ?_
  by_cases h1 : a.length = b.length
  · have h1' : (a.length : Int) = b.length := by omega
    simp (disch := first | omega | (simp only [List.length_cons, List.length_nil, List.length_map, List.length_drop]; omega)) only [a27, stSl, List.length_map, dT h1', ↓evPre, ↓evPreW, evPost, evPostW, ← List.map_take, ← List.map_drop, ↓reduceIte, reduceCtorEq, Nat.reduceEqDiff, forall_const, implies_true, Nat.reduceAdd, Nat.reduceSub, Nat.reduceMul, Nat.reduceLT, Nat.reduceLeDiff, Int.reduceToNat, Int.reduceAdd, Int.reduceSub, Int.reduceNeg, Int.reduceMul, Int.reduceLT, Int.reduceLE, Int.reduceEq]
    refine loopA (ι := Nat) (fun k => [(0, stSl a), (1, stSl b), (5, .int .i64 k)]) (fun _ => S) (fun k => k ≤ a.length ∧ a.take k = b.take k) (fun k => a.length - k) 0 ⟨Nat.zero_le _, rfl⟩ ?_ rfl ?_
    · simp only [stSl, ↓evPre, ↓evPreW, evPost, evPostW, ← List.map_take, ← List.map_drop, ↓reduceIte, reduceCtorEq, Nat.reduceEqDiff, forall_const, implies_true, Nat.reduceAdd, Nat.reduceSub, Nat.reduceMul, Nat.reduceLT, Nat.reduceLeDiff, Int.reduceToNat, Int.reduceAdd, Int.reduceSub, Int.reduceNeg, Int.reduceMul, Int.reduceLT, Int.reduceLE, Int.reduceEq]
      try rfl
    rintro k ⟨hk, hv⟩
    cases hc : a[k]? with
    | some x =>
      have hlt' := (List.getElem?_eq_some_iff.1 hc).1
      have hlt : (k : Int) < a.length := by omega
      obtain ⟨y, hd⟩ : ∃ y, b[k]? = some y := ⟨b[k]'(by omega), List.getElem?_eq_getElem _⟩
      by_cases hxy : x = y
      · subst hxy
        simp (disch := first | omega | (simp only [List.length_cons, List.length_nil, List.length_map, List.length_drop]; omega)) only [stSl, stR, wrap_i64, List.length_map, List.getElem?_map, Option.map_some, hc, hd, dT hlt, eqd_st, ↓evPre, ↓evPreW, evPost, evPostW, ← List.map_take, ← List.map_drop, ↓reduceIte, reduceCtorEq, Nat.reduceEqDiff, forall_const, implies_true, Nat.reduceAdd, Nat.reduceSub, Nat.reduceMul, Nat.reduceLT, Nat.reduceLeDiff, Int.reduceToNat, Int.reduceAdd, Int.reduceSub, Int.reduceNeg, Int.reduceMul, Int.reduceLT, Int.reduceLE, Int.reduceEq]
        exact ⟨k + 1, ⟨by omega, by rw [List.take_add_one, List.take_add_one, hc, hd, hv]⟩, by omega, rfl⟩
      · have hab : a ≠ b := fun h => by rw [h, hd] at hc; cases hc; exact hxy rfl
        simp (disch := first | omega | (simp only [List.length_cons, List.length_nil, List.length_map, List.length_drop]; omega)) only [stSl, stR, wrap_i64, List.length_map, List.getElem?_map, Option.map_some, hc, hd, dT hlt, dF hxy, dF hab, eqd_st, ↓evPre, ↓evPreW, evPost, evPostW, ← List.map_take, ← List.map_drop, ↓reduceIte, reduceCtorEq, Nat.reduceEqDiff, forall_const, implies_true, Nat.reduceAdd, Nat.reduceSub, Nat.reduceMul, Nat.reduceLT, Nat.reduceLeDiff, Int.reduceToNat, Int.reduceAdd, Int.reduceSub, Int.reduceNeg, Int.reduceMul, Int.reduceLT, Int.reduceLE, Int.reduceEq]
    | none =>
      have hge : a.length ≤ k := List.getElem?_eq_none_iff.1 hc
      have hlt : ¬ ((k : Int) < a.length) := by omega
      rw [List.take_of_length_le hge, List.take_of_length_le (by omega)] at hv
      simp (disch := first | omega | (simp only [List.length_cons, List.length_nil, List.length_map, List.length_drop]; omega)) only [stSl, List.length_map, dF hlt, dT hv, ↓evPre, ↓evPreW, evPost, evPostW, ← List.map_take, ← List.map_drop, ↓reduceIte, reduceCtorEq, Nat.reduceEqDiff, forall_const, implies_true, Nat.reduceAdd, Nat.reduceSub, Nat.reduceMul, Nat.reduceLT, Nat.reduceLeDiff, Int.reduceToNat, Int.reduceAdd, Int.reduceSub, Int.reduceNeg, Int.reduceMul, Int.reduceLT, Int.reduceLE, Int.reduceEq]
  · have h1' : ¬ (a.length : Int) = b.length := by omega
    have hab : a ≠ b := fun h => h1 (by rw [h])
    simp (disch := first | omega | (simp only [List.length_cons, List.length_nil, List.length_map, List.length_drop]; omega)) only [a27, stSl, List.length_map, dF h1', dF hab, ↓evPre, ↓evPreW, evPost, evPostW, ← List.map_take, ← List.map_drop, ↓reduceIte, reduceCtorEq, Nat.reduceEqDiff, forall_const, implies_true, Nat.reduceAdd, Nat.reduceSub, Nat.reduceMul, Nat.reduceLT, Nat.reduceLeDiff, Int.reduceToNat, Int.reduceAdd, Int.reduceSub, Int.reduceNeg, Int.reduceMul, Int.reduceLT, Int.reduceLE, Int.reduceEq]

theorem mF_ex (w : St) : mF [⟨5, 0, 2, 1⟩] [⟨5, 0, 2, 3⟩] w = [(⟨5, 0, 3, 3⟩ : St)].find? (sameS w) := by
  unfold mF
  simp only [List.find?_cons, List.find?_nil]
  have h1 : sameS w ⟨5, 0, 2, 1⟩ = sameS w ⟨5, 0, 3, 3⟩ := rfl
  have h2 : sameS w ⟨5, 0, 2, 3⟩ = sameS w ⟨5, 0, 3, 3⟩ := rfl
  rw [h1, h2]
  cases sameS w ⟨5, 0, 3, 3⟩
  · rfl
  · decide

theorem example_A (S : Store) : CallA Try.prog 7 [] S fun r S' => r = .bool true ∧ S' = S := by
  refine CallA.withNeat Try.func7 c26 fun hn => ?_
  refine CallA.fin Try.func7 c26 (Nat.le_of_ble_eq_true rfl) fun σ hσ => ?_
  simp (disch := first | omega | (simp only [List.length_cons, List.length_nil, List.length_map, List.length_drop]; omega)) only [a26, evSt, ↓evPre, ↓evPreW, evPost, evPostW, ← List.map_take, ← List.map_drop, ↓reduceIte, reduceCtorEq, Nat.reduceEqDiff, forall_const, implies_true, Nat.reduceAdd, Nat.reduceSub, Nat.reduceMul, Nat.reduceLT, Nat.reduceLeDiff, Int.reduceToNat, Int.reduceAdd, Int.reduceSub, Int.reduceNeg, Int.reduceMul, Int.reduceLT, Int.reduceLE, Int.reduceEq]
  refine (merge_A [⟨5, 0, 2, 1⟩] [⟨5, 0, 2, 3⟩] _ (by simp) (by simp) (fun x hx => by simp at hx; subst hx; simp) (fun x hx => by simp at hx; subst hx; simp)).mono ?_
  rintro r S' ⟨⟨d, h1, h2, rfl⟩, rfl⟩
  have hd : d = [⟨5, 0, 3, 3⟩] := h1.uniqF (List.pairwise_singleton ..) fun w => by rw [h2, mF_ex]
  subst hd
  simp (disch := first | omega | (simp only [List.length_cons, List.length_nil, List.length_map, List.length_drop]; omega)) only [stSl, stR, evSt, ↓evPre, ↓evPreW, evPost, evPostW, ← List.map_take, ← List.map_drop, ↓reduceIte, reduceCtorEq, Nat.reduceEqDiff, forall_const, implies_true, Nat.reduceAdd, Nat.reduceSub, Nat.reduceMul, Nat.reduceLT, Nat.reduceLeDiff, Int.reduceToNat, Int.reduceAdd, Int.reduceSub, Int.reduceNeg, Int.reduceMul, Int.reduceLT, Int.reduceLE, Int.reduceEq]
  exact ⟨_, S, hn.fgt _, .imm rfl, Nat.le_refl _, rfl, rfl⟩

theorem stps_len : ∀ (l m : List St), (l.foldl stp m).length ≤ m.length + l.length
  | [], m => by simp
  | y :: l, m => by
    have h1 := stps_len l (stp m y)
    have h2 := stp_len m y
    simp only [List.foldl_cons, List.length_cons]
    omega
theorem mF_perm {a b d : List St} (h : Asc d) (hf : ∀ w, d.find? (sameS w) = mF a b w) : d.Perm ((firsts b).foldl stp (firsts a)) :=
  h.apart.permF (stps_apart (firsts_apart a)) fun w => by rw [hf, stps_find (firsts_apart b), firsts_find, firsts_find]; rfl
theorem mF_len {a b d : List St} (h : Asc d) (hf : ∀ w, d.find? (sameS w) = mF a b w) : d.length ≤ a.length + b.length := by
  have h1 := (mF_perm h hf).length_eq
  have h2 := stps_len (firsts b) (firsts a)
  have h3 := firsts_len a
  have h4 := firsts_len b
  omega

end Go.Proofs.Ytdkcicbpcagonab
