/- The law of merging. -/
import Derived.Test.YtdkcicbpcagonabRecK
namespace Go.Proofs.Ytdkcicbpcagonab
open Go Go.AL
set_option linter.unusedSimpArgs false
set_option linter.unusedVariables false

theorem mrg_comm {x y : St} (h : sameS x y = true) : mrgS x y = mrgS y x := by
  obtain ⟨t, c, v, s⟩ := x
  obtain ⟨t', c', v', s'⟩ := y
  simp only [sameS, decide_eq_true_eq] at h
  obtain ⟨rfl, rfl⟩ := h
  unfold mrgS
  simp only [St.mk.injEq, true_and]
  rcases Int.lt_trichotomy v v' with h | h | h
  · simp [show ¬ v' < v by omega, show ¬ v = v' by omega, show ¬ v' = v by omega, h]
  · subst h
    by_cases hs : s = s'
    · subst hs; simp
    · simp [hs, show ¬ s' = s from fun h => hs h.symm]
      omega
  · simp [show ¬ v < v' by omega, show ¬ v = v' by omega, show ¬ v' = v by omega, h]
theorem mrg_self (x : St) : mrgS x x = x := by unfold mrgS; simp
theorem mF_comm (a b : List St) (w : St) : mF a b w = mF b a w := by
  unfold mF
  cases ha : a.find? (sameS w) with
  | none => cases hb : b.find? (sameS w) <;> rfl
  | some x =>
    cases hb : b.find? (sameS w) with
    | none => rfl
    | some y =>
      have h1 := find_same ha
      have h2 := find_same hb
      simp only [joinF]
      rw [mrg_comm (same_tr (by rw [same_sym]; exact h1) h2)]
theorem mF_self (a : List St) (w : St) : mF a a w = a.find? (sameS w) := by
  unfold mF
  cases a.find? (sameS w) with
  | none => rfl
  | some x => simp only [joinF, mrg_self]
theorem diffs_self {m : List St} (h : Apart m) : (firsts m).filter (diffs m) = [] := by
  rw [List.filter_eq_nil_iff]
  intro x hx
  rw [diffs, (firsts_apart m).mem_find hx]
  simp
theorem newer {a b m : List St} (hm : Asc m) (hf : ∀ w, m.find? (sameS w) = mF a b w) {x y : St} (hx : x ∈ (firsts a).filter (diffs m)) (hy : y ∈ m) (hs : sameS y x = true) : x.v < y.v := by
  rw [List.mem_filter] at hx
  obtain ⟨hx, hd⟩ := hx
  have h1 := (firsts_apart a).mem_find hx
  rw [firsts_find] at h1
  have h2 := hf x
  have h3 : m.find? (sameS x) = some y := by
    rw [← hm.apart.mem_find hy]
    congr 1; funext z; exact (same_same z hs).symm
  rw [diffs, firsts_find, h3] at hd
  simp only [decide_eq_true_eq] at hd
  rw [h3, mF, h1] at h2
  cases hb : b.find? (sameS x) with
  | none => rw [hb] at h2; simp only [joinF, Option.some.injEq] at h2; exact absurd h2 hd
  | some q =>
    rw [hb] at h2
    simp only [joinF, Option.some.injEq] at h2
    subst h2
    unfold mrgS at hd ⊢
    split at hd
    · exact absurd rfl hd
    · rename_i hn
      rw [if_neg hn]
      split
      · assumption
      · simp only; omega
theorem mF_vOk {a b m : List St} {B : Int} (h : Asc m) (hf : ∀ w, m.find? (sameS w) = mF a b w) (ha : vOk B a) (hb : vOk B b) : vOk (B + 1) m := by
  intro x hx
  have h1 := h.apart.mem_find hx
  rw [hf, mF] at h1
  cases hp : a.find? (sameS x) with
  | none =>
    rw [hp] at h1
    have := hb x (List.mem_of_find?_eq_some h1)
    omega
  | some p =>
    rw [hp] at h1
    have hpv := ha p (List.mem_of_find?_eq_some hp)
    cases hq : b.find? (sameS x) with
    | none => rw [hq] at h1; simp only [joinF, Option.some.injEq] at h1; subst h1; omega
    | some q =>
      rw [hq] at h1
      have hqv := hb q (List.mem_of_find?_eq_some hq)
      simp only [joinF, Option.some.injEq] at h1
      subst h1
      have := mrg_v p q
      omega
theorem asc_at {m : List St} (h : Asc m) {k : Nat} {x y : St} (hx : m[k]? = some x) (hy : m[k + 1]? = some y) : ltS x y = true := by
  obtain ⟨h1, rfl⟩ := List.getElem?_eq_some_iff.1 hx
  obtain ⟨h2, rfl⟩ := List.getElem?_eq_some_iff.1 hy
  exact List.pairwise_iff_getElem.1 h k (k + 1) h1 h2 (by omega)

set_option maxRecDepth 100000 in
theorem law_merges (a b : List St) (S : Store) (ha : a.length ≤ 2000000) (hb : b.length ≤ 2000000) (ra : ∀ x ∈ a, i64r x.v) (rb : ∀ x ∈ b, i64r x.v) : CallA Try.prog 3 [stSl a, stSl b] S fun r S' => r = .bool true ∧ S' = S := by
  refine CallA.keep Try.func3 c203 (Nat.le_of_ble_eq_true rfl) fun σ hσ => ?_
  simp (disch := first | omega | (simp only [List.length_cons, List.length_nil, List.length_map, List.length_drop]; omega)) only [a203, ↓evPre, ↓evPreW, evPost, evPostW, ← List.map_take, ← List.map_drop, ↓reduceIte, reduceCtorEq, Nat.reduceEqDiff, forall_const, implies_true, Nat.reduceAdd, Nat.reduceSub, Nat.reduceMul, Nat.reduceLT, Nat.reduceLeDiff, Int.reduceToNat, Int.reduceAdd, Int.reduceSub, Int.reduceNeg, Int.reduceMul, Int.reduceLT, Int.reduceLE, Int.reduceEq]
  refine (few_A a b S ha hb).mono ?_
  rintro r S' ⟨⟨t, rfl, ht⟩, rfl⟩
  cases t with
  | false =>
    simp (disch := first | omega | (simp only [List.length_cons, List.length_nil, List.length_map, List.length_drop]; omega)) only [↓evPre, ↓evPreW, evPost, evPostW, ← List.map_take, ← List.map_drop, ↓reduceIte, reduceCtorEq, Nat.reduceEqDiff, forall_const, implies_true, Nat.reduceAdd, Nat.reduceSub, Nat.reduceMul, Nat.reduceLT, Nat.reduceLeDiff, Int.reduceToNat, Int.reduceAdd, Int.reduceSub, Int.reduceNeg, Int.reduceMul, Int.reduceLT, Int.reduceLE, Int.reduceEq]
    refine (example_A _).then ?_
    simp (disch := first | omega | (simp only [List.length_cons, List.length_nil, List.length_map, List.length_drop]; omega)) only [↓evPre, ↓evPreW, evPost, evPostW, ← List.map_take, ← List.map_drop, ↓reduceIte, reduceCtorEq, Nat.reduceEqDiff, forall_const, implies_true, Nat.reduceAdd, Nat.reduceSub, Nat.reduceMul, Nat.reduceLT, Nat.reduceLeDiff, Int.reduceToNat, Int.reduceAdd, Int.reduceSub, Int.reduceNeg, Int.reduceMul, Int.reduceLT, Int.reduceLE, Int.reduceEq]
  | true =>
    obtain ⟨h1, h2, h3, h4⟩ := ht rfl
    have va : vOk 1099511627776 a := fun x hx => ⟨(ra x hx).1, h3 x hx⟩
    have vb : vOk 1099511627776 b := fun x hx => ⟨(rb x hx).1, h4 x hx⟩
    have up : ∀ {l : List St} {B : Int}, vOk B l → B ≤ 1099511627777 → vOk 4611686018427387904 l := fun h hB x hx => ⟨(h x hx).1, by have := (h x hx).2; omega⟩
    simp (disch := first | omega | (simp only [List.length_cons, List.length_nil, List.length_map, List.length_drop]; omega)) only [↓evPre, ↓evPreW, evPost, evPostW, ← List.map_take, ← List.map_drop, ↓reduceIte, reduceCtorEq, Nat.reduceEqDiff, forall_const, implies_true, Nat.reduceAdd, Nat.reduceSub, Nat.reduceMul, Nat.reduceLT, Nat.reduceLeDiff, Int.reduceToNat, Int.reduceAdd, Int.reduceSub, Int.reduceNeg, Int.reduceMul, Int.reduceLT, Int.reduceLE, Int.reduceEq]
    refine (merge_A a b _ (by omega) (by omega) (up va (by omega)) (up vb (by omega))).mono ?_
    rintro r S' ⟨⟨m, m1, m2, rfl⟩, rfl⟩
    have hml := mF_len m1 m2
    have vm := mF_vOk m1 m2 va vb
    simp (disch := first | omega | (simp only [List.length_cons, List.length_nil, List.length_map, List.length_drop]; omega)) only [↓evPre, ↓evPreW, evPost, evPostW, ← List.map_take, ← List.map_drop, ↓reduceIte, reduceCtorEq, Nat.reduceEqDiff, forall_const, implies_true, Nat.reduceAdd, Nat.reduceSub, Nat.reduceMul, Nat.reduceLT, Nat.reduceLeDiff, Int.reduceToNat, Int.reduceAdd, Int.reduceSub, Int.reduceNeg, Int.reduceMul, Int.reduceLT, Int.reduceLE, Int.reduceEq]
    refine (merge_A b a _ (by omega) (by omega) (up vb (by omega)) (up va (by omega))).mono ?_
    rintro r S' ⟨⟨n, n1, n2, rfl⟩, rfl⟩
    have hmn : n = m := n1.uniqF m1 fun w => by rw [n2, m2, mF_comm]
    subst hmn
    simp (disch := first | omega | (simp only [List.length_cons, List.length_nil, List.length_map, List.length_drop]; omega)) only [↓evPre, ↓evPreW, evPost, evPostW, ← List.map_take, ← List.map_drop, ↓reduceIte, reduceCtorEq, Nat.reduceEqDiff, forall_const, implies_true, Nat.reduceAdd, Nat.reduceSub, Nat.reduceMul, Nat.reduceLT, Nat.reduceLeDiff, Int.reduceToNat, Int.reduceAdd, Int.reduceSub, Int.reduceNeg, Int.reduceMul, Int.reduceLT, Int.reduceLE, Int.reduceEq]
    refine (states_A n n _ (by omega)).then ?_
    simp (disch := first | omega | (simp only [List.length_cons, List.length_nil, List.length_map, List.length_drop]; omega)) only [↓evPre, ↓evPreW, evPost, evPostW, ← List.map_take, ← List.map_drop, ↓reduceIte, reduceCtorEq, Nat.reduceEqDiff, forall_const, implies_true, Nat.reduceAdd, Nat.reduceSub, Nat.reduceMul, Nat.reduceLT, Nat.reduceLeDiff, Int.reduceToNat, Int.reduceAdd, Int.reduceSub, Int.reduceNeg, Int.reduceMul, Int.reduceLT, Int.reduceLE, Int.reduceEq]
    refine (merge_A n n _ (by omega) (by omega) (up vm (by omega)) (up vm (by omega))).mono ?_
    rintro r S' ⟨⟨p, p1, p2, rfl⟩, rfl⟩
    have hpn : p = n := p1.uniqF n1 fun w => by rw [p2, mF_self]
    subst hpn
    simp (disch := first | omega | (simp only [List.length_cons, List.length_nil, List.length_map, List.length_drop]; omega)) only [↓evPre, ↓evPreW, evPost, evPostW, ← List.map_take, ← List.map_drop, ↓reduceIte, reduceCtorEq, Nat.reduceEqDiff, forall_const, implies_true, Nat.reduceAdd, Nat.reduceSub, Nat.reduceMul, Nat.reduceLT, Nat.reduceLeDiff, Int.reduceToNat, Int.reduceAdd, Int.reduceSub, Int.reduceNeg, Int.reduceMul, Int.reduceLT, Int.reduceLE, Int.reduceEq]
    refine (states_A p p _ (by omega)).then ?_
    simp (disch := first | omega | (simp only [List.length_cons, List.length_nil, List.length_map, List.length_drop]; omega)) only [↓evPre, ↓evPreW, evPost, evPostW, ← List.map_take, ← List.map_drop, ↓reduceIte, reduceCtorEq, Nat.reduceEqDiff, forall_const, implies_true, Nat.reduceAdd, Nat.reduceSub, Nat.reduceMul, Nat.reduceLT, Nat.reduceLeDiff, Int.reduceToNat, Int.reduceAdd, Int.reduceSub, Int.reduceNeg, Int.reduceMul, Int.reduceLT, Int.reduceLE, Int.reduceEq]
    refine (differ_A p p _ (by omega) (by omega)).mono ?_
    rintro r S' ⟨⟨d, d1, d2, rfl⟩, rfl⟩
    rw [diffs_self p1.apart] at d2
    have hd : d = [] := List.perm_nil.1 d2
    subst hd
    simp (disch := first | omega | (simp only [List.length_cons, List.length_nil, List.length_map, List.length_drop]; omega)) only [stSl, List.map_nil, ↓evPre, ↓evPreW, evPost, evPostW, ← List.map_take, ← List.map_drop, ↓reduceIte, reduceCtorEq, Nat.reduceEqDiff, forall_const, implies_true, Nat.reduceAdd, Nat.reduceSub, Nat.reduceMul, Nat.reduceLT, Nat.reduceLeDiff, Int.reduceToNat, Int.reduceAdd, Int.reduceSub, Int.reduceNeg, Int.reduceMul, Int.reduceLT, Int.reduceLE, Int.reduceEq]
    refine loopA (ι := Nat) (fun k => [(0, stSl a), (1, stSl b), (5, stSl p), (6, .int .i64 ((k + 1 : Nat) : Int))]) (fun _ => S') (fun k => k ≤ p.length) (fun k => p.length - k) 0 (Nat.zero_le _) ?_ rfl ?_
    · simp only [stSl, ↓evPre, ↓evPreW, evPost, evPostW, ← List.map_take, ← List.map_drop, ↓reduceIte, reduceCtorEq, Nat.reduceEqDiff, forall_const, implies_true, Nat.reduceAdd, Nat.reduceSub, Nat.reduceMul, Nat.reduceLT, Nat.reduceLeDiff, Int.reduceToNat, Int.reduceAdd, Int.reduceSub, Int.reduceNeg, Int.reduceMul, Int.reduceLT, Int.reduceLE, Int.reduceEq]
      try rfl
    intro k hk
    have hsub : ((k + 1 : Nat) : Int) - 1 = (k : Nat) := by omega
    cases hc : p[k + 1]? with
    | some y =>
      have hlt' := (List.getElem?_eq_some_iff.1 hc).1
      have hlt : ((k + 1 : Nat) : Int) < p.length := by omega
      obtain ⟨x, hx⟩ : ∃ x, p[k]? = some x := ⟨p[k]'(by omega), List.getElem?_eq_getElem _⟩
      have hxy := asc_at p1 hx hc
      simp only [ltS, decide_eq_true_eq] at hxy
      have e1 : ¬ y.t < x.t := by omega
      by_cases e2 : x.t = y.t
      · have e3 : ¬ y.c ≤ x.c := by omega
        simp (disch := first | omega | (simp only [List.length_cons, List.length_nil, List.length_map, List.length_drop]; omega)) only [stSl, stR, wrap_i64, hsub, List.length_map, List.getElem?_map, Option.map_some, hc, hx, dT hlt, dF e1, dT e2, dF e3, ↓evPre, ↓evPreW, evPost, evPostW, ← List.map_take, ← List.map_drop, ↓reduceIte, reduceCtorEq, Nat.reduceEqDiff, forall_const, implies_true, Nat.reduceAdd, Nat.reduceSub, Nat.reduceMul, Nat.reduceLT, Nat.reduceLeDiff, Int.reduceToNat, Int.reduceAdd, Int.reduceSub, Int.reduceNeg, Int.reduceMul, Int.reduceLT, Int.reduceLE, Int.reduceEq]
        exact ⟨k + 1, by omega, by omega, by omega⟩
      · simp (disch := first | omega | (simp only [List.length_cons, List.length_nil, List.length_map, List.length_drop]; omega)) only [stSl, stR, wrap_i64, hsub, List.length_map, List.getElem?_map, Option.map_some, hc, hx, dT hlt, dF e1, dF e2, ↓evPre, ↓evPreW, evPost, evPostW, ← List.map_take, ← List.map_drop, ↓reduceIte, reduceCtorEq, Nat.reduceEqDiff, forall_const, implies_true, Nat.reduceAdd, Nat.reduceSub, Nat.reduceMul, Nat.reduceLT, Nat.reduceLeDiff, Int.reduceToNat, Int.reduceAdd, Int.reduceSub, Int.reduceNeg, Int.reduceMul, Int.reduceLT, Int.reduceLE, Int.reduceEq]
        exact ⟨k + 1, by omega, by omega, by omega⟩
    | none =>
      have hge : p.length ≤ k + 1 := List.getElem?_eq_none_iff.1 hc
      have hlt : ¬ (((k + 1 : Nat) : Int) < p.length) := by omega
      simp (disch := first | omega | (simp only [List.length_cons, List.length_nil, List.length_map, List.length_drop]; omega)) only [stSl, List.length_map, dF hlt, ↓evPre, ↓evPreW, evPost, evPostW, ← List.map_take, ← List.map_drop, ↓reduceIte, reduceCtorEq, Nat.reduceEqDiff, forall_const, implies_true, Nat.reduceAdd, Nat.reduceSub, Nat.reduceMul, Nat.reduceLT, Nat.reduceLeDiff, Int.reduceToNat, Int.reduceAdd, Int.reduceSub, Int.reduceNeg, Int.reduceMul, Int.reduceLT, Int.reduceLE, Int.reduceEq]
      refine (differ_A a p _ (by omega) (by omega)).mono ?_
      rintro r S' ⟨⟨d, d1, d2, rfl⟩, rfl⟩
      have hdl : d.length ≤ 1000 := by
        have h5 := d2.length_eq
        have h6 := List.length_filter_le (diffs p) (firsts a)
        have h7 := firsts_len a
        omega
      simp (disch := first | omega | (simp only [List.length_cons, List.length_nil, List.length_map, List.length_drop]; omega)) only [stSl, ↓evPre, ↓evPreW, evPost, evPostW, ← List.map_take, ← List.map_drop, ↓reduceIte, reduceCtorEq, Nat.reduceEqDiff, forall_const, implies_true, Nat.reduceAdd, Nat.reduceSub, Nat.reduceMul, Nat.reduceLT, Nat.reduceLeDiff, Int.reduceToNat, Int.reduceAdd, Int.reduceSub, Int.reduceNeg, Int.reduceMul, Int.reduceLT, Int.reduceLE, Int.reduceEq]
      refine loopA (ι := Nat) (fun k => [(5, stSl p), (7, stSl d), (8, .int .i64 (k : Nat))]) (fun _ => S') (fun k => k ≤ d.length) (fun k => d.length - k) 0 (Nat.zero_le _) ?_ rfl ?_
      · simp only [stSl, ↓evPre, ↓evPreW, evPost, evPostW, ← List.map_take, ← List.map_drop, ↓reduceIte, reduceCtorEq, Nat.reduceEqDiff, forall_const, implies_true, Nat.reduceAdd, Nat.reduceSub, Nat.reduceMul, Nat.reduceLT, Nat.reduceLeDiff, Int.reduceToNat, Int.reduceAdd, Int.reduceSub, Int.reduceNeg, Int.reduceMul, Int.reduceLT, Int.reduceLE, Int.reduceEq]
        try rfl
      intro i hi
      cases hc : d[i]? with
      | none =>
        have hge : d.length ≤ i := List.getElem?_eq_none_iff.1 hc
        have hlt : ¬ ((i : Int) < d.length) := by omega
        simp (disch := first | omega | (simp only [List.length_cons, List.length_nil, List.length_map, List.length_drop]; omega)) only [stSl, List.length_map, dF hlt, ↓evPre, ↓evPreW, evPost, evPostW, ← List.map_take, ← List.map_drop, ↓reduceIte, reduceCtorEq, Nat.reduceEqDiff, forall_const, implies_true, Nat.reduceAdd, Nat.reduceSub, Nat.reduceMul, Nat.reduceLT, Nat.reduceLeDiff, Int.reduceToNat, Int.reduceAdd, Int.reduceSub, Int.reduceNeg, Int.reduceMul, Int.reduceLT, Int.reduceLE, Int.reduceEq]
        refine (example_A _).then ?_
        simp (disch := first | omega | (simp only [List.length_cons, List.length_nil, List.length_map, List.length_drop]; omega)) only [↓evPre, ↓evPreW, evPost, evPostW, ← List.map_take, ← List.map_drop, ↓reduceIte, reduceCtorEq, Nat.reduceEqDiff, forall_const, implies_true, Nat.reduceAdd, Nat.reduceSub, Nat.reduceMul, Nat.reduceLT, Nat.reduceLeDiff, Int.reduceToNat, Int.reduceAdd, Int.reduceSub, Int.reduceNeg, Int.reduceMul, Int.reduceLT, Int.reduceLE, Int.reduceEq]
      | some x =>
        have hlt' := (List.getElem?_eq_some_iff.1 hc).1
        have hlt : (i : Int) < d.length := by omega
        have hxm := d2.subset (List.mem_of_getElem? hc)
        simp (disch := first | omega | (simp only [List.length_cons, List.length_nil, List.length_map, List.length_drop]; omega)) only [stSl, List.length_map, dT hlt, ↓evPre, ↓evPreW, evPost, evPostW, ← List.map_take, ← List.map_drop, ↓reduceIte, reduceCtorEq, Nat.reduceEqDiff, forall_const, implies_true, Nat.reduceAdd, Nat.reduceSub, Nat.reduceMul, Nat.reduceLT, Nat.reduceLeDiff, Int.reduceToNat, Int.reduceAdd, Int.reduceSub, Int.reduceNeg, Int.reduceMul, Int.reduceLT, Int.reduceLE, Int.reduceEq]
        refine loopA (ι := Nat) (fun k => [(5, stSl p), (7, stSl d), (8, .int .i64 (i : Nat)), (9, .int .i64 (k : Nat))]) (fun _ => S') (fun k => k ≤ p.length) (fun k => p.length - k) 0 (Nat.zero_le _) ?_ rfl ?_
        · simp only [stSl, ↓evPre, ↓evPreW, evPost, evPostW, ← List.map_take, ← List.map_drop, ↓reduceIte, reduceCtorEq, Nat.reduceEqDiff, forall_const, implies_true, Nat.reduceAdd, Nat.reduceSub, Nat.reduceMul, Nat.reduceLT, Nat.reduceLeDiff, Int.reduceToNat, Int.reduceAdd, Int.reduceSub, Int.reduceNeg, Int.reduceMul, Int.reduceLT, Int.reduceLE, Int.reduceEq]
          try rfl
        intro j hj
        cases hy : p[j]? with
        | none =>
          have hge : p.length ≤ j := List.getElem?_eq_none_iff.1 hy
          have hlt2 : ¬ ((j : Int) < p.length) := by omega
          simp (disch := first | omega | (simp only [List.length_cons, List.length_nil, List.length_map, List.length_drop]; omega)) only [stSl, wrap_i64, List.length_map, dF hlt2, ↓evPre, ↓evPreW, evPost, evPostW, ← List.map_take, ← List.map_drop, ↓reduceIte, reduceCtorEq, Nat.reduceEqDiff, forall_const, implies_true, Nat.reduceAdd, Nat.reduceSub, Nat.reduceMul, Nat.reduceLT, Nat.reduceLeDiff, Int.reduceToNat, Int.reduceAdd, Int.reduceSub, Int.reduceNeg, Int.reduceMul, Int.reduceLT, Int.reduceLE, Int.reduceEq]
          exact ⟨i + 1, by omega, by omega, by omega⟩
        | some y =>
          have hlt3 := (List.getElem?_eq_some_iff.1 hy).1
          have hlt2 : (j : Int) < p.length := by omega
          by_cases f1 : y.t = x.t
          · by_cases f2 : y.c = x.c
            · have f3 : ¬ y.v ≤ x.v := by
                have := newer p1 m2 hxm (List.mem_of_getElem? hy) (by simp [sameS, f1, f2])
                omega
              simp (disch := first | omega | (simp only [List.length_cons, List.length_nil, List.length_map, List.length_drop]; omega)) only [stSl, stR, wrap_i64, List.length_map, List.getElem?_map, Option.map_some, hc, hy, dT hlt2, dT f1, dT f2, dF f3, ↓evPre, ↓evPreW, evPost, evPostW, ← List.map_take, ← List.map_drop, ↓reduceIte, reduceCtorEq, Nat.reduceEqDiff, forall_const, implies_true, Nat.reduceAdd, Nat.reduceSub, Nat.reduceMul, Nat.reduceLT, Nat.reduceLeDiff, Int.reduceToNat, Int.reduceAdd, Int.reduceSub, Int.reduceNeg, Int.reduceMul, Int.reduceLT, Int.reduceLE, Int.reduceEq]
              exact ⟨j + 1, by omega, by omega, by omega⟩
            · simp (disch := first | omega | (simp only [List.length_cons, List.length_nil, List.length_map, List.length_drop]; omega)) only [stSl, stR, wrap_i64, List.length_map, List.getElem?_map, Option.map_some, hc, hy, dT hlt2, dT f1, dF f2, ↓evPre, ↓evPreW, evPost, evPostW, ← List.map_take, ← List.map_drop, ↓reduceIte, reduceCtorEq, Nat.reduceEqDiff, forall_const, implies_true, Nat.reduceAdd, Nat.reduceSub, Nat.reduceMul, Nat.reduceLT, Nat.reduceLeDiff, Int.reduceToNat, Int.reduceAdd, Int.reduceSub, Int.reduceNeg, Int.reduceMul, Int.reduceLT, Int.reduceLE, Int.reduceEq]
              exact ⟨j + 1, by omega, by omega, by omega⟩
          · simp (disch := first | omega | (simp only [List.length_cons, List.length_nil, List.length_map, List.length_drop]; omega)) only [stSl, stR, wrap_i64, List.length_map, List.getElem?_map, Option.map_some, hc, hy, dT hlt2, dF f1, ↓evPre, ↓evPreW, evPost, evPostW, ← List.map_take, ← List.map_drop, ↓reduceIte, reduceCtorEq, Nat.reduceEqDiff, forall_const, implies_true, Nat.reduceAdd, Nat.reduceSub, Nat.reduceMul, Nat.reduceLT, Nat.reduceLeDiff, Int.reduceToNat, Int.reduceAdd, Int.reduceSub, Int.reduceNeg, Int.reduceMul, Int.reduceLT, Int.reduceLE, Int.reduceEq]
            exact ⟨j + 1, by omega, by omega, by omega⟩
end Go.Proofs.Ytdkcicbpcagonab
