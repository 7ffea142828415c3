/- The law of the order. -/
import Derived.Test.YtdkcicbpcagonaaMirP
import Derived.Test.YtdkcicbpcagonaaMirG
namespace Go.Proofs.Ytdkcicbpcagonaa
open Go Go.AL
set_option linter.unusedSimpArgs false
set_option linter.unusedVariables false

theorem ascAt {m : List St} (h : Asc m) {k : Nat} {x y : St} (hx : m[k]? = some x) (hy : m[k + 1]? = some y) : ltS x y = true := by
  obtain ⟨h1, rfl⟩ := List.getElem?_eq_some_iff.1 hx
  obtain ⟨h2, rfl⟩ := List.getElem?_eq_some_iff.1 hy
  exact List.pairwise_iff_getElem.1 h k (k + 1) h1 h2 (by omega)
theorem VOk0 : VOk Mi0 := fun r h => by cases h
theorem doS_k {l : List Act} (hl : l.length ≤ 80) (k : Nat) : (doS Mi0 (l.take k)).N ≤ 1000 := by
  have := doS_N (l.take k) Mi0
  have h2 := List.length_take_le k l
  have h3 : Mi0.N = 0 := rfl
  simp only [List.length_take] at this
  omega
theorem doS_kv {l : List Act} (hv : ∀ a ∈ l, i64r a.x.v) (k : Nat) : VOk (doS Mi0 (l.take k)) := doS_V _ VOk0 fun a ha => hv a (List.mem_of_mem_take ha)
theorem doS_next {l : List Act} {k : Nat} {a : Act} (h : l[k]? = some a) : doS Mi0 (l.take (k + 1)) = (doF (doS Mi0 (l.take k)) a).2 := by
  rw [List.take_add_one, h, doS_app]
  rfl

set_option maxRecDepth 100000 in
theorem law_order (l : List Act) (S : Store) (hl : l.length ≤ 2000000) (hv : ∀ a ∈ l, i64r a.x.v) : CallA Try.prog 6 [actSl l] S fun r S' => r = .bool true ∧ S' = S := by
  refine CallA.withNeat Try.func6 c6 fun hn => ?_
  refine CallA.fin Try.func6 c6 (Nat.le_of_ble_eq_true rfl) fun σ hσ => ?_
  by_cases h1 : l.length > 80
  · have h1' : (80 : Int) < l.length := by omega
    simp (disch := first | omega | (simp only [List.length_cons, List.length_nil, List.length_map, List.length_drop]; omega)) only [a6, actSl, List.length_map, dT h1', evSt, ↓evPre, ↓evPreW, evPost, evPostW, ← List.map_take, ← List.map_drop, ↓reduceIte, reduceCtorEq, Nat.reduceEqDiff, forall_const, implies_true, Nat.reduceAdd, Nat.reduceSub, Nat.reduceMul, Nat.reduceLT, Nat.reduceLeDiff, Int.reduceToNat, Int.reduceAdd, Int.reduceSub, Int.reduceNeg, Int.reduceMul, Int.reduceLT, Int.reduceLE, Int.reduceEq]
    refine (awake_A _).then ?_
    simp (disch := first | omega | (simp only [List.length_cons, List.length_nil, List.length_map, List.length_drop]; omega)) only [evSt, ↓evPre, ↓evPreW, evPost, evPostW, ← List.map_take, ← List.map_drop, ↓reduceIte, reduceCtorEq, Nat.reduceEqDiff, forall_const, implies_true, Nat.reduceAdd, Nat.reduceSub, Nat.reduceMul, Nat.reduceLT, Nat.reduceLeDiff, Int.reduceToNat, Int.reduceAdd, Int.reduceSub, Int.reduceNeg, Int.reduceMul, Int.reduceLT, Int.reduceLE, Int.reduceEq]
    exact ⟨_, S, hn.self, .imm rfl, Nat.le_refl _, rfl, rfl⟩
  have h1' : ¬ (80 : Int) < l.length := by omega
  simp (disch := first | omega | (simp only [List.length_cons, List.length_nil, List.length_map, List.length_drop]; omega)) only [a6, actSl, List.length_map, dF h1', evSt, ↓evPre, ↓evPreW, evPost, evPostW, ← List.map_take, ← List.map_drop, ↓reduceIte, reduceCtorEq, Nat.reduceEqDiff, forall_const, implies_true, Nat.reduceAdd, Nat.reduceSub, Nat.reduceMul, Nat.reduceLT, Nat.reduceLeDiff, Int.reduceToNat, Int.reduceAdd, Int.reduceSub, Int.reduceNeg, Int.reduceMul, Int.reduceLT, Int.reduceLE, Int.reduceEq]
  refine (New_A S).then2 ?_
  simp (disch := first | omega | (simp only [List.length_cons, List.length_nil, List.length_map, List.length_drop]; omega)) only [mst, evM, evSt, ↓evPre, ↓evPreW, evPost, evPostW, ← List.map_take, ← List.map_drop, ↓reduceIte, reduceCtorEq, Nat.reduceEqDiff, forall_const, implies_true, Nat.reduceAdd, Nat.reduceSub, Nat.reduceMul, Nat.reduceLT, Nat.reduceLeDiff, Int.reduceToNat, Int.reduceAdd, Int.reduceSub, Int.reduceNeg, Int.reduceMul, Int.reduceLT, Int.reduceLE, Int.reduceEq]
  refine loopA (ι := Nat × Qs × Cs) (fun p => [(0, actSl l), (3, .ptr (S.length + 3) 0 0 0), (4, .int .i64 (p.1 : Nat))]) (fun p => mst S [] (doS Mi0 (l.take p.1)) p.2.1 p.2.2)
    (fun p => p.1 ≤ l.length ∧ MOk (doS Mi0 (l.take p.1)) p.2.1 p.2.2) (fun p => l.length - p.1) (0, [], []) ⟨Nat.zero_le _, MOk0⟩ ?_ rfl ?_
  · simp only [actSl, ↓evPre, ↓evPreW, evPost, evPostW, ← List.map_take, ← List.map_drop, ↓reduceIte, reduceCtorEq, Nat.reduceEqDiff, forall_const, implies_true, Nat.reduceAdd, Nat.reduceSub, Nat.reduceMul, Nat.reduceLT, Nat.reduceLeDiff, Int.reduceToNat, Int.reduceAdd, Int.reduceSub, Int.reduceNeg, Int.reduceMul, Int.reduceLT, Int.reduceLE, Int.reduceEq]
  rintro ⟨k, Q, C⟩ ⟨hk, hm⟩
  simp only at hk hm ⊢
  have hN := doS_k (l := l) (by omega) k
  have hV := doS_kv hv k
  have hnx := fun a => doS_next (l := l) (k := k) (a := a)
  cases hc : l[k]? with
  | some a =>
    have hlt' := (List.getElem?_eq_some_iff.1 hc).1
    have hlt : (k : Int) < l.length := by omega
    have hnx := hnx a hc
    generalize doS Mi0 (l.take k) = M at hm hN hV hnx ⊢
    simp (disch := first | omega | (simp only [List.length_cons, List.length_nil, List.length_map, List.length_drop]; omega)) only [actSl, List.length_map, List.getElem?_map, Option.map_some, hc, dT hlt, evSt, ↓evPre, ↓evPreW, evPost, evPostW, ← List.map_take, ← List.map_drop, ↓reduceIte, reduceCtorEq, Nat.reduceEqDiff, forall_const, implies_true, Nat.reduceAdd, Nat.reduceSub, Nat.reduceMul, Nat.reduceLT, Nat.reduceLeDiff, Int.reduceToNat, Int.reduceAdd, Int.reduceSub, Int.reduceNeg, Int.reduceMul, Int.reduceLT, Int.reduceLE, Int.reduceEq]
    refine (do_A S [] M Q C hm (by omega) hV a).mono ?_
    rintro r S' ⟨rfl, Q', C', hm', hS'⟩
    subst hS'
    simp (disch := first | omega | (simp only [List.length_cons, List.length_nil, List.length_map, List.length_drop]; omega)) only [wrap_i64, evSt, ↓evPre, ↓evPreW, evPost, evPostW, ← List.map_take, ← List.map_drop, ↓reduceIte, reduceCtorEq, Nat.reduceEqDiff, forall_const, implies_true, Nat.reduceAdd, Nat.reduceSub, Nat.reduceMul, Nat.reduceLT, Nat.reduceLeDiff, Int.reduceToNat, Int.reduceAdd, Int.reduceSub, Int.reduceNeg, Int.reduceMul, Int.reduceLT, Int.reduceLE, Int.reduceEq]
    exact ⟨(k + 1, Q', C'), ⟨by simp only; omega, by rw [hnx]; exact hm'⟩, by simp only; omega, by simp only [hnx, actSl, ↓evPre, ↓evPreW, evPost, evPostW, ← List.map_take, ← List.map_drop, ↓reduceIte, reduceCtorEq, Nat.reduceEqDiff, forall_const, implies_true, Nat.reduceAdd, Nat.reduceSub, Nat.reduceMul, Nat.reduceLT, Nat.reduceLeDiff, Int.reduceToNat, Int.reduceAdd, Int.reduceSub, Int.reduceNeg, Int.reduceMul, Int.reduceLT, Int.reduceLE, Int.reduceEq]; omega⟩
  | none =>
    have hge : l.length ≤ k := List.getElem?_eq_none_iff.1 hc
    have hlt : ¬ ((k : Int) < l.length) := by omega
    generalize doS Mi0 (l.take k) = M at hm hN hV hnx ⊢
    simp (disch := first | omega | (simp only [List.length_cons, List.length_nil, List.length_map, List.length_drop]; omega)) only [actSl, List.length_map, dF hlt, evSt, ↓evPre, ↓evPreW, evPost, evPostW, ← List.map_take, ← List.map_drop, ↓reduceIte, reduceCtorEq, Nat.reduceEqDiff, forall_const, implies_true, Nat.reduceAdd, Nat.reduceSub, Nat.reduceMul, Nat.reduceLT, Nat.reduceLeDiff, Int.reduceToNat, Int.reduceAdd, Int.reduceSub, Int.reduceNeg, Int.reduceMul, Int.reduceLT, Int.reduceLE, Int.reduceEq]
    refine (All_A S [] M Q C hm (by omega)).mono ?_
    rintro r S' ⟨⟨d, hd, rfl⟩, rfl⟩
    have hdl : d.length = M.R.length := by have := hd.2.length_eq; simpa using this
    have hdm : d.length ≤ 1000 := by have := hm.wf.len; omega
    simp (disch := first | omega | (simp only [List.length_cons, List.length_nil, List.length_map, List.length_drop]; omega)) only [stSl, evSt, ↓evPre, ↓evPreW, evPost, evPostW, ← List.map_take, ← List.map_drop, ↓reduceIte, reduceCtorEq, Nat.reduceEqDiff, forall_const, implies_true, Nat.reduceAdd, Nat.reduceSub, Nat.reduceMul, Nat.reduceLT, Nat.reduceLeDiff, Int.reduceToNat, Int.reduceAdd, Int.reduceSub, Int.reduceNeg, Int.reduceMul, Int.reduceLT, Int.reduceLE, Int.reduceEq]
    refine loopF (ι := Nat) (fun k => [(3, .ptr (S.length + 3) 0 0 0), (5, stSl d), (6, .int .i64 (k : Nat))]) (fun _ => mst S [] M Q C) (fun k => k ≤ d.length) (fun k => d.length - k) (fun p _ => by rw [hσ, mst_len]; unfold mxN; simp) 0 (Nat.zero_le _) (.inl ⟨?_, rfl⟩) ?_
    · simp only [stSl, ↓evPre, ↓evPreW, evPost, evPostW, ← List.map_take, ← List.map_drop, ↓reduceIte, reduceCtorEq, Nat.reduceEqDiff, forall_const, implies_true, Nat.reduceAdd, Nat.reduceSub, Nat.reduceMul, Nat.reduceLT, Nat.reduceLeDiff, Int.reduceToNat, Int.reduceAdd, Int.reduceSub, Int.reduceNeg, Int.reduceMul, Int.reduceLT, Int.reduceLE, Int.reduceEq]
    intro k hk
    cases hc : d[k]? with
    | some y =>
      have hlt' := (List.getElem?_eq_some_iff.1 hc).1
      have hlt : (k : Int) < d.length := by omega
      have hy : y ∈ M.R.map (·.1) := hd.2.subset (List.mem_of_getElem? hc)
      have hg := hm.wf.get hy
      have hk1 : (k : Int) + 1 = ((k + 1 : Nat) : Int) := by omega
      have hback : ∀ (E : Env) (T : Store), sub [(3, .ptr (S.length + 3) 0 0 0), (5, stSl d), (6, .int .i64 ((k + 1 : Nat) : Int))] E → ∃ i', i' ≤ d.length ∧ d.length - i' < d.length - k ∧ Back [(3, .ptr (S.length + 3) 0 0 0), (5, stSl d), (6, .int .i64 (i' : Nat))] (mst S [] M Q C) E (mst S [] M Q C ++ T) := fun E T hE =>
        ⟨k + 1, by omega, by omega, back_under ((mst_neat0 hn).fgt _) hE (by simp [mst_len, mxN, V.under, stSl])⟩
      have e1 : ∀ j : Nat, k = j + 1 → ∃ x, d[j]? = some x ∧ ¬ y.t < x.t ∧ (x.t = y.t → ¬ y.c ≤ x.c) := fun j hj => by
        subst hj
        have hx : d[j]? = some (d[j]'(by omega)) := List.getElem?_eq_getElem _
        have := ascAt hd.1 hx hc
        simp only [ltS, decide_eq_true_eq] at this
        exact ⟨_, hx, by omega, by omega⟩
      have hsame : decide (y = y) = true := decide_eq_true rfl
      by_cases h0 : k = 0
      · have hz : ¬ (0 : Int) < (k : Nat) := by omega
        simp (disch := first | omega | (simp only [List.length_cons, List.length_nil, List.length_map, List.length_drop]; omega)) only [stSl, stR, List.length_map, List.getElem?_map, Option.map_some, hc, dT hlt, mst, evM, evSt, ↓evPre, ↓evPreW, evPost, evPostW, ← List.map_take, ← List.map_drop, ↓reduceIte, reduceCtorEq, Nat.reduceEqDiff, forall_const, implies_true, Nat.reduceAdd, Nat.reduceSub, Nat.reduceMul, Nat.reduceLT, Nat.reduceLeDiff, Int.reduceToNat, Int.reduceAdd, Int.reduceSub, Int.reduceNeg, Int.reduceMul, Int.reduceLT, Int.reduceLE, Int.reduceEq]
        refine ⟨?_, ?_⟩
        · refine (Get_A S [] M Q C y.t y.c).then ?_
          rw [hg]
          simp (disch := first | omega | (simp only [List.length_cons, List.length_nil, List.length_map, List.length_drop]; omega)) only [stSl, stV, stR, List.length_map, List.getElem?_map, Option.map_some, hc, eqd_st, decide_true, dF hz, hk1, wrap_i64, mst, evM, evSt, ↓evPre, ↓evPreW, evPost, evPostW, ← List.map_take, ← List.map_drop, ↓reduceIte, reduceCtorEq, Nat.reduceEqDiff, forall_const, implies_true, Nat.reduceAdd, Nat.reduceSub, Nat.reduceMul, Nat.reduceLT, Nat.reduceLeDiff, Int.reduceToNat, Int.reduceAdd, Int.reduceSub, Int.reduceNeg, Int.reduceMul, Int.reduceLT, Int.reduceLE, Int.reduceEq]
          exact hback _ _ ⟨rfl, rfl, rfl, trivial⟩
        · refine (Get_AL S [] _ M Q C y.t y.c).then ?_
          rw [hg]
          simp (disch := first | omega | (simp only [List.length_cons, List.length_nil, List.length_map, List.length_drop]; omega)) only [stSl, stV, stR, List.length_map, List.getElem?_map, Option.map_some, hc, eqd_st, decide_true, dF hz, hk1, wrap_i64, mst, evM, evSt, ↓evPre, ↓evPreW, evPost, evPostW, ← List.map_take, ← List.map_drop, ↓reduceIte, reduceCtorEq, Nat.reduceEqDiff, forall_const, implies_true, Nat.reduceAdd, Nat.reduceSub, Nat.reduceMul, Nat.reduceLT, Nat.reduceLeDiff, Int.reduceToNat, Int.reduceAdd, Int.reduceSub, Int.reduceNeg, Int.reduceMul, Int.reduceLT, Int.reduceLE, Int.reduceEq]
          exact hback _ _ ⟨rfl, rfl, rfl, trivial⟩
      · obtain ⟨j, hj⟩ : ∃ j, k = j + 1 := ⟨k - 1, by omega⟩
        obtain ⟨x, hx, e2, e3⟩ := e1 j hj
        have hz : (0 : Int) < (k : Nat) := by omega
        have hsub : ((k : Nat) : Int) - 1 = (j : Nat) := by omega
        by_cases e4 : x.t = y.t
        · have e5 := e3 e4
          have e4' : y.t = x.t := e4.symm
          simp (disch := first | omega | (simp only [List.length_cons, List.length_nil, List.length_map, List.length_drop]; omega)) only [stSl, stR, List.length_map, List.getElem?_map, Option.map_some, hc, dT hlt, mst, evM, evSt, ↓evPre, ↓evPreW, evPost, evPostW, ← List.map_take, ← List.map_drop, ↓reduceIte, reduceCtorEq, Nat.reduceEqDiff, forall_const, implies_true, Nat.reduceAdd, Nat.reduceSub, Nat.reduceMul, Nat.reduceLT, Nat.reduceLeDiff, Int.reduceToNat, Int.reduceAdd, Int.reduceSub, Int.reduceNeg, Int.reduceMul, Int.reduceLT, Int.reduceLE, Int.reduceEq]
          refine ⟨?_, ?_⟩
          · refine (Get_A S [] M Q C y.t y.c).then ?_
            rw [hg]
            simp (disch := first | omega | (simp only [List.length_cons, List.length_nil, List.length_map, List.length_drop]; omega)) only [stSl, stV, stR, List.length_map, List.getElem?_map, Option.map_some, hc, eqd_st, decide_true, dT hz, hsub, hx, dF e2, dT e4', dF e5, hk1, wrap_i64, mst, evM, evSt, ↓evPre, ↓evPreW, evPost, evPostW, ← List.map_take, ← List.map_drop, ↓reduceIte, reduceCtorEq, Nat.reduceEqDiff, forall_const, implies_true, Nat.reduceAdd, Nat.reduceSub, Nat.reduceMul, Nat.reduceLT, Nat.reduceLeDiff, Int.reduceToNat, Int.reduceAdd, Int.reduceSub, Int.reduceNeg, Int.reduceMul, Int.reduceLT, Int.reduceLE, Int.reduceEq]
            exact hback _ _ ⟨rfl, rfl, rfl, trivial⟩
          · refine (Get_AL S [] _ M Q C y.t y.c).then ?_
            rw [hg]
            simp (disch := first | omega | (simp only [List.length_cons, List.length_nil, List.length_map, List.length_drop]; omega)) only [stSl, stV, stR, List.length_map, List.getElem?_map, Option.map_some, hc, eqd_st, decide_true, dT hz, hsub, hx, dF e2, dT e4', dF e5, hk1, wrap_i64, mst, evM, evSt, ↓evPre, ↓evPreW, evPost, evPostW, ← List.map_take, ← List.map_drop, ↓reduceIte, reduceCtorEq, Nat.reduceEqDiff, forall_const, implies_true, Nat.reduceAdd, Nat.reduceSub, Nat.reduceMul, Nat.reduceLT, Nat.reduceLeDiff, Int.reduceToNat, Int.reduceAdd, Int.reduceSub, Int.reduceNeg, Int.reduceMul, Int.reduceLT, Int.reduceLE, Int.reduceEq]
            exact hback _ _ ⟨rfl, rfl, rfl, trivial⟩
        · have e4' : ¬ y.t = x.t := fun h => e4 h.symm
          simp (disch := first | omega | (simp only [List.length_cons, List.length_nil, List.length_map, List.length_drop]; omega)) only [stSl, stR, List.length_map, List.getElem?_map, Option.map_some, hc, dT hlt, mst, evM, evSt, ↓evPre, ↓evPreW, evPost, evPostW, ← List.map_take, ← List.map_drop, ↓reduceIte, reduceCtorEq, Nat.reduceEqDiff, forall_const, implies_true, Nat.reduceAdd, Nat.reduceSub, Nat.reduceMul, Nat.reduceLT, Nat.reduceLeDiff, Int.reduceToNat, Int.reduceAdd, Int.reduceSub, Int.reduceNeg, Int.reduceMul, Int.reduceLT, Int.reduceLE, Int.reduceEq]
          refine ⟨?_, ?_⟩
          · refine (Get_A S [] M Q C y.t y.c).then ?_
            rw [hg]
            simp (disch := first | omega | (simp only [List.length_cons, List.length_nil, List.length_map, List.length_drop]; omega)) only [stSl, stV, stR, List.length_map, List.getElem?_map, Option.map_some, hc, eqd_st, decide_true, dT hz, hsub, hx, dF e2, dF e4', hk1, wrap_i64, mst, evM, evSt, ↓evPre, ↓evPreW, evPost, evPostW, ← List.map_take, ← List.map_drop, ↓reduceIte, reduceCtorEq, Nat.reduceEqDiff, forall_const, implies_true, Nat.reduceAdd, Nat.reduceSub, Nat.reduceMul, Nat.reduceLT, Nat.reduceLeDiff, Int.reduceToNat, Int.reduceAdd, Int.reduceSub, Int.reduceNeg, Int.reduceMul, Int.reduceLT, Int.reduceLE, Int.reduceEq]
            exact hback _ _ ⟨rfl, rfl, rfl, trivial⟩
          · refine (Get_AL S [] _ M Q C y.t y.c).then ?_
            rw [hg]
            simp (disch := first | omega | (simp only [List.length_cons, List.length_nil, List.length_map, List.length_drop]; omega)) only [stSl, stV, stR, List.length_map, List.getElem?_map, Option.map_some, hc, eqd_st, decide_true, dT hz, hsub, hx, dF e2, dF e4', hk1, wrap_i64, mst, evM, evSt, ↓evPre, ↓evPreW, evPost, evPostW, ← List.map_take, ← List.map_drop, ↓reduceIte, reduceCtorEq, Nat.reduceEqDiff, forall_const, implies_true, Nat.reduceAdd, Nat.reduceSub, Nat.reduceMul, Nat.reduceLT, Nat.reduceLeDiff, Int.reduceToNat, Int.reduceAdd, Int.reduceSub, Int.reduceNeg, Int.reduceMul, Int.reduceLT, Int.reduceLE, Int.reduceEq]
            exact hback _ _ ⟨rfl, rfl, rfl, trivial⟩
    | none =>
      have hge : d.length ≤ k := List.getElem?_eq_none_iff.1 hc
      have hlt : ¬ ((k : Int) < d.length) := by omega
      simp (disch := first | omega | (simp only [List.length_cons, List.length_nil, List.length_map, List.length_drop]; omega)) only [stSl, List.length_map, dF hlt, evSt, ↓evPre, ↓evPreW, evPost, evPostW, ← List.map_take, ← List.map_drop, ↓reduceIte, reduceCtorEq, Nat.reduceEqDiff, forall_const, implies_true, Nat.reduceAdd, Nat.reduceSub, Nat.reduceMul, Nat.reduceLT, Nat.reduceLeDiff, Int.reduceToNat, Int.reduceAdd, Int.reduceSub, Int.reduceNeg, Int.reduceMul, Int.reduceLT, Int.reduceLE, Int.reduceEq]
      refine (Since_A S [] M Q C hm (by omega) 0).mono ?_
      rintro r S' ⟨rfl, Q', C', hm', hS'⟩
      subst hS'
      have hs : (sinceL M (cutN M 0)).length = d.length := by rw [cutN_zero, (since_all hm.wf).length_eq, hdl]; simp
      have hs' : ((sinceL M (cutN M 0)).length : Int) = d.length := by omega
      simp (disch := first | omega | (simp only [List.length_cons, List.length_nil, List.length_map, List.length_drop]; omega)) only [stSl, List.length_map, dT hs', evSt, ↓evPre, ↓evPreW, evPost, evPostW, ← List.map_take, ← List.map_drop, ↓reduceIte, reduceCtorEq, Nat.reduceEqDiff, forall_const, implies_true, Nat.reduceAdd, Nat.reduceSub, Nat.reduceMul, Nat.reduceLT, Nat.reduceLeDiff, Int.reduceToNat, Int.reduceAdd, Int.reduceSub, Int.reduceNeg, Int.reduceMul, Int.reduceLT, Int.reduceLE, Int.reduceEq]
      refine (Changes_A S [] M Q' C').then ?_
      simp (disch := first | omega | (simp only [List.length_cons, List.length_nil, List.length_map, List.length_drop]; omega)) only [stSl, evSt, ↓evPre, ↓evPreW, evPost, evPostW, ← List.map_take, ← List.map_drop, ↓reduceIte, reduceCtorEq, Nat.reduceEqDiff, forall_const, implies_true, Nat.reduceAdd, Nat.reduceSub, Nat.reduceMul, Nat.reduceLT, Nat.reduceLeDiff, Int.reduceToNat, Int.reduceAdd, Int.reduceSub, Int.reduceNeg, Int.reduceMul, Int.reduceLT, Int.reduceLE, Int.reduceEq]
      refine (Since_A S [] M Q' C' hm' (by omega) (M.N : Nat)).mono ?_
      rintro r S' ⟨rfl, Q1, C1, hm1, hS'⟩
      subst hS'
      rw [cutN_self, since_none]
      simp (disch := first | omega | (simp only [List.length_cons, List.length_nil, List.length_map, List.length_drop]; omega)) only [stSl, List.map_nil, evSt, ↓evPre, ↓evPreW, evPost, evPostW, ← List.map_take, ← List.map_drop, ↓reduceIte, reduceCtorEq, Nat.reduceEqDiff, forall_const, implies_true, Nat.reduceAdd, Nat.reduceSub, Nat.reduceMul, Nat.reduceLT, Nat.reduceLeDiff, Int.reduceToNat, Int.reduceAdd, Int.reduceSub, Int.reduceNeg, Int.reduceMul, Int.reduceLT, Int.reduceLE, Int.reduceEq]
      refine (awake_A _).then ?_
      simp (disch := first | omega | (simp only [List.length_cons, List.length_nil, List.length_map, List.length_drop]; omega)) only [evSt, ↓evPre, ↓evPreW, evPost, evPostW, ← List.map_take, ← List.map_drop, ↓reduceIte, reduceCtorEq, Nat.reduceEqDiff, forall_const, implies_true, Nat.reduceAdd, Nat.reduceSub, Nat.reduceMul, Nat.reduceLT, Nat.reduceLeDiff, Int.reduceToNat, Int.reduceAdd, Int.reduceSub, Int.reduceNeg, Int.reduceMul, Int.reduceLT, Int.reduceLE, Int.reduceEq]
      have := mst_fgt (B := []) (T := []) (M := M) (Q := Q1) (C := C1) hn
      rw [List.append_nil] at this
      exact ⟨_, S, this, .imm rfl, Nat.le_refl _, rfl, rfl⟩
end Go.Proofs.Ytdkcicbpcagonaa
