/- The law of the versions. -/
import Derived.Test.YtdkcicbpcagonaaMir11
namespace Go.Proofs.Ytdkcicbpcagonaa
open Go Go.AL
set_option linter.unusedSimpArgs false
set_option linter.unusedVariables false

theorem findR_same {R : List Rw} {x y : St} (h : sameS y x = true) : findR R y = findR R x := by
  unfold findR
  congr 1
  funext q
  exact same_same q.1 h
theorem get_step {M : Mi} (h : WF M) (a : Act) {y : St} (hy : y ∈ M.R.map (·.1)) : ∃ z, getF (doF M a).2 y.t y.c = (z, true) ∧ y.v ≤ z.v := by
  have hg := h.get hy
  rcases doF_cases M a with ⟨_, e⟩ | ⟨x, _, e, _, _, _, hx⟩
  · rw [e]; exact ⟨y, hg, Int.le_refl _⟩
  · rw [e]
    obtain ⟨r, hr, rfl⟩ := List.mem_map.1 hy
    have hf := h.find_mem hr
    have e1 : findR (recM M x).R ⟨r.1.t, r.1.c, 0, 0⟩ = findR (updR x (M.N + 1) M.R) r.1 := rfl
    unfold getF
    rw [e1, findR_upd]
    by_cases hs : sameS r.1 x = true
    · rw [if_pos hs]
      have := hx r (by rw [← findR_same hs]; exact hf)
      exact ⟨x, rfl, by omega⟩
    · rw [if_neg hs, hf]
      exact ⟨r.1, rfl, Int.le_refl _⟩

section
variable (l : List Act) (S : Store)
set_option maxRecDepth 100000 in
theorem law_versions (hl : l.length ≤ 2000000) (hv : ∀ a ∈ l, i64r a.x.v) : CallA Try.prog 7 [actSl l] S fun r S' => r = .bool true ∧ S' = S := by
  refine CallA.withNeat Try.func7 c7 fun hn => ?_
  refine CallA.fin Try.func7 c7 (Nat.le_of_ble_eq_true rfl) fun σ hσ => ?_
  by_cases h1 : l.length > 80
  · have h1' : (80 : Int) < l.length := by omega
    simp (disch := first | omega | (simp only [List.length_cons, List.length_nil, List.length_map, List.length_drop]; omega)) only [a7, actSl, List.length_map, dT h1', evSt, ↓evPre, ↓evPreW, evPost, evPostW, ← List.map_take, ← List.map_drop, ↓reduceIte, reduceCtorEq, Nat.reduceEqDiff, forall_const, implies_true, Nat.reduceAdd, Nat.reduceSub, Nat.reduceMul, Nat.reduceLT, Nat.reduceLeDiff, Int.reduceToNat, Int.reduceAdd, Int.reduceSub, Int.reduceNeg, Int.reduceMul, Int.reduceLT, Int.reduceLE, Int.reduceEq]
    refine (awake_A _).then ?_
    simp (disch := first | omega | (simp only [List.length_cons, List.length_nil, List.length_map, List.length_drop]; omega)) only [evSt, ↓evPre, ↓evPreW, evPost, evPostW, ← List.map_take, ← List.map_drop, ↓reduceIte, reduceCtorEq, Nat.reduceEqDiff, forall_const, implies_true, Nat.reduceAdd, Nat.reduceSub, Nat.reduceMul, Nat.reduceLT, Nat.reduceLeDiff, Int.reduceToNat, Int.reduceAdd, Int.reduceSub, Int.reduceNeg, Int.reduceMul, Int.reduceLT, Int.reduceLE, Int.reduceEq]
    exact ⟨_, S, hn.self, .imm rfl, Nat.le_refl _, rfl, rfl⟩
  have h1' : ¬ (80 : Int) < l.length := by omega
  simp (disch := first | omega | (simp only [List.length_cons, List.length_nil, List.length_map, List.length_drop]; omega)) only [a7, actSl, List.length_map, dF h1', evSt, ↓evPre, ↓evPreW, evPost, evPostW, ← List.map_take, ← List.map_drop, ↓reduceIte, reduceCtorEq, Nat.reduceEqDiff, forall_const, implies_true, Nat.reduceAdd, Nat.reduceSub, Nat.reduceMul, Nat.reduceLT, Nat.reduceLeDiff, Int.reduceToNat, Int.reduceAdd, Int.reduceSub, Int.reduceNeg, Int.reduceMul, Int.reduceLT, Int.reduceLE, Int.reduceEq]
  refine (New_A S).then2 ?_
  simp (disch := first | omega | (simp only [List.length_cons, List.length_nil, List.length_map, List.length_drop]; omega)) only [mst, evM, evSt, ↓evPre, ↓evPreW, evPost, evPostW, ← List.map_take, ← List.map_drop, ↓reduceIte, reduceCtorEq, Nat.reduceEqDiff, forall_const, implies_true, Nat.reduceAdd, Nat.reduceSub, Nat.reduceMul, Nat.reduceLT, Nat.reduceLeDiff, Int.reduceToNat, Int.reduceAdd, Int.reduceSub, Int.reduceNeg, Int.reduceMul, Int.reduceLT, Int.reduceLE, Int.reduceEq]
  refine loopF (ι := Nat × Qs × Cs) (fun p => [(0, actSl l), (3, .ptr (S.length + 3) 0 0 0), (4, .int .i64 (p.1 : Nat))]) (fun p => mst S [] (doS Mi0 (l.take p.1)) p.2.1 p.2.2)
    (fun p => p.1 ≤ l.length ∧ MOk (doS Mi0 (l.take p.1)) p.2.1 p.2.2) (fun p => l.length - p.1) (fun p _ => by rw [hσ, mst_len]; unfold mxN; simp) (0, [], []) ⟨Nat.zero_le _, MOk0⟩ (.inl ⟨?_, rfl⟩) ?_
  · simp only [actSl, ↓evPre, ↓evPreW, evPost, evPostW, ← List.map_take, ← List.map_drop, ↓reduceIte, reduceCtorEq, Nat.reduceEqDiff, forall_const, implies_true, Nat.reduceAdd, Nat.reduceSub, Nat.reduceMul, Nat.reduceLT, Nat.reduceLeDiff, Int.reduceToNat, Int.reduceAdd, Int.reduceSub, Int.reduceNeg, Int.reduceMul, Int.reduceLT, Int.reduceLE, Int.reduceEq]
  rintro ⟨k, Q, C⟩ ⟨hk, hm⟩
  simp only at hk hm ⊢
  have hN := doS_k (l := l) (by omega) k
  have hV := doS_kv hv k
  have hnx := fun a => doS_next (l := l) (k := k) (a := a)
  cases hc : l[k]? with
  | none =>
    have hge : l.length ≤ k := List.getElem?_eq_none_iff.1 hc
    have hlt : ¬ ((k : Int) < l.length) := by omega
    simp (disch := first | omega | (simp only [List.length_cons, List.length_nil, List.length_map, List.length_drop]; omega)) only [actSl, List.length_map, dF hlt, evSt, ↓evPre, ↓evPreW, evPost, evPostW, ← List.map_take, ← List.map_drop, ↓reduceIte, reduceCtorEq, Nat.reduceEqDiff, forall_const, implies_true, Nat.reduceAdd, Nat.reduceSub, Nat.reduceMul, Nat.reduceLT, Nat.reduceLeDiff, Int.reduceToNat, Int.reduceAdd, Int.reduceSub, Int.reduceNeg, Int.reduceMul, Int.reduceLT, Int.reduceLE, Int.reduceEq]
    refine (awake_A _).then ?_
    simp (disch := first | omega | (simp only [List.length_cons, List.length_nil, List.length_map, List.length_drop]; omega)) only [evSt, ↓evPre, ↓evPreW, evPost, evPostW, ← List.map_take, ← List.map_drop, ↓reduceIte, reduceCtorEq, Nat.reduceEqDiff, forall_const, implies_true, Nat.reduceAdd, Nat.reduceSub, Nat.reduceMul, Nat.reduceLT, Nat.reduceLeDiff, Int.reduceToNat, Int.reduceAdd, Int.reduceSub, Int.reduceNeg, Int.reduceMul, Int.reduceLT, Int.reduceLE, Int.reduceEq]
    have := mst_fgt (B := []) (T := []) (M := doS Mi0 (l.take k)) (Q := Q) (C := C) hn
    rw [List.append_nil] at this
    exact ⟨_, S, this, .imm rfl, Nat.le_refl _, rfl, rfl⟩
  | some a =>
    have hlt' := (List.getElem?_eq_some_iff.1 hc).1
    have hlt : (k : Int) < l.length := by omega
    have hnx := hnx a hc
    generalize doS Mi0 (l.take k) = M at hm hN hV hnx ⊢
    simp (disch := first | omega | (simp only [List.length_cons, List.length_nil, List.length_map, List.length_drop]; omega)) only [actSl, List.length_map, dT hlt, evSt, ↓evPre, ↓evPreW, evPost, evPostW, ← List.map_take, ← List.map_drop, ↓reduceIte, reduceCtorEq, Nat.reduceEqDiff, forall_const, implies_true, Nat.reduceAdd, Nat.reduceSub, Nat.reduceMul, Nat.reduceLT, Nat.reduceLeDiff, Int.reduceToNat, Int.reduceAdd, Int.reduceSub, Int.reduceNeg, Int.reduceMul, Int.reduceLT, Int.reduceLE, Int.reduceEq]
    refine (All_A S [] M Q C hm (by omega)).mono ?_
    rintro r S' ⟨⟨d, hd, rfl⟩, rfl⟩
    simp (disch := first | omega | (simp only [List.length_cons, List.length_nil, List.length_map, List.length_drop]; omega)) only [evSt, ↓evPre, ↓evPreW, evPost, evPostW, ← List.map_take, ← List.map_drop, ↓reduceIte, reduceCtorEq, Nat.reduceEqDiff, forall_const, implies_true, Nat.reduceAdd, Nat.reduceSub, Nat.reduceMul, Nat.reduceLT, Nat.reduceLeDiff, Int.reduceToNat, Int.reduceAdd, Int.reduceSub, Int.reduceNeg, Int.reduceMul, Int.reduceLT, Int.reduceLE, Int.reduceEq]
    refine (Changes_A S [] M Q C).then ?_
    simp (disch := first | omega | (simp only [List.length_cons, List.length_nil, List.length_map, List.length_drop]; omega)) only [actSl, List.length_map, List.getElem?_map, Option.map_some, hc, evSt, ↓evPre, ↓evPreW, evPost, evPostW, ← List.map_take, ← List.map_drop, ↓reduceIte, reduceCtorEq, Nat.reduceEqDiff, forall_const, implies_true, Nat.reduceAdd, Nat.reduceSub, Nat.reduceMul, Nat.reduceLT, Nat.reduceLeDiff, Int.reduceToNat, Int.reduceAdd, Int.reduceSub, Int.reduceNeg, Int.reduceMul, Int.reduceLT, Int.reduceLE, Int.reduceEq]
    refine (do_A S [] M Q C hm (by omega) hV a).mono ?_
    rintro r S' ⟨rfl, Q', C', hm', hS'⟩
    subst hS'
    have hN1 := doF_N M a
    have hu : ∀ d', isAll M d' → d' = d := fun d' h' => h'.1.uniq hd.1 (h'.2.trans hd.2.symm)
    have hdm : d.length ≤ 1000 := by have h1 := hd.2.length_eq; have := hm.wf.len; simp only [List.length_map] at h1; omega
    have hgs := fun y (hy : y ∈ d) => get_step hm.wf a (hd.2.subset hy)
    have hk1 : (k : Int) + 1 = ((k + 1 : Nat) : Int) := by omega
    have hund : ∀ j : Nat, (([(0, actSl l), (3, .ptr (S.length + 3) 0 0 0), (4, .int .i64 (k : Nat)), (5, stSl d), (10, .int .i64 (j : Nat))] : Env).all fun p => p.2.under (mst S [] (doF M a).2 Q' C').length) = true := fun j => by
      have e : S.length + 3 < mxN S [] := by unfold mxN; simp
      simp [mst_len, V.under, stSl, actSl, e]
    have hback : ∀ (j : Nat) (E : Env) (T : Store), j < d.length → sub [(0, actSl l), (3, .ptr (S.length + 3) 0 0 0), (4, .int .i64 (k : Nat)), (5, stSl d), (10, .int .i64 ((j + 1 : Nat) : Int))] E → ∃ i', i' ≤ d.length ∧ d.length - i' < d.length - j ∧
        Back [(0, actSl l), (3, .ptr (S.length + 3) 0 0 0), (4, .int .i64 (k : Nat)), (5, stSl d), (10, .int .i64 (i' : Nat))] (mst S [] (doF M a).2 Q' C') E (mst S [] (doF M a).2 Q' C' ++ T) := fun j E T hj hE =>
      ⟨j + 1, by omega, by omega, back_under ((mst_neat0 hn).fgt _) hE (hund _)⟩
    simp (disch := first | omega | (simp only [List.length_cons, List.length_nil, List.length_map, List.length_drop]; omega)) only [stV, stR, mst, evM, wrap_i64, evSt, ↓evPre, ↓evPreW, evPost, evPostW, ← List.map_take, ← List.map_drop, ↓reduceIte, reduceCtorEq, Nat.reduceEqDiff, forall_const, implies_true, Nat.reduceAdd, Nat.reduceSub, Nat.reduceMul, Nat.reduceLT, Nat.reduceLeDiff, Int.reduceToNat, Int.reduceAdd, Int.reduceSub, Int.reduceNeg, Int.reduceMul, Int.reduceLT, Int.reduceLE, Int.reduceEq]
    refine (All_AL S [] _ (doF M a).2 Q' C' hm' (by omega)).mono ?_
    rintro r S' ⟨⟨d', hd', rfl⟩, rfl⟩
    rcases doF_cases M a with ⟨h5, h6⟩ | ⟨x, h5, h6, _⟩
    · have h7 : (((doF M a).2.N : Nat) : Int) = (M.N : Nat) := by rw [h6]
      have := hu d' (by rw [h6] at hd'; exact hd')
      subst this
      simp (disch := first | omega | (simp only [List.length_cons, List.length_nil, List.length_map, List.length_drop]; omega)) only [dF h5, mst, evM, evSt, ↓evPre, ↓evPreW, evPost, evPostW, ← List.map_take, ← List.map_drop, ↓reduceIte, reduceCtorEq, Nat.reduceEqDiff, forall_const, implies_true, Nat.reduceAdd, Nat.reduceSub, Nat.reduceMul, Nat.reduceLT, Nat.reduceLeDiff, Int.reduceToNat, Int.reduceAdd, Int.reduceSub, Int.reduceNeg, Int.reduceMul, Int.reduceLT, Int.reduceLE, Int.reduceEq]
      refine (sameL_A d' d' _ (by omega)).then ?_
      simp (disch := first | omega | (simp only [List.length_cons, List.length_nil, List.length_map, List.length_drop]; omega)) only [mst, evM, evSt, ↓evPre, ↓evPreW, evPost, evPostW, ← List.map_take, ← List.map_drop, ↓reduceIte, reduceCtorEq, Nat.reduceEqDiff, forall_const, implies_true, Nat.reduceAdd, Nat.reduceSub, Nat.reduceMul, Nat.reduceLT, Nat.reduceLeDiff, Int.reduceToNat, Int.reduceAdd, Int.reduceSub, Int.reduceNeg, Int.reduceMul, Int.reduceLT, Int.reduceLE, Int.reduceEq]
      refine (Changes_AL S [] _ (doF M a).2 Q' C').then ?_
      simp (disch := first | omega | (simp only [List.length_cons, List.length_nil, List.length_map, List.length_drop]; omega)) only [dT h7, dF h5, mst, evM, evSt, ↓evPre, ↓evPreW, evPost, evPostW, ← List.map_take, ← List.map_drop, ↓reduceIte, reduceCtorEq, Nat.reduceEqDiff, forall_const, implies_true, Nat.reduceAdd, Nat.reduceSub, Nat.reduceMul, Nat.reduceLT, Nat.reduceLeDiff, Int.reduceToNat, Int.reduceAdd, Int.reduceSub, Int.reduceNeg, Int.reduceMul, Int.reduceLT, Int.reduceLE, Int.reduceEq]
      refine loopF (ι := Nat) (fun j => [(0, actSl l), (3, .ptr (S.length + 3) 0 0 0), (4, .int .i64 (k : Nat)), (5, stSl d'), (10, .int .i64 (j : Nat))]) (fun _ => mst S [] (doF M a).2 Q' C') (fun j => j ≤ d'.length) (fun j => d'.length - j) (fun p _ => by rw [hσ, mst_len]; unfold mxN; simp) 0 (Nat.zero_le _) ?_ ?_
      · exact back_under ((mst_neat0 hn).fgt _) ⟨rfl, rfl, rfl, rfl, rfl, trivial⟩ (hund _)
      intro j hj
      cases hc2 : d'[j]? with
      | none =>
        have hge : d'.length ≤ j := List.getElem?_eq_none_iff.1 hc2
        have hlt : ¬ ((j : Int) < d'.length) := by omega
        simp (disch := first | omega | (simp only [List.length_cons, List.length_nil, List.length_map, List.length_drop]; omega)) only [stSl, List.length_map, dF hlt, wrap_i64, hk1, evSt, ↓evPre, ↓evPreW, evPost, evPostW, ← List.map_take, ← List.map_drop, ↓reduceIte, reduceCtorEq, Nat.reduceEqDiff, forall_const, implies_true, Nat.reduceAdd, Nat.reduceSub, Nat.reduceMul, Nat.reduceLT, Nat.reduceLeDiff, Int.reduceToNat, Int.reduceAdd, Int.reduceSub, Int.reduceNeg, Int.reduceMul, Int.reduceLT, Int.reduceLE, Int.reduceEq]
        exact ⟨(k + 1, Q', C'), ⟨by simp only; omega, by rw [hnx]; exact hm'⟩, by simp only; omega, .inl ⟨⟨rfl, rfl, rfl, trivial⟩, by simp only [hnx]; rfl⟩⟩
      | some y =>
        have hlt' := (List.getElem?_eq_some_iff.1 hc2).1
        have hlt : (j : Int) < d'.length := by omega
        have hj1 : (j : Int) + 1 = ((j + 1 : Nat) : Int) := by omega
        obtain ⟨z, hz1, hz2⟩ := hgs y (List.mem_of_getElem? hc2)
        have hz3 : ¬ z.v < y.v := by omega
        simp (disch := first | omega | (simp only [List.length_cons, List.length_nil, List.length_map, List.length_drop]; omega)) only [stSl, stR, List.length_map, List.getElem?_map, Option.map_some, hc2, dT hlt, mst, evM, evSt, ↓evPre, ↓evPreW, evPost, evPostW, ← List.map_take, ← List.map_drop, ↓reduceIte, reduceCtorEq, Nat.reduceEqDiff, forall_const, implies_true, Nat.reduceAdd, Nat.reduceSub, Nat.reduceMul, Nat.reduceLT, Nat.reduceLeDiff, Int.reduceToNat, Int.reduceAdd, Int.reduceSub, Int.reduceNeg, Int.reduceMul, Int.reduceLT, Int.reduceLE, Int.reduceEq]
        refine ⟨?_, ?_⟩
        · refine (Get_A S [] (doF M a).2 Q' C' y.t y.c).then ?_
          rw [hz1]
          simp (disch := first | omega | (simp only [List.length_cons, List.length_nil, List.length_map, List.length_drop]; omega)) only [stSl, stV, stR, List.length_map, List.getElem?_map, Option.map_some, hc2, dF hz3, hj1, wrap_i64, mst, evM, evSt, ↓evPre, ↓evPreW, evPost, evPostW, ← List.map_take, ← List.map_drop, ↓reduceIte, reduceCtorEq, Nat.reduceEqDiff, forall_const, implies_true, Nat.reduceAdd, Nat.reduceSub, Nat.reduceMul, Nat.reduceLT, Nat.reduceLeDiff, Int.reduceToNat, Int.reduceAdd, Int.reduceSub, Int.reduceNeg, Int.reduceMul, Int.reduceLT, Int.reduceLE, Int.reduceEq]
          exact hback j _ _ hlt' ⟨rfl, rfl, rfl, rfl, rfl, trivial⟩
        · refine (Get_AL S [] _ (doF M a).2 Q' C' y.t y.c).then ?_
          rw [hz1]
          simp (disch := first | omega | (simp only [List.length_cons, List.length_nil, List.length_map, List.length_drop]; omega)) only [stSl, stV, stR, List.length_map, List.getElem?_map, Option.map_some, hc2, dF hz3, hj1, wrap_i64, mst, evM, evSt, ↓evPre, ↓evPreW, evPost, evPostW, ← List.map_take, ← List.map_drop, ↓reduceIte, reduceCtorEq, Nat.reduceEqDiff, forall_const, implies_true, Nat.reduceAdd, Nat.reduceSub, Nat.reduceMul, Nat.reduceLT, Nat.reduceLeDiff, Int.reduceToNat, Int.reduceAdd, Int.reduceSub, Int.reduceNeg, Int.reduceMul, Int.reduceLT, Int.reduceLE, Int.reduceEq]
          exact hback j _ _ hlt' ⟨rfl, rfl, rfl, rfl, rfl, trivial⟩
    · have h7 : (((doF M a).2.N : Nat) : Int) = (M.N : Nat) + 1 := by rw [h6]; simp [recM]
      simp (disch := first | omega | (simp only [List.length_cons, List.length_nil, List.length_map, List.length_drop]; omega)) only [dT h5, mst, evM, evSt, ↓evPre, ↓evPreW, evPost, evPostW, ← List.map_take, ← List.map_drop, ↓reduceIte, reduceCtorEq, Nat.reduceEqDiff, forall_const, implies_true, Nat.reduceAdd, Nat.reduceSub, Nat.reduceMul, Nat.reduceLT, Nat.reduceLeDiff, Int.reduceToNat, Int.reduceAdd, Int.reduceSub, Int.reduceNeg, Int.reduceMul, Int.reduceLT, Int.reduceLE, Int.reduceEq]
      refine (Changes_AL S [] _ (doF M a).2 Q' C').then ?_
      simp (disch := first | omega | (simp only [List.length_cons, List.length_nil, List.length_map, List.length_drop]; omega)) only [dT h7, wrap_i64, mst, evM, evSt, ↓evPre, ↓evPreW, evPost, evPostW, ← List.map_take, ← List.map_drop, ↓reduceIte, reduceCtorEq, Nat.reduceEqDiff, forall_const, implies_true, Nat.reduceAdd, Nat.reduceSub, Nat.reduceMul, Nat.reduceLT, Nat.reduceLeDiff, Int.reduceToNat, Int.reduceAdd, Int.reduceSub, Int.reduceNeg, Int.reduceMul, Int.reduceLT, Int.reduceLE, Int.reduceEq]
      refine loopF (ι := Nat) (fun j => [(0, actSl l), (3, .ptr (S.length + 3) 0 0 0), (4, .int .i64 (k : Nat)), (5, stSl d), (10, .int .i64 (j : Nat))]) (fun _ => mst S [] (doF M a).2 Q' C') (fun j => j ≤ d.length) (fun j => d.length - j) (fun p _ => by rw [hσ, mst_len]; unfold mxN; simp) 0 (Nat.zero_le _) ?_ ?_
      · exact back_under ((mst_neat0 hn).fgt _) ⟨rfl, rfl, rfl, rfl, rfl, trivial⟩ (hund _)
      intro j hj
      cases hc2 : d[j]? with
      | none =>
        have hge : d.length ≤ j := List.getElem?_eq_none_iff.1 hc2
        have hlt : ¬ ((j : Int) < d.length) := by omega
        simp (disch := first | omega | (simp only [List.length_cons, List.length_nil, List.length_map, List.length_drop]; omega)) only [stSl, List.length_map, dF hlt, wrap_i64, hk1, evSt, ↓evPre, ↓evPreW, evPost, evPostW, ← List.map_take, ← List.map_drop, ↓reduceIte, reduceCtorEq, Nat.reduceEqDiff, forall_const, implies_true, Nat.reduceAdd, Nat.reduceSub, Nat.reduceMul, Nat.reduceLT, Nat.reduceLeDiff, Int.reduceToNat, Int.reduceAdd, Int.reduceSub, Int.reduceNeg, Int.reduceMul, Int.reduceLT, Int.reduceLE, Int.reduceEq]
        exact ⟨(k + 1, Q', C'), ⟨by simp only; omega, by rw [hnx]; exact hm'⟩, by simp only; omega, .inl ⟨⟨rfl, rfl, rfl, trivial⟩, by simp only [hnx]; rfl⟩⟩
      | some y =>
        have hlt' := (List.getElem?_eq_some_iff.1 hc2).1
        have hlt : (j : Int) < d.length := by omega
        have hj1 : (j : Int) + 1 = ((j + 1 : Nat) : Int) := by omega
        obtain ⟨z, hz1, hz2⟩ := hgs y (List.mem_of_getElem? hc2)
        have hz3 : ¬ z.v < y.v := by omega
        simp (disch := first | omega | (simp only [List.length_cons, List.length_nil, List.length_map, List.length_drop]; omega)) only [stSl, stR, List.length_map, List.getElem?_map, Option.map_some, hc2, dT hlt, mst, evM, evSt, ↓evPre, ↓evPreW, evPost, evPostW, ← List.map_take, ← List.map_drop, ↓reduceIte, reduceCtorEq, Nat.reduceEqDiff, forall_const, implies_true, Nat.reduceAdd, Nat.reduceSub, Nat.reduceMul, Nat.reduceLT, Nat.reduceLeDiff, Int.reduceToNat, Int.reduceAdd, Int.reduceSub, Int.reduceNeg, Int.reduceMul, Int.reduceLT, Int.reduceLE, Int.reduceEq]
        refine ⟨?_, ?_⟩
        · refine (Get_A S [] (doF M a).2 Q' C' y.t y.c).then ?_
          rw [hz1]
          simp (disch := first | omega | (simp only [List.length_cons, List.length_nil, List.length_map, List.length_drop]; omega)) only [stSl, stV, stR, List.length_map, List.getElem?_map, Option.map_some, hc2, dF hz3, hj1, wrap_i64, mst, evM, evSt, ↓evPre, ↓evPreW, evPost, evPostW, ← List.map_take, ← List.map_drop, ↓reduceIte, reduceCtorEq, Nat.reduceEqDiff, forall_const, implies_true, Nat.reduceAdd, Nat.reduceSub, Nat.reduceMul, Nat.reduceLT, Nat.reduceLeDiff, Int.reduceToNat, Int.reduceAdd, Int.reduceSub, Int.reduceNeg, Int.reduceMul, Int.reduceLT, Int.reduceLE, Int.reduceEq]
          exact hback j _ _ hlt' ⟨rfl, rfl, rfl, rfl, rfl, trivial⟩
        · refine (Get_AL S [] _ (doF M a).2 Q' C' y.t y.c).then ?_
          rw [hz1]
          simp (disch := first | omega | (simp only [List.length_cons, List.length_nil, List.length_map, List.length_drop]; omega)) only [stSl, stV, stR, List.length_map, List.getElem?_map, Option.map_some, hc2, dF hz3, hj1, wrap_i64, mst, evM, evSt, ↓evPre, ↓evPreW, evPost, evPostW, ← List.map_take, ← List.map_drop, ↓reduceIte, reduceCtorEq, Nat.reduceEqDiff, forall_const, implies_true, Nat.reduceAdd, Nat.reduceSub, Nat.reduceMul, Nat.reduceLT, Nat.reduceLeDiff, Int.reduceToNat, Int.reduceAdd, Int.reduceSub, Int.reduceNeg, Int.reduceMul, Int.reduceLT, Int.reduceLE, Int.reduceEq]
          exact hback j _ _ hlt' ⟨rfl, rfl, rfl, rfl, rfl, trivial⟩
end
end Go.Proofs.Ytdkcicbpcagonaa
