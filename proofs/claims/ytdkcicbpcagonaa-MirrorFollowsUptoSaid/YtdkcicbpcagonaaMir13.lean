/- The law of a mirror that follows. -/
import Derived.Test.YtdkcicbpcagonaaMirT
namespace Go.Proofs.Ytdkcicbpcagonaa
open Go Go.AL
set_option linter.unusedSimpArgs false
set_option linter.unusedVariables false

theorem doS_later (l : List Act) (a : Nat) : ∀ (k : Nat), a ≤ k → Later (doS Mi0 (l.take a)) (doS Mi0 (l.take k)) := by
  intro k hk
  induction k with
  | zero =>
    have : a = 0 := by omega
    subst this
    exact Later.refl (doS_W _ WF0)
  | succ k ih =>
    by_cases h : a = k + 1
    · subst h; exact Later.refl (doS_W _ WF0)
    · have ih := ih (by omega)
      cases hc : l[k]? with
      | none =>
        have : l.length ≤ k := List.getElem?_eq_none_iff.1 hc
        rw [List.take_of_length_le (show l.length ≤ k + 1 by omega)]
        rw [List.take_of_length_le this] at ih
        exact ih
      | some b =>
        rw [doS_next hc]
        exact ih.step (doS_W _ WF0) (Valid.doS _ Valid0) b

set_option maxRecDepth 100000 in
theorem law_follows (l : List Act) (cut : Int) (S : Store) (hl : l.length ≤ 2000000) (hv : ∀ a ∈ l, i64r a.x.v) (hcut : 0 ≤ cut) (hcut2 : cut ≤ 255) : CallA Try.prog 4 [actSl l, .int .u8 cut] S fun r S' => r = .bool true ∧ S' = S := by
  refine CallA.withNeat Try.func4 c4 fun hn => ?_
  refine CallA.fin Try.func4 c4 (Nat.le_of_ble_eq_true rfl) fun σ hσ => ?_
  by_cases h1 : l.length > 80
  · have h1' : (80 : Int) < l.length := by omega
    simp (disch := first | omega | (simp only [List.length_cons, List.length_nil, List.length_map, List.length_drop]; omega)) only [a4, actSl, List.length_map, dT h1', evSt, ↓evPre, ↓evPreW, evPost, evPostW, ← List.map_take, ← List.map_drop, ↓reduceIte, reduceCtorEq, Nat.reduceEqDiff, forall_const, implies_true, Nat.reduceAdd, Nat.reduceSub, Nat.reduceMul, Nat.reduceLT, Nat.reduceLeDiff, Int.reduceToNat, Int.reduceAdd, Int.reduceSub, Int.reduceNeg, Int.reduceMul, Int.reduceLT, Int.reduceLE, Int.reduceEq]
    refine (awake_A _).then ?_
    simp (disch := first | omega | (simp only [List.length_cons, List.length_nil, List.length_map, List.length_drop]; omega)) only [evSt, ↓evPre, ↓evPreW, evPost, evPostW, ← List.map_take, ← List.map_drop, ↓reduceIte, reduceCtorEq, Nat.reduceEqDiff, forall_const, implies_true, Nat.reduceAdd, Nat.reduceSub, Nat.reduceMul, Nat.reduceLT, Nat.reduceLeDiff, Int.reduceToNat, Int.reduceAdd, Int.reduceSub, Int.reduceNeg, Int.reduceMul, Int.reduceLT, Int.reduceLE, Int.reduceEq]
    exact ⟨_, S, hn.self, .imm rfl, Nat.le_refl _, rfl, rfl⟩
  have h1' : ¬ (80 : Int) < l.length := by omega
  simp (disch := first | omega | (simp only [List.length_cons, List.length_nil, List.length_map, List.length_drop]; omega)) only [a4, actSl, List.length_map, dF h1', evSt, ↓evPre, ↓evPreW, evPost, evPostW, ← List.map_take, ← List.map_drop, ↓reduceIte, reduceCtorEq, Nat.reduceEqDiff, forall_const, implies_true, Nat.reduceAdd, Nat.reduceSub, Nat.reduceMul, Nat.reduceLT, Nat.reduceLeDiff, Int.reduceToNat, Int.reduceAdd, Int.reduceSub, Int.reduceNeg, Int.reduceMul, Int.reduceLT, Int.reduceLE, Int.reduceEq]
  refine (New_A S).then2 ?_
  simp (disch := first | omega | (simp only [List.length_cons, List.length_nil, List.length_map, List.length_drop]; omega)) only [evSt, ↓evPre, ↓evPreW, evPost, evPostW, ← List.map_take, ← List.map_drop, ↓reduceIte, reduceCtorEq, Nat.reduceEqDiff, forall_const, implies_true, Nat.reduceAdd, Nat.reduceSub, Nat.reduceMul, Nat.reduceLT, Nat.reduceLeDiff, Int.reduceToNat, Int.reduceAdd, Int.reduceSub, Int.reduceNeg, Int.reduceMul, Int.reduceLT, Int.reduceLE, Int.reduceEq]
  refine (New2_A S _ _ _).then2 ?_
  have hrem : cut.tmod ((l.length : Int) + 1) = ((cut.toNat % (l.length + 1) : Nat) : Int) := by
    obtain ⟨n, rfl⟩ := Int.eq_ofNat_of_zero_le hcut
    rw [Int.tmod_eq_emod_of_nonneg (by omega)]
    simp
  have hat : cut.toNat % (l.length + 1) ≤ l.length := by have := Nat.mod_lt cut.toNat (show 0 < l.length + 1 by omega); omega
  generalize cut.toNat % (l.length + 1) = t at hrem hat
  have hd0 : ¬ (l.length : Int) + 1 = 0 := by omega
  simp (disch := first | omega | (simp only [List.length_cons, List.length_nil, List.length_map, List.length_drop]; omega)) only [two_ob1, two_ob2, actSl, List.length_map, wrap_i64, hrem, dF hd0, hd0, evSt, ↓evPre, ↓evPreW, evPost, evPostW, ← List.map_take, ← List.map_drop, ↓reduceIte, reduceCtorEq, Nat.reduceEqDiff, forall_const, implies_true, Nat.reduceAdd, Nat.reduceSub, Nat.reduceMul, Nat.reduceLT, Nat.reduceLeDiff, Int.reduceToNat, Int.reduceAdd, Int.reduceSub, Int.reduceNeg, Int.reduceMul, Int.reduceLT, Int.reduceLE, Int.reduceEq]
  refine loopA (ι := Nat × Qs × Cs × Qs × Cs) (fun p => [(0, actSl l), (5, .ptr (S.length + 3) 0 0 0), (6, .ptr (S.length + 7) 0 0 0), (7, .int .i64 (t : Nat)), (8, .int .i64 (p.1 : Nat))]) (fun p => two S (doS Mi0 (l.take p.1)) p.2.1 p.2.2.1 (doS Mi0 (l.take p.1)) p.2.2.2.1 p.2.2.2.2)
    (fun p => p.1 ≤ t ∧ MOk (doS Mi0 (l.take p.1)) p.2.1 p.2.2.1 ∧ MOk (doS Mi0 (l.take p.1)) p.2.2.2.1 p.2.2.2.2) (fun p => t - p.1) (0, [], [], [], []) ⟨Nat.zero_le _, MOk0, MOk0⟩ ?_ rfl ?_
  · simp only [actSl, ↓evPre, ↓evPreW, evPost, evPostW, ← List.map_take, ← List.map_drop, ↓reduceIte, reduceCtorEq, Nat.reduceEqDiff, forall_const, implies_true, Nat.reduceAdd, Nat.reduceSub, Nat.reduceMul, Nat.reduceLT, Nat.reduceLeDiff, Int.reduceToNat, Int.reduceAdd, Int.reduceSub, Int.reduceNeg, Int.reduceMul, Int.reduceLT, Int.reduceLE, Int.reduceEq]
  rintro ⟨k, Q, C, Q', C'⟩ ⟨hk, hm, hm'⟩
  simp only at hk hm hm' ⊢
  have hN := doS_k (l := l) (by omega) k
  have hV := doS_kv hv k
  by_cases hkt : k < t
  · have hlt : (k : Int) < (t : Nat) := by omega
    obtain ⟨a, hc⟩ : ∃ a, l[k]? = some a := ⟨l[k]'(by omega), List.getElem?_eq_getElem _⟩
    have hnx := doS_next hc
    generalize doS Mi0 (l.take k) = M at hm hm' hN hV hnx ⊢
    simp (disch := first | omega | (simp only [List.length_cons, List.length_nil, List.length_map, List.length_drop]; omega)) only [actSl, List.length_map, List.getElem?_map, Option.map_some, hc, dT hlt, evSt, ↓evPre, ↓evPreW, evPost, evPostW, ← List.map_take, ← List.map_drop, ↓reduceIte, reduceCtorEq, Nat.reduceEqDiff, forall_const, implies_true, Nat.reduceAdd, Nat.reduceSub, Nat.reduceMul, Nat.reduceLT, Nat.reduceLeDiff, Int.reduceToNat, Int.reduceAdd, Int.reduceSub, Int.reduceNeg, Int.reduceMul, Int.reduceLT, Int.reduceLE, Int.reduceEq]
    refine (do1_A S M Q C M Q' C' hm (by omega) hV a).mono ?_
    rintro r S' ⟨rfl, Q1, C1, hm1, hS'⟩
    subst hS'
    simp (disch := first | omega | (simp only [List.length_cons, List.length_nil, List.length_map, List.length_drop]; omega)) only [actSl, List.length_map, List.getElem?_map, Option.map_some, hc, evSt, ↓evPre, ↓evPreW, evPost, evPostW, ← List.map_take, ← List.map_drop, ↓reduceIte, reduceCtorEq, Nat.reduceEqDiff, forall_const, implies_true, Nat.reduceAdd, Nat.reduceSub, Nat.reduceMul, Nat.reduceLT, Nat.reduceLeDiff, Int.reduceToNat, Int.reduceAdd, Int.reduceSub, Int.reduceNeg, Int.reduceMul, Int.reduceLT, Int.reduceLE, Int.reduceEq]
    refine (do2_A S _ Q1 C1 M Q' C' hm' (by omega) hV a).mono ?_
    rintro r S' ⟨rfl, Q2, C2, hm2, hS'⟩
    subst hS'
    simp (disch := first | omega | (simp only [List.length_cons, List.length_nil, List.length_map, List.length_drop]; omega)) only [wrap_i64, evSt, ↓evPre, ↓evPreW, evPost, evPostW, ← List.map_take, ← List.map_drop, ↓reduceIte, reduceCtorEq, Nat.reduceEqDiff, forall_const, implies_true, Nat.reduceAdd, Nat.reduceSub, Nat.reduceMul, Nat.reduceLT, Nat.reduceLeDiff, Int.reduceToNat, Int.reduceAdd, Int.reduceSub, Int.reduceNeg, Int.reduceMul, Int.reduceLT, Int.reduceLE, Int.reduceEq]
    exact ⟨(k + 1, Q1, C1, Q2, C2), ⟨by simp only; omega, by rw [hnx]; exact hm1, by rw [hnx]; exact hm2⟩, by simp only; omega, by simp only [hnx, actSl, ↓evPre, ↓evPreW, evPost, evPostW, ← List.map_take, ← List.map_drop, ↓reduceIte, reduceCtorEq, Nat.reduceEqDiff, forall_const, implies_true, Nat.reduceAdd, Nat.reduceSub, Nat.reduceMul, Nat.reduceLT, Nat.reduceLeDiff, Int.reduceToNat, Int.reduceAdd, Int.reduceSub, Int.reduceNeg, Int.reduceMul, Int.reduceLT, Int.reduceLE, Int.reduceEq]; omega⟩
  · have hkt' : k = t := by omega
    subst hkt'
    have hlt : ¬ (k : Int) < (k : Nat) := by omega
    simp (disch := first | omega | (simp only [List.length_cons, List.length_nil, List.length_map, List.length_drop]; omega)) only [actSl, List.length_map, dF hlt, evSt, ↓evPre, ↓evPreW, evPost, evPostW, ← List.map_take, ← List.map_drop, ↓reduceIte, reduceCtorEq, Nat.reduceEqDiff, forall_const, implies_true, Nat.reduceAdd, Nat.reduceSub, Nat.reduceMul, Nat.reduceLT, Nat.reduceLeDiff, Int.reduceToNat, Int.reduceAdd, Int.reduceSub, Int.reduceNeg, Int.reduceMul, Int.reduceLT, Int.reduceLE, Int.reduceEq]
    have hlater := doS_later l k
    generalize hM1 : doS Mi0 (l.take k) = M1 at hm hm' hN hV hlater ⊢
    refine (changes1_A S M1 Q C M1 Q' C').then ?_
    simp (disch := first | omega | (simp only [List.length_cons, List.length_nil, List.length_map, List.length_drop]; omega)) only [actSl, evSt, ↓evPre, ↓evPreW, evPost, evPostW, ← List.map_take, ← List.map_drop, ↓reduceIte, reduceCtorEq, Nat.reduceEqDiff, forall_const, implies_true, Nat.reduceAdd, Nat.reduceSub, Nat.reduceMul, Nat.reduceLT, Nat.reduceLeDiff, Int.reduceToNat, Int.reduceAdd, Int.reduceSub, Int.reduceNeg, Int.reduceMul, Int.reduceLT, Int.reduceLE, Int.reduceEq]
    refine loopA (ι := Nat × Qs × Cs) (fun p => [(0, actSl l), (5, .ptr (S.length + 3) 0 0 0), (6, .ptr (S.length + 7) 0 0 0), (9, .int .i64 (M1.N : Nat)), (10, .int .i64 (p.1 : Nat))]) (fun p => two S (doS Mi0 (l.take p.1)) p.2.1 p.2.2 M1 Q' C')
      (fun p => k ≤ p.1 ∧ p.1 ≤ l.length ∧ MOk (doS Mi0 (l.take p.1)) p.2.1 p.2.2) (fun p => l.length - p.1) (k, Q, C) ⟨Nat.le_refl _, hat, by rw [hM1]; exact hm⟩ ?_ (by rw [hM1]) ?_
    · simp only [actSl, ↓evPre, ↓evPreW, evPost, evPostW, ← List.map_take, ← List.map_drop, ↓reduceIte, reduceCtorEq, Nat.reduceEqDiff, forall_const, implies_true, Nat.reduceAdd, Nat.reduceSub, Nat.reduceMul, Nat.reduceLT, Nat.reduceLeDiff, Int.reduceToNat, Int.reduceAdd, Int.reduceSub, Int.reduceNeg, Int.reduceMul, Int.reduceLT, Int.reduceLE, Int.reduceEq]
    rintro ⟨j, Q, C⟩ ⟨hkj, hj, hm⟩
    simp only at hkj hj hm ⊢
    have hN2 := doS_k (l := l) (by omega) j
    have hV2 := doS_kv hv j
    cases hc : l[j]? with
    | some a =>
      have hlt' := (List.getElem?_eq_some_iff.1 hc).1
      have hlt : (j : Int) < l.length := by omega
      have hnx := doS_next hc
      generalize doS Mi0 (l.take j) = M at hm hN2 hV2 hnx ⊢
      simp (disch := first | omega | (simp only [List.length_cons, List.length_nil, List.length_map, List.length_drop]; omega)) only [actSl, List.length_map, List.getElem?_map, Option.map_some, hc, dT hlt, evSt, ↓evPre, ↓evPreW, evPost, evPostW, ← List.map_take, ← List.map_drop, ↓reduceIte, reduceCtorEq, Nat.reduceEqDiff, forall_const, implies_true, Nat.reduceAdd, Nat.reduceSub, Nat.reduceMul, Nat.reduceLT, Nat.reduceLeDiff, Int.reduceToNat, Int.reduceAdd, Int.reduceSub, Int.reduceNeg, Int.reduceMul, Int.reduceLT, Int.reduceLE, Int.reduceEq]
      refine (do1_A S M Q C M1 Q' C' hm (by omega) hV2 a).mono ?_
      rintro r S' ⟨rfl, Q1, C1, hm1, hS'⟩
      subst hS'
      simp (disch := first | omega | (simp only [List.length_cons, List.length_nil, List.length_map, List.length_drop]; omega)) only [wrap_i64, evSt, ↓evPre, ↓evPreW, evPost, evPostW, ← List.map_take, ← List.map_drop, ↓reduceIte, reduceCtorEq, Nat.reduceEqDiff, forall_const, implies_true, Nat.reduceAdd, Nat.reduceSub, Nat.reduceMul, Nat.reduceLT, Nat.reduceLeDiff, Int.reduceToNat, Int.reduceAdd, Int.reduceSub, Int.reduceNeg, Int.reduceMul, Int.reduceLT, Int.reduceLE, Int.reduceEq]
      exact ⟨(j + 1, Q1, C1), ⟨by simp only; omega, by simp only; omega, by rw [hnx]; exact hm1⟩, by simp only; omega, by simp only [hnx, actSl, ↓evPre, ↓evPreW, evPost, evPostW, ← List.map_take, ← List.map_drop, ↓reduceIte, reduceCtorEq, Nat.reduceEqDiff, forall_const, implies_true, Nat.reduceAdd, Nat.reduceSub, Nat.reduceMul, Nat.reduceLT, Nat.reduceLeDiff, Int.reduceToNat, Int.reduceAdd, Int.reduceSub, Int.reduceNeg, Int.reduceMul, Int.reduceLT, Int.reduceLE, Int.reduceEq]; omega⟩
    | none =>
      have hge : l.length ≤ j := List.getElem?_eq_none_iff.1 hc
      have hlt : ¬ ((j : Int) < l.length) := by omega
      have hlater := hlater j hkj
      generalize doS Mi0 (l.take j) = M2 at hm hN2 hV2 hlater ⊢
      simp (disch := first | omega | (simp only [List.length_cons, List.length_nil, List.length_map, List.length_drop]; omega)) only [actSl, List.length_map, dF hlt, evSt, ↓evPre, ↓evPreW, evPost, evPostW, ← List.map_take, ← List.map_drop, ↓reduceIte, reduceCtorEq, Nat.reduceEqDiff, forall_const, implies_true, Nat.reduceAdd, Nat.reduceSub, Nat.reduceMul, Nat.reduceLT, Nat.reduceLeDiff, Int.reduceToNat, Int.reduceAdd, Int.reduceSub, Int.reduceNeg, Int.reduceMul, Int.reduceLT, Int.reduceLE, Int.reduceEq]
      refine (since1_A S M2 Q C M1 Q' C' hm (by omega) (M1.N : Nat)).mono ?_
      rintro r S' ⟨rfl, Q1, C1, hm1, hS'⟩
      subst hS'
      have hcut : cutN M2 (M1.N : Nat) = M1.N := by have := hlater.num; unfold cutN; omega
      rw [hcut]
      have hfd := hlater.feeds hm.wf
      have hll := puts_len (M := M2) (c := M1.N)
      generalize sinceL M2 M1.N = L at hfd hll ⊢
      simp (disch := first | omega | (simp only [List.length_cons, List.length_nil, List.length_map, List.length_drop]; omega)) only [stSl, evSt, ↓evPre, ↓evPreW, evPost, evPostW, ← List.map_take, ← List.map_drop, ↓reduceIte, reduceCtorEq, Nat.reduceEqDiff, forall_const, implies_true, Nat.reduceAdd, Nat.reduceSub, Nat.reduceMul, Nat.reduceLT, Nat.reduceLeDiff, Int.reduceToNat, Int.reduceAdd, Int.reduceSub, Int.reduceNeg, Int.reduceMul, Int.reduceLT, Int.reduceLE, Int.reduceEq]
      refine loopA (ι := Nat × Qs × Cs) (fun p => [(5, .ptr (S.length + 3) 0 0 0), (6, .ptr (S.length + 7) 0 0 0), (11, stSl L), (12, .int .i64 (p.1 : Nat))]) (fun p => two S M2 Q1 C1 (puts M1 (L.take p.1)) p.2.1 p.2.2)
        (fun p => p.1 ≤ L.length ∧ MOk (puts M1 (L.take p.1)) p.2.1 p.2.2) (fun p => L.length - p.1) (0, Q', C') ⟨Nat.zero_le _, hm'⟩ ?_ rfl ?_
      · simp only [stSl, ↓evPre, ↓evPreW, evPost, evPostW, ← List.map_take, ← List.map_drop, ↓reduceIte, reduceCtorEq, Nat.reduceEqDiff, forall_const, implies_true, Nat.reduceAdd, Nat.reduceSub, Nat.reduceMul, Nat.reduceLT, Nat.reduceLeDiff, Int.reduceToNat, Int.reduceAdd, Int.reduceSub, Int.reduceNeg, Int.reduceMul, Int.reduceLT, Int.reduceLE, Int.reduceEq]
      rintro ⟨i, Q', C'⟩ ⟨hi, hm'⟩
      simp only at hi hm' ⊢
      have hpN := puts_N (L.take i) M1
      simp only [List.length_take] at hpN
      cases hc : L[i]? with
      | some x =>
        have hlt' := (List.getElem?_eq_some_iff.1 hc).1
        have hlt : (i : Int) < L.length := by omega
        have hst := hfd.step hc
        simp (disch := first | omega | (simp only [List.length_cons, List.length_nil, List.length_map, List.length_drop]; omega)) only [stSl, stR, List.length_map, List.getElem?_map, Option.map_some, hc, dT hlt, evSt, ↓evPre, ↓evPreW, evPost, evPostW, ← List.map_take, ← List.map_drop, ↓reduceIte, reduceCtorEq, Nat.reduceEqDiff, forall_const, implies_true, Nat.reduceAdd, Nat.reduceSub, Nat.reduceMul, Nat.reduceLT, Nat.reduceLeDiff, Int.reduceToNat, Int.reduceAdd, Int.reduceSub, Int.reduceNeg, Int.reduceMul, Int.reduceLT, Int.reduceLE, Int.reduceEq]
        refine (put2_A S M2 Q1 C1 _ Q' C' hm' (by omega) x).mono ?_
        rintro r S' ⟨rfl, Q2, C2, hm2, hS'⟩
        subst hS'
        rw [hst] at hm2 ⊢
        simp (disch := first | omega | (simp only [List.length_cons, List.length_nil, List.length_map, List.length_drop]; omega)) only [wrap_i64, evSt, ↓evPre, ↓evPreW, evPost, evPostW, ← List.map_take, ← List.map_drop, ↓reduceIte, reduceCtorEq, Nat.reduceEqDiff, forall_const, implies_true, Nat.reduceAdd, Nat.reduceSub, Nat.reduceMul, Nat.reduceLT, Nat.reduceLeDiff, Int.reduceToNat, Int.reduceAdd, Int.reduceSub, Int.reduceNeg, Int.reduceMul, Int.reduceLT, Int.reduceLE, Int.reduceEq]
        exact ⟨(i + 1, Q2, C2), ⟨by simp only; omega, hm2⟩, by simp only; omega, by simp only [stSl, ↓evPre, ↓evPreW, evPost, evPostW, ← List.map_take, ← List.map_drop, ↓reduceIte, reduceCtorEq, Nat.reduceEqDiff, forall_const, implies_true, Nat.reduceAdd, Nat.reduceSub, Nat.reduceMul, Nat.reduceLT, Nat.reduceLeDiff, Int.reduceToNat, Int.reduceAdd, Int.reduceSub, Int.reduceNeg, Int.reduceMul, Int.reduceLT, Int.reduceLE, Int.reduceEq]; omega⟩
      | none =>
        have hge : L.length ≤ i := List.getElem?_eq_none_iff.1 hc
        have hlt : ¬ ((i : Int) < L.length) := by omega
        rw [List.take_of_length_le hge] at hm' hpN ⊢
        simp (disch := first | omega | (simp only [List.length_cons, List.length_nil, List.length_map, List.length_drop]; omega)) only [stSl, List.length_map, dF hlt, evSt, ↓evPre, ↓evPreW, evPost, evPostW, ← List.map_take, ← List.map_drop, ↓reduceIte, reduceCtorEq, Nat.reduceEqDiff, forall_const, implies_true, Nat.reduceAdd, Nat.reduceSub, Nat.reduceMul, Nat.reduceLT, Nat.reduceLeDiff, Int.reduceToNat, Int.reduceAdd, Int.reduceSub, Int.reduceNeg, Int.reduceMul, Int.reduceLT, Int.reduceLE, Int.reduceEq]
        refine (all1_A S M2 Q1 C1 _ Q' C' hm1 (by omega)).mono ?_
        rintro r S' ⟨⟨d, hd, rfl⟩, rfl⟩
        simp (disch := first | omega | (simp only [List.length_cons, List.length_nil, List.length_map, List.length_drop]; omega)) only [evSt, ↓evPre, ↓evPreW, evPost, evPostW, ← List.map_take, ← List.map_drop, ↓reduceIte, reduceCtorEq, Nat.reduceEqDiff, forall_const, implies_true, Nat.reduceAdd, Nat.reduceSub, Nat.reduceMul, Nat.reduceLT, Nat.reduceLeDiff, Int.reduceToNat, Int.reduceAdd, Int.reduceSub, Int.reduceNeg, Int.reduceMul, Int.reduceLT, Int.reduceLE, Int.reduceEq]
        refine (all2_A S M2 Q1 C1 _ Q' C' hm' (by omega)).mono ?_
        rintro r S' ⟨⟨e, he, rfl⟩, rfl⟩
        have hde : d = e := isAll_eq hd he fun w => (hfd.fin w).symm
        subst hde
        have hdl : d.length ≤ 1000 := by have h1 := hd.2.length_eq; have := hm1.wf.len; simp only [List.length_map] at h1; omega
        simp (disch := first | omega | (simp only [List.length_cons, List.length_nil, List.length_map, List.length_drop]; omega)) only [evSt, ↓evPre, ↓evPreW, evPost, evPostW, ← List.map_take, ← List.map_drop, ↓reduceIte, reduceCtorEq, Nat.reduceEqDiff, forall_const, implies_true, Nat.reduceAdd, Nat.reduceSub, Nat.reduceMul, Nat.reduceLT, Nat.reduceLeDiff, Int.reduceToNat, Int.reduceAdd, Int.reduceSub, Int.reduceNeg, Int.reduceMul, Int.reduceLT, Int.reduceLE, Int.reduceEq]
        refine (sameL_A d d _ (by omega)).then ?_
        simp (disch := first | omega | (simp only [List.length_cons, List.length_nil, List.length_map, List.length_drop]; omega)) only [evSt, ↓evPre, ↓evPreW, evPost, evPostW, ← List.map_take, ← List.map_drop, ↓reduceIte, reduceCtorEq, Nat.reduceEqDiff, forall_const, implies_true, Nat.reduceAdd, Nat.reduceSub, Nat.reduceMul, Nat.reduceLT, Nat.reduceLeDiff, Int.reduceToNat, Int.reduceAdd, Int.reduceSub, Int.reduceNeg, Int.reduceMul, Int.reduceLT, Int.reduceLE, Int.reduceEq]
        refine (awake_A _).then ?_
        simp (disch := first | omega | (simp only [List.length_cons, List.length_nil, List.length_map, List.length_drop]; omega)) only [evSt, ↓evPre, ↓evPreW, evPost, evPostW, ← List.map_take, ← List.map_drop, ↓reduceIte, reduceCtorEq, Nat.reduceEqDiff, forall_const, implies_true, Nat.reduceAdd, Nat.reduceSub, Nat.reduceMul, Nat.reduceLT, Nat.reduceLeDiff, Int.reduceToNat, Int.reduceAdd, Int.reduceSub, Int.reduceNeg, Int.reduceMul, Int.reduceLT, Int.reduceLE, Int.reduceEq]
        have := two_fgt (T := []) (M := M2) (Q := Q1) (C := C1) (M' := puts M1 L) (Q' := Q') (C' := C') hn
        rw [List.append_nil] at this
        exact ⟨_, S, this, .imm rfl, Nat.le_refl _, rfl, rfl⟩
end Go.Proofs.Ytdkcicbpcagonaa
