/- The law of calls: the answers are the reference's (printed by gen20.py). -/
import Derived.Test.YtdkcicbpcagonaaRef4
namespace Go.Proofs.Ytdkcicbpcagonaa
open Go Go.AL
set_option linter.unusedSimpArgs false
set_option linter.unusedVariables false

set_option maxRecDepth 100000 in
theorem law_acts (l : List Act) (c : Int) (S : Store) (hl : l.length ≤ 2000000) (hv : ∀ a ∈ l, i64r a.x.v) : CallA Try.prog 3 [actSl l, .int .i64 c] S fun r S' => r = .bool true ∧ S' = S := by
  refine CallA.withNeat Try.func3 c3 fun hn => ?_
  refine CallA.fin Try.func3 c3 (Nat.le_of_ble_eq_true rfl) fun σ hσ => ?_
  by_cases h1 : l.length > 80
  · have h1' : (80 : Int) < l.length := by omega
    simp (disch := first | omega | (simp only [List.length_cons, List.length_nil, List.length_map, List.length_drop]; omega)) only [a3, actSl, List.length_map, dT h1', evSt, ↓evPre, ↓evPreW, evPost, evPostW, ← List.map_take, ← List.map_drop, ↓reduceIte, reduceCtorEq, Nat.reduceEqDiff, forall_const, implies_true, Nat.reduceAdd, Nat.reduceSub, Nat.reduceMul, Nat.reduceLT, Nat.reduceLeDiff, Int.reduceToNat, Int.reduceAdd, Int.reduceSub, Int.reduceNeg, Int.reduceMul, Int.reduceLT, Int.reduceLE, Int.reduceEq]
    refine (awake_A _).then ?_
    simp (disch := first | omega | (simp only [List.length_cons, List.length_nil, List.length_map, List.length_drop]; omega)) only [evSt, ↓evPre, ↓evPreW, evPost, evPostW, ← List.map_take, ← List.map_drop, ↓reduceIte, reduceCtorEq, Nat.reduceEqDiff, forall_const, implies_true, Nat.reduceAdd, Nat.reduceSub, Nat.reduceMul, Nat.reduceLT, Nat.reduceLeDiff, Int.reduceToNat, Int.reduceAdd, Int.reduceSub, Int.reduceNeg, Int.reduceMul, Int.reduceLT, Int.reduceLE, Int.reduceEq]
    exact ⟨_, S, hn.self, .imm rfl, Nat.le_refl _, rfl, rfl⟩
  have h1' : ¬ (80 : Int) < l.length := by omega
  simp (disch := first | omega | (simp only [List.length_cons, List.length_nil, List.length_map, List.length_drop]; omega)) only [a3, actSl, List.length_map, dF h1', evSt, ↓evPre, ↓evPreW, evPost, evPostW, ← List.map_take, ← List.map_drop, ↓reduceIte, reduceCtorEq, Nat.reduceEqDiff, forall_const, implies_true, Nat.reduceAdd, Nat.reduceSub, Nat.reduceMul, Nat.reduceLT, Nat.reduceLeDiff, Int.reduceToNat, Int.reduceAdd, Int.reduceSub, Int.reduceNeg, Int.reduceMul, Int.reduceLT, Int.reduceLE, Int.reduceEq]
  refine (New_A S).then2 ?_
  simp (disch := first | omega | (simp only [List.length_cons, List.length_nil, List.length_map, List.length_drop]; omega)) only [evSt, ↓evPre, ↓evPreW, evPost, evPostW, ← List.map_take, ← List.map_drop, ↓reduceIte, reduceCtorEq, Nat.reduceEqDiff, forall_const, implies_true, Nat.reduceAdd, Nat.reduceSub, Nat.reduceMul, Nat.reduceLT, Nat.reduceLeDiff, Int.reduceToNat, Int.reduceAdd, Int.reduceSub, Int.reduceNeg, Int.reduceMul, Int.reduceLT, Int.reduceLE, Int.reduceEq]
  refine (NewRD_A S _ _ _).then2 ?_
  simp (disch := first | omega | (simp only [List.length_cons, List.length_nil, List.length_map, List.length_drop]; omega)) only [evD, evSt, ↓evPre, ↓evPreW, evPost, evPostW, ← List.map_take, ← List.map_drop, ↓reduceIte, reduceCtorEq, Nat.reduceEqDiff, forall_const, implies_true, Nat.reduceAdd, Nat.reduceSub, Nat.reduceMul, Nat.reduceLT, Nat.reduceLeDiff, Int.reduceToNat, Int.reduceAdd, Int.reduceSub, Int.reduceNeg, Int.reduceMul, Int.reduceLT, Int.reduceLE, Int.reduceEq]
  refine loopF (ι := Nat × Qs × Cs × Nat) (fun p => [(0, actSl l), (1, .int .i64 c), (5, .ptr (S.length + 3) 0 0 0), (6, .ptr (S.length + 4) 0 0 0), (7, .int .i64 (p.1 : Nat))]) (fun p => duo S (doS Mi0 (l.take p.1)) p.2.1 p.2.2.1 p.2.2.2 (doS Mi0 (l.take p.1)))
    (fun p => p.1 ≤ l.length ∧ MOk (doS Mi0 (l.take p.1)) p.2.1 p.2.2.1) (fun p => l.length - p.1) (fun p _ => by rw [hσ, du_len]; unfold duN; omega) (0, [], [], 0) ⟨Nat.zero_le _, MOk0⟩ (.inl ⟨?_, rfl⟩) ?_
  · simp only [actSl, ↓evPre, ↓evPreW, evPost, evPostW, ← List.map_take, ← List.map_drop, ↓reduceIte, reduceCtorEq, Nat.reduceEqDiff, forall_const, implies_true, Nat.reduceAdd, Nat.reduceSub, Nat.reduceMul, Nat.reduceLT, Nat.reduceLeDiff, Int.reduceToNat, Int.reduceAdd, Int.reduceSub, Int.reduceNeg, Int.reduceMul, Int.reduceLT, Int.reduceLE, Int.reduceEq]
  rintro ⟨k, Q, C, v⟩ ⟨hk, hm⟩
  simp only at hk hm ⊢
  have hN := doS_k (l := l) (by omega) k
  have hV := doS_kv hv k
  cases hc : l[k]? with
  | none =>
    have hge : l.length ≤ k := List.getElem?_eq_none_iff.1 hc
    have hlt : ¬ ((k : Int) < l.length) := by omega
    generalize doS Mi0 (l.take k) = M at hm hN hV ⊢
    have hnil : ∀ Q C, duo S M Q C v M = duo S M Q C v M ++ [] := fun Q C => (List.append_nil _).symm
    have hk1 : True := trivial
    simp (disch := first | omega | (simp only [List.length_cons, List.length_nil, List.length_map, List.length_drop]; omega)) only [actSl, List.length_map, dF hlt, evSt, ↓evPre, ↓evPreW, evPost, evPostW, ← List.map_take, ← List.map_drop, ↓reduceIte, reduceCtorEq, Nat.reduceEqDiff, forall_const, implies_true, Nat.reduceAdd, Nat.reduceSub, Nat.reduceMul, Nat.reduceLT, Nat.reduceLeDiff, Int.reduceToNat, Int.reduceAdd, Int.reduceSub, Int.reduceNeg, Int.reduceMul, Int.reduceLT, Int.reduceLE, Int.reduceEq]
    rw [hnil]
    refine (allD_A S [] M Q C v M hm (by omega)).mono ?_
    rintro r S' ⟨⟨d, hd, rfl⟩, rfl⟩
    have hda : allF (M.R.map (·.1)) = d := isAll_eq (allF_isAll hm.wf) hd fun w => rfl
    have hdl : d.length ≤ 1000 := by have h1 := hd.2.length_eq; have := hm.wf.len; simp only [List.length_map] at h1; omega
    simp (disch := first | omega | (simp only [List.length_cons, List.length_nil, List.length_map, List.length_drop]; omega)) only [evSt, ↓evPre, ↓evPreW, evPost, evPostW, ← List.map_take, ← List.map_drop, ↓reduceIte, reduceCtorEq, Nat.reduceEqDiff, forall_const, implies_true, Nat.reduceAdd, Nat.reduceSub, Nat.reduceMul, Nat.reduceLT, Nat.reduceLeDiff, Int.reduceToNat, Int.reduceAdd, Int.reduceSub, Int.reduceNeg, Int.reduceMul, Int.reduceLT, Int.reduceLE, Int.reduceEq]
    rw [hnil]
    refine (allRD_A S [] M Q C v M (by have := hm.wf.len; omega)).then ?_
    rw [hda]
    simp (disch := first | omega | (simp only [List.length_cons, List.length_nil, List.length_map, List.length_drop]; omega)) only [evSt, ↓evPre, ↓evPreW, evPost, evPostW, ← List.map_take, ← List.map_drop, ↓reduceIte, reduceCtorEq, Nat.reduceEqDiff, forall_const, implies_true, Nat.reduceAdd, Nat.reduceSub, Nat.reduceMul, Nat.reduceLT, Nat.reduceLeDiff, Int.reduceToNat, Int.reduceAdd, Int.reduceSub, Int.reduceNeg, Int.reduceMul, Int.reduceLT, Int.reduceLE, Int.reduceEq]
    refine (sameL_A d d _ (by omega)).then ?_
    simp (disch := first | omega | (simp only [List.length_cons, List.length_nil, List.length_map, List.length_drop]; omega)) only [evSt, ↓evPre, ↓evPreW, evPost, evPostW, ← List.map_take, ← List.map_drop, ↓reduceIte, reduceCtorEq, Nat.reduceEqDiff, forall_const, implies_true, Nat.reduceAdd, Nat.reduceSub, Nat.reduceMul, Nat.reduceLT, Nat.reduceLeDiff, Int.reduceToNat, Int.reduceAdd, Int.reduceSub, Int.reduceNeg, Int.reduceMul, Int.reduceLT, Int.reduceLE, Int.reduceEq]
    rw [hnil]
    refine (sinD_A S [] M Q C v M hm (by omega) c).mono ?_
    rintro r S' ⟨rfl, Q2, C2, hm2, hS'⟩
    subst hS'
    simp (disch := first | omega | (simp only [List.length_cons, List.length_nil, List.length_map, List.length_drop]; omega)) only [evSt, ↓evPre, ↓evPreW, evPost, evPostW, ← List.map_take, ← List.map_drop, ↓reduceIte, reduceCtorEq, Nat.reduceEqDiff, forall_const, implies_true, Nat.reduceAdd, Nat.reduceSub, Nat.reduceMul, Nat.reduceLT, Nat.reduceLeDiff, Int.reduceToNat, Int.reduceAdd, Int.reduceSub, Int.reduceNeg, Int.reduceMul, Int.reduceLT, Int.reduceLE, Int.reduceEq]
    rw [hnil]
    refine (sinRD_A S [] M Q2 C2 v M hm2.wf (by omega) c).then ?_
    simp (disch := first | omega | (simp only [List.length_cons, List.length_nil, List.length_map, List.length_drop]; omega)) only [evSt, ↓evPre, ↓evPreW, evPost, evPostW, ← List.map_take, ← List.map_drop, ↓reduceIte, reduceCtorEq, Nat.reduceEqDiff, forall_const, implies_true, Nat.reduceAdd, Nat.reduceSub, Nat.reduceMul, Nat.reduceLT, Nat.reduceLeDiff, Int.reduceToNat, Int.reduceAdd, Int.reduceSub, Int.reduceNeg, Int.reduceMul, Int.reduceLT, Int.reduceLE, Int.reduceEq]
    have hsl : (sinceL M (cutN M c)).length ≤ 1000000 := by have := puts_len (M := M) (c := cutN M c); omega
    refine (sameL_A _ _ _ hsl).then ?_
    simp (disch := first | omega | (simp only [List.length_cons, List.length_nil, List.length_map, List.length_drop]; omega)) only [evSt, ↓evPre, ↓evPreW, evPost, evPostW, ← List.map_take, ← List.map_drop, ↓reduceIte, reduceCtorEq, Nat.reduceEqDiff, forall_const, implies_true, Nat.reduceAdd, Nat.reduceSub, Nat.reduceMul, Nat.reduceLT, Nat.reduceLeDiff, Int.reduceToNat, Int.reduceAdd, Int.reduceSub, Int.reduceNeg, Int.reduceMul, Int.reduceLT, Int.reduceLE, Int.reduceEq]
    refine (awake_A _).then ?_
    simp (disch := first | omega | (simp only [List.length_cons, List.length_nil, List.length_map, List.length_drop]; omega)) only [evSt, ↓evPre, ↓evPreW, evPost, evPostW, ← List.map_take, ← List.map_drop, ↓reduceIte, reduceCtorEq, Nat.reduceEqDiff, forall_const, implies_true, Nat.reduceAdd, Nat.reduceSub, Nat.reduceMul, Nat.reduceLT, Nat.reduceLeDiff, Int.reduceToNat, Int.reduceAdd, Int.reduceSub, Int.reduceNeg, Int.reduceMul, Int.reduceLT, Int.reduceLE, Int.reduceEq]
    have := duo_fgt (L := []) (M := M) (Q := Q2) (C := C2) (v := v) (K := M) hn
    rw [List.append_nil] at this
    exact ⟨_, S, this, .imm rfl, Nat.le_refl _, rfl, rfl⟩
  | some a =>
    have hlt' := (List.getElem?_eq_some_iff.1 hc).1
    have hlt : (k : Int) < l.length := by omega
    have hnx := doS_next hc
    have hV1 := doS_kv hv (k + 1)
    rw [hnx] at hV1
    have hN1 := doF_N (doS Mi0 (l.take k)) a
    have hN2 := doS_k (l := l) (by omega) (k + 1)
    rw [hnx] at hN2
    generalize doS Mi0 (l.take k) = M at hm hN hV hnx hN1 hN2 hV1 ⊢
    have hRl := hm.wf.len
    have hk1 : (k : Int) + 1 = ((k + 1 : Nat) : Int) := by omega
    have hback : ∀ (E : Env) (T : Store) (Q : Qs) (C : Cs) (v : Nat), MOk (doF M a).2 Q C → sub [(0, actSl l), (1, .int .i64 c), (5, .ptr (S.length + 3) 0 0 0), (6, .ptr (S.length + 4) 0 0 0), (7, .int .i64 ((k + 1 : Nat) : Int))] E →
        ∃ i' : Nat × Qs × Cs × Nat, (i'.1 ≤ l.length ∧ MOk (doS Mi0 (l.take i'.1)) i'.2.1 i'.2.2.1) ∧ l.length - i'.1 < l.length - k ∧
          Back [(0, actSl l), (1, .int .i64 c), (5, .ptr (S.length + 3) 0 0 0), (6, .ptr (S.length + 4) 0 0 0), (7, .int .i64 (i'.1 : Nat))] (duo S (doS Mi0 (l.take i'.1)) i'.2.1 i'.2.2.1 i'.2.2.2 (doS Mi0 (l.take i'.1))) E (duo S (doF M a).2 Q C v (doF M a).2 ++ T) := fun E T Q C v hm hE => by
      refine ⟨(k + 1, Q, C, v), ⟨by simp only; omega, by rw [hnx]; exact hm⟩, by simp only; omega, ?_⟩
      simp only [hnx]
      refine back_under ((duo_neat hn).fgt _) hE ?_
      have e1 : S.length + 3 < duN S := by unfold duN; omega
      have e2 : S.length + 4 < duN S := by unfold duN; omega
      simp [du_len, V.under, actSl, e1, e2]
    simp (disch := first | omega | (simp only [List.length_cons, List.length_nil, List.length_map, List.length_drop]; omega)) only [actSl, List.length_map, List.getElem?_map, Option.map_some, hc, dT hlt, evSt, ↓evPre, ↓evPreW, evPost, evPostW, ← List.map_take, ← List.map_drop, ↓reduceIte, reduceCtorEq, Nat.reduceEqDiff, forall_const, implies_true, Nat.reduceAdd, Nat.reduceSub, Nat.reduceMul, Nat.reduceLT, Nat.reduceLeDiff, Int.reduceToNat, Int.reduceAdd, Int.reduceSub, Int.reduceNeg, Int.reduceMul, Int.reduceLT, Int.reduceLE, Int.reduceEq]
    have hnil : duo S M Q C v M = duo S M Q C v M ++ [] := (List.append_nil _).symm
    rw [hnil]
    refine (doD_A S [] M Q C v M hm (by omega) hV a).mono ?_
    rintro r S' ⟨rfl, Q1, C1, hm1, hS'⟩
    subst hS'
    rw [List.append_nil]
    have hsl : (sinceL (doF M a).2 (cutN (doF M a).2 c)).length ≤ 1000000 := by have := puts_len (M := (doF M a).2) (c := cutN (doF M a).2 c); omega
    have hRl1 := hm1.wf.len
    simp (disch := first | omega | (simp only [List.length_cons, List.length_nil, List.length_map, List.length_drop]; omega)) only [actSl, stV, stR, evD, List.length_map, List.getElem?_map, Option.map_some, hc, evSt, ↓evPre, ↓evPreW, evPost, evPostW, ← List.map_take, ← List.map_drop, ↓reduceIte, reduceCtorEq, Nat.reduceEqDiff, forall_const, implies_true, Nat.reduceAdd, Nat.reduceSub, Nat.reduceMul, Nat.reduceLT, Nat.reduceLeDiff, Int.reduceToNat, Int.reduceAdd, Int.reduceSub, Int.reduceNeg, Int.reduceMul, Int.reduceLT, Int.reduceLE, Int.reduceEq]
    refine (sayD_A S _ _ Q1 C1 v M (by omega) (by omega) hV a).mono ?_
    rintro r S' ⟨rfl, v1, hS'⟩
    subst hS'
    simp (disch := first | omega | (simp only [List.length_cons, List.length_nil, List.length_map, List.length_drop]; omega)) only [actSl, actR, stV, stR, evD, List.length_map, List.getElem?_map, Option.map_some, hc, evSt, ↓evPre, ↓evPreW, evPost, evPostW, ← List.map_take, ← List.map_drop, ↓reduceIte, reduceCtorEq, Nat.reduceEqDiff, forall_const, implies_true, Nat.reduceAdd, Nat.reduceSub, Nat.reduceMul, Nat.reduceLT, Nat.reduceLeDiff, Int.reduceToNat, Int.reduceAdd, Int.reduceSub, Int.reduceNeg, Int.reduceMul, Int.reduceLT, Int.reduceLE, Int.reduceEq]
    refine ⟨?_, ?_⟩
    · refine (getD_A S _ _ Q1 C1 v1 _ a.x.t a.x.c).then ?_
      simp (disch := first | omega | (simp only [List.length_cons, List.length_nil, List.length_map, List.length_drop]; omega)) only [actSl, actR, hc, evD, stV, stR, List.length_map, List.getElem?_map, Option.map_some, eqd_st, decide_true, beq_self_eq_true, hk1, wrap_i64, evSt, ↓evPre, ↓evPreW, evPost, evPostW, ← List.map_take, ← List.map_drop, ↓reduceIte, reduceCtorEq, Nat.reduceEqDiff, forall_const, implies_true, Nat.reduceAdd, Nat.reduceSub, Nat.reduceMul, Nat.reduceLT, Nat.reduceLeDiff, Int.reduceToNat, Int.reduceAdd, Int.reduceSub, Int.reduceNeg, Int.reduceMul, Int.reduceLT, Int.reduceLE, Int.reduceEq]
      refine ⟨?_, ?_⟩
      · refine (getRD_A S _ _ Q1 C1 v1 _ (by omega) a.x.t a.x.c).then ?_
        simp (disch := first | omega | (simp only [List.length_cons, List.length_nil, List.length_map, List.length_drop]; omega)) only [evD, stV, stR, List.length_map, List.getElem?_map, Option.map_some, eqd_st, decide_true, beq_self_eq_true, hk1, wrap_i64, evSt, ↓evPre, ↓evPreW, evPost, evPostW, ← List.map_take, ← List.map_drop, ↓reduceIte, reduceCtorEq, Nat.reduceEqDiff, forall_const, implies_true, Nat.reduceAdd, Nat.reduceSub, Nat.reduceMul, Nat.reduceLT, Nat.reduceLeDiff, Int.reduceToNat, Int.reduceAdd, Int.reduceSub, Int.reduceNeg, Int.reduceMul, Int.reduceLT, Int.reduceLE, Int.reduceEq]
        refine (chgD_A S _ _ Q1 C1 v1 _).then ?_
        simp (disch := first | omega | (simp only [List.length_cons, List.length_nil, List.length_map, List.length_drop]; omega)) only [evD, stV, stR, List.length_map, List.getElem?_map, Option.map_some, eqd_st, decide_true, beq_self_eq_true, hk1, wrap_i64, evSt, ↓evPre, ↓evPreW, evPost, evPostW, ← List.map_take, ← List.map_drop, ↓reduceIte, reduceCtorEq, Nat.reduceEqDiff, forall_const, implies_true, Nat.reduceAdd, Nat.reduceSub, Nat.reduceMul, Nat.reduceLT, Nat.reduceLeDiff, Int.reduceToNat, Int.reduceAdd, Int.reduceSub, Int.reduceNeg, Int.reduceMul, Int.reduceLT, Int.reduceLE, Int.reduceEq]
        refine (chgRD_A S _ _ Q1 C1 v1 _).then ?_
        by_cases h8 : ((k : Nat) : Int).tmod 8 = 0
        · simp (disch := first | omega | (simp only [List.length_cons, List.length_nil, List.length_map, List.length_drop]; omega)) only [dT h8, evD, stV, stR, List.length_map, List.getElem?_map, Option.map_some, eqd_st, decide_true, beq_self_eq_true, hk1, wrap_i64, evSt, ↓evPre, ↓evPreW, evPost, evPostW, ← List.map_take, ← List.map_drop, ↓reduceIte, reduceCtorEq, Nat.reduceEqDiff, forall_const, implies_true, Nat.reduceAdd, Nat.reduceSub, Nat.reduceMul, Nat.reduceLT, Nat.reduceLeDiff, Int.reduceToNat, Int.reduceAdd, Int.reduceSub, Int.reduceNeg, Int.reduceMul, Int.reduceLT, Int.reduceLE, Int.reduceEq]
          refine (sinD_A S _ _ Q1 C1 v1 _ hm1 (by omega) c).mono ?_
          rintro r S' ⟨rfl, Q2, C2, hm2, hS'⟩
          subst hS'
          simp (disch := first | omega | (simp only [List.length_cons, List.length_nil, List.length_map, List.length_drop]; omega)) only [evD, stV, stR, List.length_map, List.getElem?_map, Option.map_some, eqd_st, decide_true, beq_self_eq_true, hk1, wrap_i64, evSt, ↓evPre, ↓evPreW, evPost, evPostW, ← List.map_take, ← List.map_drop, ↓reduceIte, reduceCtorEq, Nat.reduceEqDiff, forall_const, implies_true, Nat.reduceAdd, Nat.reduceSub, Nat.reduceMul, Nat.reduceLT, Nat.reduceLeDiff, Int.reduceToNat, Int.reduceAdd, Int.reduceSub, Int.reduceNeg, Int.reduceMul, Int.reduceLT, Int.reduceLE, Int.reduceEq]
          refine (sinRD_A S _ _ Q2 C2 v1 _ hm2.wf (by omega) c).then ?_
          simp (disch := first | omega | (simp only [List.length_cons, List.length_nil, List.length_map, List.length_drop]; omega)) only [evD, stV, stR, List.length_map, List.getElem?_map, Option.map_some, eqd_st, decide_true, beq_self_eq_true, hk1, wrap_i64, evSt, ↓evPre, ↓evPreW, evPost, evPostW, ← List.map_take, ← List.map_drop, ↓reduceIte, reduceCtorEq, Nat.reduceEqDiff, forall_const, implies_true, Nat.reduceAdd, Nat.reduceSub, Nat.reduceMul, Nat.reduceLT, Nat.reduceLeDiff, Int.reduceToNat, Int.reduceAdd, Int.reduceSub, Int.reduceNeg, Int.reduceMul, Int.reduceLT, Int.reduceLE, Int.reduceEq]
          refine (sameL_A _ _ _ hsl).then ?_
          simp (disch := first | omega | (simp only [List.length_cons, List.length_nil, List.length_map, List.length_drop]; omega)) only [evD, stV, stR, List.length_map, List.getElem?_map, Option.map_some, eqd_st, decide_true, beq_self_eq_true, hk1, wrap_i64, evSt, ↓evPre, ↓evPreW, evPost, evPostW, ← List.map_take, ← List.map_drop, ↓reduceIte, reduceCtorEq, Nat.reduceEqDiff, forall_const, implies_true, Nat.reduceAdd, Nat.reduceSub, Nat.reduceMul, Nat.reduceLT, Nat.reduceLeDiff, Int.reduceToNat, Int.reduceAdd, Int.reduceSub, Int.reduceNeg, Int.reduceMul, Int.reduceLT, Int.reduceLE, Int.reduceEq]
          exact hback _ _ Q2 C2 v1 hm2 ⟨rfl, rfl, rfl, rfl, rfl, trivial⟩
        · simp (disch := first | omega | (simp only [List.length_cons, List.length_nil, List.length_map, List.length_drop]; omega)) only [dF h8, evD, stV, stR, List.length_map, List.getElem?_map, Option.map_some, eqd_st, decide_true, beq_self_eq_true, hk1, wrap_i64, evSt, ↓evPre, ↓evPreW, evPost, evPostW, ← List.map_take, ← List.map_drop, ↓reduceIte, reduceCtorEq, Nat.reduceEqDiff, forall_const, implies_true, Nat.reduceAdd, Nat.reduceSub, Nat.reduceMul, Nat.reduceLT, Nat.reduceLeDiff, Int.reduceToNat, Int.reduceAdd, Int.reduceSub, Int.reduceNeg, Int.reduceMul, Int.reduceLT, Int.reduceLE, Int.reduceEq]
          exact hback _ _ Q1 C1 v1 hm1 ⟨rfl, rfl, rfl, rfl, rfl, trivial⟩
      · refine (getRD_A S _ _ Q1 C1 v1 _ (by omega) a.x.t a.x.c).then ?_
        simp (disch := first | omega | (simp only [List.length_cons, List.length_nil, List.length_map, List.length_drop]; omega)) only [evD, stV, stR, List.length_map, List.getElem?_map, Option.map_some, eqd_st, decide_true, beq_self_eq_true, hk1, wrap_i64, evSt, ↓evPre, ↓evPreW, evPost, evPostW, ← List.map_take, ← List.map_drop, ↓reduceIte, reduceCtorEq, Nat.reduceEqDiff, forall_const, implies_true, Nat.reduceAdd, Nat.reduceSub, Nat.reduceMul, Nat.reduceLT, Nat.reduceLeDiff, Int.reduceToNat, Int.reduceAdd, Int.reduceSub, Int.reduceNeg, Int.reduceMul, Int.reduceLT, Int.reduceLE, Int.reduceEq]
        refine (chgD_A S _ _ Q1 C1 v1 _).then ?_
        simp (disch := first | omega | (simp only [List.length_cons, List.length_nil, List.length_map, List.length_drop]; omega)) only [evD, stV, stR, List.length_map, List.getElem?_map, Option.map_some, eqd_st, decide_true, beq_self_eq_true, hk1, wrap_i64, evSt, ↓evPre, ↓evPreW, evPost, evPostW, ← List.map_take, ← List.map_drop, ↓reduceIte, reduceCtorEq, Nat.reduceEqDiff, forall_const, implies_true, Nat.reduceAdd, Nat.reduceSub, Nat.reduceMul, Nat.reduceLT, Nat.reduceLeDiff, Int.reduceToNat, Int.reduceAdd, Int.reduceSub, Int.reduceNeg, Int.reduceMul, Int.reduceLT, Int.reduceLE, Int.reduceEq]
        refine (chgRD_A S _ _ Q1 C1 v1 _).then ?_
        by_cases h8 : ((k : Nat) : Int).tmod 8 = 0
        · simp (disch := first | omega | (simp only [List.length_cons, List.length_nil, List.length_map, List.length_drop]; omega)) only [dT h8, evD, stV, stR, List.length_map, List.getElem?_map, Option.map_some, eqd_st, decide_true, beq_self_eq_true, hk1, wrap_i64, evSt, ↓evPre, ↓evPreW, evPost, evPostW, ← List.map_take, ← List.map_drop, ↓reduceIte, reduceCtorEq, Nat.reduceEqDiff, forall_const, implies_true, Nat.reduceAdd, Nat.reduceSub, Nat.reduceMul, Nat.reduceLT, Nat.reduceLeDiff, Int.reduceToNat, Int.reduceAdd, Int.reduceSub, Int.reduceNeg, Int.reduceMul, Int.reduceLT, Int.reduceLE, Int.reduceEq]
          refine (sinD_A S _ _ Q1 C1 v1 _ hm1 (by omega) c).mono ?_
          rintro r S' ⟨rfl, Q2, C2, hm2, hS'⟩
          subst hS'
          simp (disch := first | omega | (simp only [List.length_cons, List.length_nil, List.length_map, List.length_drop]; omega)) only [evD, stV, stR, List.length_map, List.getElem?_map, Option.map_some, eqd_st, decide_true, beq_self_eq_true, hk1, wrap_i64, evSt, ↓evPre, ↓evPreW, evPost, evPostW, ← List.map_take, ← List.map_drop, ↓reduceIte, reduceCtorEq, Nat.reduceEqDiff, forall_const, implies_true, Nat.reduceAdd, Nat.reduceSub, Nat.reduceMul, Nat.reduceLT, Nat.reduceLeDiff, Int.reduceToNat, Int.reduceAdd, Int.reduceSub, Int.reduceNeg, Int.reduceMul, Int.reduceLT, Int.reduceLE, Int.reduceEq]
          refine (sinRD_A S _ _ Q2 C2 v1 _ hm2.wf (by omega) c).then ?_
          simp (disch := first | omega | (simp only [List.length_cons, List.length_nil, List.length_map, List.length_drop]; omega)) only [evD, stV, stR, List.length_map, List.getElem?_map, Option.map_some, eqd_st, decide_true, beq_self_eq_true, hk1, wrap_i64, evSt, ↓evPre, ↓evPreW, evPost, evPostW, ← List.map_take, ← List.map_drop, ↓reduceIte, reduceCtorEq, Nat.reduceEqDiff, forall_const, implies_true, Nat.reduceAdd, Nat.reduceSub, Nat.reduceMul, Nat.reduceLT, Nat.reduceLeDiff, Int.reduceToNat, Int.reduceAdd, Int.reduceSub, Int.reduceNeg, Int.reduceMul, Int.reduceLT, Int.reduceLE, Int.reduceEq]
          refine (sameL_A _ _ _ hsl).then ?_
          simp (disch := first | omega | (simp only [List.length_cons, List.length_nil, List.length_map, List.length_drop]; omega)) only [evD, stV, stR, List.length_map, List.getElem?_map, Option.map_some, eqd_st, decide_true, beq_self_eq_true, hk1, wrap_i64, evSt, ↓evPre, ↓evPreW, evPost, evPostW, ← List.map_take, ← List.map_drop, ↓reduceIte, reduceCtorEq, Nat.reduceEqDiff, forall_const, implies_true, Nat.reduceAdd, Nat.reduceSub, Nat.reduceMul, Nat.reduceLT, Nat.reduceLeDiff, Int.reduceToNat, Int.reduceAdd, Int.reduceSub, Int.reduceNeg, Int.reduceMul, Int.reduceLT, Int.reduceLE, Int.reduceEq]
          exact hback _ _ Q2 C2 v1 hm2 ⟨rfl, rfl, rfl, rfl, rfl, trivial⟩
        · simp (disch := first | omega | (simp only [List.length_cons, List.length_nil, List.length_map, List.length_drop]; omega)) only [dF h8, evD, stV, stR, List.length_map, List.getElem?_map, Option.map_some, eqd_st, decide_true, beq_self_eq_true, hk1, wrap_i64, evSt, ↓evPre, ↓evPreW, evPost, evPostW, ← List.map_take, ← List.map_drop, ↓reduceIte, reduceCtorEq, Nat.reduceEqDiff, forall_const, implies_true, Nat.reduceAdd, Nat.reduceSub, Nat.reduceMul, Nat.reduceLT, Nat.reduceLeDiff, Int.reduceToNat, Int.reduceAdd, Int.reduceSub, Int.reduceNeg, Int.reduceMul, Int.reduceLT, Int.reduceLE, Int.reduceEq]
          exact hback _ _ Q1 C1 v1 hm1 ⟨rfl, rfl, rfl, rfl, rfl, trivial⟩
    · refine (getD_A S _ _ Q1 C1 v1 _ a.x.t a.x.c).then ?_
      simp (disch := first | omega | (simp only [List.length_cons, List.length_nil, List.length_map, List.length_drop]; omega)) only [actSl, actR, hc, evD, stV, stR, List.length_map, List.getElem?_map, Option.map_some, eqd_st, decide_true, beq_self_eq_true, hk1, wrap_i64, evSt, ↓evPre, ↓evPreW, evPost, evPostW, ← List.map_take, ← List.map_drop, ↓reduceIte, reduceCtorEq, Nat.reduceEqDiff, forall_const, implies_true, Nat.reduceAdd, Nat.reduceSub, Nat.reduceMul, Nat.reduceLT, Nat.reduceLeDiff, Int.reduceToNat, Int.reduceAdd, Int.reduceSub, Int.reduceNeg, Int.reduceMul, Int.reduceLT, Int.reduceLE, Int.reduceEq]
      refine ⟨?_, ?_⟩
      · refine (getRD_A S _ _ Q1 C1 v1 _ (by omega) a.x.t a.x.c).then ?_
        simp (disch := first | omega | (simp only [List.length_cons, List.length_nil, List.length_map, List.length_drop]; omega)) only [evD, stV, stR, List.length_map, List.getElem?_map, Option.map_some, eqd_st, decide_true, beq_self_eq_true, hk1, wrap_i64, evSt, ↓evPre, ↓evPreW, evPost, evPostW, ← List.map_take, ← List.map_drop, ↓reduceIte, reduceCtorEq, Nat.reduceEqDiff, forall_const, implies_true, Nat.reduceAdd, Nat.reduceSub, Nat.reduceMul, Nat.reduceLT, Nat.reduceLeDiff, Int.reduceToNat, Int.reduceAdd, Int.reduceSub, Int.reduceNeg, Int.reduceMul, Int.reduceLT, Int.reduceLE, Int.reduceEq]
        refine (chgD_A S _ _ Q1 C1 v1 _).then ?_
        simp (disch := first | omega | (simp only [List.length_cons, List.length_nil, List.length_map, List.length_drop]; omega)) only [evD, stV, stR, List.length_map, List.getElem?_map, Option.map_some, eqd_st, decide_true, beq_self_eq_true, hk1, wrap_i64, evSt, ↓evPre, ↓evPreW, evPost, evPostW, ← List.map_take, ← List.map_drop, ↓reduceIte, reduceCtorEq, Nat.reduceEqDiff, forall_const, implies_true, Nat.reduceAdd, Nat.reduceSub, Nat.reduceMul, Nat.reduceLT, Nat.reduceLeDiff, Int.reduceToNat, Int.reduceAdd, Int.reduceSub, Int.reduceNeg, Int.reduceMul, Int.reduceLT, Int.reduceLE, Int.reduceEq]
        refine (chgRD_A S _ _ Q1 C1 v1 _).then ?_
        by_cases h8 : ((k : Nat) : Int).tmod 8 = 0
        · simp (disch := first | omega | (simp only [List.length_cons, List.length_nil, List.length_map, List.length_drop]; omega)) only [dT h8, evD, stV, stR, List.length_map, List.getElem?_map, Option.map_some, eqd_st, decide_true, beq_self_eq_true, hk1, wrap_i64, evSt, ↓evPre, ↓evPreW, evPost, evPostW, ← List.map_take, ← List.map_drop, ↓reduceIte, reduceCtorEq, Nat.reduceEqDiff, forall_const, implies_true, Nat.reduceAdd, Nat.reduceSub, Nat.reduceMul, Nat.reduceLT, Nat.reduceLeDiff, Int.reduceToNat, Int.reduceAdd, Int.reduceSub, Int.reduceNeg, Int.reduceMul, Int.reduceLT, Int.reduceLE, Int.reduceEq]
          refine (sinD_A S _ _ Q1 C1 v1 _ hm1 (by omega) c).mono ?_
          rintro r S' ⟨rfl, Q2, C2, hm2, hS'⟩
          subst hS'
          simp (disch := first | omega | (simp only [List.length_cons, List.length_nil, List.length_map, List.length_drop]; omega)) only [evD, stV, stR, List.length_map, List.getElem?_map, Option.map_some, eqd_st, decide_true, beq_self_eq_true, hk1, wrap_i64, evSt, ↓evPre, ↓evPreW, evPost, evPostW, ← List.map_take, ← List.map_drop, ↓reduceIte, reduceCtorEq, Nat.reduceEqDiff, forall_const, implies_true, Nat.reduceAdd, Nat.reduceSub, Nat.reduceMul, Nat.reduceLT, Nat.reduceLeDiff, Int.reduceToNat, Int.reduceAdd, Int.reduceSub, Int.reduceNeg, Int.reduceMul, Int.reduceLT, Int.reduceLE, Int.reduceEq]
          refine (sinRD_A S _ _ Q2 C2 v1 _ hm2.wf (by omega) c).then ?_
          simp (disch := first | omega | (simp only [List.length_cons, List.length_nil, List.length_map, List.length_drop]; omega)) only [evD, stV, stR, List.length_map, List.getElem?_map, Option.map_some, eqd_st, decide_true, beq_self_eq_true, hk1, wrap_i64, evSt, ↓evPre, ↓evPreW, evPost, evPostW, ← List.map_take, ← List.map_drop, ↓reduceIte, reduceCtorEq, Nat.reduceEqDiff, forall_const, implies_true, Nat.reduceAdd, Nat.reduceSub, Nat.reduceMul, Nat.reduceLT, Nat.reduceLeDiff, Int.reduceToNat, Int.reduceAdd, Int.reduceSub, Int.reduceNeg, Int.reduceMul, Int.reduceLT, Int.reduceLE, Int.reduceEq]
          refine (sameL_A _ _ _ hsl).then ?_
          simp (disch := first | omega | (simp only [List.length_cons, List.length_nil, List.length_map, List.length_drop]; omega)) only [evD, stV, stR, List.length_map, List.getElem?_map, Option.map_some, eqd_st, decide_true, beq_self_eq_true, hk1, wrap_i64, evSt, ↓evPre, ↓evPreW, evPost, evPostW, ← List.map_take, ← List.map_drop, ↓reduceIte, reduceCtorEq, Nat.reduceEqDiff, forall_const, implies_true, Nat.reduceAdd, Nat.reduceSub, Nat.reduceMul, Nat.reduceLT, Nat.reduceLeDiff, Int.reduceToNat, Int.reduceAdd, Int.reduceSub, Int.reduceNeg, Int.reduceMul, Int.reduceLT, Int.reduceLE, Int.reduceEq]
          exact hback _ _ Q2 C2 v1 hm2 ⟨rfl, rfl, rfl, rfl, rfl, trivial⟩
        · simp (disch := first | omega | (simp only [List.length_cons, List.length_nil, List.length_map, List.length_drop]; omega)) only [dF h8, evD, stV, stR, List.length_map, List.getElem?_map, Option.map_some, eqd_st, decide_true, beq_self_eq_true, hk1, wrap_i64, evSt, ↓evPre, ↓evPreW, evPost, evPostW, ← List.map_take, ← List.map_drop, ↓reduceIte, reduceCtorEq, Nat.reduceEqDiff, forall_const, implies_true, Nat.reduceAdd, Nat.reduceSub, Nat.reduceMul, Nat.reduceLT, Nat.reduceLeDiff, Int.reduceToNat, Int.reduceAdd, Int.reduceSub, Int.reduceNeg, Int.reduceMul, Int.reduceLT, Int.reduceLE, Int.reduceEq]
          exact hback _ _ Q1 C1 v1 hm1 ⟨rfl, rfl, rfl, rfl, rfl, trivial⟩
      · refine (getRD_A S _ _ Q1 C1 v1 _ (by omega) a.x.t a.x.c).then ?_
        simp (disch := first | omega | (simp only [List.length_cons, List.length_nil, List.length_map, List.length_drop]; omega)) only [evD, stV, stR, List.length_map, List.getElem?_map, Option.map_some, eqd_st, decide_true, beq_self_eq_true, hk1, wrap_i64, evSt, ↓evPre, ↓evPreW, evPost, evPostW, ← List.map_take, ← List.map_drop, ↓reduceIte, reduceCtorEq, Nat.reduceEqDiff, forall_const, implies_true, Nat.reduceAdd, Nat.reduceSub, Nat.reduceMul, Nat.reduceLT, Nat.reduceLeDiff, Int.reduceToNat, Int.reduceAdd, Int.reduceSub, Int.reduceNeg, Int.reduceMul, Int.reduceLT, Int.reduceLE, Int.reduceEq]
        refine (chgD_A S _ _ Q1 C1 v1 _).then ?_
        simp (disch := first | omega | (simp only [List.length_cons, List.length_nil, List.length_map, List.length_drop]; omega)) only [evD, stV, stR, List.length_map, List.getElem?_map, Option.map_some, eqd_st, decide_true, beq_self_eq_true, hk1, wrap_i64, evSt, ↓evPre, ↓evPreW, evPost, evPostW, ← List.map_take, ← List.map_drop, ↓reduceIte, reduceCtorEq, Nat.reduceEqDiff, forall_const, implies_true, Nat.reduceAdd, Nat.reduceSub, Nat.reduceMul, Nat.reduceLT, Nat.reduceLeDiff, Int.reduceToNat, Int.reduceAdd, Int.reduceSub, Int.reduceNeg, Int.reduceMul, Int.reduceLT, Int.reduceLE, Int.reduceEq]
        refine (chgRD_A S _ _ Q1 C1 v1 _).then ?_
        by_cases h8 : ((k : Nat) : Int).tmod 8 = 0
        · simp (disch := first | omega | (simp only [List.length_cons, List.length_nil, List.length_map, List.length_drop]; omega)) only [dT h8, evD, stV, stR, List.length_map, List.getElem?_map, Option.map_some, eqd_st, decide_true, beq_self_eq_true, hk1, wrap_i64, evSt, ↓evPre, ↓evPreW, evPost, evPostW, ← List.map_take, ← List.map_drop, ↓reduceIte, reduceCtorEq, Nat.reduceEqDiff, forall_const, implies_true, Nat.reduceAdd, Nat.reduceSub, Nat.reduceMul, Nat.reduceLT, Nat.reduceLeDiff, Int.reduceToNat, Int.reduceAdd, Int.reduceSub, Int.reduceNeg, Int.reduceMul, Int.reduceLT, Int.reduceLE, Int.reduceEq]
          refine (sinD_A S _ _ Q1 C1 v1 _ hm1 (by omega) c).mono ?_
          rintro r S' ⟨rfl, Q2, C2, hm2, hS'⟩
          subst hS'
          simp (disch := first | omega | (simp only [List.length_cons, List.length_nil, List.length_map, List.length_drop]; omega)) only [evD, stV, stR, List.length_map, List.getElem?_map, Option.map_some, eqd_st, decide_true, beq_self_eq_true, hk1, wrap_i64, evSt, ↓evPre, ↓evPreW, evPost, evPostW, ← List.map_take, ← List.map_drop, ↓reduceIte, reduceCtorEq, Nat.reduceEqDiff, forall_const, implies_true, Nat.reduceAdd, Nat.reduceSub, Nat.reduceMul, Nat.reduceLT, Nat.reduceLeDiff, Int.reduceToNat, Int.reduceAdd, Int.reduceSub, Int.reduceNeg, Int.reduceMul, Int.reduceLT, Int.reduceLE, Int.reduceEq]
          refine (sinRD_A S _ _ Q2 C2 v1 _ hm2.wf (by omega) c).then ?_
          simp (disch := first | omega | (simp only [List.length_cons, List.length_nil, List.length_map, List.length_drop]; omega)) only [evD, stV, stR, List.length_map, List.getElem?_map, Option.map_some, eqd_st, decide_true, beq_self_eq_true, hk1, wrap_i64, evSt, ↓evPre, ↓evPreW, evPost, evPostW, ← List.map_take, ← List.map_drop, ↓reduceIte, reduceCtorEq, Nat.reduceEqDiff, forall_const, implies_true, Nat.reduceAdd, Nat.reduceSub, Nat.reduceMul, Nat.reduceLT, Nat.reduceLeDiff, Int.reduceToNat, Int.reduceAdd, Int.reduceSub, Int.reduceNeg, Int.reduceMul, Int.reduceLT, Int.reduceLE, Int.reduceEq]
          refine (sameL_A _ _ _ hsl).then ?_
          simp (disch := first | omega | (simp only [List.length_cons, List.length_nil, List.length_map, List.length_drop]; omega)) only [evD, stV, stR, List.length_map, List.getElem?_map, Option.map_some, eqd_st, decide_true, beq_self_eq_true, hk1, wrap_i64, evSt, ↓evPre, ↓evPreW, evPost, evPostW, ← List.map_take, ← List.map_drop, ↓reduceIte, reduceCtorEq, Nat.reduceEqDiff, forall_const, implies_true, Nat.reduceAdd, Nat.reduceSub, Nat.reduceMul, Nat.reduceLT, Nat.reduceLeDiff, Int.reduceToNat, Int.reduceAdd, Int.reduceSub, Int.reduceNeg, Int.reduceMul, Int.reduceLT, Int.reduceLE, Int.reduceEq]
          exact hback _ _ Q2 C2 v1 hm2 ⟨rfl, rfl, rfl, rfl, rfl, trivial⟩
        · simp (disch := first | omega | (simp only [List.length_cons, List.length_nil, List.length_map, List.length_drop]; omega)) only [dF h8, evD, stV, stR, List.length_map, List.getElem?_map, Option.map_some, eqd_st, decide_true, beq_self_eq_true, hk1, wrap_i64, evSt, ↓evPre, ↓evPreW, evPost, evPostW, ← List.map_take, ← List.map_drop, ↓reduceIte, reduceCtorEq, Nat.reduceEqDiff, forall_const, implies_true, Nat.reduceAdd, Nat.reduceSub, Nat.reduceMul, Nat.reduceLT, Nat.reduceLeDiff, Int.reduceToNat, Int.reduceAdd, Int.reduceSub, Int.reduceNeg, Int.reduceMul, Int.reduceLT, Int.reduceLE, Int.reduceEq]
          exact hback _ _ Q1 C1 v1 hm1 ⟨rfl, rfl, rfl, rfl, rfl, trivial⟩
end Go.Proofs.Ytdkcicbpcagonaa
