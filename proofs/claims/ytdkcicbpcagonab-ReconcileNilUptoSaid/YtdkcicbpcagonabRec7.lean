/- The reference's lists of coupons: the walk; its differences. -/
import Derived.Test.YtdkcicbpcagonabRec6
namespace Go.Proofs.Ytdkcicbpcagonab
open Go Go.AL
set_option linter.unusedSimpArgs false
set_option linter.unusedVariables false

theorem cpS_add {l : List St} {k : Nat} {y : St} (h : l[k]? = some y) : cpS l (k + 1) = cpAdd (cpS l k) ((l.find? (sameS y)).getD st0) := by rw [cpS, h]

theorem coupons_A (l : List St) (S : Store) (hl : l.length ≤ 1000000) : CallA Try.prog 40 [stSl l] S fun r S' => r = stSl (coup l) ∧ S' = S := by
  refine CallA.withNeat Try.func40 c45 fun hn => ?_
  refine CallA.fin Try.func40 c45 (Nat.le_of_ble_eq_true rfl) fun σ hσ => ?_
  simp (disch := first | omega | (simp only [List.length_cons, List.length_nil, List.length_map, List.length_drop]; omega)) only [a45, evSt, ↓evPre, ↓evPreW, evPost, evPostW, ← List.map_take, ← List.map_drop, ↓reduceIte, reduceCtorEq, Nat.reduceEqDiff, forall_const, implies_true, Nat.reduceAdd, Nat.reduceSub, Nat.reduceMul, Nat.reduceLT, Nat.reduceLeDiff, Int.reduceToNat, Int.reduceAdd, Int.reduceSub, Int.reduceNeg, Int.reduceMul, Int.reduceLT, Int.reduceLE, Int.reduceEq]
  refine loopF (ι := Nat) (fun k => [(0, stSl l), (3, stSl (cpS l k)), (4, .int .i64 k)]) (fun _ => S) (fun k => k ≤ l.length) (fun k => l.length - k) (fun k _ => by rw [hσ]; exact Nat.le_refl _) 0 (Nat.zero_le _)
    (.inr ⟨hn.self, by simp only [↓evPre, ↓evPreW, evPost, evPostW, ← List.map_take, ← List.map_drop, ↓reduceIte, reduceCtorEq, Nat.reduceEqDiff, forall_const, implies_true, Nat.reduceAdd, Nat.reduceSub, Nat.reduceMul, Nat.reduceLT, Nat.reduceLeDiff, Int.reduceToNat, Int.reduceAdd, Int.reduceSub, Int.reduceNeg, Int.reduceMul, Int.reduceLT, Int.reduceLE, Int.reduceEq]; exact .imm rfl, by simp only [↓evPre, ↓evPreW, evPost, evPostW, ← List.map_take, ← List.map_drop, ↓reduceIte, reduceCtorEq, Nat.reduceEqDiff, forall_const, implies_true, Nat.reduceAdd, Nat.reduceSub, Nat.reduceMul, Nat.reduceLT, Nat.reduceLeDiff, Int.reduceToNat, Int.reduceAdd, Int.reduceSub, Int.reduceNeg, Int.reduceMul, Int.reduceLT, Int.reduceLE, Int.reduceEq]; exact .nil, by simp only [↓evPre, ↓evPreW, evPost, evPostW, ← List.map_take, ← List.map_drop, ↓reduceIte, reduceCtorEq, Nat.reduceEqDiff, forall_const, implies_true, Nat.reduceAdd, Nat.reduceSub, Nat.reduceMul, Nat.reduceLT, Nat.reduceLeDiff, Int.reduceToNat, Int.reduceAdd, Int.reduceSub, Int.reduceNeg, Int.reduceMul, Int.reduceLT, Int.reduceLE, Int.reduceEq]; exact .imm rfl, trivial⟩) ?_
  intro k hk
  cases hc : l[k]? with
  | none =>
    have hge : l.length ≤ k := List.getElem?_eq_none_iff.1 hc
    have hlt : ¬ ((k : Int) < l.length) := by omega
    have e : k = l.length := by omega
    simp (disch := first | omega | (simp only [List.length_cons, List.length_nil, List.length_map, List.length_drop]; omega)) only [stSl, List.length_map, hlt, decide_false, evSt, ↓evPre, ↓evPreW, evPost, evPostW, ← List.map_take, ← List.map_drop, ↓reduceIte, reduceCtorEq, Nat.reduceEqDiff, forall_const, implies_true, Nat.reduceAdd, Nat.reduceSub, Nat.reduceMul, Nat.reduceLT, Nat.reduceLeDiff, Int.reduceToNat, Int.reduceAdd, Int.reduceSub, Int.reduceNeg, Int.reduceMul, Int.reduceLT, Int.reduceLE, Int.reduceEq]
    exact ⟨_, S, hn.self, .imm rfl, Nat.le_refl _, by rw [coup, e], rfl⟩
  | some y =>
    have hlt' := (List.getElem?_eq_some_iff.1 hc).1
    have hlt : (k : Int) < l.length := by omega
    obtain ⟨hasc, hfnd, hcl⟩ := cpS_ok l k
    have hnx := cpS_add hc
    generalize hx : (l.find? (sameS y)).getD st0 = x at hnx
    generalize cpS l k = out at hasc hfnd hcl hnx ⊢
    simp (disch := first | omega | (simp only [List.length_cons, List.length_nil, List.length_map, List.length_drop]; omega)) only [stSl, stR, List.length_map, List.getElem?_map, Option.map_some, hc, hlt, decide_true, evSt, ↓evPre, ↓evPreW, evPost, evPostW, ← List.map_take, ← List.map_drop, ↓reduceIte, reduceCtorEq, Nat.reduceEqDiff, forall_const, implies_true, Nat.reduceAdd, Nat.reduceSub, Nat.reduceMul, Nat.reduceLT, Nat.reduceLeDiff, Int.reduceToNat, Int.reduceAdd, Int.reduceSub, Int.reduceNeg, Int.reduceMul, Int.reduceLT, Int.reduceLE, Int.reduceEq]
    refine (find_A l y S (by omega)).then ?_
    rw [hx]
    simp (disch := first | omega | (simp only [List.length_cons, List.length_nil, List.length_map, List.length_drop]; omega)) only [stV, stR, evSt, ↓evPre, ↓evPreW, evPost, evPostW, ← List.map_take, ← List.map_drop, ↓reduceIte, reduceCtorEq, Nat.reduceEqDiff, forall_const, implies_true, Nat.reduceAdd, Nat.reduceSub, Nat.reduceMul, Nat.reduceLT, Nat.reduceLeDiff, Int.reduceToNat, Int.reduceAdd, Int.reduceSub, Int.reduceNeg, Int.reduceMul, Int.reduceLT, Int.reduceLE, Int.reduceEq]
    have hn2 := atR_le x out
    refine loopA (ι := Nat) (fun j => [(0, stSl l), (3, stSl out), (4, .int .i64 k), (5, .ptr S.length 0 0 0), (7, .int .i64 j)]) (fun _ => S ++ [⟨0, some (.arr 27 4 [stR x])⟩]) (fun j => j ≤ atR x out) (fun j => out.length - j) 0 (Nat.zero_le _) ?_ rfl ?_
    · simp only [stSl, ↓evPre, ↓evPreW, evPost, evPostW, ← List.map_take, ← List.map_drop, ↓reduceIte, reduceCtorEq, Nat.reduceEqDiff, forall_const, implies_true, Nat.reduceAdd, Nat.reduceSub, Nat.reduceMul, Nat.reduceLT, Nat.reduceLeDiff, Int.reduceToNat, Int.reduceAdd, Int.reduceSub, Int.reduceNeg, Int.reduceMul, Int.reduceLT, Int.reduceLE, Int.reduceEq]
      try rfl
    intro j hj
    have hback : ∀ (E : Env) (T : Store) (z : V) (out' : List St), out' = cpS l (k + 1) → Frz (S ++ T) S z (stSl out') → sub [(0, stSl l), (3, z), (4, .int .i64 ((k + 1 : Nat) : Int))] E → ∃ k', k' ≤ l.length ∧ l.length - k' < l.length - k ∧
        Back [(0, stSl l), (3, stSl (cpS l k')), (4, .int .i64 (k' : Nat))] S E (S ++ T) := by
      intro E T z out' ho hz hE
      refine ⟨k + 1, by omega, by omega, .inr ⟨hn.fgt _, ?_⟩⟩
      simp only [sub] at hE
      obtain ⟨e1, e2, e3, _⟩ := hE
      refine ⟨by rw [e1]; exact .imm rfl, by rw [e2, ← ho]; exact hz, by rw [e3]; exact .imm rfl, trivial⟩
    have hsk := at_same hasc (x := x)
    have hje : (j : Int) ≤ out.length := by omega
    have hj0 : (0 : Int) ≤ (j : Int) := by omega
    have hlen : (out.take j).length + 1 + (out.drop j).length = out.length + 1 := by simp only [List.length_take, List.length_drop]; omega
    have htd : List.take (out.length - j) (out.drop j) = out.drop j := List.take_of_length_le (by simp)
    have hins : ∀ (E : Env) (o : AL.Obj) (n : Nat) (R : List (List V)), insR x out = cpS l (k + 1) → R = (insR x out).map stR → n = (insR x out).length → sub [(0, stSl l), (3, .msl (S.length + 1) 2 0 n), (4, .int .i64 ((k + 1 : Nat) : Int))] E → ∃ k', k' ≤ l.length ∧ l.length - k' < l.length - k ∧
        Back [(0, stSl l), (3, stSl (cpS l k')), (4, .int .i64 (k' : Nat))] S E (S ++ [o, ⟨2, some (.arr 27 4 R)⟩]) := by
      intro E o n R h1 h2 h3 h4
      subst h2 h3
      exact hback E _ _ _ h1 (.sl (t := 27) (by omega) (by simp (disch := first | omega | (simp only [List.length_cons, List.length_nil, List.length_map, List.length_drop]; omega)) only [evSt, ↓evPre, ↓evPreW, evPost, evPostW, ← List.map_take, ← List.map_drop, ↓reduceIte, reduceCtorEq, Nat.reduceEqDiff, forall_const, implies_true, Nat.reduceAdd, Nat.reduceSub, Nat.reduceMul, Nat.reduceLT, Nat.reduceLeDiff, Int.reduceToNat, Int.reduceAdd, Int.reduceSub, Int.reduceNeg, Int.reduceMul, Int.reduceLT, Int.reduceLE, Int.reduceEq]) (by simp) (stR_imm _)) h4
    -- behind the search
    cases hz : out[j]? with
    | none =>
      have hge : out.length ≤ j := List.getElem?_eq_none_iff.1 hz
      have hjl : ¬ ((j : Int) < out.length) := by omega
      have hat : atR x out = j := by omega
      have hno : (out.find? (sameS x)).isSome = false := by rw [← hsk, hat, hz]
      have hcp : insR x out = cpS l (k + 1) := by rw [hnx, cpAdd, hno]; rfl
      have hie := insR_eq x out
      rw [hat] at hie
      simp (disch := first | omega | (simp only [List.length_cons, List.length_nil, List.length_map, List.length_drop]; omega)) only [stSl, stV, stR, wrap_i64, List.length_map, hjl, hje, hj0, Int.le_refl, decide_false, decide_true, List.getElem?_map, evSt, ↓evPre, ↓evPreW, evPost, evPostW, ← List.map_take, ← List.map_drop, ↓reduceIte, reduceCtorEq, Nat.reduceEqDiff, forall_const, implies_true, Nat.reduceAdd, Nat.reduceSub, Nat.reduceMul, Nat.reduceLT, Nat.reduceLeDiff, Int.reduceToNat, Int.reduceAdd, Int.reduceSub, Int.reduceNeg, Int.reduceMul, Int.reduceLT, Int.reduceLE, Int.reduceEq]
      rw [htd]
      refine ⟨by unfold roomA; simp only [List.length_take]; omega, by unfold roomA; omega, by simp, by unfold roomA; omega, ?_⟩
      exact hins _ _ _ _ hcp (by rw [hie]; simp [stR]) (by rw [hie]; simp only [List.length_append, List.length_cons]; omega) ⟨rfl, rfl, rfl, trivial⟩
    | some z =>
      have hjlt := (List.getElem?_eq_some_iff.1 hz).1
      have hjl : (j : Int) < out.length := by omega
      simp (disch := first | omega | (simp only [List.length_cons, List.length_nil, List.length_map, List.length_drop]; omega)) only [stSl, stV, stR, wrap_i64, List.length_map, hjl, hz, decide_false, decide_true, List.getElem?_map, Option.map_some, evSt, ↓evPre, ↓evPreW, evPost, evPostW, ← List.map_take, ← List.map_drop, ↓reduceIte, reduceCtorEq, Nat.reduceEqDiff, forall_const, implies_true, Nat.reduceAdd, Nat.reduceSub, Nat.reduceMul, Nat.reduceLT, Nat.reduceLeDiff, Int.reduceToNat, Int.reduceAdd, Int.reduceSub, Int.reduceNeg, Int.reduceMul, Int.reduceLT, Int.reduceLE, Int.reduceEq]
      refine (less_A z x _).then ?_
      cases hlz : ltS z x with
      | true =>
        simp (disch := first | omega | (simp only [List.length_cons, List.length_nil, List.length_map, List.length_drop]; omega)) only [stSl, stV, stR, wrap_i64, List.length_map, hjl, hz, decide_false, decide_true, List.getElem?_map, Option.map_some, evSt, ↓evPre, ↓evPreW, evPost, evPostW, ← List.map_take, ← List.map_drop, ↓reduceIte, reduceCtorEq, Nat.reduceEqDiff, forall_const, implies_true, Nat.reduceAdd, Nat.reduceSub, Nat.reduceMul, Nat.reduceLT, Nat.reduceLeDiff, Int.reduceToNat, Int.reduceAdd, Int.reduceSub, Int.reduceNeg, Int.reduceMul, Int.reduceLT, Int.reduceLE, Int.reduceEq]
        refine ⟨j + 1, ?_, by omega, rfl⟩
        rcases Nat.lt_or_ge j (atR x out) with h | h
        · omega
        · have e : j = atR x out := by omega
          rw [e] at hz
          rw [atR_at x hz] at hlz
          cases hlz
      | false =>
        have hat : atR x out = j := by
          rcases Nat.lt_or_ge j (atR x out) with h | h
          · obtain ⟨z', h1, h2⟩ := atR_lt x h
            rw [hz] at h1
            cases h1
            rw [hlz] at h2
            cases h2
          · omega
        rw [hat, hz] at hsk
        simp only at hsk
        simp (disch := first | omega | (simp only [List.length_cons, List.length_nil, List.length_map, List.length_drop]; omega)) only [stSl, stV, stR, wrap_i64, List.length_map, hjl, hz, decide_false, decide_true, List.getElem?_map, Option.map_some, evSt, ↓evPre, ↓evPreW, evPost, evPostW, ← List.map_take, ← List.map_drop, ↓reduceIte, reduceCtorEq, Nat.reduceEqDiff, forall_const, implies_true, Nat.reduceAdd, Nat.reduceSub, Nat.reduceMul, Nat.reduceLT, Nat.reduceLeDiff, Int.reduceToNat, Int.reduceAdd, Int.reduceSub, Int.reduceNeg, Int.reduceMul, Int.reduceLT, Int.reduceLE, Int.reduceEq]
        refine (same_A z x _).then ?_
        cases hsz : sameS z x with
        | true =>
          rw [hsz] at hsk
          have hcp : out = cpS l (k + 1) := by rw [hnx, cpAdd, ← hsk]; rfl
          simp (disch := first | omega | (simp only [List.length_cons, List.length_nil, List.length_map, List.length_drop]; omega)) only [stSl, stV, stR, wrap_i64, List.length_map, hjl, hz, decide_false, decide_true, List.getElem?_map, Option.map_some, evSt, ↓evPre, ↓evPreW, evPost, evPostW, ← List.map_take, ← List.map_drop, ↓reduceIte, reduceCtorEq, Nat.reduceEqDiff, forall_const, implies_true, Nat.reduceAdd, Nat.reduceSub, Nat.reduceMul, Nat.reduceLT, Nat.reduceLeDiff, Int.reduceToNat, Int.reduceAdd, Int.reduceSub, Int.reduceNeg, Int.reduceMul, Int.reduceLT, Int.reduceLE, Int.reduceEq]
          exact hback _ _ _ _ hcp (.imm rfl) ⟨rfl, rfl, rfl, trivial⟩
        | false =>
          rw [hsz] at hsk
          have hcp : insR x out = cpS l (k + 1) := by rw [hnx, cpAdd, ← hsk]; rfl
          have hie := insR_eq x out
          rw [hat] at hie
          simp (disch := first | omega | (simp only [List.length_cons, List.length_nil, List.length_map, List.length_drop]; omega)) only [stSl, stV, stR, wrap_i64, List.length_map, hjl, hje, hj0, Int.le_refl, decide_false, decide_true, List.getElem?_map, evSt, ↓evPre, ↓evPreW, evPost, evPostW, ← List.map_take, ← List.map_drop, ↓reduceIte, reduceCtorEq, Nat.reduceEqDiff, forall_const, implies_true, Nat.reduceAdd, Nat.reduceSub, Nat.reduceMul, Nat.reduceLT, Nat.reduceLeDiff, Int.reduceToNat, Int.reduceAdd, Int.reduceSub, Int.reduceNeg, Int.reduceMul, Int.reduceLT, Int.reduceLE, Int.reduceEq]
          rw [htd]
          refine ⟨by unfold roomA; simp only [List.length_take]; omega, by unfold roomA; omega, by simp, by unfold roomA; omega, ?_⟩
          exact hins _ _ _ _ hcp (by rw [hie]; simp [stR]) (by rw [hie]; simp only [List.length_append, List.length_cons]; omega) ⟨rfl, rfl, rfl, trivial⟩
end Go.Proofs.Ytdkcicbpcagonab
