/- The reference's receiving; mirrors filled with states (printed by gen2.py). -/
import Derived.Test.YtdkcicbpcagonabRep1
namespace Go.Proofs.Ytdkcicbpcagonab
open Go Go.AL
set_option linter.unusedSimpArgs false
set_option linter.unusedVariables false

section
variable (A B : Store) (M : Mi) (v : Nat)
theorem PutRL_A (L : Store) (hl : M.R.length ≤ 1000000) (hN : M.N ≤ 1000000) (x : St) : CallA Try.prog 23 [.ptr A.length 0 0 0, stV x] (rst A B v M ++ L) fun r S' => r = .int .i64 (putF M x).1 ∧ ∃ v', S' = rst A B v' (putF M x).2 ++ L := by
  rw [rst_app]
  exact (PutR_A A (B ++ L) M v hl hN x).mono fun r S' k => ⟨k.1, by obtain ⟨v', h⟩ := k.2; exact ⟨v', by rw [h, rst_app]⟩⟩
theorem GetRL_A (L : Store) (hl : M.R.length ≤ 1000000) (t c : Int) : CallA Try.prog 43 [.ptr A.length 0 0 0, .int .i64 t, .int .i64 c] (rst A B v M ++ L) fun r S' => r = .tup [stV (getF M t c).1, .bool (getF M t c).2] ∧ S' = rst A B v M ++ L := by
  rw [rst_app]
  exact GetR_A A (B ++ L) M v hl t c

set_option maxRecDepth 100000 in
theorem refPut_A (h : WF M) (l : List St) (hN : M.N + l.length ≤ 100000) : CallA Try.prog 32 [.ptr A.length 0 0 0, stSl l] (rst A B v M) fun r S' => r = .int .i64 ((rcv M l).2 : Nat) ∧ LeavesR A B (rcv M l).1 S' := by
  refine CallA.withNeat Try.func32 c232 fun hn => ?_
  refine CallA.fin Try.func32 c232 (Nat.le_of_ble_eq_true rfl) fun σ hσ => ?_
  simp (disch := first | omega | (simp only [List.length_cons, List.length_nil, List.length_map, List.length_drop]; omega)) only [a232, stSl, evSt, ↓evPre, ↓evPreW, evPost, evPostW, ← List.map_take, ← List.map_drop, ↓reduceIte, reduceCtorEq, Nat.reduceEqDiff, forall_const, implies_true, Nat.reduceAdd, Nat.reduceSub, Nat.reduceMul, Nat.reduceLT, Nat.reduceLeDiff, Int.reduceToNat, Int.reduceAdd, Int.reduceSub, Int.reduceNeg, Int.reduceMul, Int.reduceLT, Int.reduceLE, Int.reduceEq]
  refine loopF (ι := Nat × Nat) (fun p => [(0, .ptr A.length 0 0 0), (1, stSl l), (6, .int .i64 (p.1 : Nat)), (5, .int .i64 ((rcv M (l.take p.1)).2 : Nat))]) (fun p => rst A B p.2 (rcv M (l.take p.1)).1)
    (fun p => p.1 ≤ l.length) (fun p => l.length - p.1) (fun p _ => by rw [hσ, rst_len, rst_len]; exact Nat.le_refl _) (0, v) (Nat.zero_le _) (.inl ⟨?_, rfl⟩) ?_
  · simp only [stSl, ↓evPre, ↓evPreW, evPost, evPostW, ← List.map_take, ← List.map_drop, ↓reduceIte, reduceCtorEq, Nat.reduceEqDiff, forall_const, implies_true, Nat.reduceAdd, Nat.reduceSub, Nat.reduceMul, Nat.reduceLT, Nat.reduceLeDiff, Int.reduceToNat, Int.reduceAdd, Int.reduceSub, Int.reduceNeg, Int.reduceMul, Int.reduceLT, Int.reduceLE, Int.reduceEq]; rfl
  rintro ⟨k, v⟩ hk
  simp only at hk ⊢
  have hNk := rcv_N M (l.take k)
  have hW := rcv_W h (l.take k)
  have htl : (l.take k).length ≤ k := List.length_take_le ..
  cases hc : l[k]? with
  | none =>
    have hge : l.length ≤ k := List.getElem?_eq_none_iff.1 hc
    have hlt : ¬ ((k : Int) < l.length) := by omega
    rw [List.take_of_length_le hge] at hNk ⊢
    simp (disch := first | omega | (simp only [List.length_cons, List.length_nil, List.length_map, List.length_drop]; omega)) only [stSl, List.length_map, dF hlt, evSt, ↓evPre, ↓evPreW, evPost, evPostW, ← List.map_take, ← List.map_drop, ↓reduceIte, reduceCtorEq, Nat.reduceEqDiff, forall_const, implies_true, Nat.reduceAdd, Nat.reduceSub, Nat.reduceMul, Nat.reduceLT, Nat.reduceLeDiff, Int.reduceToNat, Int.reduceAdd, Int.reduceSub, Int.reduceNeg, Int.reduceMul, Int.reduceLT, Int.reduceLE, Int.reduceEq]
    exact ⟨_, rst A B v (rcv M l).1, (rst_neat hn).self, .imm rfl, by rw [rst_len, rst_len]; exact Nat.le_refl _, rfl, v, rfl⟩
  | some x =>
    have hlt' := (List.getElem?_eq_some_iff.1 hc).1
    have hlt : (k : Int) < l.length := by omega
    have hnx := rcv_take (M := M) hc
    have hk1 : (k : Int) + 1 = ((k + 1 : Nat) : Int) := by omega
    have hback : ∀ (E : Env) (T : Store) (p : Mi × Nat) (v : Nat), rcv M (l.take (k + 1)) = p → sub [(0, .ptr A.length 0 0 0), (1, stSl l), (6, .int .i64 ((k + 1 : Nat) : Int)), (5, .int .i64 (p.2 : Nat))] E →
        ∃ i' : Nat × Nat, i'.1 ≤ l.length ∧ l.length - i'.1 < l.length - k ∧
          Back [(0, .ptr A.length 0 0 0), (1, stSl l), (6, .int .i64 (i'.1 : Nat)), (5, .int .i64 ((rcv M (l.take i'.1)).2 : Nat))] (rst A B i'.2 (rcv M (l.take i'.1)).1) E (rst A B v p.1 ++ T) := fun E T p v hp hE => by
      refine ⟨(k + 1, v), by simp only; omega, by simp only; omega, ?_⟩
      simp only [hp]
      refine back_under ((rst_neat hn).fgt _) hE ?_
      have e1 : A.length < rfN A B := by unfold rfN; omega
      simp [rst_len, V.under, stSl, e1]
    generalize rcv M (l.take k) = p at hNk hW hnx ⊢
    obtain ⟨M1, n⟩ := p
    simp only at hNk hW ⊢
    have hRl := hW.len
    have hn1 : (n : Int) + 1 = ((n + 1 : Nat) : Int) := by omega
    have hput : ∀ (L : Store), CallA Try.prog 23 [.ptr A.length 0 0 0, stV x] (rst A B v M1 ++ L) fun r S' => r = .int .i64 (putF M1 x).1 ∧ ∃ v', S' = rst A B v' (putF M1 x).2 ++ L := fun L => PutRL_A A B M1 v L (by omega) (by omega) x
    simp (disch := first | omega | (simp only [List.length_cons, List.length_nil, List.length_map, List.length_drop]; omega)) only [stSl, stR, List.length_map, List.getElem?_map, Option.map_some, hc, dT hlt, rst, evR, evSt, ↓evPre, ↓evPreW, evPost, evPostW, ← List.map_take, ← List.map_drop, ↓reduceIte, reduceCtorEq, Nat.reduceEqDiff, forall_const, implies_true, Nat.reduceAdd, Nat.reduceSub, Nat.reduceMul, Nat.reduceLT, Nat.reduceLeDiff, Int.reduceToNat, Int.reduceAdd, Int.reduceSub, Int.reduceNeg, Int.reduceMul, Int.reduceLT, Int.reduceLE, Int.reduceEq]
    refine ⟨?_, ?_⟩
    · refine (GetR_A A B M1 v (by omega) x.t x.c).then ?_
      cases hg : gR M1 x with
      | none =>
        have hne : gR (M1, n).1 x ≠ some x := by rw [hg]; intro e; cases e
        rw [rc1_put hne] at hnx
        rw [getF_none hg]
        simp (disch := first | omega | (simp only [List.length_cons, List.length_nil, List.length_map, List.length_drop]; omega)) only [hc, stSl, stV, stR, List.length_map, List.getElem?_map, Option.map_some, rst, evR, evSt, ↓evPre, ↓evPreW, evPost, evPostW, ← List.map_take, ← List.map_drop, ↓reduceIte, reduceCtorEq, Nat.reduceEqDiff, forall_const, implies_true, Nat.reduceAdd, Nat.reduceSub, Nat.reduceMul, Nat.reduceLT, Nat.reduceLeDiff, Int.reduceToNat, Int.reduceAdd, Int.reduceSub, Int.reduceNeg, Int.reduceMul, Int.reduceLT, Int.reduceLE, Int.reduceEq]
        refine (hput _).mono ?_
        rintro r S' ⟨rfl, v2, hS'⟩
        subst hS'
        by_cases h0 : (putF M1 x).1 = 0
        · rw [if_pos h0] at hnx
          simp (disch := first | omega | (simp only [List.length_cons, List.length_nil, List.length_map, List.length_drop]; omega)) only [dT h0, hk1, hn1, wrap_i64, stSl, stV, stR, List.length_map, List.getElem?_map, Option.map_some, rst, evR, evSt, ↓evPre, ↓evPreW, evPost, evPostW, ← List.map_take, ← List.map_drop, ↓reduceIte, reduceCtorEq, Nat.reduceEqDiff, forall_const, implies_true, Nat.reduceAdd, Nat.reduceSub, Nat.reduceMul, Nat.reduceLT, Nat.reduceLeDiff, Int.reduceToNat, Int.reduceAdd, Int.reduceSub, Int.reduceNeg, Int.reduceMul, Int.reduceLT, Int.reduceLE, Int.reduceEq]
          exact hback _ _ _ v2 hnx ⟨rfl, rfl, rfl, rfl, trivial⟩
        · rw [if_neg h0] at hnx
          simp (disch := first | omega | (simp only [List.length_cons, List.length_nil, List.length_map, List.length_drop]; omega)) only [dF h0, hk1, wrap_i64, stSl, stV, stR, List.length_map, List.getElem?_map, Option.map_some, rst, evR, evSt, ↓evPre, ↓evPreW, evPost, evPostW, ← List.map_take, ← List.map_drop, ↓reduceIte, reduceCtorEq, Nat.reduceEqDiff, forall_const, implies_true, Nat.reduceAdd, Nat.reduceSub, Nat.reduceMul, Nat.reduceLT, Nat.reduceLeDiff, Int.reduceToNat, Int.reduceAdd, Int.reduceSub, Int.reduceNeg, Int.reduceMul, Int.reduceLT, Int.reduceLE, Int.reduceEq]
          exact hback _ _ _ v2 hnx ⟨rfl, rfl, rfl, rfl, trivial⟩
      | some y =>
        rw [getF_some hg]
        by_cases hxy : y = x
        · subst hxy
          rw [rc1_same (show gR (M1, n).1 y = some y from hg)] at hnx
          simp (disch := first | omega | (simp only [List.length_cons, List.length_nil, List.length_map, List.length_drop]; omega)) only [hc, eqd_st, decide_true, hk1, wrap_i64, stSl, stV, stR, List.length_map, List.getElem?_map, Option.map_some, rst, evR, evSt, ↓evPre, ↓evPreW, evPost, evPostW, ← List.map_take, ← List.map_drop, ↓reduceIte, reduceCtorEq, Nat.reduceEqDiff, forall_const, implies_true, Nat.reduceAdd, Nat.reduceSub, Nat.reduceMul, Nat.reduceLT, Nat.reduceLeDiff, Int.reduceToNat, Int.reduceAdd, Int.reduceSub, Int.reduceNeg, Int.reduceMul, Int.reduceLT, Int.reduceLE, Int.reduceEq]
          exact hback _ _ _ v hnx ⟨rfl, rfl, rfl, rfl, trivial⟩
        · have hne : gR (M1, n).1 x ≠ some x := by rw [hg]; intro e; cases e; exact hxy rfl
          rw [rc1_put hne] at hnx
          simp (disch := first | omega | (simp only [List.length_cons, List.length_nil, List.length_map, List.length_drop]; omega)) only [hc, eqd_st, dF hxy, stSl, stV, stR, List.length_map, List.getElem?_map, Option.map_some, rst, evR, evSt, ↓evPre, ↓evPreW, evPost, evPostW, ← List.map_take, ← List.map_drop, ↓reduceIte, reduceCtorEq, Nat.reduceEqDiff, forall_const, implies_true, Nat.reduceAdd, Nat.reduceSub, Nat.reduceMul, Nat.reduceLT, Nat.reduceLeDiff, Int.reduceToNat, Int.reduceAdd, Int.reduceSub, Int.reduceNeg, Int.reduceMul, Int.reduceLT, Int.reduceLE, Int.reduceEq]
          refine (hput _).mono ?_
          rintro r S' ⟨rfl, v2, hS'⟩
          subst hS'
          by_cases h0 : (putF M1 x).1 = 0
          · rw [if_pos h0] at hnx
            simp (disch := first | omega | (simp only [List.length_cons, List.length_nil, List.length_map, List.length_drop]; omega)) only [dT h0, hk1, hn1, wrap_i64, stSl, stV, stR, List.length_map, List.getElem?_map, Option.map_some, rst, evR, evSt, ↓evPre, ↓evPreW, evPost, evPostW, ← List.map_take, ← List.map_drop, ↓reduceIte, reduceCtorEq, Nat.reduceEqDiff, forall_const, implies_true, Nat.reduceAdd, Nat.reduceSub, Nat.reduceMul, Nat.reduceLT, Nat.reduceLeDiff, Int.reduceToNat, Int.reduceAdd, Int.reduceSub, Int.reduceNeg, Int.reduceMul, Int.reduceLT, Int.reduceLE, Int.reduceEq]
            exact hback _ _ _ v2 hnx ⟨rfl, rfl, rfl, rfl, trivial⟩
          · rw [if_neg h0] at hnx
            simp (disch := first | omega | (simp only [List.length_cons, List.length_nil, List.length_map, List.length_drop]; omega)) only [dF h0, hk1, wrap_i64, stSl, stV, stR, List.length_map, List.getElem?_map, Option.map_some, rst, evR, evSt, ↓evPre, ↓evPreW, evPost, evPostW, ← List.map_take, ← List.map_drop, ↓reduceIte, reduceCtorEq, Nat.reduceEqDiff, forall_const, implies_true, Nat.reduceAdd, Nat.reduceSub, Nat.reduceMul, Nat.reduceLT, Nat.reduceLeDiff, Int.reduceToNat, Int.reduceAdd, Int.reduceSub, Int.reduceNeg, Int.reduceMul, Int.reduceLT, Int.reduceLE, Int.reduceEq]
            exact hback _ _ _ v2 hnx ⟨rfl, rfl, rfl, rfl, trivial⟩
    · refine (GetRL_A A B M1 v _ (by omega) x.t x.c).then ?_
      cases hg : gR M1 x with
      | none =>
        have hne : gR (M1, n).1 x ≠ some x := by rw [hg]; intro e; cases e
        rw [rc1_put hne] at hnx
        rw [getF_none hg]
        simp (disch := first | omega | (simp only [List.length_cons, List.length_nil, List.length_map, List.length_drop]; omega)) only [hc, stSl, stV, stR, List.length_map, List.getElem?_map, Option.map_some, rst, evR, evSt, ↓evPre, ↓evPreW, evPost, evPostW, ← List.map_take, ← List.map_drop, ↓reduceIte, reduceCtorEq, Nat.reduceEqDiff, forall_const, implies_true, Nat.reduceAdd, Nat.reduceSub, Nat.reduceMul, Nat.reduceLT, Nat.reduceLeDiff, Int.reduceToNat, Int.reduceAdd, Int.reduceSub, Int.reduceNeg, Int.reduceMul, Int.reduceLT, Int.reduceLE, Int.reduceEq]
        refine (hput _).mono ?_
        rintro r S' ⟨rfl, v2, hS'⟩
        subst hS'
        by_cases h0 : (putF M1 x).1 = 0
        · rw [if_pos h0] at hnx
          simp (disch := first | omega | (simp only [List.length_cons, List.length_nil, List.length_map, List.length_drop]; omega)) only [dT h0, hk1, hn1, wrap_i64, stSl, stV, stR, List.length_map, List.getElem?_map, Option.map_some, rst, evR, evSt, ↓evPre, ↓evPreW, evPost, evPostW, ← List.map_take, ← List.map_drop, ↓reduceIte, reduceCtorEq, Nat.reduceEqDiff, forall_const, implies_true, Nat.reduceAdd, Nat.reduceSub, Nat.reduceMul, Nat.reduceLT, Nat.reduceLeDiff, Int.reduceToNat, Int.reduceAdd, Int.reduceSub, Int.reduceNeg, Int.reduceMul, Int.reduceLT, Int.reduceLE, Int.reduceEq]
          exact hback _ _ _ v2 hnx ⟨rfl, rfl, rfl, rfl, trivial⟩
        · rw [if_neg h0] at hnx
          simp (disch := first | omega | (simp only [List.length_cons, List.length_nil, List.length_map, List.length_drop]; omega)) only [dF h0, hk1, wrap_i64, stSl, stV, stR, List.length_map, List.getElem?_map, Option.map_some, rst, evR, evSt, ↓evPre, ↓evPreW, evPost, evPostW, ← List.map_take, ← List.map_drop, ↓reduceIte, reduceCtorEq, Nat.reduceEqDiff, forall_const, implies_true, Nat.reduceAdd, Nat.reduceSub, Nat.reduceMul, Nat.reduceLT, Nat.reduceLeDiff, Int.reduceToNat, Int.reduceAdd, Int.reduceSub, Int.reduceNeg, Int.reduceMul, Int.reduceLT, Int.reduceLE, Int.reduceEq]
          exact hback _ _ _ v2 hnx ⟨rfl, rfl, rfl, rfl, trivial⟩
      | some y =>
        rw [getF_some hg]
        by_cases hxy : y = x
        · subst hxy
          rw [rc1_same (show gR (M1, n).1 y = some y from hg)] at hnx
          simp (disch := first | omega | (simp only [List.length_cons, List.length_nil, List.length_map, List.length_drop]; omega)) only [hc, eqd_st, decide_true, hk1, wrap_i64, stSl, stV, stR, List.length_map, List.getElem?_map, Option.map_some, rst, evR, evSt, ↓evPre, ↓evPreW, evPost, evPostW, ← List.map_take, ← List.map_drop, ↓reduceIte, reduceCtorEq, Nat.reduceEqDiff, forall_const, implies_true, Nat.reduceAdd, Nat.reduceSub, Nat.reduceMul, Nat.reduceLT, Nat.reduceLeDiff, Int.reduceToNat, Int.reduceAdd, Int.reduceSub, Int.reduceNeg, Int.reduceMul, Int.reduceLT, Int.reduceLE, Int.reduceEq]
          exact hback _ _ _ v hnx ⟨rfl, rfl, rfl, rfl, trivial⟩
        · have hne : gR (M1, n).1 x ≠ some x := by rw [hg]; intro e; cases e; exact hxy rfl
          rw [rc1_put hne] at hnx
          simp (disch := first | omega | (simp only [List.length_cons, List.length_nil, List.length_map, List.length_drop]; omega)) only [hc, eqd_st, dF hxy, stSl, stV, stR, List.length_map, List.getElem?_map, Option.map_some, rst, evR, evSt, ↓evPre, ↓evPreW, evPost, evPostW, ← List.map_take, ← List.map_drop, ↓reduceIte, reduceCtorEq, Nat.reduceEqDiff, forall_const, implies_true, Nat.reduceAdd, Nat.reduceSub, Nat.reduceMul, Nat.reduceLT, Nat.reduceLeDiff, Int.reduceToNat, Int.reduceAdd, Int.reduceSub, Int.reduceNeg, Int.reduceMul, Int.reduceLT, Int.reduceLE, Int.reduceEq]
          refine (hput _).mono ?_
          rintro r S' ⟨rfl, v2, hS'⟩
          subst hS'
          by_cases h0 : (putF M1 x).1 = 0
          · rw [if_pos h0] at hnx
            simp (disch := first | omega | (simp only [List.length_cons, List.length_nil, List.length_map, List.length_drop]; omega)) only [dT h0, hk1, hn1, wrap_i64, stSl, stV, stR, List.length_map, List.getElem?_map, Option.map_some, rst, evR, evSt, ↓evPre, ↓evPreW, evPost, evPostW, ← List.map_take, ← List.map_drop, ↓reduceIte, reduceCtorEq, Nat.reduceEqDiff, forall_const, implies_true, Nat.reduceAdd, Nat.reduceSub, Nat.reduceMul, Nat.reduceLT, Nat.reduceLeDiff, Int.reduceToNat, Int.reduceAdd, Int.reduceSub, Int.reduceNeg, Int.reduceMul, Int.reduceLT, Int.reduceLE, Int.reduceEq]
            exact hback _ _ _ v2 hnx ⟨rfl, rfl, rfl, rfl, trivial⟩
          · rw [if_neg h0] at hnx
            simp (disch := first | omega | (simp only [List.length_cons, List.length_nil, List.length_map, List.length_drop]; omega)) only [dF h0, hk1, wrap_i64, stSl, stV, stR, List.length_map, List.getElem?_map, Option.map_some, rst, evR, evSt, ↓evPre, ↓evPreW, evPost, evPostW, ← List.map_take, ← List.map_drop, ↓reduceIte, reduceCtorEq, Nat.reduceEqDiff, forall_const, implies_true, Nat.reduceAdd, Nat.reduceSub, Nat.reduceMul, Nat.reduceLT, Nat.reduceLeDiff, Int.reduceToNat, Int.reduceAdd, Int.reduceSub, Int.reduceNeg, Int.reduceMul, Int.reduceLT, Int.reduceLE, Int.reduceEq]
            exact hback _ _ _ v2 hnx ⟨rfl, rfl, rfl, rfl, trivial⟩
end

/-! ### Filled -/
def fillM (l : List St) : Mi := l.foldl (fun M x => (putF M x).2) Mi0
theorem fill_snoc (l : List St) (x : St) : fillM (l ++ [x]) = (putF (fillM l) x).2 := by unfold fillM; rw [List.foldl_append]; rfl
theorem fill_take {l : List St} {k : Nat} {x : St} (h : l[k]? = some x) : fillM (l.take (k + 1)) = (putF (fillM (l.take k)) x).2 := by
  rw [List.take_add_one, h, Option.toList_some, fill_snoc]
theorem fill_all (l : List St) : (fillM l).N ≤ l.length ∧ Valid (fillM l) ∧ ∀ r ∈ (fillM l).R, r.1 ∈ l := by
  generalize hn : l.length = n
  induction n generalizing l with
  | zero => rw [List.length_eq_zero_iff.1 hn]; exact ⟨Nat.le_refl _, Valid0, fun r h => by cases h⟩
  | succ n ih =>
    have hne : l ≠ [] := fun h => by rw [h] at hn; cases hn
    obtain ⟨l', x, rfl⟩ : ∃ l' x, l = l' ++ [x] := ⟨l.dropLast, l.getLast hne, (List.dropLast_concat_getLast hne).symm⟩
    rw [fill_snoc]
    obtain ⟨h1, h2, h3⟩ := ih l' (by simpa using hn)
    have h4 := putF_N (fillM l') x
    refine ⟨by omega, ?_, ?_⟩
    · rcases putF_cases (fillM l') x with ⟨_, e⟩ | ⟨e, h5, _⟩
      · rw [e]; exact h2
      · rw [e]
        intro r hr
        rcases updR_mem hr with rfl | hr
        · exact ⟨by simp only; omega, by simp only; omega, by simp only; omega⟩
        · exact h2 r hr
    · intro r hr
      rw [List.mem_append]
      rcases putF_cases (fillM l') x with ⟨_, e⟩ | ⟨e, h5, _⟩
      · rw [e] at hr; exact .inl (h3 r hr)
      · rw [e] at hr
        rcases updR_mem hr with rfl | hr
        · exact .inr (by simp)
        · exact .inl (h3 r hr)

section
variable (S L : Store) (M : Mi) (Q : Qs) (C : Cs) (v : Nat) (K : Mi)
theorem duom : duo S M Q C v K ++ L = mst S (robs (S.length + 4) v K ++ L) M Q C := by rw [duo, mst_app]
theorem duorl : duo S M Q C v K ++ L = rst (mst S [] M Q C) L v K := by rw [duo_r, rst_app, List.nil_append]
theorem putD_A (h : MOk M Q C) (hN : M.N ≤ 1000000) (x : St) : CallA Try.prog 22 [.ptr (S.length + 3) 0 0 0, stV x] (duo S M Q C v K) fun r S' => r = .int .i64 (putF M x).1 ∧ ∃ Q1 C1, MOk (putF M x).2 Q1 C1 ∧ S' = duo S (putF M x).2 Q1 C1 v K :=
  Put_A S _ M Q C h hN x
theorem putRD_A (hl : K.R.length ≤ 1000000) (hN : K.N ≤ 1000000) (x : St) : CallA Try.prog 23 [.ptr (S.length + 4) 0 0 0, stV x] (duo S M Q C v K) fun r S' => r = .int .i64 (putF K x).1 ∧ ∃ v', S' = duo S M Q C v' (putF K x).2 := by
  have := PutR_A (mst S [] M Q C) [] K v hl hN x
  rw [mst0_len] at this
  rw [duo_r]
  exact this.mono fun r S' k => ⟨k.1, by obtain ⟨v', h⟩ := k.2; exact ⟨v', by rw [h, duo_r]⟩⟩
end
theorem filled_A (S : Store) (l : List St) (hl : l.length ≤ 1000) : CallA Try.prog 11 [stSl l] S fun r S' => r = .tup [.ptr (S.length + 3) 0 0 0, .ptr (S.length + 4) 0 0 0, .bool true] ∧ ∃ Q C v, MOk (fillM l) Q C ∧ S' = duo S (fillM l) Q C v (fillM l) := by
  refine CallA.keep Try.func11 c211 (Nat.le_of_ble_eq_true rfl) fun σ hσ => ?_
  simp (disch := first | omega | (simp only [List.length_cons, List.length_nil, List.length_map, List.length_drop]; omega)) only [a211, stSl, evSt, ↓evPre, ↓evPreW, evPost, evPostW, ← List.map_take, ← List.map_drop, ↓reduceIte, reduceCtorEq, Nat.reduceEqDiff, forall_const, implies_true, Nat.reduceAdd, Nat.reduceSub, Nat.reduceMul, Nat.reduceLT, Nat.reduceLeDiff, Int.reduceToNat, Int.reduceAdd, Int.reduceSub, Int.reduceNeg, Int.reduceMul, Int.reduceLT, Int.reduceLE, Int.reduceEq]
  refine (New_A S).then2 ?_
  simp (disch := first | omega | (simp only [List.length_cons, List.length_nil, List.length_map, List.length_drop]; omega)) only [evSt, ↓evPre, ↓evPreW, evPost, evPostW, ← List.map_take, ← List.map_drop, ↓reduceIte, reduceCtorEq, Nat.reduceEqDiff, forall_const, implies_true, Nat.reduceAdd, Nat.reduceSub, Nat.reduceMul, Nat.reduceLT, Nat.reduceLeDiff, Int.reduceToNat, Int.reduceAdd, Int.reduceSub, Int.reduceNeg, Int.reduceMul, Int.reduceLT, Int.reduceLE, Int.reduceEq]
  refine (NewRD_A S _ _ _).then2 ?_
  simp (disch := first | omega | (simp only [List.length_cons, List.length_nil, List.length_map, List.length_drop]; omega)) only [evSt, ↓evPre, ↓evPreW, evPost, evPostW, ← List.map_take, ← List.map_drop, ↓reduceIte, reduceCtorEq, Nat.reduceEqDiff, forall_const, implies_true, Nat.reduceAdd, Nat.reduceSub, Nat.reduceMul, Nat.reduceLT, Nat.reduceLeDiff, Int.reduceToNat, Int.reduceAdd, Int.reduceSub, Int.reduceNeg, Int.reduceMul, Int.reduceLT, Int.reduceLE, Int.reduceEq]
  refine loopA (ι := Nat × Qs × Cs × Nat) (fun p => [(0, stSl l), (5, .ptr (S.length + 3) 0 0 0), (6, .ptr (S.length + 4) 0 0 0), (7, .int .i64 (p.1 : Nat))]) (fun p => duo S (fillM (l.take p.1)) p.2.1 p.2.2.1 p.2.2.2 (fillM (l.take p.1)))
    (fun p => p.1 ≤ l.length ∧ MOk (fillM (l.take p.1)) p.2.1 p.2.2.1) (fun p => l.length - p.1) (0, [], [], 0) ⟨Nat.zero_le _, MOk0⟩ ?_ rfl ?_
  · simp only [stSl, ↓evPre, ↓evPreW, evPost, evPostW, ← List.map_take, ← List.map_drop, ↓reduceIte, reduceCtorEq, Nat.reduceEqDiff, forall_const, implies_true, Nat.reduceAdd, Nat.reduceSub, Nat.reduceMul, Nat.reduceLT, Nat.reduceLeDiff, Int.reduceToNat, Int.reduceAdd, Int.reduceSub, Int.reduceNeg, Int.reduceMul, Int.reduceLT, Int.reduceLE, Int.reduceEq]
  rintro ⟨k, Q, C, v⟩ ⟨hk, hm⟩
  simp only at hk hm ⊢
  have hfa := (fill_all (l.take k)).1
  have htl : (l.take k).length ≤ k := List.length_take_le ..
  have hRl := hm.wf.len
  cases hc : l[k]? with
  | none =>
    have hge : l.length ≤ k := List.getElem?_eq_none_iff.1 hc
    have hlt : ¬ ((k : Int) < l.length) := by omega
    rw [List.take_of_length_le hge] at hm ⊢
    simp (disch := first | omega | (simp only [List.length_cons, List.length_nil, List.length_map, List.length_drop]; omega)) only [stSl, List.length_map, dF hlt, evSt, ↓evPre, ↓evPreW, evPost, evPostW, ← List.map_take, ← List.map_drop, ↓reduceIte, reduceCtorEq, Nat.reduceEqDiff, forall_const, implies_true, Nat.reduceAdd, Nat.reduceSub, Nat.reduceMul, Nat.reduceLT, Nat.reduceLeDiff, Int.reduceToNat, Int.reduceAdd, Int.reduceSub, Int.reduceNeg, Int.reduceMul, Int.reduceLT, Int.reduceLE, Int.reduceEq]
    exact ⟨Q, C, v, hm, rfl⟩
  | some x =>
    have hlt' := (List.getElem?_eq_some_iff.1 hc).1
    have hlt : (k : Int) < l.length := by omega
    have hnx := fill_take hc
    have hk1 : (k : Int) + 1 = ((k + 1 : Nat) : Int) := by omega
    generalize fillM (l.take k) = M1 at hm hfa hRl hnx ⊢
    simp (disch := first | omega | (simp only [List.length_cons, List.length_nil, List.length_map, List.length_drop]; omega)) only [stSl, stR, List.length_map, List.getElem?_map, Option.map_some, hc, dT hlt, evSt, ↓evPre, ↓evPreW, evPost, evPostW, ← List.map_take, ← List.map_drop, ↓reduceIte, reduceCtorEq, Nat.reduceEqDiff, forall_const, implies_true, Nat.reduceAdd, Nat.reduceSub, Nat.reduceMul, Nat.reduceLT, Nat.reduceLeDiff, Int.reduceToNat, Int.reduceAdd, Int.reduceSub, Int.reduceNeg, Int.reduceMul, Int.reduceLT, Int.reduceLE, Int.reduceEq]
    refine (putD_A S M1 Q C v M1 hm (by omega) x).mono ?_
    rintro r S' ⟨rfl, Q1, C1, hm1, hS'⟩
    subst hS'
    simp (disch := first | omega | (simp only [List.length_cons, List.length_nil, List.length_map, List.length_drop]; omega)) only [evSt, ↓evPre, ↓evPreW, evPost, evPostW, ← List.map_take, ← List.map_drop, ↓reduceIte, reduceCtorEq, Nat.reduceEqDiff, forall_const, implies_true, Nat.reduceAdd, Nat.reduceSub, Nat.reduceMul, Nat.reduceLT, Nat.reduceLeDiff, Int.reduceToNat, Int.reduceAdd, Int.reduceSub, Int.reduceNeg, Int.reduceMul, Int.reduceLT, Int.reduceLE, Int.reduceEq]
    refine (putRD_A S (putF M1 x).2 Q1 C1 v M1 (by omega) (by omega) x).mono ?_
    rintro r S' ⟨rfl, v1, hS'⟩
    subst hS'
    simp (disch := first | omega | (simp only [List.length_cons, List.length_nil, List.length_map, List.length_drop]; omega)) only [hk1, wrap_i64, evSt, ↓evPre, ↓evPreW, evPost, evPostW, ← List.map_take, ← List.map_drop, ↓reduceIte, reduceCtorEq, Nat.reduceEqDiff, forall_const, implies_true, Nat.reduceAdd, Nat.reduceSub, Nat.reduceMul, Nat.reduceLT, Nat.reduceLeDiff, Int.reduceToNat, Int.reduceAdd, Int.reduceSub, Int.reduceNeg, Int.reduceMul, Int.reduceLT, Int.reduceLE, Int.reduceEq]
    exact ⟨(k + 1, Q1, C1, v1), ⟨by simp only; omega, by rw [hnx]; exact hm1⟩, by simp only; omega, by simp only [hnx, stSl, ↓evPre, ↓evPreW, evPost, evPostW, ← List.map_take, ← List.map_drop, ↓reduceIte, reduceCtorEq, Nat.reduceEqDiff, forall_const, implies_true, Nat.reduceAdd, Nat.reduceSub, Nat.reduceMul, Nat.reduceLT, Nat.reduceLeDiff, Int.reduceToNat, Int.reduceAdd, Int.reduceSub, Int.reduceNeg, Int.reduceMul, Int.reduceLT, Int.reduceLE, Int.reduceEq]⟩
end Go.Proofs.Ytdkcicbpcagonab
