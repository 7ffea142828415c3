/- The reference's mirror: Changes, Event, Since; calls of it and of a mirror before it. -/
import Derived.Test.YtdkcicbpcagonaaRef1
import Derived.Test.YtdkcicbpcagonaaMirQ
namespace Go.Proofs.Ytdkcicbpcagonaa
open Go Go.AL
set_option linter.unusedSimpArgs false
set_option linter.unusedVariables false

/-! ## The reference's mirror: Changes, Event, Since; a call of it. -/
/-- What changed since, as the reference gathers it. -/
def sq (M : Mi) (c : Int) (j : Nat) : List St := (List.range' 1 j).filterMap fun m => if c < (m : Nat) then (fAt M.R m).map (·.1) else none
theorem fmc {α β : Type} {f g : α → Option β} : ∀ {l : List α}, (∀ x ∈ l, f x = g x) → l.filterMap f = l.filterMap g
  | [], _ => rfl
  | x :: l, h => by
    rw [List.filterMap_cons, List.filterMap_cons, h x (List.mem_cons_self ..), fmc fun y hy => h y (List.mem_cons_of_mem _ hy)]
theorem sq_all (M : Mi) (c : Int) : sq M c M.N = sinceL M (cutN M c) := by
  have hk := cutN_le M c
  have hs : List.range' 1 M.N = List.range' 1 (cutN M c) ++ List.range' (cutN M c + 1) (M.N - cutN M c) := by
    have h1 := List.range'_append_1 (s := 1) (m := cutN M c) (n := M.N - cutN M c)
    rw [show cutN M c + 1 = 1 + cutN M c by omega, h1]
    congr 1; omega
  unfold sq sinceL
  rw [hs, List.filterMap_append]
  have e1 : (List.range' 1 (cutN M c)).filterMap (fun m => if c < (m : Nat) then (fAt M.R m).map (·.1) else none) = [] := by
    rw [List.filterMap_eq_nil_iff]
    intro m hm
    rw [List.mem_range'_1] at hm
    rw [if_neg]
    unfold cutN at hm
    omega
  have e2 : (List.range' (cutN M c + 1) (M.N - cutN M c)).filterMap (fun m => if c < (m : Nat) then (fAt M.R m).map (·.1) else none) = (List.range' (cutN M c + 1) (M.N - cutN M c)).filterMap (fun n => (fAt M.R n).map (·.1)) := by
    refine fmc fun m hm => ?_
    rw [List.mem_range'_1] at hm
    rw [if_pos]
    unfold cutN at hm
    omega
  rw [e1, e2, List.nil_append]
theorem filter_fAt (n : Nat) : ∀ {R : List Rw}, (R.Pairwise fun r q => r.2 ≠ q.2) → R.filter (fun r => decide (n = r.2)) = (fAt R n).toList
  | [], _ => rfl
  | r :: R, h => by
    rw [List.pairwise_cons] at h
    have ih := filter_fAt n h.2
    unfold fAt at ih ⊢
    rw [List.filter_cons, List.find?_cons]
    by_cases hn : n = r.2
    · simp only [hn, decide_true, if_true, Option.toList_some]
      congr 1
      rw [List.filter_eq_nil_iff]
      intro q hq
      have := h.1 q hq
      simp only [decide_eq_true_eq]
      exact this
    · simp only [hn, decide_false, Bool.false_eq_true, if_false]
      exact ih
/-- Within a number: the rows looked at so far. -/
def sqi (M : Mi) (c : Int) (j i : Nat) : List St := sq M c j ++ ((M.R.take i).filter fun r => decide (j + 1 = r.2) && decide (c < ((j + 1 : Nat) : Int))).map (·.1)
theorem sqi_zero (M : Mi) (c : Int) (j : Nat) : sqi M c j 0 = sq M c j := by simp [sqi]
theorem sqi_last {M : Mi} (h : WF M) (c : Int) (j : Nat) : sqi M c j M.R.length = sq M c (j + 1) := by
  unfold sqi
  rw [List.take_length]
  have e : sq M c (j + 1) = sq M c j ++ (if c < ((j + 1 : Nat) : Int) then ((fAt M.R (j + 1)).map (·.1)).toList else []) := by
    unfold sq
    rw [List.range'_concat, List.filterMap_append, Nat.one_mul, Nat.add_comm 1 j]
    congr 1
    rw [List.filterMap_cons, List.filterMap_nil]
    by_cases hc : c < ((j + 1 : Nat) : Int)
    · rw [if_pos hc, if_pos hc]
      cases hf : fAt M.R (j + 1) <;> rfl
    · rw [if_neg hc, if_neg hc]
  rw [e]
  congr 1
  by_cases hc : c < ((j + 1 : Nat) : Int)
  · have : (fun r : Rw => decide (j + 1 = r.2) && decide (c < ((j + 1 : Nat) : Int))) = fun r => decide (j + 1 = r.2) := by funext r; rw [dT hc, Bool.and_true]
    rw [this, filter_fAt _ h.ats, if_pos hc]
    cases fAt M.R (j + 1) <;> rfl
  · rw [if_neg hc]
    have : (fun r : Rw => decide (j + 1 = r.2) && decide (c < ((j + 1 : Nat) : Int))) = fun r => false := by funext r; rw [dF hc, Bool.and_false]
    rw [this]
    simp
theorem sqi_step {M : Mi} {c : Int} {j i : Nat} {r : Rw} (h : M.R[i]? = some r) : sqi M c j (i + 1) = sqi M c j i ++ if j + 1 = r.2 ∧ c < ((j + 1 : Nat) : Int) then [r.1] else [] := by
  unfold sqi
  rw [List.take_add_one, h, Option.toList_some, List.filter_append, List.map_append, List.append_assoc]
  congr 2
  by_cases hc : j + 1 = r.2 ∧ c < ((j + 1 : Nat) : Int)
  · rw [if_pos hc, List.filter_cons, dT hc.1, dT hc.2]; rfl
  · rw [if_neg hc]
    have : (decide (j + 1 = r.2) && decide (c < ((j + 1 : Nat) : Int))) = false := by
      rw [Bool.and_eq_false_iff]; simp only [decide_eq_false_iff_not]; omega
    rw [List.filter_cons, this]; rfl
theorem sq_len (M : Mi) (c : Int) (j : Nat) : (sq M c j).length ≤ j := by
  have := List.length_filterMap_le (fun m => if c < ((m : Nat) : Int) then (fAt M.R m).map (·.1) else none) (List.range' 1 j)
  simpa [sq] using this
theorem sqi_len (M : Mi) (c : Int) (j i : Nat) : (sqi M c j i).length ≤ j + M.R.length := by
  have h1 := sq_len M c j
  have h2 := List.length_filter_le (fun r : Rw => decide (j + 1 = r.2) && decide (c < ((j + 1 : Nat) : Int))) (M.R.take i)
  have h3 : (M.R.take i).length ≤ M.R.length := by rw [List.length_take]; omega
  unfold sqi
  simp only [List.length_append, List.length_map]
  omega

section
variable (A B : Store) (M : Mi) (v : Nat)
theorem ChangesR_A : CallA Try.prog 17 [.ptr A.length 0 0 0] (rst A B v M) fun r S' => r = .int .i64 (M.N : Nat) ∧ S' = rst A B v M := by
  refine CallA.keep Try.func17 c17 (Nat.le_of_ble_eq_true rfl) fun σ hσ => ?_
  simp (disch := first | omega | (simp only [List.length_cons, List.length_nil, List.length_map, List.length_drop]; omega)) only [a17, rst, evR, evSt, ↓evPre, ↓evPreW, evPost, evPostW, ← List.map_take, ← List.map_drop, ↓reduceIte, reduceCtorEq, Nat.reduceEqDiff, forall_const, implies_true, Nat.reduceAdd, Nat.reduceSub, Nat.reduceMul, Nat.reduceLT, Nat.reduceLeDiff, Int.reduceToNat, Int.reduceAdd, Int.reduceSub, Int.reduceNeg, Int.reduceMul, Int.reduceLT, Int.reduceLE, Int.reduceEq]

theorem SinceR_A (h : WF M) (hN : M.N ≤ 1000) (c : Int) : CallA Try.prog 20 [.ptr A.length 0 0 0, .int .i64 c] (rst A B v M) fun r S' => r = stSl (sinceL M (cutN M c)) ∧ S' = rst A B v M := by
  refine CallA.withNeat Try.func20 c20 fun hn => ?_
  refine CallA.fin Try.func20 c20 (Nat.le_of_ble_eq_true rfl) fun σ hσ => ?_
  have hl := h.len
  simp (disch := first | omega | (simp only [List.length_cons, List.length_nil, List.length_map, List.length_drop]; omega)) only [a20, evSt, ↓evPre, ↓evPreW, evPost, evPostW, ← List.map_take, ← List.map_drop, ↓reduceIte, reduceCtorEq, Nat.reduceEqDiff, forall_const, implies_true, Nat.reduceAdd, Nat.reduceSub, Nat.reduceMul, Nat.reduceLT, Nat.reduceLeDiff, Int.reduceToNat, Int.reduceAdd, Int.reduceSub, Int.reduceNeg, Int.reduceMul, Int.reduceLT, Int.reduceLE, Int.reduceEq]
  refine LoopA.ghost 5 0 29 4 (by simp only [↓evPre, ↓evPreW, evPost, evPostW, ← List.map_take, ← List.map_drop, ↓reduceIte, reduceCtorEq, Nat.reduceEqDiff, forall_const, implies_true, Nat.reduceAdd, Nat.reduceSub, Nat.reduceMul, Nat.reduceLT, Nat.reduceLeDiff, Int.reduceToNat, Int.reduceAdd, Int.reduceSub, Int.reduceNeg, Int.reduceMul, Int.reduceLT, Int.reduceLE, Int.reduceEq]) ?_
  refine loopA (ι := Nat) (fun j => [(0, .ptr A.length 0 0 0), (1, .int .i64 c), (5, .msl (rfN A B) (sq M c j).length 0 (sq M c j).length), (6, .int .i64 ((j + 1 : Nat) : Int))]) (fun j => rst A B v M ++ [⟨(sq M c j).length, some (.arr 29 4 ((sq M c j).map stR))⟩]) (fun j => j ≤ M.N) (fun j => M.N - j) 0 (Nat.zero_le _) ?_ ?_ ?_
  · simp only [rst_len, ↓evPre, ↓evPreW, evPost, evPostW, ← List.map_take, ← List.map_drop, ↓reduceIte, reduceCtorEq, Nat.reduceEqDiff, forall_const, implies_true, Nat.reduceAdd, Nat.reduceSub, Nat.reduceMul, Nat.reduceLT, Nat.reduceLeDiff, Int.reduceToNat, Int.reduceAdd, Int.reduceSub, Int.reduceNeg, Int.reduceMul, Int.reduceLT, Int.reduceLE, Int.reduceEq]; rfl
  · rfl
  intro j hj
  by_cases hjn : j < M.N
  · have hlt : ((j + 1 : Nat) : Int) ≤ (M.N : Nat) := by omega
    simp (disch := first | omega | (simp only [List.length_cons, List.length_nil, List.length_map, List.length_drop]; omega)) only [rst, evR, dT hlt, evSt, ↓evPre, ↓evPreW, evPost, evPostW, ← List.map_take, ← List.map_drop, ↓reduceIte, reduceCtorEq, Nat.reduceEqDiff, forall_const, implies_true, Nat.reduceAdd, Nat.reduceSub, Nat.reduceMul, Nat.reduceLT, Nat.reduceLeDiff, Int.reduceToNat, Int.reduceAdd, Int.reduceSub, Int.reduceNeg, Int.reduceMul, Int.reduceLT, Int.reduceLE, Int.reduceEq]
    refine loopA (ι := Nat) (fun i => [(0, .ptr A.length 0 0 0), (1, .int .i64 c), (5, .msl (rfN A B) (sqi M c j i).length 0 (sqi M c j i).length), (6, .int .i64 ((j + 1 : Nat) : Int)), (7, .int .i64 (i : Nat))]) (fun i => rst A B v M ++ [⟨(sqi M c j i).length, some (.arr 29 4 ((sqi M c j i).map stR))⟩]) (fun i => i ≤ M.R.length) (fun i => M.R.length - i) 0 (Nat.zero_le _) ?_ ?_ ?_
    · simp only [sqi_zero, ↓evPre, ↓evPreW, evPost, evPostW, ← List.map_take, ← List.map_drop, ↓reduceIte, reduceCtorEq, Nat.reduceEqDiff, forall_const, implies_true, Nat.reduceAdd, Nat.reduceSub, Nat.reduceMul, Nat.reduceLT, Nat.reduceLeDiff, Int.reduceToNat, Int.reduceAdd, Int.reduceSub, Int.reduceNeg, Int.reduceMul, Int.reduceLT, Int.reduceLE, Int.reduceEq]
    · simp only [rst, sqi_zero]
    intro i hi
    cases hc : M.R[i]? with
    | none =>
      have hge : M.R.length ≤ i := List.getElem?_eq_none_iff.1 hc
      have hlt2 : ¬ ((i : Int) < M.R.length) := by omega
      have hii : i = M.R.length := by omega
      subst hii
      rw [sqi_last h]
      simp (disch := first | omega | (simp only [List.length_cons, List.length_nil, List.length_map, List.length_drop]; omega)) only [rst, evR, dF hlt2, wrap_i64, evSt, ↓evPre, ↓evPreW, evPost, evPostW, ← List.map_take, ← List.map_drop, ↓reduceIte, reduceCtorEq, Nat.reduceEqDiff, forall_const, implies_true, Nat.reduceAdd, Nat.reduceSub, Nat.reduceMul, Nat.reduceLT, Nat.reduceLeDiff, Int.reduceToNat, Int.reduceAdd, Int.reduceSub, Int.reduceNeg, Int.reduceMul, Int.reduceLT, Int.reduceLE, Int.reduceEq]
      exact ⟨j + 1, by omega, by omega, ⟨rfl, by omega⟩, rfl⟩
    | some r =>
      have hlt' := (List.getElem?_eq_some_iff.1 hc).1
      have hlt2 : (i : Int) < M.R.length := by omega
      have hst := sqi_step (c := c) (j := j) hc
      have hsl := sqi_len M c j i
      generalize sqi M c j i = out at hst hsl ⊢
      by_cases h1 : j + 1 = r.2
      · have h1' : ((r.2 : Nat) : Int) = ((j + 1 : Nat) : Int) := by omega
        by_cases h2 : c < ((j + 1 : Nat) : Int)
        · rw [if_pos ⟨h1, h2⟩] at hst
          simp (disch := first | omega | (simp only [List.length_cons, List.length_nil, List.length_map, List.length_drop]; omega)) only [rst, evR, rwR, List.length_map, List.getElem?_map, Option.map_some, hc, dT hlt2, dT h1', dT h2, wrap_i64, evSt, ↓evPre, ↓evPreW, evPost, evPostW, ← List.map_take, ← List.map_drop, ↓reduceIte, reduceCtorEq, Nat.reduceEqDiff, forall_const, implies_true, Nat.reduceAdd, Nat.reduceSub, Nat.reduceMul, Nat.reduceLT, Nat.reduceLeDiff, Int.reduceToNat, Int.reduceAdd, Int.reduceSub, Int.reduceNeg, Int.reduceMul, Int.reduceLT, Int.reduceLE, Int.reduceEq]
          refine ⟨by unfold roomA; omega, i + 1, by omega, by omega, ?_⟩
          simp only [hst]
          exact ⟨⟨by simp, by omega⟩, by simp [stR]⟩
        · rw [if_neg (fun e => h2 e.2)] at hst
          simp (disch := first | omega | (simp only [List.length_cons, List.length_nil, List.length_map, List.length_drop]; omega)) only [rst, evR, rwR, List.length_map, List.getElem?_map, Option.map_some, hc, dT hlt2, dT h1', dF h2, wrap_i64, evSt, ↓evPre, ↓evPreW, evPost, evPostW, ← List.map_take, ← List.map_drop, ↓reduceIte, reduceCtorEq, Nat.reduceEqDiff, forall_const, implies_true, Nat.reduceAdd, Nat.reduceSub, Nat.reduceMul, Nat.reduceLT, Nat.reduceLeDiff, Int.reduceToNat, Int.reduceAdd, Int.reduceSub, Int.reduceNeg, Int.reduceMul, Int.reduceLT, Int.reduceLE, Int.reduceEq]
          rw [List.append_nil] at hst
          refine ⟨i + 1, by omega, by omega, ?_⟩
          simp only [hst]
          exact ⟨⟨trivial, by omega⟩, trivial⟩
      · have h1' : ¬ ((r.2 : Nat) : Int) = ((j + 1 : Nat) : Int) := by omega
        rw [if_neg (fun e => h1 e.1)] at hst
        simp (disch := first | omega | (simp only [List.length_cons, List.length_nil, List.length_map, List.length_drop]; omega)) only [rst, evR, rwR, List.length_map, List.getElem?_map, Option.map_some, hc, dT hlt2, dF h1', wrap_i64, evSt, ↓evPre, ↓evPreW, evPost, evPostW, ← List.map_take, ← List.map_drop, ↓reduceIte, reduceCtorEq, Nat.reduceEqDiff, forall_const, implies_true, Nat.reduceAdd, Nat.reduceSub, Nat.reduceMul, Nat.reduceLT, Nat.reduceLeDiff, Int.reduceToNat, Int.reduceAdd, Int.reduceSub, Int.reduceNeg, Int.reduceMul, Int.reduceLT, Int.reduceLE, Int.reduceEq]
        rw [List.append_nil] at hst
        refine ⟨i + 1, by omega, by omega, ?_⟩
        simp only [hst]
        exact ⟨⟨trivial, by omega⟩, trivial⟩
  · have hjj : j = M.N := by omega
    subst hjj
    have hlt : ¬ ((M.N + 1 : Nat) : Int) ≤ (M.N : Nat) := by omega
    rw [sq_all]
    simp (disch := first | omega | (simp only [List.length_cons, List.length_nil, List.length_map, List.length_drop]; omega)) only [rst, evR, dF hlt, evSt, ↓evPre, ↓evPreW, evPost, evPostW, ← List.map_take, ← List.map_drop, ↓reduceIte, reduceCtorEq, Nat.reduceEqDiff, forall_const, implies_true, Nat.reduceAdd, Nat.reduceSub, Nat.reduceMul, Nat.reduceLT, Nat.reduceLeDiff, Int.reduceToNat, Int.reduceAdd, Int.reduceSub, Int.reduceNeg, Int.reduceMul, Int.reduceLT, Int.reduceLE, Int.reduceEq]
    refine ⟨stSl (sinceL M (cutN M c)), rst A B v M, hn.fgt _, ?_, by rw [rst_len]; exact Nat.le_refl _, rfl, rfl⟩
    exact .sl (t := 29) (by rw [rst_len]; exact Nat.le_refl _) (by simp (disch := first | omega | (simp only [List.length_cons, List.length_nil, List.length_map, List.length_drop]; omega)) only [evR, evSt, ↓evPre, ↓evPreW, evPost, evPostW, ← List.map_take, ← List.map_drop, ↓reduceIte, reduceCtorEq, Nat.reduceEqDiff, forall_const, implies_true, Nat.reduceAdd, Nat.reduceSub, Nat.reduceMul, Nat.reduceLT, Nat.reduceLeDiff, Int.reduceToNat, Int.reduceAdd, Int.reduceSub, Int.reduceNeg, Int.reduceMul, Int.reduceLT, Int.reduceLE, Int.reduceEq]) (by simp) (stR_imm _)

theorem record_AL (L : Store) (hl : M.R.length ≤ 1000000) (hN : M.N ≤ 1000000) (x : St) : CallA Try.prog 49 [.ptr A.length 0 0 0, stV x] (rst A B v M ++ L) fun r S' => r = .tup [] ∧ ∃ v', S' = rst A B v' (recM M x) ++ L := by
  rw [rst_app]
  exact (record_A A (B ++ L) M v hl hN x).mono fun r S' k => ⟨k.1, by obtain ⟨v', h⟩ := k.2; exact ⟨v', by rw [h, rst_app]⟩⟩
theorem findR_AL (L : Store) (hl : M.R.length ≤ 1000000) (t c : Int) : CallA Try.prog 35 [.ptr A.length 0 0 0, .int .i64 t, .int .i64 c] (rst A B v M ++ L) fun r S' => r = .int .i64 (fi ⟨t, c, 0, 0⟩ M.R 0) ∧ S' = rst A B v M ++ L := by
  rw [rst_app]
  exact findR_A A (B ++ L) M v hl t c

set_option maxRecDepth 100000 in
theorem EventR_A (hl : M.R.length ≤ 1000000) (hN : M.N ≤ 1000000) (hv : VOk M) (t c e : Int) : CallA Try.prog 33 [.ptr A.length 0 0 0, .int .i64 t, .int .i64 c, .int .i64 e] (rst A B v M) fun r S' => r = .tup [stV (evF M t c e).1.1, .int .i64 (evF M t c e).1.2] ∧ LeavesR A B (evF M t c e).2 S' := by
  refine CallA.withNeat Try.func33 c33 fun hn => ?_
  refine CallA.fin Try.func33 c33 (Nat.le_of_ble_eq_true rfl) fun σ hσ => ?_
  have same : ∀ (T : Store) (x : St) (n : Int), evF M t c e = ((x, n), M) → ∃ r1 S1, Fgt (rst A B v M ++ T) S1 ∧ Frz (rst A B v M ++ T) S1 (.tup [stV x, .int .i64 n]) r1 ∧ rfN A B ≤ S1.length ∧ r1 = .tup [stV (evF M t c e).1.1, .int .i64 (evF M t c e).1.2] ∧ LeavesR A B (evF M t c e).2 S1 := fun T x n hp =>
    rst_fin hn (.imm rfl) ⟨by rw [hp], by rw [hp]; exact ⟨v, rfl⟩⟩
  have fin : ∀ (v' : Nat) (T : Store) (x : St), evF M t c e = ((x, 0), recM M x) → ∃ r1 S1, Fgt (rst A B v' (recM M x) ++ T) S1 ∧ Frz (rst A B v' (recM M x) ++ T) S1 (.tup [stV x, .int .i64 0]) r1 ∧ rfN A B ≤ S1.length ∧ r1 = .tup [stV (evF M t c e).1.1, .int .i64 (evF M t c e).1.2] ∧ LeavesR A B (evF M t c e).2 S1 := fun v' T x hp =>
    rst_fin (rst_neat hn) (.imm rfl) ⟨by rw [hp], by rw [hp]; exact ⟨v', rfl⟩⟩
  simp (disch := first | omega | (simp only [List.length_cons, List.length_nil, List.length_map, List.length_drop]; omega)) only [a33, rst, evR, evSt, ↓evPre, ↓evPreW, evPost, evPostW, ← List.map_take, ← List.map_drop, ↓reduceIte, reduceCtorEq, Nat.reduceEqDiff, forall_const, implies_true, Nat.reduceAdd, Nat.reduceSub, Nat.reduceMul, Nat.reduceLT, Nat.reduceLeDiff, Int.reduceToNat, Int.reduceAdd, Int.reduceSub, Int.reduceNeg, Int.reduceMul, Int.reduceLT, Int.reduceLE, Int.reduceEq]
  refine (findR_AL A B M v _ hl t c).then ?_
  cases hf : findR M.R ⟨t, c, 0, 0⟩ with
  | none =>
    simp only [fi_none hf]
    simp (disch := first | omega | (simp only [List.length_cons, List.length_nil, List.length_map, List.length_drop]; omega)) only [rst, evR, evSt, ↓evPre, ↓evPreW, evPost, evPostW, ← List.map_take, ← List.map_drop, ↓reduceIte, reduceCtorEq, Nat.reduceEqDiff, forall_const, implies_true, Nat.reduceAdd, Nat.reduceSub, Nat.reduceMul, Nat.reduceLT, Nat.reduceLeDiff, Int.reduceToNat, Int.reduceAdd, Int.reduceSub, Int.reduceNeg, Int.reduceMul, Int.reduceLT, Int.reduceLE, Int.reduceEq]
    exact same _ ⟨0, 0, 0, 0⟩ 7 (by rw [evF, hf])
  | some r =>
    obtain ⟨i, h4, h5, h6⟩ := fi_some (k := 0) hf
    have h4' : fi ⟨t, c, 0, 0⟩ M.R 0 = (i : Nat) := by rw [h4, Nat.zero_add]
    have hge : ¬ ((i : Nat) : Int) < 0 := by omega
    have hlt := (List.getElem?_eq_some_iff.1 h5).1
    have hrv := hv r (List.mem_of_find?_eq_some hf)
    unfold i64r at hrv
    simp only [h4']
    simp (disch := first | omega | (simp only [List.length_cons, List.length_nil, List.length_map, List.length_drop]; omega)) only [rst, evR, dF hge, List.length_map, List.getElem?_map, Option.map_some, h5, rwR, evSt, ↓evPre, ↓evPreW, evPost, evPostW, ← List.map_take, ← List.map_drop, ↓reduceIte, reduceCtorEq, Nat.reduceEqDiff, forall_const, implies_true, Nat.reduceAdd, Nat.reduceSub, Nat.reduceMul, Nat.reduceLT, Nat.reduceLeDiff, Int.reduceToNat, Int.reduceAdd, Int.reduceSub, Int.reduceNeg, Int.reduceMul, Int.reduceLT, Int.reduceLE, Int.reduceEq]
    refine (NextR_A _ _ _).then ?_
    by_cases h1 : (nextF r.1.s e).2 = 0
    · by_cases h2 : r.1.v = 9223372036854775807
      · simp (disch := first | omega | (simp only [List.length_cons, List.length_nil, List.length_map, List.length_drop]; omega)) only [dT h1, dT h2, rst, evR, evSt, ↓evPre, ↓evPreW, evPost, evPostW, ← List.map_take, ← List.map_drop, ↓reduceIte, reduceCtorEq, Nat.reduceEqDiff, forall_const, implies_true, Nat.reduceAdd, Nat.reduceSub, Nat.reduceMul, Nat.reduceLT, Nat.reduceLeDiff, Int.reduceToNat, Int.reduceAdd, Int.reduceSub, Int.reduceNeg, Int.reduceMul, Int.reduceLT, Int.reduceLE, Int.reduceEq]
        exact same _ ⟨0, 0, 0, 0⟩ 2 (by rw [evF, hf]; simp only [h1, h2, ne_eq, not_true_eq_false, if_false, if_true])
      · have hp : evF M t c e = ((⟨r.1.t, r.1.c, r.1.v + 1, (nextF r.1.s e).1⟩, 0), recM M ⟨r.1.t, r.1.c, r.1.v + 1, (nextF r.1.s e).1⟩) := by rw [evF, hf]; simp only [h1, h2, ne_eq, not_true_eq_false, if_false]
        simp (disch := first | omega | (simp only [List.length_cons, List.length_nil, List.length_map, List.length_drop]; omega)) only [dT h1, dF h2, wrap_i64, rst, evR, evSt, ↓evPre, ↓evPreW, evPost, evPostW, ← List.map_take, ← List.map_drop, ↓reduceIte, reduceCtorEq, Nat.reduceEqDiff, forall_const, implies_true, Nat.reduceAdd, Nat.reduceSub, Nat.reduceMul, Nat.reduceLT, Nat.reduceLeDiff, Int.reduceToNat, Int.reduceAdd, Int.reduceSub, Int.reduceNeg, Int.reduceMul, Int.reduceLT, Int.reduceLE, Int.reduceEq]
        refine (record_AL A B M v _ hl hN ⟨r.1.t, r.1.c, r.1.v + 1, (nextF r.1.s e).1⟩).mono ?_
        rintro r' S' ⟨rfl, v', hS'⟩
        subst hS'
        simp (disch := first | omega | (simp only [List.length_cons, List.length_nil, List.length_map, List.length_drop]; omega)) only [rst, evR, evSt, ↓evPre, ↓evPreW, evPost, evPostW, ← List.map_take, ← List.map_drop, ↓reduceIte, reduceCtorEq, Nat.reduceEqDiff, forall_const, implies_true, Nat.reduceAdd, Nat.reduceSub, Nat.reduceMul, Nat.reduceLT, Nat.reduceLeDiff, Int.reduceToNat, Int.reduceAdd, Int.reduceSub, Int.reduceNeg, Int.reduceMul, Int.reduceLT, Int.reduceLE, Int.reduceEq]
        exact fin v' _ _ hp
    · simp (disch := first | omega | (simp only [List.length_cons, List.length_nil, List.length_map, List.length_drop]; omega)) only [dF h1, rst, evR, evSt, ↓evPre, ↓evPreW, evPost, evPostW, ← List.map_take, ← List.map_drop, ↓reduceIte, reduceCtorEq, Nat.reduceEqDiff, forall_const, implies_true, Nat.reduceAdd, Nat.reduceSub, Nat.reduceMul, Nat.reduceLT, Nat.reduceLeDiff, Int.reduceToNat, Int.reduceAdd, Int.reduceSub, Int.reduceNeg, Int.reduceMul, Int.reduceLT, Int.reduceLE, Int.reduceEq]
      exact same _ ⟨0, 0, 0, 0⟩ _ (by rw [evF, hf]; simp only [h1, ne_eq, not_false_eq_true, if_true])

theorem PutR_AL (L : Store) (hl : M.R.length ≤ 1000000) (hN : M.N ≤ 1000000) (x : St) : CallA Try.prog 32 [.ptr A.length 0 0 0, stV x] (rst A B v M ++ L) fun r S' => r = .int .i64 (putF M x).1 ∧ ∃ v', S' = rst A B v' (putF M x).2 ++ L := by
  rw [rst_app]
  exact (PutR_A A (B ++ L) M v hl hN x).mono fun r S' k => ⟨k.1, by obtain ⟨v', h⟩ := k.2; exact ⟨v', by rw [h, rst_app]⟩⟩
theorem EventR_AL (L : Store) (hl : M.R.length ≤ 1000000) (hN : M.N ≤ 1000000) (hv : VOk M) (t c e : Int) : CallA Try.prog 33 [.ptr A.length 0 0 0, .int .i64 t, .int .i64 c, .int .i64 e] (rst A B v M ++ L) fun r S' => r = .tup [stV (evF M t c e).1.1, .int .i64 (evF M t c e).1.2] ∧ ∃ v', S' = rst A B v' (evF M t c e).2 ++ L := by
  rw [rst_app]
  exact (EventR_A A (B ++ L) M v hl hN hv t c e).mono fun r S' k => ⟨k.1, by obtain ⟨v', h⟩ := k.2; exact ⟨v', by rw [h, rst_app]⟩⟩
theorem say_A (hl : M.R.length ≤ 1000000) (hN : M.N ≤ 1000000) (hv : VOk M) (a : Act) : CallA Try.prog 13 [.ptr A.length 0 0 0, .agg (actR a)] (rst A B v M) fun r S' => r = .tup [stV (doF M a).1.1, .int .i64 (doF M a).1.2] ∧ LeavesR A B (doF M a).2 S' := by
  refine CallA.withNeat Try.func13 c13 fun hn => ?_
  refine CallA.fin Try.func13 c13 (Nat.le_of_ble_eq_true rfl) fun σ hσ => ?_
  by_cases hk : a.k.tmod 2 = 0
  · have hd : doF M a = ((stZ, (putF M a.x).1), (putF M a.x).2) := by rw [doF, if_pos hk]
    simp (disch := first | omega | (simp only [List.length_cons, List.length_nil, List.length_map, List.length_drop]; omega)) only [a13, actR, dT hk, rst, evR, evSt, ↓evPre, ↓evPreW, evPost, evPostW, ← List.map_take, ← List.map_drop, ↓reduceIte, reduceCtorEq, Nat.reduceEqDiff, forall_const, implies_true, Nat.reduceAdd, Nat.reduceSub, Nat.reduceMul, Nat.reduceLT, Nat.reduceLeDiff, Int.reduceToNat, Int.reduceAdd, Int.reduceSub, Int.reduceNeg, Int.reduceMul, Int.reduceLT, Int.reduceLE, Int.reduceEq]
    refine (PutR_AL A B M v _ hl hN a.x).mono ?_
    rintro r S' ⟨rfl, v', hS'⟩
    subst hS'
    simp (disch := first | omega | (simp only [List.length_cons, List.length_nil, List.length_map, List.length_drop]; omega)) only [rst, evR, evSt, ↓evPre, ↓evPreW, evPost, evPostW, ← List.map_take, ← List.map_drop, ↓reduceIte, reduceCtorEq, Nat.reduceEqDiff, forall_const, implies_true, Nat.reduceAdd, Nat.reduceSub, Nat.reduceMul, Nat.reduceLT, Nat.reduceLeDiff, Int.reduceToNat, Int.reduceAdd, Int.reduceSub, Int.reduceNeg, Int.reduceMul, Int.reduceLT, Int.reduceLE, Int.reduceEq]
    exact rst_fin (rst_neat hn) (.imm rfl) ⟨by rw [hd]; rfl, by rw [hd]; exact ⟨v', rfl⟩⟩
  · have hd : doF M a = evF M a.x.t a.x.c a.n := by rw [doF, if_neg hk]
    simp (disch := first | omega | (simp only [List.length_cons, List.length_nil, List.length_map, List.length_drop]; omega)) only [a13, actR, dF hk, rst, evR, evSt, ↓evPre, ↓evPreW, evPost, evPostW, ← List.map_take, ← List.map_drop, ↓reduceIte, reduceCtorEq, Nat.reduceEqDiff, forall_const, implies_true, Nat.reduceAdd, Nat.reduceSub, Nat.reduceMul, Nat.reduceLT, Nat.reduceLeDiff, Int.reduceToNat, Int.reduceAdd, Int.reduceSub, Int.reduceNeg, Int.reduceMul, Int.reduceLT, Int.reduceLE, Int.reduceEq]
    refine (EventR_AL A B M v _ hl hN hv _ _ _).mono ?_
    rintro r S' ⟨rfl, v', hS'⟩
    subst hS'
    simp (disch := first | omega | (simp only [List.length_cons, List.length_nil, List.length_map, List.length_drop]; omega)) only [rst, evR, stV, stR, evSt, ↓evPre, ↓evPreW, evPost, evPostW, ← List.map_take, ← List.map_drop, ↓reduceIte, reduceCtorEq, Nat.reduceEqDiff, forall_const, implies_true, Nat.reduceAdd, Nat.reduceSub, Nat.reduceMul, Nat.reduceLT, Nat.reduceLeDiff, Int.reduceToNat, Int.reduceAdd, Int.reduceSub, Int.reduceNeg, Int.reduceMul, Int.reduceLT, Int.reduceLE, Int.reduceEq]
    exact rst_fin (rst_neat hn) (.imm rfl) ⟨by rw [hd], by rw [hd]; exact ⟨v', rfl⟩⟩
end

/-! ## Calls of both. -/
section
variable (S L : Store) (M : Mi) (Q : Qs) (C : Cs) (v : Nat) (K : Mi)
theorem duo_m : duo S M Q C v K ++ L = mst S (robs (S.length + 4) v K ++ L) M Q C := by rw [duo, mst_app]
theorem duo_rl : duo S M Q C v K ++ L = rst (mst S [] M Q C) L v K := by rw [duo_r, rst_app, List.nil_append]
theorem doD_A (h : MOk M Q C) (hN : M.N ≤ 1000000) (hv : VOk M) (a : Act) : CallA Try.prog 12 [.ptr (S.length + 3) 0 0 0, .agg (actR a)] (duo S M Q C v K ++ L) fun r S' => r = .tup [stV (doF M a).1.1, .int .i64 (doF M a).1.2] ∧ ∃ Q1 C1, MOk (doF M a).2 Q1 C1 ∧ S' = duo S (doF M a).2 Q1 C1 v K ++ L := by
  rw [duo_m]
  exact (do_A S _ M Q C h hN hv a).mono fun r S' k => ⟨k.1, by obtain ⟨Q1, C1, h1, h2⟩ := k.2; exact ⟨Q1, C1, h1, by rw [h2, duo_m]⟩⟩
theorem sayD_A (hl : K.R.length ≤ 1000000) (hN : K.N ≤ 1000000) (hv : VOk K) (a : Act) : CallA Try.prog 13 [.ptr (S.length + 4) 0 0 0, .agg (actR a)] (duo S M Q C v K ++ L) fun r S' => r = .tup [stV (doF K a).1.1, .int .i64 (doF K a).1.2] ∧ ∃ v', S' = duo S M Q C v' (doF K a).2 ++ L := by
  have := say_A (mst S [] M Q C) L K v hl hN hv a
  rw [mst0_len] at this
  rw [duo_rl]
  exact this.mono fun r S' k => ⟨k.1, by obtain ⟨v', h⟩ := k.2; exact ⟨v', by rw [h, duo_rl]⟩⟩
theorem getD_A (t c : Int) : CallA Try.prog 14 [.ptr (S.length + 3) 0 0 0, .int .i64 t, .int .i64 c] (duo S M Q C v K ++ L) fun r S' => r = .tup [stV (getF M t c).1, .bool (getF M t c).2] ∧ S' = duo S M Q C v K ++ L := by
  rw [duo_m]
  exact Get_A S _ M Q C t c
theorem getRD_A (hl : K.R.length ≤ 1000000) (t c : Int) : CallA Try.prog 15 [.ptr (S.length + 4) 0 0 0, .int .i64 t, .int .i64 c] (duo S M Q C v K ++ L) fun r S' => r = .tup [stV (getF K t c).1, .bool (getF K t c).2] ∧ S' = duo S M Q C v K ++ L := by
  have := GetR_A (mst S [] M Q C) L K v hl t c
  rw [mst0_len] at this
  rw [duo_rl]
  exact this
theorem chgD_A : CallA Try.prog 16 [.ptr (S.length + 3) 0 0 0] (duo S M Q C v K ++ L) fun r S' => r = .int .i64 (M.N : Nat) ∧ S' = duo S M Q C v K ++ L := by
  rw [duo_m]
  exact Changes_A S _ M Q C
theorem chgRD_A : CallA Try.prog 17 [.ptr (S.length + 4) 0 0 0] (duo S M Q C v K ++ L) fun r S' => r = .int .i64 (K.N : Nat) ∧ S' = duo S M Q C v K ++ L := by
  have := ChangesR_A (mst S [] M Q C) L K v
  rw [mst0_len] at this
  rw [duo_rl]
  exact this
theorem sinD_A (h : MOk M Q C) (hN : M.N ≤ 1000000) (c : Int) : CallA Try.prog 19 [.ptr (S.length + 3) 0 0 0, .int .i64 c] (duo S M Q C v K ++ L) fun r S' => r = stSl (sinceL M (cutN M c)) ∧ ∃ Q1 C1, MOk M Q1 C1 ∧ S' = duo S M Q1 C1 v K ++ L := by
  rw [duo_m]
  exact (Since_A S _ M Q C h hN c).mono fun r S' k => ⟨k.1, by obtain ⟨Q1, C1, h1, h2⟩ := k.2; exact ⟨Q1, C1, h1, by rw [h2, duo_m]⟩⟩
theorem sinRD_A (h : WF K) (hN : K.N ≤ 1000) (c : Int) : CallA Try.prog 20 [.ptr (S.length + 4) 0 0 0, .int .i64 c] (duo S M Q C v K ++ L) fun r S' => r = stSl (sinceL K (cutN K c)) ∧ S' = duo S M Q C v K ++ L := by
  have := SinceR_A (mst S [] M Q C) L K v h hN c
  rw [mst0_len] at this
  rw [duo_rl]
  exact this
theorem allD_A (h : MOk M Q C) (hN : M.N ≤ 1000000) : CallA Try.prog 21 [.ptr (S.length + 3) 0 0 0] (duo S M Q C v K ++ L) fun r S' => (∃ d, isAll M d ∧ r = stSl d) ∧ S' = duo S M Q C v K ++ L := by
  rw [duo_m]
  exact All_A S _ M Q C h hN
theorem allRD_A (hl : K.R.length ≤ 1000) : CallA Try.prog 22 [.ptr (S.length + 4) 0 0 0] (duo S M Q C v K ++ L) fun r S' => r = stSl (allF (K.R.map (·.1))) ∧ S' = duo S M Q C v K ++ L := by
  have := AllR_A (mst S [] M Q C) L K v hl
  rw [mst0_len] at this
  rw [duo_rl]
  exact this
end
end Go.Proofs.Ytdkcicbpcagonaa
