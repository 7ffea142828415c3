/- The law on weights. -/
import Derived.Test.YteeenlgoildmiabDoorChk6
namespace Go.Proofs.YteeenlgoildmiabDoor
open Go Go.AL
set_option linter.unusedSimpArgs false
set_option linter.unusedVariables false

theorem sum_split {α : Type} {f g h : α → Int} : ∀ (m : List α), (∀ b ∈ m, f b = g b + h b) → (m.map f).sum = (m.map g).sum + (m.map h).sum
  | [], _ => by simp
  | b :: m, hp => by
    have h1 := hp b (List.mem_cons_self ..)
    have h2 := sum_split m fun x hx => hp x (List.mem_cons_of_mem _ hx)
    simp only [List.map_cons, List.sum_cons]
    omega
theorem sum_congr {α : Type} {f g : α → Int} : ∀ (m : List α), (∀ b ∈ m, f b = g b) → (m.map f).sum = (m.map g).sum
  | [], _ => by simp
  | b :: m, hp => by
    have h1 := hp b (List.mem_cons_self ..)
    have h2 := sum_congr m fun x hx => hp x (List.mem_cons_of_mem _ hx)
    simp only [List.map_cons, List.sum_cons]
    omega

def metF (l : List Bg) (k : Nat) (t : Int) : Bool := (l.take k).any fun b => decide (b.tic = t)
def distF (l : List Bg) : Nat → Int
  | 0 => 0
  | k + 1 => distF l k + match l[k]? with
    | some c => if metF l k c.tic then 0 else weightF c.tic l
    | none => 0

theorem distF_bound (l : List Bg) (hl : l.length ≤ 60) : ∀ k, 0 ≤ distF l k ∧ distF l k ≤ 65970697666560 * k
  | 0 => by simp [distF]
  | k + 1 => by
    have h := distF_bound l hl k
    rw [distF]
    cases hc : l[k]? with
    | none => simp only; omega
    | some c =>
      have := weightF_bound c.tic l
      simp only
      split <;> omega

theorem metF_next {l : List Bg} {k : Nat} {c : Bg} (hc : l[k]? = some c) (t : Int) : metF l (k + 1) t = (metF l k t || decide (c.tic = t)) := by
  unfold metF
  rw [List.take_add_one, hc]
  simp

theorem distF_sum (l : List Bg) : ∀ k, k ≤ l.length → distF l k = (l.map fun b => if metF l k b.tic then wOf b.tic b else 0).sum
  | 0, _ => by
    have : ∀ b ∈ l, (if metF l 0 b.tic then wOf b.tic b else 0) = (fun _ => (0 : Int)) b := fun b _ => by simp [metF]
    rw [sum_congr l this]
    have h0 : ∀ m : List Bg, (m.map fun _ => (0 : Int)).sum = 0 := fun m => by
      induction m with
      | nil => rfl
      | cons b m ih => simp only [List.map_cons, List.sum_cons, ih]; rfl
    rw [h0]; rfl
  | k + 1, hk => by
    have hc : l[k]? = some l[k] := List.getElem?_eq_getElem (by omega)
    generalize l[k] = c at hc
    rw [distF, hc, distF_sum l k (by omega)]
    simp only
    by_cases hm : metF l k c.tic = true
    · rw [if_pos hm, Int.add_zero]
      refine sum_congr l fun b hb => ?_
      rw [metF_next hc]
      by_cases e : c.tic = b.tic
      · rw [← e, hm]; simp
      · simp [e]
    · rw [if_neg hm, weightF]
      refine (sum_split l fun b hb => ?_).symm
      rw [metF_next hc]
      by_cases e : c.tic = b.tic
      · have hm' : metF l k b.tic = false := by rw [← e]; simpa using hm
        simp [← e]
        rw [e, hm']
        simp
      · have e' : ¬ b.tic = c.tic := fun h => e h.symm
        have hw : wOf c.tic b = 0 := if_neg (fun h => e' h.1)
        simp [e, hw]

theorem totGo_ok : ∀ (l : List Bg) (n : Int), (∀ b ∈ l, 1 ≤ b.wt) → 0 ≤ n → (totGo n l).2 = 0 → (totGo n l).1 = n + (l.map fun b => b.wt).sum ∧ ∀ b ∈ l, b.wt ≤ 1099511627776
  | [], n, _, _, _ => by simp [totGo]
  | b :: l, n, hw, hn, h => by
    rw [totGo] at h ⊢
    split at h
    · cases h
    · rename_i hlt
      have h1 := hw b (List.mem_cons_self ..)
      obtain ⟨h2, h3⟩ := totGo_ok l (n + b.wt) (fun x hx => hw x (List.mem_cons_of_mem _ hx)) (by omega) h
      rw [if_neg hlt]
      refine ⟨by rw [h2]; simp only [List.map_cons, List.sum_cons]; omega, fun x hx => ?_⟩
      rcases List.mem_cons.1 hx with rfl | hx
      · omega
      · exact h3 x hx

theorem dist_total {l : List Bg} (h : (totalF l).2 = 0) : distF l l.length = (totalF l).1 := by
  unfold totalF at h ⊢
  split at h
  · cases h
  · rename_i hlt
    rw [if_neg hlt]
    have hw : ∀ b ∈ l, 1 ≤ b.wt := fun b hb => by
      have h : ¬ b.wt < 1 := fun h => hlt (List.any_eq_true.2 ⟨b, hb, by simp [h]⟩)
      omega
    obtain ⟨h1, h2⟩ := totGo_ok l 0 hw (by omega) h
    rw [h1, distF_sum l l.length (Nat.le_refl _), Int.zero_add]
    refine sum_congr l fun b hb => ?_
    have hm : metF l l.length b.tic = true := by
      unfold metF
      rw [List.take_length]
      exact List.any_eq_true.2 ⟨b, hb, by simp⟩
    rw [if_pos hm]
    exact if_pos ⟨rfl, hw b hb, h2 b hb⟩

theorem law_weights (l : List Bg) (t : Int) (S : Store) (hl : l.length ≤ 1048576) : CallA Tryd.prog 7 [bagSl l, .int .i64 t] S fun r S' => r = .bool true ∧ S' = S := by
  refine CallA.keep Tryd.func7 c7 (Nat.le_of_ble_eq_true rfl) fun σ hσ => ?_
  by_cases h1 : 60 < l.length
  · have h1' : (60 : Int) < l.length := by omega
    simp (disch := first | omega | (simp only [List.length_cons, List.length_nil, List.length_map, List.length_drop]; omega)) only [a7, bagSl, h1', List.length_map, decide_true, ↓evPre, ↓evPreW, evPost, evPostW, ← List.map_take, ← List.map_drop, ↓reduceIte, reduceCtorEq, Nat.reduceEqDiff, forall_const, implies_true, Nat.reduceAdd, Nat.reduceSub, Nat.reduceMul, Nat.reduceLT, Nat.reduceLeDiff, Int.reduceToNat, Int.reduceAdd, Int.reduceSub, Int.reduceNeg, Int.reduceMul, Int.reduceLT, Int.reduceLE, Int.reduceEq]
    refine (awake_A S).then ?_
    simp (disch := first | omega | (simp only [List.length_cons, List.length_nil, List.length_map, List.length_drop]; omega)) only [↓evPre, ↓evPreW, evPost, evPostW, ← List.map_take, ← List.map_drop, ↓reduceIte, reduceCtorEq, Nat.reduceEqDiff, forall_const, implies_true, Nat.reduceAdd, Nat.reduceSub, Nat.reduceMul, Nat.reduceLT, Nat.reduceLeDiff, Int.reduceToNat, Int.reduceAdd, Int.reduceSub, Int.reduceNeg, Int.reduceMul, Int.reduceLT, Int.reduceLE, Int.reduceEq]
  have h1' : ¬ (60 : Int) < l.length := by omega
  have hl60 : l.length ≤ 60 := by omega
  simp (disch := first | omega | (simp only [List.length_cons, List.length_nil, List.length_map, List.length_drop]; omega)) only [a7, bagSl, h1', List.length_map, decide_true, decide_false, ↓evPre, ↓evPreW, evPost, evPostW, ← List.map_take, ← List.map_drop, ↓reduceIte, reduceCtorEq, Nat.reduceEqDiff, forall_const, implies_true, Nat.reduceAdd, Nat.reduceSub, Nat.reduceMul, Nat.reduceLT, Nat.reduceLeDiff, Int.reduceToNat, Int.reduceAdd, Int.reduceSub, Int.reduceNeg, Int.reduceMul, Int.reduceLT, Int.reduceLE, Int.reduceEq]
  refine (total_A l S hl60).then ?_
  simp (disch := first | omega | (simp only [List.length_cons, List.length_nil, List.length_map, List.length_drop]; omega)) only [↓evPre, ↓evPreW, evPost, evPostW, ← List.map_take, ← List.map_drop, ↓reduceIte, reduceCtorEq, Nat.reduceEqDiff, forall_const, implies_true, Nat.reduceAdd, Nat.reduceSub, Nat.reduceMul, Nat.reduceLT, Nat.reduceLeDiff, Int.reduceToNat, Int.reduceAdd, Int.reduceSub, Int.reduceNeg, Int.reduceMul, Int.reduceLT, Int.reduceLE, Int.reduceEq]
  refine (reftotal_A l S hl60).then ?_
  simp (disch := first | omega | (simp only [List.length_cons, List.length_nil, List.length_map, List.length_drop]; omega)) only [↓evPre, ↓evPreW, evPost, evPostW, ← List.map_take, ← List.map_drop, ↓reduceIte, reduceCtorEq, Nat.reduceEqDiff, forall_const, implies_true, Nat.reduceAdd, Nat.reduceSub, Nat.reduceMul, Nat.reduceLT, Nat.reduceLeDiff, Int.reduceToNat, Int.reduceAdd, Int.reduceSub, Int.reduceNeg, Int.reduceMul, Int.reduceLT, Int.reduceLE, Int.reduceEq]
  refine (weight_A l t S hl60).then ?_
  simp (disch := first | omega | (simp only [List.length_cons, List.length_nil, List.length_map, List.length_drop]; omega)) only [↓evPre, ↓evPreW, evPost, evPostW, ← List.map_take, ← List.map_drop, ↓reduceIte, reduceCtorEq, Nat.reduceEqDiff, forall_const, implies_true, Nat.reduceAdd, Nat.reduceSub, Nat.reduceMul, Nat.reduceLT, Nat.reduceLeDiff, Int.reduceToNat, Int.reduceAdd, Int.reduceSub, Int.reduceNeg, Int.reduceMul, Int.reduceLT, Int.reduceLE, Int.reduceEq]
  refine (refweight_A l t S hl60).then ?_
  simp (disch := first | omega | (simp only [List.length_cons, List.length_nil, List.length_map, List.length_drop]; omega)) only [↓evPre, ↓evPreW, evPost, evPostW, ← List.map_take, ← List.map_drop, ↓reduceIte, reduceCtorEq, Nat.reduceEqDiff, forall_const, implies_true, Nat.reduceAdd, Nat.reduceSub, Nat.reduceMul, Nat.reduceLT, Nat.reduceLeDiff, Int.reduceToNat, Int.reduceAdd, Int.reduceSub, Int.reduceNeg, Int.reduceMul, Int.reduceLT, Int.reduceLE, Int.reduceEq]
  refine loopA (ι := Nat) (fun k => [(0, bagSl l), (5, .int .i64 (totalF l).1), (6, .int .i64 (totalF l).2), (9, .int .i64 (distF l k)), (10, .int .i64 k)]) (fun _ => S) (fun k => k ≤ l.length) (fun k => l.length - k) 0 (Nat.zero_le _) ?_ rfl ?_
  · simp only [bagSl, distF, ↓evPre, ↓evPreW, evPost, evPostW, ← List.map_take, ← List.map_drop, ↓reduceIte, reduceCtorEq, Nat.reduceEqDiff, forall_const, implies_true, Nat.reduceAdd, Nat.reduceSub, Nat.reduceMul, Nat.reduceLT, Nat.reduceLeDiff, Int.reduceToNat, Int.reduceAdd, Int.reduceSub, Int.reduceNeg, Int.reduceMul, Int.reduceLT, Int.reduceLE, Int.reduceEq]
  · intro k hk
    cases hc : l[k]? with
    | none =>
      have hge : l.length ≤ k := List.getElem?_eq_none_iff.1 hc
      have hlt : ¬ ((k : Int) < l.length) := by omega
      have e : k = l.length := by omega
      subst e
      simp (disch := first | omega | (simp only [List.length_cons, List.length_nil, List.length_map, List.length_drop]; omega)) only [bagSl, List.length_map, wrap_i64, hlt, decide_false, ↓evPre, ↓evPreW, evPost, evPostW, ← List.map_take, ← List.map_drop, ↓reduceIte, reduceCtorEq, Nat.reduceEqDiff, forall_const, implies_true, Nat.reduceAdd, Nat.reduceSub, Nat.reduceMul, Nat.reduceLT, Nat.reduceLeDiff, Int.reduceToNat, Int.reduceAdd, Int.reduceSub, Int.reduceNeg, Int.reduceMul, Int.reduceLT, Int.reduceLE, Int.reduceEq]
      by_cases he : (totalF l).2 = 0
      · have hd := dist_total he
        simp (disch := first | omega | (simp only [List.length_cons, List.length_nil, List.length_map, List.length_drop]; omega)) only [he, hd, decide_true, ↓evPre, ↓evPreW, evPost, evPostW, ← List.map_take, ← List.map_drop, ↓reduceIte, reduceCtorEq, Nat.reduceEqDiff, forall_const, implies_true, Nat.reduceAdd, Nat.reduceSub, Nat.reduceMul, Nat.reduceLT, Nat.reduceLeDiff, Int.reduceToNat, Int.reduceAdd, Int.reduceSub, Int.reduceNeg, Int.reduceMul, Int.reduceLT, Int.reduceLE, Int.reduceEq]
        refine (awake_A S).then ?_
        simp (disch := first | omega | (simp only [List.length_cons, List.length_nil, List.length_map, List.length_drop]; omega)) only [↓evPre, ↓evPreW, evPost, evPostW, ← List.map_take, ← List.map_drop, ↓reduceIte, reduceCtorEq, Nat.reduceEqDiff, forall_const, implies_true, Nat.reduceAdd, Nat.reduceSub, Nat.reduceMul, Nat.reduceLT, Nat.reduceLeDiff, Int.reduceToNat, Int.reduceAdd, Int.reduceSub, Int.reduceNeg, Int.reduceMul, Int.reduceLT, Int.reduceLE, Int.reduceEq]
      · simp (disch := first | omega | (simp only [List.length_cons, List.length_nil, List.length_map, List.length_drop]; omega)) only [he, decide_false, ↓evPre, ↓evPreW, evPost, evPostW, ← List.map_take, ← List.map_drop, ↓reduceIte, reduceCtorEq, Nat.reduceEqDiff, forall_const, implies_true, Nat.reduceAdd, Nat.reduceSub, Nat.reduceMul, Nat.reduceLT, Nat.reduceLeDiff, Int.reduceToNat, Int.reduceAdd, Int.reduceSub, Int.reduceNeg, Int.reduceMul, Int.reduceLT, Int.reduceLE, Int.reduceEq]
        refine (awake_A S).then ?_
        simp (disch := first | omega | (simp only [List.length_cons, List.length_nil, List.length_map, List.length_drop]; omega)) only [↓evPre, ↓evPreW, evPost, evPostW, ← List.map_take, ← List.map_drop, ↓reduceIte, reduceCtorEq, Nat.reduceEqDiff, forall_const, implies_true, Nat.reduceAdd, Nat.reduceSub, Nat.reduceMul, Nat.reduceLT, Nat.reduceLeDiff, Int.reduceToNat, Int.reduceAdd, Int.reduceSub, Int.reduceNeg, Int.reduceMul, Int.reduceLT, Int.reduceLE, Int.reduceEq]
    | some c =>
      have hlt' := (List.getElem?_eq_some_iff.1 hc).1
      have hlt : (k : Int) < l.length := by omega
      have hdb := distF_bound l hl60 k
      have hwb := weightF_bound c.tic l
      have hstep : distF l (k + 1) = distF l k + if metF l k c.tic then 0 else weightF c.tic l := by rw [distF, hc]
      simp (disch := first | omega | (simp only [List.length_cons, List.length_nil, List.length_map, List.length_drop]; omega)) only [bagSl, List.length_map, wrap_i64, hc, hlt, decide_true, ↓evPre, ↓evPreW, evPost, evPostW, ← List.map_take, ← List.map_drop, ↓reduceIte, reduceCtorEq, Nat.reduceEqDiff, forall_const, implies_true, Nat.reduceAdd, Nat.reduceSub, Nat.reduceMul, Nat.reduceLT, Nat.reduceLeDiff, Int.reduceToNat, Int.reduceAdd, Int.reduceSub, Int.reduceNeg, Int.reduceMul, Int.reduceLT, Int.reduceLE, Int.reduceEq]
      refine loopA (ι := Nat) (fun j => [(0, bagSl l), (5, .int .i64 (totalF l).1), (6, .int .i64 (totalF l).2), (9, .int .i64 (distF l k)), (10, .int .i64 k), (11, .bool (metF l j c.tic)), (12, .int .i64 j)]) (fun _ => S) (fun j => j ≤ k) (fun j => k - j) 0 (Nat.zero_le _) ?_ rfl ?_
      · simp only [bagSl, metF, List.take_zero, List.any_nil, ↓evPre, ↓evPreW, evPost, evPostW, ← List.map_take, ← List.map_drop, ↓reduceIte, reduceCtorEq, Nat.reduceEqDiff, forall_const, implies_true, Nat.reduceAdd, Nat.reduceSub, Nat.reduceMul, Nat.reduceLT, Nat.reduceLeDiff, Int.reduceToNat, Int.reduceAdd, Int.reduceSub, Int.reduceNeg, Int.reduceMul, Int.reduceLT, Int.reduceLE, Int.reduceEq]
      · intro j hj
        by_cases hjk : j < k
        · have hlt2 : (j : Int) < k := by omega
          have hd : l[j]? = some l[j] := List.getElem?_eq_getElem (by omega)
          generalize l[j] = d at hd
          have hs := metF_next hd c.tic
          cases ht : metF l j c.tic with
          | true =>
            rw [ht, Bool.true_or] at hs
            simp (disch := first | omega | (simp only [List.length_cons, List.length_nil, List.length_map, List.length_drop]; omega)) only [bagSl, bagR, List.length_map, wrap_i64, hc, hd, hlt2, decide_true, List.getElem?_map, Option.map_some, ↓evPre, ↓evPreW, evPost, evPostW, ← List.map_take, ← List.map_drop, ↓reduceIte, reduceCtorEq, Nat.reduceEqDiff, forall_const, implies_true, Nat.reduceAdd, Nat.reduceSub, Nat.reduceMul, Nat.reduceLT, Nat.reduceLeDiff, Int.reduceToNat, Int.reduceAdd, Int.reduceSub, Int.reduceNeg, Int.reduceMul, Int.reduceLT, Int.reduceLE, Int.reduceEq]
            exact ⟨j + 1, by omega, by omega, by simp [hs], rfl⟩
          | false =>
            rw [ht, Bool.false_or] at hs
            simp (disch := first | omega | (simp only [List.length_cons, List.length_nil, List.length_map, List.length_drop]; omega)) only [bagSl, bagR, List.length_map, wrap_i64, hc, hd, hlt2, decide_true, List.getElem?_map, Option.map_some, ↓evPre, ↓evPreW, evPost, evPostW, ← List.map_take, ← List.map_drop, ↓reduceIte, reduceCtorEq, Nat.reduceEqDiff, forall_const, implies_true, Nat.reduceAdd, Nat.reduceSub, Nat.reduceMul, Nat.reduceLT, Nat.reduceLeDiff, Int.reduceToNat, Int.reduceAdd, Int.reduceSub, Int.reduceNeg, Int.reduceMul, Int.reduceLT, Int.reduceLE, Int.reduceEq]
            exact ⟨j + 1, by omega, by omega, by simp [hs], rfl⟩
        · have e : j = k := by omega
          subst e
          have hlt2 : ¬ ((j : Int) < j) := by omega
          cases ht : metF l j c.tic with
          | true =>
            rw [ht, if_pos rfl, Int.add_zero] at hstep
            simp (disch := first | omega | (simp only [List.length_cons, List.length_nil, List.length_map, List.length_drop]; omega)) only [bagSl, List.length_map, wrap_i64, hlt2, decide_false, ↓evPre, ↓evPreW, evPost, evPostW, ← List.map_take, ← List.map_drop, ↓reduceIte, reduceCtorEq, Nat.reduceEqDiff, forall_const, implies_true, Nat.reduceAdd, Nat.reduceSub, Nat.reduceMul, Nat.reduceLT, Nat.reduceLeDiff, Int.reduceToNat, Int.reduceAdd, Int.reduceSub, Int.reduceNeg, Int.reduceMul, Int.reduceLT, Int.reduceLE, Int.reduceEq]
            exact ⟨j + 1, by omega, by omega, hstep.symm, rfl⟩
          | false =>
            rw [ht, if_neg (by simp)] at hstep
            simp (disch := first | omega | (simp only [List.length_cons, List.length_nil, List.length_map, List.length_drop]; omega)) only [bagSl, bagR, List.length_map, wrap_i64, hc, hlt2, decide_false, List.getElem?_map, Option.map_some, ↓evPre, ↓evPreW, evPost, evPostW, ← List.map_take, ← List.map_drop, ↓reduceIte, reduceCtorEq, Nat.reduceEqDiff, forall_const, implies_true, Nat.reduceAdd, Nat.reduceSub, Nat.reduceMul, Nat.reduceLT, Nat.reduceLeDiff, Int.reduceToNat, Int.reduceAdd, Int.reduceSub, Int.reduceNeg, Int.reduceMul, Int.reduceLT, Int.reduceLE, Int.reduceEq]
            refine (weight_A l c.tic S hl60).then ?_
            simp (disch := first | omega | (simp only [List.length_cons, List.length_nil, List.length_map, List.length_drop]; omega)) only [wrap_i64, ↓evPre, ↓evPreW, evPost, evPostW, ← List.map_take, ← List.map_drop, ↓reduceIte, reduceCtorEq, Nat.reduceEqDiff, forall_const, implies_true, Nat.reduceAdd, Nat.reduceSub, Nat.reduceMul, Nat.reduceLT, Nat.reduceLeDiff, Int.reduceToNat, Int.reduceAdd, Int.reduceSub, Int.reduceNeg, Int.reduceMul, Int.reduceLT, Int.reduceLE, Int.reduceEq]
            exact ⟨j + 1, by omega, by omega, hstep.symm, rfl⟩
end Go.Proofs.YteeenlgoildmiabDoor
