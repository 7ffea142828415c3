/- Valid assignments; how many are served. -/
import Derived.Test.YteeenlgoildmiaaDoorSeat4
namespace Go.Proofs.YteeenlgoildmiaaDoor
open Go Go.AL
set_option linter.unusedSimpArgs false
set_option linter.unusedVariables false

def cntF (l : List Int) : Nat := (l.filter fun x => decide (0 ≤ x)).length
theorem cnt_take {l : List Int} {k : Nat} {x : Int} (h : l[k]? = some x) : cntF (l.take (k + 1)) = cntF (l.take k) + if 0 ≤ x then 1 else 0 := by
  unfold cntF
  rw [List.take_add_one, h, List.filter_append]
  by_cases hx : 0 ≤ x
  · simp [hx]
  · simp [hx]
theorem assign_len (se : List Sea) (cl : List Clm) : (assignF se cl).length = cl.length :=
  (fold_wf (orderF cl) (initF se cl) (fun o ho => List.mem_range.1 ((orderF_spec cl).1.mem_iff.1 ho)) (init_wf se cl)).1

theorem most_A (se : List Sea) (cl : List Clm) (S : Store) (hL : se.length ≤ 1000000) (hC : cl.length ≤ 1000) : CallA Tryd.prog 16 [seSl se, clSl cl] S fun r S' => r = .int .i64 (cntF (assignF se cl) : Nat) ∧ S' = S := by
  refine CallA.keep Tryd.func16 c16 (Nat.le_of_ble_eq_true rfl) fun σ hσ => ?_
  simp only [a16, ↓evPre, ↓evPreW, evPost, evPostW, ← List.map_take, ← List.map_drop, ↓reduceIte, reduceCtorEq, Nat.reduceEqDiff, forall_const, implies_true, Nat.reduceAdd, Nat.reduceSub, Nat.reduceMul, Nat.reduceLT, Nat.reduceLeDiff, Int.reduceToNat, Int.reduceAdd, Int.reduceSub, Int.reduceNeg, Int.reduceMul, Int.reduceLT, Int.reduceLE, Int.reduceEq]
  refine (assign_A se cl S hL hC).then ?_
  have hl := assign_len se cl
  generalize assignF se cl = l at hl
  simp only [iSl, List.length_map, ↓evPre, ↓evPreW, evPost, evPostW, ← List.map_take, ← List.map_drop, ↓reduceIte, reduceCtorEq, Nat.reduceEqDiff, forall_const, implies_true, Nat.reduceAdd, Nat.reduceSub, Nat.reduceMul, Nat.reduceLT, Nat.reduceLeDiff, Int.reduceToNat, Int.reduceAdd, Int.reduceSub, Int.reduceNeg, Int.reduceMul, Int.reduceLT, Int.reduceLE, Int.reduceEq]
  refine loopA (ι := Nat) (fun k => [(5, .int .i64 (cntF (l.take k) : Nat)), (10, iSl l), (11, .int .i64 l.length), (12, .int .i64 k)]) (fun _ => S) (fun k => k ≤ l.length) (fun k => l.length - k) 0 (Nat.zero_le _) ?_ rfl ?_
  · simp only [iSl, cntF, List.take_zero, List.filter_nil, List.length_nil, ↓evPre, ↓evPreW, evPost, evPostW, ← List.map_take, ← List.map_drop, ↓reduceIte, reduceCtorEq, Nat.reduceEqDiff, forall_const, implies_true, Nat.reduceAdd, Nat.reduceSub, Nat.reduceMul, Nat.reduceLT, Nat.reduceLeDiff, Int.reduceToNat, Int.reduceAdd, Int.reduceSub, Int.reduceNeg, Int.reduceMul, Int.reduceLT, Int.reduceLE, Int.reduceEq]
  · intro k hk
    cases hc : l[k]? with
    | none =>
      have hge := List.getElem?_eq_none_iff.1 hc
      have hlt : ¬ (k : Int) < l.length := by omega
      rw [List.take_of_length_le hge]
      simp (disch := first | omega | (simp only [List.length_cons, List.length_nil, List.length_map, List.length_drop]; omega)) only [iSl, hlt, decide_false, ↓evPre, ↓evPreW, evPost, evPostW, ← List.map_take, ← List.map_drop, ↓reduceIte, reduceCtorEq, Nat.reduceEqDiff, forall_const, implies_true, Nat.reduceAdd, Nat.reduceSub, Nat.reduceMul, Nat.reduceLT, Nat.reduceLeDiff, Int.reduceToNat, Int.reduceAdd, Int.reduceSub, Int.reduceNeg, Int.reduceMul, Int.reduceLT, Int.reduceLE, Int.reduceEq]
    | some x =>
      have hlt' := (List.getElem?_eq_some_iff.1 hc).1
      have hlt : (k : Int) < l.length := by omega
      have hst := cnt_take hc
      have hcl : cntF (l.take k) ≤ k := by
        unfold cntF
        refine Nat.le_trans (List.length_filter_le _ _) ?_
        simp
        omega
      by_cases hx : 0 ≤ x
      · rw [if_pos hx] at hst
        simp (disch := first | omega | (simp only [List.length_cons, List.length_nil, List.length_map, List.length_drop]; omega)) only [iSl, hlt, hc, hx, wrap_i64, decide_true, List.getElem?_map, Option.map_some, ↓evPre, ↓evPreW, evPost, evPostW, ← List.map_take, ← List.map_drop, ↓reduceIte, reduceCtorEq, Nat.reduceEqDiff, forall_const, implies_true, Nat.reduceAdd, Nat.reduceSub, Nat.reduceMul, Nat.reduceLT, Nat.reduceLeDiff, Int.reduceToNat, Int.reduceAdd, Int.reduceSub, Int.reduceNeg, Int.reduceMul, Int.reduceLT, Int.reduceLE, Int.reduceEq]
        exact ⟨k + 1, by omega, by omega, by rw [hst]; omega, rfl⟩
      · rw [if_neg hx] at hst
        simp (disch := first | omega | (simp only [List.length_cons, List.length_nil, List.length_map, List.length_drop]; omega)) only [iSl, hlt, hc, hx, wrap_i64, decide_true, decide_false, List.getElem?_map, Option.map_some, ↓evPre, ↓evPreW, evPost, evPostW, ← List.map_take, ← List.map_drop, ↓reduceIte, reduceCtorEq, Nat.reduceEqDiff, forall_const, implies_true, Nat.reduceAdd, Nat.reduceSub, Nat.reduceMul, Nat.reduceLT, Nat.reduceLeDiff, Int.reduceToNat, Int.reduceAdd, Int.reduceSub, Int.reduceNeg, Int.reduceMul, Int.reduceLT, Int.reduceLE, Int.reduceEq]
        exact ⟨k + 1, by omega, by omega, by rw [hst]; rfl, rfl⟩
end Go.Proofs.YteeenlgoildmiaaDoor
