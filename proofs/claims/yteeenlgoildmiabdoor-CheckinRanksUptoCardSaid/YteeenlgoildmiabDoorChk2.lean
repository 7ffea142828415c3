/- Bags: the weight of a ticket, the total. -/
import Derived.Test.YteeenlgoildmiabDoorChk1
namespace Go.Proofs.YteeenlgoildmiabDoor
open Go Go.AL
set_option linter.unusedSimpArgs false
set_option linter.unusedVariables false

structure Bg where
  tag : Int
  tic : Int
  wt : Int
  deriving DecidableEq
def bagR (b : Bg) : List V := [.int .i64 b.tag, .int .i64 b.tic, .int .i64 b.wt]
def bagSl (l : List Bg) : V := .sl 3 (l.map bagR)

def M40 : Int := 1099511627776
def wOf (t : Int) (b : Bg) : Int := if b.tic = t ∧ 1 ≤ b.wt ∧ b.wt ≤ 1099511627776 then b.wt else 0
def weightF (t : Int) (l : List Bg) : Int := (l.map (wOf t)).sum

theorem wOf_bound (t : Int) (b : Bg) : 0 ≤ wOf t b ∧ wOf t b ≤ 1099511627776 := by unfold wOf; split <;> omega
theorem weightF_bound (t : Int) : ∀ (l : List Bg), 0 ≤ weightF t l ∧ weightF t l ≤ 1099511627776 * l.length
  | [] => by simp [weightF]
  | b :: l => by
    have h1 := weightF_bound t l
    have h2 := wOf_bound t b
    simp only [weightF, List.map_cons, List.sum_cons, List.length_cons] at h1 ⊢
    omega
theorem weightF_take {t : Int} {l : List Bg} {k : Nat} {c : Bg} (h : l[k]? = some c) : weightF t (l.take (k + 1)) = weightF t (l.take k) + wOf t c := by
  rw [List.take_add_one, h]
  simp [weightF]

theorem weight_A (l : List Bg) (t : Int) (S : Store) (hl : l.length ≤ 60) : CallA Tryd.prog 22 [bagSl l, .int .i64 t] S fun r S' => r = .int .i64 (weightF t l) ∧ S' = S := by
  refine CallA.withNeat Tryd.func22 c22 fun hn => ?_
  refine CallA.keep Tryd.func22 c22 (Nat.le_of_ble_eq_true rfl) fun σ hσ => ?_
  simp only [a22, bagSl, List.length_map, ↓evPre, ↓evPreW, evPost, evPostW, ← List.map_take, ← List.map_drop, ↓reduceIte, reduceCtorEq, Nat.reduceEqDiff, forall_const, implies_true, Nat.reduceAdd, Nat.reduceSub, Nat.reduceMul, Nat.reduceLT, Nat.reduceLeDiff, Int.reduceToNat, Int.reduceAdd, Int.reduceSub, Int.reduceNeg, Int.reduceMul, Int.reduceLT, Int.reduceLE, Int.reduceEq]
  refine loopF (ι := Nat × Int) (fun i => [(1, .int .i64 t), (5, .int .i64 i.2), (8, bagSl l), (9, .int .i64 l.length), (10, .int .i64 i.1)]) (fun _ => S) (fun i => i.1 ≤ l.length ∧ i.2 = weightF t (l.take i.1)) (fun i => l.length - i.1)
    (fun i hi => by rw [hσ]; exact Nat.le_refl _) (0, 0) ⟨Nat.zero_le _, rfl⟩ (.inl ⟨?_, rfl⟩) ?_
  · simp only [bagSl, ↓evPre, ↓evPreW, evPost, evPostW, ← List.map_take, ← List.map_drop, ↓reduceIte, reduceCtorEq, Nat.reduceEqDiff, forall_const, implies_true, Nat.reduceAdd, Nat.reduceSub, Nat.reduceMul, Nat.reduceLT, Nat.reduceLeDiff, Int.reduceToNat, Int.reduceAdd, Int.reduceSub, Int.reduceNeg, Int.reduceMul, Int.reduceLT, Int.reduceLE, Int.reduceEq]
  · rintro ⟨k, n⟩ ⟨hk, hinv⟩
    simp only at hk hinv ⊢
    cases hc : l[k]? with
    | none =>
      have hlt : ¬ ((k : Int) < l.length) := by rw [List.getElem?_eq_none_iff] at hc; omega
      rw [List.take_of_length_le (by rw [List.getElem?_eq_none_iff] at hc; omega)] at hinv
      simp (disch := first | omega | (simp only [List.length_cons, List.length_nil, List.length_map, List.length_drop]; omega)) only [bagSl, List.length_map, wrap_i64, hc, hlt, hinv, decide_false, ↓evPre, ↓evPreW, evPost, evPostW, ← List.map_take, ← List.map_drop, ↓reduceIte, reduceCtorEq, Nat.reduceEqDiff, forall_const, implies_true, Nat.reduceAdd, Nat.reduceSub, Nat.reduceMul, Nat.reduceLT, Nat.reduceLeDiff, Int.reduceToNat, Int.reduceAdd, Int.reduceSub, Int.reduceNeg, Int.reduceMul, Int.reduceLT, Int.reduceLE, Int.reduceEq]
    | some c =>
      have hlt' := (List.getElem?_eq_some_iff.1 hc).1
      have hlt : (k : Int) < l.length := by omega
      subst hinv
      have hb := weightF_bound t (l.take k)
      have hb2 : (l.take k).length ≤ 60 := by simp; omega
      have hstep := weightF_take (t := t) hc
      by_cases h : c.tic = t ∧ 1 ≤ c.wt ∧ c.wt ≤ 1099511627776
      · obtain ⟨h1, h2, h3⟩ := h
        have hw : wOf t c = c.wt := if_pos ⟨h1, h2, h3⟩
        rw [hw] at hstep
        simp (disch := first | omega | (simp only [List.length_cons, List.length_nil, List.length_map, List.length_drop]; omega)) only [bagSl, bagR, List.length_map, wrap_i64, hc, hlt, h1, h2, h3, decide_true, List.take_succ_cons, List.take_zero, List.getElem?_map, Option.map_some, evSt, ↓evPre, ↓evPreW, evPost, evPostW, ← List.map_take, ← List.map_drop, ↓reduceIte, reduceCtorEq, Nat.reduceEqDiff, forall_const, implies_true, Nat.reduceAdd, Nat.reduceSub, Nat.reduceMul, Nat.reduceLT, Nat.reduceLeDiff, Int.reduceToNat, Int.reduceAdd, Int.reduceSub, Int.reduceNeg, Int.reduceMul, Int.reduceLT, Int.reduceLE, Int.reduceEq]
        exact ⟨(k + 1, _), ⟨by simp only; omega, hstep.symm⟩, by simp only; omega, back_under (hn.fgt _) (by simp only [bagSl, ↓evPre, ↓evPreW, evPost, evPostW, ← List.map_take, ← List.map_drop, ↓reduceIte, reduceCtorEq, Nat.reduceEqDiff, forall_const, implies_true, Nat.reduceAdd, Nat.reduceSub, Nat.reduceMul, Nat.reduceLT, Nat.reduceLeDiff, Int.reduceToNat, Int.reduceAdd, Int.reduceSub, Int.reduceNeg, Int.reduceMul, Int.reduceLT, Int.reduceLE, Int.reduceEq]; rfl) rfl⟩
      · have hw : wOf t c = 0 := if_neg h
        rw [hw, Int.add_zero] at hstep
        simp (disch := first | omega | (simp only [List.length_cons, List.length_nil, List.length_map, List.length_drop]; omega)) only [bagSl, bagR, List.length_map, wrap_i64, hc, hlt, List.take_succ_cons, List.take_zero, List.getElem?_map, Option.map_some, evSt, ↓evPre, ↓evPreW, evPost, evPostW, ← List.map_take, ← List.map_drop, ↓reduceIte, reduceCtorEq, Nat.reduceEqDiff, forall_const, implies_true, Nat.reduceAdd, Nat.reduceSub, Nat.reduceMul, Nat.reduceLT, Nat.reduceLeDiff, Int.reduceToNat, Int.reduceAdd, Int.reduceSub, Int.reduceNeg, Int.reduceMul, Int.reduceLT, Int.reduceLE, Int.reduceEq]
        have fin : ∀ E, sub [(1, .int .i64 t), (5, .int .i64 (weightF t (l.take k))), (8, bagSl l), (9, .int .i64 l.length), (10, .int .i64 (k + 1))] E → ∀ T, ∃ i' : Nat × Int, (i'.1 ≤ l.length ∧ i'.2 = weightF t (List.take i'.1 l)) ∧ l.length - i'.1 < l.length - k ∧ Back [(1, .int .i64 t), (5, .int .i64 i'.2), (8, bagSl l), (9, .int .i64 l.length), (10, .int .i64 i'.1)] S E (S ++ T) := fun E hE T =>
          ⟨(k + 1, weightF t (l.take k)), ⟨by simp only; omega, hstep.symm⟩, by simp only; omega, back_under (hn.fgt _) hE rfl⟩
        exact ⟨fun g1 => ⟨fun g2 => ⟨fun g3 => absurd ⟨g1, g2, g3⟩ h, fun g3 => fin _ (by simp only [bagSl, ↓evPre, ↓evPreW, evPost, evPostW, ← List.map_take, ← List.map_drop, ↓reduceIte, reduceCtorEq, Nat.reduceEqDiff, forall_const, implies_true, Nat.reduceAdd, Nat.reduceSub, Nat.reduceMul, Nat.reduceLT, Nat.reduceLeDiff, Int.reduceToNat, Int.reduceAdd, Int.reduceSub, Int.reduceNeg, Int.reduceMul, Int.reduceLT, Int.reduceLE, Int.reduceEq]) _⟩, fun g2 => fin _ (by simp only [bagSl, ↓evPre, ↓evPreW, evPost, evPostW, ← List.map_take, ← List.map_drop, ↓reduceIte, reduceCtorEq, Nat.reduceEqDiff, forall_const, implies_true, Nat.reduceAdd, Nat.reduceSub, Nat.reduceMul, Nat.reduceLT, Nat.reduceLeDiff, Int.reduceToNat, Int.reduceAdd, Int.reduceSub, Int.reduceNeg, Int.reduceMul, Int.reduceLT, Int.reduceLE, Int.reduceEq]) _⟩, fun g1 => fin _ (by simp only [bagSl, ↓evPre, ↓evPreW, evPost, evPostW, ← List.map_take, ← List.map_drop, ↓reduceIte, reduceCtorEq, Nat.reduceEqDiff, forall_const, implies_true, Nat.reduceAdd, Nat.reduceSub, Nat.reduceMul, Nat.reduceLT, Nat.reduceLeDiff, Int.reduceToNat, Int.reduceAdd, Int.reduceSub, Int.reduceNeg, Int.reduceMul, Int.reduceLT, Int.reduceLE, Int.reduceEq]) _⟩

theorem refweight_A (l : List Bg) (t : Int) (S : Store) (hl : l.length ≤ 60) : CallA Tryd.prog 23 [bagSl l, .int .i64 t] S fun r S' => r = .int .i64 (weightF t l) ∧ S' = S := by
  refine CallA.keep Tryd.func23 c23 (Nat.le_of_ble_eq_true rfl) fun σ hσ => ?_
  simp only [a23, bagSl, List.length_map, ↓evPre, ↓evPreW, evPost, evPostW, ← List.map_take, ← List.map_drop, ↓reduceIte, reduceCtorEq, Nat.reduceEqDiff, forall_const, implies_true, Nat.reduceAdd, Nat.reduceSub, Nat.reduceMul, Nat.reduceLT, Nat.reduceLeDiff, Int.reduceToNat, Int.reduceAdd, Int.reduceSub, Int.reduceNeg, Int.reduceMul, Int.reduceLT, Int.reduceLE, Int.reduceEq]
  refine loopA (ι := Nat × Int) (fun i => [(0, bagSl l), (1, .int .i64 t), (5, .int .i64 i.2), (6, .int .i64 i.1)]) (fun _ => S) (fun i => i.1 ≤ l.length ∧ i.2 = weightF t (l.take i.1)) (fun i => l.length - i.1)
    (0, 0) ⟨Nat.zero_le _, rfl⟩ ?_ rfl ?_
  · simp only [bagSl, ↓evPre, ↓evPreW, evPost, evPostW, ← List.map_take, ← List.map_drop, ↓reduceIte, reduceCtorEq, Nat.reduceEqDiff, forall_const, implies_true, Nat.reduceAdd, Nat.reduceSub, Nat.reduceMul, Nat.reduceLT, Nat.reduceLeDiff, Int.reduceToNat, Int.reduceAdd, Int.reduceSub, Int.reduceNeg, Int.reduceMul, Int.reduceLT, Int.reduceLE, Int.reduceEq]
  · rintro ⟨k, n⟩ ⟨hk, hinv⟩
    simp only at hk hinv ⊢
    cases hc : l[k]? with
    | none =>
      have hlt : ¬ ((k : Int) < l.length) := by rw [List.getElem?_eq_none_iff] at hc; omega
      rw [List.take_of_length_le (by rw [List.getElem?_eq_none_iff] at hc; omega)] at hinv
      simp (disch := first | omega | (simp only [List.length_cons, List.length_nil, List.length_map, List.length_drop]; omega)) only [bagSl, List.length_map, wrap_i64, hc, hlt, hinv, decide_false, ↓evPre, ↓evPreW, evPost, evPostW, ← List.map_take, ← List.map_drop, ↓reduceIte, reduceCtorEq, Nat.reduceEqDiff, forall_const, implies_true, Nat.reduceAdd, Nat.reduceSub, Nat.reduceMul, Nat.reduceLT, Nat.reduceLeDiff, Int.reduceToNat, Int.reduceAdd, Int.reduceSub, Int.reduceNeg, Int.reduceMul, Int.reduceLT, Int.reduceLE, Int.reduceEq]
    | some c =>
      have hlt' := (List.getElem?_eq_some_iff.1 hc).1
      have hlt : (k : Int) < l.length := by omega
      subst hinv
      have hb := weightF_bound t (l.take k)
      have hb2 : (l.take k).length ≤ 60 := by simp; omega
      have hstep := weightF_take (t := t) hc
      by_cases h : c.tic = t ∧ 1 ≤ c.wt ∧ c.wt ≤ 1099511627776
      · obtain ⟨h1, h2, h3⟩ := h
        have hw : wOf t c = c.wt := if_pos ⟨h1, h2, h3⟩
        rw [hw] at hstep
        simp (disch := first | omega | (simp only [List.length_cons, List.length_nil, List.length_map, List.length_drop]; omega)) only [bagSl, bagR, List.length_map, wrap_i64, hc, hlt, h1, h2, h3, decide_true, List.take_succ_cons, List.take_zero, List.getElem?_map, Option.map_some, evSt, ↓evPre, ↓evPreW, evPost, evPostW, ← List.map_take, ← List.map_drop, ↓reduceIte, reduceCtorEq, Nat.reduceEqDiff, forall_const, implies_true, Nat.reduceAdd, Nat.reduceSub, Nat.reduceMul, Nat.reduceLT, Nat.reduceLeDiff, Int.reduceToNat, Int.reduceAdd, Int.reduceSub, Int.reduceNeg, Int.reduceMul, Int.reduceLT, Int.reduceLE, Int.reduceEq]
        exact ⟨(k + 1, _), ⟨by simp only; omega, hstep.symm⟩, by simp only; omega, by simp only [and_self], rfl⟩
      · have hw : wOf t c = 0 := if_neg h
        rw [hw, Int.add_zero] at hstep
        simp (disch := first | omega | (simp only [List.length_cons, List.length_nil, List.length_map, List.length_drop]; omega)) only [bagSl, bagR, List.length_map, wrap_i64, hc, hlt, List.take_succ_cons, List.take_zero, List.getElem?_map, Option.map_some, evSt, ↓evPre, ↓evPreW, evPost, evPostW, ← List.map_take, ← List.map_drop, ↓reduceIte, reduceCtorEq, Nat.reduceEqDiff, forall_const, implies_true, Nat.reduceAdd, Nat.reduceSub, Nat.reduceMul, Nat.reduceLT, Nat.reduceLeDiff, Int.reduceToNat, Int.reduceAdd, Int.reduceSub, Int.reduceNeg, Int.reduceMul, Int.reduceLT, Int.reduceLE, Int.reduceEq]
        have fin : ∃ i' : Nat × Int, (i'.1 ≤ l.length ∧ i'.2 = weightF t (List.take i'.1 l)) ∧ l.length - i'.1 < l.length - k ∧ weightF t (l.take k) = i'.2 ∧ (k : Int) + 1 = i'.1 :=
          ⟨(k + 1, weightF t (l.take k)), ⟨by simp only; omega, hstep.symm⟩, by simp only; omega, rfl, rfl⟩
        exact ⟨fun g1 => ⟨fun g2 => ⟨fun g3 => absurd ⟨g1, g2, g3⟩ h, fun g3 => fin⟩, fun g2 => fin⟩, fun g1 => fin⟩

/-! ### The total -/
def totGo (n : Int) : List Bg → Int × Int
  | [] => (n, 0)
  | b :: l => if 1099511627776 - n < b.wt then (0, 11) else totGo (n + b.wt) l
def lightB (l : List Bg) : Bool := l.any fun b => decide (b.wt < 1)
def totalF (l : List Bg) : Int × Int := if lightB l then (0, 2) else totGo 0 l

theorem light_A (b : Bg) (S : Store) : CallA Tryd.prog 36 [.agg (bagR b)] S fun r S' => r = .bool (decide (b.wt < 1)) ∧ S' = S := by
  refine CallA.keep Tryd.func36 c36 (Nat.le_of_ble_eq_true rfl) fun σ hσ => ?_
  simp (disch := first | omega | (simp only [List.length_cons, List.length_nil, List.length_map, List.length_drop]; omega)) only [a36, bagR, List.take_succ_cons, List.take_zero, evSt, ↓evPre, ↓evPreW, evPost, evPostW, ← List.map_take, ← List.map_drop, ↓reduceIte, reduceCtorEq, Nat.reduceEqDiff, forall_const, implies_true, Nat.reduceAdd, Nat.reduceSub, Nat.reduceMul, Nat.reduceLT, Nat.reduceLeDiff, Int.reduceToNat, Int.reduceAdd, Int.reduceSub, Int.reduceNeg, Int.reduceMul, Int.reduceLT, Int.reduceLE, Int.reduceEq]

theorem anyLight_A (l : List Bg) (S : Store) (hl : l.length ≤ 60) : CallA Tryd.prog 35 [bagSl l, .func 36 [] []] S fun r S' => r = .bool (lightB l) ∧ S' = S := by
  refine CallA.keep Tryd.func35 c35 (Nat.le_of_ble_eq_true rfl) fun σ hσ => ?_
  simp only [a35, ↓evPre, ↓evPreW, evPost, evPostW, ← List.map_take, ← List.map_drop, ↓reduceIte, reduceCtorEq, Nat.reduceEqDiff, forall_const, implies_true, Nat.reduceAdd, Nat.reduceSub, Nat.reduceMul, Nat.reduceLT, Nat.reduceLeDiff, Int.reduceToNat, Int.reduceAdd, Int.reduceSub, Int.reduceNeg, Int.reduceMul, Int.reduceLT, Int.reduceLE, Int.reduceEq]
  have key : CallA Tryd.prog 42 [bagSl l, .func 36 [] []] S fun r S' => (∃ n : Int, r = .int .i64 n ∧ (0 ≤ n ↔ lightB l = true)) ∧ S' = S := by
    refine CallA.keep Tryd.func42 c42 (Nat.le_of_ble_eq_true rfl) fun σ hσ => ?_
    simp only [a42, bagSl, List.length_map, ↓evPre, ↓evPreW, evPost, evPostW, ← List.map_take, ← List.map_drop, ↓reduceIte, reduceCtorEq, Nat.reduceEqDiff, forall_const, implies_true, Nat.reduceAdd, Nat.reduceSub, Nat.reduceMul, Nat.reduceLT, Nat.reduceLeDiff, Int.reduceToNat, Int.reduceAdd, Int.reduceSub, Int.reduceNeg, Int.reduceMul, Int.reduceLT, Int.reduceLE, Int.reduceEq]
    refine loopA (ι := Nat) (fun k => [(0, bagSl l), (1, .func 36 [] []), (6, bagSl l), (7, .int .i64 l.length), (8, .int .i64 k)]) (fun _ => S) (fun k => k ≤ l.length ∧ lightB (l.take k) = false) (fun k => l.length - k) 0 ⟨Nat.zero_le _, rfl⟩ ?_ rfl ?_
    · simp only [bagSl, ↓evPre, ↓evPreW, evPost, evPostW, ← List.map_take, ← List.map_drop, ↓reduceIte, reduceCtorEq, Nat.reduceEqDiff, forall_const, implies_true, Nat.reduceAdd, Nat.reduceSub, Nat.reduceMul, Nat.reduceLT, Nat.reduceLeDiff, Int.reduceToNat, Int.reduceAdd, Int.reduceSub, Int.reduceNeg, Int.reduceMul, Int.reduceLT, Int.reduceLE, Int.reduceEq]
    · rintro k ⟨hk, hinv⟩
      cases hc : l[k]? with
      | none =>
        have hlt : ¬ ((k : Int) < l.length) := by rw [List.getElem?_eq_none_iff] at hc; omega
        rw [List.take_of_length_le (by rw [List.getElem?_eq_none_iff] at hc; omega)] at hinv
        simp (disch := first | omega | (simp only [List.length_cons, List.length_nil, List.length_map, List.length_drop]; omega)) only [bagSl, List.length_map, wrap_i64, hc, hlt, ↓evPre, ↓evPreW, evPost, evPostW, ← List.map_take, ← List.map_drop, ↓reduceIte, reduceCtorEq, Nat.reduceEqDiff, forall_const, implies_true, Nat.reduceAdd, Nat.reduceSub, Nat.reduceMul, Nat.reduceLT, Nat.reduceLeDiff, Int.reduceToNat, Int.reduceAdd, Int.reduceSub, Int.reduceNeg, Int.reduceMul, Int.reduceLT, Int.reduceLE, Int.reduceEq]
        exact ⟨_, rfl, by rw [hinv]; simp⟩
      | some c =>
        have hlt' := (List.getElem?_eq_some_iff.1 hc).1
        have hlt : (k : Int) < l.length := by omega
        simp (disch := first | omega | (simp only [List.length_cons, List.length_nil, List.length_map, List.length_drop]; omega)) only [bagSl, bagR, List.length_map, wrap_i64, hc, hlt, decide_true, List.getElem?_map, Option.map_some, List.take_succ_cons, List.take_zero, ↓evPre, ↓evPreW, evPost, evPostW, ← List.map_take, ← List.map_drop, ↓reduceIte, reduceCtorEq, Nat.reduceEqDiff, forall_const, implies_true, Nat.reduceAdd, Nat.reduceSub, Nat.reduceMul, Nat.reduceLT, Nat.reduceLeDiff, Int.reduceToNat, Int.reduceAdd, Int.reduceSub, Int.reduceNeg, Int.reduceMul, Int.reduceLT, Int.reduceLE, Int.reduceEq]
        refine (light_A c S).then ?_
        have hs : lightB (l.take (k + 1)) = decide (c.wt < 1) := by
          rw [List.take_add_one, hc]
          unfold lightB at hinv ⊢
          simp [hinv]
        have hm : c.wt < 1 → lightB l = true := fun h => List.any_eq_true.2 ⟨c, List.mem_of_getElem? hc, by simp [h]⟩
        simp (disch := first | omega | (simp only [List.length_cons, List.length_nil, List.length_map, List.length_drop]; omega)) only [bagSl, bagR, List.length_map, wrap_i64, hc, hlt, decide_true, List.getElem?_map, Option.map_some, List.take_succ_cons, List.take_zero, ↓evPre, ↓evPreW, evPost, evPostW, ← List.map_take, ← List.map_drop, ↓reduceIte, reduceCtorEq, Nat.reduceEqDiff, forall_const, implies_true, Nat.reduceAdd, Nat.reduceSub, Nat.reduceMul, Nat.reduceLT, Nat.reduceLeDiff, Int.reduceToNat, Int.reduceAdd, Int.reduceSub, Int.reduceNeg, Int.reduceMul, Int.reduceLT, Int.reduceLE, Int.reduceEq]
        refine ⟨fun h => ⟨_, rfl, by rw [hm h]; simp⟩, fun h => ⟨k + 1, ⟨by omega, by rw [hs]; simp; omega⟩, by omega, rfl⟩⟩
  refine key.mono ?_
  rintro r S' ⟨⟨n, rfl, hn⟩, rfl⟩
  have e : decide (0 ≤ n) = lightB l := by
    rw [Bool.eq_iff_iff, decide_eq_true_eq]
    exact hn
  simp only [e, ↓evPre, ↓evPreW, evPost, evPostW, ← List.map_take, ← List.map_drop, ↓reduceIte, reduceCtorEq, Nat.reduceEqDiff, forall_const, implies_true, Nat.reduceAdd, Nat.reduceSub, Nat.reduceMul, Nat.reduceLT, Nat.reduceLeDiff, Int.reduceToNat, Int.reduceAdd, Int.reduceSub, Int.reduceNeg, Int.reduceMul, Int.reduceLT, Int.reduceLE, Int.reduceEq]

theorem reftotal_A (l : List Bg) (S : Store) (hl : l.length ≤ 60) : CallA Tryd.prog 21 [bagSl l] S fun r S' => r = .tup [.int .i64 (totalF l).1, .int .i64 (totalF l).2] ∧ S' = S := by
  refine CallA.keep Tryd.func21 c21 (Nat.le_of_ble_eq_true rfl) fun σ hσ => ?_
  simp only [a21, bagSl, List.length_map, ↓evPre, ↓evPreW, evPost, evPostW, ← List.map_take, ← List.map_drop, ↓reduceIte, reduceCtorEq, Nat.reduceEqDiff, forall_const, implies_true, Nat.reduceAdd, Nat.reduceSub, Nat.reduceMul, Nat.reduceLT, Nat.reduceLeDiff, Int.reduceToNat, Int.reduceAdd, Int.reduceSub, Int.reduceNeg, Int.reduceMul, Int.reduceLT, Int.reduceLE, Int.reduceEq]
  refine loopA (ι := Nat) (fun k => [(0, bagSl l), (4, .int .i64 k)]) (fun _ => S) (fun k => k ≤ l.length ∧ lightB (l.take k) = false) (fun k => l.length - k) 0 ⟨Nat.zero_le _, rfl⟩ ?_ rfl ?_
  · simp only [bagSl, ↓evPre, ↓evPreW, evPost, evPostW, ← List.map_take, ← List.map_drop, ↓reduceIte, reduceCtorEq, Nat.reduceEqDiff, forall_const, implies_true, Nat.reduceAdd, Nat.reduceSub, Nat.reduceMul, Nat.reduceLT, Nat.reduceLeDiff, Int.reduceToNat, Int.reduceAdd, Int.reduceSub, Int.reduceNeg, Int.reduceMul, Int.reduceLT, Int.reduceLE, Int.reduceEq]
  · rintro k ⟨hk, hinv⟩
    cases hc : l[k]? with
    | none =>
      have hlt : ¬ ((k : Int) < l.length) := by rw [List.getElem?_eq_none_iff] at hc; omega
      rw [List.take_of_length_le (by rw [List.getElem?_eq_none_iff] at hc; omega)] at hinv
      have e : totalF l = totGo 0 l := by rw [totalF, hinv]; rfl
      have hw : ∀ b ∈ l, 1 ≤ b.wt := fun b hb => by
        have h : ¬ b.wt < 1 := fun h => by
          have : lightB l = true := List.any_eq_true.2 ⟨b, hb, by simp [h]⟩
          rw [hinv] at this
          cases this
        omega
      simp (disch := first | omega | (simp only [List.length_cons, List.length_nil, List.length_map, List.length_drop]; omega)) only [bagSl, List.length_map, wrap_i64, hc, hlt, ↓evPre, ↓evPreW, evPost, evPostW, ← List.map_take, ← List.map_drop, ↓reduceIte, reduceCtorEq, Nat.reduceEqDiff, forall_const, implies_true, Nat.reduceAdd, Nat.reduceSub, Nat.reduceMul, Nat.reduceLT, Nat.reduceLeDiff, Int.reduceToNat, Int.reduceAdd, Int.reduceSub, Int.reduceNeg, Int.reduceMul, Int.reduceLT, Int.reduceLE, Int.reduceEq]
      refine loopA (ι := Nat × Int) (fun i => [(0, bagSl l), (5, .int .i64 i.2), (6, .int .i64 i.1)]) (fun _ => S) (fun i => i.1 ≤ l.length ∧ totGo i.2 (l.drop i.1) = totGo 0 l ∧ 0 ≤ i.2 ∧ i.2 ≤ 1099511627776) (fun i => l.length - i.1) (0, 0) ⟨Nat.zero_le _, rfl, by simp only; omega, by simp only; omega⟩ ?_ rfl ?_
      · simp only [bagSl, ↓evPre, ↓evPreW, evPost, evPostW, ← List.map_take, ← List.map_drop, ↓reduceIte, reduceCtorEq, Nat.reduceEqDiff, forall_const, implies_true, Nat.reduceAdd, Nat.reduceSub, Nat.reduceMul, Nat.reduceLT, Nat.reduceLeDiff, Int.reduceToNat, Int.reduceAdd, Int.reduceSub, Int.reduceNeg, Int.reduceMul, Int.reduceLT, Int.reduceLE, Int.reduceEq]
      · rintro ⟨k, n⟩ ⟨hk, hinv2, hn1, hn2⟩
        simp only at hk hinv2 hn1 hn2 ⊢
        cases hc : l[k]? with
        | none =>
          have hlt : ¬ ((k : Int) < l.length) := by rw [List.getElem?_eq_none_iff] at hc; omega
          rw [List.drop_eq_nil_of_le (by omega)] at hinv2
          simp (disch := first | omega | (simp only [List.length_cons, List.length_nil, List.length_map, List.length_drop]; omega)) only [bagSl, List.length_map, wrap_i64, hc, hlt, e, ← hinv2, totGo, decide_false, ↓evPre, ↓evPreW, evPost, evPostW, ← List.map_take, ← List.map_drop, ↓reduceIte, reduceCtorEq, Nat.reduceEqDiff, forall_const, implies_true, Nat.reduceAdd, Nat.reduceSub, Nat.reduceMul, Nat.reduceLT, Nat.reduceLeDiff, Int.reduceToNat, Int.reduceAdd, Int.reduceSub, Int.reduceNeg, Int.reduceMul, Int.reduceLT, Int.reduceLE, Int.reduceEq]
        | some c =>
          have hlt' := (List.getElem?_eq_some_iff.1 hc).1
          have hlt : (k : Int) < l.length := by omega
          have hw1 := hw c (List.mem_of_getElem? hc)
          rw [drop_get hc, totGo] at hinv2
          by_cases h : 1099511627776 - n < c.wt
          · rw [if_pos h] at hinv2
            simp (disch := first | omega | (simp only [List.length_cons, List.length_nil, List.length_map, List.length_drop]; omega)) only [bagSl, bagR, List.length_map, wrap_i64, hc, hlt, h, e, ← hinv2, decide_true, List.getElem?_map, Option.map_some, ↓evPre, ↓evPreW, evPost, evPostW, ← List.map_take, ← List.map_drop, ↓reduceIte, reduceCtorEq, Nat.reduceEqDiff, forall_const, implies_true, Nat.reduceAdd, Nat.reduceSub, Nat.reduceMul, Nat.reduceLT, Nat.reduceLeDiff, Int.reduceToNat, Int.reduceAdd, Int.reduceSub, Int.reduceNeg, Int.reduceMul, Int.reduceLT, Int.reduceLE, Int.reduceEq]
          · rw [if_neg h] at hinv2
            simp (disch := first | omega | (simp only [List.length_cons, List.length_nil, List.length_map, List.length_drop]; omega)) only [bagSl, bagR, List.length_map, wrap_i64, hc, hlt, h, decide_true, decide_false, List.getElem?_map, Option.map_some, ↓evPre, ↓evPreW, evPost, evPostW, ← List.map_take, ← List.map_drop, ↓reduceIte, reduceCtorEq, Nat.reduceEqDiff, forall_const, implies_true, Nat.reduceAdd, Nat.reduceSub, Nat.reduceMul, Nat.reduceLT, Nat.reduceLeDiff, Int.reduceToNat, Int.reduceAdd, Int.reduceSub, Int.reduceNeg, Int.reduceMul, Int.reduceLT, Int.reduceLE, Int.reduceEq]
            exact ⟨(k + 1, n + c.wt), ⟨by simp only; omega, hinv2, by simp only; omega, by simp only; omega⟩, by simp only; omega, rfl, rfl⟩
    | some c =>
      have hlt' := (List.getElem?_eq_some_iff.1 hc).1
      have hlt : (k : Int) < l.length := by omega
      have hs : lightB (l.take (k + 1)) = decide (c.wt < 1) := by
        rw [List.take_add_one, hc]
        unfold lightB at hinv ⊢
        simp [hinv]
      have hm : c.wt < 1 → totalF l = (0, 2) := fun h => if_pos (List.any_eq_true.2 ⟨c, List.mem_of_getElem? hc, by simp [h]⟩)
      by_cases h : c.wt < 1
      · simp (disch := first | omega | (simp only [List.length_cons, List.length_nil, List.length_map, List.length_drop]; omega)) only [bagSl, bagR, List.length_map, wrap_i64, hc, hlt, h, hm h, decide_true, List.getElem?_map, Option.map_some, ↓evPre, ↓evPreW, evPost, evPostW, ← List.map_take, ← List.map_drop, ↓reduceIte, reduceCtorEq, Nat.reduceEqDiff, forall_const, implies_true, Nat.reduceAdd, Nat.reduceSub, Nat.reduceMul, Nat.reduceLT, Nat.reduceLeDiff, Int.reduceToNat, Int.reduceAdd, Int.reduceSub, Int.reduceNeg, Int.reduceMul, Int.reduceLT, Int.reduceLE, Int.reduceEq]
      · simp (disch := first | omega | (simp only [List.length_cons, List.length_nil, List.length_map, List.length_drop]; omega)) only [bagSl, bagR, List.length_map, wrap_i64, hc, hlt, h, decide_true, decide_false, List.getElem?_map, Option.map_some, ↓evPre, ↓evPreW, evPost, evPostW, ← List.map_take, ← List.map_drop, ↓reduceIte, reduceCtorEq, Nat.reduceEqDiff, forall_const, implies_true, Nat.reduceAdd, Nat.reduceSub, Nat.reduceMul, Nat.reduceLT, Nat.reduceLeDiff, Int.reduceToNat, Int.reduceAdd, Int.reduceSub, Int.reduceNeg, Int.reduceMul, Int.reduceLT, Int.reduceLE, Int.reduceEq]
        exact ⟨k + 1, ⟨by omega, by rw [hs]; simp; omega⟩, by omega, rfl⟩

theorem total_A (l : List Bg) (S : Store) (hl : l.length ≤ 60) : CallA Tryd.prog 20 [bagSl l] S fun r S' => r = .tup [.int .i64 (totalF l).1, .int .i64 (totalF l).2] ∧ S' = S := by
  refine CallA.withNeat Tryd.func20 c20 fun hn => ?_
  refine CallA.fin Tryd.func20 c20 (Nat.le_of_ble_eq_true rfl) fun σ hσ => ?_
  simp only [a20, ↓evPre, ↓evPreW, evPost, evPostW, ← List.map_take, ← List.map_drop, ↓reduceIte, reduceCtorEq, Nat.reduceEqDiff, forall_const, implies_true, Nat.reduceAdd, Nat.reduceSub, Nat.reduceMul, Nat.reduceLT, Nat.reduceLeDiff, Int.reduceToNat, Int.reduceAdd, Int.reduceSub, Int.reduceNeg, Int.reduceMul, Int.reduceLT, Int.reduceLE, Int.reduceEq]
  refine (anyLight_A l S hl).then ?_
  cases hinv : lightB l with
  | true =>
    have e : totalF l = (0, 2) := if_pos hinv
    simp only [e, ↓evPre, ↓evPreW, evPost, evPostW, ← List.map_take, ← List.map_drop, ↓reduceIte, reduceCtorEq, Nat.reduceEqDiff, forall_const, implies_true, Nat.reduceAdd, Nat.reduceSub, Nat.reduceMul, Nat.reduceLT, Nat.reduceLeDiff, Int.reduceToNat, Int.reduceAdd, Int.reduceSub, Int.reduceNeg, Int.reduceMul, Int.reduceLT, Int.reduceLE, Int.reduceEq]
    exact ⟨_, S, hn.self, .imm rfl, Nat.le_refl _, rfl, rfl⟩
  | false =>
    have e : totalF l = totGo 0 l := by rw [totalF, hinv]; rfl
    have hw : ∀ b ∈ l, 1 ≤ b.wt := fun b hb => by
      have h : ¬ b.wt < 1 := fun h => by
        have : lightB l = true := List.any_eq_true.2 ⟨b, hb, by simp [h]⟩
        rw [hinv] at this
        cases this
      omega
    simp only [bagSl, List.length_map, ↓evPre, ↓evPreW, evPost, evPostW, ← List.map_take, ← List.map_drop, ↓reduceIte, reduceCtorEq, Nat.reduceEqDiff, forall_const, implies_true, Nat.reduceAdd, Nat.reduceSub, Nat.reduceMul, Nat.reduceLT, Nat.reduceLeDiff, Int.reduceToNat, Int.reduceAdd, Int.reduceSub, Int.reduceNeg, Int.reduceMul, Int.reduceLT, Int.reduceLE, Int.reduceEq]
    refine loopF (ι := Nat × Int) (fun i => [(4, .int .i64 i.2), (9, bagSl l), (10, .int .i64 l.length), (11, .int .i64 i.1)]) (fun _ => S) (fun i => i.1 ≤ l.length ∧ totGo i.2 (l.drop i.1) = totGo 0 l ∧ 0 ≤ i.2 ∧ i.2 ≤ 1099511627776) (fun i => l.length - i.1) (fun i hi => by rw [hσ]; exact Nat.le_refl _) (0, 0) ⟨Nat.zero_le _, rfl, by simp only; omega, by simp only; omega⟩ (.inl ⟨?_, rfl⟩) ?_
    · simp only [bagSl, ↓evPre, ↓evPreW, evPost, evPostW, ← List.map_take, ← List.map_drop, ↓reduceIte, reduceCtorEq, Nat.reduceEqDiff, forall_const, implies_true, Nat.reduceAdd, Nat.reduceSub, Nat.reduceMul, Nat.reduceLT, Nat.reduceLeDiff, Int.reduceToNat, Int.reduceAdd, Int.reduceSub, Int.reduceNeg, Int.reduceMul, Int.reduceLT, Int.reduceLE, Int.reduceEq]
    · rintro ⟨k, n⟩ ⟨hk, hinv2, hn1, hn2⟩
      simp only at hk hinv2 hn1 hn2 ⊢
      cases hc : l[k]? with
      | none =>
        have hlt : ¬ ((k : Int) < l.length) := by rw [List.getElem?_eq_none_iff] at hc; omega
        rw [List.drop_eq_nil_of_le (by omega)] at hinv2
        simp (disch := first | omega | (simp only [List.length_cons, List.length_nil, List.length_map, List.length_drop]; omega)) only [bagSl, List.length_map, wrap_i64, hc, hlt, e, ← hinv2, totGo, decide_false, ↓evPre, ↓evPreW, evPost, evPostW, ← List.map_take, ← List.map_drop, ↓reduceIte, reduceCtorEq, Nat.reduceEqDiff, forall_const, implies_true, Nat.reduceAdd, Nat.reduceSub, Nat.reduceMul, Nat.reduceLT, Nat.reduceLeDiff, Int.reduceToNat, Int.reduceAdd, Int.reduceSub, Int.reduceNeg, Int.reduceMul, Int.reduceLT, Int.reduceLE, Int.reduceEq]
        exact ⟨_, S, hn.self, .imm rfl, Nat.le_refl _, rfl, rfl⟩
      | some c =>
        have hlt' := (List.getElem?_eq_some_iff.1 hc).1
        have hlt : (k : Int) < l.length := by omega
        have hw1 := hw c (List.mem_of_getElem? hc)
        rw [drop_get hc, totGo] at hinv2
        by_cases h : 1099511627776 - n < c.wt
        · rw [if_pos h] at hinv2
          simp (disch := first | omega | (simp only [List.length_cons, List.length_nil, List.length_map, List.length_drop]; omega)) only [bagSl, bagR, List.length_map, wrap_i64, hc, hlt, h, e, ← hinv2, decide_true, List.getElem?_map, Option.map_some, List.take_succ_cons, List.take_zero, evSt, ↓evPre, ↓evPreW, evPost, evPostW, ← List.map_take, ← List.map_drop, ↓reduceIte, reduceCtorEq, Nat.reduceEqDiff, forall_const, implies_true, Nat.reduceAdd, Nat.reduceSub, Nat.reduceMul, Nat.reduceLT, Nat.reduceLeDiff, Int.reduceToNat, Int.reduceAdd, Int.reduceSub, Int.reduceNeg, Int.reduceMul, Int.reduceLT, Int.reduceLE, Int.reduceEq]
          exact ⟨_, S, hn.fgt _, .imm rfl, Nat.le_refl _, rfl, rfl⟩
        · rw [if_neg h] at hinv2
          simp (disch := first | omega | (simp only [List.length_cons, List.length_nil, List.length_map, List.length_drop]; omega)) only [bagSl, bagR, List.length_map, wrap_i64, hc, hlt, h, decide_true, decide_false, List.getElem?_map, Option.map_some, List.take_succ_cons, List.take_zero, evSt, ↓evPre, ↓evPreW, evPost, evPostW, ← List.map_take, ← List.map_drop, ↓reduceIte, reduceCtorEq, Nat.reduceEqDiff, forall_const, implies_true, Nat.reduceAdd, Nat.reduceSub, Nat.reduceMul, Nat.reduceLT, Nat.reduceLeDiff, Int.reduceToNat, Int.reduceAdd, Int.reduceSub, Int.reduceNeg, Int.reduceMul, Int.reduceLT, Int.reduceLE, Int.reduceEq]
          exact ⟨(k + 1, n + c.wt), ⟨by simp only; omega, hinv2, by simp only; omega, by simp only; omega⟩, by simp only; omega, back_under (hn.fgt _) (by simp only [bagSl, ↓evPre, ↓evPreW, evPost, evPostW, ← List.map_take, ← List.map_drop, ↓reduceIte, reduceCtorEq, Nat.reduceEqDiff, forall_const, implies_true, Nat.reduceAdd, Nat.reduceSub, Nat.reduceMul, Nat.reduceLT, Nat.reduceLeDiff, Int.reduceToNat, Int.reduceAdd, Int.reduceSub, Int.reduceNeg, Int.reduceMul, Int.reduceLT, Int.reduceLE, Int.reduceEq]; rfl) rfl⟩
end Go.Proofs.YteeenlgoildmiabDoor
