/- Valid assignments. -/
import Derived.Test.YteeenlgoildmiaaDoorSeat5
namespace Go.Proofs.YteeenlgoildmiaaDoor
open Go Go.AL
set_option linter.unusedSimpArgs false
set_option linter.unusedVariables false

theorem contains_A (l : List Int) (x : Int) (S : Store) (hl : l.length ≤ 1099511627776) : CallA Tryd.prog 35 [iSl l, .int .i64 x] S fun r S' => r = .bool (l.contains x) ∧ S' = S := by
  refine CallA.keep Tryd.func35 c35 (Nat.le_of_ble_eq_true rfl) fun σ hσ => ?_
  simp only [a35, ↓evPre, ↓evPreW, evPost, evPostW, ← List.map_take, ← List.map_drop, ↓reduceIte, reduceCtorEq, Nat.reduceEqDiff, forall_const, implies_true, Nat.reduceAdd, Nat.reduceSub, Nat.reduceMul, Nat.reduceLT, Nat.reduceLeDiff, Int.reduceToNat, Int.reduceAdd, Int.reduceSub, Int.reduceNeg, Int.reduceMul, Int.reduceLT, Int.reduceLE, Int.reduceEq]
  have key : CallA Tryd.prog 42 [iSl l, .int .i64 x] S fun r S' => (∃ n : Int, r = .int .i64 n ∧ (0 ≤ n ↔ l.contains x = true)) ∧ S' = S := by
    refine CallA.keep Tryd.func42 c42 (Nat.le_of_ble_eq_true rfl) fun σ hσ => ?_
    simp only [a42, iSl, ↓evPre, ↓evPreW, evPost, evPostW, ← List.map_take, ← List.map_drop, ↓reduceIte, reduceCtorEq, Nat.reduceEqDiff, forall_const, implies_true, Nat.reduceAdd, Nat.reduceSub, Nat.reduceMul, Nat.reduceLT, Nat.reduceLeDiff, Int.reduceToNat, Int.reduceAdd, Int.reduceSub, Int.reduceNeg, Int.reduceMul, Int.reduceLT, Int.reduceLE, Int.reduceEq]
    refine loopA (ι := Nat) (fun k => [(0, iSl l), (1, .int .i64 x), (6, iSl l), (7, .int .i64 l.length), (8, .int .i64 k)]) (fun _ => S) (fun k => k ≤ l.length ∧ (l.take k).contains x = false) (fun k => l.length - k) 0 ⟨Nat.zero_le _, rfl⟩ ?_ rfl ?_
    · simp only [iSl, List.length_map, ↓evPre, ↓evPreW, evPost, evPostW, ← List.map_take, ← List.map_drop, ↓reduceIte, reduceCtorEq, Nat.reduceEqDiff, forall_const, implies_true, Nat.reduceAdd, Nat.reduceSub, Nat.reduceMul, Nat.reduceLT, Nat.reduceLeDiff, Int.reduceToNat, Int.reduceAdd, Int.reduceSub, Int.reduceNeg, Int.reduceMul, Int.reduceLT, Int.reduceLE, Int.reduceEq]
    · rintro k ⟨hk, hinv⟩
      cases hc : l[k]? with
      | none =>
        have hlt : ¬ ((k : Int) < l.length) := by rw [List.getElem?_eq_none_iff] at hc; omega
        rw [List.take_of_length_le (by rw [List.getElem?_eq_none_iff] at hc; omega)] at hinv
        simp (disch := omega) only [iSl, wrap_i64, hc, hlt, ↓evPre, ↓evPreW, evPost, evPostW, ← List.map_take, ← List.map_drop, ↓reduceIte, reduceCtorEq, Nat.reduceEqDiff, forall_const, implies_true, Nat.reduceAdd, Nat.reduceSub, Nat.reduceMul, Nat.reduceLT, Nat.reduceLeDiff, Int.reduceToNat, Int.reduceAdd, Int.reduceSub, Int.reduceNeg, Int.reduceMul, Int.reduceLT, Int.reduceLE, Int.reduceEq]
        exact ⟨_, rfl, by rw [hinv]; simp⟩
      | some c =>
        have hlt' := (List.getElem?_eq_some_iff.1 hc).1
        have hlt : (k : Int) < l.length := by omega
        by_cases hx : x = c
        · subst hx
          have hm : l.contains x = true := List.contains_iff_mem.2 (List.mem_of_getElem? hc)
          simp (disch := omega) only [iSl, wrap_i64, hc, hlt, decide_true, List.getElem?_map, Option.map_some, ↓evPre, ↓evPreW, evPost, evPostW, ← List.map_take, ← List.map_drop, ↓reduceIte, reduceCtorEq, Nat.reduceEqDiff, forall_const, implies_true, Nat.reduceAdd, Nat.reduceSub, Nat.reduceMul, Nat.reduceLT, Nat.reduceLeDiff, Int.reduceToNat, Int.reduceAdd, Int.reduceSub, Int.reduceNeg, Int.reduceMul, Int.reduceLT, Int.reduceLE, Int.reduceEq]
          exact ⟨_, rfl, by rw [hm]; simp⟩
        · simp (disch := omega) only [iSl, wrap_i64, hc, hlt, hx, decide_true, decide_false, List.getElem?_map, Option.map_some, ↓evPre, ↓evPreW, evPost, evPostW, ← List.map_take, ← List.map_drop, ↓reduceIte, reduceCtorEq, Nat.reduceEqDiff, forall_const, implies_true, Nat.reduceAdd, Nat.reduceSub, Nat.reduceMul, Nat.reduceLT, Nat.reduceLeDiff, Int.reduceToNat, Int.reduceAdd, Int.reduceSub, Int.reduceNeg, Int.reduceMul, Int.reduceLT, Int.reduceLE, Int.reduceEq]
          refine ⟨k + 1, ⟨by omega, by rw [List.take_add_one, hc]; simp_all⟩, by omega, rfl⟩
  refine key.mono ?_
  rintro r S' ⟨⟨n, rfl, hn⟩, rfl⟩
  have e : decide (0 ≤ n) = l.contains x := by
    rw [Bool.eq_iff_iff, decide_eq_true_eq]
    exact hn
  simp only [e, ↓evPre, ↓evPreW, evPost, evPostW, ← List.map_take, ← List.map_drop, ↓reduceIte, reduceCtorEq, Nat.reduceEqDiff, forall_const, implies_true, Nat.reduceAdd, Nat.reduceSub, Nat.reduceMul, Nat.reduceLT, Nat.reduceLeDiff, Int.reduceToNat, Int.reduceAdd, Int.reduceSub, Int.reduceNeg, Int.reduceMul, Int.reduceLT, Int.reduceLE, Int.reduceEq]


def okAtF (se : List Sea) (cl : List Clm) (seat : List Int) (i : Nat) : Bool := match seat[i]? with
  | some s => if s = -1 then true else decide (0 ≤ s) && decide (s < se.length) && fitF se cl s.toNat i && !(seat.take i).contains s
  | none => true
def allTo (se : List Sea) (cl : List Clm) (seat : List Int) : Nat → Bool
  | 0 => true
  | k + 1 => allTo se cl seat k && okAtF se cl seat k
def validF (se : List Sea) (cl : List Clm) (seat : List Int) : Bool := decide (seat.length = cl.length) && allTo se cl seat seat.length
theorem allTo_le {se : List Sea} {cl : List Clm} {seat : List Int} {j k : Nat} (h : j ≤ k) (hk : allTo se cl seat k = true) : allTo se cl seat j = true := by
  induction k with
  | zero => have : j = 0 := by omega
            rw [this]; rfl
  | succ k ih =>
    rw [allTo, Bool.and_eq_true] at hk
    by_cases e : j = k + 1
    · rw [e, allTo, Bool.and_eq_true]; exact hk
    · exact ih (by omega) hk.1
theorem valid_no {se : List Sea} {cl : List Clm} {seat : List Int} {k : Nat} (hk : k < seat.length) (h : okAtF se cl seat k = false) : validF se cl seat = false := by
  rw [validF, Bool.and_eq_false_iff]
  right
  cases hb : allTo se cl seat seat.length with
  | false => rfl
  | true =>
    have := allTo_le (j := k + 1) hk hb
    rw [allTo, h, Bool.and_false] at this
    cases this

theorem valid_A (se : List Sea) (cl : List Clm) (seat : List Int) (S : Store) (hse : se.length ≤ 1099511627776) (hl : seat.length ≤ 1099511627776) : CallA Tryd.prog 18 [seSl se, clSl cl, iSl seat] S fun r S' => r = .bool (validF se cl seat) ∧ S' = S := by
  refine CallA.withNeat Tryd.func18 c18 fun hn => ?_
  refine CallA.keep Tryd.func18 c18 (Nat.le_of_ble_eq_true rfl) fun σ hσ => ?_
  by_cases hlen : seat.length = cl.length
  · have hlen' : (seat.length : Int) = cl.length := by omega
    have hv : validF se cl seat = allTo se cl seat seat.length := by rw [validF, decide_eq_true hlen, Bool.true_and]
    simp (disch := first | omega | (simp only [List.length_cons, List.length_nil, List.length_map, List.length_drop]; omega)) only [a18, seSl, clSl, iSl, hlen', List.length_map, decide_true, ↓evPre, ↓evPreW, evPost, evPostW, ← List.map_take, ← List.map_drop, ↓reduceIte, reduceCtorEq, Nat.reduceEqDiff, forall_const, implies_true, Nat.reduceAdd, Nat.reduceSub, Nat.reduceMul, Nat.reduceLT, Nat.reduceLeDiff, Int.reduceToNat, Int.reduceAdd, Int.reduceSub, Int.reduceNeg, Int.reduceMul, Int.reduceLT, Int.reduceLE, Int.reduceEq]
    refine loopA (ι := Nat) (fun k => [(0, seSl se), (1, clSl cl), (2, iSl seat), (14, iSl seat), (15, .int .i64 seat.length), (16, .int .i64 k)]) (fun _ => S) (fun k => k ≤ seat.length ∧ allTo se cl seat k = true) (fun k => seat.length - k) 0 ⟨Nat.zero_le _, rfl⟩ ?_ rfl ?_
    · simp only [seSl, clSl, iSl, hlen', ↓evPre, ↓evPreW, evPost, evPostW, ← List.map_take, ← List.map_drop, ↓reduceIte, reduceCtorEq, Nat.reduceEqDiff, forall_const, implies_true, Nat.reduceAdd, Nat.reduceSub, Nat.reduceMul, Nat.reduceLT, Nat.reduceLeDiff, Int.reduceToNat, Int.reduceAdd, Int.reduceSub, Int.reduceNeg, Int.reduceMul, Int.reduceLT, Int.reduceLE, Int.reduceEq]
    · rintro k ⟨hk, hall⟩
      cases hc : seat[k]? with
      | none =>
        have hge := List.getElem?_eq_none_iff.1 hc
        have hlt : ¬ (k : Int) < seat.length := by omega
        have e : k = seat.length := by omega
        rw [e] at hall
        rw [hv, hall]
        simp (disch := first | omega | (simp only [List.length_cons, List.length_nil, List.length_map, List.length_drop]; omega)) only [iSl, hlt, decide_false, ↓evPre, ↓evPreW, evPost, evPostW, ← List.map_take, ← List.map_drop, ↓reduceIte, reduceCtorEq, Nat.reduceEqDiff, forall_const, implies_true, Nat.reduceAdd, Nat.reduceSub, Nat.reduceMul, Nat.reduceLT, Nat.reduceLeDiff, Int.reduceToNat, Int.reduceAdd, Int.reduceSub, Int.reduceNeg, Int.reduceMul, Int.reduceLT, Int.reduceLE, Int.reduceEq]
      | some s =>
        have hkl := (List.getElem?_eq_some_iff.1 hc).1
        have hlt : (k : Int) < seat.length := by omega
        have cont : okAtF se cl seat k = true → ∃ i', (i' ≤ seat.length ∧ allTo se cl seat i' = true) ∧ seat.length - i' < seat.length - k ∧ (k : Int) + 1 = (i' : Nat) := fun ho => ⟨k + 1, ⟨by omega, by rw [allTo, hall, ho]; rfl⟩, by omega, rfl⟩
        have hkc : k < cl.length := by omega
        have hm : cl[k]? = some cl[k] := List.getElem?_eq_getElem hkc
        generalize cl[k] = m at hm
        by_cases h1 : s = -1
        · have ho : okAtF se cl seat k = true := by simp only [okAtF, hc, h1, if_true]
          simp (disch := first | omega | (simp only [List.length_cons, List.length_nil, List.length_map, List.length_drop]; omega)) only [seSl, clSl, iSl, hlt, hc, h1, wrap_i64, decide_true, List.getElem?_map, Option.map_some, ↓evPre, ↓evPreW, evPost, evPostW, ← List.map_take, ← List.map_drop, ↓reduceIte, reduceCtorEq, Nat.reduceEqDiff, forall_const, implies_true, Nat.reduceAdd, Nat.reduceSub, Nat.reduceMul, Nat.reduceLT, Nat.reduceLeDiff, Int.reduceToNat, Int.reduceAdd, Int.reduceSub, Int.reduceNeg, Int.reduceMul, Int.reduceLT, Int.reduceLE, Int.reduceEq]
          exact cont ho
        · have ho : okAtF se cl seat k = (decide (0 ≤ s) && decide (s < se.length) && fitF se cl s.toNat k && !(seat.take k).contains s) := by simp only [okAtF, hc, h1, if_false]
          by_cases h2 : s < 0
          · rw [valid_no hkl (by rw [ho]; have : ¬ 0 ≤ s := by omega
                                 simp [this])]
            simp (disch := first | omega | (simp only [List.length_cons, List.length_nil, List.length_map, List.length_drop]; omega)) only [seSl, clSl, iSl, hlt, hc, h1, h2, wrap_i64, decide_true, decide_false, List.getElem?_map, Option.map_some, ↓evPre, ↓evPreW, evPost, evPostW, ← List.map_take, ← List.map_drop, ↓reduceIte, reduceCtorEq, Nat.reduceEqDiff, forall_const, implies_true, Nat.reduceAdd, Nat.reduceSub, Nat.reduceMul, Nat.reduceLT, Nat.reduceLeDiff, Int.reduceToNat, Int.reduceAdd, Int.reduceSub, Int.reduceNeg, Int.reduceMul, Int.reduceLT, Int.reduceLE, Int.reduceEq]
          · by_cases h3 : (se.length : Int) ≤ s
            · rw [valid_no hkl (by rw [ho]; have : ¬ s < se.length := by omega
                                   simp [this])]
              simp (disch := first | omega | (simp only [List.length_cons, List.length_nil, List.length_map, List.length_drop]; omega)) only [seSl, clSl, iSl, hlt, hc, h1, h2, h3, wrap_i64, List.length_map, decide_true, decide_false, List.getElem?_map, Option.map_some, ↓evPre, ↓evPreW, evPost, evPostW, ← List.map_take, ← List.map_drop, ↓reduceIte, reduceCtorEq, Nat.reduceEqDiff, forall_const, implies_true, Nat.reduceAdd, Nat.reduceSub, Nat.reduceMul, Nat.reduceLT, Nat.reduceLeDiff, Int.reduceToNat, Int.reduceAdd, Int.reduceSub, Int.reduceNeg, Int.reduceMul, Int.reduceLT, Int.reduceLE, Int.reduceEq]
            · obtain ⟨sn, rfl⟩ : ∃ n : Nat, s = n := ⟨s.toNat, by omega⟩
              have hx : se[sn]? = some se[sn] := List.getElem?_eq_getElem (by omega)
              generalize se[sn] = x at hx
              have hfit : fitF se cl (sn : Int).toNat k = fitsF x m := by simp only [fitF, Int.toNat_natCast, hx, hm]
              have h4 : (0 : Int) ≤ sn := by omega
              have h5 : (sn : Int) < se.length := by omega
              rw [hfit] at ho
              simp (disch := first | omega | (simp only [List.length_cons, List.length_nil, List.length_map, List.length_drop]; omega)) only [seSl, clSl, iSl, seaR, clmR, hlt, hc, hx, hm, h1, h2, h3, wrap_i64, List.length_map, decide_true, decide_false, List.getElem?_map, Option.map_some, List.take_succ_cons, List.take_zero, ↓evPre, ↓evPreW, evPost, evPostW, ← List.map_take, ← List.map_drop, ↓reduceIte, reduceCtorEq, Nat.reduceEqDiff, forall_const, implies_true, Nat.reduceAdd, Nat.reduceSub, Nat.reduceMul, Nat.reduceLT, Nat.reduceLeDiff, Int.reduceToNat, Int.reduceAdd, Int.reduceSub, Int.reduceNeg, Int.reduceMul, Int.reduceLT, Int.reduceLE, Int.reduceEq]
              refine (fits_A x m S).then ?_
              cases hfx : fitsF x m with
              | false =>
                rw [valid_no hkl (by rw [ho, hfx]; simp)]
                simp (disch := first | omega | (simp only [List.length_cons, List.length_nil, List.length_map, List.length_drop]; omega)) only [↓evPre, ↓evPreW, evPost, evPostW, ← List.map_take, ← List.map_drop, ↓reduceIte, reduceCtorEq, Nat.reduceEqDiff, forall_const, implies_true, Nat.reduceAdd, Nat.reduceSub, Nat.reduceMul, Nat.reduceLT, Nat.reduceLeDiff, Int.reduceToNat, Int.reduceAdd, Int.reduceSub, Int.reduceNeg, Int.reduceMul, Int.reduceLT, Int.reduceLE, Int.reduceEq]
              | true =>
                have hkle : (k : Int) ≤ seat.length := by omega
                simp (disch := first | omega | (simp only [List.length_cons, List.length_nil, List.length_map, List.length_drop]; omega)) only [seSl, clSl, iSl, hlt, hkle, hc, wrap_i64, if_true, List.length_map, ← List.map_take, ← List.map_drop, Int.toNat_natCast, decide_true, decide_false, List.getElem?_map, Option.map_some, ↓evPre, ↓evPreW, evPost, evPostW, ← List.map_take, ← List.map_drop, ↓reduceIte, reduceCtorEq, Nat.reduceEqDiff, forall_const, implies_true, Nat.reduceAdd, Nat.reduceSub, Nat.reduceMul, Nat.reduceLT, Nat.reduceLeDiff, Int.reduceToNat, Int.reduceAdd, Int.reduceSub, Int.reduceNeg, Int.reduceMul, Int.reduceLT, Int.reduceLE, Int.reduceEq]
                refine (contains_A (seat.take k) sn S (by simp; omega)).then ?_
                cases hco : (seat.take k).contains (sn : Int) with
                | true =>
                  rw [valid_no hkl (by rw [ho, hfx, hco]; simp)]
                  simp (disch := first | omega | (simp only [List.length_cons, List.length_nil, List.length_map, List.length_drop]; omega)) only [↓evPre, ↓evPreW, evPost, evPostW, ← List.map_take, ← List.map_drop, ↓reduceIte, reduceCtorEq, Nat.reduceEqDiff, forall_const, implies_true, Nat.reduceAdd, Nat.reduceSub, Nat.reduceMul, Nat.reduceLT, Nat.reduceLeDiff, Int.reduceToNat, Int.reduceAdd, Int.reduceSub, Int.reduceNeg, Int.reduceMul, Int.reduceLT, Int.reduceLE, Int.reduceEq]
                | false =>
                  simp (disch := first | omega | (simp only [List.length_cons, List.length_nil, List.length_map, List.length_drop]; omega)) only [seSl, clSl, iSl, wrap_i64, ↓evPre, ↓evPreW, evPost, evPostW, ← List.map_take, ← List.map_drop, ↓reduceIte, reduceCtorEq, Nat.reduceEqDiff, forall_const, implies_true, Nat.reduceAdd, Nat.reduceSub, Nat.reduceMul, Nat.reduceLT, Nat.reduceLeDiff, Int.reduceToNat, Int.reduceAdd, Int.reduceSub, Int.reduceNeg, Int.reduceMul, Int.reduceLT, Int.reduceLE, Int.reduceEq]
                  exact cont (by rw [ho, hfx, hco]; simp [h4, h5])
  · have hlen' : ¬ (seat.length : Int) = cl.length := by omega
    have hv : validF se cl seat = false := by rw [validF, decide_eq_false hlen, Bool.false_and]
    rw [hv]
    simp (disch := first | omega | (simp only [List.length_cons, List.length_nil, List.length_map, List.length_drop]; omega)) only [a18, seSl, clSl, iSl, hlen', List.length_map, decide_false, ↓evPre, ↓evPreW, evPost, evPostW, ← List.map_take, ← List.map_drop, ↓reduceIte, reduceCtorEq, Nat.reduceEqDiff, forall_const, implies_true, Nat.reduceAdd, Nat.reduceSub, Nat.reduceMul, Nat.reduceLT, Nat.reduceLeDiff, Int.reduceToNat, Int.reduceAdd, Int.reduceSub, Int.reduceNeg, Int.reduceMul, Int.reduceLT, Int.reduceLE, Int.reduceEq]

theorem refvalid_A (se : List Sea) (cl : List Clm) (seat : List Int) (S : Store) (hse : se.length ≤ 1099511627776) (hl : seat.length ≤ 1099511627776) : CallA Tryd.prog 12 [seSl se, clSl cl, iSl seat] S fun r S' => r = .bool (validF se cl seat) ∧ S' = S := by
  refine CallA.keep Tryd.func12 c12 (Nat.le_of_ble_eq_true rfl) fun σ hσ => ?_
  by_cases hlen : seat.length = cl.length
  · have hlen' : (seat.length : Int) = cl.length := by omega
    have hv : validF se cl seat = allTo se cl seat seat.length := by rw [validF, decide_eq_true hlen, Bool.true_and]
    simp (disch := first | omega | (simp only [List.length_cons, List.length_nil, List.length_map, List.length_drop]; omega)) only [a12, seSl, clSl, iSl, hlen', List.length_map, decide_true, ↓evPre, ↓evPreW, evPost, evPostW, ← List.map_take, ← List.map_drop, ↓reduceIte, reduceCtorEq, Nat.reduceEqDiff, forall_const, implies_true, Nat.reduceAdd, Nat.reduceSub, Nat.reduceMul, Nat.reduceLT, Nat.reduceLeDiff, Int.reduceToNat, Int.reduceAdd, Int.reduceSub, Int.reduceNeg, Int.reduceMul, Int.reduceLT, Int.reduceLE, Int.reduceEq]
    refine loopA (ι := Nat) (fun k => [(0, seSl se), (1, clSl cl), (2, iSl seat), (7, .int .i64 k)]) (fun _ => S) (fun k => k ≤ seat.length ∧ allTo se cl seat k = true) (fun k => seat.length - k) 0 ⟨Nat.zero_le _, rfl⟩ ?_ rfl ?_
    · simp only [seSl, clSl, iSl, ↓evPre, ↓evPreW, evPost, evPostW, ← List.map_take, ← List.map_drop, ↓reduceIte, reduceCtorEq, Nat.reduceEqDiff, forall_const, implies_true, Nat.reduceAdd, Nat.reduceSub, Nat.reduceMul, Nat.reduceLT, Nat.reduceLeDiff, Int.reduceToNat, Int.reduceAdd, Int.reduceSub, Int.reduceNeg, Int.reduceMul, Int.reduceLT, Int.reduceLE, Int.reduceEq]
    · rintro k ⟨hk, hall⟩
      cases hc : seat[k]? with
      | none =>
        have hge := List.getElem?_eq_none_iff.1 hc
        have hlt : ¬ (k : Int) < seat.length := by omega
        have e : k = seat.length := by omega
        rw [e] at hall
        rw [hv, hall]
        simp (disch := first | omega | (simp only [List.length_cons, List.length_nil, List.length_map, List.length_drop]; omega)) only [iSl, hlt, List.length_map, decide_false, ↓evPre, ↓evPreW, evPost, evPostW, ← List.map_take, ← List.map_drop, ↓reduceIte, reduceCtorEq, Nat.reduceEqDiff, forall_const, implies_true, Nat.reduceAdd, Nat.reduceSub, Nat.reduceMul, Nat.reduceLT, Nat.reduceLeDiff, Int.reduceToNat, Int.reduceAdd, Int.reduceSub, Int.reduceNeg, Int.reduceMul, Int.reduceLT, Int.reduceLE, Int.reduceEq]
      | some s =>
        have hkl := (List.getElem?_eq_some_iff.1 hc).1
        have hlt : (k : Int) < seat.length := by omega
        have cont : okAtF se cl seat k = true → ∃ i', (i' ≤ seat.length ∧ allTo se cl seat i' = true) ∧ seat.length - i' < seat.length - k ∧ (k : Int) + 1 = (i' : Nat) := fun ho => ⟨k + 1, ⟨by omega, by rw [allTo, hall, ho]; rfl⟩, by omega, rfl⟩
        have hkc : k < cl.length := by omega
        have hm : cl[k]? = some cl[k] := List.getElem?_eq_getElem hkc
        generalize cl[k] = m at hm
        by_cases h1 : s < -1
        · have h1' : ¬ s = -1 := by omega
          have h0 : ¬ 0 ≤ s := by omega
          rw [valid_no hkl (by simp only [okAtF, hc, h1', if_false]; simp [h0])]
          simp (disch := first | omega | (simp only [List.length_cons, List.length_nil, List.length_map, List.length_drop]; omega)) only [seSl, clSl, iSl, hlt, hc, h1, List.length_map, decide_true, List.getElem?_map, Option.map_some, ↓evPre, ↓evPreW, evPost, evPostW, ← List.map_take, ← List.map_drop, ↓reduceIte, reduceCtorEq, Nat.reduceEqDiff, forall_const, implies_true, Nat.reduceAdd, Nat.reduceSub, Nat.reduceMul, Nat.reduceLT, Nat.reduceLeDiff, Int.reduceToNat, Int.reduceAdd, Int.reduceSub, Int.reduceNeg, Int.reduceMul, Int.reduceLT, Int.reduceLE, Int.reduceEq]
        · by_cases h3 : (se.length : Int) ≤ s
          · have h1' : ¬ s = -1 := by omega
            have h5 : ¬ s < se.length := by omega
            rw [valid_no hkl (by simp only [okAtF, hc, h1', if_false]; simp [h5])]
            simp (disch := first | omega | (simp only [List.length_cons, List.length_nil, List.length_map, List.length_drop]; omega)) only [seSl, clSl, iSl, hlt, hc, h1, h3, List.length_map, decide_true, decide_false, List.getElem?_map, Option.map_some, ↓evPre, ↓evPreW, evPost, evPostW, ← List.map_take, ← List.map_drop, ↓reduceIte, reduceCtorEq, Nat.reduceEqDiff, forall_const, implies_true, Nat.reduceAdd, Nat.reduceSub, Nat.reduceMul, Nat.reduceLT, Nat.reduceLeDiff, Int.reduceToNat, Int.reduceAdd, Int.reduceSub, Int.reduceNeg, Int.reduceMul, Int.reduceLT, Int.reduceLE, Int.reduceEq]
          · by_cases h4 : 0 ≤ s
            · have h1' : ¬ s = -1 := by omega
              obtain ⟨sn, rfl⟩ : ∃ n : Nat, s = n := ⟨s.toNat, by omega⟩
              have hx : se[sn]? = some se[sn] := List.getElem?_eq_getElem (by omega)
              generalize se[sn] = x at hx
              have hfit : fitF se cl (sn : Int).toNat k = fitsF x m := by simp only [fitF, Int.toNat_natCast, hx, hm]
              have h5 : (sn : Int) < se.length := by omega
              have ho : okAtF se cl seat k = (decide ((0 : Int) ≤ sn) && decide ((sn : Int) < se.length) && fitsF x m && !(seat.take k).contains (sn : Int)) := by simp only [okAtF, hc, h1', if_false, hfit]
              simp (disch := first | omega | (simp only [List.length_cons, List.length_nil, List.length_map, List.length_drop]; omega)) only [seSl, clSl, iSl, seaR, clmR, hlt, hc, hx, hm, h1, h3, h4, List.length_map, decide_true, decide_false, List.getElem?_map, Option.map_some, List.take_succ_cons, List.take_zero, ↓evPre, ↓evPreW, evPost, evPostW, ← List.map_take, ← List.map_drop, ↓reduceIte, reduceCtorEq, Nat.reduceEqDiff, forall_const, implies_true, Nat.reduceAdd, Nat.reduceSub, Nat.reduceMul, Nat.reduceLT, Nat.reduceLeDiff, Int.reduceToNat, Int.reduceAdd, Int.reduceSub, Int.reduceNeg, Int.reduceMul, Int.reduceLT, Int.reduceLE, Int.reduceEq]
              refine (rfits_A x m S).then ?_
              cases hfx : fitsF x m with
              | false =>
                rw [valid_no hkl (by rw [ho, hfx]; simp)]
                simp (disch := first | omega | (simp only [List.length_cons, List.length_nil, List.length_map, List.length_drop]; omega)) only [↓evPre, ↓evPreW, evPost, evPostW, ← List.map_take, ← List.map_drop, ↓reduceIte, reduceCtorEq, Nat.reduceEqDiff, forall_const, implies_true, Nat.reduceAdd, Nat.reduceSub, Nat.reduceMul, Nat.reduceLT, Nat.reduceLeDiff, Int.reduceToNat, Int.reduceAdd, Int.reduceSub, Int.reduceNeg, Int.reduceMul, Int.reduceLT, Int.reduceLE, Int.reduceEq]
              | true =>
                simp (disch := first | omega | (simp only [List.length_cons, List.length_nil, List.length_map, List.length_drop]; omega)) only [seSl, clSl, iSl, ↓evPre, ↓evPreW, evPost, evPostW, ← List.map_take, ← List.map_drop, ↓reduceIte, reduceCtorEq, Nat.reduceEqDiff, forall_const, implies_true, Nat.reduceAdd, Nat.reduceSub, Nat.reduceMul, Nat.reduceLT, Nat.reduceLeDiff, Int.reduceToNat, Int.reduceAdd, Int.reduceSub, Int.reduceNeg, Int.reduceMul, Int.reduceLT, Int.reduceLE, Int.reduceEq]
                refine loopA (ι := Nat) (fun j => [(0, seSl se), (1, clSl cl), (2, iSl seat), (7, .int .i64 k), (8, .int .i64 j)]) (fun _ => S) (fun j => j ≤ k ∧ (seat.take j).contains (sn : Int) = false) (fun j => k - j) 0 ⟨Nat.zero_le _, rfl⟩ ?_ rfl ?_
                · simp only [seSl, clSl, iSl, ↓evPre, ↓evPreW, evPost, evPostW, ← List.map_take, ← List.map_drop, ↓reduceIte, reduceCtorEq, Nat.reduceEqDiff, forall_const, implies_true, Nat.reduceAdd, Nat.reduceSub, Nat.reduceMul, Nat.reduceLT, Nat.reduceLeDiff, Int.reduceToNat, Int.reduceAdd, Int.reduceSub, Int.reduceNeg, Int.reduceMul, Int.reduceLT, Int.reduceLE, Int.reduceEq]
                · rintro j ⟨hj, hno⟩
                  by_cases hjk : j < k
                  · have hlt2 : (j : Int) < k := by omega
                    have hd : seat[j]? = some seat[j] := List.getElem?_eq_getElem (by omega)
                    generalize seat[j] = d at hd
                    by_cases hds : d = sn
                    · have hco : (seat.take k).contains (sn : Int) = true := by
                        refine List.contains_iff_mem.2 (List.mem_of_getElem? (i := j) ?_)
                        rw [List.getElem?_take, if_pos hjk, hd, hds]
                      rw [valid_no hkl (by rw [ho, hco]; simp)]
                      subst hds
                      simp (disch := first | omega | (simp only [List.length_cons, List.length_nil, List.length_map, List.length_drop]; omega)) only [seSl, clSl, iSl, hlt2, hc, hd, h4, eq_self, decide_true, decide_false, List.getElem?_map, Option.map_some, ↓evPre, ↓evPreW, evPost, evPostW, ← List.map_take, ← List.map_drop, ↓reduceIte, reduceCtorEq, Nat.reduceEqDiff, forall_const, implies_true, Nat.reduceAdd, Nat.reduceSub, Nat.reduceMul, Nat.reduceLT, Nat.reduceLeDiff, Int.reduceToNat, Int.reduceAdd, Int.reduceSub, Int.reduceNeg, Int.reduceMul, Int.reduceLT, Int.reduceLE, Int.reduceEq]
                    · simp (disch := first | omega | (simp only [List.length_cons, List.length_nil, List.length_map, List.length_drop]; omega)) only [seSl, clSl, iSl, hlt2, hc, hd, h4, hds, wrap_i64, decide_true, decide_false, List.getElem?_map, Option.map_some, ↓evPre, ↓evPreW, evPost, evPostW, ← List.map_take, ← List.map_drop, ↓reduceIte, reduceCtorEq, Nat.reduceEqDiff, forall_const, implies_true, Nat.reduceAdd, Nat.reduceSub, Nat.reduceMul, Nat.reduceLT, Nat.reduceLeDiff, Int.reduceToNat, Int.reduceAdd, Int.reduceSub, Int.reduceNeg, Int.reduceMul, Int.reduceLT, Int.reduceLE, Int.reduceEq]
                      exact ⟨j + 1, ⟨by omega, by rw [List.take_add_one, hd]; simp_all; exact fun e => hds e.symm⟩, by omega, rfl⟩
                  · have e : j = k := by omega
                    subst e
                    have hlt2 : ¬ (j : Int) < j := by omega
                    simp (disch := first | omega | (simp only [List.length_cons, List.length_nil, List.length_map, List.length_drop]; omega)) only [seSl, clSl, iSl, hlt2, wrap_i64, decide_false, ↓evPre, ↓evPreW, evPost, evPostW, ← List.map_take, ← List.map_drop, ↓reduceIte, reduceCtorEq, Nat.reduceEqDiff, forall_const, implies_true, Nat.reduceAdd, Nat.reduceSub, Nat.reduceMul, Nat.reduceLT, Nat.reduceLeDiff, Int.reduceToNat, Int.reduceAdd, Int.reduceSub, Int.reduceNeg, Int.reduceMul, Int.reduceLT, Int.reduceLE, Int.reduceEq]
                    exact cont (by rw [ho, hfx, hno]; simp [h5])
            · have h1' : s = -1 := by omega
              have ho : okAtF se cl seat k = true := by simp only [okAtF, hc, h1', if_true]
              simp (disch := first | omega | (simp only [List.length_cons, List.length_nil, List.length_map, List.length_drop]; omega)) only [seSl, clSl, iSl, hlt, hc, h1, h3, h4, List.length_map, decide_true, decide_false, List.getElem?_map, Option.map_some, ↓evPre, ↓evPreW, evPost, evPostW, ← List.map_take, ← List.map_drop, ↓reduceIte, reduceCtorEq, Nat.reduceEqDiff, forall_const, implies_true, Nat.reduceAdd, Nat.reduceSub, Nat.reduceMul, Nat.reduceLT, Nat.reduceLeDiff, Int.reduceToNat, Int.reduceAdd, Int.reduceSub, Int.reduceNeg, Int.reduceMul, Int.reduceLT, Int.reduceLE, Int.reduceEq]
              refine loopA (ι := Nat) (fun j => [(0, seSl se), (1, clSl cl), (2, iSl seat), (7, .int .i64 k), (8, .int .i64 j)]) (fun _ => S) (fun j => j ≤ k) (fun j => k - j) 0 (Nat.zero_le _) ?_ rfl ?_
              · simp only [seSl, clSl, iSl, ↓evPre, ↓evPreW, evPost, evPostW, ← List.map_take, ← List.map_drop, ↓reduceIte, reduceCtorEq, Nat.reduceEqDiff, forall_const, implies_true, Nat.reduceAdd, Nat.reduceSub, Nat.reduceMul, Nat.reduceLT, Nat.reduceLeDiff, Int.reduceToNat, Int.reduceAdd, Int.reduceSub, Int.reduceNeg, Int.reduceMul, Int.reduceLT, Int.reduceLE, Int.reduceEq]
              · intro j hj
                by_cases hjk : j < k
                · have hlt2 : (j : Int) < k := by omega
                  simp (disch := first | omega | (simp only [List.length_cons, List.length_nil, List.length_map, List.length_drop]; omega)) only [seSl, clSl, iSl, hlt2, hc, h4, wrap_i64, decide_true, decide_false, List.getElem?_map, Option.map_some, ↓evPre, ↓evPreW, evPost, evPostW, ← List.map_take, ← List.map_drop, ↓reduceIte, reduceCtorEq, Nat.reduceEqDiff, forall_const, implies_true, Nat.reduceAdd, Nat.reduceSub, Nat.reduceMul, Nat.reduceLT, Nat.reduceLeDiff, Int.reduceToNat, Int.reduceAdd, Int.reduceSub, Int.reduceNeg, Int.reduceMul, Int.reduceLT, Int.reduceLE, Int.reduceEq]
                  exact ⟨j + 1, by omega, by omega, rfl⟩
                · have e : j = k := by omega
                  subst e
                  have hlt2 : ¬ (j : Int) < j := by omega
                  simp (disch := first | omega | (simp only [List.length_cons, List.length_nil, List.length_map, List.length_drop]; omega)) only [seSl, clSl, iSl, hlt2, wrap_i64, decide_false, ↓evPre, ↓evPreW, evPost, evPostW, ← List.map_take, ← List.map_drop, ↓reduceIte, reduceCtorEq, Nat.reduceEqDiff, forall_const, implies_true, Nat.reduceAdd, Nat.reduceSub, Nat.reduceMul, Nat.reduceLT, Nat.reduceLeDiff, Int.reduceToNat, Int.reduceAdd, Int.reduceSub, Int.reduceNeg, Int.reduceMul, Int.reduceLT, Int.reduceLE, Int.reduceEq]
                  exact cont ho
  · have hlen' : ¬ (seat.length : Int) = cl.length := by omega
    have hv : validF se cl seat = false := by rw [validF, decide_eq_false hlen, Bool.false_and]
    rw [hv]
    simp (disch := first | omega | (simp only [List.length_cons, List.length_nil, List.length_map, List.length_drop]; omega)) only [a12, seSl, clSl, iSl, hlen', List.length_map, decide_false, ↓evPre, ↓evPreW, evPost, evPostW, ← List.map_take, ← List.map_drop, ↓reduceIte, reduceCtorEq, Nat.reduceEqDiff, forall_const, implies_true, Nat.reduceAdd, Nat.reduceSub, Nat.reduceMul, Nat.reduceLT, Nat.reduceLeDiff, Int.reduceToNat, Int.reduceAdd, Int.reduceSub, Int.reduceNeg, Int.reduceMul, Int.reduceLT, Int.reduceLE, Int.reduceEq]
end Go.Proofs.YteeenlgoildmiaaDoor
