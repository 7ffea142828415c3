/- Curves are right; more demand makes them no smaller; the walks of BidCurves and BidRises. -/
import Derived.Test.YtoidchljifelgaaBid18
namespace Go.Proofs.Ytoidchljifelgaa
open Go Go.AL
set_option linter.unusedSimpArgs false
set_option maxHeartbeats 4000000

theorem rightGo_of : ∀ (L : List Int) (last : Int), desc L → (∀ x ∈ L, 0 ≤ x ∧ x ≤ last) → rightGo last L = true
  | [], _, _, _ => rfl
  | x :: L, last, h, hb => by
    have h1 := List.pairwise_cons.1 h
    have h2 := hb x (List.mem_cons_self ..)
    have h3 := rightGo_of L x h1.2 fun y hy => ⟨(hb y (List.mem_cons_of_mem _ hy)).1, h1.1 y hy⟩
    simp [rightGo, h3]
    omega

theorem pad_get {L : List Int} {n i : Nat} (h : i < n) : (padF L n)[i]? = some (L.getD i 0) := by
  unfold padF
  rw [Int.toNat_natCast, List.getElem?_take, if_pos h, List.getD_eq_getElem?_getD]
  by_cases hi : i < L.length
  · rw [List.getElem?_append_left hi, List.getElem?_eq_getElem hi]; rfl
  · rw [List.getElem?_append_right (by omega), List.getElem?_replicate, if_pos (by omega), List.getElem?_eq_none (by omega)]; rfl

theorem pad_len {L : List Int} {n : Nat} : (padF L n).length = n := by
  unfold padF
  simp

theorem sortedE_bound {l : List (Int × Int)} (h : badF l = 0) : ∀ x ∈ sortedE l, 0 ≤ x ∧ x ≤ 1099511627776 := fun x hx => by
  obtain ⟨d, hd, rfl, _⟩ := E_mem ((sortedE_spec l).2.mem_iff.1 hx)
  have := badF_zero h d hd
  omega

theorem pad_right {L : List Int} {n : Nat} (hn : n ≤ 999) (hd : desc L) (hb : ∀ x ∈ L, 0 ≤ x ∧ x ≤ 1099511627776) : rightF (padF L n) = true := by
  simp only [rightF, pad_len, Bool.and_eq_true, decide_eq_true_eq]
  refine ⟨hn, rightGo_of _ _ ?_ fun x hx => ?_⟩
  · unfold padF desc
    refine List.Pairwise.sublist (List.take_sublist _ _) ?_
    rw [List.pairwise_append]
    refine ⟨hd, List.pairwise_replicate.2 (.inr (Int.le_refl _)), fun a ha b hb' => ?_⟩
    obtain ⟨_, rfl⟩ := List.mem_replicate.1 hb'
    exact (hb a ha).1
  · have := List.mem_of_mem_take hx
    rcases List.mem_append.1 this with h | h
    · exact hb x h
    · obtain ⟨_, rfl⟩ := List.mem_replicate.1 h
      omega

theorem curve_cases (l : List (Int × Int)) (seats : Int) : ((curveF l seats).2 ≠ 0 ∧ (curveF l seats).1 = []) ∨ (badF l = 0 ∧ ∃ n : Nat, seats = n ∧ n ≤ 999 ∧ curveF l seats = (padF (sortedE l) n, 0)) := by
  unfold curveF
  by_cases h1 : seats < 0 ∨ 999 < seats
  · rw [if_pos h1]; exact .inl ⟨by decide, rfl⟩
  · rw [if_neg h1]
    by_cases h2 : badF l ≠ 0
    · rw [if_pos h2]; exact .inl ⟨h2, rfl⟩
    · rw [if_neg h2]
      refine .inr ⟨by omega, seats.toNat, by omega, by omega, ?_⟩
      have : (seats.toNat : Int) = seats := by omega
      rw [this]

theorem curve_right (l : List (Int × Int)) (seats : Int) : rightF (curveF l seats).1 = true := by
  rcases curve_cases l seats with ⟨_, h⟩ | ⟨hb, n, rfl, hn, h⟩
  · rw [h]; decide
  · rw [h]; exact pad_right hn (sortedE_spec l).1 (sortedE_bound hb)

theorem curves_A (l : List (Int × Int)) (seats left : Int) (S : Store) (hl : l.length ≤ 1048576) (hr : ∀ d ∈ l, -9223372036854775808 ≤ d.2 ∧ d.2 ≤ 9223372036854775807) : CallA Try.prog 3 [demSl l, .int .i64 seats, .int .i64 left] S fun r S' => r = .bool true ∧ S' = S := by
  refine CallA.keep Try.func3 c3 (Nat.le_of_ble_eq_true rfl) fun σ hσ => ?_
  by_cases h : (50 : Int) < l.length
  · simp only [a3, demSl, h, ↓evPre, ↓evPreW, evPost, evPostW, ← List.map_take, ← List.map_drop, ↓reduceIte, reduceCtorEq, Nat.reduceEqDiff, forall_const, implies_true, Nat.reduceAdd, Nat.reduceSub, Nat.reduceMul, Nat.reduceLT, Nat.reduceLeDiff, Int.reduceToNat, Int.reduceAdd, Int.reduceSub, Int.reduceNeg, Int.reduceMul, Int.reduceLT, Int.reduceLE, Int.reduceEq]
    refine (knows_A S).then ?_
    simp only [↓evPre, ↓evPreW, evPost, evPostW, ← List.map_take, ← List.map_drop, ↓reduceIte, reduceCtorEq, Nat.reduceEqDiff, forall_const, implies_true, Nat.reduceAdd, Nat.reduceSub, Nat.reduceMul, Nat.reduceLT, Nat.reduceLeDiff, Int.reduceToNat, Int.reduceAdd, Int.reduceSub, Int.reduceNeg, Int.reduceMul, Int.reduceLT, Int.reduceLE, Int.reduceEq]
  · simp only [a3, demSl, h, ↓evPre, ↓evPreW, evPost, evPostW, ← List.map_take, ← List.map_drop, ↓reduceIte, reduceCtorEq, Nat.reduceEqDiff, forall_const, implies_true, Nat.reduceAdd, Nat.reduceSub, Nat.reduceMul, Nat.reduceLT, Nat.reduceLeDiff, Int.reduceToNat, Int.reduceAdd, Int.reduceSub, Int.reduceNeg, Int.reduceMul, Int.reduceLT, Int.reduceLE, Int.reduceEq]
    refine (curve_A l seats S (by omega)).then ?_
    simp only [curveV, ↓evPre, ↓evPreW, evPost, evPostW, ← List.map_take, ← List.map_drop, ↓reduceIte, reduceCtorEq, Nat.reduceEqDiff, forall_const, implies_true, Nat.reduceAdd, Nat.reduceSub, Nat.reduceMul, Nat.reduceLT, Nat.reduceLeDiff, Int.reduceToNat, Int.reduceAdd, Int.reduceSub, Int.reduceNeg, Int.reduceMul, Int.reduceLT, Int.reduceLE, Int.reduceEq]
    refine (refcurve_A l seats S (by omega) hr).then ?_
    have hrt := curve_right l seats
    have hrl := (right_bound hrt).1
    simp only [curveV, iSl, ↓evPre, ↓evPreW, evPost, evPostW, ← List.map_take, ← List.map_drop, ↓reduceIte, reduceCtorEq, Nat.reduceEqDiff, forall_const, implies_true, Nat.reduceAdd, Nat.reduceSub, Nat.reduceMul, Nat.reduceLT, Nat.reduceLeDiff, Int.reduceToNat, Int.reduceAdd, Int.reduceSub, Int.reduceNeg, Int.reduceMul, Int.reduceLT, Int.reduceLE, Int.reduceEq]
    refine (same_A _ _ S (by omega)).then ?_
    simp only [iSl, decide_true, ↓evPre, ↓evPreW, evPost, evPostW, ← List.map_take, ← List.map_drop, ↓reduceIte, reduceCtorEq, Nat.reduceEqDiff, forall_const, implies_true, Nat.reduceAdd, Nat.reduceSub, Nat.reduceMul, Nat.reduceLT, Nat.reduceLeDiff, Int.reduceToNat, Int.reduceAdd, Int.reduceSub, Int.reduceNeg, Int.reduceMul, Int.reduceLT, Int.reduceLE, Int.reduceEq]
    refine (right_A _ S (by omega)).then ?_
    simp only [iSl, hrt, ↓evPre, ↓evPreW, evPost, evPostW, ← List.map_take, ← List.map_drop, ↓reduceIte, reduceCtorEq, Nat.reduceEqDiff, forall_const, implies_true, Nat.reduceAdd, Nat.reduceSub, Nat.reduceMul, Nat.reduceLT, Nat.reduceLeDiff, Int.reduceToNat, Int.reduceAdd, Int.reduceSub, Int.reduceNeg, Int.reduceMul, Int.reduceLT, Int.reduceLE, Int.reduceEq]
    refine (price_A _ left S (by omega)).then ?_
    simp only [iSl, ↓evPre, ↓evPreW, evPost, evPostW, ← List.map_take, ← List.map_drop, ↓reduceIte, reduceCtorEq, Nat.reduceEqDiff, forall_const, implies_true, Nat.reduceAdd, Nat.reduceSub, Nat.reduceMul, Nat.reduceLT, Nat.reduceLeDiff, Int.reduceToNat, Int.reduceAdd, Int.reduceSub, Int.reduceNeg, Int.reduceMul, Int.reduceLT, Int.reduceLE, Int.reduceEq]
    refine (refprice_A _ left S (by omega)).then ?_
    simp only [iSl, decide_true, ↓evPre, ↓evPreW, evPost, evPostW, ← List.map_take, ← List.map_drop, ↓reduceIte, reduceCtorEq, Nat.reduceEqDiff, forall_const, implies_true, Nat.reduceAdd, Nat.reduceSub, Nat.reduceMul, Nat.reduceLT, Nat.reduceLeDiff, Int.reduceToNat, Int.reduceAdd, Int.reduceSub, Int.reduceNeg, Int.reduceMul, Int.reduceLT, Int.reduceLE, Int.reduceEq]
    refine (knows_A S).then ?_
    simp only [↓evPre, ↓evPreW, evPost, evPostW, ← List.map_take, ← List.map_drop, ↓reduceIte, reduceCtorEq, Nat.reduceEqDiff, forall_const, implies_true, Nat.reduceAdd, Nat.reduceSub, Nat.reduceMul, Nat.reduceLT, Nat.reduceLeDiff, Int.reduceToNat, Int.reduceAdd, Int.reduceSub, Int.reduceNeg, Int.reduceMul, Int.reduceLT, Int.reduceLE, Int.reduceEq]

/-! ### More demand -/
theorem more_get {A B X : List Int} (hA : desc A) (hB : desc B) (hp : B.Perm (A ++ X)) {i : Nat} {x y : Int} (hx : A[i]? = some x) (hy : B[i]? = some y) : x ≤ y := by
  refine Int.not_lt.1 fun hlt => ?_
  have h1 : i + 1 ≤ A.countP (fun z => decide (x ≤ z)) := by
    have e : (A.take (i + 1)).countP (fun z => decide (x ≤ z)) = (A.take (i + 1)).length := by
      rw [List.countP_eq_length]
      intro z hz
      obtain ⟨j, hj⟩ := List.getElem?_of_mem hz
      rw [List.getElem?_take] at hj
      split at hj
      · rename_i hji
        obtain ⟨a1, a2⟩ := List.getElem?_eq_some_iff.1 hj
        obtain ⟨b1, b2⟩ := List.getElem?_eq_some_iff.1 hx
        rcases Nat.lt_or_eq_of_le (Nat.lt_succ_iff.1 hji) with h | h
        · have := List.pairwise_iff_getElem.1 hA j i a1 b1 h
          rw [a2, b2] at this
          simpa using this
        · subst h
          rw [hx] at hj
          cases hj
          simp
      · cases hj
    have hl : (A.take (i + 1)).length = i + 1 := by
      have := (List.getElem?_eq_some_iff.1 hx).1
      simp; omega
    have := (List.take_sublist (i + 1) A).countP_le (p := fun z => decide (x ≤ z))
    omega
  have h2 : B.countP (fun z => decide (x ≤ z)) ≤ i := by
    have e : B.countP (fun z => decide (x ≤ z)) = (B.take i).countP (fun z => decide (x ≤ z)) + (B.drop i).countP (fun z => decide (x ≤ z)) := by rw [← List.countP_append, List.take_append_drop]
    have e0 : (B.drop i).countP (fun z => decide (x ≤ z)) = 0 := by
      rw [List.countP_eq_zero]
      intro z hz
      obtain ⟨j, hj⟩ := List.getElem?_of_mem hz
      rw [List.getElem?_drop] at hj
      obtain ⟨a1, a2⟩ := List.getElem?_eq_some_iff.1 hj
      obtain ⟨b1, b2⟩ := List.getElem?_eq_some_iff.1 hy
      have : z ≤ y := by
        by_cases h0 : j = 0
        · subst h0
          rw [Nat.add_zero, hy] at hj
          cases hj
          exact Int.le_refl _
        · have := List.pairwise_iff_getElem.1 hB i (i + j) b1 a1 (by omega)
          rw [a2, b2] at this
          exact this
      simp; omega
    have := List.countP_le_length (p := fun z => decide (x ≤ z)) (l := B.take i)
    have hl : (B.take i).length ≤ i := by simp; omega
    omega
  have h3 := hp.countP_eq (fun z => decide (x ≤ z))
  rw [List.countP_append] at h3
  omega

theorem more_pad {l : List (Int × Int)} {m : Int × Int} (hb : badF (l ++ [m]) = 0) (i : Nat) : (sortedE l).getD i 0 ≤ (sortedE (l ++ [m])).getD i 0 := by
  have hp : (sortedE (l ++ [m])).Perm (sortedE l ++ E [m]) := by
    refine (sortedE_spec _).2.trans ?_
    rw [E_append]
    exact (sortedE_spec l).2.symm.append_right _
  have hlen := hp.length_eq
  rw [List.length_append] at hlen
  rw [List.getD_eq_getElem?_getD, List.getD_eq_getElem?_getD]
  cases hx : (sortedE l)[i]? with
  | some x =>
    have hxl := (List.getElem?_eq_some_iff.1 hx).1
    cases hy : (sortedE (l ++ [m]))[i]? with
    | some y => exact more_get (sortedE_spec l).1 (sortedE_spec _).1 hp hx hy
    | none => rw [List.getElem?_eq_none_iff] at hy; omega
  | none =>
    cases hy : (sortedE (l ++ [m]))[i]? with
    | some y => exact (sortedE_bound hb y (List.mem_of_getElem? hy)).1
    | none => exact Int.le_refl _

theorem badF_front : ∀ {l : List (Int × Int)} {m : Int × Int}, badF (l ++ [m]) = 0 → badF l = 0
  | [], _, _ => rfl
  | d :: l, m, h => by
    simp only [List.cons_append, badF] at h ⊢
    split at h
    · cases h
    · split at h
      · cases h
      · rename_i h1 h2
        rw [if_neg h1, if_neg h2]
        exact badF_front h

theorem rises_A (l : List (Int × Int)) (m : Int × Int) (seats : Int) (S : Store) (hl : l.length ≤ 1048576) : CallA Try.prog 6 [demSl l, .agg (dem m), .int .i64 seats] S fun r S' => r = .bool true ∧ S' = S := by
  refine CallA.back Try.func6 c6 (Nat.le_of_ble_eq_true rfl) fun σ hσ hn => ?_
  have fin : ∀ T : Store, ∃ r1, (∃ T', S ++ T = S ++ T') ∧ Frz (S ++ T) S (.bool true) r1 ∧ r1 = .bool true := fun T => ⟨_, ⟨T, rfl⟩, .imm rfl, rfl⟩
  have fin0 : ∃ r1, (∃ T', S = S ++ T') ∧ Frz S S (.bool true) r1 ∧ r1 = .bool true := ⟨_, ⟨[], by simp⟩, .imm rfl, rfl⟩
  by_cases h : (50 : Int) < l.length
  · simp only [a6, demSl, dem, h, ↓evPre, ↓evPreW, evPost, evPostW, ← List.map_take, ← List.map_drop, ↓reduceIte, reduceCtorEq, Nat.reduceEqDiff, forall_const, implies_true, Nat.reduceAdd, Nat.reduceSub, Nat.reduceMul, Nat.reduceLT, Nat.reduceLeDiff, Int.reduceToNat, Int.reduceAdd, Int.reduceSub, Int.reduceNeg, Int.reduceMul, Int.reduceLT, Int.reduceLE, Int.reduceEq]
    refine (knows_A S).then ?_
    simp only [↓evPre, ↓evPreW, evPost, evPostW, ← List.map_take, ← List.map_drop, ↓reduceIte, reduceCtorEq, Nat.reduceEqDiff, forall_const, implies_true, Nat.reduceAdd, Nat.reduceSub, Nat.reduceMul, Nat.reduceLT, Nat.reduceLeDiff, Int.reduceToNat, Int.reduceAdd, Int.reduceSub, Int.reduceNeg, Int.reduceMul, Int.reduceLT, Int.reduceLE, Int.reduceEq]
    exact fin0
  · simp only [a6, demSl, dem, h, ↓evPre, ↓evPreW, evPost, evPostW, ← List.map_take, ← List.map_drop, ↓reduceIte, reduceCtorEq, Nat.reduceEqDiff, forall_const, implies_true, Nat.reduceAdd, Nat.reduceSub, Nat.reduceMul, Nat.reduceLT, Nat.reduceLeDiff, Int.reduceToNat, Int.reduceAdd, Int.reduceSub, Int.reduceNeg, Int.reduceMul, Int.reduceLT, Int.reduceLE, Int.reduceEq]
    refine (curve_A l seats S (by omega)).then ?_
    simp (disch := first | omega | (simp only [List.length_cons, List.length_nil, List.length_map, List.length_drop]; omega)) only [curveV, iSl, ldn_c, evSt, ↓evPre, ↓evPreW, evPost, evPostW, ← List.map_take, ← List.map_drop, ↓reduceIte, reduceCtorEq, Nat.reduceEqDiff, forall_const, implies_true, Nat.reduceAdd, Nat.reduceSub, Nat.reduceMul, Nat.reduceLT, Nat.reduceLeDiff, Int.reduceToNat, Int.reduceAdd, Int.reduceSub, Int.reduceNeg, Int.reduceMul, Int.reduceLT, Int.reduceLE, Int.reduceEq]
    refine ⟨by unfold roomA; omega, by unfold roomA; omega, ?_⟩
    refine CallA.killed hn (args1 := [demSl (l ++ [m]), .int .i64 seats]) ((curve_A (l ++ [m]) seats _ (by simp; omega)).then ?_) rfl (fun j v1 w h1 h2 => ?_)
    · obtain ⟨T, hT⟩ : ∃ T : Store, kill [⟨2, some (.arr 40 2 (List.map dem l ++ [[V.int .i64 m.1, V.int .i64 m.2]]))⟩] = T := ⟨_, rfl⟩
      rw [hT]
      rcases curve_cases l seats with ⟨e1, a1⟩ | ⟨b1, n, rfl, hn9, c1⟩
      · simp (disch := first | omega | (simp only [List.length_cons, List.length_nil, List.length_map, List.length_drop]; omega)) only [curveV, iSl, e1, a1, decide_true, ↓evPre, ↓evPreW, evPost, evPostW, ← List.map_take, ← List.map_drop, ↓reduceIte, reduceCtorEq, Nat.reduceEqDiff, forall_const, implies_true, Nat.reduceAdd, Nat.reduceSub, Nat.reduceMul, Nat.reduceLT, Nat.reduceLeDiff, Int.reduceToNat, Int.reduceAdd, Int.reduceSub, Int.reduceNeg, Int.reduceMul, Int.reduceLT, Int.reduceLE, Int.reduceEq]
        refine (knows_A _).then ?_
        simp only [↓evPre, ↓evPreW, evPost, evPostW, ← List.map_take, ← List.map_drop, ↓reduceIte, reduceCtorEq, Nat.reduceEqDiff, forall_const, implies_true, Nat.reduceAdd, Nat.reduceSub, Nat.reduceMul, Nat.reduceLT, Nat.reduceLeDiff, Int.reduceToNat, Int.reduceAdd, Int.reduceSub, Int.reduceNeg, Int.reduceMul, Int.reduceLT, Int.reduceLE, Int.reduceEq]
        exact fin _
      · rcases curve_cases (l ++ [m]) n with ⟨e2, a2⟩ | ⟨b2, n', hnn, _, c2⟩
        · by_cases h0 : ((padF (sortedE l) n).length : Int) = 0
          · simp (disch := first | omega | (simp only [List.length_cons, List.length_nil, List.length_map, List.length_drop]; omega)) only [curveV, iSl, c1, e2, a2, h0, decide_true, ↓evPre, ↓evPreW, evPost, evPostW, ← List.map_take, ← List.map_drop, ↓reduceIte, reduceCtorEq, Nat.reduceEqDiff, forall_const, implies_true, Nat.reduceAdd, Nat.reduceSub, Nat.reduceMul, Nat.reduceLT, Nat.reduceLeDiff, Int.reduceToNat, Int.reduceAdd, Int.reduceSub, Int.reduceNeg, Int.reduceMul, Int.reduceLT, Int.reduceLE, Int.reduceEq]
            refine (knows_A _).then ?_
            simp only [↓evPre, ↓evPreW, evPost, evPostW, ← List.map_take, ← List.map_drop, ↓reduceIte, reduceCtorEq, Nat.reduceEqDiff, forall_const, implies_true, Nat.reduceAdd, Nat.reduceSub, Nat.reduceMul, Nat.reduceLT, Nat.reduceLeDiff, Int.reduceToNat, Int.reduceAdd, Int.reduceSub, Int.reduceNeg, Int.reduceMul, Int.reduceLT, Int.reduceLE, Int.reduceEq]
            exact fin _
          · simp (disch := first | omega | (simp only [List.length_cons, List.length_nil, List.length_map, List.length_drop]; omega)) only [curveV, iSl, c1, e2, a2, h0, decide_true, ↓evPre, ↓evPreW, evPost, evPostW, ← List.map_take, ← List.map_drop, ↓reduceIte, reduceCtorEq, Nat.reduceEqDiff, forall_const, implies_true, Nat.reduceAdd, Nat.reduceSub, Nat.reduceMul, Nat.reduceLT, Nat.reduceLeDiff, Int.reduceToNat, Int.reduceAdd, Int.reduceSub, Int.reduceNeg, Int.reduceMul, Int.reduceLT, Int.reduceLE, Int.reduceEq]
            refine (knows_A _).then ?_
            simp only [↓evPre, ↓evPreW, evPost, evPostW, ← List.map_take, ← List.map_drop, ↓reduceIte, reduceCtorEq, Nat.reduceEqDiff, forall_const, implies_true, Nat.reduceAdd, Nat.reduceSub, Nat.reduceMul, Nat.reduceLT, Nat.reduceLeDiff, Int.reduceToNat, Int.reduceAdd, Int.reduceSub, Int.reduceNeg, Int.reduceMul, Int.reduceLT, Int.reduceLE, Int.reduceEq]
            exact fin _
        · obtain rfl : n' = n := by omega
          have hr1 : rightF (padF (sortedE l) n') = true := pad_right hn9 (sortedE_spec l).1 (sortedE_bound b1)
          have hr2 : rightF (padF (sortedE (l ++ [m])) n') = true := pad_right hn9 (sortedE_spec _).1 (sortedE_bound b2)
          obtain ⟨A, hA⟩ : ∃ A, A = padF (sortedE l) n' := ⟨_, rfl⟩
          obtain ⟨B, hB⟩ : ∃ B, B = padF (sortedE (l ++ [m])) n' := ⟨_, rfl⟩
          have hAl : A.length = n' := by rw [hA, pad_len]
          have hBl : B.length = n' := by rw [hB, pad_len]
          rw [← hA] at hr1 c1
          rw [← hB] at hr2 c2
          simp (disch := first | omega | (simp only [List.length_cons, List.length_nil, List.length_map, List.length_drop]; omega)) only [curveV, iSl, c1, c2, decide_true, ↓evPre, ↓evPreW, evPost, evPostW, ← List.map_take, ← List.map_drop, ↓reduceIte, reduceCtorEq, Nat.reduceEqDiff, forall_const, implies_true, Nat.reduceAdd, Nat.reduceSub, Nat.reduceMul, Nat.reduceLT, Nat.reduceLeDiff, Int.reduceToNat, Int.reduceAdd, Int.reduceSub, Int.reduceNeg, Int.reduceMul, Int.reduceLT, Int.reduceLE, Int.reduceEq]
          refine loopA (ι := Nat) (fun i => [(2, .int .i64 n'), (7, iSl A), (9, iSl B), (11, .int .i64 i)]) (fun _ => S ++ T) (fun i => i ≤ n') (fun i => n' - i) 0 (Nat.zero_le _) ?_ rfl ?_
          · simp only [iSl, ↓evPre, ↓evPreW, evPost, evPostW, ← List.map_take, ← List.map_drop, ↓reduceIte, reduceCtorEq, Nat.reduceEqDiff, forall_const, implies_true, Nat.reduceAdd, Nat.reduceSub, Nat.reduceMul, Nat.reduceLT, Nat.reduceLeDiff, Int.reduceToNat, Int.reduceAdd, Int.reduceSub, Int.reduceNeg, Int.reduceMul, Int.reduceLT, Int.reduceLE, Int.reduceEq]
          · intro i hi
            by_cases hlt : (i : Int) < n'
            · have hx : A[i]? = some ((sortedE l).getD i 0) := by rw [hA]; exact pad_get (by omega)
              have hy : B[i]? = some ((sortedE (l ++ [m])).getD i 0) := by rw [hB]; exact pad_get (by omega)
              have hm := more_pad b2 i
              have q1 : ¬ (sortedE (l ++ [m])).getD i 0 < (sortedE l).getD i 0 := by omega
              have q2 : ¬ (n' : Int) ≤ i := by omega
              obtain ⟨_, hbd⟩ := right_bound hr1
              simp (disch := first | omega | (simp only [List.length_cons, List.length_nil, List.length_map, List.length_drop]; omega)) only [iSl, wrap_i64, hx, hy, hAl, hBl, hlt, q1, q2, ↓evPre, ↓evPreW, evPost, evPostW, ← List.map_take, ← List.map_drop, ↓reduceIte, reduceCtorEq, Nat.reduceEqDiff, forall_const, implies_true, Nat.reduceAdd, Nat.reduceSub, Nat.reduceMul, Nat.reduceLT, Nat.reduceLeDiff, Int.reduceToNat, Int.reduceAdd, Int.reduceSub, Int.reduceNeg, Int.reduceMul, Int.reduceLT, Int.reduceLE, Int.reduceEq]
              refine (worth_A A ((i : Int) + 1) _ (by omega) hbd).then ?_
              simp (disch := first | omega | (simp only [List.length_cons, List.length_nil, List.length_map, List.length_drop]; omega)) only [iSl, wrap_i64, ↓evPre, ↓evPreW, evPost, evPostW, ← List.map_take, ← List.map_drop, ↓reduceIte, reduceCtorEq, Nat.reduceEqDiff, forall_const, implies_true, Nat.reduceAdd, Nat.reduceSub, Nat.reduceMul, Nat.reduceLT, Nat.reduceLeDiff, Int.reduceToNat, Int.reduceAdd, Int.reduceSub, Int.reduceNeg, Int.reduceMul, Int.reduceLT, Int.reduceLE, Int.reduceEq]
              refine (worth_A A i _ (by omega) hbd).then ?_
              simp (disch := first | omega | (simp only [List.length_cons, List.length_nil, List.length_map, List.length_drop]; omega)) only [iSl, wrap_i64, ↓evPre, ↓evPreW, evPost, evPostW, ← List.map_take, ← List.map_drop, ↓reduceIte, reduceCtorEq, Nat.reduceEqDiff, forall_const, implies_true, Nat.reduceAdd, Nat.reduceSub, Nat.reduceMul, Nat.reduceLT, Nat.reduceLeDiff, Int.reduceToNat, Int.reduceAdd, Int.reduceSub, Int.reduceNeg, Int.reduceMul, Int.reduceLT, Int.reduceLE, Int.reduceEq]
              refine (price_A A ((i : Int) + 1) _ (by omega)).then ?_
              have hp : priceF A ((i : Int) + 1) = (sortedE l).getD i 0 := by
                have := price_get (l := A) (left := (i : Int) + 1) (by omega) (by omega)
                have e : ((i : Int) + 1 - 1).toNat = i := by omega
                rw [e, hx] at this
                exact (Option.some.inj this).symm
              have hw : worthF A ((i : Int) + 1) = worthF A i + priceF A ((i : Int) + 1) := by
                have e : ((i : Int) + 1).toNat = i + 1 := by omega
                rw [worthF, worthF, e, Int.toNat_natCast, sum_take hx, hp]
              have hb1 := sum_bound (A.take i) fun x hx => hbd x (List.mem_of_mem_take hx)
              have hb2 : (A.take i).length ≤ 999 := by simp; omega
              have hb3 := hbd _ (List.mem_of_getElem? hx)
              have hwe : worthF A i = (A.take i).sum := by rw [worthF, Int.toNat_natCast]
              rw [← hp] at hb3
              rw [← hwe] at hb1
              simp (disch := first | omega | (simp only [List.length_cons, List.length_nil, List.length_map, List.length_drop]; omega)) only [iSl, wrap_i64, hw, decide_true, ↓evPre, ↓evPreW, evPost, evPostW, ← List.map_take, ← List.map_drop, ↓reduceIte, reduceCtorEq, Nat.reduceEqDiff, forall_const, implies_true, Nat.reduceAdd, Nat.reduceSub, Nat.reduceMul, Nat.reduceLT, Nat.reduceLeDiff, Int.reduceToNat, Int.reduceAdd, Int.reduceSub, Int.reduceNeg, Int.reduceMul, Int.reduceLT, Int.reduceLE, Int.reduceEq]
              exact ⟨i + 1, by omega, by omega, by omega⟩
            · have hin : i = n' := by omega
              simp (disch := first | omega | (simp only [List.length_cons, List.length_nil, List.length_map, List.length_drop]; omega)) only [iSl, wrap_i64, hAl, hBl, hlt, decide_true, ↓evPre, ↓evPreW, evPost, evPostW, ← List.map_take, ← List.map_drop, ↓reduceIte, reduceCtorEq, Nat.reduceEqDiff, forall_const, implies_true, Nat.reduceAdd, Nat.reduceSub, Nat.reduceMul, Nat.reduceLT, Nat.reduceLeDiff, Int.reduceToNat, Int.reduceAdd, Int.reduceSub, Int.reduceNeg, Int.reduceMul, Int.reduceLT, Int.reduceLE, Int.reduceEq]
              refine (knows_A _).then ?_
              simp only [↓evPre, ↓evPreW, evPost, evPostW, ← List.map_take, ← List.map_drop, ↓reduceIte, reduceCtorEq, Nat.reduceEqDiff, forall_const, implies_true, Nat.reduceAdd, Nat.reduceSub, Nat.reduceMul, Nat.reduceLT, Nat.reduceLeDiff, Int.reduceToNat, Int.reduceAdd, Int.reduceSub, Int.reduceNeg, Int.reduceMul, Int.reduceLT, Int.reduceLE, Int.reduceEq]
              exact fin _
    · match j with
      | 0 =>
        simp only [List.getElem?_cons_zero, Option.some.injEq] at h1 h2
        subst h1 h2
        have e : List.map dem l ++ [[V.int .i64 m.1, V.int .i64 m.2]] = (l ++ [m]).map dem := by simp [dem]
        rw [e]
        refine .dead (t := 40) (rows := (l ++ [m]).map dem) (dead_kill (Nat.le_refl _)) (by simp only [evSt]) (by simp) fun r hr => ?_
        obtain ⟨d, _, rfl⟩ := List.mem_map.1 hr
        exact ⟨rfl, rfl⟩
      | 1 => simp at h1 h2; subst h1 h2; exact .imm rfl
      | j + 2 => simp at h1
end Go.Proofs.Ytoidchljifelgaa
