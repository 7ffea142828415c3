/- Curve of 'bid'. -/
import Derived.Test.YtoidchljifelgaaBid12
namespace Go.Proofs.Ytoidchljifelgaa
open Go Go.AL
set_option linter.unusedSimpArgs false
set_option maxHeartbeats 4000000

theorem rowsImm (o : List Int) : ∀ r ∈ o.map fun n => [V.int .i64 n], r.length = 1 ∧ V.allImm r = true := fun r hr => by
  obtain ⟨n, _, rfl⟩ := List.mem_map.1 hr
  exact ⟨rfl, rfl⟩

theorem curve_A (l : List (Int × Int)) (seats : Int) (S : Store) (hl : l.length ≤ 1073741824) : CallA Try.prog 9 [demSl l, .int .i64 seats] S fun r S' => r = curveV l seats ∧ S' = S := by
  refine CallA.back Try.func9 c9 (Nat.le_of_ble_eq_true rfl) fun σ hσ hn => ?_
  have fin : ∀ (e : Int) (T : Store), curveF l seats = ([], e) → ∃ r1, (∃ T', S ++ T = S ++ T') ∧ Frz (S ++ T) S (.tup [.nilSl, .int .i64 e]) r1 ∧ r1 = curveV l seats := fun e T h =>
    ⟨_, ⟨T, rfl⟩, .tup2 .nil (.imm rfl), by rw [curveV, h]; rfl⟩
  by_cases h1 : seats < 0
  · have := fin 2 [] (by rw [curveF, if_pos (.inl h1)])
    simp only [a9, demSl, h1, evSt, ↓evPre, ↓evPreV, evPost, evPostV, ← List.map_take, ← List.map_drop, ↓reduceIte, reduceCtorEq, Nat.reduceEqDiff, forall_const, implies_true, Nat.reduceAdd, Nat.reduceSub, Nat.reduceMul, Nat.reduceLT, Nat.reduceLeDiff, Int.reduceToNat, Int.reduceAdd, Int.reduceSub, Int.reduceNeg, Int.reduceMul, Int.reduceLT, Int.reduceLE, Int.reduceEq]
    simpa using this
  by_cases h2 : 999 < seats
  · have := fin 2 [] (by rw [curveF, if_pos (.inr h2)])
    simp only [a9, demSl, h1, h2, evSt, ↓evPre, ↓evPreV, evPost, evPostV, ← List.map_take, ← List.map_drop, ↓reduceIte, reduceCtorEq, Nat.reduceEqDiff, forall_const, implies_true, Nat.reduceAdd, Nat.reduceSub, Nat.reduceMul, Nat.reduceLT, Nat.reduceLeDiff, Int.reduceToNat, Int.reduceAdd, Int.reduceSub, Int.reduceNeg, Int.reduceMul, Int.reduceLT, Int.reduceLE, Int.reduceEq]
    simpa using this
  simp only [a9, demSl, h1, h2, evSt, ↓evPre, ↓evPreV, evPost, evPostV, ← List.map_take, ← List.map_drop, ↓reduceIte, reduceCtorEq, Nat.reduceEqDiff, forall_const, implies_true, Nat.reduceAdd, Nat.reduceSub, Nat.reduceMul, Nat.reduceLT, Nat.reduceLeDiff, Int.reduceToNat, Int.reduceAdd, Int.reduceSub, Int.reduceNeg, Int.reduceMul, Int.reduceLT, Int.reduceLE, Int.reduceEq]
  refine loopA (ι := Nat × Store) (fun i => [(0, demSl l), (1, .int .i64 seats), (18, demSl l), (19, .int .i64 l.length), (20, .int .i64 i.1)]) (fun i => S ++ i.2) (fun i => i.1 ≤ l.length ∧ badF (l.drop i.1) = badF l) (fun i => l.length - i.1) (0, []) ⟨Nat.zero_le _, rfl⟩ ?_ (by simp) ?_
  · simp only [demSl, ↓evPre, ↓evPreV, evPost, evPostV, ← List.map_take, ← List.map_drop, ↓reduceIte, reduceCtorEq, Nat.reduceEqDiff, forall_const, implies_true, Nat.reduceAdd, Nat.reduceSub, Nat.reduceMul, Nat.reduceLT, Nat.reduceLeDiff, Int.reduceToNat, Int.reduceAdd, Int.reduceSub, Int.reduceNeg, Int.reduceMul, Int.reduceLT, Int.reduceLE, Int.reduceEq]
  · rintro ⟨k, G⟩ ⟨hk, hinv⟩
    simp only at hk hinv ⊢
    cases hc : l[k]? with
    | some d =>
      have hlt : (k : Int) < l.length := by have := (List.getElem?_eq_some_iff.1 hc).1; omega
      rw [drop_get hc, badF] at hinv
      simp (disch := first | omega | (simp only [List.length_cons, List.length_nil, List.length_map, List.length_drop]; omega)) only [demSl, dem, wrap_i64, hc, hlt, ldn_c, ldnR_some, evSt, ↓evPre, ↓evPreV, evPost, evPostV, ← List.map_take, ← List.map_drop, ↓reduceIte, reduceCtorEq, Nat.reduceEqDiff, forall_const, implies_true, Nat.reduceAdd, Nat.reduceSub, Nat.reduceMul, Nat.reduceLT, Nat.reduceLeDiff, Int.reduceToNat, Int.reduceAdd, Int.reduceSub, Int.reduceNeg, Int.reduceMul, Int.reduceLT, Int.reduceLE, Int.reduceEq]
      refine ⟨fun h3 => ⟨fun h4 => fin 11 _ ?_, fun h4 => ⟨fun h5 => fin 2 _ ?_, fun h5 => ⟨(k + 1, _), ⟨by simp only; omega, ?_⟩, by simp only; omega, by simp only; omega, rfl⟩⟩⟩, fun h3 => fin 11 _ ?_⟩
      · rw [curveF, if_neg (by omega), if_pos (by rw [← hinv, if_pos (.inr h4)]; decide), ← hinv, if_pos (.inr h4)]
      · rw [curveF, if_neg (by omega), if_pos (by rw [← hinv, if_neg (by omega), if_pos h5]; decide), ← hinv, if_neg (by omega), if_pos h5]
      · rw [← hinv, if_neg (by omega), if_neg (by omega)]
      · rw [curveF, if_neg (by omega), if_pos (by rw [← hinv, if_pos (.inl h3)]; decide), ← hinv, if_pos (.inl h3)]
    | none =>
      have hlt : ¬ ((k : Int) < l.length) := by rw [List.getElem?_eq_none_iff] at hc; omega
      rw [List.drop_eq_nil_of_le (by rw [List.getElem?_eq_none_iff] at hc; exact hc), badF] at hinv
      simp (disch := omega) only [demSl, wrap_i64, hc, hlt, evSt, ↓evPre, ↓evPreV, evPost, evPostV, ← List.map_take, ← List.map_drop, ↓reduceIte, reduceCtorEq, Nat.reduceEqDiff, forall_const, implies_true, Nat.reduceAdd, Nat.reduceSub, Nat.reduceMul, Nat.reduceLT, Nat.reduceLeDiff, Int.reduceToNat, Int.reduceAdd, Int.reduceSub, Int.reduceNeg, Int.reduceMul, Int.reduceLT, Int.reduceLE, Int.reduceEq]
      refine (clone_A l (S ++ G) hl).mono ?_
      rintro r S' ⟨rfl, rfl⟩
      have hs := sort_A (l.map dem) (S ++ G) (fun r hr => by obtain ⟨d, _, rfl⟩ := List.mem_map.1 hr; exact ⟨d, rfl⟩) (by simpa using hl)
      rw [List.length_map] at hs
      refine hs.mono ?_
      rintro r S' ⟨rfl, M', h3, h4, rfl⟩
      obtain ⟨m, rfl, h5, h6⟩ := perm_dem h3 h4
      have hml := h5.length_eq
      refine ⟨by omega, by unfold roomA; omega, ?_⟩
      simp (disch := omega) only [evSt, ↓evPre, ↓evPreV, evPost, evPostV, ← List.map_take, ← List.map_drop, ↓reduceIte, reduceCtorEq, Nat.reduceEqDiff, forall_const, implies_true, Nat.reduceAdd, Nat.reduceSub, Nat.reduceMul, Nat.reduceLT, Nat.reduceLeDiff, Int.reduceToNat, Int.reduceAdd, Int.reduceSub, Int.reduceNeg, Int.reduceMul, Int.reduceLT, Int.reduceLE, Int.reduceEq]
      have hF : curveF l seats = (padF (sortedE l) seats, 0) := by rw [curveF, if_neg (by omega), if_neg (by rw [← hinv]; decide)]
      have hE := E_sorted h5 h6
      obtain ⟨n, rfl⟩ : ∃ n : Nat, seats = n := ⟨seats.toNat, by omega⟩
      -- the demands, the greatest value first
      refine loopA (ι := Nat × Nat × Store) (fun i => [(1, .int .i64 n), (9, .msl (S.length + (G.length + 1)) i.2.1 0 ((E (m.take i.1)).take n).length), (42, .msl (S.length + G.length) 1 0 l.length), (43, .int .i64 l.length), (44, .int .i64 i.1)])
        (fun i => S ++ (G ++ (⟨1, some (.arr 40 2 (m.map dem))⟩ :: ⟨i.2.1, some (.arr 3 1 (((E (m.take i.1)).take n).map fun n => [.int .i64 n]))⟩ :: i.2.2))) (fun i => i.1 ≤ m.length) (fun i => m.length - i.1) (0, 0, []) (Nat.zero_le _) ?_ (by simp [E]) ?_
      · simp only [evSt, ↓evPre, ↓evPreV, evPost, evPostV, ← List.map_take, ← List.map_drop, ↓reduceIte, reduceCtorEq, Nat.reduceEqDiff, forall_const, implies_true, Nat.reduceAdd, Nat.reduceSub, Nat.reduceMul, Nat.reduceLT, Nat.reduceLeDiff, Int.reduceToNat, Int.reduceAdd, Int.reduceSub, Int.reduceNeg, Int.reduceMul, Int.reduceLT, Int.reduceLE, Int.reduceEq]
        simp [E]
      · rintro ⟨k, v, G2⟩ hk
        simp only at hk ⊢
        obtain ⟨o, ho⟩ : ∃ o, o = (E (m.take k)).take n := ⟨_, rfl⟩
        have hol : o.length ≤ n := by rw [ho, List.length_take]; omega
        rw [← ho]
        cases hc : m[k]? with
        | some d =>
          have hlt : (k : Int) < l.length := by have := (List.getElem?_eq_some_iff.1 hc).1; omega
          simp (disch := first | omega | (simp only [List.length_cons, List.length_nil, List.length_map, List.length_drop]; omega)) only [dem, wrap_i64, hc, hlt, idxO_some, ldnR_some, Int.toNat_natCast, evSt, ↓evPre, ↓evPreV, evPost, evPostV, ← List.map_take, ← List.map_drop, ↓reduceIte, reduceCtorEq, Nat.reduceEqDiff, forall_const, implies_true, Nat.reduceAdd, Nat.reduceSub, Nat.reduceMul, Nat.reduceLT, Nat.reduceLeDiff, Int.reduceToNat, Int.reduceAdd, Int.reduceSub, Int.reduceNeg, Int.reduceMul, Int.reduceLT, Int.reduceLE, Int.reduceEq]
          obtain ⟨q, hq⟩ : ∃ q : Int, q = min d.2 ((n : Int) - o.length) := ⟨_, rfl⟩
          rw [← hq]
          have hqn : q ≤ n - o.length := by omega
          refine loopA (ι := Nat) (fun j => [(1, .int .i64 n), (9, .msl (S.length + (G.length + 1)) (v + j) 0 (o ++ List.replicate j d.1).length), (11, .ptr (S.length + (G.length + (G2.length + 1 + 1))) 0 0 0), (42, .msl (S.length + G.length) 1 0 l.length), (43, .int .i64 l.length), (44, .int .i64 k), (54, .int .i64 q), (55, .int .i64 j)])
            (fun j => S ++ (G ++ (⟨1, some (.arr 40 2 (m.map dem))⟩ :: ⟨v + j, some (.arr 3 1 ((o ++ List.replicate j d.1).map fun n => [.int .i64 n]))⟩ :: (G2 ++ [⟨0, some (.arr 40 2 [dem d])⟩])))) (fun j => j ≤ q.toNat) (fun j => q.toNat - j) 0 (Nat.zero_le _) ?_ (by simp [dem]) ?_
          · simp only [evSt, ↓evPre, ↓evPreV, evPost, evPostV, ← List.map_take, ← List.map_drop, ↓reduceIte, reduceCtorEq, Nat.reduceEqDiff, forall_const, implies_true, Nat.reduceAdd, Nat.reduceSub, Nat.reduceMul, Nat.reduceLT, Nat.reduceLeDiff, Int.reduceToNat, Int.reduceAdd, Int.reduceSub, Int.reduceNeg, Int.reduceMul, Int.reduceLT, Int.reduceLE, Int.reduceEq]
            simp
          · rintro j hj
            by_cases hjq : (j : Int) < q
            · simp (disch := first | omega | (simp only [List.length_cons, List.length_nil, List.length_map, List.length_drop]; omega)) only [dem, hjq, wrap_i64, evSt, ↓evPre, ↓evPreV, evPost, evPostV, ← List.map_take, ← List.map_drop, ↓reduceIte, reduceCtorEq, Nat.reduceEqDiff, forall_const, implies_true, Nat.reduceAdd, Nat.reduceSub, Nat.reduceMul, Nat.reduceLT, Nat.reduceLeDiff, Int.reduceToNat, Int.reduceAdd, Int.reduceSub, Int.reduceNeg, Int.reduceMul, Int.reduceLT, Int.reduceLE, Int.reduceEq]
              have hr : o ++ List.replicate (j + 1) d.1 = o ++ List.replicate j d.1 ++ [d.1] := by rw [List.replicate_succ', ← List.append_assoc]
              refine ⟨by unfold roomA; simp; omega, j + 1, by omega, by omega, ⟨by simp only [hr, List.length_append, List.length_cons, List.length_nil, Nat.zero_add, Nat.add_assoc], by omega⟩, by simp only [hr, List.map_append, List.map_cons, List.map_nil, Nat.add_assoc]⟩
            · have hjq' : j = q.toNat := by omega
              simp (disch := first | omega | (simp only [List.length_cons, List.length_nil, List.length_map, List.length_drop]; omega)) only [dem, hjq, wrap_i64, evSt, ↓evPre, ↓evPreV, evPost, evPostV, ← List.map_take, ← List.map_drop, ↓reduceIte, reduceCtorEq, Nat.reduceEqDiff, forall_const, implies_true, Nat.reduceAdd, Nat.reduceSub, Nat.reduceMul, Nat.reduceLT, Nat.reduceLeDiff, Int.reduceToNat, Int.reduceAdd, Int.reduceSub, Int.reduceNeg, Int.reduceMul, Int.reduceLT, Int.reduceLE, Int.reduceEq]
              have hst : (E (m.take (k + 1))).take n = o ++ List.replicate j d.1 := by
                have h1 : E (m.take (k + 1)) = E (m.take k) ++ List.replicate d.2.toNat d.1 := by simp [E, List.take_add_one, hc]
                rw [h1, List.take_append, ← ho, List.take_replicate]
                congr 2
                rw [ho, List.length_take] at hq hol
                omega
              exact ⟨(k + 1, v + j, _), by simp only; omega, by simp only; omega, ⟨by simp only; rw [hst], by simp only; omega⟩, by simp only; rw [hst]⟩
        | none =>
          have hlt : ¬ ((k : Int) < l.length) := by rw [List.getElem?_eq_none_iff] at hc; omega
          have hkm : k = m.length := by omega
          simp (disch := first | omega | (simp only [List.length_cons, List.length_nil, List.length_map, List.length_drop]; omega)) only [wrap_i64, hc, hlt, evSt, ↓evPre, ↓evPreV, evPost, evPostV, ← List.map_take, ← List.map_drop, ↓reduceIte, reduceCtorEq, Nat.reduceEqDiff, forall_const, implies_true, Nat.reduceAdd, Nat.reduceSub, Nat.reduceMul, Nat.reduceLT, Nat.reduceLeDiff, Int.reduceToNat, Int.reduceAdd, Int.reduceSub, Int.reduceNeg, Int.reduceMul, Int.reduceLT, Int.reduceLE, Int.reduceEq]
          have hmk : m.take k = m := List.take_of_length_le (by omega)
          rw [hmk, hE] at ho
          refine loopA (ι := Nat) (fun j => [(1, .int .i64 n), (9, .msl (S.length + (G.length + 1)) (v + j) 0 (o ++ List.replicate j 0).length)])
            (fun j => S ++ (G ++ (⟨1, some (.arr 40 2 (m.map dem))⟩ :: ⟨v + j, some (.arr 3 1 ((o ++ List.replicate j 0).map fun n => [.int .i64 n]))⟩ :: G2))) (fun j => j ≤ n - o.length) (fun j => n - o.length - j) 0 (Nat.zero_le _) ?_ (by simp) ?_
          · simp only [evSt, ↓evPre, ↓evPreV, evPost, evPostV, ← List.map_take, ← List.map_drop, ↓reduceIte, reduceCtorEq, Nat.reduceEqDiff, forall_const, implies_true, Nat.reduceAdd, Nat.reduceSub, Nat.reduceMul, Nat.reduceLT, Nat.reduceLeDiff, Int.reduceToNat, Int.reduceAdd, Int.reduceSub, Int.reduceNeg, Int.reduceMul, Int.reduceLT, Int.reduceLE, Int.reduceEq]
            simp
          · rintro j hj
            by_cases hjn : (((o ++ List.replicate j 0).length : Nat) : Int) < n
            · simp (disch := first | omega | (simp only [List.length_cons, List.length_nil, List.length_map, List.length_drop]; omega)) only [hjn, wrap_i64, evSt, ↓evPre, ↓evPreV, evPost, evPostV, ← List.map_take, ← List.map_drop, ↓reduceIte, reduceCtorEq, Nat.reduceEqDiff, forall_const, implies_true, Nat.reduceAdd, Nat.reduceSub, Nat.reduceMul, Nat.reduceLT, Nat.reduceLeDiff, Int.reduceToNat, Int.reduceAdd, Int.reduceSub, Int.reduceNeg, Int.reduceMul, Int.reduceLT, Int.reduceLE, Int.reduceEq]
              have hr : o ++ List.replicate (j + 1) 0 = o ++ List.replicate j 0 ++ [0] := by rw [List.replicate_succ', ← List.append_assoc]
              refine ⟨by unfold roomA; simp; omega, j + 1, by simp at hjn; omega, by simp at hjn; omega, by simp only [hr, List.length_append, List.length_cons, List.length_nil, Nat.zero_add, Nat.add_assoc], by simp only [hr, List.map_append, List.map_cons, List.map_nil, Nat.add_assoc]⟩
            · simp (disch := first | omega | (simp only [List.length_cons, List.length_nil, List.length_map, List.length_drop]; omega)) only [hjn, wrap_i64, evSt, ↓evPre, ↓evPreV, evPost, evPostV, ← List.map_take, ← List.map_drop, ↓reduceIte, reduceCtorEq, Nat.reduceEqDiff, forall_const, implies_true, Nat.reduceAdd, Nat.reduceSub, Nat.reduceMul, Nat.reduceLT, Nat.reduceLeDiff, Int.reduceToNat, Int.reduceAdd, Int.reduceSub, Int.reduceNeg, Int.reduceMul, Int.reduceLT, Int.reduceLE, Int.reduceEq]
              refine ⟨_, ⟨_, rfl⟩, .tup2 (.sl (t := 3) (rows := (o ++ List.replicate j 0).map fun n => [.int .i64 n]) (by omega) (by simp only [evSt]) (by simp) (rowsImm _)) (.imm rfl), ?_⟩
              have hp : padF (sortedE l) n = o ++ List.replicate j 0 := by
                rw [padF, Int.toNat_natCast, List.take_append, ← ho, List.take_replicate]
                congr 2
                simp at hjn
                rw [ho, List.length_take] at hj hjn
                omega
              rw [curveV, hF, hp, iSl]
end Go.Proofs.Ytoidchljifelgaa
