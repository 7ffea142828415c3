/- The walk of the reference's Curve. -/
import Derived.Test.YtoidchljifelgaaBid17
namespace Go.Proofs.Ytoidchljifelgaa
open Go Go.AL
set_option linter.unusedSimpArgs false
set_option maxHeartbeats 4000000

def ints (l : List Int) : List (List V) := l.map fun n => [.int .i64 n]
theorem ints_get (l : List Int) (i : Nat) : (ints l)[i]? = l[i]?.map fun n => [.int .i64 n] := by simp [ints]
theorem ints_len (l : List Int) : (ints l).length = l.length := by simp [ints]
theorem ints_snoc (l : List Int) (x : Int) : ints l ++ [[.int .i64 x]] = ints (l ++ [x]) := by simp [ints]
theorem ints_set (l : List Int) (i : Nat) (x : Int) : (ints l).set i [.int .i64 x] = ints (l.set i x) := by simp [ints]

theorem badF_zero : ∀ {l : List (Int × Int)}, badF l = 0 → ∀ d ∈ l, 0 ≤ d.1 ∧ d.1 ≤ 1099511627776 ∧ 0 ≤ d.2
  | [], _, d, hd => by simp at hd
  | x :: l, h, d, hd => by
    rw [badF] at h
    split at h
    · cases h
    · split at h
      · cases h
      · rcases List.mem_cons.1 hd with rfl | hd
        · omega
        · exact badF_zero h d hd

theorem refcurve_A (l : List (Int × Int)) (seats : Int) (S : Store) (hl : l.length ≤ 1073741824) (hr : ∀ d ∈ l, -9223372036854775808 ≤ d.2 ∧ d.2 ≤ 9223372036854775807) : CallA Try.prog 10 [demSl l, .int .i64 seats] S fun r S' => r = curveV l seats ∧ S' = S := by
  refine CallA.back Try.func10 c10 (Nat.le_of_ble_eq_true rfl) fun σ hσ hn => ?_
  have fin : ∀ (e : Int) (T : Store), curveF l seats = ([], e) → ∃ r1, (∃ T', S ++ T = S ++ T') ∧ Frz (S ++ T) S (.tup [.nilSl, .int .i64 e]) r1 ∧ r1 = curveV l seats := fun e T h =>
    ⟨_, ⟨T, rfl⟩, .tup2 .nil (.imm rfl), by rw [curveV, h]; rfl⟩
  by_cases h1 : seats < 0
  · have := fin 2 [] (by rw [curveF, if_pos (.inl h1)])
    simp only [a10, demSl, h1, evSt, ↓evPre, ↓evPreW, evPost, evPostW, ← List.map_take, ← List.map_drop, ↓reduceIte, reduceCtorEq, Nat.reduceEqDiff, forall_const, implies_true, Nat.reduceAdd, Nat.reduceSub, Nat.reduceMul, Nat.reduceLT, Nat.reduceLeDiff, Int.reduceToNat, Int.reduceAdd, Int.reduceSub, Int.reduceNeg, Int.reduceMul, Int.reduceLT, Int.reduceLE, Int.reduceEq]
    simpa using this
  by_cases h2 : 999 < seats
  · have := fin 2 [] (by rw [curveF, if_pos (.inr h2)])
    simp only [a10, demSl, h1, h2, evSt, ↓evPre, ↓evPreW, evPost, evPostW, ← List.map_take, ← List.map_drop, ↓reduceIte, reduceCtorEq, Nat.reduceEqDiff, forall_const, implies_true, Nat.reduceAdd, Nat.reduceSub, Nat.reduceMul, Nat.reduceLT, Nat.reduceLeDiff, Int.reduceToNat, Int.reduceAdd, Int.reduceSub, Int.reduceNeg, Int.reduceMul, Int.reduceLT, Int.reduceLE, Int.reduceEq]
    simpa using this
  simp only [a10, demSl, h1, h2, evSt, ↓evPre, ↓evPreW, evPost, evPostW, ← List.map_take, ← List.map_drop, ↓reduceIte, reduceCtorEq, Nat.reduceEqDiff, forall_const, implies_true, Nat.reduceAdd, Nat.reduceSub, Nat.reduceMul, Nat.reduceLT, Nat.reduceLeDiff, Int.reduceToNat, Int.reduceAdd, Int.reduceSub, Int.reduceNeg, Int.reduceMul, Int.reduceLT, Int.reduceLE, Int.reduceEq]
  refine LoopA.ghost 6 0 3 1 (by simp only [↓evPre, ↓evPreW, evPost, evPostW, ← List.map_take, ← List.map_drop, ↓reduceIte, reduceCtorEq, Nat.reduceEqDiff, forall_const, implies_true, Nat.reduceAdd, Nat.reduceSub, Nat.reduceMul, Nat.reduceLT, Nat.reduceLeDiff, Int.reduceToNat, Int.reduceAdd, Int.reduceSub, Int.reduceNeg, Int.reduceMul, Int.reduceLT, Int.reduceLE, Int.reduceEq]) ?_
  refine loopA (ι := Nat) (fun k => [(0, demSl l), (1, .int .i64 seats), (6, .msl S.length k 0 k), (7, .int .i64 k)]) (fun k => S ++ [⟨k, some (.arr 3 1 (ints ((l.take k).map (·.2))))⟩]) (fun k => k ≤ l.length ∧ badF (l.drop k) = badF l) (fun k => l.length - k) 0 ⟨Nat.zero_le _, rfl⟩ ?_ (by simp [ints]) ?_
  · simp only [demSl, ↓evPre, ↓evPreW, evPost, evPostW, ← List.map_take, ← List.map_drop, ↓reduceIte, reduceCtorEq, Nat.reduceEqDiff, forall_const, implies_true, Nat.reduceAdd, Nat.reduceSub, Nat.reduceMul, Nat.reduceLT, Nat.reduceLeDiff, Int.reduceToNat, Int.reduceAdd, Int.reduceSub, Int.reduceNeg, Int.reduceMul, Int.reduceLT, Int.reduceLE, Int.reduceEq]
  · rintro k ⟨hk, hinv⟩
    have htl : (ints ((l.take k).map (·.2))).length = k := by simp [ints]; omega
    cases hc : l[k]? with
    | some d =>
      have hlt : (k : Int) < l.length := by have := (List.getElem?_eq_some_iff.1 hc).1; omega
      rw [drop_get hc, badF] at hinv
      simp (disch := first | omega | (simp only [List.length_cons, List.length_nil, List.length_map, List.length_drop]; omega)) only [demSl, dem, wrap_i64, hc, hlt, htl, ldn_c, ldnR_some, evSt, ↓evPre, ↓evPreW, evPost, evPostW, ← List.map_take, ← List.map_drop, ↓reduceIte, reduceCtorEq, Nat.reduceEqDiff, forall_const, implies_true, Nat.reduceAdd, Nat.reduceSub, Nat.reduceMul, Nat.reduceLT, Nat.reduceLeDiff, Int.reduceToNat, Int.reduceAdd, Int.reduceSub, Int.reduceNeg, Int.reduceMul, Int.reduceLT, Int.reduceLE, Int.reduceEq]
      refine ⟨fun h3 => ⟨fun h4 => fin 11 _ ?_, fun h4 => ⟨fun h5 => fin 2 _ ?_, fun h5 => ⟨by unfold roomA; omega, k + 1, ⟨by omega, ?_⟩, by omega, ⟨by simp, rfl⟩, ?_⟩⟩⟩, fun h3 => fin 11 _ ?_⟩
      · rw [curveF, if_neg (by omega), if_pos (by rw [← hinv, if_pos (.inr h4)]; decide), ← hinv, if_pos (.inr h4)]
      · rw [curveF, if_neg (by omega), if_pos (by rw [← hinv, if_neg (by omega), if_pos h5]; decide), ← hinv, if_neg (by omega), if_pos h5]
      · rw [← hinv, if_neg (by omega), if_neg (by omega)]
      · have ht : l.take (k + 1) = l.take k ++ [d] := by rw [List.take_add_one, hc]; rfl
        rw [ht, List.map_append, ints_snoc]; rfl
      · rw [curveF, if_neg (by omega), if_pos (by rw [← hinv, if_pos (.inl h3)]; decide), ← hinv, if_pos (.inl h3)]
    | none =>
      have hlt : ¬ ((k : Int) < l.length) := by rw [List.getElem?_eq_none_iff] at hc; omega
      have hkl : k = l.length := by omega
      subst hkl
      rw [List.drop_eq_nil_of_le (Nat.le_refl _), badF] at hinv
      have hF : curveF l seats = (padF (sortedE l) seats, 0) := by rw [curveF, if_neg (by omega), if_neg (by rw [← hinv]; decide)]
      have hpos := badF_zero hinv.symm
      rw [List.take_of_length_le (Nat.le_refl _)]
      simp (disch := first | omega | (simp only [List.length_cons, List.length_nil, List.length_map, List.length_drop]; omega)) only [demSl, wrap_i64, hc, hlt, evSt, ↓evPre, ↓evPreW, evPost, evPostW, ← List.map_take, ← List.map_drop, ↓reduceIte, reduceCtorEq, Nat.reduceEqDiff, forall_const, implies_true, Nat.reduceAdd, Nat.reduceSub, Nat.reduceMul, Nat.reduceLT, Nat.reduceLeDiff, Int.reduceToNat, Int.reduceAdd, Int.reduceSub, Int.reduceNeg, Int.reduceMul, Int.reduceLT, Int.reduceLE, Int.reduceEq]
      refine LoopA.ghost 8 0 3 1 (by simp only [↓evPre, ↓evPreW, evPost, evPostW, ← List.map_take, ← List.map_drop, ↓reduceIte, reduceCtorEq, Nat.reduceEqDiff, forall_const, implies_true, Nat.reduceAdd, Nat.reduceSub, Nat.reduceMul, Nat.reduceLT, Nat.reduceLeDiff, Int.reduceToNat, Int.reduceAdd, Int.reduceSub, Int.reduceNeg, Int.reduceMul, Int.reduceLT, Int.reduceLE, Int.reduceEq]) ?_
      rw [ap_app, le_app]
      refine loopA (ι := List Int × List Int) (fun i => [(0, demSl l), (1, .int .i64 seats), (6, .msl S.length l.length 0 l.length), (8, .msl (S.length + 1) i.2.length 0 i.2.length)]) (fun i => S ++ [⟨l.length, some (.arr 3 1 (ints i.1))⟩, ⟨i.2.length, some (.arr 3 1 (ints i.2))⟩])
        (fun i => i.1.length = l.length ∧ (∀ x ∈ i.1, 0 ≤ x ∧ x ≤ 9223372036854775807) ∧ (i.2.length : Int) ≤ seats ∧ padF (i.2 ++ sortedE (cur l i.1)) seats = padF (sortedE l) seats) (fun i => seats.toNat - i.2.length) (l.map (·.2), []) ⟨by simp, fun x hx => by
          obtain ⟨d, hd, rfl⟩ := List.mem_map.1 hx
          have := hpos d hd
          have := hr d hd
          omega, by simp only [List.length_nil]; omega, by rw [cur_full]; rfl⟩ ?_ (by simp [ints]) ?_
      · simp only [demSl, evSt, ↓evPre, ↓evPreW, evPost, evPostW, ← List.map_take, ← List.map_drop, ↓reduceIte, reduceCtorEq, Nat.reduceEqDiff, forall_const, implies_true, Nat.reduceAdd, Nat.reduceSub, Nat.reduceMul, Nat.reduceLT, Nat.reduceLeDiff, Int.reduceToNat, Int.reduceAdd, Int.reduceSub, Int.reduceNeg, Int.reduceMul, Int.reduceLT, Int.reduceLE, Int.reduceEq]
      · rintro ⟨c, o⟩ ⟨g1, g2, g3, g4⟩
        simp only at g1 g2 g3 g4 ⊢
        by_cases g5 : (o.length : Int) < seats
        · simp (disch := first | omega | (simp only [List.length_cons, List.length_nil, List.length_map, List.length_drop]; omega)) only [demSl, wrap_i64, g5, evSt, ↓evPre, ↓evPreW, evPost, evPostW, ← List.map_take, ← List.map_drop, ↓reduceIte, reduceCtorEq, Nat.reduceEqDiff, forall_const, implies_true, Nat.reduceAdd, Nat.reduceSub, Nat.reduceMul, Nat.reduceLT, Nat.reduceLeDiff, Int.reduceToNat, Int.reduceAdd, Int.reduceSub, Int.reduceNeg, Int.reduceMul, Int.reduceLT, Int.reduceLE, Int.reduceEq]
          refine loopA (ι := Nat × Int) (fun i => [(0, demSl l), (1, .int .i64 seats), (6, .msl S.length l.length 0 l.length), (8, .msl (S.length + 1) o.length 0 o.length), (9, .int .i64 i.2), (10, .int .i64 i.1)]) (fun _ => S ++ [⟨l.length, some (.arr 3 1 (ints c))⟩, ⟨o.length, some (.arr 3 1 (ints o))⟩])
            (fun i => i.1 ≤ l.length ∧ ((i.2 = -1 ∧ ∀ (k : Nat) (x : Int), k < i.1 → c[k]? = some x → x ≤ 0) ∨ ∃ (b : Nat) (n : Int) (d : Int × Int), i.2 = b ∧ b < i.1 ∧ c[b]? = some n ∧ l[b]? = some d ∧ 0 < n ∧ ∀ (k : Nat) (y : Int) (d' : Int × Int), k < i.1 → c[k]? = some y → 0 < y → l[k]? = some d' → d'.1 ≤ d.1)) (fun i => l.length - i.1) (0, -1) ⟨Nat.zero_le _, .inl ⟨rfl, fun k x h => by simp only at h; omega⟩⟩ ?_ rfl ?_
          · simp only [demSl, evSt, ↓evPre, ↓evPreW, evPost, evPostW, ← List.map_take, ← List.map_drop, ↓reduceIte, reduceCtorEq, Nat.reduceEqDiff, forall_const, implies_true, Nat.reduceAdd, Nat.reduceSub, Nat.reduceMul, Nat.reduceLT, Nat.reduceLeDiff, Int.reduceToNat, Int.reduceAdd, Int.reduceSub, Int.reduceNeg, Int.reduceMul, Int.reduceLT, Int.reduceLE, Int.reduceEq]
          · rintro ⟨k, b⟩ ⟨h3, h4⟩
            simp only at h3 h4 ⊢
            cases hk : l[k]? with
            | some d' =>
              have hlt2 : (k : Int) < l.length := by have := (List.getElem?_eq_some_iff.1 hk).1; omega
              obtain ⟨y, hy⟩ : ∃ y, c[k]? = some y := ⟨c[k]'(by omega), List.getElem?_eq_getElem (by omega)⟩
              rcases h4 with ⟨rfl, h4⟩ | ⟨b, n, d, rfl, hb, hcb, hlb, hn0, h4⟩
              · by_cases hy0 : 0 < y
                · simp (disch := first | omega | (simp only [List.length_cons, List.length_nil, List.length_map, List.length_drop]; omega)) only [demSl, dem, wrap_i64, hk, hlt2, ints_get, hy, hy0, idxO_some, ldn_c, ldnR_some, evSt, ↓evPre, ↓evPreW, evPost, evPostW, ← List.map_take, ← List.map_drop, ↓reduceIte, reduceCtorEq, Nat.reduceEqDiff, forall_const, implies_true, Nat.reduceAdd, Nat.reduceSub, Nat.reduceMul, Nat.reduceLT, Nat.reduceLeDiff, Int.reduceToNat, Int.reduceAdd, Int.reduceSub, Int.reduceNeg, Int.reduceMul, Int.reduceLT, Int.reduceLE, Int.reduceEq]
                  refine ⟨(k + 1, k), ⟨by simp only; omega, .inr ⟨k, y, d', rfl, by simp only; omega, hy, hk, hy0, fun j z e hj hz hz0 he => ?_⟩⟩, by simp only; omega, rfl, by simp only; omega⟩
                  by_cases hjk : j = k
                  · subst hjk
                    rw [hk] at he
                    cases he
                    exact Int.le_refl _
                  · have := h4 j z (by simp only at hj; omega) hz
                    omega
                · simp (disch := first | omega | (simp only [List.length_cons, List.length_nil, List.length_map, List.length_drop]; omega)) only [demSl, dem, wrap_i64, hk, hlt2, ints_get, hy, hy0, idxO_some, ldn_c, ldnR_some, evSt, ↓evPre, ↓evPreW, evPost, evPostW, ← List.map_take, ← List.map_drop, ↓reduceIte, reduceCtorEq, Nat.reduceEqDiff, forall_const, implies_true, Nat.reduceAdd, Nat.reduceSub, Nat.reduceMul, Nat.reduceLT, Nat.reduceLeDiff, Int.reduceToNat, Int.reduceAdd, Int.reduceSub, Int.reduceNeg, Int.reduceMul, Int.reduceLT, Int.reduceLE, Int.reduceEq]
                  refine ⟨(k + 1, -1), ⟨by simp only; omega, .inl ⟨rfl, fun j z hj hz => ?_⟩⟩, by simp only; omega, rfl, by simp only; omega⟩
                  by_cases hjk : j = k
                  · subst hjk
                    rw [hy] at hz
                    cases hz
                    omega
                  · exact h4 j z (by simp only at hj; omega) hz
              · by_cases hy0 : 0 < y
                · by_cases hgt : d.1 < d'.1
                  · simp (disch := first | omega | (simp only [List.length_cons, List.length_nil, List.length_map, List.length_drop]; omega)) only [demSl, dem, wrap_i64, hk, hlt2, hlb, hgt, ints_get, hy, hy0, idxO_some, ldn_c, ldnR_some, evSt, ↓evPre, ↓evPreW, evPost, evPostW, ← List.map_take, ← List.map_drop, ↓reduceIte, reduceCtorEq, Nat.reduceEqDiff, forall_const, implies_true, Nat.reduceAdd, Nat.reduceSub, Nat.reduceMul, Nat.reduceLT, Nat.reduceLeDiff, Int.reduceToNat, Int.reduceAdd, Int.reduceSub, Int.reduceNeg, Int.reduceMul, Int.reduceLT, Int.reduceLE, Int.reduceEq]
                    refine ⟨(k + 1, k), ⟨by simp only; omega, .inr ⟨k, y, d', rfl, by simp only; omega, hy, hk, hy0, fun j z e hj hz hz0 he => ?_⟩⟩, by simp only; omega, rfl, by simp only; omega⟩
                    by_cases hjk : j = k
                    · subst hjk
                      rw [hk] at he
                      cases he
                      exact Int.le_refl _
                    · have := h4 j z e (by simp only at hj; omega) hz hz0 he
                      omega
                  · simp (disch := first | omega | (simp only [List.length_cons, List.length_nil, List.length_map, List.length_drop]; omega)) only [demSl, dem, wrap_i64, hk, hlt2, hlb, hgt, ints_get, hy, hy0, idxO_some, ldn_c, ldnR_some, evSt, ↓evPre, ↓evPreW, evPost, evPostW, ← List.map_take, ← List.map_drop, ↓reduceIte, reduceCtorEq, Nat.reduceEqDiff, forall_const, implies_true, Nat.reduceAdd, Nat.reduceSub, Nat.reduceMul, Nat.reduceLT, Nat.reduceLeDiff, Int.reduceToNat, Int.reduceAdd, Int.reduceSub, Int.reduceNeg, Int.reduceMul, Int.reduceLT, Int.reduceLE, Int.reduceEq]
                    refine ⟨(k + 1, b), ⟨by simp only; omega, .inr ⟨b, n, d, rfl, by simp only; omega, hcb, hlb, hn0, fun j z e hj hz hz0 he => ?_⟩⟩, by simp only; omega, rfl, by simp only; omega⟩
                    by_cases hjk : j = k
                    · subst hjk
                      rw [hk] at he
                      cases he
                      omega
                    · exact h4 j z e (by simp only at hj; omega) hz hz0 he
                · simp (disch := first | omega | (simp only [List.length_cons, List.length_nil, List.length_map, List.length_drop]; omega)) only [demSl, dem, wrap_i64, hk, hlt2, hlb, ints_get, hy, hy0, idxO_some, ldn_c, ldnR_some, evSt, ↓evPre, ↓evPreW, evPost, evPostW, ← List.map_take, ← List.map_drop, ↓reduceIte, reduceCtorEq, Nat.reduceEqDiff, forall_const, implies_true, Nat.reduceAdd, Nat.reduceSub, Nat.reduceMul, Nat.reduceLT, Nat.reduceLeDiff, Int.reduceToNat, Int.reduceAdd, Int.reduceSub, Int.reduceNeg, Int.reduceMul, Int.reduceLT, Int.reduceLE, Int.reduceEq]
                  refine ⟨(k + 1, b), ⟨by simp only; omega, .inr ⟨b, n, d, rfl, by simp only; omega, hcb, hlb, hn0, fun j z e hj hz hz0 he => ?_⟩⟩, by simp only; omega, rfl, by simp only; omega⟩
                  by_cases hjk : j = k
                  · subst hjk
                    rw [hy] at hz
                    cases hz
                    omega
                  · exact h4 j z e (by simp only at hj; omega) hz hz0 he
            | none =>
              have hlt2 : ¬ (k : Int) < l.length := by rw [List.getElem?_eq_none_iff] at hk; omega
              rcases h4 with ⟨rfl, h4⟩ | ⟨b, n, d, rfl, hb, hcb, hlb, hn0, h4⟩
              · simp (disch := first | omega | (simp only [List.length_cons, List.length_nil, List.length_map, List.length_drop]; omega)) only [demSl, dem, wrap_i64, hk, hlt2, evSt, ↓evPre, ↓evPreW, evPost, evPostW, ← List.map_take, ← List.map_drop, ↓reduceIte, reduceCtorEq, Nat.reduceEqDiff, forall_const, implies_true, Nat.reduceAdd, Nat.reduceSub, Nat.reduceMul, Nat.reduceLT, Nat.reduceLeDiff, Int.reduceToNat, Int.reduceAdd, Int.reduceSub, Int.reduceNeg, Int.reduceMul, Int.reduceLT, Int.reduceLE, Int.reduceEq]
                have hnone : sortedE (cur l c) = [] := E_none fun e he => by
                  obtain ⟨j, hj⟩ := List.getElem?_of_mem he
                  simp only [cur, List.getElem?_zipWith_eq_some] at hj
                  obtain ⟨d0, z, z1, z2, rfl⟩ := hj
                  exact h4 j z (by have := (List.getElem?_eq_some_iff.1 z1).1; rw [List.getElem?_eq_none_iff] at hk; omega) z2
                refine ⟨ints_len o, by unfold roomA; omega, (c, o ++ [0]), ⟨g1, g2, by simp; omega, ?_⟩, by simp only [List.length_append, List.length_cons, List.length_nil]; omega, by simp, ?_⟩
                · rw [hnone, List.append_nil] at g4 ⊢
                  rw [← pad_zero g5]
                  exact g4
                · rw [ints_snoc]; simp
              · have hb0 : ¬ ((b : Int) < 0) := by omega
                have hn2 := g2 n (List.mem_of_getElem? hcb)
                have hbl := (List.getElem?_eq_some_iff.1 hcb).1
                simp (disch := first | omega | (simp only [List.length_cons, List.length_nil, List.length_map, List.length_drop]; omega)) only [demSl, dem, hb0, wrap_i64, hk, hlt2, hlb, ints_get, hcb, idxO_some, ldn_c, ldnR_some, evSt, ↓evPre, ↓evPreW, evPost, evPostW, ← List.map_take, ← List.map_drop, ↓reduceIte, reduceCtorEq, Nat.reduceEqDiff, forall_const, implies_true, Nat.reduceAdd, Nat.reduceSub, Nat.reduceMul, Nat.reduceLT, Nat.reduceLeDiff, Int.reduceToNat, Int.reduceAdd, Int.reduceSub, Int.reduceNeg, Int.reduceMul, Int.reduceLT, Int.reduceLE, Int.reduceEq]
                have hm : ∀ (j : Nat) (z : Int) (e : Int × Int), c[j]? = some z → 0 < z → l[j]? = some e → e.1 ≤ d.1 := fun j z e z1 z2 z3 => h4 j z e (by have := (List.getElem?_eq_some_iff.1 z3).1; rw [List.getElem?_eq_none_iff] at hk; omega) z1 z2 z3
                have hst := cur_step g1 hlb hcb hn0 hm
                have hn1 := g2 n (List.mem_of_getElem? hcb)
                refine ⟨ints_len o, by unfold roomA; omega, (c.set b (n - 1), o ++ [d.1]), ⟨by simp [g1], fun x hx => ?_, by simp; omega, ?_⟩, by simp only [List.length_append, List.length_cons, List.length_nil]; omega, by simp, ?_⟩
                · rcases List.mem_or_eq_of_mem_set hx with hx | rfl
                  · exact g2 x hx
                  · omega
                · rw [hst] at g4
                  rw [← g4]
                  simp
                · rw [ints_snoc, ints_set]; simp
        · simp (disch := first | omega | (simp only [List.length_cons, List.length_nil, List.length_map, List.length_drop]; omega)) only [demSl, wrap_i64, g5, evSt, ↓evPre, ↓evPreW, evPost, evPostW, ← List.map_take, ← List.map_drop, ↓reduceIte, reduceCtorEq, Nat.reduceEqDiff, forall_const, implies_true, Nat.reduceAdd, Nat.reduceSub, Nat.reduceMul, Nat.reduceLT, Nat.reduceLeDiff, Int.reduceToNat, Int.reduceAdd, Int.reduceSub, Int.reduceNeg, Int.reduceMul, Int.reduceLT, Int.reduceLE, Int.reduceEq]
          refine ⟨_, ⟨_, rfl⟩, .tup2 (.sl (t := 3) (rows := ints o) (by omega) (by simp only [evSt]) (ints_len o) (rowsImm _)) (.imm rfl), ?_⟩
          rw [pad_full (by omega)] at g4
          rw [curveV, hF, ← g4]
          rfl
end Go.Proofs.Ytoidchljifelgaa
