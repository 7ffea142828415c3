/- How many claims can be fulfilled together: the walk of the reference, and the law. -/
import Derived.Test.YteeenlgoildmiaaDoorSeat15
namespace Go.Proofs.YteeenlgoildmiaaDoor
open Go Go.AL
set_option linter.unusedSimpArgs false
set_option linter.unusedVariables false

theorem mostF_len {se : List Sea} (r : List Clm) (t : List Bool) : mostF se r t ≤ r.length := by
  obtain ⟨y, h1, h2⟩ := most_le (se := se) r t
  have := (pa_at _ _ _ h1).1
  rw [← h2, ← this]
  exact List.length_filter_le _ _
theorem range_at {L k : Nat} (h : k < L) : (List.range L).drop k = k :: (List.range L).drop (k + 1) := by
  rw [List.drop_eq_getElem_cons (by simpa using h), List.getElem_range]
theorem set_back {t : List Bool} {k : Nat} (h : t[k]? = some false) : (t.set k true).set k false = t := by
  rw [List.set_set]
  obtain ⟨h1, h2⟩ := List.getElem?_eq_some_iff.1 h
  rw [← h2]
  exact List.set_getElem_self h1
def tkS (S : Store) (t : List Bool) : Store := S ++ [⟨0, some (.arr 4 1 (t.map bR))⟩]
theorem maxI (a b : Nat) : (if (a : Int) < (b : Int) then (b : Int) else (a : Int)) = ((max a b : Nat) : Int) := by
  split <;> omega

theorem rmost_A (se : List Sea) (cl : List Clm) (S : Store) (hL : se.length ≤ 1000000) (hC : cl.length ≤ 1000) : ∀ (r : List Clm) (k : Nat) (t : List Bool), cl.drop k = r → k ≤ cl.length → t.length = se.length →
    CallA Tryd.prog 34 [seSl se, clSl cl, .int .i64 k, .msl S.length 0 0 se.length] (tkS S t) fun q S' => q = .int .i64 (mostF se r t : Nat) ∧ S' = tkS S t
  | [], k, t, hd, hk, ht => by
    have e : k = cl.length := by
      have := List.drop_eq_nil_iff.1 hd
      omega
    subst e
    refine CallA.keep Tryd.func34 c34 (Nat.le_of_ble_eq_true rfl) fun σ hσ => ?_
    simp (disch := first | omega | (simp only [List.length_cons, List.length_nil, List.length_map, List.length_drop]; omega)) only [a34, seSl, clSl, List.length_map, eq_self, decide_true, evSt, ↓evPre, ↓evPreW, evPost, evPostW, ← List.map_take, ← List.map_drop, ↓reduceIte, reduceCtorEq, Nat.reduceEqDiff, forall_const, implies_true, Nat.reduceAdd, Nat.reduceSub, Nat.reduceMul, Nat.reduceLT, Nat.reduceLeDiff, Int.reduceToNat, Int.reduceAdd, Int.reduceSub, Int.reduceNeg, Int.reduceMul, Int.reduceLT, Int.reduceLE, Int.reduceEq]
    rw [mostF]; rfl
  | c :: r, k, t, hd, hk, ht => by
    have hkl : k < cl.length := by
      refine Decidable.byContradiction fun hn => ?_
      rw [List.drop_eq_nil_of_le (by omega)] at hd
      cases hd
    have hck : cl[k]? = some c := by
      have := congrArg (fun l => l[0]?) hd
      simpa using this
    have hdr : cl.drop (k + 1) = r := by
      have := congrArg (List.drop 1) hd
      simpa [List.drop_drop, Nat.add_comm] using this
    have hne : ¬ (k : Int) = cl.length := by omega
    have hlen := mostF_len (se := se) (c :: r) t
    have hrl : r.length ≤ 1000 := by rw [← hdr, List.length_drop]; omega
    simp only [List.length_cons] at hlen
    refine CallA.keep Tryd.func34 c34 (Nat.le_of_ble_eq_true rfl) fun σ hσ => ?_
    simp (disch := first | omega | (simp only [List.length_cons, List.length_nil, List.length_map, List.length_drop]; omega)) only [a34, seSl, clSl, hne, wrap_i64, List.length_map, decide_false, evSt, ↓evPre, ↓evPreW, evPost, evPostW, ← List.map_take, ← List.map_drop, ↓reduceIte, reduceCtorEq, Nat.reduceEqDiff, forall_const, implies_true, Nat.reduceAdd, Nat.reduceSub, Nat.reduceMul, Nat.reduceLT, Nat.reduceLeDiff, Int.reduceToNat, Int.reduceAdd, Int.reduceSub, Int.reduceNeg, Int.reduceMul, Int.reduceLT, Int.reduceLE, Int.reduceEq]
    refine (rmost_A se cl S hL hC r (k + 1) t hdr (by omega) ht).mono ?_
    rintro _ _ ⟨rfl, rfl⟩
    simp (disch := first | omega | (simp only [List.length_cons, List.length_nil, List.length_map, List.length_drop]; omega)) only [seSl, clSl, List.length_map, evSt, ↓evPre, ↓evPreW, evPost, evPostW, ← List.map_take, ← List.map_drop, ↓reduceIte, reduceCtorEq, Nat.reduceEqDiff, forall_const, implies_true, Nat.reduceAdd, Nat.reduceSub, Nat.reduceMul, Nat.reduceLT, Nat.reduceLeDiff, Int.reduceToNat, Int.reduceAdd, Int.reduceSub, Int.reduceNeg, Int.reduceMul, Int.reduceLT, Int.reduceLE, Int.reduceEq]
    refine loopA (ι := Nat × Nat) (fun p => [(0, seSl se), (1, clSl cl), (2, .int .i64 k), (3, .msl S.length 0 0 se.length), (9, .int .i64 p.2), (10, .int .i64 p.1)]) (fun _ => tkS S t)
      (fun p => p.1 ≤ se.length ∧ ((List.range se.length).drop p.1).foldl (stepM se c (mostF se r) t) p.2 = mostF se (c :: r) t) (fun p => se.length - p.1) (0, mostF se r t) ⟨Nat.zero_le _, rfl⟩ ?_ rfl ?_
    · simp only [seSl, clSl, ↓evPre, ↓evPreW, evPost, evPostW, ← List.map_take, ← List.map_drop, ↓reduceIte, reduceCtorEq, Nat.reduceEqDiff, forall_const, implies_true, Nat.reduceAdd, Nat.reduceSub, Nat.reduceMul, Nat.reduceLT, Nat.reduceLeDiff, Int.reduceToNat, Int.reduceAdd, Int.reduceSub, Int.reduceNeg, Int.reduceMul, Int.reduceLT, Int.reduceLE, Int.reduceEq]
    · rintro ⟨j, n⟩ ⟨hj, hf⟩
      simp only at hj hf ⊢
      by_cases hjl : j < se.length
      · have hlt : (j : Int) < se.length := by omega
        rw [range_at hjl, List.foldl_cons] at hf
        have hn : n ≤ mostF se (c :: r) t := by rw [← hf]; exact Nat.le_trans (stepM_le _ _) (fold_max stepM_le _ _)
        have htj : t[j]? = some (t.getD j true) := by rw [List.getD_eq_getElem?_getD, List.getElem?_eq_getElem (by omega)]; rfl
        have hx : se[j]? = some se[j] := List.getElem?_eq_getElem hjl
        have hfi : fitsI se j c = fitsF se[j] c := by rw [fitsI, hx]
        generalize se[j] = x at hx hfi
        have next : ∀ n', stepM se c (mostF se r) t n j = n' → ∃ i' : Nat × Nat, (i'.1 ≤ se.length ∧ ((List.range se.length).drop i'.1).foldl (stepM se c (mostF se r) t) i'.2 = mostF se (c :: r) t) ∧ se.length - i'.1 < se.length - j ∧ n' = i'.2 ∧ (j : Int) + 1 = i'.1 := fun n' h =>
          ⟨(j + 1, n'), ⟨by simp only; omega, by simp only; rw [← h]; exact hf⟩, by simp only; omega, rfl, rfl⟩
        cases hb : t.getD j true with
        | true =>
          rw [hb] at htj
          simp (disch := first | omega | (simp only [List.length_cons, List.length_nil, List.length_map, List.length_drop]; omega)) only [tkS, seSl, clSl, bR, hlt, htj, wrap_i64, List.length_map, decide_true, List.getElem?_map, Option.map_some, evSt, ↓evPre, ↓evPreW, evPost, evPostW, ← List.map_take, ← List.map_drop, ↓reduceIte, reduceCtorEq, Nat.reduceEqDiff, forall_const, implies_true, Nat.reduceAdd, Nat.reduceSub, Nat.reduceMul, Nat.reduceLT, Nat.reduceLeDiff, Int.reduceToNat, Int.reduceAdd, Int.reduceSub, Int.reduceNeg, Int.reduceMul, Int.reduceLT, Int.reduceLE, Int.reduceEq]
          obtain ⟨i', h1, h2, h3, h4⟩ := next n (by unfold stepM; rw [hb]; rfl)
          exact ⟨i', h1, h2, by omega, h4⟩
        | false =>
          rw [hb] at htj
          simp (disch := first | omega | (simp only [List.length_cons, List.length_nil, List.length_map, List.length_drop]; omega)) only [tkS, seSl, clSl, seaR, clmR, bR, hlt, htj, hx, hck, wrap_i64, List.length_map, decide_true, List.getElem?_map, Option.map_some, List.take_succ_cons, List.take_zero, evSt, ↓evPre, ↓evPreW, evPost, evPostW, ← List.map_take, ← List.map_drop, ↓reduceIte, reduceCtorEq, Nat.reduceEqDiff, forall_const, implies_true, Nat.reduceAdd, Nat.reduceSub, Nat.reduceMul, Nat.reduceLT, Nat.reduceLeDiff, Int.reduceToNat, Int.reduceAdd, Int.reduceSub, Int.reduceNeg, Int.reduceMul, Int.reduceLT, Int.reduceLE, Int.reduceEq]
          refine (rfits_A x c _).then ?_
          cases hfx : fitsF x c with
          | false =>
            simp (disch := first | omega | (simp only [List.length_cons, List.length_nil, List.length_map, List.length_drop]; omega)) only [tkS, seSl, clSl, bR, hlt, htj, wrap_i64, List.length_map, decide_true, List.getElem?_map, Option.map_some, evSt, ↓evPre, ↓evPreW, evPost, evPostW, ← List.map_take, ← List.map_drop, ↓reduceIte, reduceCtorEq, Nat.reduceEqDiff, forall_const, implies_true, Nat.reduceAdd, Nat.reduceSub, Nat.reduceMul, Nat.reduceLT, Nat.reduceLeDiff, Int.reduceToNat, Int.reduceAdd, Int.reduceSub, Int.reduceNeg, Int.reduceMul, Int.reduceLT, Int.reduceLE, Int.reduceEq]
            obtain ⟨i', h1, h2, h3, h4⟩ := next n (by unfold stepM; rw [hb, hfi, hfx]; rfl)
            exact ⟨i', h1, h2, by omega, h4⟩
          | true =>
            have hrec := rmost_A se cl S hL hC r (k + 1) (t.set j true) hdr (by omega) (by simp [ht])
            have hrl2 := mostF_len (se := se) r (t.set j true)
            simp only [tkS] at hrec
            simp (disch := first | omega | (simp only [List.length_cons, List.length_nil, List.length_map, List.length_drop]; omega)) only [tkS, seSl, clSl, bR, hlt, htj, set_bR, wrap_i64, List.length_map, decide_true, List.getElem?_map, Option.map_some, Nat.zero_add, evSt, ↓evPre, ↓evPreW, evPost, evPostW, ← List.map_take, ← List.map_drop, ↓reduceIte, reduceCtorEq, Nat.reduceEqDiff, forall_const, implies_true, Nat.reduceAdd, Nat.reduceSub, Nat.reduceMul, Nat.reduceLT, Nat.reduceLeDiff, Int.reduceToNat, Int.reduceAdd, Int.reduceSub, Int.reduceNeg, Int.reduceMul, Int.reduceLT, Int.reduceLE, Int.reduceEq]
            refine hrec.mono ?_
            rintro _ _ ⟨rfl, rfl⟩
            have hts : (t.set j true)[j]? = some true := by rw [List.getElem?_set]; simp; omega
            have hmx : (1 : Int) + (mostF se r (t.set j true) : Nat) = ((1 + mostF se r (t.set j true) : Nat) : Int) := by omega
            simp (disch := first | omega | (simp only [List.length_cons, List.length_nil, List.length_map, List.length_drop]; omega)) only [tkS, seSl, clSl, bR, hlt, hts, set_bR, set_back htj, hmx, maxI, gt_iff_lt, wrap_i64, List.length_map, decide_true, List.getElem?_map, Option.map_some, Nat.zero_add, evSt, ↓evPre, ↓evPreW, evPost, evPostW, ← List.map_take, ← List.map_drop, ↓reduceIte, reduceCtorEq, Nat.reduceEqDiff, forall_const, implies_true, Nat.reduceAdd, Nat.reduceSub, Nat.reduceMul, Nat.reduceLT, Nat.reduceLeDiff, Int.reduceToNat, Int.reduceAdd, Int.reduceSub, Int.reduceNeg, Int.reduceMul, Int.reduceLT, Int.reduceLE, Int.reduceEq]
            obtain ⟨i', h1, h2, h3, h4⟩ := next (max n (1 + mostF se r (t.set j true))) (by unfold stepM; rw [hb, hfi, hfx]; rfl)
            exact ⟨i', h1, h2, by omega, h4⟩
      · have hlt : ¬ (j : Int) < se.length := by omega
        have e : j = se.length := by omega
        rw [e, List.drop_eq_nil_of_le (by simp), List.foldl_nil] at hf
        simp (disch := first | omega | (simp only [List.length_cons, List.length_nil, List.length_map, List.length_drop]; omega)) only [tkS, seSl, clSl, hlt, List.length_map, decide_false, evSt, ↓evPre, ↓evPreW, evPost, evPostW, ← List.map_take, ← List.map_drop, ↓reduceIte, reduceCtorEq, Nat.reduceEqDiff, forall_const, implies_true, Nat.reduceAdd, Nat.reduceSub, Nat.reduceMul, Nat.reduceLT, Nat.reduceLeDiff, Int.reduceToNat, Int.reduceAdd, Int.reduceSub, Int.reduceNeg, Int.reduceMul, Int.reduceLT, Int.reduceLE, Int.reduceEq]
        rw [hf]

theorem refmost_A (se : List Sea) (cl : List Clm) (S : Store) (hL : se.length ≤ 1000000) (hC : cl.length ≤ 1000) : CallA Tryd.prog 17 [seSl se, clSl cl] S fun q S' => q = .int .i64 (cntF (assignF se cl) : Nat) ∧ S' = S := by
  refine CallA.withNeat Tryd.func17 c17 fun hn => ?_
  refine CallA.fin Tryd.func17 c17 (Nat.le_of_ble_eq_true rfl) fun σ hσ => ?_
  have h := rmost_A se cl S hL hC cl 0 (List.replicate se.length false) rfl (Nat.zero_le _) (by simp)
  have hzr : zrows [V.bool false] se.length = (List.replicate se.length false).map bR := by simp [zrows, bR]
  rw [most_is] at h
  simp only [tkS] at h
  simp (disch := first | omega | (simp only [List.length_cons, List.length_nil, List.length_map, List.length_drop]; omega)) only [a17, seSl, clSl, hzr, List.length_map, Int.toNat_natCast, evSt, ↓evPre, ↓evPreW, evPost, evPostW, ← List.map_take, ← List.map_drop, ↓reduceIte, reduceCtorEq, Nat.reduceEqDiff, forall_const, implies_true, Nat.reduceAdd, Nat.reduceSub, Nat.reduceMul, Nat.reduceLT, Nat.reduceLeDiff, Int.reduceToNat, Int.reduceAdd, Int.reduceSub, Int.reduceNeg, Int.reduceMul, Int.reduceLT, Int.reduceLE, Int.reduceEq]
  refine ⟨Int.le_refl _, by unfold roomA; omega, ?_⟩
  refine h.mono ?_
  rintro _ _ ⟨rfl, rfl⟩
  simp (disch := first | omega | (simp only [List.length_cons, List.length_nil, List.length_map, List.length_drop]; omega)) only [evSt, ↓evPre, ↓evPreW, evPost, evPostW, ← List.map_take, ← List.map_drop, ↓reduceIte, reduceCtorEq, Nat.reduceEqDiff, forall_const, implies_true, Nat.reduceAdd, Nat.reduceSub, Nat.reduceMul, Nat.reduceLT, Nat.reduceLeDiff, Int.reduceToNat, Int.reduceAdd, Int.reduceSub, Int.reduceNeg, Int.reduceMul, Int.reduceLT, Int.reduceLE, Int.reduceEq]
  exact ⟨_, S, hn.fgt _, .imm rfl, Nat.le_refl _, rfl, rfl⟩

theorem law_most (se : List Sea) (cl : List Clm) (S : Store) (h1 : se.length ≤ 1048576) (h2 : cl.length ≤ 1048576) : CallA Tryd.prog 6 [seSl se, clSl cl] S fun r S' => r = .bool true ∧ S' = S := by
  refine CallA.keep Tryd.func6 c6 (Nat.le_of_ble_eq_true rfl) fun σ hσ => ?_
  by_cases g1 : 6 < se.length
  · have g1' : (6 : Int) < se.length := by omega
    simp (disch := first | omega | (simp only [List.length_cons, List.length_nil, List.length_map, List.length_drop]; omega)) only [a6, seSl, clSl, g1', List.length_map, decide_true, decide_false, ↓evPre, ↓evPreW, evPost, evPostW, ← List.map_take, ← List.map_drop, ↓reduceIte, reduceCtorEq, Nat.reduceEqDiff, forall_const, implies_true, Nat.reduceAdd, Nat.reduceSub, Nat.reduceMul, Nat.reduceLT, Nat.reduceLeDiff, Int.reduceToNat, Int.reduceAdd, Int.reduceSub, Int.reduceNeg, Int.reduceMul, Int.reduceLT, Int.reduceLE, Int.reduceEq]
    refine (knows_A S).then ?_
    simp only [↓evPre, ↓evPreW, evPost, evPostW, ← List.map_take, ← List.map_drop, ↓reduceIte, reduceCtorEq, Nat.reduceEqDiff, forall_const, implies_true, Nat.reduceAdd, Nat.reduceSub, Nat.reduceMul, Nat.reduceLT, Nat.reduceLeDiff, Int.reduceToNat, Int.reduceAdd, Int.reduceSub, Int.reduceNeg, Int.reduceMul, Int.reduceLT, Int.reduceLE, Int.reduceEq]
  have g1' : ¬ (6 : Int) < se.length := by omega
  by_cases g2 : 6 < cl.length
  · have g2' : (6 : Int) < cl.length := by omega
    simp (disch := first | omega | (simp only [List.length_cons, List.length_nil, List.length_map, List.length_drop]; omega)) only [a6, seSl, clSl, g1', g2', List.length_map, decide_true, decide_false, ↓evPre, ↓evPreW, evPost, evPostW, ← List.map_take, ← List.map_drop, ↓reduceIte, reduceCtorEq, Nat.reduceEqDiff, forall_const, implies_true, Nat.reduceAdd, Nat.reduceSub, Nat.reduceMul, Nat.reduceLT, Nat.reduceLeDiff, Int.reduceToNat, Int.reduceAdd, Int.reduceSub, Int.reduceNeg, Int.reduceMul, Int.reduceLT, Int.reduceLE, Int.reduceEq]
    refine (knows_A S).then ?_
    simp only [↓evPre, ↓evPreW, evPost, evPostW, ← List.map_take, ← List.map_drop, ↓reduceIte, reduceCtorEq, Nat.reduceEqDiff, forall_const, implies_true, Nat.reduceAdd, Nat.reduceSub, Nat.reduceMul, Nat.reduceLT, Nat.reduceLeDiff, Int.reduceToNat, Int.reduceAdd, Int.reduceSub, Int.reduceNeg, Int.reduceMul, Int.reduceLT, Int.reduceLE, Int.reduceEq]
  have g2' : ¬ (6 : Int) < cl.length := by omega
  simp (disch := first | omega | (simp only [List.length_cons, List.length_nil, List.length_map, List.length_drop]; omega)) only [a6, seSl, clSl, g1', g2', List.length_map, decide_true, decide_false, ↓evPre, ↓evPreW, evPost, evPostW, ← List.map_take, ← List.map_drop, ↓reduceIte, reduceCtorEq, Nat.reduceEqDiff, forall_const, implies_true, Nat.reduceAdd, Nat.reduceSub, Nat.reduceMul, Nat.reduceLT, Nat.reduceLeDiff, Int.reduceToNat, Int.reduceAdd, Int.reduceSub, Int.reduceNeg, Int.reduceMul, Int.reduceLT, Int.reduceLE, Int.reduceEq]
  refine CallA.then (most_A se cl S (by omega) (by omega)) ?_
  simp (disch := first | omega | (simp only [List.length_cons, List.length_nil, List.length_map, List.length_drop]; omega)) only [seSl, clSl, ↓evPre, ↓evPreW, evPost, evPostW, ← List.map_take, ← List.map_drop, ↓reduceIte, reduceCtorEq, Nat.reduceEqDiff, forall_const, implies_true, Nat.reduceAdd, Nat.reduceSub, Nat.reduceMul, Nat.reduceLT, Nat.reduceLeDiff, Int.reduceToNat, Int.reduceAdd, Int.reduceSub, Int.reduceNeg, Int.reduceMul, Int.reduceLT, Int.reduceLE, Int.reduceEq]
  refine CallA.then (refmost_A se cl S (by omega) (by omega)) ?_
  simp (disch := first | omega | (simp only [List.length_cons, List.length_nil, List.length_map, List.length_drop]; omega)) only [eq_self, decide_true, ↓evPre, ↓evPreW, evPost, evPostW, ← List.map_take, ← List.map_drop, ↓reduceIte, reduceCtorEq, Nat.reduceEqDiff, forall_const, implies_true, Nat.reduceAdd, Nat.reduceSub, Nat.reduceMul, Nat.reduceLT, Nat.reduceLeDiff, Int.reduceToNat, Int.reduceAdd, Int.reduceSub, Int.reduceNeg, Int.reduceMul, Int.reduceLT, Int.reduceLE, Int.reduceEq]
  refine (knows_A S).then ?_
  simp only [↓evPre, ↓evPreW, evPost, evPostW, ← List.map_take, ← List.map_drop, ↓reduceIte, reduceCtorEq, Nat.reduceEqDiff, forall_const, implies_true, Nat.reduceAdd, Nat.reduceSub, Nat.reduceMul, Nat.reduceLT, Nat.reduceLeDiff, Int.reduceToNat, Int.reduceAdd, Int.reduceSub, Int.reduceNeg, Int.reduceMul, Int.reduceLT, Int.reduceLE, Int.reduceEq]
end Go.Proofs.YteeenlgoildmiaaDoor
