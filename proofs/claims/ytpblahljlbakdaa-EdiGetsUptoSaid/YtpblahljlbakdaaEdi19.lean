/- The reference's Parse. -/
import Derived.Test.YtpblahljlbakdaaEdi18
namespace Go.Proofs.Ytpblahljlbakdaa
open Go Go.AL
set_option linter.unusedSimpArgs false

theorem parseF_refT {n k : Nat} {ls : List Ln} {s : Txt} (hk : k < s.length) : parseF (n + 1) ls (s.drop k) k =
    match refT s k with
    | (none, m) => (none, k + m)
    | (some els, m) => parseF n (ls ++ [⟨(s.drop k).take 3, els⟩]) (s.drop (k + m)) (k + m) := by
  obtain ⟨c, hc⟩ := get_lt (a := s) (k := k) hk
  rw [drop_cons hc, parseF, ← drop_cons hc]
  · simp only [refT]
    by_cases h3 : tagN 3 (s.drop k) < 3
    · rw [if_pos h3, if_pos h3]
    · rw [if_neg h3, if_neg h3, List.drop_drop]
      generalize mach [] none (s.drop (k + 3)) = q
      obtain ⟨e, m⟩ := q
      cases e
      · simp only [shift]
        rw [Nat.add_assoc, Nat.add_comm 3 m]
      · simp only [shift, List.drop_drop]
        rw [Nat.add_assoc, Nat.add_comm 3 m]
  · simp

theorem refT_len {s : Txt} {k : Nat} (hk : k ≤ s.length) : k + (refT s k).2 ≤ s.length := by
  have h1 := tagN_len 3 (s.drop k)
  rw [List.length_drop] at h1
  simp only [refT]
  split
  · simp only; omega
  · rename_i h3
    have h2 := mach_len _ (s.drop (k + 3)) (Nat.le_refl _) [] none
    rw [List.length_drop] at h2
    have := tagN_le 3 (s.drop k)
    simp only [shift]
    omega

theorem refT_pos {s : Txt} {k m : Nat} {els : List (List Txt)} (h : refT s k = (some els, m)) : 0 < m := by
  simp only [refT] at h
  split at h
  · cases h
  · simp only [shift, Prod.mk.injEq] at h
    omega

set_option maxRecDepth 20000 in
theorem refParse_A (s : Txt) (S : Store) : CallA Try.prog 17 [.str s] S fun r S' => r = parseV s ∧ S' = S := by
  refine CallA.back Try.func17 c17 (Nat.le_of_ble_eq_true rfl) fun σ hσ hn => ?_
  by_cases hbig : (65536 : Int) < (s.length : Int)
  · have hb : 65536 < s.length := by omega
    simp (disch := first | omega | (simp only [List.length_cons, List.length_nil, List.length_map, List.length_drop]; omega)) only [a17, hbig, decide_true, ↓evPre, ↓evPreW, evPost, evPostW, ← List.map_take, ← List.map_drop, ↓reduceIte, reduceCtorEq, Nat.reduceEqDiff, forall_const, implies_true, Nat.reduceAdd, Nat.reduceSub, Nat.reduceMul, Nat.reduceLT, Nat.reduceLeDiff, Int.reduceToNat, Int.reduceAdd, Int.reduceSub, Int.reduceNeg, Int.reduceMul, Int.reduceLT, Int.reduceLE, Int.reduceEq]
    refine ⟨parseV s, ⟨[], (List.append_nil S).symm⟩, ?_, rfl⟩
    simp only [parseV, if_pos hb]
    exact frz_tup3 .nil (.imm rfl) (.imm rfl)
  · have hb : ¬ 65536 < s.length := by omega
    simp (disch := first | omega | (simp only [List.length_cons, List.length_nil, List.length_map, List.length_drop]; omega)) only [a17, hbig, decide_false, ↓evPre, ↓evPreW, evPost, evPostW, ← List.map_take, ← List.map_drop, ↓reduceIte, reduceCtorEq, Nat.reduceEqDiff, forall_const, implies_true, Nat.reduceAdd, Nat.reduceSub, Nat.reduceMul, Nat.reduceLT, Nat.reduceLeDiff, Int.reduceToNat, Int.reduceAdd, Int.reduceSub, Int.reduceNeg, Int.reduceMul, Int.reduceLT, Int.reduceLE, Int.reduceEq]
    refine LoopA.ghost 6 0 35 2 (by simp only [↓evPre, ↓evPreW, evPost, evPostW, ← List.map_take, ← List.map_drop, ↓reduceIte, reduceCtorEq, Nat.reduceEqDiff, forall_const, implies_true, Nat.reduceAdd, Nat.reduceSub, Nat.reduceMul, Nat.reduceLT, Nat.reduceLeDiff, Int.reduceToNat, Int.reduceAdd, Int.reduceSub, Int.reduceNeg, Int.reduceMul, Int.reduceLT, Int.reduceLE, Int.reduceEq]) ?_
    simp only [ap_app, le_app, List.cons_append, List.nil_append, List.length_cons, List.length_nil]
    refine loopA (ι := Nat × List Ln × Nat) (fun i => [(0, .str s), (5, .ptr S.length 0 0 0), (6, .msl (S.length + 1) i.2.1.length 0 i.2.1.length)]) (fun i => S ++ [⟨0, some (.arr 66 3 [[.str s, .int .i64 i.1, .bool false]])⟩, ⟨i.2.1.length, some (.arr 35 2 (i.2.1.map lnR))⟩])
      (fun i => i.1 ≤ s.length ∧ i.2.1.length ≤ i.1 ∧ s.length - i.1 < i.2.2 ∧ parseF i.2.2 i.2.1 (s.drop i.1) i.1 = parseF (s.length + 1) [] s 0)
      (fun i => s.length - i.1) (0, [], s.length + 1) ⟨Nat.zero_le _, Nat.le_refl _, by simp only; omega, by simp⟩ ?_ (by simp) ?_
    · simp only [↓evPre, ↓evPreW, evPost, evPostW, ← List.map_take, ← List.map_drop, ↓reduceIte, reduceCtorEq, Nat.reduceEqDiff, forall_const, implies_true, Nat.reduceAdd, Nat.reduceSub, Nat.reduceMul, Nat.reduceLT, Nat.reduceLeDiff, Int.reduceToNat, Int.reduceAdd, Int.reduceSub, Int.reduceNeg, Int.reduceMul, Int.reduceLT, Int.reduceLE, Int.reduceEq]
    · rintro ⟨k, ls, n⟩ ⟨hk, hls, hn, hp⟩
      simp only at hk hls hn hp ⊢
      by_cases hlt : (k : Int) < (s.length : Int)
      · obtain ⟨n, rfl⟩ : ∃ m, n = m + 1 := ⟨n - 1, by omega⟩
        rw [parseF_refT (by omega)] at hp
        simp (disch := first | omega | (simp only [List.length_cons, List.length_nil, List.length_map, List.length_drop]; omega)) only [hlt, wrap_i64, ob_app, ob_app0, ob_cons, ob_head, decide_true, ↓evPre, ↓evPreW, evPost, evPostW, ← List.map_take, ← List.map_drop, ↓reduceIte, reduceCtorEq, Nat.reduceEqDiff, forall_const, implies_true, Nat.reduceAdd, Nat.reduceSub, Nat.reduceMul, Nat.reduceLT, Nat.reduceLeDiff, Int.reduceToNat, Int.reduceAdd, Int.reduceSub, Int.reduceNeg, Int.reduceMul, Int.reduceLT, Int.reduceLE, Int.reduceEq]
        refine (refReadLine_A s k S _ (by omega) hk).mono ?_
        intro r S' hr
        have hlen := refT_len hk
        unfold RefLinePost at hr
        have hpos := fun els m => refT_pos (s := s) (k := k) (m := m) (els := els)
        generalize refT s k = q at hr hp hlen hpos
        obtain ⟨e, m⟩ := q
        cases e with
        | none =>
          obtain ⟨rfl, x, rfl⟩ := hr
          simp only at hp hlen
          have hres : parseV s = .tup [lnV [], .int .i64 (k + m : Nat), .int .i64 3] := by simp only [parseV, if_neg hb, ← hp]
          have himm : V.allImm (lnR x) = true := rfl
          have hrl : (lnR x).length = 2 := rfl
          have hall : (lnR x).all V.cellOk = true := rfl
          simp (disch := first | omega | (simp only [List.length_cons, List.length_nil, List.length_map, List.length_drop]; omega)) only [wrap_i64, ob_app, ob_app0, ob_cons, ob_head, se_app, se_app0, se_cons, se_head, List.length_map, decide_true, decide_false, himm, hrl, hall, ↓evPre, ↓evPreW, evPost, evPostW, ← List.map_take, ← List.map_drop, ↓reduceIte, reduceCtorEq, Nat.reduceEqDiff, forall_const, implies_true, Nat.reduceAdd, Nat.reduceSub, Nat.reduceMul, Nat.reduceLT, Nat.reduceLeDiff, Int.reduceToNat, Int.reduceAdd, Int.reduceSub, Int.reduceNeg, Int.reduceMul, Int.reduceLT, Int.reduceLE, Int.reduceEq]
          rw [hres]
          exact ⟨by unfold roomA; omega, _, ⟨_, rfl⟩, frz_tup3 .nil (.imm rfl) (.imm rfl), rfl⟩
        | some els =>
          obtain ⟨rfl, rfl⟩ := hr
          simp only at hp hlen
          have hm := hpos els m rfl
          have himm : V.allImm (lnR ⟨(s.drop k).take 3, els⟩) = true := rfl
          have hrl : (lnR ⟨(s.drop k).take 3, els⟩).length = 2 := rfl
          have hall : (lnR ⟨(s.drop k).take 3, els⟩).all V.cellOk = true := rfl
          simp (disch := first | omega | (simp only [List.length_cons, List.length_nil, List.length_map, List.length_drop]; omega)) only [wrap_i64, ob_app, ob_app0, ob_cons, ob_head, se_app, se_app0, se_cons, se_head, List.length_map, decide_true, decide_false, himm, hrl, hall, ↓evPre, ↓evPreW, evPost, evPostW, ← List.map_take, ← List.map_drop, ↓reduceIte, reduceCtorEq, Nat.reduceEqDiff, forall_const, implies_true, Nat.reduceAdd, Nat.reduceSub, Nat.reduceMul, Nat.reduceLT, Nat.reduceLeDiff, Int.reduceToNat, Int.reduceAdd, Int.reduceSub, Int.reduceNeg, Int.reduceMul, Int.reduceLT, Int.reduceLE, Int.reduceEq]
          exact ⟨by unfold roomA; omega, (k + m, ls ++ [⟨(s.drop k).take 3, els⟩], n), ⟨hlen, by simp; omega, by simp only; omega, hp⟩, by simp only; omega, by simp, by simp⟩
      · have hkl : k = s.length := by omega
        rw [show s.drop k = [] from List.drop_eq_nil_of_le (by omega), parseF_nil] at hp
        have hres : parseV s = .tup [lnV ls, .int .i64 0, .int .i64 0] := by simp only [parseV, if_neg hb, ← hp]
        simp (disch := first | omega | (simp only [List.length_cons, List.length_nil, List.length_map, List.length_drop]; omega)) only [hlt, wrap_i64, ob_app, ob_app0, ob_cons, ob_head, hres, decide_false, ↓evPre, ↓evPreW, evPost, evPostW, ← List.map_take, ← List.map_drop, ↓reduceIte, reduceCtorEq, Nat.reduceEqDiff, forall_const, implies_true, Nat.reduceAdd, Nat.reduceSub, Nat.reduceMul, Nat.reduceLT, Nat.reduceLeDiff, Int.reduceToNat, Int.reduceAdd, Int.reduceSub, Int.reduceNeg, Int.reduceMul, Int.reduceLT, Int.reduceLE, Int.reduceEq]
        refine ⟨_, ⟨_, rfl⟩, frz_tup3 ?_ (.imm rfl) (.imm rfl), rfl⟩
        exact .sl (t := 35) (by simp) (by rw [ob_app, ob_cons, ob_head]) (by simp) fun r hr => by obtain ⟨x, _, rfl⟩ := List.mem_map.1 hr; exact ⟨rfl, rfl⟩
end Go.Proofs.Ytpblahljlbakdaa
