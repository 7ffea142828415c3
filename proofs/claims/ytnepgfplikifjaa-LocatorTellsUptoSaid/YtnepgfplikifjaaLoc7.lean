/- Near, here and in the reference. -/
import Derived.Test.YtnepgfplikifjaaLoc6
namespace Go.Proofs.Ytnepgfplikifjaa
open Go Go.AL
set_option linter.unusedSimpArgs false
set_option linter.unusedVariables false
set_option maxHeartbeats 4000000

theorem pdq_A (o : List (List UInt8)) (ver : Nat) (lim : Int) (S : Store) (hl : o.length ≤ 12) : CallA Try.prog 23 [.msl S.length ver 0 o.length, .int .i64 0, .int .i64 o.length, .int .i64 lim, .func 19 [] []] (S ++ [⟨ver, some (.arr 9 1 (sR o))⟩])
    fun r S' => r = .tup [] ∧ ∃ o', o'.Perm o ∧ srtN o' ∧ S' = S ++ [⟨ver, some (.arr 9 1 (sR o'))⟩] := by
  refine CallA.keep Try.func23 c23 (Nat.le_of_ble_eq_true rfl) fun σ hσ => ?_
  simp only [a23, ↓evPre, ↓evPreW, evPost, evPostW, ← List.map_take, ← List.map_drop, ↓reduceIte, reduceCtorEq, Nat.reduceEqDiff, forall_const, implies_true, Nat.reduceAdd, Nat.reduceSub, Nat.reduceMul, Nat.reduceLT, Nat.reduceLeDiff, Int.reduceToNat, Int.reduceAdd, Int.reduceSub, Int.reduceNeg, Int.reduceMul, Int.reduceLT, Int.reduceLE, Int.reduceEq]
  refine loopA (ι := Unit) (fun _ => [(0, .msl S.length ver 0 o.length), (1, .int .i64 0), (2, .int .i64 o.length), (4, .func 19 [] [])]) (fun _ => S ++ [⟨ver, some (.arr 9 1 (sR o))⟩]) (fun _ => True) (fun _ => 0) () trivial ?_ rfl ?_
  · simp only [↓evPre, ↓evPreW, evPost, evPostW, ← List.map_take, ← List.map_drop, ↓reduceIte, reduceCtorEq, Nat.reduceEqDiff, forall_const, implies_true, Nat.reduceAdd, Nat.reduceSub, Nat.reduceMul, Nat.reduceLT, Nat.reduceLeDiff, Int.reduceToNat, Int.reduceAdd, Int.reduceSub, Int.reduceNeg, Int.reduceMul, Int.reduceLT, Int.reduceLE, Int.reduceEq]
  · rintro ⟨⟩ _
    have h12 : (o.length : Int) ≤ 12 := by omega
    simp (disch := first | omega | (simp only [List.length_cons, List.length_nil, List.length_map, List.length_drop]; omega)) only [wrap_i64, Int.sub_zero, h12, ↓evPre, ↓evPreW, evPost, evPostW, ← List.map_take, ← List.map_drop, ↓reduceIte, reduceCtorEq, Nat.reduceEqDiff, forall_const, implies_true, Nat.reduceAdd, Nat.reduceSub, Nat.reduceMul, Nat.reduceLT, Nat.reduceLeDiff, Int.reduceToNat, Int.reduceAdd, Int.reduceSub, Int.reduceNeg, Int.reduceMul, Int.reduceLT, Int.reduceLE, Int.reduceEq]
    refine (insertion_A o ver S (by omega)).mono ?_
    rintro r S' ⟨rfl, o', h1, h2, rfl⟩
    simp only [↓evPre, ↓evPreW, evPost, evPostW, ← List.map_take, ← List.map_drop, ↓reduceIte, reduceCtorEq, Nat.reduceEqDiff, forall_const, implies_true, Nat.reduceAdd, Nat.reduceSub, Nat.reduceMul, Nat.reduceLT, Nat.reduceLeDiff, Int.reduceToNat, Int.reduceAdd, Int.reduceSub, Int.reduceNeg, Int.reduceMul, Int.reduceLT, Int.reduceLE, Int.reduceEq]
    exact ⟨o', h1, h2, rfl⟩

theorem sort_A (o : List (List UInt8)) (ver : Nat) (S : Store) (hl : o.length ≤ 12) : CallA Try.prog 18 [.msl S.length ver 0 o.length, .func 19 [] []] (S ++ [⟨ver, some (.arr 9 1 (sR o))⟩])
    fun r S' => r = .tup [] ∧ ∃ o', o'.Perm o ∧ srtN o' ∧ S' = S ++ [⟨ver, some (.arr 9 1 (sR o'))⟩] := by
  refine CallA.keep Try.func18 c18 (Nat.le_of_ble_eq_true rfl) fun σ hσ => ?_
  simp (disch := first | omega | (simp only [List.length_cons, List.length_nil, List.length_map, List.length_drop]; omega)) only [a18, wrap_u64, evSt, ↓evPre, ↓evPreW, evPost, evPostW, ← List.map_take, ← List.map_drop, ↓reduceIte, reduceCtorEq, Nat.reduceEqDiff, forall_const, implies_true, Nat.reduceAdd, Nat.reduceSub, Nat.reduceMul, Nat.reduceLT, Nat.reduceLeDiff, Int.reduceToNat, Int.reduceAdd, Int.reduceSub, Int.reduceNeg, Int.reduceMul, Int.reduceLT, Int.reduceLE, Int.reduceEq]
  refine (bitlen_A o.length (by omega) _).then ?_
  simp only [↓evPre, ↓evPreW, evPost, evPostW, ← List.map_take, ← List.map_drop, ↓reduceIte, reduceCtorEq, Nat.reduceEqDiff, forall_const, implies_true, Nat.reduceAdd, Nat.reduceSub, Nat.reduceMul, Nat.reduceLT, Nat.reduceLeDiff, Int.reduceToNat, Int.reduceAdd, Int.reduceSub, Int.reduceNeg, Int.reduceMul, Int.reduceLT, Int.reduceLE, Int.reduceEq]
  refine (pdq_A o ver _ S hl).mono ?_
  rintro r S' ⟨rfl, o', h1, h2, rfl⟩
  simp only [↓evPre, ↓evPreW, evPost, evPostW, ← List.map_take, ← List.map_drop, ↓reduceIte, reduceCtorEq, Nat.reduceEqDiff, forall_const, implies_true, Nat.reduceAdd, Nat.reduceSub, Nat.reduceMul, Nat.reduceLT, Nat.reduceLeDiff, Int.reduceToNat, Int.reduceAdd, Int.reduceSub, Int.reduceNeg, Int.reduceMul, Int.reduceLT, Int.reduceLE, Int.reduceEq]
  exact ⟨o', h1, h2, rfl⟩

theorem cutS_pre {s : List UInt8} {i : Nat} (h : i ≤ s.length) : cutS s (some 0) (some (i : Int)) = some (.str (s.take i)) := by
  rw [cutS_some, if_pos ⟨by omega, by omega, by omega⟩]; simp
theorem cutS_suf {s : List UInt8} {i : Nat} (h : i < s.length) : cutS s (some ((i : Int) + 1)) (some (s.length : Int)) = some (.str (s.drop (i + 1))) := by
  rw [cutS_some, if_pos ⟨by omega, by omega, by omega⟩]
  have e : ((i : Int) + 1).toNat = i + 1 := by omega
  rw [e, Int.toNat_natCast, List.take_of_length_le (by simp)]
theorem cutS_ab {k : Nat} (h : k < 32) : cutS [50, 51, 52, 53, 54, 55, 56, 57, 65, 66, 67, 68, 69, 70, 71, 72, 74, 75, 76, 77, 78, 80, 81, 82, 83, 84, 85, 86, 87, 88, 89, 90] (some (k : Int)) (some ((k : Int) + 1)) = some (.str [ab.getD k 0]) := by
  have := cut1 (v := k) ⟨by omega, by omega⟩
  rwa [atc, Int.toNat_natCast] at this

theorem near_A (s : List UInt8) (S : Store) : CallA Try.prog 13 [.str s] S fun r S' => r = .sl 1 (sR (nearF s)) ∧ S' = S := by
  refine CallA.back Try.func13 c13 (Nat.le_of_ble_eq_true rfl) fun σ hσ hn => ?_
  by_cases h1 : (s.length : Int) = 6
  · have hs : s.length = 6 := by omega
    simp only [a13, h1, evSt, ↓evPre, ↓evPreW, evPost, evPostW, ← List.map_take, ← List.map_drop, ↓reduceIte, reduceCtorEq, Nat.reduceEqDiff, forall_const, implies_true, Nat.reduceAdd, Nat.reduceSub, Nat.reduceMul, Nat.reduceLT, Nat.reduceLeDiff, Int.reduceToNat, Int.reduceAdd, Int.reduceSub, Int.reduceNeg, Int.reduceMul, Int.reduceLT, Int.reduceLE, Int.reduceEq]
    refine LoopA.ghost 3 0 9 1 (by simp only [↓evPre, ↓evPreW, evPost, evPostW, ← List.map_take, ← List.map_drop, ↓reduceIte, reduceCtorEq, Nat.reduceEqDiff, forall_const, implies_true, Nat.reduceAdd, Nat.reduceSub, Nat.reduceMul, Nat.reduceLT, Nat.reduceLeDiff, Int.reduceToNat, Int.reduceAdd, Int.reduceSub, Int.reduceNeg, Int.reduceMul, Int.reduceLT, Int.reduceLE, Int.reduceEq]) ?_
    refine loopA (ι := Nat) (fun i => [(0, .str s), (3, .msl S.length (cto s i).length 0 (cto s i).length), (11, .int .i64 6), (12, .int .i64 i)]) (fun i => S ++ [⟨(cto s i).length, some (.arr 9 1 (sR (cto s i)))⟩]) (fun i => i ≤ 6) (fun i => 6 - i) 0 (Nat.zero_le _) ?_ rfl ?_
    · simp only [↓evPre, ↓evPreW, evPost, evPostW, ← List.map_take, ← List.map_drop, ↓reduceIte, reduceCtorEq, Nat.reduceEqDiff, forall_const, implies_true, Nat.reduceAdd, Nat.reduceSub, Nat.reduceMul, Nat.reduceLT, Nat.reduceLeDiff, Int.reduceToNat, Int.reduceAdd, Int.reduceSub, Int.reduceNeg, Int.reduceMul, Int.reduceLT, Int.reduceLE, Int.reduceEq]
      simp [cto]
    · rintro i hi
      by_cases hlt : (i : Int) < 6
      · simp (disch := first | omega | (simp only [List.length_cons, List.length_nil, List.length_map, List.length_drop]; omega)) only [hlt, wrap_i64, evSt, ↓evPre, ↓evPreW, evPost, evPostW, ← List.map_take, ← List.map_drop, ↓reduceIte, reduceCtorEq, Nat.reduceEqDiff, forall_const, implies_true, Nat.reduceAdd, Nat.reduceSub, Nat.reduceMul, Nat.reduceLT, Nat.reduceLeDiff, Int.reduceToNat, Int.reduceAdd, Int.reduceSub, Int.reduceNeg, Int.reduceMul, Int.reduceLT, Int.reduceLE, Int.reduceEq]
        refine loopA (ι := Nat) (fun k => [(0, .str s), (3, .msl S.length (cto s i ++ cin s i k).length 0 (cto s i ++ cin s i k).length), (11, .int .i64 6), (12, .int .i64 i), (4, .int .i64 i), (15, .int .i64 k)]) (fun k => S ++ [⟨(cto s i ++ cin s i k).length, some (.arr 9 1 (sR (cto s i ++ cin s i k)))⟩]) (fun k => k ≤ 32) (fun k => 32 - k) 0 (Nat.zero_le _) ?_ (by simp [cin]) ?_
        · simp only [↓evPre, ↓evPreW, evPost, evPostW, ← List.map_take, ← List.map_drop, ↓reduceIte, reduceCtorEq, Nat.reduceEqDiff, forall_const, implies_true, Nat.reduceAdd, Nat.reduceSub, Nat.reduceMul, Nat.reduceLT, Nat.reduceLeDiff, Int.reduceToNat, Int.reduceAdd, Int.reduceSub, Int.reduceNeg, Int.reduceMul, Int.reduceLT, Int.reduceLE, Int.reduceEq]
          simp [cin]
        · rintro k hk
          by_cases hkl : (k : Int) < 32
          · have c1 := cutS_pre (s := s) (i := i) (by omega)
            have c2 := cutS_suf (s := s) (i := i) (by omega)
            rw [h1] at c2
            have c3 := cutS_ab (k := k) (by omega)
            have a1 : binV .add (.str (s.take i)) (.str [ab.getD k 0]) = some (.str (s.take i ++ [ab.getD k 0])) := add_ok (by simp; omega)
            have a2 : binV .add (.str (s.take i ++ [ab.getD k 0])) (.str (s.drop (i + 1))) = some (.str (repl s i k)) := add_ok (by simp; omega)
            have hlen := both_le hs (i := i) (k := k) (by omega) (by omega)
            simp (disch := first | omega | (simp only [List.length_cons, List.length_nil, List.length_map, List.length_drop]; omega)) only [hkl, h1, c1, c2, c3, a1, a2, slS_str, wrap_i64, evSt, ↓evPre, ↓evPreW, evPost, evPostW, ← List.map_take, ← List.map_drop, ↓reduceIte, reduceCtorEq, Nat.reduceEqDiff, forall_const, implies_true, Nat.reduceAdd, Nat.reduceSub, Nat.reduceMul, Nat.reduceLT, Nat.reduceLeDiff, Int.reduceToNat, Int.reduceAdd, Int.reduceSub, Int.reduceNeg, Int.reduceMul, Int.reduceLT, Int.reduceLE, Int.reduceEq]
            have next : ∀ b : Bool, isC s (repl s i k) = b → cto s i ++ cin s i (k + 1) = if b then (cto s i ++ cin s i k) ++ [repl s i k] else cto s i ++ cin s i k := fun b hb => by
              rw [cin_succ, hb]
              cases b <;> simp
            by_cases he : repl s i k = s
            · have hc : isC s (repl s i k) = false := by simp [isC, he]
              simp (disch := first | omega | (simp only [List.length_cons, List.length_nil, List.length_map, List.length_drop]; omega)) only [he, decide_true, wrap_i64, evSt, ↓evPre, ↓evPreW, evPost, evPostW, ← List.map_take, ← List.map_drop, ↓reduceIte, reduceCtorEq, Nat.reduceEqDiff, forall_const, implies_true, Nat.reduceAdd, Nat.reduceSub, Nat.reduceMul, Nat.reduceLT, Nat.reduceLeDiff, Int.reduceToNat, Int.reduceAdd, Int.reduceSub, Int.reduceNeg, Int.reduceMul, Int.reduceLT, Int.reduceLE, Int.reduceEq]
              refine ⟨k + 1, by omega, by omega, ?_, ?_⟩ <;> rw [next false hc] <;> simp
            · simp (disch := first | omega | (simp only [List.length_cons, List.length_nil, List.length_map, List.length_drop]; omega)) only [he, decide_true, wrap_i64, evSt, ↓evPre, ↓evPreW, evPost, evPostW, ← List.map_take, ← List.map_drop, ↓reduceIte, reduceCtorEq, Nat.reduceEqDiff, forall_const, implies_true, Nat.reduceAdd, Nat.reduceSub, Nat.reduceMul, Nat.reduceLT, Nat.reduceLeDiff, Int.reduceToNat, Int.reduceAdd, Int.reduceSub, Int.reduceNeg, Int.reduceMul, Int.reduceLT, Int.reduceLE, Int.reduceEq]
              refine (right_A (repl s i k) _).then ?_
              cases hg : good (repl s i k)
              · have hc : isC s (repl s i k) = false := by simp [isC, hg]
                simp (disch := first | omega | (simp only [List.length_cons, List.length_nil, List.length_map, List.length_drop]; omega)) only [wrap_i64, evSt, ↓evPre, ↓evPreW, evPost, evPostW, ← List.map_take, ← List.map_drop, ↓reduceIte, reduceCtorEq, Nat.reduceEqDiff, forall_const, implies_true, Nat.reduceAdd, Nat.reduceSub, Nat.reduceMul, Nat.reduceLT, Nat.reduceLeDiff, Int.reduceToNat, Int.reduceAdd, Int.reduceSub, Int.reduceNeg, Int.reduceMul, Int.reduceLT, Int.reduceLE, Int.reduceEq]
                refine ⟨k + 1, by omega, by omega, ?_, ?_⟩ <;> rw [next false hc] <;> simp
              · have hc : isC s (repl s i k) = true := by simp [isC, hg, he]
                simp (disch := first | omega | (simp only [List.length_cons, List.length_nil, List.length_map, List.length_drop]; omega)) only [wrap_i64, sR_snoc, evSt, ↓evPre, ↓evPreW, evPost, evPostW, ← List.map_take, ← List.map_drop, ↓reduceIte, reduceCtorEq, Nat.reduceEqDiff, forall_const, implies_true, Nat.reduceAdd, Nat.reduceSub, Nat.reduceMul, Nat.reduceLT, Nat.reduceLeDiff, Int.reduceToNat, Int.reduceAdd, Int.reduceSub, Int.reduceNeg, Int.reduceMul, Int.reduceLT, Int.reduceLE, Int.reduceEq]
                refine ⟨sR_len _, by unfold roomA; omega, k + 1, by omega, by omega, ?_, ?_⟩ <;> rw [next true hc] <;> simp <;> omega
          · have hk32 : k = 32 := by omega
            subst hk32
            simp (disch := first | omega | (simp only [List.length_cons, List.length_nil, List.length_map, List.length_drop]; omega)) only [hkl, wrap_i64, evSt, ↓evPre, ↓evPreW, evPost, evPostW, ← List.map_take, ← List.map_drop, ↓reduceIte, reduceCtorEq, Nat.reduceEqDiff, forall_const, implies_true, Nat.reduceAdd, Nat.reduceSub, Nat.reduceMul, Nat.reduceLT, Nat.reduceLeDiff, Int.reduceToNat, Int.reduceAdd, Int.reduceSub, Int.reduceNeg, Int.reduceMul, Int.reduceLT, Int.reduceLE, Int.reduceEq]
            refine ⟨i + 1, by omega, by omega, ?_, ?_⟩ <;> rw [cto_succ] <;> simp
      · have hi6 : i = 6 := by omega
        subst hi6
        have h6 := (cto_le hs 6 (Nat.le_refl _)).1
        simp (disch := first | omega | (simp only [List.length_cons, List.length_nil, List.length_map, List.length_drop]; omega)) only [hlt, wrap_i64, evSt, ↓evPre, ↓evPreW, evPost, evPostW, ← List.map_take, ← List.map_drop, ↓reduceIte, reduceCtorEq, Nat.reduceEqDiff, forall_const, implies_true, Nat.reduceAdd, Nat.reduceSub, Nat.reduceMul, Nat.reduceLT, Nat.reduceLeDiff, Int.reduceToNat, Int.reduceAdd, Int.reduceSub, Int.reduceNeg, Int.reduceMul, Int.reduceLT, Int.reduceLE, Int.reduceEq]
        refine (sort_A (cto s 6) _ S (by omega)).mono ?_
        rintro r S' ⟨rfl, o', g1, g2, rfl⟩
        have hol := g1.length_eq
        simp only [↓evPre, ↓evPreW, evPost, evPostW, ← List.map_take, ← List.map_drop, ↓reduceIte, reduceCtorEq, Nat.reduceEqDiff, forall_const, implies_true, Nat.reduceAdd, Nat.reduceSub, Nat.reduceMul, Nat.reduceLT, Nat.reduceLeDiff, Int.reduceToNat, Int.reduceAdd, Int.reduceSub, Int.reduceNeg, Int.reduceMul, Int.reduceLT, Int.reduceLE, Int.reduceEq]
        refine ⟨_, ⟨_, rfl⟩, .sl (t := 9) (rows := sR o') (Nat.le_refl _) (by simp only [evSt]) (by rw [sR_len]; exact hol) (sR_imm _), by rw [near_eq hs g1 g2]⟩
  · have hs : ¬ s.length = 6 := by omega
    simp only [a13, h1, evSt, ↓evPre, ↓evPreW, evPost, evPostW, ← List.map_take, ← List.map_drop, ↓reduceIte, reduceCtorEq, Nat.reduceEqDiff, forall_const, implies_true, Nat.reduceAdd, Nat.reduceSub, Nat.reduceMul, Nat.reduceLT, Nat.reduceLeDiff, Int.reduceToNat, Int.reduceAdd, Int.reduceSub, Int.reduceNeg, Int.reduceMul, Int.reduceLT, Int.reduceLE, Int.reduceEq]
    exact ⟨_, ⟨[], by simp⟩, .nil, by rw [nearF, if_neg hs]; rfl⟩
end Go.Proofs.Ytnepgfplikifjaa
