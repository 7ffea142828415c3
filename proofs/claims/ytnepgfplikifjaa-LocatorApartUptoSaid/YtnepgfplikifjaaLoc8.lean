/- The reference's Near; the examples. -/
import Derived.Test.YtnepgfplikifjaaLoc7
namespace Go.Proofs.Ytnepgfplikifjaa
open Go Go.AL
set_option linter.unusedSimpArgs false
set_option linter.unusedVariables false
set_option maxHeartbeats 4000000

theorem drop_get {α : Type} {l : List α} {k : Nat} {x : α} (h : l[k]? = some x) : l.drop k = x :: l.drop (k + 1) := by
  obtain ⟨hlt, rfl⟩ := List.getElem?_eq_some_iff.1 h
  exact List.drop_eq_getElem_cons hlt

theorem insF_len : ∀ (l : List (List UInt8)) (t : List UInt8), (insF l t).length = l.length + 1 := fun l t => (insF_perm l t).length_eq

theorem insert_A (l : List (List UInt8)) (t : List UInt8) (S : Store) (hl : l.length ≤ 1000) (hs : ∀ x ∈ l, x.length ≤ 1000000) (ht : t.length ≤ 1000000) : CallA Try.prog 21 [.sl 1 (sR l), .str t] S fun r S' => r = .sl 1 (sR (insF l t)) ∧ S' = S := by
  refine CallA.back Try.func21 c21 (Nat.le_of_ble_eq_true rfl) fun σ hσ hn => ?_
  simp only [a21, evSt, ↓evPre, ↓evPreW, evPost, evPostW, ← List.map_take, ← List.map_drop, ↓reduceIte, reduceCtorEq, Nat.reduceEqDiff, forall_const, implies_true, Nat.reduceAdd, Nat.reduceSub, Nat.reduceMul, Nat.reduceLT, Nat.reduceLeDiff, Int.reduceToNat, Int.reduceAdd, Int.reduceSub, Int.reduceNeg, Int.reduceMul, Int.reduceLT, Int.reduceLE, Int.reduceEq]
  refine (refnumber_A t S ht).then ?_
  simp only [evSt, ↓evPre, ↓evPreW, evPost, evPostW, ← List.map_take, ← List.map_drop, ↓reduceIte, reduceCtorEq, Nat.reduceEqDiff, forall_const, implies_true, Nat.reduceAdd, Nat.reduceSub, Nat.reduceMul, Nat.reduceLT, Nat.reduceLeDiff, Int.reduceToNat, Int.reduceAdd, Int.reduceSub, Int.reduceNeg, Int.reduceMul, Int.reduceLT, Int.reduceLE, Int.reduceEq]
  refine LoopA.ghost 7 0 9 1 (by simp only [↓evPre, ↓evPreW, evPost, evPostW, ← List.map_take, ← List.map_drop, ↓reduceIte, reduceCtorEq, Nat.reduceEqDiff, forall_const, implies_true, Nat.reduceAdd, Nat.reduceSub, Nat.reduceMul, Nat.reduceLT, Nat.reduceLeDiff, Int.reduceToNat, Int.reduceAdd, Int.reduceSub, Int.reduceNeg, Int.reduceMul, Int.reduceLT, Int.reduceLE, Int.reduceEq]) ?_
  refine loopA (ι := Nat × Bool × List (List UInt8)) (fun i => [(0, .sl 1 (sR l)), (1, .str t), (5, .int .i64 (num t)), (7, .msl S.length i.2.2.length 0 i.2.2.length), (8, .bool i.2.1), (9, .int .i64 i.1)]) (fun i => S ++ [⟨i.2.2.length, some (.arr 9 1 (sR i.2.2))⟩])
    (fun i => i.1 ≤ l.length ∧ i.2.2 ++ (if i.2.1 then l.drop i.1 else insF (l.drop i.1) t) = insF l t) (fun i => l.length - i.1) (0, false, []) ⟨Nat.zero_le _, rfl⟩ ?_ (by simp [sR]) ?_
  · simp only [num, ↓evPre, ↓evPreW, evPost, evPostW, ← List.map_take, ← List.map_drop, ↓reduceIte, reduceCtorEq, Nat.reduceEqDiff, forall_const, implies_true, Nat.reduceAdd, Nat.reduceSub, Nat.reduceMul, Nat.reduceLT, Nat.reduceLeDiff, Int.reduceToNat, Int.reduceAdd, Int.reduceSub, Int.reduceNeg, Int.reduceMul, Int.reduceLT, Int.reduceLE, Int.reduceEq]
  · rintro ⟨i, d, o⟩ ⟨hi, ho⟩
    simp only at hi ho ⊢
    have hol : o.length ≤ l.length + 1 := by
      have := congrArg List.length ho
      rw [insF_len, List.length_append] at this
      omega
    cases hx : l[i]? with
    | some x =>
      have hlt : (i : Int) < l.length := by have := (List.getElem?_eq_some_iff.1 hx).1; omega
      have hxl := hs x (List.mem_of_getElem? hx)
      rw [drop_get hx] at ho
      simp (disch := first | omega | (simp only [List.length_cons, List.length_nil, List.length_map, List.length_drop]; omega)) only [hlt, sR_len, sR_get, hx, wrap_i64, evSt, ↓evPre, ↓evPreW, evPost, evPostW, ← List.map_take, ← List.map_drop, ↓reduceIte, reduceCtorEq, Nat.reduceEqDiff, forall_const, implies_true, Nat.reduceAdd, Nat.reduceSub, Nat.reduceMul, Nat.reduceLT, Nat.reduceLeDiff, Int.reduceToNat, Int.reduceAdd, Int.reduceSub, Int.reduceNeg, Int.reduceMul, Int.reduceLT, Int.reduceLE, Int.reduceEq]
      refine (refnumber_A x _ hxl).then ?_
      cases d
      · simp only [Bool.false_eq_true, if_false, insF] at ho
        by_cases hlt2 : num t < num x
        · rw [if_pos hlt2] at ho
          have hlt2' : num t < (numF x).1 := hlt2
          simp (disch := first | omega | (simp only [List.length_cons, List.length_nil, List.length_map, List.length_drop]; omega)) only [hlt2', sR_len, sR_get, sR_snoc, hx, wrap_i64, List.length_append, evSt, ↓evPre, ↓evPreW, evPost, evPostW, ← List.map_take, ← List.map_drop, ↓reduceIte, reduceCtorEq, Nat.reduceEqDiff, forall_const, implies_true, Nat.reduceAdd, Nat.reduceSub, Nat.reduceMul, Nat.reduceLT, Nat.reduceLeDiff, Int.reduceToNat, Int.reduceAdd, Int.reduceSub, Int.reduceNeg, Int.reduceMul, Int.reduceLT, Int.reduceLE, Int.reduceEq]
          refine ⟨by unfold roomA; omega, by unfold roomA; omega, (i + 1, true, o ++ [t] ++ [x]), ⟨by simp only; omega, by simpa using ho⟩, by simp only; omega, ⟨by simp, by simp, by simp only; omega⟩, by simp⟩
        · rw [if_neg hlt2] at ho
          have hlt2' : ¬ num t < (numF x).1 := hlt2
          simp (disch := first | omega | (simp only [List.length_cons, List.length_nil, List.length_map, List.length_drop]; omega)) only [hlt2', sR_len, sR_get, sR_snoc, hx, wrap_i64, evSt, ↓evPre, ↓evPreW, evPost, evPostW, ← List.map_take, ← List.map_drop, ↓reduceIte, reduceCtorEq, Nat.reduceEqDiff, forall_const, implies_true, Nat.reduceAdd, Nat.reduceSub, Nat.reduceMul, Nat.reduceLT, Nat.reduceLeDiff, Int.reduceToNat, Int.reduceAdd, Int.reduceSub, Int.reduceNeg, Int.reduceMul, Int.reduceLT, Int.reduceLE, Int.reduceEq]
          refine ⟨by unfold roomA; omega, (i + 1, false, o ++ [x]), ⟨by simp only; omega, by simpa using ho⟩, by simp only; omega, ⟨by simp, by simp, by simp only; omega⟩, by simp⟩
      · simp only [if_true] at ho
        simp (disch := first | omega | (simp only [List.length_cons, List.length_nil, List.length_map, List.length_drop]; omega)) only [sR_len, sR_get, sR_snoc, hx, wrap_i64, evSt, ↓evPre, ↓evPreW, evPost, evPostW, ← List.map_take, ← List.map_drop, ↓reduceIte, reduceCtorEq, Nat.reduceEqDiff, forall_const, implies_true, Nat.reduceAdd, Nat.reduceSub, Nat.reduceMul, Nat.reduceLT, Nat.reduceLeDiff, Int.reduceToNat, Int.reduceAdd, Int.reduceSub, Int.reduceNeg, Int.reduceMul, Int.reduceLT, Int.reduceLE, Int.reduceEq]
        refine ⟨by unfold roomA; omega, (i + 1, true, o ++ [x]), ⟨by simp only; omega, by simpa using ho⟩, by simp only; omega, ⟨by simp, by simp, by simp only; omega⟩, by simp⟩
    | none =>
      have hlt : ¬ (i : Int) < l.length := by rw [List.getElem?_eq_none_iff] at hx; omega
      rw [List.drop_eq_nil_of_le (by omega)] at ho
      cases d
      · simp only [Bool.false_eq_true, if_false, insF] at ho
        simp (disch := first | omega | (simp only [List.length_cons, List.length_nil, List.length_map, List.length_drop]; omega)) only [hlt, sR_len, sR_get, sR_snoc, hx, wrap_i64, evSt, ↓evPre, ↓evPreW, evPost, evPostW, ← List.map_take, ← List.map_drop, ↓reduceIte, reduceCtorEq, Nat.reduceEqDiff, forall_const, implies_true, Nat.reduceAdd, Nat.reduceSub, Nat.reduceMul, Nat.reduceLT, Nat.reduceLeDiff, Int.reduceToNat, Int.reduceAdd, Int.reduceSub, Int.reduceNeg, Int.reduceMul, Int.reduceLT, Int.reduceLE, Int.reduceEq]
        refine ⟨by unfold roomA; omega, _, ⟨_, rfl⟩, .sl (t := 9) (rows := sR (o ++ [t])) (Nat.le_refl _) (by simp only [evSt]) (by simp [sR_len]) (sR_imm _), by rw [ho]⟩
      · simp only [if_true, List.append_nil] at ho
        simp (disch := first | omega | (simp only [List.length_cons, List.length_nil, List.length_map, List.length_drop]; omega)) only [hlt, sR_len, sR_get, sR_snoc, hx, wrap_i64, evSt, ↓evPre, ↓evPreW, evPost, evPostW, ← List.map_take, ← List.map_drop, ↓reduceIte, reduceCtorEq, Nat.reduceEqDiff, forall_const, implies_true, Nat.reduceAdd, Nat.reduceSub, Nat.reduceMul, Nat.reduceLT, Nat.reduceLeDiff, Int.reduceToNat, Int.reduceAdd, Int.reduceSub, Int.reduceNeg, Int.reduceMul, Int.reduceLT, Int.reduceLE, Int.reduceEq]
        refine ⟨_, ⟨_, rfl⟩, .sl (t := 9) (rows := sR o) (Nat.le_refl _) (by simp only [evSt]) (by simp [sR_len]) (sR_imm _), by rw [ho]⟩

theorem refnear_A (s : List UInt8) (S : Store) : CallA Try.prog 14 [.str s] S fun r S' => r = .sl 1 (sR (nearF s)) ∧ S' = S := by
  refine CallA.back Try.func14 c14 (Nat.le_of_ble_eq_true rfl) fun σ hσ hn => ?_
  by_cases h1 : (s.length : Int) = 6
  · have hs : s.length = 6 := by omega
    simp only [a14, h1, evSt, ↓evPre, ↓evPreW, evPost, evPostW, ← List.map_take, ← List.map_drop, ↓reduceIte, reduceCtorEq, Nat.reduceEqDiff, forall_const, implies_true, Nat.reduceAdd, Nat.reduceSub, Nat.reduceMul, Nat.reduceLT, Nat.reduceLeDiff, Int.reduceToNat, Int.reduceAdd, Int.reduceSub, Int.reduceNeg, Int.reduceMul, Int.reduceLT, Int.reduceLE, Int.reduceEq]
    refine LoopA.weakNil 3 1 (by simp only [↓evPre, ↓evPreW, evPost, evPostW, ← List.map_take, ← List.map_drop, ↓reduceIte, reduceCtorEq, Nat.reduceEqDiff, forall_const, implies_true, Nat.reduceAdd, Nat.reduceSub, Nat.reduceMul, Nat.reduceLT, Nat.reduceLeDiff, Int.reduceToNat, Int.reduceAdd, Int.reduceSub, Int.reduceNeg, Int.reduceMul, Int.reduceLT, Int.reduceLE, Int.reduceEq]) ?_
    refine loopA (ι := Nat) (fun i => [(0, .str s), (3, .sl 1 (sR ((cto s i).foldl insF []))), (4, .int .i64 i)]) (fun i => S) (fun i => i ≤ 6) (fun i => 6 - i) 0 (Nat.zero_le _) ?_ rfl ?_
    · simp only [↓evPre, ↓evPreW, evPost, evPostW, ← List.map_take, ← List.map_drop, ↓reduceIte, reduceCtorEq, Nat.reduceEqDiff, forall_const, implies_true, Nat.reduceAdd, Nat.reduceSub, Nat.reduceMul, Nat.reduceLT, Nat.reduceLeDiff, Int.reduceToNat, Int.reduceAdd, Int.reduceSub, Int.reduceNeg, Int.reduceMul, Int.reduceLT, Int.reduceLE, Int.reduceEq]
      simp [cto, sR]
    · rintro i hi
      by_cases hlt : (i : Int) < 6
      · simp (disch := first | omega | (simp only [List.length_cons, List.length_nil, List.length_map, List.length_drop]; omega)) only [hlt, wrap_i64, evSt, ↓evPre, ↓evPreW, evPost, evPostW, ← List.map_take, ← List.map_drop, ↓reduceIte, reduceCtorEq, Nat.reduceEqDiff, forall_const, implies_true, Nat.reduceAdd, Nat.reduceSub, Nat.reduceMul, Nat.reduceLT, Nat.reduceLeDiff, Int.reduceToNat, Int.reduceAdd, Int.reduceSub, Int.reduceNeg, Int.reduceMul, Int.reduceLT, Int.reduceLE, Int.reduceEq]
        refine loopA (ι := Nat) (fun k => [(0, .str s), (3, .sl 1 (sR ((cto s i ++ cin s i k).foldl insF []))), (4, .int .i64 i), (5, .int .i64 k)]) (fun k => S) (fun k => k ≤ 32) (fun k => 32 - k) 0 (Nat.zero_le _) ?_ rfl ?_
        · simp only [↓evPre, ↓evPreW, evPost, evPostW, ← List.map_take, ← List.map_drop, ↓reduceIte, reduceCtorEq, Nat.reduceEqDiff, forall_const, implies_true, Nat.reduceAdd, Nat.reduceSub, Nat.reduceMul, Nat.reduceLT, Nat.reduceLeDiff, Int.reduceToNat, Int.reduceAdd, Int.reduceSub, Int.reduceNeg, Int.reduceMul, Int.reduceLT, Int.reduceLE, Int.reduceEq]
          simp [cin]
        · rintro k hk
          by_cases hkl : (k : Int) < 32
          · have c1 := cutS_pre (s := s) (i := i) (by omega)
            have c2 := cutS_suf (s := s) (i := i) (by omega)
            rw [h1] at c2
            have c3 := cutS_ab (k := k) (by omega)
            have a1 : binV .add (.str (s.take i)) (.str [ab.getD k 0]) = some (.str (s.take i ++ [ab.getD k 0])) := add_ok (by simp; omega)
            have a2 : binV .add (.str (s.take i ++ [ab.getD k 0])) (.str (s.drop (i + 1))) = some (.str (repl s i k)) := add_ok (by simp; omega)
            have hlen := both_le hs (i := i) (k := k) (by omega) (by omega)
            simp (disch := first | omega | (simp only [List.length_cons, List.length_nil, List.length_map, List.length_drop]; omega)) only [hkl, h1, c1, c2, c3, a1, a2, slS_str, wrap_i64, evSt, ↓evPre, ↓evPreW, evPost, evPostW, ← List.map_take, ← List.map_drop, ↓reduceIte, reduceCtorEq, Nat.reduceEqDiff, forall_const, implies_true, Nat.reduceAdd, Nat.reduceSub, Nat.reduceMul, Nat.reduceLT, Nat.reduceLeDiff, Int.reduceToNat, Int.reduceAdd, Int.reduceSub, Int.reduceNeg, Int.reduceMul, Int.reduceLT, Int.reduceLE, Int.reduceEq]
            have next : ∀ b : Bool, isC s (repl s i k) = b → (cto s i ++ cin s i (k + 1)).foldl insF [] = if b then insF ((cto s i ++ cin s i k).foldl insF []) (repl s i k) else (cto s i ++ cin s i k).foldl insF [] := fun b hb => by
              rw [cin_succ, hb]
              cases b <;> simp
            by_cases he : repl s i k = s
            · have hc : isC s (repl s i k) = false := by simp [isC, he]
              simp (disch := first | omega | (simp only [List.length_cons, List.length_nil, List.length_map, List.length_drop]; omega)) only [he, decide_true, wrap_i64, evSt, ↓evPre, ↓evPreW, evPost, evPostW, ← List.map_take, ← List.map_drop, ↓reduceIte, reduceCtorEq, Nat.reduceEqDiff, forall_const, implies_true, Nat.reduceAdd, Nat.reduceSub, Nat.reduceMul, Nat.reduceLT, Nat.reduceLeDiff, Int.reduceToNat, Int.reduceAdd, Int.reduceSub, Int.reduceNeg, Int.reduceMul, Int.reduceLT, Int.reduceLE, Int.reduceEq]
              refine ⟨k + 1, by omega, by omega, ?_, by omega⟩
              rw [next false hc]; simp
            · simp (disch := first | omega | (simp only [List.length_cons, List.length_nil, List.length_map, List.length_drop]; omega)) only [he, decide_true, wrap_i64, evSt, ↓evPre, ↓evPreW, evPost, evPostW, ← List.map_take, ← List.map_drop, ↓reduceIte, reduceCtorEq, Nat.reduceEqDiff, forall_const, implies_true, Nat.reduceAdd, Nat.reduceSub, Nat.reduceMul, Nat.reduceLT, Nat.reduceLeDiff, Int.reduceToNat, Int.reduceAdd, Int.reduceSub, Int.reduceNeg, Int.reduceMul, Int.reduceLT, Int.reduceLE, Int.reduceEq]
              refine (refright_A (repl s i k) _ (by rw [repl_len k hs (by omega)]; omega)).then ?_
              cases hg : good (repl s i k)
              · have hc : isC s (repl s i k) = false := by simp [isC, hg]
                simp (disch := first | omega | (simp only [List.length_cons, List.length_nil, List.length_map, List.length_drop]; omega)) only [wrap_i64, evSt, ↓evPre, ↓evPreW, evPost, evPostW, ← List.map_take, ← List.map_drop, ↓reduceIte, reduceCtorEq, Nat.reduceEqDiff, forall_const, implies_true, Nat.reduceAdd, Nat.reduceSub, Nat.reduceMul, Nat.reduceLT, Nat.reduceLeDiff, Int.reduceToNat, Int.reduceAdd, Int.reduceSub, Int.reduceNeg, Int.reduceMul, Int.reduceLT, Int.reduceLE, Int.reduceEq]
                refine ⟨k + 1, by omega, by omega, ?_, by omega⟩
                rw [next false hc]; simp
              · have hc : isC s (repl s i k) = true := by simp [isC, hg, he]
                simp (disch := first | omega | (simp only [List.length_cons, List.length_nil, List.length_map, List.length_drop]; omega)) only [wrap_i64, evSt, ↓evPre, ↓evPreW, evPost, evPostW, ← List.map_take, ← List.map_drop, ↓reduceIte, reduceCtorEq, Nat.reduceEqDiff, forall_const, implies_true, Nat.reduceAdd, Nat.reduceSub, Nat.reduceMul, Nat.reduceLT, Nat.reduceLeDiff, Int.reduceToNat, Int.reduceAdd, Int.reduceSub, Int.reduceNeg, Int.reduceMul, Int.reduceLT, Int.reduceLE, Int.reduceEq]
                refine (insert_A _ _ _ (by rw [fold_len]; omega) (fun x hx => ?_) (by rw [repl_len k hs (by omega)]; omega)).then ?_
                · have hx' := (fold_spec (cto s i ++ cin s i k) [] List.Pairwise.nil).2.mem_iff.1 hx
                  rw [List.nil_append] at hx'
                  rcases List.mem_append.1 hx' with h | h
                  · obtain ⟨m, j, hm, _, rfl, _⟩ := (cto_le hs i (by omega)).2 x h
                    rw [repl_len j hs (by omega)]; omega
                  · obtain ⟨j, hj, rfl, _⟩ := (cin_le hs (i := i) (by omega) k (by omega)).2 x h
                    rw [repl_len j hs (by omega)]; omega
                · simp (disch := first | omega | (simp only [List.length_cons, List.length_nil, List.length_map, List.length_drop]; omega)) only [wrap_i64, evSt, ↓evPre, ↓evPreW, evPost, evPostW, ← List.map_take, ← List.map_drop, ↓reduceIte, reduceCtorEq, Nat.reduceEqDiff, forall_const, implies_true, Nat.reduceAdd, Nat.reduceSub, Nat.reduceMul, Nat.reduceLT, Nat.reduceLeDiff, Int.reduceToNat, Int.reduceAdd, Int.reduceSub, Int.reduceNeg, Int.reduceMul, Int.reduceLT, Int.reduceLE, Int.reduceEq]
                  refine ⟨k + 1, by omega, by omega, ?_, by omega⟩
                  rw [next true hc]; simp
          · have hk32 : k = 32 := by omega
            subst hk32
            simp (disch := first | omega | (simp only [List.length_cons, List.length_nil, List.length_map, List.length_drop]; omega)) only [hkl, wrap_i64, evSt, ↓evPre, ↓evPreW, evPost, evPostW, ← List.map_take, ← List.map_drop, ↓reduceIte, reduceCtorEq, Nat.reduceEqDiff, forall_const, implies_true, Nat.reduceAdd, Nat.reduceSub, Nat.reduceMul, Nat.reduceLT, Nat.reduceLeDiff, Int.reduceToNat, Int.reduceAdd, Int.reduceSub, Int.reduceNeg, Int.reduceMul, Int.reduceLT, Int.reduceLE, Int.reduceEq]
            refine ⟨i + 1, by omega, by omega, ?_, by omega⟩
            rw [cto_succ]
      · have hi6 : i = 6 := by omega
        subst hi6
        simp (disch := first | omega | (simp only [List.length_cons, List.length_nil, List.length_map, List.length_drop]; omega)) only [hlt, wrap_i64, evSt, ↓evPre, ↓evPreW, evPost, evPostW, ← List.map_take, ← List.map_drop, ↓reduceIte, reduceCtorEq, Nat.reduceEqDiff, forall_const, implies_true, Nat.reduceAdd, Nat.reduceSub, Nat.reduceMul, Nat.reduceLT, Nat.reduceLeDiff, Int.reduceToNat, Int.reduceAdd, Int.reduceSub, Int.reduceNeg, Int.reduceMul, Int.reduceLT, Int.reduceLE, Int.reduceEq]
        refine ⟨_, ⟨[], by simp⟩, .imm rfl, by rw [nearF, if_pos hs]⟩
  · have hs : ¬ s.length = 6 := by omega
    simp only [a14, h1, evSt, ↓evPre, ↓evPreW, evPost, evPostW, ← List.map_take, ← List.map_drop, ↓reduceIte, reduceCtorEq, Nat.reduceEqDiff, forall_const, implies_true, Nat.reduceAdd, Nat.reduceSub, Nat.reduceMul, Nat.reduceLT, Nat.reduceLeDiff, Int.reduceToNat, Int.reduceAdd, Int.reduceSub, Int.reduceNeg, Int.reduceMul, Int.reduceLT, Int.reduceLE, Int.reduceEq]
    exact ⟨_, ⟨[], by simp⟩, .nil, by rw [nearF, if_neg hs]; rfl⟩

theorem knows_A (S : Store) : CallA Try.prog 6 [] S fun r S' => r = .bool true ∧ S' = S := by
  refine CallA.keep Try.func6 c6 (Nat.le_of_ble_eq_true rfl) fun σ hσ => ?_
  simp only [a6, ↓evPre, ↓evPreW, evPost, evPostW, ← List.map_take, ← List.map_drop, ↓reduceIte, reduceCtorEq, Nat.reduceEqDiff, forall_const, implies_true, Nat.reduceAdd, Nat.reduceSub, Nat.reduceMul, Nat.reduceLT, Nat.reduceLeDiff, Int.reduceToNat, Int.reduceAdd, Int.reduceSub, Int.reduceNeg, Int.reduceMul, Int.reduceLT, Int.reduceLE, Int.reduceEq]
  refine (of_A 0 S).then ?_
  rw [show ofF 0 = ([50, 50, 50, 50, 50, 50], 0) by decide +kernel]
  simp only [↓evPre, ↓evPreW, evPost, evPostW, ← List.map_take, ← List.map_drop, ↓reduceIte, reduceCtorEq, Nat.reduceEqDiff, forall_const, implies_true, Nat.reduceAdd, Nat.reduceSub, Nat.reduceMul, Nat.reduceLT, Nat.reduceLeDiff, Int.reduceToNat, Int.reduceAdd, Int.reduceSub, Int.reduceNeg, Int.reduceMul, Int.reduceLT, Int.reduceLE, Int.reduceEq]
  refine (of_A 1 S).then ?_
  rw [show ofF 1 = ([50, 50, 50, 50, 51, 66], 0) by decide +kernel]
  simp only [↓evPre, ↓evPreW, evPost, evPostW, ← List.map_take, ← List.map_drop, ↓reduceIte, reduceCtorEq, Nat.reduceEqDiff, forall_const, implies_true, Nat.reduceAdd, Nat.reduceSub, Nat.reduceMul, Nat.reduceLT, Nat.reduceLeDiff, Int.reduceToNat, Int.reduceAdd, Int.reduceSub, Int.reduceNeg, Int.reduceMul, Int.reduceLT, Int.reduceLE, Int.reduceEq]
  refine (of_A 33554432 S).then ?_
  rw [show ofF 33554432 = ([], 2) by decide +kernel]
  simp only [↓evPre, ↓evPreW, evPost, evPostW, ← List.map_take, ← List.map_drop, ↓reduceIte, reduceCtorEq, Nat.reduceEqDiff, forall_const, implies_true, Nat.reduceAdd, Nat.reduceSub, Nat.reduceMul, Nat.reduceLT, Nat.reduceLeDiff, Int.reduceToNat, Int.reduceAdd, Int.reduceSub, Int.reduceNeg, Int.reduceMul, Int.reduceLT, Int.reduceLE, Int.reduceEq]
  refine (number_A [50, 50, 50, 50, 51, 66] S).then ?_
  rw [show numF [50, 50, 50, 50, 51, 66] = (1, 0) by decide +kernel]
  simp only [↓evPre, ↓evPreW, evPost, evPostW, ← List.map_take, ← List.map_drop, ↓reduceIte, reduceCtorEq, Nat.reduceEqDiff, forall_const, implies_true, Nat.reduceAdd, Nat.reduceSub, Nat.reduceMul, Nat.reduceLT, Nat.reduceLeDiff, Int.reduceToNat, Int.reduceAdd, Int.reduceSub, Int.reduceNeg, Int.reduceMul, Int.reduceLT, Int.reduceLE, Int.reduceEq]
  refine (number_A [50, 50, 50, 50, 51, 67] S).then ?_
  rw [show numF [50, 50, 50, 50, 51, 67] = (0, 3) by decide +kernel]
  simp only [↓evPre, ↓evPreW, evPost, evPostW, ← List.map_take, ← List.map_drop, ↓reduceIte, reduceCtorEq, Nat.reduceEqDiff, forall_const, implies_true, Nat.reduceAdd, Nat.reduceSub, Nat.reduceMul, Nat.reduceLT, Nat.reduceLeDiff, Int.reduceToNat, Int.reduceAdd, Int.reduceSub, Int.reduceNeg, Int.reduceMul, Int.reduceLT, Int.reduceLE, Int.reduceEq]
  refine (near_A [50, 50, 50, 50, 42, 50] S).then ?_
  rw [show nearF [50, 50, 50, 50, 42, 50] = [[50, 50, 50, 50, 50, 50]] by decide +kernel]
  simp only [sR, eq_self, decide_true, ↓evPre, ↓evPreW, evPost, evPostW, ← List.map_take, ← List.map_drop, ↓reduceIte, reduceCtorEq, Nat.reduceEqDiff, forall_const, implies_true, Nat.reduceAdd, Nat.reduceSub, Nat.reduceMul, Nat.reduceLT, Nat.reduceLeDiff, Int.reduceToNat, Int.reduceAdd, Int.reduceSub, Int.reduceNeg, Int.reduceMul, Int.reduceLT, Int.reduceLE, Int.reduceEq]
  refine (near_A [50, 50, 50, 50, 51, 66] S).then ?_
  rw [show nearF [50, 50, 50, 50, 51, 66] = [] by decide +kernel]
  simp only [sR, eq_self, decide_true, ↓evPre, ↓evPreW, evPost, evPostW, ← List.map_take, ← List.map_drop, ↓reduceIte, reduceCtorEq, Nat.reduceEqDiff, forall_const, implies_true, Nat.reduceAdd, Nat.reduceSub, Nat.reduceMul, Nat.reduceLT, Nat.reduceLeDiff, Int.reduceToNat, Int.reduceAdd, Int.reduceSub, Int.reduceNeg, Int.reduceMul, Int.reduceLT, Int.reduceLE, Int.reduceEq]
end Go.Proofs.Ytnepgfplikifjaa
