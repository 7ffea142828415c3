/- The sort of at most twelve texts. -/
import Derived.Test.YtnepgfplikifjaaLoc5
namespace Go.Proofs.Ytnepgfplikifjaa
open Go Go.AL
set_option linter.unusedSimpArgs false
set_option maxHeartbeats 4000000

theorem isNaN_A (x : Int) (S : Store) : CallA Try.prog 25 [.int .i64 x] S fun r S' => r = .bool false ∧ S' = S := by
  refine CallA.keep Try.func25 c25 (Nat.le_of_ble_eq_true rfl) fun σ hσ => ?_
  simp only [a25, decide_true, ↓evPre, ↓evPreW, evPost, evPostW, ← List.map_take, ← List.map_drop, ↓reduceIte, reduceCtorEq, Nat.reduceEqDiff, forall_const, implies_true, Nat.reduceAdd, Nat.reduceSub, Nat.reduceMul, Nat.reduceLT, Nat.reduceLeDiff, Int.reduceToNat, Int.reduceAdd, Int.reduceSub, Int.reduceNeg, Int.reduceMul, Int.reduceLT, Int.reduceLE, Int.reduceEq]

def cmpF (x y : Int) : Int := if x < y then -1 else if y < x then 1 else 0

theorem compare_A (x y : Int) (S : Store) : CallA Try.prog 20 [.int .i64 x, .int .i64 y] S fun r S' => r = .int .i64 (cmpF x y) ∧ S' = S := by
  refine CallA.keep Try.func20 c20 (Nat.le_of_ble_eq_true rfl) fun σ hσ => ?_
  simp only [a20, ↓evPre, ↓evPreW, evPost, evPostW, ← List.map_take, ← List.map_drop, ↓reduceIte, reduceCtorEq, Nat.reduceEqDiff, forall_const, implies_true, Nat.reduceAdd, Nat.reduceSub, Nat.reduceMul, Nat.reduceLT, Nat.reduceLeDiff, Int.reduceToNat, Int.reduceAdd, Int.reduceSub, Int.reduceNeg, Int.reduceMul, Int.reduceLT, Int.reduceLE, Int.reduceEq]
  refine (isNaN_A x S).then ?_
  simp only [↓evPre, ↓evPreW, evPost, evPostW, ← List.map_take, ← List.map_drop, ↓reduceIte, reduceCtorEq, Nat.reduceEqDiff, forall_const, implies_true, Nat.reduceAdd, Nat.reduceSub, Nat.reduceMul, Nat.reduceLT, Nat.reduceLeDiff, Int.reduceToNat, Int.reduceAdd, Int.reduceSub, Int.reduceNeg, Int.reduceMul, Int.reduceLT, Int.reduceLE, Int.reduceEq]
  refine (isNaN_A y S).then ?_
  by_cases h1 : x < y
  · simp only [h1, cmpF, ↓evPre, ↓evPreW, evPost, evPostW, ← List.map_take, ← List.map_drop, ↓reduceIte, reduceCtorEq, Nat.reduceEqDiff, forall_const, implies_true, Nat.reduceAdd, Nat.reduceSub, Nat.reduceMul, Nat.reduceLT, Nat.reduceLeDiff, Int.reduceToNat, Int.reduceAdd, Int.reduceSub, Int.reduceNeg, Int.reduceMul, Int.reduceLT, Int.reduceLE, Int.reduceEq]
  · by_cases h2 : y < x
    · simp only [h1, h2, cmpF, ↓evPre, ↓evPreW, evPost, evPostW, ← List.map_take, ← List.map_drop, ↓reduceIte, reduceCtorEq, Nat.reduceEqDiff, forall_const, implies_true, Nat.reduceAdd, Nat.reduceSub, Nat.reduceMul, Nat.reduceLT, Nat.reduceLeDiff, Int.reduceToNat, Int.reduceAdd, Int.reduceSub, Int.reduceNeg, Int.reduceMul, Int.reduceLT, Int.reduceLE, Int.reduceEq]
    · simp only [h1, h2, cmpF, ↓evPre, ↓evPreW, evPost, evPostW, ← List.map_take, ← List.map_drop, ↓reduceIte, reduceCtorEq, Nat.reduceEqDiff, forall_const, implies_true, Nat.reduceAdd, Nat.reduceSub, Nat.reduceMul, Nat.reduceLT, Nat.reduceLeDiff, Int.reduceToNat, Int.reduceAdd, Int.reduceSub, Int.reduceNeg, Int.reduceMul, Int.reduceLT, Int.reduceLE, Int.reduceEq]

theorem order_A (t u : List UInt8) (S : Store) : CallA Try.prog 19 [.str t, .str u] S fun r S' => r = .int .i64 (cmpF (num t) (num u)) ∧ S' = S := by
  refine CallA.keep Try.func19 c19 (Nat.le_of_ble_eq_true rfl) fun σ hσ => ?_
  simp only [a19, ↓evPre, ↓evPreW, evPost, evPostW, ← List.map_take, ← List.map_drop, ↓reduceIte, reduceCtorEq, Nat.reduceEqDiff, forall_const, implies_true, Nat.reduceAdd, Nat.reduceSub, Nat.reduceMul, Nat.reduceLT, Nat.reduceLeDiff, Int.reduceToNat, Int.reduceAdd, Int.reduceSub, Int.reduceNeg, Int.reduceMul, Int.reduceLT, Int.reduceLE, Int.reduceEq]
  refine (number_A t S).then ?_
  simp only [↓evPre, ↓evPreW, evPost, evPostW, ← List.map_take, ← List.map_drop, ↓reduceIte, reduceCtorEq, Nat.reduceEqDiff, forall_const, implies_true, Nat.reduceAdd, Nat.reduceSub, Nat.reduceMul, Nat.reduceLT, Nat.reduceLeDiff, Int.reduceToNat, Int.reduceAdd, Int.reduceSub, Int.reduceNeg, Int.reduceMul, Int.reduceLT, Int.reduceLE, Int.reduceEq]
  refine (number_A u S).then ?_
  simp only [↓evPre, ↓evPreW, evPost, evPostW, ← List.map_take, ← List.map_drop, ↓reduceIte, reduceCtorEq, Nat.reduceEqDiff, forall_const, implies_true, Nat.reduceAdd, Nat.reduceSub, Nat.reduceMul, Nat.reduceLT, Nat.reduceLeDiff, Int.reduceToNat, Int.reduceAdd, Int.reduceSub, Int.reduceNeg, Int.reduceMul, Int.reduceLT, Int.reduceLE, Int.reduceEq]
  refine (compare_A _ _ S).then ?_
  simp only [num, ↓evPre, ↓evPreW, evPost, evPostW, ← List.map_take, ← List.map_drop, ↓reduceIte, reduceCtorEq, Nat.reduceEqDiff, forall_const, implies_true, Nat.reduceAdd, Nat.reduceSub, Nat.reduceMul, Nat.reduceLT, Nat.reduceLeDiff, Int.reduceToNat, Int.reduceAdd, Int.reduceSub, Int.reduceNeg, Int.reduceMul, Int.reduceLT, Int.reduceLE, Int.reduceEq]

def sR (l : List (List UInt8)) : List (List V) := l.map fun t => [.str t]
theorem sR_get (l : List (List UInt8)) (i : Nat) : (sR l)[i]? = l[i]?.map fun t => [.str t] := by simp [sR]
theorem sR_len (l : List (List UInt8)) : (sR l).length = l.length := by simp [sR]
theorem sR_snoc (l : List (List UInt8)) (t : List UInt8) : sR l ++ [[.str t]] = sR (l ++ [t]) := by simp [sR]
theorem sR_set (l : List (List UInt8)) (i : Nat) (t : List UInt8) : (sR l).set i [.str t] = sR (l.set i t) := by simp [sR]
theorem sR_imm (l : List (List UInt8)) : ∀ r ∈ sR l, r.length = 1 ∧ V.allImm r = true := fun r hr => by
  obtain ⟨n, _, rfl⟩ := List.mem_map.1 hr
  exact ⟨rfl, rfl⟩
theorem adj_get0 {α : Type} (X Z : List α) (y x : α) : (X ++ y :: x :: Z)[X.length]? = some y := by simp
theorem adj_get1 {α : Type} (X Z : List α) (y x : α) : (X ++ y :: x :: Z)[X.length + 1]? = some x := by
  rw [List.getElem?_append_right (by omega)]; simp
theorem adj_set1 {α : Type} (X Z : List α) (y x z : α) : (X ++ y :: x :: Z).set (X.length + 1) z = X ++ y :: z :: Z := by
  rw [List.set_append_right _ _ (by omega)]; simp
theorem adj_set0 {α : Type} (X Z : List α) (y x z : α) : (X ++ y :: x :: Z).set X.length z = X ++ z :: x :: Z := by
  rw [List.set_append_right _ _ (by omega)]; simp

theorem srtN_insert {A1 A2 : List (List UInt8)} {x : List UInt8} (h : srtN (A1 ++ A2)) (h1 : ∀ y ∈ A1, num y ≤ num x) (h2 : ∀ y ∈ A2, num x ≤ num y) : srtN (A1 ++ x :: A2) := by
  unfold srtN at *
  rw [List.pairwise_append] at *
  obtain ⟨a, b, c⟩ := h
  refine ⟨a, List.pairwise_cons.2 ⟨h2, b⟩, fun u hu v hv => ?_⟩
  rcases List.mem_cons.1 hv with rfl | hv
  · exact h1 u hu
  · exact c u hu v hv

theorem insertion_A (o : List (List UInt8)) (ver : Nat) (S : Store) (hl : o.length ≤ 1000000) : CallA Try.prog 27 [.msl S.length ver 0 o.length, .int .i64 0, .int .i64 o.length, .func 19 [] []] (S ++ [⟨ver, some (.arr 9 1 (sR o))⟩])
    fun r S' => r = .tup [] ∧ ∃ o', o'.Perm o ∧ srtN o' ∧ S' = S ++ [⟨ver, some (.arr 9 1 (sR o'))⟩] := by
  refine CallA.keep Try.func27 c27 (Nat.le_of_ble_eq_true rfl) fun σ hσ => ?_
  simp (disch := first | omega | (simp only [List.length_cons, List.length_nil, List.length_map, List.length_drop]; omega)) only [a27, wrap_i64, ↓evPre, ↓evPreW, evPost, evPostW, ← List.map_take, ← List.map_drop, ↓reduceIte, reduceCtorEq, Nat.reduceEqDiff, forall_const, implies_true, Nat.reduceAdd, Nat.reduceSub, Nat.reduceMul, Nat.reduceLT, Nat.reduceLeDiff, Int.reduceToNat, Int.reduceAdd, Int.reduceSub, Int.reduceNeg, Int.reduceMul, Int.reduceLT, Int.reduceLE, Int.reduceEq]
  refine loopA (ι := Nat × List (List UInt8) × List (List UInt8)) (fun i => [(0, .msl S.length ver 0 o.length), (1, .int .i64 0), (2, .int .i64 o.length), (3, .func 19 [] []), (8, .int .i64 i.1)])
    (fun i => S ++ [⟨ver, some (.arr 9 1 (sR (i.2.1 ++ i.2.2)))⟩]) (fun i => (i.2.1 ++ i.2.2).Perm o ∧ srtN i.2.1 ∧ (i.2.2 ≠ [] → i.1 = i.2.1.length) ∧ (i.2.2 = [] → o.length ≤ i.1) ∧ i.1 ≤ o.length + 1) (fun i => i.2.2.length) (1, o.take 1, o.drop 1) ⟨?_, ?_, ?_, ?_, ?_⟩ ?_ ?_ ?_
  · rw [List.take_append_drop]
  · cases o with
    | nil => exact List.Pairwise.nil
    | cons m M => exact List.pairwise_singleton _ _
  · intro h
    cases o with
    | nil => simp at h
    | cons m M => simp
  · intro h
    simp only [List.drop_eq_nil_iff] at h
    omega
  · simp only; omega
  · simp only [↓evPre, ↓evPreW, evPost, evPostW, ← List.map_take, ← List.map_drop, ↓reduceIte, reduceCtorEq, Nat.reduceEqDiff, forall_const, implies_true, Nat.reduceAdd, Nat.reduceSub, Nat.reduceMul, Nat.reduceLT, Nat.reduceLeDiff, Int.reduceToNat, Int.reduceAdd, Int.reduceSub, Int.reduceNeg, Int.reduceMul, Int.reduceLT, Int.reduceLE, Int.reduceEq]
  · rw [List.take_append_drop]
  · rintro ⟨n, A, B⟩ ⟨hp, hs, h1, h2, h3⟩
    simp only at hp hs h1 h2 h3 ⊢
    have hlen := hp.length_eq
    simp only [List.length_append] at hlen
    cases B with
    | nil =>
      have h2' := h2 rfl
      have g : ¬ ((n : Int) < o.length) := by omega
      simp (disch := first | omega | (simp only [List.length_cons, List.length_nil, List.length_map, List.length_drop]; omega)) only [g, wrap_i64, ↓evPre, ↓evPreW, evPost, evPostW, ← List.map_take, ← List.map_drop, ↓reduceIte, reduceCtorEq, Nat.reduceEqDiff, forall_const, implies_true, Nat.reduceAdd, Nat.reduceSub, Nat.reduceMul, Nat.reduceLT, Nat.reduceLeDiff, Int.reduceToNat, Int.reduceAdd, Int.reduceSub, Int.reduceNeg, Int.reduceMul, Int.reduceLT, Int.reduceLE, Int.reduceEq]
      exact ⟨A, by simpa using hp, hs, rfl⟩
    | cons x B =>
      have h1' := h1 (by simp)
      subst h1'
      have g : ((A.length : Int) < o.length) := by simp only [List.length_cons] at hlen; omega
      simp (disch := first | omega | (simp only [List.length_cons, List.length_nil, List.length_map, List.length_drop]; omega)) only [g, wrap_i64, List.append_nil, ↓evPre, ↓evPreW, evPost, evPostW, ← List.map_take, ← List.map_drop, ↓reduceIte, reduceCtorEq, Nat.reduceEqDiff, forall_const, implies_true, Nat.reduceAdd, Nat.reduceSub, Nat.reduceMul, Nat.reduceLT, Nat.reduceLeDiff, Int.reduceToNat, Int.reduceAdd, Int.reduceSub, Int.reduceNeg, Int.reduceMul, Int.reduceLT, Int.reduceLE, Int.reduceEq]
      refine loopA (ι := List (List UInt8) × List (List UInt8)) (fun i => [(0, .msl S.length ver 0 o.length), (1, .int .i64 0), (2, .int .i64 o.length), (3, .func 19 [] []), (8, .int .i64 A.length), (9, .int .i64 i.1.length)])
        (fun i => S ++ [⟨ver, some (.arr 9 1 (sR (i.1 ++ x :: i.2 ++ B)))⟩]) (fun i => i.1 ++ i.2 = A ∧ ∀ y ∈ i.2, num x ≤ num y) (fun i => i.1.length) (A, []) ⟨by simp, by simp⟩ ?_ (by simp) ?_
      · simp only [↓evPre, ↓evPreW, evPost, evPostW, ← List.map_take, ← List.map_drop, ↓reduceIte, reduceCtorEq, Nat.reduceEqDiff, forall_const, implies_true, Nat.reduceAdd, Nat.reduceSub, Nat.reduceMul, Nat.reduceLT, Nat.reduceLeDiff, Int.reduceToNat, Int.reduceAdd, Int.reduceSub, Int.reduceNeg, Int.reduceMul, Int.reduceLT, Int.reduceLE, Int.reduceEq]
      · rintro ⟨A1, A2⟩ ⟨hA, hA2⟩
        simp only at hA hA2 ⊢
        have hAs : srtN (A1 ++ A2) := by rw [hA]; exact hs
        have hl1 : A1.length + A2.length = A.length := by rw [← hA]; simp
        have ex1 : (A.length : Int) + 1 = (A.length + 1 : Nat) := by omega
        have out : srtN (A1 ++ x :: A2) → ∃ i' : Nat × List (List UInt8) × List (List UInt8), ((i'.2.1 ++ i'.2.2).Perm o ∧ srtN i'.2.1 ∧ (i'.2.2 ≠ [] → i'.1 = i'.2.1.length) ∧ (i'.2.2 = [] → o.length ≤ i'.1) ∧ i'.1 ≤ o.length + 1) ∧ i'.2.2.length < B.length + 1 ∧
            ((A.length + 1 : Nat) : Int) = (i'.1 : Int) ∧ S ++ [⟨ver, some (.arr 9 1 (sR (A1 ++ x :: A2 ++ B)))⟩] = S ++ [⟨ver, some (.arr 9 1 (sR (i'.2.1 ++ i'.2.2)))⟩] := by
          intro hso
          refine ⟨(A.length + 1, A1 ++ x :: A2, B), ⟨?_, hso, fun _ => ?_, fun hB => ?_, ?_⟩, by simp, by simp, by simp⟩
          · refine List.Perm.trans ?_ hp
            rw [← hA]
            simp only [List.append_assoc, List.cons_append]
            refine List.Perm.append_left _ ?_
            exact (List.perm_middle (l₁ := A2)).symm
          · simp; omega
          · simp only at hB
            subst hB
            simp only [List.length_cons, List.length_nil] at hlen
            simp only; omega
          · simp only [List.length_cons] at hlen
            simp only; omega
        rcases List.eq_nil_or_concat A1 with rfl | ⟨A1', y, rfl⟩
        · have := out (srtN_insert hAs (by simp) hA2)
          have g0 : ¬ ((0 : Nat) : Int) > 0 := by omega
          simp (disch := first | omega | (simp only [List.length_cons, List.length_nil, List.length_map, List.length_drop]; omega)) only [ex1, wrap_i64, ↓evPre, ↓evPreW, evPost, evPostW, ← List.map_take, ← List.map_drop, ↓reduceIte, reduceCtorEq, Nat.reduceEqDiff, forall_const, implies_true, Nat.reduceAdd, Nat.reduceSub, Nat.reduceMul, Nat.reduceLT, Nat.reduceLeDiff, Int.reduceToNat, Int.reduceAdd, Int.reduceSub, Int.reduceNeg, Int.reduceMul, Int.reduceLT, Int.reduceLE, Int.reduceEq]
          simpa only [List.nil_append, List.cons_append] using this
        · simp only [List.concat_eq_append] at hA hAs hl1 out ⊢
          obtain ⟨Z, hZ⟩ : ∃ Z, Z = A2 ++ B := ⟨_, rfl⟩
          have hR : A1' ++ [y] ++ x :: A2 ++ B = A1' ++ y :: x :: Z := by rw [hZ]; simp
          have hR' : A1' ++ x :: (y :: A2) ++ B = A1' ++ x :: y :: Z := by rw [hZ]; simp
          have hj : (A1' ++ [y]).length = A1'.length + 1 := by simp
          have hlX : A1'.length + 1 < o.length := by
            simp only [List.length_append, List.length_cons, List.length_nil] at hl1 hlen
            omega
          have ej : ((A1'.length + 1 : Nat) : Int) - 1 = A1'.length := by omega
          have ga : (0 : Int) < (A1'.length + 1 : Nat) := by omega
          rw [hR] at out
          rw [hR, hj]
          simp (disch := first | omega | (simp only [List.length_cons, List.length_nil, List.length_map, List.length_drop]; omega)) only [ga, ej, idxO_some, sR_get, adj_get0, adj_get1, wrap_i64, Nat.le_refl, evSt, ↓evPre, ↓evPreW, evPost, evPostW, ← List.map_take, ← List.map_drop, ↓reduceIte, reduceCtorEq, Nat.reduceEqDiff, forall_const, implies_true, Nat.reduceAdd, Nat.reduceSub, Nat.reduceMul, Nat.reduceLT, Nat.reduceLeDiff, Int.reduceToNat, Int.reduceAdd, Int.reduceSub, Int.reduceNeg, Int.reduceMul, Int.reduceLT, Int.reduceLE, Int.reduceEq]
          refine (order_A x y _).then ?_
          by_cases hlt : num x < num y
          · have hc : cmpF (num x) (num y) < 0 := by rw [cmpF, if_pos hlt]; decide
            simp (disch := first | omega | (simp only [List.length_cons, List.length_nil, List.length_map, List.length_drop]; omega)) only [hc, ej, idxO_some, sR_get, adj_get0, adj_get1, sR_set, adj_set0, adj_set1, wrap_i64, Nat.le_refl, evSt, ↓evPre, ↓evPreW, evPost, evPostW, ← List.map_take, ← List.map_drop, ↓reduceIte, reduceCtorEq, Nat.reduceEqDiff, forall_const, implies_true, Nat.reduceAdd, Nat.reduceSub, Nat.reduceMul, Nat.reduceLT, Nat.reduceLeDiff, Int.reduceToNat, Int.reduceAdd, Int.reduceSub, Int.reduceNeg, Int.reduceMul, Int.reduceLT, Int.reduceLE, Int.reduceEq]
            refine ⟨(A1', y :: A2), ⟨by rw [← hA]; simp, fun z hz => ?_⟩, by simp, ?_, by rw [hR']⟩
            · rcases List.mem_cons.1 hz with rfl | hz
              · omega
              · exact hA2 z hz
            · simp
          · have hc : ¬ cmpF (num x) (num y) < 0 := by rw [cmpF, if_neg hlt]; split <;> decide
            have := out (srtN_insert hAs (fun u hu => by
              rcases List.mem_append.1 hu with hu | hu
              · have hpw := hAs
                unfold srtN at hpw
                rw [List.append_assoc, List.pairwise_append] at hpw
                have := hpw.2.2 u hu y (by simp)
                omega
              · simp only [List.mem_singleton] at hu
                subst hu
                omega) hA2)
            simp (disch := first | omega | (simp only [List.length_cons, List.length_nil, List.length_map, List.length_drop]; omega)) only [hc, ex1, wrap_i64, ↓evPre, ↓evPreW, evPost, evPostW, ← List.map_take, ← List.map_drop, ↓reduceIte, reduceCtorEq, Nat.reduceEqDiff, forall_const, implies_true, Nat.reduceAdd, Nat.reduceSub, Nat.reduceMul, Nat.reduceLT, Nat.reduceLeDiff, Int.reduceToNat, Int.reduceAdd, Int.reduceSub, Int.reduceNeg, Int.reduceMul, Int.reduceLT, Int.reduceLE, Int.reduceEq]
            exact this
end Go.Proofs.Ytnepgfplikifjaa
