/- The reference reads characters as numbers; whether a text is a record locator. -/
import Derived.Test.YtnepgfplikifjaaLoc3
namespace Go.Proofs.Ytnepgfplikifjaa
open Go Go.AL
set_option linter.unusedSimpArgs false
set_option maxHeartbeats 2000000

theorem list5 {α : Type} {l : List α} (h : l.length = 5) : ∃ a b c d e, l = [a, b, c, d, e] := by
  match l, h with
  | [a, b, c, d, e], _ => exact ⟨a, b, c, d, e, rfl⟩

theorem digs_hn {vs : List Int} (hl : vs.length = 5) (h : small vs) : digs (hn vs 5) = vs ∧ 0 ≤ hn vs 5 ∧ hn vs 5 < 33554432 := by
  obtain ⟨a, b, c, d, e, rfl⟩ := list5 hl
  have ha := h a (by simp)
  have hb := h b (by simp)
  have hc := h c (by simp)
  have hd := h d (by simp)
  have he := h e (by simp)
  simp only [hn, digs, numAt, List.getD_eq_getElem?_getD, List.getElem?_cons_zero, List.getElem?_cons_succ, Option.getD_some]
  refine ⟨?_, by omega, by omega⟩
  simp only [List.cons.injEq, and_true]
  omega

theorem hn_digs {n : Int} (h : 0 ≤ n ∧ n < 33554432) : hn (digs n) 5 = n := by
  simp only [hn, digs, numAt, List.getD_eq_getElem?_getD, List.getElem?_cons_zero, List.getElem?_cons_succ, Option.getD_some]
  omega

theorem atc_ix {c : UInt8} (h : 0 ≤ ix c) : atc (ix c) = c := by
  rcases ix_cases c with h1 | ⟨i, h1, h2, h3⟩
  · omega
  · rw [h1, atc, Int.toNat_natCast, List.getD_eq_getElem?_getD, h3]
    rfl

theorem ix_atc {v : Int} (h : 0 ≤ v ∧ v ≤ 31) : ix (atc v) = v := by
  have := ix_ab ⟨v.toNat, by omega⟩
  simp only at this
  rw [atc, this]
  omega

/-- A right text is what its number is written as. -/
theorem good_iff {s : List UInt8} : good s = true ↔ s.length = 6 ∧ (∀ v ∈ vals s, 0 ≤ v) ∧ s = enc (vals s) := by
  simp only [good, Bool.and_eq_true, decide_eq_true_eq, List.all_eq_true]
  constructor
  · rintro ⟨⟨h1, h2⟩, h3⟩
    refine ⟨h1, h2, ?_⟩
    have e : s = s.take 5 ++ [s.getD 5 0] := by
      have : s.drop 5 = [s.getD 5 0] := by
        rw [List.drop_eq_getElem_cons (by omega), List.getD_eq_getElem?_getD, List.getElem?_eq_getElem (by omega), List.drop_eq_nil_of_le (by omega)]
        rfl
      rw [← this, List.take_append_drop]
    have e2 : (vals s).map atc = s.take 5 := by
      rw [vals, List.map_map]
      refine (List.map_congr_left fun c hc => ?_).trans (List.map_id _)
      exact atc_ix (h2 (ix c) (List.mem_map_of_mem hc))
    rw [enc, e2, ← h3]
    exact e
  · rintro ⟨h1, h2, h3⟩
    refine ⟨⟨h1, h2⟩, ?_⟩
    have hl : ((vals s).map atc).length = 5 := by simp [vals]; omega
    have : s.getD 5 0 = (enc (vals s)).getD 5 0 := congrArg (fun l => l.getD 5 0) h3
    rw [this, enc, List.getD_eq_getElem?_getD, List.getElem?_append_right (by omega), hl]
    rfl

theorem vals_enc {vs : List Int} (hl : vs.length = 5) (h : small vs) : vals (enc vs) = vs := by
  have : (enc vs).take 5 = vs.map atc := by rw [enc, List.take_left' (by simp [hl])]
  rw [vals, this, List.map_map]
  refine (List.map_congr_left fun v hv => ?_).trans (List.map_id _)
  exact ix_atc (h v hv)

theorem good_enc {vs : List Int} (hl : vs.length = 5) (h : small vs) : good (enc vs) = true := by
  rw [good_iff, vals_enc hl h]
  exact ⟨by simp [enc, hl], fun v hv => (h v hv).1, rfl⟩

theorem refnumber_A (s : List UInt8) (S : Store) (hs : s.length ≤ 1000000) : CallA Try.prog 10 [.str s] S fun r S' => r = .tup [.int .i64 (numF s).1, .int .i64 (numF s).2] ∧ S' = S := by
  refine CallA.keep Try.func10 c10 (Nat.le_of_ble_eq_true rfl) fun σ hσ => ?_
  have bad : good s = false → numF s = (0, 3) := fun h => by rw [numF, h]; rfl
  have hvl : (vals s).length = min 5 s.length := by simp [vals]
  simp only [a10, ↓evPre, ↓evPreW, evPost, evPostW, ← List.map_take, ← List.map_drop, ↓reduceIte, reduceCtorEq, Nat.reduceEqDiff, forall_const, implies_true, Nat.reduceAdd, Nat.reduceSub, Nat.reduceMul, Nat.reduceLT, Nat.reduceLeDiff, Int.reduceToNat, Int.reduceAdd, Int.reduceSub, Int.reduceNeg, Int.reduceMul, Int.reduceLT, Int.reduceLE, Int.reduceEq]
  refine loopA (ι := Nat) (fun k => [(0, .str s), (4, .int .i64 (hn (vals s) k)), (5, .int .i64 k)]) (fun _ => S) (fun k => k ≤ 5 ∧ k ≤ s.length ∧ ∀ j, j < k → 0 ≤ (vals s).getD j 0 ∧ (vals s).getD j 0 ≤ 31) (fun k => 5 - k) 0 ⟨Nat.zero_le _, Nat.zero_le _, fun j hj => by omega⟩ ?_ rfl ?_
  · simp only [hn, ↓evPre, ↓evPreW, evPost, evPostW, ← List.map_take, ← List.map_drop, ↓reduceIte, reduceCtorEq, Nat.reduceEqDiff, forall_const, implies_true, Nat.reduceAdd, Nat.reduceSub, Nat.reduceMul, Nat.reduceLT, Nat.reduceLeDiff, Int.reduceToNat, Int.reduceAdd, Int.reduceSub, Int.reduceNeg, Int.reduceMul, Int.reduceLT, Int.reduceLE, Int.reduceEq]
  · rintro k ⟨hk, hks, hv⟩
    have hb := hn_bound k hv
    have hp := pow_le hk
    -- behind the loop
    have fin : k = min 5 s.length → (ofF (hn (vals s) k)).1 = enc (digs (hn (vals s) k)) ∧ (ofF (hn (vals s) k)).2 = 0 ∧ (enc (digs (hn (vals s) k)) = s ↔ good s = true) ∧ hn (vals s) k = hn (vals s) k := by
      intro hkm
      have hF : ofF (hn (vals s) k) = (enc (digs (hn (vals s) k)), 0) := by rw [ofF, if_neg (by omega)]
      refine ⟨by rw [hF], by rw [hF], ?_, rfl⟩
      have hall : ∀ v ∈ vals s, 0 ≤ v := fun v hm => by
        obtain ⟨j, hj⟩ := List.getElem?_of_mem hm
        have := (hv j (by have := (List.getElem?_eq_some_iff.1 hj).1; omega)).1
        rw [List.getD_eq_getElem?_getD, hj] at this
        exact this
      by_cases h6 : s.length = 6
      · have hk5 : k = 5 := by omega
        subst hk5
        obtain ⟨d1, _⟩ := digs_hn (vs := vals s) (by omega) (vals_small hall)
        rw [d1, good_iff]
        exact ⟨fun h => ⟨h6, hall, h.symm⟩, fun h => h.2.2.symm⟩
      · constructor
        · intro h
          exfalso
          have := congrArg List.length h
          simp [enc, digs] at this
          omega
        · intro h
          exact absurd (good_iff.1 h).1 h6
    have done : k = min 5 s.length → ∀ R : V → Store → Prop, True := fun _ _ => trivial
    by_cases hlt : (k : Int) < s.length
    · by_cases hlt5 : (k : Int) < 5
      · obtain ⟨c, hc⟩ : ∃ c, s[k]? = some c := ⟨s[k]'(by omega), List.getElem?_eq_getElem _⟩
        have hvk := vals_get (by omega) hc
        have hgd : (vals s).getD k 0 = ix c := by rw [List.getD_eq_getElem?_getD, hvk]; rfl
        simp (disch := first | omega | (simp only [List.length_cons, List.length_nil, List.length_map, List.length_drop]; omega)) only [hlt, hlt5, hc, wrap_i64, ↓evPre, ↓evPreW, evPost, evPostW, ← List.map_take, ← List.map_drop, ↓reduceIte, reduceCtorEq, Nat.reduceEqDiff, forall_const, implies_true, Nat.reduceAdd, Nat.reduceSub, Nat.reduceMul, Nat.reduceLT, Nat.reduceLeDiff, Int.reduceToNat, Int.reduceAdd, Int.reduceSub, Int.reduceNeg, Int.reduceMul, Int.reduceLT, Int.reduceLE, Int.reduceEq]
        refine (value_A c _).then ?_
        rcases ix_cases c with hx | ⟨i, hx, hi, hai⟩
        · have hbad : good s = false := by
            have : (vals s).all (fun v => decide (0 ≤ v)) = false := by
              rw [List.all_eq_false]
              exact ⟨ix c, List.mem_of_getElem? hvk, by rw [hx]; decide⟩
            simp [good, this]
          have h0 : ix c < 0 := by omega
          simp (disch := first | omega | (simp only [List.length_cons, List.length_nil, List.length_map, List.length_drop]; omega)) only [h0, wrap_i64, bad hbad, ↓evPre, ↓evPreW, evPost, evPostW, ← List.map_take, ← List.map_drop, ↓reduceIte, reduceCtorEq, Nat.reduceEqDiff, forall_const, implies_true, Nat.reduceAdd, Nat.reduceSub, Nat.reduceMul, Nat.reduceLT, Nat.reduceLeDiff, Int.reduceToNat, Int.reduceAdd, Int.reduceSub, Int.reduceNeg, Int.reduceMul, Int.reduceLT, Int.reduceLE, Int.reduceEq]
        · have h0 : ¬ ix c < 0 := by omega
          simp (disch := first | omega | (simp only [List.length_cons, List.length_nil, List.length_map, List.length_drop]; omega)) only [h0, hc, wrap_i64, ↓evPre, ↓evPreW, evPost, evPostW, ← List.map_take, ← List.map_drop, ↓reduceIte, reduceCtorEq, Nat.reduceEqDiff, forall_const, implies_true, Nat.reduceAdd, Nat.reduceSub, Nat.reduceMul, Nat.reduceLT, Nat.reduceLeDiff, Int.reduceToNat, Int.reduceAdd, Int.reduceSub, Int.reduceNeg, Int.reduceMul, Int.reduceLT, Int.reduceLE, Int.reduceEq]
          refine (value_A c _).then ?_
          simp (disch := first | omega | (simp only [List.length_cons, List.length_nil, List.length_map, List.length_drop]; omega)) only [wrap_i64, ↓evPre, ↓evPreW, evPost, evPostW, ← List.map_take, ← List.map_drop, ↓reduceIte, reduceCtorEq, Nat.reduceEqDiff, forall_const, implies_true, Nat.reduceAdd, Nat.reduceSub, Nat.reduceMul, Nat.reduceLT, Nat.reduceLeDiff, Int.reduceToNat, Int.reduceAdd, Int.reduceSub, Int.reduceNeg, Int.reduceMul, Int.reduceLT, Int.reduceLE, Int.reduceEq]
          refine ⟨k + 1, ⟨by omega, by omega, fun j hj => ?_⟩, by omega, ?_, by omega⟩
          · by_cases hjk : j = k
            · subst hjk
              rw [hgd]
              omega
            · exact hv j (by omega)
          · rw [hn, hgd]; omega
      · obtain ⟨f1, f2, f3, _⟩ := fin (by omega)
        simp (disch := first | omega | (simp only [List.length_cons, List.length_nil, List.length_map, List.length_drop]; omega)) only [hlt, hlt5, wrap_i64, ↓evPre, ↓evPreW, evPost, evPostW, ← List.map_take, ← List.map_drop, ↓reduceIte, reduceCtorEq, Nat.reduceEqDiff, forall_const, implies_true, Nat.reduceAdd, Nat.reduceSub, Nat.reduceMul, Nat.reduceLT, Nat.reduceLeDiff, Int.reduceToNat, Int.reduceAdd, Int.reduceSub, Int.reduceNeg, Int.reduceMul, Int.reduceLT, Int.reduceLE, Int.reduceEq]
        refine (refof_A _ S).then ?_
        by_cases hg : good s = true
        · have he := f3.2 hg
          have hN : numF s = (hn (vals s) k, 0) := by
            have hk5 : k = 5 := by omega
            rw [numF, if_pos hg, hk5]
          simp (disch := first | omega | (simp only [List.length_cons, List.length_nil, List.length_map, List.length_drop]; omega)) only [f1, f2, he, hN, decide_true, ↓evPre, ↓evPreW, evPost, evPostW, ← List.map_take, ← List.map_drop, ↓reduceIte, reduceCtorEq, Nat.reduceEqDiff, forall_const, implies_true, Nat.reduceAdd, Nat.reduceSub, Nat.reduceMul, Nat.reduceLT, Nat.reduceLeDiff, Int.reduceToNat, Int.reduceAdd, Int.reduceSub, Int.reduceNeg, Int.reduceMul, Int.reduceLT, Int.reduceLE, Int.reduceEq]
        · have he : ¬ enc (digs (hn (vals s) k)) = s := fun h => hg (f3.1 h)
          have hN := bad (by simpa using hg)
          simp (disch := first | omega | (simp only [List.length_cons, List.length_nil, List.length_map, List.length_drop]; omega)) only [f1, f2, he, hN, decide_true, ↓evPre, ↓evPreW, evPost, evPostW, ← List.map_take, ← List.map_drop, ↓reduceIte, reduceCtorEq, Nat.reduceEqDiff, forall_const, implies_true, Nat.reduceAdd, Nat.reduceSub, Nat.reduceMul, Nat.reduceLT, Nat.reduceLeDiff, Int.reduceToNat, Int.reduceAdd, Int.reduceSub, Int.reduceNeg, Int.reduceMul, Int.reduceLT, Int.reduceLE, Int.reduceEq]
    · obtain ⟨f1, f2, f3, _⟩ := fin (by omega)
      simp (disch := first | omega | (simp only [List.length_cons, List.length_nil, List.length_map, List.length_drop]; omega)) only [hlt, wrap_i64, ↓evPre, ↓evPreW, evPost, evPostW, ← List.map_take, ← List.map_drop, ↓reduceIte, reduceCtorEq, Nat.reduceEqDiff, forall_const, implies_true, Nat.reduceAdd, Nat.reduceSub, Nat.reduceMul, Nat.reduceLT, Nat.reduceLeDiff, Int.reduceToNat, Int.reduceAdd, Int.reduceSub, Int.reduceNeg, Int.reduceMul, Int.reduceLT, Int.reduceLE, Int.reduceEq]
      refine (refof_A _ S).then ?_
      by_cases hg : good s = true
      · have := (good_iff.1 hg).1
        omega
      · have he : ¬ enc (digs (hn (vals s) k)) = s := fun h => hg (f3.1 h)
        have hN := bad (by simpa using hg)
        simp (disch := first | omega | (simp only [List.length_cons, List.length_nil, List.length_map, List.length_drop]; omega)) only [f1, f2, he, hN, decide_true, ↓evPre, ↓evPreW, evPost, evPostW, ← List.map_take, ← List.map_drop, ↓reduceIte, reduceCtorEq, Nat.reduceEqDiff, forall_const, implies_true, Nat.reduceAdd, Nat.reduceSub, Nat.reduceMul, Nat.reduceLT, Nat.reduceLeDiff, Int.reduceToNat, Int.reduceAdd, Int.reduceSub, Int.reduceNeg, Int.reduceMul, Int.reduceLT, Int.reduceLE, Int.reduceEq]

theorem right_A (s : List UInt8) (S : Store) : CallA Try.prog 11 [.str s] S fun r S' => r = .bool (good s) ∧ S' = S := by
  refine CallA.keep Try.func11 c11 (Nat.le_of_ble_eq_true rfl) fun σ hσ => ?_
  simp only [a11, ↓evPre, ↓evPreW, evPost, evPostW, ← List.map_take, ← List.map_drop, ↓reduceIte, reduceCtorEq, Nat.reduceEqDiff, forall_const, implies_true, Nat.reduceAdd, Nat.reduceSub, Nat.reduceMul, Nat.reduceLT, Nat.reduceLeDiff, Int.reduceToNat, Int.reduceAdd, Int.reduceSub, Int.reduceNeg, Int.reduceMul, Int.reduceLT, Int.reduceLE, Int.reduceEq]
  refine (number_A s S).then ?_
  cases hg : good s
  · have : (numF s).2 = 3 := by rw [numF, hg]; rfl
    simp only [this, ↓evPre, ↓evPreW, evPost, evPostW, ← List.map_take, ← List.map_drop, ↓reduceIte, reduceCtorEq, Nat.reduceEqDiff, forall_const, implies_true, Nat.reduceAdd, Nat.reduceSub, Nat.reduceMul, Nat.reduceLT, Nat.reduceLeDiff, Int.reduceToNat, Int.reduceAdd, Int.reduceSub, Int.reduceNeg, Int.reduceMul, Int.reduceLT, Int.reduceLE, Int.reduceEq]
  · have : (numF s).2 = 0 := by rw [numF, hg]; rfl
    simp only [this, decide_true, ↓evPre, ↓evPreW, evPost, evPostW, ← List.map_take, ← List.map_drop, ↓reduceIte, reduceCtorEq, Nat.reduceEqDiff, forall_const, implies_true, Nat.reduceAdd, Nat.reduceSub, Nat.reduceMul, Nat.reduceLT, Nat.reduceLeDiff, Int.reduceToNat, Int.reduceAdd, Int.reduceSub, Int.reduceNeg, Int.reduceMul, Int.reduceLT, Int.reduceLE, Int.reduceEq]

theorem refright_A (s : List UInt8) (S : Store) (hs : s.length ≤ 1000000) : CallA Try.prog 12 [.str s] S fun r S' => r = .bool (good s) ∧ S' = S := by
  refine CallA.keep Try.func12 c12 (Nat.le_of_ble_eq_true rfl) fun σ hσ => ?_
  simp only [a12, ↓evPre, ↓evPreW, evPost, evPostW, ← List.map_take, ← List.map_drop, ↓reduceIte, reduceCtorEq, Nat.reduceEqDiff, forall_const, implies_true, Nat.reduceAdd, Nat.reduceSub, Nat.reduceMul, Nat.reduceLT, Nat.reduceLeDiff, Int.reduceToNat, Int.reduceAdd, Int.reduceSub, Int.reduceNeg, Int.reduceMul, Int.reduceLT, Int.reduceLE, Int.reduceEq]
  refine (refnumber_A s S hs).then ?_
  cases hg : good s
  · have : (numF s).2 = 3 := by rw [numF, hg]; rfl
    simp only [this, ↓evPre, ↓evPreW, evPost, evPostW, ← List.map_take, ← List.map_drop, ↓reduceIte, reduceCtorEq, Nat.reduceEqDiff, forall_const, implies_true, Nat.reduceAdd, Nat.reduceSub, Nat.reduceMul, Nat.reduceLT, Nat.reduceLeDiff, Int.reduceToNat, Int.reduceAdd, Int.reduceSub, Int.reduceNeg, Int.reduceMul, Int.reduceLT, Int.reduceLE, Int.reduceEq]
  · have : (numF s).2 = 0 := by rw [numF, hg]; rfl
    simp only [this, decide_true, ↓evPre, ↓evPreW, evPost, evPostW, ← List.map_take, ← List.map_drop, ↓reduceIte, reduceCtorEq, Nat.reduceEqDiff, forall_const, implies_true, Nat.reduceAdd, Nat.reduceSub, Nat.reduceMul, Nat.reduceLT, Nat.reduceLeDiff, Int.reduceToNat, Int.reduceAdd, Int.reduceSub, Int.reduceNeg, Int.reduceMul, Int.reduceLT, Int.reduceLE, Int.reduceEq]
end Go.Proofs.Ytnepgfplikifjaa
