/- The reference's differences and merged states. -/
import Derived.Test.YtdkcicbpcagonaaRec7
namespace Go.Proofs.Ytdkcicbpcagonaa
open Go Go.AL
set_option linter.unusedSimpArgs false
set_option linter.unusedVariables false

theorem diffs_none {b : List St} {x : St} (h : b.find? (sameS x) = none) : diffs b x = false := by rw [diffs, firsts_find, h]
theorem diffs_some {b : List St} {x y : St} (h : b.find? (sameS x) = some y) : diffs b x = decide (y.v ≠ x.v ∨ y.s ≠ x.s) := by
  rw [diffs, firsts_find, h]
  have hs := find_same h
  obtain ⟨t, c, v, s⟩ := x
  obtain ⟨t', c', v', s'⟩ := y
  simp only [sameS, decide_eq_true_eq] at hs
  obtain ⟨rfl, rfl⟩ := hs
  simp only [St.mk.injEq, true_and, ne_eq, Classical.not_and_iff_not_or_not]

/-- The store at a loop's head: the list alone. -/
def liStore (S : Store) (out : List St) (v : Nat) : Store := S ++ [⟨v, some (.arr 29 4 (out.map stR))⟩]
theorem li_back {S : Store} (hn : Neat S) {out : List St} {v : Nat} {E E1 : Env} {T : Store} {R : List (List V)} (hE : sub E1 E) (hu : (E1.all fun p => p.2.under (S.length + 1)) = true) (hR : R = out.map stR) :
    Back E1 (liStore S out v) E (S ++ ⟨v, some (.arr 29 4 R)⟩ :: T) := by
  subst hR
  exact back_under (hn.fgtL (L1 := [⟨v, some (.arr 29 4 (out.map stR))⟩]) (L := ⟨v, some (.arr 29 4 (out.map stR))⟩ :: T) ⟨rfl, ⟨_, rfl, .imm (stR_imm _)⟩, fgtL_nil⟩) hE (by simpa [liStore] using hu)
theorem li_fin {S : Store} (hn : Neat S) {out : List St} {v n : Nat} {R : V → Store → Prop} {T : Store} (hl : n = out.length) (h : R (stSl out) S) : ∃ r1 S1, Fgt (S ++ ⟨v, some (.arr 29 4 (out.map stR))⟩ :: T) S1 ∧ Frz (S ++ ⟨v, some (.arr 29 4 (out.map stR))⟩ :: T) S1 (.msl S.length v 0 n) r1 ∧ S.length ≤ S1.length ∧ R r1 S1 := by
  subst hl
  exact ⟨stSl out, S, hn.fgt _, .sl (t := 29) (Nat.le_refl _) (by simp (disch := first | omega | (simp only [List.length_cons, List.length_nil, List.length_map, List.length_drop]; omega)) only [evSt, ↓evPre, ↓evPreW, evPost, evPostW, ← List.map_take, ← List.map_drop, ↓reduceIte, reduceCtorEq, Nat.reduceEqDiff, forall_const, implies_true, Nat.reduceAdd, Nat.reduceSub, Nat.reduceMul, Nat.reduceLT, Nat.reduceLeDiff, Int.reduceToNat, Int.reduceAdd, Int.reduceSub, Int.reduceNeg, Int.reduceMul, Int.reduceLT, Int.reduceLE, Int.reduceEq]) (by simp) (stR_imm _), Nat.le_refl _, h⟩

theorem differR_A (a b : List St) (S : Store) (ha : a.length ≤ 1000) (hb : b.length ≤ 1000) : CallA Try.prog 29 [stSl a, stSl b] S fun r S' => (∃ d, Asc d ∧ d.Perm ((firsts a).filter (diffs b)) ∧ r = stSl d) ∧ S' = S := by
  refine CallA.withNeat Try.func29 c29 fun hn => ?_
  refine CallA.fin Try.func29 c29 (Nat.le_of_ble_eq_true rfl) fun σ hσ => ?_
  simp (disch := first | omega | (simp only [List.length_cons, List.length_nil, List.length_map, List.length_drop]; omega)) only [a29, evSt, ↓evPre, ↓evPreW, evPost, evPostW, ← List.map_take, ← List.map_drop, ↓reduceIte, reduceCtorEq, Nat.reduceEqDiff, forall_const, implies_true, Nat.reduceAdd, Nat.reduceSub, Nat.reduceMul, Nat.reduceLT, Nat.reduceLeDiff, Int.reduceToNat, Int.reduceAdd, Int.reduceSub, Int.reduceNeg, Int.reduceMul, Int.reduceLT, Int.reduceLE, Int.reduceEq]
  refine (coupons_A a S (by omega)).then ?_
  have hcl := coup_len a
  have hca := coup_asc a
  have hcp := coup_perm a
  generalize coup a = c at hcl hca hcp ⊢
  simp (disch := first | omega | (simp only [List.length_cons, List.length_nil, List.length_map, List.length_drop]; omega)) only [evSt, ↓evPre, ↓evPreW, evPost, evPostW, ← List.map_take, ← List.map_drop, ↓reduceIte, reduceCtorEq, Nat.reduceEqDiff, forall_const, implies_true, Nat.reduceAdd, Nat.reduceSub, Nat.reduceMul, Nat.reduceLT, Nat.reduceLeDiff, Int.reduceToNat, Int.reduceAdd, Int.reduceSub, Int.reduceNeg, Int.reduceMul, Int.reduceLT, Int.reduceLE, Int.reduceEq]
  refine LoopA.ghost 5 0 29 4 (by simp only [↓evPre, ↓evPreW, evPost, evPostW, ← List.map_take, ← List.map_drop, ↓reduceIte, reduceCtorEq, Nat.reduceEqDiff, forall_const, implies_true, Nat.reduceAdd, Nat.reduceSub, Nat.reduceMul, Nat.reduceLT, Nat.reduceLeDiff, Int.reduceToNat, Int.reduceAdd, Int.reduceSub, Int.reduceNeg, Int.reduceMul, Int.reduceLT, Int.reduceLE, Int.reduceEq]) ?_
  refine loopF (ι := Nat × Nat) (fun p => [(1, stSl b), (6, stSl c), (7, .int .i64 p.1), (5, .msl S.length p.2 0 ((c.take p.1).filter (diffs b)).length)]) (fun p => liStore S ((c.take p.1).filter (diffs b)) p.2) (fun p => p.1 ≤ c.length) (fun p => c.length - p.1) (fun p _ => by rw [hσ]; simp [liStore])
    (0, 0) (Nat.zero_le _) (.inl ⟨?_, ?_⟩) ?_
  · simp (disch := first | omega | (simp only [List.length_cons, List.length_nil, List.length_map, List.length_drop]; omega)) only [List.filter_nil, evSt, ↓evPre, ↓evPreW, evPost, evPostW, ← List.map_take, ← List.map_drop, ↓reduceIte, reduceCtorEq, Nat.reduceEqDiff, forall_const, implies_true, Nat.reduceAdd, Nat.reduceSub, Nat.reduceMul, Nat.reduceLT, Nat.reduceLeDiff, Int.reduceToNat, Int.reduceAdd, Int.reduceSub, Int.reduceNeg, Int.reduceMul, Int.reduceLT, Int.reduceLE, Int.reduceEq]
  · rfl
  rintro ⟨k, v⟩ hk
  simp only at hk ⊢
  have hol : ((c.take k).filter (diffs b)).length ≤ 1000 := by
    have h1 := List.length_filter_le (diffs b) (c.take k)
    simp only [List.length_take] at h1
    omega
  cases hc : c[k]? with
  | none =>
    have hge : c.length ≤ k := List.getElem?_eq_none_iff.1 hc
    have hlt : ¬ ((k : Int) < c.length) := by omega
    rw [List.take_of_length_le hge] at hol ⊢
    simp (disch := first | omega | (simp only [List.length_cons, List.length_nil, List.length_map, List.length_drop]; omega)) only [stSl, liStore, List.length_map, hlt, decide_false, evSt, ↓evPre, ↓evPreW, evPost, evPostW, ← List.map_take, ← List.map_drop, ↓reduceIte, reduceCtorEq, Nat.reduceEqDiff, forall_const, implies_true, Nat.reduceAdd, Nat.reduceSub, Nat.reduceMul, Nat.reduceLT, Nat.reduceLeDiff, Int.reduceToNat, Int.reduceAdd, Int.reduceSub, Int.reduceNeg, Int.reduceMul, Int.reduceLT, Int.reduceLE, Int.reduceEq]
    exact li_fin hn rfl ⟨⟨_, hca.sublist List.filter_sublist, hcp.filter _, rfl⟩, rfl⟩
  | some x =>
    have hlt' := (List.getElem?_eq_some_iff.1 hc).1
    have hlt : (k : Int) < c.length := by omega
    have hnx : (c.take (k + 1)).filter (diffs b) = (c.take k).filter (diffs b) ++ if diffs b x then [x] else [] := by
      rw [List.take_add_one, hc, Option.toList_some, List.filter_append]
      congr 1
      cases hd : diffs b x <;> simp [hd]
    generalize ho : (c.take k).filter (diffs b) = out at hol hnx ⊢
    simp (disch := first | omega | (simp only [List.length_cons, List.length_nil, List.length_map, List.length_drop]; omega)) only [stSl, liStore, stR, List.length_map, List.getElem?_map, Option.map_some, hc, hlt, decide_true, evSt, ↓evPre, ↓evPreW, evPost, evPostW, ← List.map_take, ← List.map_drop, ↓reduceIte, reduceCtorEq, Nat.reduceEqDiff, forall_const, implies_true, Nat.reduceAdd, Nat.reduceSub, Nat.reduceMul, Nat.reduceLT, Nat.reduceLeDiff, Int.reduceToNat, Int.reduceAdd, Int.reduceSub, Int.reduceNeg, Int.reduceMul, Int.reduceLT, Int.reduceLE, Int.reduceEq]
    refine (find_A b x _ (by omega)).then ?_
    have hskip : diffs b x = false → ∀ (E : Env) (T : Store), sub [(1, stSl b), (6, stSl c), (7, .int .i64 ((k + 1 : Nat) : Int)), (5, .msl S.length v 0 out.length)] E → ∃ p : Nat × Nat, p.1 ≤ c.length ∧ c.length - p.1 < c.length - k ∧
        Back [(1, stSl b), (6, stSl c), (7, .int .i64 (p.1 : Nat)), (5, .msl S.length p.2 0 ((c.take p.1).filter (diffs b)).length)] (liStore S ((c.take p.1).filter (diffs b)) p.2) E (S ++ ⟨v, some (.arr 29 4 (out.map stR))⟩ :: T) := by
      intro hd E T hE
      rw [hd] at hnx
      simp only [Bool.false_eq_true, if_false, List.append_nil] at hnx
      refine ⟨(k + 1, v), by simp only; omega, by simp only; omega, ?_⟩
      simp only [hnx]
      exact li_back hn hE (by simp [V.under, stSl]) rfl
    have hadd : diffs b x = true → ∀ (E : Env) (T : Store), sub [(1, stSl b), (6, stSl c), (7, .int .i64 ((k + 1 : Nat) : Int)), (5, .msl S.length (v + 1) 0 (out.length + 1))] E → ∃ p : Nat × Nat, p.1 ≤ c.length ∧ c.length - p.1 < c.length - k ∧
        Back [(1, stSl b), (6, stSl c), (7, .int .i64 (p.1 : Nat)), (5, .msl S.length p.2 0 ((c.take p.1).filter (diffs b)).length)] (liStore S ((c.take p.1).filter (diffs b)) p.2) E (S ++ ⟨v + 1, some (.arr 29 4 (out.map stR ++ [[.int .i64 x.t, .int .i64 x.c, .int .i64 x.v, .int .i64 x.s]]))⟩ :: T) := by
      intro hd E T hE
      rw [hd] at hnx
      simp only [if_true] at hnx
      refine ⟨(k + 1, v + 1), by simp only; omega, by simp only; omega, ?_⟩
      simp only [hnx, List.length_append, List.length_cons, List.length_nil]
      exact li_back hn hE (by simp [V.under, stSl]) (by simp [stR])
    cases hg : b.find? (sameS x) with
    | none =>
      have hd := diffs_none hg
      simp (disch := first | omega | (simp only [List.length_cons, List.length_nil, List.length_map, List.length_drop]; omega)) only [stSl, stV, stR, wrap_i64, List.length_map, List.getElem?_map, Option.map_some, Option.getD_none, Option.isSome_none, hc, hlt, decide_true, evSt, ↓evPre, ↓evPreW, evPost, evPostW, ← List.map_take, ← List.map_drop, ↓reduceIte, reduceCtorEq, Nat.reduceEqDiff, forall_const, implies_true, Nat.reduceAdd, Nat.reduceSub, Nat.reduceMul, Nat.reduceLT, Nat.reduceLeDiff, Int.reduceToNat, Int.reduceAdd, Int.reduceSub, Int.reduceNeg, Int.reduceMul, Int.reduceLT, Int.reduceLE, Int.reduceEq]
      exact hskip hd _ _ ⟨rfl, rfl, rfl, rfl, trivial⟩
    | some y =>
      have hd := diffs_some hg
      by_cases h1 : y.v = x.v
      · by_cases h2 : y.s = x.s
        · rw [h1, h2] at hd
          simp only [ne_eq, not_true_eq_false, or_self, decide_false] at hd
          simp (disch := first | omega | (simp only [List.length_cons, List.length_nil, List.length_map, List.length_drop]; omega)) only [stSl, stV, stR, wrap_i64, List.length_map, List.getElem?_map, Option.map_some, Option.getD_some, Option.isSome_some, hc, hlt, dT h1, dT h2, decide_true, evSt, ↓evPre, ↓evPreW, evPost, evPostW, ← List.map_take, ← List.map_drop, ↓reduceIte, reduceCtorEq, Nat.reduceEqDiff, forall_const, implies_true, Nat.reduceAdd, Nat.reduceSub, Nat.reduceMul, Nat.reduceLT, Nat.reduceLeDiff, Int.reduceToNat, Int.reduceAdd, Int.reduceSub, Int.reduceNeg, Int.reduceMul, Int.reduceLT, Int.reduceLE, Int.reduceEq]
          exact hskip hd _ _ ⟨rfl, rfl, rfl, rfl, trivial⟩
        · rw [decide_eq_true (.inr h2)] at hd
          simp (disch := first | omega | (simp only [List.length_cons, List.length_nil, List.length_map, List.length_drop]; omega)) only [stSl, stV, stR, wrap_i64, List.length_map, List.getElem?_map, Option.map_some, Option.getD_some, Option.isSome_some, hc, hlt, dT h1, dF h2, decide_true, evSt, ↓evPre, ↓evPreW, evPost, evPostW, ← List.map_take, ← List.map_drop, ↓reduceIte, reduceCtorEq, Nat.reduceEqDiff, forall_const, implies_true, Nat.reduceAdd, Nat.reduceSub, Nat.reduceMul, Nat.reduceLT, Nat.reduceLeDiff, Int.reduceToNat, Int.reduceAdd, Int.reduceSub, Int.reduceNeg, Int.reduceMul, Int.reduceLT, Int.reduceLE, Int.reduceEq]
          exact ⟨by unfold roomA; omega, hadd hd _ _ ⟨rfl, rfl, rfl, rfl, trivial⟩⟩
      · rw [decide_eq_true (.inl h1)] at hd
        simp (disch := first | omega | (simp only [List.length_cons, List.length_nil, List.length_map, List.length_drop]; omega)) only [stSl, stV, stR, wrap_i64, List.length_map, List.getElem?_map, Option.map_some, Option.getD_some, Option.isSome_some, hc, hlt, dF h1, decide_true, evSt, ↓evPre, ↓evPreW, evPost, evPostW, ← List.map_take, ← List.map_drop, ↓reduceIte, reduceCtorEq, Nat.reduceEqDiff, forall_const, implies_true, Nat.reduceAdd, Nat.reduceSub, Nat.reduceMul, Nat.reduceLT, Nat.reduceLeDiff, Int.reduceToNat, Int.reduceAdd, Int.reduceSub, Int.reduceNeg, Int.reduceMul, Int.reduceLT, Int.reduceLE, Int.reduceEq]
        exact ⟨by unfold roomA; omega, hadd hd _ _ ⟨rfl, rfl, rfl, rfl, trivial⟩⟩
end Go.Proofs.Ytdkcicbpcagonaa
