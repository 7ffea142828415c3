/- Sizes of what is parsed; the examples. -/
import Derived.Test.YtpblahljlbakdaaEdi19
namespace Go.Proofs.Ytpblahljlbakdaa
open Go Go.AL
set_option linter.unusedSimpArgs false

def wtE (e : List Txt) : Nat := 1 + szE e
def wtEs (l : List (List Txt)) : Nat := (l.map wtE).sum
def wtC : Option (List Txt × Txt) → Nat
  | none => 0
  | some (a, b) => wtE (a ++ [b])

theorem wtE_snoc (a : List Txt) (b : Txt) : wtE (a ++ [b]) = wtE a + 1 + b.length := by
  simp only [wtE, szE, List.length_append, List.length_cons, List.length_nil, List.map_append, List.map_cons, List.map_nil, List.sum_append_nat, List.sum_cons, List.sum_nil]
  omega
theorem wtEs_snoc (l : List (List Txt)) (e : List Txt) : wtEs (l ++ [e]) = wtEs l + wtE e := by
  simp only [wtEs, List.map_append, List.map_cons, List.map_nil, List.sum_append_nat, List.sum_cons, List.sum_nil]
  omega

theorem mach_wt : ∀ (n : Nat) (l : Txt), l.length ≤ n → ∀ (els : List (List Txt)) (cur : Option (List Txt × Txt)) (r : List (List Txt)) (m : Nat), mach els cur l = (some r, m) → wtEs r ≤ wtEs els + wtC cur + 2 * m
  | _, [], _, els, cur, r, m, h => by rw [mach.eq_def] at h; cases h
  | 0, c :: l, hl, _, _, _, _, _ => by simp at hl
  | n + 1, c :: l, hl, els, cur, r, m, h => by
    simp only [List.length_cons] at hl
    have sub : ∀ (l' : Txt), l'.length ≤ n → ∀ (els' : List (List Txt)) (cur' : Option (List Txt × Txt)) (d : Nat), ((mach els' cur' l').1, (mach els' cur' l').2 + d) = (some r, m) → wtEs r + 2 * d ≤ wtEs els' + wtC cur' + 2 * m := by
      intro l' hl' els' cur' d hd
      generalize hq : mach els' cur' l' = q at hd
      obtain ⟨qe, qm⟩ := q
      simp only [Prod.mk.injEq] at hd
      obtain ⟨rfl, rfl⟩ := hd
      have := mach_wt n l' hl' els' cur' r qm hq
      omega
    rw [mach.eq_def] at h
    simp only at h
    split at h
    · cases l with
      | nil => simp at h
      | cons d r' =>
        simp only [List.length_cons] at hl
        cases cur with
        | none => simp at h
        | some ct =>
          obtain ⟨comps, text⟩ := ct
          simp only at h
          split at h
          · have := sub r' (by omega) _ _ _ h
            simp only [wtC, wtE_snoc, List.length_append, List.length_cons, List.length_nil] at this ⊢
            omega
          · cases h
    · split at h
      · cases h
      · split at h
        · cases cur with
          | none =>
            simp only at h
            split at h
            · cases h
            · split at h
              · have := sub l (by omega) _ _ _ h
                simp only [wtC, wtE_snoc, List.length_append, List.length_cons, List.length_nil] at this ⊢
                simp only [wtE, szE, List.length_nil, List.map_nil, List.sum_nil] at this
                omega
              · cases h
                simp only [wtC]
                omega
          | some ct =>
            obtain ⟨comps, text⟩ := ct
            simp only at h
            split at h
            · have := sub l (by omega) _ _ _ h
              simp only [wtC, wtE_snoc, List.length_append, List.length_cons, List.length_nil] at this ⊢
              omega
            · split at h
              · have := sub l (by omega) _ _ _ h
                simp only [wtC, wtE_snoc, wtEs_snoc, List.length_append, List.length_cons, List.length_nil] at this ⊢
                simp only [wtE, szE, List.length_nil, List.map_nil, List.sum_nil] at this ⊢
                omega
              · cases h
                simp only [wtC, wtEs_snoc]
                omega
        · cases cur with
          | none => simp at h
          | some ct =>
            obtain ⟨comps, text⟩ := ct
            simp only at h
            have := sub l (by omega) _ _ _ h
            simp only [wtC, wtE_snoc, List.length_append, List.length_cons, List.length_nil] at this ⊢
            omega

theorem szX_wt (t : Txt) (els : List (List Txt)) : szX ⟨t, els⟩ = t.length + wtEs els := by
  have : (els.map wtE).sum = els.length + (els.map szE).sum := by
    induction els with
    | nil => rfl
    | cons e l ih => simp only [List.map_cons, List.sum_cons, ih, wtE, List.length_cons]; omega
  simp only [szX, wtEs, this]
  omega
theorem szL_snoc (ls : List Ln) (x : Ln) : szL (ls ++ [x]) = szL ls + 1 + szX x := by
  simp only [szL, List.length_append, List.length_cons, List.length_nil, List.map_append, List.map_cons, List.map_nil, List.sum_append_nat, List.sum_cons, List.sum_nil]
  omega

theorem mach_pos {els : List (List Txt)} {l : Txt} {r : List (List Txt)} {m : Nat} (h : mach els none l = (some r, m)) : 0 < m := by
  cases l with
  | nil => rw [mach.eq_def] at h; cases h
  | cons c l =>
    rw [mach.eq_def] at h
    simp only at h
    split at h
    · cases l <;> simp at h
    · split at h
      · cases h
      · split at h
        · split at h
          · cases h
          · split at h
            · simp only [Prod.mk.injEq] at h; omega
            · cases h; omega
        · cases h

theorem parseF_sz : ∀ (n : Nat) (ls : List Ln) (l : Txt) (k : Nat) (r : List Ln) (q : Nat), parseF n ls l k = (some r, q) → szL r ≤ szL ls + 2 * l.length
  | 0, ls, l, k, r, q, h => by simp only [parseF, Prod.mk.injEq, Option.some.injEq] at h; rw [h.1]; omega
  | n + 1, ls, [], k, r, q, h => by simp only [parseF, Prod.mk.injEq, Option.some.injEq] at h; rw [h.1]; simp
  | n + 1, ls, c :: l, k, r, q, h => by
    rw [parseF] at h
    · split at h
      · cases h
      · rename_i h3
        split at h
        · cases h
        · rename_i els m hm
          have h1 := parseF_sz n _ _ _ r q h
          have h2 := mach_wt _ _ (Nat.le_refl _) _ _ _ _ hm
          have h4 := mach_len _ ((c :: l).drop 3) (Nat.le_refl _) [] none
          rw [hm] at h4
          have h5 := tagN_len 3 (c :: l)
          have h6 := mach_pos hm
          rw [szL_snoc, szX_wt, List.length_drop] at h1
          simp only [List.length_drop, List.length_take] at h1 h4
          simp only [wtEs, List.map_nil, List.sum_nil, wtC] at h2
          simp only [wtEs] at h1
          omega
    · simp

/-- What is parsed, at once. -/
def parsed (s : Txt) : List Ln × Int × Int :=
  if 65536 < s.length then ([], 0, 4) else
  match parseF (s.length + 1) [] s 0 with
  | (some ls, _) => (ls, 0, 0)
  | (none, n) => ([], n, 3)
theorem parseV_eq (s : Txt) : parseV s = .tup [lnV (parsed s).1, .int .i64 (parsed s).2.1, .int .i64 (parsed s).2.2] := by
  unfold parseV parsed
  split
  · rfl
  · generalize parseF (s.length + 1) [] s 0 = q
    obtain ⟨e, m⟩ := q
    cases e <;> rfl
theorem parsed_sz (s : Txt) (h : s.length ≤ 65536) : szL (parsed s).1 ≤ 2 * s.length := by
  unfold parsed
  rw [if_neg (by omega)]
  split
  · rename_i ls _ hp
    have := parseF_sz _ _ _ _ _ _ hp
    simpa [szL] using this
  · simp [szL]
theorem parsed_fit (s : Txt) : FitL (parsed s).1 := by
  by_cases h : s.length ≤ 65536
  · exact fitL_of (by have := parsed_sz s h; omega)
  · unfold parsed
    rw [if_pos (by omega)]
    exact fitL_of (by simp [szL])

def ex0 : List Ln := [⟨[84, 75, 84], [[[49, 50, 53], [55]], [[105, 116, 39, 115]]]⟩]
theorem ex1 : parseV [84, 75, 84, 43, 49, 50, 53, 58, 55, 43, 105, 116, 63, 39, 115, 39] = .tup [lnV ex0, .int .i64 0, .int .i64 0] := by
  simp [parseV, parseF, mach, tagN, upC, oddC, specC, ex0]
theorem ex2 : parseV [65, 66, 67, 43, 49, 39, 65, 66, 43] = .tup [lnV [], .int .i64 8, .int .i64 3] := by
  simp [parseV, parseF, mach, tagN, upC, oddC, specC]
theorem ex3 : parseV [65, 66, 67, 43, 120, 63, 121, 39] = .tup [lnV [], .int .i64 6, .int .i64 3] := by
  simp [parseV, parseF, mach, tagN, upC, oddC, specC]
theorem ex4 : parseV [65, 66, 67, 43, 120] = .tup [lnV [], .int .i64 5, .int .i64 3] := by
  simp [parseV, parseF, mach, tagN, upC, oddC, specC]
theorem ex5 : printV ex0 = .tup [.str [84, 75, 84, 43, 49, 50, 53, 58, 55, 43, 105, 116, 63, 39, 115, 39], .int .i64 0] := by
  have h1 : rightL ex0 = true := by decide +kernel
  have h2 : outL ex0 = [84, 75, 84, 43, 49, 50, 53, 58, 55, 43, 105, 116, 63, 39, 115, 39] := by decide +kernel
  rw [printV, h1, h2]
  rfl

set_option maxRecDepth 20000 in
theorem knows_A (S : Store) : CallA Try.prog 9 [] S fun r S' => r = .bool true ∧ S' = S := by
  refine CallA.keep Try.func9 c9 (Nat.le_of_ble_eq_true rfl) fun σ hσ => ?_
  have hf : FitL ex0 := fitL_of (by decide)
  simp (disch := first | omega | (simp only [List.length_cons, List.length_nil, List.length_map, List.length_drop]; omega)) only [a9, ↓evPre, ↓evPreW, evPost, evPostW, ← List.map_take, ← List.map_drop, ↓reduceIte, reduceCtorEq, Nat.reduceEqDiff, forall_const, implies_true, Nat.reduceAdd, Nat.reduceSub, Nat.reduceMul, Nat.reduceLT, Nat.reduceLeDiff, Int.reduceToNat, Int.reduceAdd, Int.reduceSub, Int.reduceNeg, Int.reduceMul, Int.reduceLT, Int.reduceLE, Int.reduceEq]
  refine (print_A ex0 S (by decide)).then ?_
  simp (disch := first | omega | (simp only [List.length_cons, List.length_nil, List.length_map, List.length_drop]; omega)) only [ex5, ↓evPre, ↓evPreW, evPost, evPostW, ← List.map_take, ← List.map_drop, ↓reduceIte, reduceCtorEq, Nat.reduceEqDiff, forall_const, implies_true, Nat.reduceAdd, Nat.reduceSub, Nat.reduceMul, Nat.reduceLT, Nat.reduceLeDiff, Int.reduceToNat, Int.reduceAdd, Int.reduceSub, Int.reduceNeg, Int.reduceMul, Int.reduceLT, Int.reduceLE, Int.reduceEq]
  refine (parse_A _ S).then ?_
  simp (disch := first | omega | (simp only [List.length_cons, List.length_nil, List.length_map, List.length_drop]; omega)) only [ex1, ↓evPre, ↓evPreW, evPost, evPostW, ← List.map_take, ← List.map_drop, ↓reduceIte, reduceCtorEq, Nat.reduceEqDiff, forall_const, implies_true, Nat.reduceAdd, Nat.reduceSub, Nat.reduceMul, Nat.reduceLT, Nat.reduceLeDiff, Int.reduceToNat, Int.reduceAdd, Int.reduceSub, Int.reduceNeg, Int.reduceMul, Int.reduceLT, Int.reduceLE, Int.reduceEq]
  refine (parse_A _ S).then ?_
  simp (disch := first | omega | (simp only [List.length_cons, List.length_nil, List.length_map, List.length_drop]; omega)) only [ex2, ↓evPre, ↓evPreW, evPost, evPostW, ← List.map_take, ← List.map_drop, ↓reduceIte, reduceCtorEq, Nat.reduceEqDiff, forall_const, implies_true, Nat.reduceAdd, Nat.reduceSub, Nat.reduceMul, Nat.reduceLT, Nat.reduceLeDiff, Int.reduceToNat, Int.reduceAdd, Int.reduceSub, Int.reduceNeg, Int.reduceMul, Int.reduceLT, Int.reduceLE, Int.reduceEq]
  refine (parse_A _ S).then ?_
  simp (disch := first | omega | (simp only [List.length_cons, List.length_nil, List.length_map, List.length_drop]; omega)) only [ex3, ↓evPre, ↓evPreW, evPost, evPostW, ← List.map_take, ← List.map_drop, ↓reduceIte, reduceCtorEq, Nat.reduceEqDiff, forall_const, implies_true, Nat.reduceAdd, Nat.reduceSub, Nat.reduceMul, Nat.reduceLT, Nat.reduceLeDiff, Int.reduceToNat, Int.reduceAdd, Int.reduceSub, Int.reduceNeg, Int.reduceMul, Int.reduceLT, Int.reduceLE, Int.reduceEq]
  refine (parse_A _ S).then ?_
  simp (disch := first | omega | (simp only [List.length_cons, List.length_nil, List.length_map, List.length_drop]; omega)) only [ex4, decide_true, ↓evPre, ↓evPreW, evPost, evPostW, ← List.map_take, ← List.map_drop, ↓reduceIte, reduceCtorEq, Nat.reduceEqDiff, forall_const, implies_true, Nat.reduceAdd, Nat.reduceSub, Nat.reduceMul, Nat.reduceLT, Nat.reduceLeDiff, Int.reduceToNat, Int.reduceAdd, Int.reduceSub, Int.reduceNeg, Int.reduceMul, Int.reduceLT, Int.reduceLE, Int.reduceEq]
  refine (same_A ex0 ex0 S hf hf).then ?_
  simp (disch := first | omega | (simp only [List.length_cons, List.length_nil, List.length_map, List.length_drop]; omega)) only [decide_true, ↓evPre, ↓evPreW, evPost, evPostW, ← List.map_take, ← List.map_drop, ↓reduceIte, reduceCtorEq, Nat.reduceEqDiff, forall_const, implies_true, Nat.reduceAdd, Nat.reduceSub, Nat.reduceMul, Nat.reduceLT, Nat.reduceLeDiff, Int.reduceToNat, Int.reduceAdd, Int.reduceSub, Int.reduceNeg, Int.reduceMul, Int.reduceLT, Int.reduceLE, Int.reduceEq]
  refine (get_A ⟨[84, 75, 84], [[[49, 50, 53], [55]], [[105, 116, 39, 115]]]⟩ 0 1 S).then ?_
  have hg : getL ⟨[84, 75, 84], [[[49, 50, 53], [55]], [[105, 116, 39, 115]]]⟩ 0 1 = [55] := by decide
  simp (disch := first | omega | (simp only [List.length_cons, List.length_nil, List.length_map, List.length_drop]; omega)) only [hg, decide_true, ↓evPre, ↓evPreW, evPost, evPostW, ← List.map_take, ← List.map_drop, ↓reduceIte, reduceCtorEq, Nat.reduceEqDiff, forall_const, implies_true, Nat.reduceAdd, Nat.reduceSub, Nat.reduceMul, Nat.reduceLT, Nat.reduceLeDiff, Int.reduceToNat, Int.reduceAdd, Int.reduceSub, Int.reduceNeg, Int.reduceMul, Int.reduceLT, Int.reduceLE, Int.reduceEq]
  refine (CallA.wk (args := [.sl 2 [[.str [116, 107, 116], .nilSl]]]) (right_A [⟨[116, 107, 116], []⟩] S (fitL_of (by decide))) ⟨Wk.slL ⟨⟨.refl _, .nil _, trivial⟩, trivial⟩, trivial⟩).then ?_
  have hr : rightL [⟨[116, 107, 116], []⟩] = false := by decide
  simp (disch := first | omega | (simp only [List.length_cons, List.length_nil, List.length_map, List.length_drop]; omega)) only [hr, Bool.not_false, ↓evPre, ↓evPreW, evPost, evPostW, ← List.map_take, ← List.map_drop, ↓reduceIte, reduceCtorEq, Nat.reduceEqDiff, forall_const, implies_true, Nat.reduceAdd, Nat.reduceSub, Nat.reduceMul, Nat.reduceLT, Nat.reduceLeDiff, Int.reduceToNat, Int.reduceAdd, Int.reduceSub, Int.reduceNeg, Int.reduceMul, Int.reduceLT, Int.reduceLE, Int.reduceEq]
end Go.Proofs.Ytpblahljlbakdaa
