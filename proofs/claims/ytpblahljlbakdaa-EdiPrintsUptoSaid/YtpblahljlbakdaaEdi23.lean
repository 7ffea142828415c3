/- EdiBack, EdiPlaces. -/
import Derived.Test.YtpblahljlbakdaaEdi22
namespace Go.Proofs.Ytpblahljlbakdaa
open Go Go.AL
set_option linter.unusedSimpArgs false

theorem mach_cut : ∀ (n : Nat) (l : Txt), l.length ≤ n → ∀ (els : List (List Txt)) (cur : Option (List Txt × Txt)) (m : Nat), mach els cur l = (none, m) → mach els cur (l.take m) = (none, m)
  | _, [], _, els, cur, m, h => by
    rw [mach.eq_def] at h
    cases h
    rw [mach.eq_def]
    rfl
  | 0, c :: l, hl, _, _, _, _ => by simp at hl
  | n + 1, c :: l, hl, els, cur, m, h => by
    simp only [List.length_cons] at hl
    have nil0 : ∀ els cur, mach els cur [] = (none, 0) := fun els cur => by rw [mach.eq_def]
    have sub1 : ∀ (els' : List (List Txt)) (cur' : Option (List Txt × Txt)), ((mach els' cur' l).1, (mach els' cur' l).2 + 1) = ((none : Option (List (List Txt))), m) → ∃ m', m = m' + 1 ∧ mach els' cur' (l.take m') = (none, m') := by
      intro els' cur' hd
      generalize hq : mach els' cur' l = q at hd
      obtain ⟨qe, qm⟩ := q
      simp only [Prod.mk.injEq] at hd
      obtain ⟨rfl, rfl⟩ := hd
      exact ⟨qm, rfl, mach_cut n l (by omega) els' cur' qm hq⟩
    rw [mach.eq_def] at h
    simp only at h
    split at h
    · rename_i h63
      cases l with
      | nil =>
        cases cur <;> simp at h <;> subst h
        · exact nil0 _ _
        · rw [List.take_of_length_le (by simp), mach.eq_def]; simp [h63]
      | cons d r' =>
        simp only [List.length_cons] at hl
        cases cur with
        | none => simp at h; subst h; exact nil0 _ _
        | some ct =>
          obtain ⟨comps, text⟩ := ct
          simp only at h
          split at h
          · rename_i hd
            generalize hq : mach els (some (comps, text ++ [d])) r' = q at h
            obtain ⟨qe, qm⟩ := q
            simp only [Prod.mk.injEq] at h
            obtain ⟨rfl, rfl⟩ := h
            have := mach_cut n r' (by omega) els _ qm hq
            simp only [List.take_succ_cons]
            rw [mach.eq_def]
            simp [h63, hd, this]
          · rename_i hd
            cases h
            simp only [List.take_succ_cons, List.take_zero]
            rw [mach.eq_def]
            simp [h63]
    · rename_i h63
      split at h
      · cases h; exact nil0 _ _
      · rename_i ho
        split at h
        · rename_i hs
          cases cur with
          | none =>
            simp only at h
            split at h
            · cases h; exact nil0 _ _
            · rename_i h58
              split at h
              · rename_i h43
                obtain ⟨m', rfl, hm⟩ := sub1 _ _ h
                rw [List.take_succ_cons, mach.eq_def]
                simp [h63, ho, hs, h58, h43, hm]
              · cases h
          | some ct =>
            obtain ⟨comps, text⟩ := ct
            simp only at h
            split at h
            · rename_i h58
              obtain ⟨m', rfl, hm⟩ := sub1 _ _ h
              rw [List.take_succ_cons, mach.eq_def]
              simp [h63, ho, hs, h58, hm]
            · rename_i h58
              split at h
              · rename_i h43
                obtain ⟨m', rfl, hm⟩ := sub1 _ _ h
                rw [List.take_succ_cons, mach.eq_def]
                simp [h63, ho, hs, h58, h43, hm]
              · cases h
        · rename_i hs
          cases cur with
          | none => simp at h; subst h; exact nil0 _ _
          | some ct =>
            obtain ⟨comps, text⟩ := ct
            simp only at h
            obtain ⟨m', rfl, hm⟩ := sub1 _ _ h
            rw [List.take_succ_cons, mach.eq_def]
            simp [h63, ho, hs, hm]

theorem mach_keep : ∀ (n : Nat) (l : Txt), l.length ≤ n → ∀ (els : List (List Txt)) (cur : Option (List Txt × Txt)) (r : List (List Txt)) (m : Nat) (x : Txt), mach els cur l = (some r, m) → mach els cur (l.take m ++ x) = (some r, m)
  | _, [], _, els, cur, r, m, x, h => by rw [mach.eq_def] at h; cases h
  | 0, c :: l, hl, _, _, _, _, _, _ => by simp at hl
  | n + 1, c :: l, hl, els, cur, r, m, x, h => by
    simp only [List.length_cons] at hl
    have sub1 : ∀ (els' : List (List Txt)) (cur' : Option (List Txt × Txt)), ((mach els' cur' l).1, (mach els' cur' l).2 + 1) = (some r, m) → ∃ m', m = m' + 1 ∧ mach els' cur' (l.take m' ++ x) = (some r, m') := by
      intro els' cur' hd
      generalize hq : mach els' cur' l = q at hd
      obtain ⟨qe, qm⟩ := q
      simp only [Prod.mk.injEq] at hd
      obtain ⟨rfl, rfl⟩ := hd
      exact ⟨qm, rfl, mach_keep n l (by omega) els' cur' r qm x hq⟩
    rw [mach.eq_def] at h
    simp only at h
    split at h
    · rename_i h63
      cases l with
      | nil => simp at h
      | cons d r' =>
        simp only [List.length_cons] at hl
        cases cur with
        | none => simp at h
        | some ct =>
          obtain ⟨comps, text⟩ := ct
          simp only at h
          split at h
          · rename_i hd
            generalize hq : mach els (some (comps, text ++ [d])) r' = q at h
            obtain ⟨qe, qm⟩ := q
            simp only [Prod.mk.injEq] at h
            obtain ⟨rfl, rfl⟩ := h
            have := mach_keep n r' (by omega) els _ r qm x hq
            simp only [List.take_succ_cons, List.cons_append]
            rw [mach.eq_def]
            simp [h63, hd, this]
          · cases h
    · rename_i h63
      split at h
      · cases h
      · rename_i ho
        split at h
        · rename_i hs
          cases cur with
          | none =>
            simp only at h
            split at h
            · cases h
            · rename_i h58
              split at h
              · rename_i h43
                obtain ⟨m', rfl, hm⟩ := sub1 _ _ h
                rw [List.take_succ_cons, List.cons_append, mach.eq_def]
                simp [h63, ho, hs, h58, h43, hm]
              · rename_i h43
                cases h
                rw [List.take_succ_cons, List.cons_append, mach.eq_def]
                simp [h63, ho, hs, h58, h43]
          | some ct =>
            obtain ⟨comps, text⟩ := ct
            simp only at h
            split at h
            · rename_i h58
              obtain ⟨m', rfl, hm⟩ := sub1 _ _ h
              rw [List.take_succ_cons, List.cons_append, mach.eq_def]
              simp [h63, ho, hs, h58, hm]
            · rename_i h58
              split at h
              · rename_i h43
                obtain ⟨m', rfl, hm⟩ := sub1 _ _ h
                rw [List.take_succ_cons, List.cons_append, mach.eq_def]
                simp [h63, ho, hs, h58, h43, hm]
              · rename_i h43
                cases h
                rw [List.take_succ_cons, List.cons_append, mach.eq_def]
                simp [h63, ho, hs, h58, h43]
        · rename_i hs
          cases cur with
          | none => simp at h
          | some ct =>
            obtain ⟨comps, text⟩ := ct
            simp only at h
            obtain ⟨m', rfl, hm⟩ := sub1 _ _ h
            rw [List.take_succ_cons, List.cons_append, mach.eq_def]
            simp [h63, ho, hs, hm]

theorem parseF_cons (n k : Nat) (ls : List Ln) (c : UInt8) (l : Txt) : parseF (n + 1) ls (c :: l) k =
    if tagN 3 (c :: l) < 3 then (none, k + tagN 3 (c :: l)) else
    match mach [] none ((c :: l).drop 3) with
    | (none, m) => (none, k + 3 + m)
    | (some els, m) => parseF n (ls ++ [⟨(c :: l).take 3, els⟩]) ((c :: l).drop (3 + m)) (k + 3 + m) := by
  rw [parseF]
  · rfl
  · simp

theorem tagN_take : ∀ (n : Nat) (l : Txt), tagN n (l.take (tagN n l)) = tagN n l
  | 0, l => by simp [tagN]
  | n + 1, [] => by simp [tagN]
  | n + 1, c :: r => by
    have ih := tagN_take n r
    simp only [tagN]
    split
    · rename_i h
      simp only [List.take_succ_cons, tagN, h, if_true, ih]
    · simp [tagN]
theorem tagN_keep {l : Txt} (h : tagN 3 l = 3) (j : Nat) : tagN 3 (l.take (3 + j)) = 3 ∧ (l.take (3 + j)).take 3 = l.take 3 ∧ (l.take (3 + j)).drop 3 = (l.drop 3).take j := by
  refine ⟨?_, ?_, ?_⟩
  · match l with
    | [] => simp [tagN] at h
    | [a] => simp only [tagN] at h; split at h <;> simp at h
    | [a, b] => simp only [tagN] at h; split at h <;> (try split at h) <;> simp at h
    | a :: b :: c :: r =>
      rw [show 3 + j = j + 1 + 1 + 1 by omega]
      simp only [List.take_succ_cons, tagN] at h ⊢
      exact h
  · rw [List.take_take, Nat.min_eq_left (by omega)]
  · rw [List.drop_take, Nat.add_sub_cancel_left]

theorem parse_cut : ∀ (n : Nat) (ls : List Ln) (l : Txt) (k q : Nat), l.length < n → parseF n ls l k = (none, q) → ∀ n', l.length < n' →
    k ≤ q ∧ q ≤ k + l.length ∧ (parseF n' ls (l.take (q - k)) k = (none, q) ∨ ∃ r, parseF n' ls (l.take (q - k)) k = (some r, q))
  | 0, ls, l, k, q, hl, h, n', hn' => by omega
  | n + 1, ls, [], k, q, hl, h, n', hn' => by simp [parseF] at h
  | n + 1, ls, c :: l, k, q, hl, h, n' + 1, hn' => by
    simp only [List.length_cons] at hl hn'
    have hlen := tagN_len 3 (c :: l)
    rw [parseF_cons] at h
    split at h
    · rename_i h3
      cases h
      rw [Nat.add_sub_cancel_left]
      refine ⟨by omega, by omega, ?_⟩
      by_cases h0 : tagN 3 (c :: l) = 0
      · rw [h0]; exact .inr ⟨ls, by simp [parseF]⟩
      · refine .inl ?_
        rw [parseF]
        · rw [tagN_take, if_pos h3]
        · intro hn
          have := congrArg List.length hn
          simp at this
          omega
    · rename_i h3
      have h3' : tagN 3 (c :: l) = 3 := by have := tagN_le 3 (c :: l); omega
      split at h
      · rename_i m hm
        cases h
        have hml := mach_len _ ((c :: l).drop 3) (Nat.le_refl _) [] none
        rw [hm, List.length_drop] at hml
        simp only [List.length_cons] at hml hlen
        refine ⟨by omega, by simp only [List.length_cons]; omega, .inl ?_⟩
        rw [show k + 3 + m - k = 3 + m by omega]
        obtain ⟨g1, g2, g3⟩ := tagN_keep h3' m
        rw [parseF]
        · rw [g1, if_neg (by omega), g3, mach_cut _ _ (Nat.le_refl _) _ _ _ hm]
        · intro hn
          rw [hn] at g1
          simp [tagN] at g1
      · rename_i els m hm
        have hml := mach_len _ ((c :: l).drop 3) (Nat.le_refl _) [] none
        rw [hm, List.length_drop] at hml
        simp only [List.length_cons] at hml hlen
        obtain ⟨i1, i2, i3⟩ := parse_cut n _ _ _ q (by simp only [List.length_drop, List.length_cons]; omega) h n' (by simp only [List.length_drop, List.length_cons]; omega)
        simp only [List.length_drop, List.length_cons] at i2
        refine ⟨by omega, by simp only [List.length_cons]; omega, ?_⟩
        obtain ⟨j, hj⟩ : ∃ j, q - k = 3 + (m + j) := ⟨q - k - 3 - m, by omega⟩
        obtain ⟨g1, g2, g3⟩ := tagN_keep h3' (m + j)
        have e : parseF (n' + 1) ls ((c :: l).take (3 + (m + j))) k = parseF n' (ls ++ [⟨(c :: l).take 3, els⟩]) (((c :: l).drop (3 + m)).take (q - (k + 3 + m))) (k + 3 + m) := by
          rw [parseF]
          · have hk := mach_keep _ ((c :: l).drop 3) (Nat.le_refl _) [] none els m (((c :: l).drop 3).drop m |>.take j) hm
            rw [← List.take_add] at hk
            rw [g1, if_neg (by omega), g2, g3, hk]
            simp only
            rw [show q - (k + 3 + m) = j by omega, List.drop_take, show 3 + (m + j) - (3 + m) = j by omega]
          · intro hn
            rw [hn] at g1
            simp [tagN] at g1
        rw [hj, e]
        exact i3

theorem parsed_cut {s : Txt} (hs : s.length ≤ 65536) (h : (parsed s).2.2 ≠ 0) : ∃ n : Nat, n ≤ s.length ∧ parsed s = ([], (n : Int), 3) ∧ ((parsed (s.take n)).2.2 = 0 ∨ parsed (s.take n) = ([], (n : Int), 3)) := by
  have hb : ¬ 65536 < s.length := by omega
  have hp : ∃ q, parseF (s.length + 1) [] s 0 = (none, q) ∧ parsed s = ([], (q : Int), 3) := by
    unfold parsed at h ⊢
    simp only [if_neg hb] at h ⊢
    generalize parseF (s.length + 1) [] s 0 = q at h ⊢
    obtain ⟨e, m⟩ := q
    cases e with
    | none => exact ⟨m, rfl, rfl⟩
    | some r => simp at h
  obtain ⟨q, hq, hps⟩ := hp
  have h0 := parse_cut _ _ _ _ _ (Nat.lt_succ_self _) hq
  obtain ⟨_, h2, _⟩ := h0 (s.length + 1) (Nat.lt_succ_self _)
  refine ⟨q, by omega, hps, ?_⟩
  have hlt : (s.take q).length = q := by simp; omega
  have hfu : ∀ (n n' : Nat) (ls : List Ln) (l : Txt) (k : Nat), l.length < n → l.length < n' → parseF n ls l k = parseF n' ls l k := by
    intro n
    induction n with
    | zero => intro n' ls l k h; omega
    | succ n ih =>
      intro n' ls l k h h'
      obtain ⟨n', rfl⟩ : ∃ m, n' = m + 1 := ⟨n' - 1, by omega⟩
      cases l with
      | nil => simp [parseF]
      | cons c l =>
        simp only [List.length_cons] at h h'
        rw [parseF_cons, parseF_cons]
        split
        · rfl
        · split
          · rfl
          · exact ih _ _ _ _ (by simp only [List.length_drop, List.length_cons]; omega) (by simp only [List.length_drop, List.length_cons]; omega)
  obtain ⟨_, _, h3⟩ := h0 (s.length + 1) (Nat.lt_succ_self _)
  rw [Nat.sub_zero, hfu _ ((s.take q).length + 1) _ _ _ (by omega) (by omega)] at h3
  unfold parsed
  rw [if_neg (by omega)]
  rcases h3 with h3 | ⟨r, h3⟩
  · rw [h3]; exact .inr rfl
  · rw [h3]; exact .inl rfl


set_option maxRecDepth 20000 in
theorem places_A (s : Txt) (S : Store) : CallA Try.prog 7 [.str s] S fun r S' => r = .bool true ∧ S' = S := by
  refine CallA.keep Try.func7 c7 (Nat.le_of_ble_eq_true rfl) fun σ hσ => ?_
  have main : ∀ s, CallA Try.prog 16 [.str s] S fun r S' => r = .tup [lnV (parsed s).1, .int .i64 (parsed s).2.1, .int .i64 (parsed s).2.2] ∧ S' = S := fun s => by rw [← parseV_eq]; exact parse_A s S
  by_cases h1 : (3000 : Int) < s.length
  · simp (disch := first | omega | (simp only [List.length_cons, List.length_nil, List.length_map, List.length_drop]; omega)) only [a7, h1, decide_true, ↓evPre, ↓evPreW, evPost, evPostW, ← List.map_take, ← List.map_drop, ↓reduceIte, reduceCtorEq, Nat.reduceEqDiff, forall_const, implies_true, Nat.reduceAdd, Nat.reduceSub, Nat.reduceMul, Nat.reduceLT, Nat.reduceLeDiff, Int.reduceToNat, Int.reduceAdd, Int.reduceSub, Int.reduceNeg, Int.reduceMul, Int.reduceLT, Int.reduceLE, Int.reduceEq]
    refine (knows_A S).then ?_
    simp (disch := first | omega | (simp only [List.length_cons, List.length_nil, List.length_map, List.length_drop]; omega)) only [↓evPre, ↓evPreW, evPost, evPostW, ← List.map_take, ← List.map_drop, ↓reduceIte, reduceCtorEq, Nat.reduceEqDiff, forall_const, implies_true, Nat.reduceAdd, Nat.reduceSub, Nat.reduceMul, Nat.reduceLT, Nat.reduceLeDiff, Int.reduceToNat, Int.reduceAdd, Int.reduceSub, Int.reduceNeg, Int.reduceMul, Int.reduceLT, Int.reduceLE, Int.reduceEq]
  · simp (disch := first | omega | (simp only [List.length_cons, List.length_nil, List.length_map, List.length_drop]; omega)) only [a7, h1, decide_false, ↓evPre, ↓evPreW, evPost, evPostW, ← List.map_take, ← List.map_drop, ↓reduceIte, reduceCtorEq, Nat.reduceEqDiff, forall_const, implies_true, Nat.reduceAdd, Nat.reduceSub, Nat.reduceMul, Nat.reduceLT, Nat.reduceLeDiff, Int.reduceToNat, Int.reduceAdd, Int.reduceSub, Int.reduceNeg, Int.reduceMul, Int.reduceLT, Int.reduceLE, Int.reduceEq]
    refine (main s).then ?_
    by_cases h0 : (parsed s).2.2 = 0
    · obtain ⟨g1, g2, g3⟩ := parsed_back h0
      simp (disch := first | omega | (simp only [List.length_cons, List.length_nil, List.length_map, List.length_drop]; omega)) only [h0, g3, decide_true, ↓evPre, ↓evPreW, evPost, evPostW, ← List.map_take, ← List.map_drop, ↓reduceIte, reduceCtorEq, Nat.reduceEqDiff, forall_const, implies_true, Nat.reduceAdd, Nat.reduceSub, Nat.reduceMul, Nat.reduceLT, Nat.reduceLeDiff, Int.reduceToNat, Int.reduceAdd, Int.reduceSub, Int.reduceNeg, Int.reduceMul, Int.reduceLT, Int.reduceLE, Int.reduceEq]
      refine (right_A _ S (parsed_fit s)).then ?_
      simp (disch := first | omega | (simp only [List.length_cons, List.length_nil, List.length_map, List.length_drop]; omega)) only [g1, ↓evPre, ↓evPreW, evPost, evPostW, ← List.map_take, ← List.map_drop, ↓reduceIte, reduceCtorEq, Nat.reduceEqDiff, forall_const, implies_true, Nat.reduceAdd, Nat.reduceSub, Nat.reduceMul, Nat.reduceLT, Nat.reduceLeDiff, Int.reduceToNat, Int.reduceAdd, Int.reduceSub, Int.reduceNeg, Int.reduceMul, Int.reduceLT, Int.reduceLE, Int.reduceEq]
      refine (knows_A S).then ?_
      simp (disch := first | omega | (simp only [List.length_cons, List.length_nil, List.length_map, List.length_drop]; omega)) only [↓evPre, ↓evPreW, evPost, evPostW, ← List.map_take, ← List.map_drop, ↓reduceIte, reduceCtorEq, Nat.reduceEqDiff, forall_const, implies_true, Nat.reduceAdd, Nat.reduceSub, Nat.reduceMul, Nat.reduceLT, Nat.reduceLeDiff, Int.reduceToNat, Int.reduceAdd, Int.reduceSub, Int.reduceNeg, Int.reduceMul, Int.reduceLT, Int.reduceLE, Int.reduceEq]
    · obtain ⟨n, hn, hp, hc⟩ := parsed_cut (by omega) h0
      have hni : ¬ (n : Int) < 0 := by omega
      have hnl : ¬ (s.length : Int) < (n : Int) := by omega
      have hn2 : (n : Int) ≤ (s.length : Int) := by omega
      have h30 : ¬ (3 : Int) = 0 := by decide
      simp (disch := first | omega | (simp only [List.length_cons, List.length_nil, List.length_map, List.length_drop]; omega)) only [hp, h30, hni, hnl, hn2, lnV, decide_true, decide_false, Bool.not_true, ↓evPre, ↓evPreW, evPost, evPostW, ← List.map_take, ← List.map_drop, ↓reduceIte, reduceCtorEq, Nat.reduceEqDiff, forall_const, implies_true, Nat.reduceAdd, Nat.reduceSub, Nat.reduceMul, Nat.reduceLT, Nat.reduceLeDiff, Int.reduceToNat, Int.reduceAdd, Int.reduceSub, Int.reduceNeg, Int.reduceMul, Int.reduceLT, Int.reduceLE, Int.reduceEq]
      refine (main (s.take n)).then ?_
      rcases hc with hc | hc
      · simp (disch := first | omega | (simp only [List.length_cons, List.length_nil, List.length_map, List.length_drop]; omega)) only [hc, decide_true, ↓evPre, ↓evPreW, evPost, evPostW, ← List.map_take, ← List.map_drop, ↓reduceIte, reduceCtorEq, Nat.reduceEqDiff, forall_const, implies_true, Nat.reduceAdd, Nat.reduceSub, Nat.reduceMul, Nat.reduceLT, Nat.reduceLeDiff, Int.reduceToNat, Int.reduceAdd, Int.reduceSub, Int.reduceNeg, Int.reduceMul, Int.reduceLT, Int.reduceLE, Int.reduceEq]
        refine (knows_A S).then ?_
        simp (disch := first | omega | (simp only [List.length_cons, List.length_nil, List.length_map, List.length_drop]; omega)) only [↓evPre, ↓evPreW, evPost, evPostW, ← List.map_take, ← List.map_drop, ↓reduceIte, reduceCtorEq, Nat.reduceEqDiff, forall_const, implies_true, Nat.reduceAdd, Nat.reduceSub, Nat.reduceMul, Nat.reduceLT, Nat.reduceLeDiff, Int.reduceToNat, Int.reduceAdd, Int.reduceSub, Int.reduceNeg, Int.reduceMul, Int.reduceLT, Int.reduceLE, Int.reduceEq]
      · simp (disch := first | omega | (simp only [List.length_cons, List.length_nil, List.length_map, List.length_drop]; omega)) only [hc, h30, decide_true, decide_false, ↓evPre, ↓evPreW, evPost, evPostW, ← List.map_take, ← List.map_drop, ↓reduceIte, reduceCtorEq, Nat.reduceEqDiff, forall_const, implies_true, Nat.reduceAdd, Nat.reduceSub, Nat.reduceMul, Nat.reduceLT, Nat.reduceLeDiff, Int.reduceToNat, Int.reduceAdd, Int.reduceSub, Int.reduceNeg, Int.reduceMul, Int.reduceLT, Int.reduceLE, Int.reduceEq]
        refine (knows_A S).then ?_
        simp (disch := first | omega | (simp only [List.length_cons, List.length_nil, List.length_map, List.length_drop]; omega)) only [↓evPre, ↓evPreW, evPost, evPostW, ← List.map_take, ← List.map_drop, ↓reduceIte, reduceCtorEq, Nat.reduceEqDiff, forall_const, implies_true, Nat.reduceAdd, Nat.reduceSub, Nat.reduceMul, Nat.reduceLT, Nat.reduceLeDiff, Int.reduceToNat, Int.reduceAdd, Int.reduceSub, Int.reduceNeg, Int.reduceMul, Int.reduceLT, Int.reduceLE, Int.reduceEq]

theorem printV_yes {a : List Ln} (h : rightL a = true) : printV a = .tup [.str (outL a), .int .i64 0] := by rw [printV, if_pos h]
theorem printV_no {a : List Ln} (h : rightL a = false) : printV a = .tup [.str [], .int .i64 3] := by rw [printV, h]; rfl

set_option maxRecDepth 20000 in
theorem back_A (a b : List Ln) (s : Txt) (S : Store) (ha : FitL a) (hb : FitL b) : CallA Try.prog 6 [lnV a, lnV b, .str s] S fun r _ => r = .bool true := by
  refine CallA.withNeat Try.func6 c6 fun hn => ?_
  refine CallA.keep Try.func6 c6 (Nat.le_of_ble_eq_true rfl) fun σ hσ => ?_
  have main : ∀ s S, CallA Try.prog 16 [.str s] S fun r S' => r = .tup [lnV (parsed s).1, .int .i64 (parsed s).2.1, .int .i64 (parsed s).2.2] ∧ S' = S := fun s S => by rw [← parseV_eq]; exact parse_A s S
  simp (disch := first | omega | (simp only [List.length_cons, List.length_nil, List.length_map, List.length_drop]; omega)) only [a6, ↓evPre, ↓evPreW, evPost, evPostW, ← List.map_take, ← List.map_drop, ↓reduceIte, reduceCtorEq, Nat.reduceEqDiff, forall_const, implies_true, Nat.reduceAdd, Nat.reduceSub, Nat.reduceMul, Nat.reduceLT, Nat.reduceLeDiff, Int.reduceToNat, Int.reduceAdd, Int.reduceSub, Int.reduceNeg, Int.reduceMul, Int.reduceLT, Int.reduceLE, Int.reduceEq]
  refine (large_A a S ha).then ?_
  by_cases hla : 3000 < szL a
  · simp (disch := first | omega | (simp only [List.length_cons, List.length_nil, List.length_map, List.length_drop]; omega)) only [hla, decide_true, ↓evPre, ↓evPreW, evPost, evPostW, ← List.map_take, ← List.map_drop, ↓reduceIte, reduceCtorEq, Nat.reduceEqDiff, forall_const, implies_true, Nat.reduceAdd, Nat.reduceSub, Nat.reduceMul, Nat.reduceLT, Nat.reduceLeDiff, Int.reduceToNat, Int.reduceAdd, Int.reduceSub, Int.reduceNeg, Int.reduceMul, Int.reduceLT, Int.reduceLE, Int.reduceEq]
    refine (knows_A S).then ?_
    simp (disch := first | omega | (simp only [List.length_cons, List.length_nil, List.length_map, List.length_drop]; omega)) only [↓evPre, ↓evPreW, evPost, evPostW, ← List.map_take, ← List.map_drop, ↓reduceIte, reduceCtorEq, Nat.reduceEqDiff, forall_const, implies_true, Nat.reduceAdd, Nat.reduceSub, Nat.reduceMul, Nat.reduceLT, Nat.reduceLeDiff, Int.reduceToNat, Int.reduceAdd, Int.reduceSub, Int.reduceNeg, Int.reduceMul, Int.reduceLT, Int.reduceLE, Int.reduceEq]
  simp (disch := first | omega | (simp only [List.length_cons, List.length_nil, List.length_map, List.length_drop]; omega)) only [hla, decide_false, ↓evPre, ↓evPreW, evPost, evPostW, ← List.map_take, ← List.map_drop, ↓reduceIte, reduceCtorEq, Nat.reduceEqDiff, forall_const, implies_true, Nat.reduceAdd, Nat.reduceSub, Nat.reduceMul, Nat.reduceLT, Nat.reduceLeDiff, Int.reduceToNat, Int.reduceAdd, Int.reduceSub, Int.reduceNeg, Int.reduceMul, Int.reduceLT, Int.reduceLE, Int.reduceEq]
  refine (large_A b S hb).then ?_
  by_cases hlb : 3000 < szL b
  · simp (disch := first | omega | (simp only [List.length_cons, List.length_nil, List.length_map, List.length_drop]; omega)) only [hlb, decide_true, ↓evPre, ↓evPreW, evPost, evPostW, ← List.map_take, ← List.map_drop, ↓reduceIte, reduceCtorEq, Nat.reduceEqDiff, forall_const, implies_true, Nat.reduceAdd, Nat.reduceSub, Nat.reduceMul, Nat.reduceLT, Nat.reduceLeDiff, Int.reduceToNat, Int.reduceAdd, Int.reduceSub, Int.reduceNeg, Int.reduceMul, Int.reduceLT, Int.reduceLE, Int.reduceEq]
    refine (knows_A S).then ?_
    simp (disch := first | omega | (simp only [List.length_cons, List.length_nil, List.length_map, List.length_drop]; omega)) only [↓evPre, ↓evPreW, evPost, evPostW, ← List.map_take, ← List.map_drop, ↓reduceIte, reduceCtorEq, Nat.reduceEqDiff, forall_const, implies_true, Nat.reduceAdd, Nat.reduceSub, Nat.reduceMul, Nat.reduceLT, Nat.reduceLeDiff, Int.reduceToNat, Int.reduceAdd, Int.reduceSub, Int.reduceNeg, Int.reduceMul, Int.reduceLT, Int.reduceLE, Int.reduceEq]
  by_cases hls : (3000 : Int) < s.length
  · simp (disch := first | omega | (simp only [List.length_cons, List.length_nil, List.length_map, List.length_drop]; omega)) only [hlb, hls, decide_true, decide_false, ↓evPre, ↓evPreW, evPost, evPostW, ← List.map_take, ← List.map_drop, ↓reduceIte, reduceCtorEq, Nat.reduceEqDiff, forall_const, implies_true, Nat.reduceAdd, Nat.reduceSub, Nat.reduceMul, Nat.reduceLT, Nat.reduceLeDiff, Int.reduceToNat, Int.reduceAdd, Int.reduceSub, Int.reduceNeg, Int.reduceMul, Int.reduceLT, Int.reduceLE, Int.reduceEq]
    refine (knows_A S).then ?_
    simp (disch := first | omega | (simp only [List.length_cons, List.length_nil, List.length_map, List.length_drop]; omega)) only [↓evPre, ↓evPreW, evPost, evPostW, ← List.map_take, ← List.map_drop, ↓reduceIte, reduceCtorEq, Nat.reduceEqDiff, forall_const, implies_true, Nat.reduceAdd, Nat.reduceSub, Nat.reduceMul, Nat.reduceLT, Nat.reduceLeDiff, Int.reduceToNat, Int.reduceAdd, Int.reduceSub, Int.reduceNeg, Int.reduceMul, Int.reduceLT, Int.reduceLE, Int.reduceEq]
  simp (disch := first | omega | (simp only [List.length_cons, List.length_nil, List.length_map, List.length_drop]; omega)) only [hlb, hls, decide_false, ↓evPre, ↓evPreW, evPost, evPostW, ← List.map_take, ← List.map_drop, ↓reduceIte, reduceCtorEq, Nat.reduceEqDiff, forall_const, implies_true, Nat.reduceAdd, Nat.reduceSub, Nat.reduceMul, Nat.reduceLT, Nat.reduceLeDiff, Int.reduceToNat, Int.reduceAdd, Int.reduceSub, Int.reduceNeg, Int.reduceMul, Int.reduceLT, Int.reduceLE, Int.reduceEq]
  have hsz : szL (parsed s).1 ≤ 8000 := by have := parsed_sz s (by omega); omega
  refine (print_A a S (by omega)).then ?_
  cases hra : rightL a
  · simp (disch := first | omega | (simp only [List.length_cons, List.length_nil, List.length_map, List.length_drop]; omega)) only [printV_no hra, ↓evPre, ↓evPreW, evPost, evPostW, ← List.map_take, ← List.map_drop, ↓reduceIte, reduceCtorEq, Nat.reduceEqDiff, forall_const, implies_true, Nat.reduceAdd, Nat.reduceSub, Nat.reduceMul, Nat.reduceLT, Nat.reduceLeDiff, Int.reduceToNat, Int.reduceAdd, Int.reduceSub, Int.reduceNeg, Int.reduceMul, Int.reduceLT, Int.reduceLE, Int.reduceEq]
    refine (print_A b S (by omega)).then ?_
    obtain ⟨t, n, hp⟩ : ∃ t n, printV b = .tup [.str t, .int .i64 n] := by unfold printV; split <;> exact ⟨_, _, rfl⟩
    · simp (disch := first | omega | (simp only [List.length_cons, List.length_nil, List.length_map, List.length_drop]; omega)) only [hp, show ¬ (3 : Int) = 0 by decide, decide_false, ↓evPre, ↓evPreW, evPost, evPostW, ← List.map_take, ← List.map_drop, ↓reduceIte, reduceCtorEq, Nat.reduceEqDiff, forall_const, implies_true, Nat.reduceAdd, Nat.reduceSub, Nat.reduceMul, Nat.reduceLT, Nat.reduceLeDiff, Int.reduceToNat, Int.reduceAdd, Int.reduceSub, Int.reduceNeg, Int.reduceMul, Int.reduceLT, Int.reduceLE, Int.reduceEq]
      refine (main s _).then ?_
      simp (disch := first | omega | (simp only [List.length_cons, List.length_nil, List.length_map, List.length_drop]; omega)) only [↓evPre, ↓evPreW, evPost, evPostW, ← List.map_take, ← List.map_drop, ↓reduceIte, reduceCtorEq, Nat.reduceEqDiff, forall_const, implies_true, Nat.reduceAdd, Nat.reduceSub, Nat.reduceMul, Nat.reduceLT, Nat.reduceLeDiff, Int.reduceToNat, Int.reduceAdd, Int.reduceSub, Int.reduceNeg, Int.reduceMul, Int.reduceLT, Int.reduceLE, Int.reduceEq]
      refine (print_A _ _ hsz).then ?_
      by_cases h0 : (parsed s).2.2 = 0
      · obtain ⟨g1, g2, g3⟩ := parsed_back h0
        simp (disch := first | omega | (simp only [List.length_cons, List.length_nil, List.length_map, List.length_drop]; omega)) only [printV_yes g1, g2, h0, decide_true, ↓evPre, ↓evPreW, evPost, evPostW, ← List.map_take, ← List.map_drop, ↓reduceIte, reduceCtorEq, Nat.reduceEqDiff, forall_const, implies_true, Nat.reduceAdd, Nat.reduceSub, Nat.reduceMul, Nat.reduceLT, Nat.reduceLeDiff, Int.reduceToNat, Int.reduceAdd, Int.reduceSub, Int.reduceNeg, Int.reduceMul, Int.reduceLT, Int.reduceLE, Int.reduceEq]
        refine (right_A a _ ha).then ?_
        simp (disch := first | omega | (simp only [List.length_cons, List.length_nil, List.length_map, List.length_drop]; omega)) only [hra, decide_true, decide_false, beq_self_eq_true, ↓evPre, ↓evPreW, evPost, evPostW, ← List.map_take, ← List.map_drop, ↓reduceIte, reduceCtorEq, Nat.reduceEqDiff, forall_const, implies_true, Nat.reduceAdd, Nat.reduceSub, Nat.reduceMul, Nat.reduceLT, Nat.reduceLeDiff, Int.reduceToNat, Int.reduceAdd, Int.reduceSub, Int.reduceNeg, Int.reduceMul, Int.reduceLT, Int.reduceLE, Int.reduceEq]
        refine (knows_A _).then ?_
        simp (disch := first | omega | (simp only [List.length_cons, List.length_nil, List.length_map, List.length_drop]; omega)) only [↓evPre, ↓evPreW, evPost, evPostW, ← List.map_take, ← List.map_drop, ↓reduceIte, reduceCtorEq, Nat.reduceEqDiff, forall_const, implies_true, Nat.reduceAdd, Nat.reduceSub, Nat.reduceMul, Nat.reduceLT, Nat.reduceLeDiff, Int.reduceToNat, Int.reduceAdd, Int.reduceSub, Int.reduceNeg, Int.reduceMul, Int.reduceLT, Int.reduceLE, Int.reduceEq]
      · obtain ⟨t, n, hp⟩ : ∃ t n, printV (parsed s).1 = .tup [.str t, .int .i64 n] := by unfold printV; split <;> exact ⟨_, _, rfl⟩
        simp (disch := first | omega | (simp only [List.length_cons, List.length_nil, List.length_map, List.length_drop]; omega)) only [hp, h0, decide_true, decide_false, ↓evPre, ↓evPreW, evPost, evPostW, ← List.map_take, ← List.map_drop, ↓reduceIte, reduceCtorEq, Nat.reduceEqDiff, forall_const, implies_true, Nat.reduceAdd, Nat.reduceSub, Nat.reduceMul, Nat.reduceLT, Nat.reduceLeDiff, Int.reduceToNat, Int.reduceAdd, Int.reduceSub, Int.reduceNeg, Int.reduceMul, Int.reduceLT, Int.reduceLE, Int.reduceEq]
        refine (right_A a _ ha).then ?_
        simp (disch := first | omega | (simp only [List.length_cons, List.length_nil, List.length_map, List.length_drop]; omega)) only [hra, h0, decide_true, decide_false, beq_self_eq_true, Bool.not_false, ↓evPre, ↓evPreW, evPost, evPostW, ← List.map_take, ← List.map_drop, ↓reduceIte, reduceCtorEq, Nat.reduceEqDiff, forall_const, implies_true, Nat.reduceAdd, Nat.reduceSub, Nat.reduceMul, Nat.reduceLT, Nat.reduceLeDiff, Int.reduceToNat, Int.reduceAdd, Int.reduceSub, Int.reduceNeg, Int.reduceMul, Int.reduceLT, Int.reduceLE, Int.reduceEq]
        refine (knows_A _).then ?_
        simp (disch := first | omega | (simp only [List.length_cons, List.length_nil, List.length_map, List.length_drop]; omega)) only [↓evPre, ↓evPreW, evPost, evPostW, ← List.map_take, ← List.map_drop, ↓reduceIte, reduceCtorEq, Nat.reduceEqDiff, forall_const, implies_true, Nat.reduceAdd, Nat.reduceSub, Nat.reduceMul, Nat.reduceLT, Nat.reduceLeDiff, Int.reduceToNat, Int.reduceAdd, Int.reduceSub, Int.reduceNeg, Int.reduceMul, Int.reduceLT, Int.reduceLE, Int.reduceEq]
  · simp (disch := first | omega | (simp only [List.length_cons, List.length_nil, List.length_map, List.length_drop]; omega)) only [printV_yes hra, ↓evPre, ↓evPreW, evPost, evPostW, ← List.map_take, ← List.map_drop, ↓reduceIte, reduceCtorEq, Nat.reduceEqDiff, forall_const, implies_true, Nat.reduceAdd, Nat.reduceSub, Nat.reduceMul, Nat.reduceLT, Nat.reduceLeDiff, Int.reduceToNat, Int.reduceAdd, Int.reduceSub, Int.reduceNeg, Int.reduceMul, Int.reduceLT, Int.reduceLE, Int.reduceEq]
    refine (print_A b S (by omega)).then ?_
    cases hrb : rightL b
    · simp (disch := first | omega | (simp only [List.length_cons, List.length_nil, List.length_map, List.length_drop]; omega)) only [printV_no hrb, show ¬ (3 : Int) = 0 by decide, decide_true, decide_false, ↓evPre, ↓evPreW, evPost, evPostW, ← List.map_take, ← List.map_drop, ↓reduceIte, reduceCtorEq, Nat.reduceEqDiff, forall_const, implies_true, Nat.reduceAdd, Nat.reduceSub, Nat.reduceMul, Nat.reduceLT, Nat.reduceLeDiff, Int.reduceToNat, Int.reduceAdd, Int.reduceSub, Int.reduceNeg, Int.reduceMul, Int.reduceLT, Int.reduceLE, Int.reduceEq]
      refine (main s _).then ?_
      simp (disch := first | omega | (simp only [List.length_cons, List.length_nil, List.length_map, List.length_drop]; omega)) only [↓evPre, ↓evPreW, evPost, evPostW, ← List.map_take, ← List.map_drop, ↓reduceIte, reduceCtorEq, Nat.reduceEqDiff, forall_const, implies_true, Nat.reduceAdd, Nat.reduceSub, Nat.reduceMul, Nat.reduceLT, Nat.reduceLeDiff, Int.reduceToNat, Int.reduceAdd, Int.reduceSub, Int.reduceNeg, Int.reduceMul, Int.reduceLT, Int.reduceLE, Int.reduceEq]
      refine (print_A _ _ hsz).then ?_
      by_cases h0 : (parsed s).2.2 = 0
      · obtain ⟨g1, g2, g3⟩ := parsed_back h0
        simp (disch := first | omega | (simp only [List.length_cons, List.length_nil, List.length_map, List.length_drop]; omega)) only [printV_yes g1, g2, h0, decide_true, ↓evPre, ↓evPreW, evPost, evPostW, ← List.map_take, ← List.map_drop, ↓reduceIte, reduceCtorEq, Nat.reduceEqDiff, forall_const, implies_true, Nat.reduceAdd, Nat.reduceSub, Nat.reduceMul, Nat.reduceLT, Nat.reduceLeDiff, Int.reduceToNat, Int.reduceAdd, Int.reduceSub, Int.reduceNeg, Int.reduceMul, Int.reduceLT, Int.reduceLE, Int.reduceEq]
        refine (right_A a _ ha).then ?_
        simp (disch := first | omega | (simp only [List.length_cons, List.length_nil, List.length_map, List.length_drop]; omega)) only [hra, decide_true, decide_false, beq_self_eq_true, ↓evPre, ↓evPreW, evPost, evPostW, ← List.map_take, ← List.map_drop, ↓reduceIte, reduceCtorEq, Nat.reduceEqDiff, forall_const, implies_true, Nat.reduceAdd, Nat.reduceSub, Nat.reduceMul, Nat.reduceLT, Nat.reduceLeDiff, Int.reduceToNat, Int.reduceAdd, Int.reduceSub, Int.reduceNeg, Int.reduceMul, Int.reduceLT, Int.reduceLE, Int.reduceEq]
        refine (knows_A _).then ?_
        simp (disch := first | omega | (simp only [List.length_cons, List.length_nil, List.length_map, List.length_drop]; omega)) only [↓evPre, ↓evPreW, evPost, evPostW, ← List.map_take, ← List.map_drop, ↓reduceIte, reduceCtorEq, Nat.reduceEqDiff, forall_const, implies_true, Nat.reduceAdd, Nat.reduceSub, Nat.reduceMul, Nat.reduceLT, Nat.reduceLeDiff, Int.reduceToNat, Int.reduceAdd, Int.reduceSub, Int.reduceNeg, Int.reduceMul, Int.reduceLT, Int.reduceLE, Int.reduceEq]
      · obtain ⟨t, n, hp⟩ : ∃ t n, printV (parsed s).1 = .tup [.str t, .int .i64 n] := by unfold printV; split <;> exact ⟨_, _, rfl⟩
        simp (disch := first | omega | (simp only [List.length_cons, List.length_nil, List.length_map, List.length_drop]; omega)) only [hp, h0, decide_true, decide_false, ↓evPre, ↓evPreW, evPost, evPostW, ← List.map_take, ← List.map_drop, ↓reduceIte, reduceCtorEq, Nat.reduceEqDiff, forall_const, implies_true, Nat.reduceAdd, Nat.reduceSub, Nat.reduceMul, Nat.reduceLT, Nat.reduceLeDiff, Int.reduceToNat, Int.reduceAdd, Int.reduceSub, Int.reduceNeg, Int.reduceMul, Int.reduceLT, Int.reduceLE, Int.reduceEq]
        refine (right_A a _ ha).then ?_
        simp (disch := first | omega | (simp only [List.length_cons, List.length_nil, List.length_map, List.length_drop]; omega)) only [hra, h0, decide_true, decide_false, beq_self_eq_true, Bool.not_false, ↓evPre, ↓evPreW, evPost, evPostW, ← List.map_take, ← List.map_drop, ↓reduceIte, reduceCtorEq, Nat.reduceEqDiff, forall_const, implies_true, Nat.reduceAdd, Nat.reduceSub, Nat.reduceMul, Nat.reduceLT, Nat.reduceLeDiff, Int.reduceToNat, Int.reduceAdd, Int.reduceSub, Int.reduceNeg, Int.reduceMul, Int.reduceLT, Int.reduceLE, Int.reduceEq]
        refine (knows_A _).then ?_
        simp (disch := first | omega | (simp only [List.length_cons, List.length_nil, List.length_map, List.length_drop]; omega)) only [↓evPre, ↓evPreW, evPost, evPostW, ← List.map_take, ← List.map_drop, ↓reduceIte, reduceCtorEq, Nat.reduceEqDiff, forall_const, implies_true, Nat.reduceAdd, Nat.reduceSub, Nat.reduceMul, Nat.reduceLT, Nat.reduceLeDiff, Int.reduceToNat, Int.reduceAdd, Int.reduceSub, Int.reduceNeg, Int.reduceMul, Int.reduceLT, Int.reduceLE, Int.reduceEq]
    · have hoa := outL_len a
      have hob := outL_len b
      have hadd : binV .add (.str (outL a)) (.str (outL b)) = some (.str (outL a ++ outL b)) := add_ok (by omega)
      simp (disch := first | omega | (simp only [List.length_cons, List.length_nil, List.length_map, List.length_drop]; omega)) only [printV_yes hrb, hadd, decide_true, ↓evPre, ↓evPreW, evPost, evPostW, ← List.map_take, ← List.map_drop, ↓reduceIte, reduceCtorEq, Nat.reduceEqDiff, forall_const, implies_true, Nat.reduceAdd, Nat.reduceSub, Nat.reduceMul, Nat.reduceLT, Nat.reduceLeDiff, Int.reduceToNat, Int.reduceAdd, Int.reduceSub, Int.reduceNeg, Int.reduceMul, Int.reduceLT, Int.reduceLE, Int.reduceEq]
      refine (main _ S).then ?_
      have hrab : rightL (a ++ b) = true := by
        simp only [rightL, List.any_append, Bool.not_or, Bool.and_eq_true] at hra hrb ⊢
        exact ⟨hra, hrb⟩
      rw [outL_app, back_one hrab (by rw [← outL_app, List.length_append]; omega)]
      simp (disch := first | omega | (simp only [List.length_cons, List.length_nil, List.length_map, List.length_drop]; omega)) only [lnV, decide_true, Bool.not_true, obj_push2, set_push, evSt, ↓evPre, ↓evPreW, evPost, evPostW, ← List.map_take, ← List.map_drop, ↓reduceIte, reduceCtorEq, Nat.reduceEqDiff, forall_const, implies_true, Nat.reduceAdd, Nat.reduceSub, Nat.reduceMul, Nat.reduceLT, Nat.reduceLeDiff, Int.reduceToNat, Int.reduceAdd, Int.reduceSub, Int.reduceNeg, Int.reduceMul, Int.reduceLT, Int.reduceLE, Int.reduceEq]
      have hfab : FitL (a ++ b) := fitL_of (by
        have e1 : szL (a ++ b) = szL a + szL b := by simp only [szL, List.length_append, List.map_append, List.sum_append_nat]; omega
        omega)
      have hcall : CallA Try.prog 14 [.sl 2 ((a ++ b).map lnR), .msl S.length 2 0 (a.length + b.length)] (S ++ [⟨2, some (.arr 35 2 (a.map lnR ++ b.map lnR))⟩]) fun r S' => r = .bool true ∧ S' = S ++ kill [⟨2, some (.arr 35 2 (a.map lnR ++ b.map lnR))⟩] := by
        refine CallA.killedL hn (args1 := [lnV (a ++ b), lnV (a ++ b)]) ?_ ⟨.imm rfl, ?_, trivial⟩
        · have := same_A (a ++ b) (a ++ b) (S ++ kill [⟨2, some (.arr 35 2 (a.map lnR ++ b.map lnR))⟩]) hfab hfab
          rwa [decide_eq_true rfl] at this
        · rw [← List.map_append]
          exact .dead (t := 35) (dead_kill (Nat.le_refl _)) (by rw [ob_app0, ob_head]) (by simp) fun r hr => by obtain ⟨x, _, rfl⟩ := List.mem_map.1 hr; exact ⟨rfl, rfl⟩
      refine ⟨by unfold roomA; have := hfab.1; rw [List.length_append] at this; omega, by unfold roomA; have := hfab.1; rw [List.length_append] at this; omega, hcall.then2 ?_⟩
      simp (disch := first | omega | (simp only [List.length_cons, List.length_nil, List.length_map, List.length_drop]; omega)) only [Bool.not_true, ↓evPre, ↓evPreW, evPost, evPostW, ← List.map_take, ← List.map_drop, ↓reduceIte, reduceCtorEq, Nat.reduceEqDiff, forall_const, implies_true, Nat.reduceAdd, Nat.reduceSub, Nat.reduceMul, Nat.reduceLT, Nat.reduceLeDiff, Int.reduceToNat, Int.reduceAdd, Int.reduceSub, Int.reduceNeg, Int.reduceMul, Int.reduceLT, Int.reduceLE, Int.reduceEq]
      refine (main s _).then ?_
      simp (disch := first | omega | (simp only [List.length_cons, List.length_nil, List.length_map, List.length_drop]; omega)) only [↓evPre, ↓evPreW, evPost, evPostW, ← List.map_take, ← List.map_drop, ↓reduceIte, reduceCtorEq, Nat.reduceEqDiff, forall_const, implies_true, Nat.reduceAdd, Nat.reduceSub, Nat.reduceMul, Nat.reduceLT, Nat.reduceLeDiff, Int.reduceToNat, Int.reduceAdd, Int.reduceSub, Int.reduceNeg, Int.reduceMul, Int.reduceLT, Int.reduceLE, Int.reduceEq]
      refine (print_A _ _ hsz).then ?_
      by_cases h0 : (parsed s).2.2 = 0
      · obtain ⟨g1, g2, g3⟩ := parsed_back h0
        simp (disch := first | omega | (simp only [List.length_cons, List.length_nil, List.length_map, List.length_drop]; omega)) only [printV_yes g1, g2, h0, decide_true, ↓evPre, ↓evPreW, evPost, evPostW, ← List.map_take, ← List.map_drop, ↓reduceIte, reduceCtorEq, Nat.reduceEqDiff, forall_const, implies_true, Nat.reduceAdd, Nat.reduceSub, Nat.reduceMul, Nat.reduceLT, Nat.reduceLeDiff, Int.reduceToNat, Int.reduceAdd, Int.reduceSub, Int.reduceNeg, Int.reduceMul, Int.reduceLT, Int.reduceLE, Int.reduceEq]
        refine (right_A a _ ha).then ?_
        simp (disch := first | omega | (simp only [List.length_cons, List.length_nil, List.length_map, List.length_drop]; omega)) only [hra, decide_true, decide_false, beq_self_eq_true, ↓evPre, ↓evPreW, evPost, evPostW, ← List.map_take, ← List.map_drop, ↓reduceIte, reduceCtorEq, Nat.reduceEqDiff, forall_const, implies_true, Nat.reduceAdd, Nat.reduceSub, Nat.reduceMul, Nat.reduceLT, Nat.reduceLeDiff, Int.reduceToNat, Int.reduceAdd, Int.reduceSub, Int.reduceNeg, Int.reduceMul, Int.reduceLT, Int.reduceLE, Int.reduceEq]
        refine (knows_A _).then ?_
        simp (disch := first | omega | (simp only [List.length_cons, List.length_nil, List.length_map, List.length_drop]; omega)) only [↓evPre, ↓evPreW, evPost, evPostW, ← List.map_take, ← List.map_drop, ↓reduceIte, reduceCtorEq, Nat.reduceEqDiff, forall_const, implies_true, Nat.reduceAdd, Nat.reduceSub, Nat.reduceMul, Nat.reduceLT, Nat.reduceLeDiff, Int.reduceToNat, Int.reduceAdd, Int.reduceSub, Int.reduceNeg, Int.reduceMul, Int.reduceLT, Int.reduceLE, Int.reduceEq]
      · obtain ⟨t, n, hp⟩ : ∃ t n, printV (parsed s).1 = .tup [.str t, .int .i64 n] := by unfold printV; split <;> exact ⟨_, _, rfl⟩
        simp (disch := first | omega | (simp only [List.length_cons, List.length_nil, List.length_map, List.length_drop]; omega)) only [hp, h0, decide_true, decide_false, ↓evPre, ↓evPreW, evPost, evPostW, ← List.map_take, ← List.map_drop, ↓reduceIte, reduceCtorEq, Nat.reduceEqDiff, forall_const, implies_true, Nat.reduceAdd, Nat.reduceSub, Nat.reduceMul, Nat.reduceLT, Nat.reduceLeDiff, Int.reduceToNat, Int.reduceAdd, Int.reduceSub, Int.reduceNeg, Int.reduceMul, Int.reduceLT, Int.reduceLE, Int.reduceEq]
        refine (right_A a _ ha).then ?_
        simp (disch := first | omega | (simp only [List.length_cons, List.length_nil, List.length_map, List.length_drop]; omega)) only [hra, h0, decide_true, decide_false, beq_self_eq_true, Bool.not_false, ↓evPre, ↓evPreW, evPost, evPostW, ← List.map_take, ← List.map_drop, ↓reduceIte, reduceCtorEq, Nat.reduceEqDiff, forall_const, implies_true, Nat.reduceAdd, Nat.reduceSub, Nat.reduceMul, Nat.reduceLT, Nat.reduceLeDiff, Int.reduceToNat, Int.reduceAdd, Int.reduceSub, Int.reduceNeg, Int.reduceMul, Int.reduceLT, Int.reduceLE, Int.reduceEq]
        refine (knows_A _).then ?_
        simp (disch := first | omega | (simp only [List.length_cons, List.length_nil, List.length_map, List.length_drop]; omega)) only [↓evPre, ↓evPreW, evPost, evPostW, ← List.map_take, ← List.map_drop, ↓reduceIte, reduceCtorEq, Nat.reduceEqDiff, forall_const, implies_true, Nat.reduceAdd, Nat.reduceSub, Nat.reduceMul, Nat.reduceLT, Nat.reduceLeDiff, Int.reduceToNat, Int.reduceAdd, Int.reduceSub, Int.reduceNeg, Int.reduceMul, Int.reduceLT, Int.reduceLE, Int.reduceEq]
end Go.Proofs.Ytpblahljlbakdaa
