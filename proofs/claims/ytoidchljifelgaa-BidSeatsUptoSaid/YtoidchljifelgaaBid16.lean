/- The walks of BidSeats and BidMore. -/
import Derived.Test.YtoidchljifelgaaBid15
namespace Go.Proofs.Ytoidchljifelgaa
open Go Go.AL
set_option linter.unusedSimpArgs false
set_option maxHeartbeats 4000000

theorem bidseats_A (cs : List (List Int)) (left : List Int) (value most : Int) (S : Store) (hl : cs.length ≤ 1048576) (hb : ∀ l ∈ cs, l.length ≤ 1048576) (hll : left.length ≤ 1048576) (hleft : ∀ x ∈ left, x ≤ 9223372036854775807) :
    CallA Try.prog 5 [.agg [cSl cs, iSl left], .int .i64 value, .int .i64 most] S fun r S' => r = .bool true ∧ S' = S := by
  refine CallA.keep Try.func5 c5 (Nat.le_of_ble_eq_true rfl) fun σ hσ => ?_
  simp (disch := first | omega | (simp only [List.length_cons, List.length_nil, List.length_map, List.length_drop]; omega)) only [a5, cSl, iSl, ldn_c, ↓evPre, ↓evPreW, evPost, evPostW, ← List.map_take, ← List.map_drop, ↓reduceIte, reduceCtorEq, Nat.reduceEqDiff, forall_const, implies_true, Nat.reduceAdd, Nat.reduceSub, Nat.reduceMul, Nat.reduceLT, Nat.reduceLeDiff, Int.reduceToNat, Int.reduceAdd, Int.reduceSub, Int.reduceNeg, Int.reduceMul, Int.reduceLT, Int.reduceLE, Int.reduceEq]
  refine (expected_A cs left S (by omega) fun l h => by have := hb l h; omega).then ?_
  cases he : expF cs
  · simp only [↓evPre, ↓evPreW, evPost, evPostW, ← List.map_take, ← List.map_drop, ↓reduceIte, reduceCtorEq, Nat.reduceEqDiff, forall_const, implies_true, Nat.reduceAdd, Nat.reduceSub, Nat.reduceMul, Nat.reduceLT, Nat.reduceLeDiff, Int.reduceToNat, Int.reduceAdd, Int.reduceSub, Int.reduceNeg, Int.reduceMul, Int.reduceLT, Int.reduceLE, Int.reduceEq]
    refine (knows_A S).then ?_
    simp only [↓evPre, ↓evPreW, evPost, evPostW, ← List.map_take, ← List.map_drop, ↓reduceIte, reduceCtorEq, Nat.reduceEqDiff, forall_const, implies_true, Nat.reduceAdd, Nat.reduceSub, Nat.reduceMul, Nat.reduceLT, Nat.reduceLeDiff, Int.reduceToNat, Int.reduceAdd, Int.reduceSub, Int.reduceNeg, Int.reduceMul, Int.reduceLT, Int.reduceLE, Int.reduceEq]
  · simp only [expF, Bool.and_eq_true, decide_eq_true_eq, List.all_eq_true] at he
    simp (disch := first | omega | (simp only [List.length_cons, List.length_nil, List.length_map, List.length_drop]; omega)) only [cSl, iSl, ldn_c, ↓evPre, ↓evPreW, evPost, evPostW, ← List.map_take, ← List.map_drop, ↓reduceIte, reduceCtorEq, Nat.reduceEqDiff, forall_const, implies_true, Nat.reduceAdd, Nat.reduceSub, Nat.reduceMul, Nat.reduceLT, Nat.reduceLeDiff, Int.reduceToNat, Int.reduceAdd, Int.reduceSub, Int.reduceNeg, Int.reduceMul, Int.reduceLT, Int.reduceLE, Int.reduceEq]
    refine exD.intro (seats_A cs left value most S he.2 he.1 hleft) ?_
    simp (disch := first | omega | (simp only [List.length_cons, List.length_nil, List.length_map, List.length_drop]; omega)) only [cSl, iSl, ldn_c, ↓evPre, ↓evPreW, evPost, evPostW, ← List.map_take, ← List.map_drop, ↓reduceIte, reduceCtorEq, Nat.reduceEqDiff, forall_const, implies_true, Nat.reduceAdd, Nat.reduceSub, Nat.reduceMul, Nat.reduceLT, Nat.reduceLeDiff, Int.reduceToNat, Int.reduceAdd, Int.reduceSub, Int.reduceNeg, Int.reduceMul, Int.reduceLT, Int.reduceLE, Int.reduceEq]
    refine (refseats_A cs left value most S he.2 (by omega) he.1 hleft).then ?_
    simp (disch := first | omega | (simp only [List.length_cons, List.length_nil, List.length_map, List.length_drop]; omega)) only [decide_true, ↓evPre, ↓evPreW, evPost, evPostW, ← List.map_take, ← List.map_drop, ↓reduceIte, reduceCtorEq, Nat.reduceEqDiff, forall_const, implies_true, Nat.reduceAdd, Nat.reduceSub, Nat.reduceMul, Nat.reduceLT, Nat.reduceLeDiff, Int.reduceToNat, Int.reduceAdd, Int.reduceSub, Int.reduceNeg, Int.reduceMul, Int.reduceLT, Int.reduceLE, Int.reduceEq]
    refine (knows_A S).then ?_
    simp only [↓evPre, ↓evPreW, evPost, evPostW, ← List.map_take, ← List.map_drop, ↓reduceIte, reduceCtorEq, Nat.reduceEqDiff, forall_const, implies_true, Nat.reduceAdd, Nat.reduceSub, Nat.reduceMul, Nat.reduceLT, Nat.reduceLeDiff, Int.reduceToNat, Int.reduceAdd, Int.reduceSub, Int.reduceNeg, Int.reduceMul, Int.reduceLT, Int.reduceLE, Int.reduceEq]

theorem iSl_eq (l : List Int) : V.sl 1 (l.map fun n => [.int .i64 n]) = iSl l := rfl

theorem bidmore_A (cs : List (List Int)) (left : List Int) (value most : Int) (S : Store) (hl : cs.length ≤ 1048576) (hb : ∀ l ∈ cs, l.length ≤ 1048576) (hll : left.length ≤ 1048576) (hleft : ∀ x ∈ left, -9223372036854775808 ≤ x ∧ x ≤ 9223372036854775807)
    (hmost : -9223372036854775808 ≤ most ∧ most ≤ 9223372036854775807) :
    CallA Try.prog 7 [.agg [cSl cs, iSl left], .int .i64 value, .int .i64 most] S fun r S' => r = .bool true ∧ S' = S := by
  refine CallA.back Try.func7 c7 (Nat.le_of_ble_eq_true rfl) fun σ hσ hn => ?_
  have fin : ∀ T : Store, ∃ r1, (∃ T', S ++ T = S ++ T') ∧ Frz (S ++ T) S (.bool true) r1 ∧ r1 = .bool true := fun T => ⟨_, ⟨T, rfl⟩, .imm rfl, rfl⟩
  have fin0 : ∃ r1, (∃ T', S = S ++ T') ∧ Frz S S (.bool true) r1 ∧ r1 = .bool true := ⟨_, ⟨[], by simp⟩, .imm rfl, rfl⟩
  simp (disch := first | omega | (simp only [List.length_cons, List.length_nil, List.length_map, List.length_drop]; omega)) only [a7, cSl, iSl, ldn_c, ↓evPre, ↓evPreW, evPost, evPostW, ← List.map_take, ← List.map_drop, ↓reduceIte, reduceCtorEq, Nat.reduceEqDiff, forall_const, implies_true, Nat.reduceAdd, Nat.reduceSub, Nat.reduceMul, Nat.reduceLT, Nat.reduceLeDiff, Int.reduceToNat, Int.reduceAdd, Int.reduceSub, Int.reduceNeg, Int.reduceMul, Int.reduceLT, Int.reduceLE, Int.reduceEq]
  refine (expected_A cs left S (by omega) fun l h => by have := hb l h; omega).then ?_
  have known : ∀ R : V → Store → Prop, R (.bool true) S → CallA Try.prog 8 [] S R := fun R h => (knows_A S).then h
  cases he : expF cs
  · simp only [↓evPre, ↓evPreW, evPost, evPostW, ← List.map_take, ← List.map_drop, ↓reduceIte, reduceCtorEq, Nat.reduceEqDiff, forall_const, implies_true, Nat.reduceAdd, Nat.reduceSub, Nat.reduceMul, Nat.reduceLT, Nat.reduceLeDiff, Int.reduceToNat, Int.reduceAdd, Int.reduceSub, Int.reduceNeg, Int.reduceMul, Int.reduceLT, Int.reduceLE, Int.reduceEq]
    refine (knows_A S).then ?_
    simp only [↓evPre, ↓evPreW, evPost, evPostW, ← List.map_take, ← List.map_drop, ↓reduceIte, reduceCtorEq, Nat.reduceEqDiff, forall_const, implies_true, Nat.reduceAdd, Nat.reduceSub, Nat.reduceMul, Nat.reduceLT, Nat.reduceLeDiff, Int.reduceToNat, Int.reduceAdd, Int.reduceSub, Int.reduceNeg, Int.reduceMul, Int.reduceLT, Int.reduceLE, Int.reduceEq]
    exact fin0
  · simp only [expF, Bool.and_eq_true, decide_eq_true_eq, List.all_eq_true] at he
    by_cases g1 : value < -1152921504606846976
    · simp only [g1, ↓evPre, ↓evPreW, evPost, evPostW, ← List.map_take, ← List.map_drop, ↓reduceIte, reduceCtorEq, Nat.reduceEqDiff, forall_const, implies_true, Nat.reduceAdd, Nat.reduceSub, Nat.reduceMul, Nat.reduceLT, Nat.reduceLeDiff, Int.reduceToNat, Int.reduceAdd, Int.reduceSub, Int.reduceNeg, Int.reduceMul, Int.reduceLT, Int.reduceLE, Int.reduceEq]
      refine (knows_A S).then ?_
      simp only [↓evPre, ↓evPreW, evPost, evPostW, ← List.map_take, ← List.map_drop, ↓reduceIte, reduceCtorEq, Nat.reduceEqDiff, forall_const, implies_true, Nat.reduceAdd, Nat.reduceSub, Nat.reduceMul, Nat.reduceLT, Nat.reduceLeDiff, Int.reduceToNat, Int.reduceAdd, Int.reduceSub, Int.reduceNeg, Int.reduceMul, Int.reduceLT, Int.reduceLE, Int.reduceEq]
      exact fin0
    by_cases g2 : 1152921504606846976 < value
    · simp only [g1, g2, ↓evPre, ↓evPreW, evPost, evPostW, ← List.map_take, ← List.map_drop, ↓reduceIte, reduceCtorEq, Nat.reduceEqDiff, forall_const, implies_true, Nat.reduceAdd, Nat.reduceSub, Nat.reduceMul, Nat.reduceLT, Nat.reduceLeDiff, Int.reduceToNat, Int.reduceAdd, Int.reduceSub, Int.reduceNeg, Int.reduceMul, Int.reduceLT, Int.reduceLE, Int.reduceEq]
      refine (knows_A S).then ?_
      simp only [↓evPre, ↓evPreW, evPost, evPostW, ← List.map_take, ← List.map_drop, ↓reduceIte, reduceCtorEq, Nat.reduceEqDiff, forall_const, implies_true, Nat.reduceAdd, Nat.reduceSub, Nat.reduceMul, Nat.reduceLT, Nat.reduceLeDiff, Int.reduceToNat, Int.reduceAdd, Int.reduceSub, Int.reduceNeg, Int.reduceMul, Int.reduceLT, Int.reduceLE, Int.reduceEq]
      exact fin0
    by_cases g3 : 1152921504606846976 < most
    · simp only [g1, g2, g3, ↓evPre, ↓evPreW, evPost, evPostW, ← List.map_take, ← List.map_drop, ↓reduceIte, reduceCtorEq, Nat.reduceEqDiff, forall_const, implies_true, Nat.reduceAdd, Nat.reduceSub, Nat.reduceMul, Nat.reduceLT, Nat.reduceLeDiff, Int.reduceToNat, Int.reduceAdd, Int.reduceSub, Int.reduceNeg, Int.reduceMul, Int.reduceLT, Int.reduceLE, Int.reduceEq]
      refine (knows_A S).then ?_
      simp only [↓evPre, ↓evPreW, evPost, evPostW, ← List.map_take, ← List.map_drop, ↓reduceIte, reduceCtorEq, Nat.reduceEqDiff, forall_const, implies_true, Nat.reduceAdd, Nat.reduceSub, Nat.reduceMul, Nat.reduceLT, Nat.reduceLeDiff, Int.reduceToNat, Int.reduceAdd, Int.reduceSub, Int.reduceNeg, Int.reduceMul, Int.reduceLT, Int.reduceLE, Int.reduceEq]
      exact fin0
    simp (disch := first | omega | (simp only [List.length_cons, List.length_nil, List.length_map, List.length_drop]; omega)) only [g1, g2, g3, cSl, iSl, ldn_c, ↓evPre, ↓evPreW, evPost, evPostW, ← List.map_take, ← List.map_drop, ↓reduceIte, reduceCtorEq, Nat.reduceEqDiff, forall_const, implies_true, Nat.reduceAdd, Nat.reduceSub, Nat.reduceMul, Nat.reduceLT, Nat.reduceLeDiff, Int.reduceToNat, Int.reduceAdd, Int.reduceSub, Int.reduceNeg, Int.reduceMul, Int.reduceLT, Int.reduceLE, Int.reduceEq]
    have hleft' : ∀ x ∈ left, x ≤ 9223372036854775807 := fun x hx => (hleft x hx).2
    refine (seats_A cs left value most S he.2 he.1 hleft').then ?_
    obtain ⟨n, hnn⟩ : ∃ n, n = seatsF cs left value most := ⟨_, rfl⟩
    have hb3 := seats_bounds (cs := cs) (left := left) (value := value) (most := most)
    rw [← hnn] at hb3 ⊢
    have q1 : ¬ n < 0 := by omega
    have q2 : ¬ max most 0 < n := by omega
    have q3 : ¬ 999 < n := by omega
    simp (disch := first | omega | (simp only [List.length_cons, List.length_nil, List.length_map, List.length_drop]; omega)) only [q1, q2, q3, cSl, iSl, ldn_c, wrap_i64, ↓evPre, ↓evPreW, evPost, evPostW, ← List.map_take, ← List.map_drop, ↓reduceIte, reduceCtorEq, Nat.reduceEqDiff, forall_const, implies_true, Nat.reduceAdd, Nat.reduceSub, Nat.reduceMul, Nat.reduceLT, Nat.reduceLeDiff, Int.reduceToNat, Int.reduceAdd, Int.reduceSub, Int.reduceNeg, Int.reduceMul, Int.reduceLT, Int.reduceLE, Int.reduceEq]
    refine (seats_A cs left (value + 1) most S he.2 he.1 hleft').then ?_
    have q4 : ¬ seatsF cs left (value + 1) most < n := by
      have := seats_mono (cs := cs) (left := left) (left' := left) (value := value) (value' := value + 1) (most := most) (most' := most) rfl (Int.le_refl _) fun k h => acc_value h
      omega
    simp (disch := first | omega | (simp only [List.length_cons, List.length_nil, List.length_map, List.length_drop]; omega)) only [q4, cSl, iSl, ldn_c, wrap_i64, ↓evPre, ↓evPreW, evPost, evPostW, ← List.map_take, ← List.map_drop, ↓reduceIte, reduceCtorEq, Nat.reduceEqDiff, forall_const, implies_true, Nat.reduceAdd, Nat.reduceSub, Nat.reduceMul, Nat.reduceLT, Nat.reduceLeDiff, Int.reduceToNat, Int.reduceAdd, Int.reduceSub, Int.reduceNeg, Int.reduceMul, Int.reduceLT, Int.reduceLE, Int.reduceEq]
    refine (seats_A cs left value (most + 1) S he.2 he.1 hleft').then ?_
    have q5 : ¬ seatsF cs left value (most + 1) < n := by
      have := seats_mono (cs := cs) (left := left) (left' := left) (value := value) (value' := value) (most := most) (most' := most + 1) rfl (by omega) fun k h => h
      omega
    simp (disch := first | omega | (simp only [List.length_cons, List.length_nil, List.length_map, List.length_drop]; omega)) only [q5, cSl, iSl, ldn_c, wrap_i64, ↓evPre, ↓evPreW, evPost, evPostW, ← List.map_take, ← List.map_drop, ↓reduceIte, reduceCtorEq, Nat.reduceEqDiff, forall_const, implies_true, Nat.reduceAdd, Nat.reduceSub, Nat.reduceMul, Nat.reduceLT, Nat.reduceLeDiff, Int.reduceToNat, Int.reduceAdd, Int.reduceSub, Int.reduceNeg, Int.reduceMul, Int.reduceLT, Int.reduceLE, Int.reduceEq]
    refine LoopA.ghost 8 0 3 1 (by simp only [↓evPre, ↓evPreW, evPost, evPostW, ← List.map_take, ← List.map_drop, ↓reduceIte, reduceCtorEq, Nat.reduceEqDiff, forall_const, implies_true, Nat.reduceAdd, Nat.reduceSub, Nat.reduceMul, Nat.reduceLT, Nat.reduceLeDiff, Int.reduceToNat, Int.reduceAdd, Int.reduceSub, Int.reduceNeg, Int.reduceMul, Int.reduceLT, Int.reduceLE, Int.reduceEq]) ?_
    refine loopA (ι := Nat × Nat) (fun i => [(3, .cptr [cSl cs, iSl left]), (1, .int .i64 value), (2, .int .i64 most), (7, .int .i64 n), (8, .msl S.length i.2 0 i.1), (9, .int .i64 i.1)]) (fun i => S ++ [⟨i.2, some (.arr 3 1 (((left.take i.1).map upF).map fun n => [.int .i64 n]))⟩])
      (fun i => i.1 ≤ left.length ∧ ∀ x ∈ left.take i.1, x ≤ 100000) (fun i => left.length - i.1) (0, 0) ⟨Nat.zero_le _, by simp⟩ ?_ (by simp) ?_
    · simp only [iSl, cSl, ↓evPre, ↓evPreW, evPost, evPostW, ← List.map_take, ← List.map_drop, ↓reduceIte, reduceCtorEq, Nat.reduceEqDiff, forall_const, implies_true, Nat.reduceAdd, Nat.reduceSub, Nat.reduceMul, Nat.reduceLT, Nat.reduceLeDiff, Int.reduceToNat, Int.reduceAdd, Int.reduceSub, Int.reduceNeg, Int.reduceMul, Int.reduceLT, Int.reduceLE, Int.reduceEq]
    · rintro ⟨k, v⟩ ⟨hk, hk2⟩
      simp only at hk hk2 ⊢
      have htl : (left.take k).length = k := by simp; omega
      cases hc : left[k]? with
      | some x =>
        have hlt : (k : Int) < left.length := by have := (List.getElem?_eq_some_iff.1 hc).1; omega
        have hxl := hleft x (List.mem_of_getElem? hc)
        by_cases g4 : 100000 < x
        · simp (disch := first | omega | (simp only [List.length_cons, List.length_nil, List.length_map, List.length_drop]; omega)) only [hc, hlt, g4, cSl, iSl, wrap_i64, evSt, ↓evPre, ↓evPreW, evPost, evPostW, ← List.map_take, ← List.map_drop, ↓reduceIte, reduceCtorEq, Nat.reduceEqDiff, forall_const, implies_true, Nat.reduceAdd, Nat.reduceSub, Nat.reduceMul, Nat.reduceLT, Nat.reduceLeDiff, Int.reduceToNat, Int.reduceAdd, Int.reduceSub, Int.reduceNeg, Int.reduceMul, Int.reduceLT, Int.reduceLE, Int.reduceEq]
          refine (knows_A _).then ?_
          simp only [↓evPre, ↓evPreW, evPost, evPostW, ← List.map_take, ← List.map_drop, ↓reduceIte, reduceCtorEq, Nat.reduceEqDiff, forall_const, implies_true, Nat.reduceAdd, Nat.reduceSub, Nat.reduceMul, Nat.reduceLT, Nat.reduceLeDiff, Int.reduceToNat, Int.reduceAdd, Int.reduceSub, Int.reduceNeg, Int.reduceMul, Int.reduceLT, Int.reduceLE, Int.reduceEq]
          exact fin _
        · simp (disch := first | omega | (simp only [List.length_cons, List.length_nil, List.length_map, List.length_drop]; omega)) only [hc, hlt, g4, htl, cSl, iSl, wrap_i64, evSt, ↓evPre, ↓evPreW, evPost, evPostW, ← List.map_take, ← List.map_drop, ↓reduceIte, reduceCtorEq, Nat.reduceEqDiff, forall_const, implies_true, Nat.reduceAdd, Nat.reduceSub, Nat.reduceMul, Nat.reduceLT, Nat.reduceLeDiff, Int.reduceToNat, Int.reduceAdd, Int.reduceSub, Int.reduceNeg, Int.reduceMul, Int.reduceLT, Int.reduceLE, Int.reduceEq]
          have ht : left.take (k + 1) = left.take k ++ [x] := by rw [List.take_add_one, hc]; rfl
          refine ⟨by unfold roomA; omega, (k + 1, v + 1), ⟨by simp only; omega, fun y hy => ?_⟩, by simp only; omega, ⟨rfl, by simp only; omega⟩, ?_⟩
          · simp only [ht, List.mem_append, List.mem_singleton] at hy
            rcases hy with hy | rfl
            · exact hk2 y hy
            · omega
          · simp only [ht, List.map_append, List.map_cons, List.map_nil, upF]
      | none =>
        have hlt : ¬ (k : Int) < left.length := by rw [List.getElem?_eq_none_iff] at hc; omega
        have hkl : k = left.length := by omega
        subst hkl
        rw [List.take_of_length_le (Nat.le_refl _)] at hk2 htl ⊢
        simp (disch := first | omega | (simp only [List.length_cons, List.length_nil, List.length_map, List.length_drop]; omega)) only [hc, hlt, cSl, iSl, wrap_i64, evSt, ↓evPre, ↓evPreW, evPost, evPostW, ← List.map_take, ← List.map_drop, ↓reduceIte, reduceCtorEq, Nat.reduceEqDiff, forall_const, implies_true, Nat.reduceAdd, Nat.reduceSub, Nat.reduceMul, Nat.reduceLT, Nat.reduceLeDiff, Int.reduceToNat, Int.reduceAdd, Int.reduceSub, Int.reduceNeg, Int.reduceMul, Int.reduceLT, Int.reduceLE, Int.reduceEq]
        have froz : ∀ v : Nat, ∀ (j : Nat) (v1 w : V), [cSl cs, iSl (left.map upF), .int .i64 value, .int .i64 most][j]? = some v1 → [V.sl 1 (cs.map fun l => [V.sl 1 (l.map fun n => [.int .i64 n])]), .msl S.length v 0 left.length, .int .i64 value, .int .i64 most][j]? = some w →
            Frz (S ++ [⟨v, some (.arr 3 1 ((left.map upF).map fun n => [.int .i64 n]))⟩]) (S ++ kill [⟨v, some (.arr 3 1 ((left.map upF).map fun n => [.int .i64 n]))⟩]) w v1 := by
          intro v j v1 w h1 h2
          match j with
          | 0 => simp at h1 h2; subst h1 h2; exact .imm rfl
          | 1 => simp only [List.getElem?_cons_succ, List.getElem?_cons_zero, Option.some.injEq] at h1 h2; subst h1 h2; exact .dead (t := 3) (rows := (left.map upF).map fun n => [.int .i64 n]) (dead_kill (Nat.le_refl _)) (by simp only [evSt]) (by simp) (rowsImm _)
          | 2 => simp at h1 h2; subst h1 h2; exact .imm rfl
          | 3 => simp at h1 h2; subst h1 h2; exact .imm rfl
          | j + 4 => simp at h1
        have q6 : n ≤ seatsF cs (left.map upF) value most := by
          have := seats_mono (cs := cs) (left := left) (left' := left.map upF) (value := value) (value' := value) (most := most) (most' := most) (by simp) (Int.le_refl _) fun k h => acc_up he.1 (by omega) h
          omega
        have q6' : (0 : Int) ≤ seatsF cs (left.map upF) value most := seats_bounds.1
        -- the sum
        have hcost : 0 < n → cs.length = left.length ∧ (∀ p ∈ cs.zip left, n ≤ p.2) ∧ ((cs.zip left).map (costF (n - 1))).sum ≤ value := fun h => by
          obtain ⟨h1, h2⟩ := seats_last (cs := cs) (left := left) (value := value) (most := most) (by omega)
          rw [← hnn] at h2
          simp only [accF, Bool.and_eq_true, List.all_eq_true, decide_eq_true_eq] at h2
          exact ⟨h1, fun p hp => by have := h2.1 p hp; omega, h2.2⟩
        have hpb : ∀ p ∈ cs.zip left, -1 ≤ costF (n - 1) p ∧ costF (n - 1) p ≤ 1099511627776 := fun p hp => by
          by_cases h0 : 0 < p.2 - (n - 1)
          · have := price_bound (zip_mem he.1 hp) h0
            simp only [costF]; omega
          · have : costF (n - 1) p = -1 := by simp only [costF, priceF]; rw [if_pos (by omega)]
            omega
        refine loopA (ι := Nat) (fun k => [(3, .cptr [cSl cs, iSl left]), (1, .int .i64 value), (2, .int .i64 most), (7, .int .i64 n), (8, .msl S.length v 0 left.length), (10, .int .i64 (((cs.zip left).take k).map (costF (n - 1))).sum), (11, .int .i64 k)]) (fun _ => S ++ [⟨v, some (.arr 3 1 ((left.map upF).map fun n => [.int .i64 n]))⟩])
          (fun k => k ≤ cs.length ∧ k ≤ left.length) (fun k => cs.length - k) 0 ⟨Nat.zero_le _, Nat.zero_le _⟩ ?_ rfl ?_
        · simp only [iSl, cSl, List.sum_nil, ↓evPre, ↓evPreW, evPost, evPostW, ← List.map_take, ← List.map_drop, ↓reduceIte, reduceCtorEq, Nat.reduceEqDiff, forall_const, implies_true, Nat.reduceAdd, Nat.reduceSub, Nat.reduceMul, Nat.reduceLT, Nat.reduceLeDiff, Int.reduceToNat, Int.reduceAdd, Int.reduceSub, Int.reduceNeg, Int.reduceMul, Int.reduceLT, Int.reduceLE, Int.reduceEq]
        · rintro k ⟨hk3, hk4⟩
          have hsb : ∀ (l : List (List Int × Int)), (∀ p ∈ l, -1 ≤ costF (n - 1) p ∧ costF (n - 1) p ≤ 1099511627776) → -(l.length : Int) ≤ (l.map (costF (n - 1))).sum ∧ (l.map (costF (n - 1))).sum ≤ 1099511627776 * l.length := by
            intro l
            induction l with
            | nil => simp
            | cons p l ih =>
              intro h
              have h1 := h p (List.mem_cons_self ..)
              have h2 := ih fun q hq => h q (List.mem_cons_of_mem _ hq)
              simp only [List.map_cons, List.sum_cons, List.length_cons]
              omega
          have hs := hsb ((cs.zip left).take k) fun p hp => hpb p (List.mem_of_mem_take hp)
          have hzl : ((cs.zip left).take k).length ≤ k := by simp; omega
          have done : ¬ ((k : Int) < cs.length ∧ (k : Int) < left.length) → (cs.zip left).take k = cs.zip left := fun h => List.take_of_length_le (by simp; omega)
          by_cases g5 : (k : Int) < cs.length
          · by_cases g6 : (k : Int) < left.length
            · obtain ⟨c, hcc⟩ : ∃ c, cs[k]? = some c := ⟨cs[k], List.getElem?_eq_getElem (by omega)⟩
              obtain ⟨x, hx⟩ : ∃ x, left[k]? = some x := ⟨left[k], List.getElem?_eq_getElem (by omega)⟩
              have hz := zip_take cs left k c x hcc hx
              have hmem : (c, x) ∈ cs.zip left := List.mem_of_mem_take (i := k + 1) (by rw [hz]; simp)
              have hx1 := hleft x (List.mem_of_getElem? hx)
              have hx2 := hk2 x (List.mem_of_getElem? hx)
              have hp := hpb _ hmem
              have hcr := he.1 c (List.mem_of_getElem? hcc)
              have hcl := (right_bound hcr).1
              have hxn : 0 < n → ¬ x < n := fun h => by have := (hcost h).2.1 _ hmem; simp only at this; omega
              have next : CallA Try.prog 13 [iSl c, .int .i64 (x - n + 1)] (S ++ [⟨v, some (.arr 3 1 ((left.map upF).map fun n => [.int .i64 n]))⟩]) fun r S' => r = .int .i64 (costF (n - 1) (c, x)) ∧ S' = S ++ [⟨v, some (.arr 3 1 ((left.map upF).map fun n => [.int .i64 n]))⟩] := by
                have e : x - n + 1 = x - (n - 1) := by omega
                have := price_A c (x - n + 1) (S ++ [⟨v, some (.arr 3 1 ((left.map upF).map fun n => [.int .i64 n]))⟩]) (by omega)
                simpa only [costF, e] using this
              by_cases g7 : 0 < n
              · simp (disch := first | omega | (simp only [List.length_cons, List.length_nil, List.length_map, List.length_drop]; omega)) only [g5, g6, g7, hxn g7, hcc, hx, cSl, iSl, wrap_i64, evSt, ↓evPre, ↓evPreW, evPost, evPostW, ← List.map_take, ← List.map_drop, ↓reduceIte, reduceCtorEq, Nat.reduceEqDiff, forall_const, implies_true, Nat.reduceAdd, Nat.reduceSub, Nat.reduceMul, Nat.reduceLT, Nat.reduceLeDiff, Int.reduceToNat, Int.reduceAdd, Int.reduceSub, Int.reduceNeg, Int.reduceMul, Int.reduceLT, Int.reduceLE, Int.reduceEq]
                refine next.then ?_
                simp (disch := first | omega | (simp only [List.length_cons, List.length_nil, List.length_map, List.length_drop]; omega)) only [cSl, iSl, wrap_i64, evSt, ↓evPre, ↓evPreW, evPost, evPostW, ← List.map_take, ← List.map_drop, ↓reduceIte, reduceCtorEq, Nat.reduceEqDiff, forall_const, implies_true, Nat.reduceAdd, Nat.reduceSub, Nat.reduceMul, Nat.reduceLT, Nat.reduceLeDiff, Int.reduceToNat, Int.reduceAdd, Int.reduceSub, Int.reduceNeg, Int.reduceMul, Int.reduceLT, Int.reduceLE, Int.reduceEq]
                exact ⟨k + 1, ⟨by omega, by omega⟩, by omega, ⟨by rw [hz]; simp, by omega⟩⟩
              · simp (disch := first | omega | (simp only [List.length_cons, List.length_nil, List.length_map, List.length_drop]; omega)) only [g5, g6, g7, hcc, hx, cSl, iSl, wrap_i64, evSt, ↓evPre, ↓evPreW, evPost, evPostW, ← List.map_take, ← List.map_drop, ↓reduceIte, reduceCtorEq, Nat.reduceEqDiff, forall_const, implies_true, Nat.reduceAdd, Nat.reduceSub, Nat.reduceMul, Nat.reduceLT, Nat.reduceLeDiff, Int.reduceToNat, Int.reduceAdd, Int.reduceSub, Int.reduceNeg, Int.reduceMul, Int.reduceLT, Int.reduceLE, Int.reduceEq]
                refine next.then ?_
                simp (disch := first | omega | (simp only [List.length_cons, List.length_nil, List.length_map, List.length_drop]; omega)) only [cSl, iSl, wrap_i64, evSt, ↓evPre, ↓evPreW, evPost, evPostW, ← List.map_take, ← List.map_drop, ↓reduceIte, reduceCtorEq, Nat.reduceEqDiff, forall_const, implies_true, Nat.reduceAdd, Nat.reduceSub, Nat.reduceMul, Nat.reduceLT, Nat.reduceLeDiff, Int.reduceToNat, Int.reduceAdd, Int.reduceSub, Int.reduceNeg, Int.reduceMul, Int.reduceLT, Int.reduceLE, Int.reduceEq]
                exact ⟨k + 1, ⟨by omega, by omega⟩, by omega, ⟨by rw [hz]; simp, by omega⟩⟩
            · simp (disch := first | omega | (simp only [List.length_cons, List.length_nil, List.length_map, List.length_drop]; omega)) only [g5, g6, cSl, iSl, wrap_i64, evSt, ↓evPre, ↓evPreW, evPost, evPostW, ← List.map_take, ← List.map_drop, ↓reduceIte, reduceCtorEq, Nat.reduceEqDiff, forall_const, implies_true, Nat.reduceAdd, Nat.reduceSub, Nat.reduceMul, Nat.reduceLT, Nat.reduceLeDiff, Int.reduceToNat, Int.reduceAdd, Int.reduceSub, Int.reduceNeg, Int.reduceMul, Int.reduceLT, Int.reduceLE, Int.reduceEq]
              refine CallA.killed hn (args1 := [cSl cs, iSl (left.map upF), .int .i64 value, .int .i64 most]) ((seats_A cs (left.map upF) value most _ he.2 he.1 (fun y hy => by
                obtain ⟨x, hx, rfl⟩ := List.mem_map.1 hy
                have := hk2 x hx
                simp only [upF]; omega)).then ?_) rfl (froz v)
              by_cases g8 : n = 0
              · simp only [g8, cSl, iSl, q6', ↓evPre, ↓evPreW, evPost, evPostW, ← List.map_take, ← List.map_drop, ↓reduceIte, reduceCtorEq, Nat.reduceEqDiff, forall_const, implies_true, Nat.reduceAdd, Nat.reduceSub, Nat.reduceMul, Nat.reduceLT, Nat.reduceLeDiff, Int.reduceToNat, Int.reduceAdd, Int.reduceSub, Int.reduceNeg, Int.reduceMul, Int.reduceLT, Int.reduceLE, Int.reduceEq]
                refine (knows_A _).then ?_
                simp only [↓evPre, ↓evPreW, evPost, evPostW, ← List.map_take, ← List.map_drop, ↓reduceIte, reduceCtorEq, Nat.reduceEqDiff, forall_const, implies_true, Nat.reduceAdd, Nat.reduceSub, Nat.reduceMul, Nat.reduceLT, Nat.reduceLeDiff, Int.reduceToNat, Int.reduceAdd, Int.reduceSub, Int.reduceNeg, Int.reduceMul, Int.reduceLT, Int.reduceLE, Int.reduceEq]
                exact fin _
              · have h9 := (hcost (by omega)).2.2
                rw [← done (by omega)] at h9
                simp only [g8, h9, q6, cSl, iSl, ↓evPre, ↓evPreW, evPost, evPostW, ← List.map_take, ← List.map_drop, ↓reduceIte, reduceCtorEq, Nat.reduceEqDiff, forall_const, implies_true, Nat.reduceAdd, Nat.reduceSub, Nat.reduceMul, Nat.reduceLT, Nat.reduceLeDiff, Int.reduceToNat, Int.reduceAdd, Int.reduceSub, Int.reduceNeg, Int.reduceMul, Int.reduceLT, Int.reduceLE, Int.reduceEq]
                refine (knows_A _).then ?_
                simp only [↓evPre, ↓evPreW, evPost, evPostW, ← List.map_take, ← List.map_drop, ↓reduceIte, reduceCtorEq, Nat.reduceEqDiff, forall_const, implies_true, Nat.reduceAdd, Nat.reduceSub, Nat.reduceMul, Nat.reduceLT, Nat.reduceLeDiff, Int.reduceToNat, Int.reduceAdd, Int.reduceSub, Int.reduceNeg, Int.reduceMul, Int.reduceLT, Int.reduceLE, Int.reduceEq]
                exact fin _
          · simp (disch := first | omega | (simp only [List.length_cons, List.length_nil, List.length_map, List.length_drop]; omega)) only [g5, cSl, iSl, wrap_i64, evSt, ↓evPre, ↓evPreW, evPost, evPostW, ← List.map_take, ← List.map_drop, ↓reduceIte, reduceCtorEq, Nat.reduceEqDiff, forall_const, implies_true, Nat.reduceAdd, Nat.reduceSub, Nat.reduceMul, Nat.reduceLT, Nat.reduceLeDiff, Int.reduceToNat, Int.reduceAdd, Int.reduceSub, Int.reduceNeg, Int.reduceMul, Int.reduceLT, Int.reduceLE, Int.reduceEq]
            refine CallA.killed hn (args1 := [cSl cs, iSl (left.map upF), .int .i64 value, .int .i64 most]) ((seats_A cs (left.map upF) value most _ he.2 he.1 (fun y hy => by
              obtain ⟨x, hx, rfl⟩ := List.mem_map.1 hy
              have := hk2 x hx
              simp only [upF]; omega)).then ?_) rfl (froz v)
            by_cases g8 : n = 0
            · simp only [g8, cSl, iSl, q6', ↓evPre, ↓evPreW, evPost, evPostW, ← List.map_take, ← List.map_drop, ↓reduceIte, reduceCtorEq, Nat.reduceEqDiff, forall_const, implies_true, Nat.reduceAdd, Nat.reduceSub, Nat.reduceMul, Nat.reduceLT, Nat.reduceLeDiff, Int.reduceToNat, Int.reduceAdd, Int.reduceSub, Int.reduceNeg, Int.reduceMul, Int.reduceLT, Int.reduceLE, Int.reduceEq]
              refine (knows_A _).then ?_
              simp only [↓evPre, ↓evPreW, evPost, evPostW, ← List.map_take, ← List.map_drop, ↓reduceIte, reduceCtorEq, Nat.reduceEqDiff, forall_const, implies_true, Nat.reduceAdd, Nat.reduceSub, Nat.reduceMul, Nat.reduceLT, Nat.reduceLeDiff, Int.reduceToNat, Int.reduceAdd, Int.reduceSub, Int.reduceNeg, Int.reduceMul, Int.reduceLT, Int.reduceLE, Int.reduceEq]
              exact fin _
            · have h9 := (hcost (by omega)).2.2
              rw [← done (by omega)] at h9
              simp only [g8, h9, q6, cSl, iSl, ↓evPre, ↓evPreW, evPost, evPostW, ← List.map_take, ← List.map_drop, ↓reduceIte, reduceCtorEq, Nat.reduceEqDiff, forall_const, implies_true, Nat.reduceAdd, Nat.reduceSub, Nat.reduceMul, Nat.reduceLT, Nat.reduceLeDiff, Int.reduceToNat, Int.reduceAdd, Int.reduceSub, Int.reduceNeg, Int.reduceMul, Int.reduceLT, Int.reduceLE, Int.reduceEq]
              refine (knows_A _).then ?_
              simp only [↓evPre, ↓evPreW, evPost, evPostW, ← List.map_take, ← List.map_drop, ↓reduceIte, reduceCtorEq, Nat.reduceEqDiff, forall_const, implies_true, Nat.reduceAdd, Nat.reduceSub, Nat.reduceMul, Nat.reduceLT, Nat.reduceLeDiff, Int.reduceToNat, Int.reduceAdd, Int.reduceSub, Int.reduceNeg, Int.reduceMul, Int.reduceLT, Int.reduceLE, Int.reduceEq]
              exact fin _
end Go.Proofs.Ytoidchljifelgaa
