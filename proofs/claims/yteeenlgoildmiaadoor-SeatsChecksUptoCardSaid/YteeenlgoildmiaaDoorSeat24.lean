/- seats.Check, walked: it finds faultsTo. -/
import Derived.Test.YteeenlgoildmiaaDoorSeat23
namespace Go.Proofs.YteeenlgoildmiaaDoor
open Go Go.AL
set_option linter.unusedSimpArgs false
set_option linter.unusedVariables false
set_option maxRecDepth 20000

theorem nameGood_nil : ¬ nameGood [] := fun ⟨c, h, _⟩ => by cases h
theorem nameGood_two {c d : UInt8} {r : Txt} : ¬ nameGood (c :: d :: r) := fun ⟨_, h, _⟩ => by cases h
theorem nameGood_one {c : UInt8} : nameGood [c] ↔ 65 ≤ c.toNat ∧ c.toNat ≤ 90 := ⟨fun ⟨_, h, a, b⟩ => by cases h; exact ⟨a, b⟩, fun ⟨a, b⟩ => ⟨c, rfl, a, b⟩⟩

set_option maxHeartbeats 4000000 in
theorem check_A (l : List Sea) (S : Store) (hl : l.length ≤ 999) : CallA Tryd.prog 14 [seSl l] S fun r S' => r = fltSl (faultsTo l l.length) ∧ S' = S := by
  refine CallA.withNeat Tryd.func14 c14 fun hn => ?_
  refine CallA.fin Tryd.func14 c14 (Nat.le_of_ble_eq_true rfl) fun σ hσ => ?_
  have n99 : ¬ (999 : Int) < l.length := by omega
  simp (disch := first | omega | (simp only [List.length_cons, List.length_nil, List.length_map, List.length_drop]; omega)) only [a14, seSl, List.length_map, n99, decide_false, evSt, ↓evPre, ↓evPreW, evPost, evPostW, ← List.map_take, ← List.map_drop, ↓reduceIte, reduceCtorEq, Nat.reduceEqDiff, forall_const, implies_true, Nat.reduceAdd, Nat.reduceSub, Nat.reduceMul, Nat.reduceLT, Nat.reduceLeDiff, Int.reduceToNat, Int.reduceAdd, Int.reduceSub, Int.reduceNeg, Int.reduceMul, Int.reduceLT, Int.reduceLE, Int.reduceEq]
  refine loopF (ι := Nat × V × Store) (fun i => [(0, seSl l), (3, i.2.1), (12, seSl l), (13, .int .i64 l.length), (14, .int .i64 i.1)]) (fun i => S ++ i.2.2) (fun i => i.1 ≤ l.length ∧ Out0 S (faultsTo l i.1) i.2.1 i.2.2) (fun i => l.length - i.1) (fun i hi => by rw [hσ]; simp) (0, .nilSl, []) ⟨Nat.zero_le _, .inl ⟨rfl, rfl, rfl⟩⟩ (.inl ⟨?_, (List.append_nil S).symm⟩) ?_
  · simp only [seSl, ↓evPre, ↓evPreW, evPost, evPostW, ← List.map_take, ← List.map_drop, ↓reduceIte, reduceCtorEq, Nat.reduceEqDiff, forall_const, implies_true, Nat.reduceAdd, Nat.reduceSub, Nat.reduceMul, Nat.reduceLT, Nat.reduceLeDiff, Int.reduceToNat, Int.reduceAdd, Int.reduceSub, Int.reduceNeg, Int.reduceMul, Int.reduceLT, Int.reduceLE, Int.reduceEq]
    try rfl
  rintro ⟨k, cell, T⟩ ⟨hk, ho⟩
  simp only at hk ho ⊢
  cases hc : l[k]? with
  | none =>
    have hge : l.length ≤ k := List.getElem?_eq_none_iff.1 hc
    have hlt : ¬ ((k : Int) < l.length) := by omega
    have e : k = l.length := by omega
    rw [e] at ho
    simp (disch := first | omega | (simp only [List.length_cons, List.length_nil, List.length_map, List.length_drop]; omega)) only [hlt, decide_false, evSt, ↓evPre, ↓evPreW, evPost, evPostW, ← List.map_take, ← List.map_drop, ↓reduceIte, reduceCtorEq, Nat.reduceEqDiff, forall_const, implies_true, Nat.reduceAdd, Nat.reduceSub, Nat.reduceMul, Nat.reduceLT, Nat.reduceLeDiff, Int.reduceToNat, Int.reduceAdd, Int.reduceSub, Int.reduceNeg, Int.reduceMul, Int.reduceLT, Int.reduceLE, Int.reduceEq]
    exact ⟨_, S, (out0_end hn ho).1, (out0_end hn ho).2, Nat.le_refl _, rfl, rfl⟩
  | some s =>
    have hlt' := (List.getElem?_eq_some_iff.1 hc).1
    have hlt : (k : Int) < l.length := by omega
    have hfl := faultsTo_len l k
    have hstep : faultsTo l (k + 1) = faultsTo l k ++ faultsAt l k s := by rw [faultsTo, hc]
    have hkl : (k : Int) ≤ l.length := by omega
    have hk1 : (k : Int) + 1 = ((k + 1 : Nat) : Int) := by omega
    have hadd := seatAt_add (i := k) (by omega)
    have et : (l.map seaR).take k = (l.take k).map seaR := (List.map_take ..).symm
    have htl : (l.take k).length ≤ 1099511627776 := by rw [List.length_take]; omega
    have mid : Mid S s (S ++ T).length (faultsTo l k) cell (T ++ [⟨0, some (.arr 32 3 [[.int .i64 s.row, .str s.letter, .int .i64 s.has]])⟩]) := ho.mid s
    generalize hS1 : S ++ T = S1 at mid ⊢
    simp (disch := first | omega | (simp only [List.length_cons, List.length_nil, List.length_map, List.length_drop]; omega)) only [seSl, seaR, hlt, wrap_i64, decide_true, List.length_map, List.getElem?_map, hc, Option.map_some, evSt, ↓evPre, ↓evPreW, evPost, evPostW, ← List.map_take, ← List.map_drop, ↓reduceIte, reduceCtorEq, Nat.reduceEqDiff, forall_const, implies_true, Nat.reduceAdd, Nat.reduceSub, Nat.reduceMul, Nat.reduceLT, Nat.reduceLeDiff, Int.reduceToNat, Int.reduceAdd, Int.reduceSub, Int.reduceNeg, Int.reduceMul, Int.reduceLT, Int.reduceLE, Int.reduceEq]
    refine (itoaN_A k _ (by omega)).then ?_
    rw [show S1 ++ [(⟨0, some (.arr 32 3 [[.int .i64 s.row, .str s.letter, .int .i64 s.has]])⟩ : AL.Obj)] = S ++ (T ++ [⟨0, some (.arr 32 3 [[.int .i64 s.row, .str s.letter, .int .i64 s.has]])⟩]) by rw [← hS1, List.append_assoc]]
    generalize T ++ [(⟨0, some (.arr 32 3 [[.int .i64 s.row, .str s.letter, .int .i64 s.has]])⟩ : AL.Obj)] = U at mid ⊢
    generalize S1.length = pid at mid ⊢
    have hob0 := mid.obj
    rw [seaR] at hob0
    have fin : ∀ (cell' : V) (U' : Store), Mid S s pid (faultsTo l (k + 1)) cell' U' → ∃ T', Out0 S (faultsTo l (k + 1)) cell' T' ∧ Fgt (S ++ U') (S ++ T') ∧ cell'.under (S.length + T'.length) = true := fun cell' U' h => by
      obtain ⟨T', a, b, c⟩ := mid_end hn h
      exact ⟨T', a, b, by rw [← List.length_append]; exact c⟩
    generalize hF1 : faultsTo l (k + 1) = F1 at *
    generalize faultsTo l k = F0 at *
    by_cases b1 : s.row < 1
    · have hA : argBad s := by unfold argBad; omega
      cases hL : s.letter with
      | nil =>
        have hN : ¬ nameGood s.letter := by rw [hL]; exact nameGood_nil
        cases hT : (l.take k).any (sameS s) with
        | true =>
          have hF : F1 = F0 ++ [⟨2, seatAt k⟩] ++ [⟨5, seatAt k⟩] ++ [⟨6, seatAt k⟩] := by
            rw [hstep, faultsAt, if_pos hA, if_neg hN, if_pos hT]
            simp only [List.append_assoc, List.nil_append, List.append_nil, List.cons_append]
          simp (disch := first | omega | (simp only [List.length_cons, List.length_nil, List.length_map, List.length_drop]; omega)) only [hadd, seSl, hlt, hkl, if_true, hk1, et, wrap_i64, decide_true, decide_false, List.length_map, List.length_take, List.take_succ_cons, List.take_zero, hob0, b1, hL, List.length_nil, evSt, ↓evPre, ↓evPreW, evPost, evPostW, ← List.map_take, ← List.map_drop, ↓reduceIte, reduceCtorEq, Nat.reduceEqDiff, forall_const, implies_true, Nat.reduceAdd, Nat.reduceSub, Nat.reduceMul, Nat.reduceLT, Nat.reduceLeDiff, Int.reduceToNat, Int.reduceAdd, Int.reduceSub, Int.reduceNeg, Int.reduceMul, Int.reduceLT, Int.reduceLE, Int.reduceEq]
          refine mid_app (f := ⟨2, seatAt k⟩) mid (by (try simp only [List.length_append, List.length_cons, List.length_nil]); omega) fun c1 U1 g1 => ?_
          have hob1 := g1.obj
          rw [seaR] at hob1
          simp (disch := first | omega | (simp only [List.length_cons, List.length_nil, List.length_map, List.length_drop]; omega)) only [hadd, seSl, hlt, hkl, if_true, hk1, et, wrap_i64, decide_true, decide_false, List.length_map, List.length_take, List.take_succ_cons, List.take_zero, hob1, b1, hL, List.length_nil, evSt, ↓evPre, ↓evPreW, evPost, evPostW, ← List.map_take, ← List.map_drop, ↓reduceIte, reduceCtorEq, Nat.reduceEqDiff, forall_const, implies_true, Nat.reduceAdd, Nat.reduceSub, Nat.reduceMul, Nat.reduceLT, Nat.reduceLeDiff, Int.reduceToNat, Int.reduceAdd, Int.reduceSub, Int.reduceNeg, Int.reduceMul, Int.reduceLT, Int.reduceLE, Int.reduceEq]
          refine mid_app (f := ⟨5, seatAt k⟩) g1 (by (try simp only [List.length_append, List.length_cons, List.length_nil]); omega) fun c2 U2 g2 => ?_
          have hob2 := g2.obj
          rw [seaR] at hob2
          simp (disch := first | omega | (simp only [List.length_cons, List.length_nil, List.length_map, List.length_drop]; omega)) only [hadd, seSl, hlt, hkl, if_true, hk1, et, wrap_i64, decide_true, decide_false, List.length_map, List.length_take, List.take_succ_cons, List.take_zero, hob2, b1, hL, List.length_nil, evSt, ↓evPre, ↓evPreW, evPost, evPostW, ← List.map_take, ← List.map_drop, ↓reduceIte, reduceCtorEq, Nat.reduceEqDiff, forall_const, implies_true, Nat.reduceAdd, Nat.reduceSub, Nat.reduceMul, Nat.reduceLT, Nat.reduceLeDiff, Int.reduceToNat, Int.reduceAdd, Int.reduceSub, Int.reduceNeg, Int.reduceMul, Int.reduceLT, Int.reduceLE, Int.reduceEq]
          refine (anySame_A (l.take k) s pid _ htl g2.obj).then ?_
          simp (disch := first | omega | (simp only [List.length_cons, List.length_nil, List.length_map, List.length_drop]; omega)) only [hadd, seSl, hlt, hkl, if_true, hk1, et, wrap_i64, decide_true, decide_false, List.length_map, List.length_take, List.take_succ_cons, List.take_zero, hT, hob2, b1, hL, List.length_nil, evSt, ↓evPre, ↓evPreW, evPost, evPostW, ← List.map_take, ← List.map_drop, ↓reduceIte, reduceCtorEq, Nat.reduceEqDiff, forall_const, implies_true, Nat.reduceAdd, Nat.reduceSub, Nat.reduceMul, Nat.reduceLT, Nat.reduceLeDiff, Int.reduceToNat, Int.reduceAdd, Int.reduceSub, Int.reduceNeg, Int.reduceMul, Int.reduceLT, Int.reduceLE, Int.reduceEq]
          refine mid_app (f := ⟨6, seatAt k⟩) g2 (by (try simp only [List.length_append, List.length_cons, List.length_nil]); omega) fun c9 U9 g9 => ?_
          simp (disch := first | omega | (simp only [List.length_cons, List.length_nil, List.length_map, List.length_drop]; omega)) only [hadd, seSl, hlt, hkl, if_true, hk1, et, wrap_i64, decide_true, decide_false, List.length_map, List.length_take, List.take_succ_cons, List.take_zero, evSt, ↓evPre, ↓evPreW, evPost, evPostW, ← List.map_take, ← List.map_drop, ↓reduceIte, reduceCtorEq, Nat.reduceEqDiff, forall_const, implies_true, Nat.reduceAdd, Nat.reduceSub, Nat.reduceMul, Nat.reduceLT, Nat.reduceLeDiff, Int.reduceToNat, Int.reduceAdd, Int.reduceSub, Int.reduceNeg, Int.reduceMul, Int.reduceLT, Int.reduceLE, Int.reduceEq]
          rw [← hF] at g9
          obtain ⟨T2, o1, o2, o3⟩ := fin _ _ g9
          exact ⟨(k + 1, _, T2), ⟨by simp only; omega, by rw [hF1]; exact o1⟩, by simp only; omega, back_under o2 ⟨rfl, rfl, rfl, rfl, rfl, trivial⟩ (by simp [V.under, seSl, o3])⟩
        | false =>
          have hF : F1 = F0 ++ [⟨2, seatAt k⟩] ++ [⟨5, seatAt k⟩] := by
            rw [hstep, faultsAt, if_pos hA, if_neg hN, if_neg (by rw [hT]; exact Bool.noConfusion)]
            simp only [List.append_assoc, List.nil_append, List.append_nil, List.cons_append]
          simp (disch := first | omega | (simp only [List.length_cons, List.length_nil, List.length_map, List.length_drop]; omega)) only [hadd, seSl, hlt, hkl, if_true, hk1, et, wrap_i64, decide_true, decide_false, List.length_map, List.length_take, List.take_succ_cons, List.take_zero, hob0, b1, hL, List.length_nil, evSt, ↓evPre, ↓evPreW, evPost, evPostW, ← List.map_take, ← List.map_drop, ↓reduceIte, reduceCtorEq, Nat.reduceEqDiff, forall_const, implies_true, Nat.reduceAdd, Nat.reduceSub, Nat.reduceMul, Nat.reduceLT, Nat.reduceLeDiff, Int.reduceToNat, Int.reduceAdd, Int.reduceSub, Int.reduceNeg, Int.reduceMul, Int.reduceLT, Int.reduceLE, Int.reduceEq]
          refine mid_app (f := ⟨2, seatAt k⟩) mid (by (try simp only [List.length_append, List.length_cons, List.length_nil]); omega) fun c1 U1 g1 => ?_
          have hob1 := g1.obj
          rw [seaR] at hob1
          simp (disch := first | omega | (simp only [List.length_cons, List.length_nil, List.length_map, List.length_drop]; omega)) only [hadd, seSl, hlt, hkl, if_true, hk1, et, wrap_i64, decide_true, decide_false, List.length_map, List.length_take, List.take_succ_cons, List.take_zero, hob1, b1, hL, List.length_nil, evSt, ↓evPre, ↓evPreW, evPost, evPostW, ← List.map_take, ← List.map_drop, ↓reduceIte, reduceCtorEq, Nat.reduceEqDiff, forall_const, implies_true, Nat.reduceAdd, Nat.reduceSub, Nat.reduceMul, Nat.reduceLT, Nat.reduceLeDiff, Int.reduceToNat, Int.reduceAdd, Int.reduceSub, Int.reduceNeg, Int.reduceMul, Int.reduceLT, Int.reduceLE, Int.reduceEq]
          refine mid_app (f := ⟨5, seatAt k⟩) g1 (by (try simp only [List.length_append, List.length_cons, List.length_nil]); omega) fun c2 U2 g2 => ?_
          have hob2 := g2.obj
          rw [seaR] at hob2
          simp (disch := first | omega | (simp only [List.length_cons, List.length_nil, List.length_map, List.length_drop]; omega)) only [hadd, seSl, hlt, hkl, if_true, hk1, et, wrap_i64, decide_true, decide_false, List.length_map, List.length_take, List.take_succ_cons, List.take_zero, hob2, b1, hL, List.length_nil, evSt, ↓evPre, ↓evPreW, evPost, evPostW, ← List.map_take, ← List.map_drop, ↓reduceIte, reduceCtorEq, Nat.reduceEqDiff, forall_const, implies_true, Nat.reduceAdd, Nat.reduceSub, Nat.reduceMul, Nat.reduceLT, Nat.reduceLeDiff, Int.reduceToNat, Int.reduceAdd, Int.reduceSub, Int.reduceNeg, Int.reduceMul, Int.reduceLT, Int.reduceLE, Int.reduceEq]
          refine (anySame_A (l.take k) s pid _ htl g2.obj).then ?_
          simp (disch := first | omega | (simp only [List.length_cons, List.length_nil, List.length_map, List.length_drop]; omega)) only [hadd, seSl, hlt, hkl, if_true, hk1, et, wrap_i64, decide_true, decide_false, List.length_map, List.length_take, List.take_succ_cons, List.take_zero, hT, hob2, b1, hL, List.length_nil, evSt, ↓evPre, ↓evPreW, evPost, evPostW, ← List.map_take, ← List.map_drop, ↓reduceIte, reduceCtorEq, Nat.reduceEqDiff, forall_const, implies_true, Nat.reduceAdd, Nat.reduceSub, Nat.reduceMul, Nat.reduceLT, Nat.reduceLeDiff, Int.reduceToNat, Int.reduceAdd, Int.reduceSub, Int.reduceNeg, Int.reduceMul, Int.reduceLT, Int.reduceLE, Int.reduceEq]
          rw [← hF] at g2
          obtain ⟨T2, o1, o2, o3⟩ := fin _ _ g2
          exact ⟨(k + 1, _, T2), ⟨by simp only; omega, by rw [hF1]; exact o1⟩, by simp only; omega, back_under o2 ⟨rfl, rfl, rfl, rfl, rfl, trivial⟩ (by simp [V.under, seSl, o3])⟩
      | cons c r =>
        cases r with
        | cons d r2 =>
          have hN : ¬ nameGood s.letter := by rw [hL]; exact nameGood_two
          have q1 : ¬ ((r2.length + 1 + 1 : Nat) : Int) = 1 := by omega
          cases hT : (l.take k).any (sameS s) with
          | true =>
            have hF : F1 = F0 ++ [⟨2, seatAt k⟩] ++ [⟨5, seatAt k⟩] ++ [⟨6, seatAt k⟩] := by
              rw [hstep, faultsAt, if_pos hA, if_neg hN, if_pos hT]
              simp only [List.append_assoc, List.nil_append, List.append_nil, List.cons_append]
            simp (disch := first | omega | (simp only [List.length_cons, List.length_nil, List.length_map, List.length_drop]; omega)) only [hadd, seSl, hlt, hkl, if_true, hk1, et, wrap_i64, decide_true, decide_false, List.length_map, List.length_take, List.take_succ_cons, List.take_zero, hob0, b1, hL, q1, List.length_cons, List.length_nil, evSt, ↓evPre, ↓evPreW, evPost, evPostW, ← List.map_take, ← List.map_drop, ↓reduceIte, reduceCtorEq, Nat.reduceEqDiff, forall_const, implies_true, Nat.reduceAdd, Nat.reduceSub, Nat.reduceMul, Nat.reduceLT, Nat.reduceLeDiff, Int.reduceToNat, Int.reduceAdd, Int.reduceSub, Int.reduceNeg, Int.reduceMul, Int.reduceLT, Int.reduceLE, Int.reduceEq]
            refine mid_app (f := ⟨2, seatAt k⟩) mid (by (try simp only [List.length_append, List.length_cons, List.length_nil]); omega) fun c1 U1 g1 => ?_
            have hob1 := g1.obj
            rw [seaR] at hob1
            simp (disch := first | omega | (simp only [List.length_cons, List.length_nil, List.length_map, List.length_drop]; omega)) only [hadd, seSl, hlt, hkl, if_true, hk1, et, wrap_i64, decide_true, decide_false, List.length_map, List.length_take, List.take_succ_cons, List.take_zero, hob1, b1, hL, q1, List.length_cons, List.length_nil, evSt, ↓evPre, ↓evPreW, evPost, evPostW, ← List.map_take, ← List.map_drop, ↓reduceIte, reduceCtorEq, Nat.reduceEqDiff, forall_const, implies_true, Nat.reduceAdd, Nat.reduceSub, Nat.reduceMul, Nat.reduceLT, Nat.reduceLeDiff, Int.reduceToNat, Int.reduceAdd, Int.reduceSub, Int.reduceNeg, Int.reduceMul, Int.reduceLT, Int.reduceLE, Int.reduceEq]
            refine mid_app (f := ⟨5, seatAt k⟩) g1 (by (try simp only [List.length_append, List.length_cons, List.length_nil]); omega) fun c2 U2 g2 => ?_
            have hob2 := g2.obj
            rw [seaR] at hob2
            simp (disch := first | omega | (simp only [List.length_cons, List.length_nil, List.length_map, List.length_drop]; omega)) only [hadd, seSl, hlt, hkl, if_true, hk1, et, wrap_i64, decide_true, decide_false, List.length_map, List.length_take, List.take_succ_cons, List.take_zero, hob2, b1, hL, q1, List.length_cons, List.length_nil, evSt, ↓evPre, ↓evPreW, evPost, evPostW, ← List.map_take, ← List.map_drop, ↓reduceIte, reduceCtorEq, Nat.reduceEqDiff, forall_const, implies_true, Nat.reduceAdd, Nat.reduceSub, Nat.reduceMul, Nat.reduceLT, Nat.reduceLeDiff, Int.reduceToNat, Int.reduceAdd, Int.reduceSub, Int.reduceNeg, Int.reduceMul, Int.reduceLT, Int.reduceLE, Int.reduceEq]
            refine (anySame_A (l.take k) s pid _ htl g2.obj).then ?_
            simp (disch := first | omega | (simp only [List.length_cons, List.length_nil, List.length_map, List.length_drop]; omega)) only [hadd, seSl, hlt, hkl, if_true, hk1, et, wrap_i64, decide_true, decide_false, List.length_map, List.length_take, List.take_succ_cons, List.take_zero, hT, hob2, b1, hL, q1, List.length_cons, List.length_nil, evSt, ↓evPre, ↓evPreW, evPost, evPostW, ← List.map_take, ← List.map_drop, ↓reduceIte, reduceCtorEq, Nat.reduceEqDiff, forall_const, implies_true, Nat.reduceAdd, Nat.reduceSub, Nat.reduceMul, Nat.reduceLT, Nat.reduceLeDiff, Int.reduceToNat, Int.reduceAdd, Int.reduceSub, Int.reduceNeg, Int.reduceMul, Int.reduceLT, Int.reduceLE, Int.reduceEq]
            refine mid_app (f := ⟨6, seatAt k⟩) g2 (by (try simp only [List.length_append, List.length_cons, List.length_nil]); omega) fun c9 U9 g9 => ?_
            simp (disch := first | omega | (simp only [List.length_cons, List.length_nil, List.length_map, List.length_drop]; omega)) only [hadd, seSl, hlt, hkl, if_true, hk1, et, wrap_i64, decide_true, decide_false, List.length_map, List.length_take, List.take_succ_cons, List.take_zero, evSt, ↓evPre, ↓evPreW, evPost, evPostW, ← List.map_take, ← List.map_drop, ↓reduceIte, reduceCtorEq, Nat.reduceEqDiff, forall_const, implies_true, Nat.reduceAdd, Nat.reduceSub, Nat.reduceMul, Nat.reduceLT, Nat.reduceLeDiff, Int.reduceToNat, Int.reduceAdd, Int.reduceSub, Int.reduceNeg, Int.reduceMul, Int.reduceLT, Int.reduceLE, Int.reduceEq]
            rw [← hF] at g9
            obtain ⟨T2, o1, o2, o3⟩ := fin _ _ g9
            exact ⟨(k + 1, _, T2), ⟨by simp only; omega, by rw [hF1]; exact o1⟩, by simp only; omega, back_under o2 ⟨rfl, rfl, rfl, rfl, rfl, trivial⟩ (by simp [V.under, seSl, o3])⟩
          | false =>
            have hF : F1 = F0 ++ [⟨2, seatAt k⟩] ++ [⟨5, seatAt k⟩] := by
              rw [hstep, faultsAt, if_pos hA, if_neg hN, if_neg (by rw [hT]; exact Bool.noConfusion)]
              simp only [List.append_assoc, List.nil_append, List.append_nil, List.cons_append]
            simp (disch := first | omega | (simp only [List.length_cons, List.length_nil, List.length_map, List.length_drop]; omega)) only [hadd, seSl, hlt, hkl, if_true, hk1, et, wrap_i64, decide_true, decide_false, List.length_map, List.length_take, List.take_succ_cons, List.take_zero, hob0, b1, hL, q1, List.length_cons, List.length_nil, evSt, ↓evPre, ↓evPreW, evPost, evPostW, ← List.map_take, ← List.map_drop, ↓reduceIte, reduceCtorEq, Nat.reduceEqDiff, forall_const, implies_true, Nat.reduceAdd, Nat.reduceSub, Nat.reduceMul, Nat.reduceLT, Nat.reduceLeDiff, Int.reduceToNat, Int.reduceAdd, Int.reduceSub, Int.reduceNeg, Int.reduceMul, Int.reduceLT, Int.reduceLE, Int.reduceEq]
            refine mid_app (f := ⟨2, seatAt k⟩) mid (by (try simp only [List.length_append, List.length_cons, List.length_nil]); omega) fun c1 U1 g1 => ?_
            have hob1 := g1.obj
            rw [seaR] at hob1
            simp (disch := first | omega | (simp only [List.length_cons, List.length_nil, List.length_map, List.length_drop]; omega)) only [hadd, seSl, hlt, hkl, if_true, hk1, et, wrap_i64, decide_true, decide_false, List.length_map, List.length_take, List.take_succ_cons, List.take_zero, hob1, b1, hL, q1, List.length_cons, List.length_nil, evSt, ↓evPre, ↓evPreW, evPost, evPostW, ← List.map_take, ← List.map_drop, ↓reduceIte, reduceCtorEq, Nat.reduceEqDiff, forall_const, implies_true, Nat.reduceAdd, Nat.reduceSub, Nat.reduceMul, Nat.reduceLT, Nat.reduceLeDiff, Int.reduceToNat, Int.reduceAdd, Int.reduceSub, Int.reduceNeg, Int.reduceMul, Int.reduceLT, Int.reduceLE, Int.reduceEq]
            refine mid_app (f := ⟨5, seatAt k⟩) g1 (by (try simp only [List.length_append, List.length_cons, List.length_nil]); omega) fun c2 U2 g2 => ?_
            have hob2 := g2.obj
            rw [seaR] at hob2
            simp (disch := first | omega | (simp only [List.length_cons, List.length_nil, List.length_map, List.length_drop]; omega)) only [hadd, seSl, hlt, hkl, if_true, hk1, et, wrap_i64, decide_true, decide_false, List.length_map, List.length_take, List.take_succ_cons, List.take_zero, hob2, b1, hL, q1, List.length_cons, List.length_nil, evSt, ↓evPre, ↓evPreW, evPost, evPostW, ← List.map_take, ← List.map_drop, ↓reduceIte, reduceCtorEq, Nat.reduceEqDiff, forall_const, implies_true, Nat.reduceAdd, Nat.reduceSub, Nat.reduceMul, Nat.reduceLT, Nat.reduceLeDiff, Int.reduceToNat, Int.reduceAdd, Int.reduceSub, Int.reduceNeg, Int.reduceMul, Int.reduceLT, Int.reduceLE, Int.reduceEq]
            refine (anySame_A (l.take k) s pid _ htl g2.obj).then ?_
            simp (disch := first | omega | (simp only [List.length_cons, List.length_nil, List.length_map, List.length_drop]; omega)) only [hadd, seSl, hlt, hkl, if_true, hk1, et, wrap_i64, decide_true, decide_false, List.length_map, List.length_take, List.take_succ_cons, List.take_zero, hT, hob2, b1, hL, q1, List.length_cons, List.length_nil, evSt, ↓evPre, ↓evPreW, evPost, evPostW, ← List.map_take, ← List.map_drop, ↓reduceIte, reduceCtorEq, Nat.reduceEqDiff, forall_const, implies_true, Nat.reduceAdd, Nat.reduceSub, Nat.reduceMul, Nat.reduceLT, Nat.reduceLeDiff, Int.reduceToNat, Int.reduceAdd, Int.reduceSub, Int.reduceNeg, Int.reduceMul, Int.reduceLT, Int.reduceLE, Int.reduceEq]
            rw [← hF] at g2
            obtain ⟨T2, o1, o2, o3⟩ := fin _ _ g2
            exact ⟨(k + 1, _, T2), ⟨by simp only; omega, by rw [hF1]; exact o1⟩, by simp only; omega, back_under o2 ⟨rfl, rfl, rfl, rfl, rfl, trivial⟩ (by simp [V.under, seSl, o3])⟩
        | nil =>
          by_cases q1 : (c.toNat : Int) < 65
          · have hN : ¬ nameGood s.letter := by rw [hL, nameGood_one]; omega
            cases hT : (l.take k).any (sameS s) with
            | true =>
              have hF : F1 = F0 ++ [⟨2, seatAt k⟩] ++ [⟨5, seatAt k⟩] ++ [⟨6, seatAt k⟩] := by
                rw [hstep, faultsAt, if_pos hA, if_neg hN, if_pos hT]
                simp only [List.append_assoc, List.nil_append, List.append_nil, List.cons_append]
              simp (disch := first | omega | (simp only [List.length_cons, List.length_nil, List.length_map, List.length_drop]; omega)) only [hadd, seSl, hlt, hkl, if_true, hk1, et, wrap_i64, decide_true, decide_false, List.length_map, List.length_take, List.take_succ_cons, List.take_zero, hob0, b1, hL, q1, List.length_cons, List.length_nil, evSt, ↓evPre, ↓evPreW, evPost, evPostW, ← List.map_take, ← List.map_drop, ↓reduceIte, reduceCtorEq, Nat.reduceEqDiff, forall_const, implies_true, Nat.reduceAdd, Nat.reduceSub, Nat.reduceMul, Nat.reduceLT, Nat.reduceLeDiff, Int.reduceToNat, Int.reduceAdd, Int.reduceSub, Int.reduceNeg, Int.reduceMul, Int.reduceLT, Int.reduceLE, Int.reduceEq]
              refine mid_app (f := ⟨2, seatAt k⟩) mid (by (try simp only [List.length_append, List.length_cons, List.length_nil]); omega) fun c1 U1 g1 => ?_
              have hob1 := g1.obj
              rw [seaR] at hob1
              simp (disch := first | omega | (simp only [List.length_cons, List.length_nil, List.length_map, List.length_drop]; omega)) only [hadd, seSl, hlt, hkl, if_true, hk1, et, wrap_i64, decide_true, decide_false, List.length_map, List.length_take, List.take_succ_cons, List.take_zero, hob1, b1, hL, q1, List.length_cons, List.length_nil, evSt, ↓evPre, ↓evPreW, evPost, evPostW, ← List.map_take, ← List.map_drop, ↓reduceIte, reduceCtorEq, Nat.reduceEqDiff, forall_const, implies_true, Nat.reduceAdd, Nat.reduceSub, Nat.reduceMul, Nat.reduceLT, Nat.reduceLeDiff, Int.reduceToNat, Int.reduceAdd, Int.reduceSub, Int.reduceNeg, Int.reduceMul, Int.reduceLT, Int.reduceLE, Int.reduceEq]
              refine mid_app (f := ⟨5, seatAt k⟩) g1 (by (try simp only [List.length_append, List.length_cons, List.length_nil]); omega) fun c2 U2 g2 => ?_
              have hob2 := g2.obj
              rw [seaR] at hob2
              simp (disch := first | omega | (simp only [List.length_cons, List.length_nil, List.length_map, List.length_drop]; omega)) only [hadd, seSl, hlt, hkl, if_true, hk1, et, wrap_i64, decide_true, decide_false, List.length_map, List.length_take, List.take_succ_cons, List.take_zero, hob2, b1, hL, q1, List.length_cons, List.length_nil, evSt, ↓evPre, ↓evPreW, evPost, evPostW, ← List.map_take, ← List.map_drop, ↓reduceIte, reduceCtorEq, Nat.reduceEqDiff, forall_const, implies_true, Nat.reduceAdd, Nat.reduceSub, Nat.reduceMul, Nat.reduceLT, Nat.reduceLeDiff, Int.reduceToNat, Int.reduceAdd, Int.reduceSub, Int.reduceNeg, Int.reduceMul, Int.reduceLT, Int.reduceLE, Int.reduceEq]
              refine (anySame_A (l.take k) s pid _ htl g2.obj).then ?_
              simp (disch := first | omega | (simp only [List.length_cons, List.length_nil, List.length_map, List.length_drop]; omega)) only [hadd, seSl, hlt, hkl, if_true, hk1, et, wrap_i64, decide_true, decide_false, List.length_map, List.length_take, List.take_succ_cons, List.take_zero, hT, hob2, b1, hL, q1, List.length_cons, List.length_nil, evSt, ↓evPre, ↓evPreW, evPost, evPostW, ← List.map_take, ← List.map_drop, ↓reduceIte, reduceCtorEq, Nat.reduceEqDiff, forall_const, implies_true, Nat.reduceAdd, Nat.reduceSub, Nat.reduceMul, Nat.reduceLT, Nat.reduceLeDiff, Int.reduceToNat, Int.reduceAdd, Int.reduceSub, Int.reduceNeg, Int.reduceMul, Int.reduceLT, Int.reduceLE, Int.reduceEq]
              refine mid_app (f := ⟨6, seatAt k⟩) g2 (by (try simp only [List.length_append, List.length_cons, List.length_nil]); omega) fun c9 U9 g9 => ?_
              simp (disch := first | omega | (simp only [List.length_cons, List.length_nil, List.length_map, List.length_drop]; omega)) only [hadd, seSl, hlt, hkl, if_true, hk1, et, wrap_i64, decide_true, decide_false, List.length_map, List.length_take, List.take_succ_cons, List.take_zero, evSt, ↓evPre, ↓evPreW, evPost, evPostW, ← List.map_take, ← List.map_drop, ↓reduceIte, reduceCtorEq, Nat.reduceEqDiff, forall_const, implies_true, Nat.reduceAdd, Nat.reduceSub, Nat.reduceMul, Nat.reduceLT, Nat.reduceLeDiff, Int.reduceToNat, Int.reduceAdd, Int.reduceSub, Int.reduceNeg, Int.reduceMul, Int.reduceLT, Int.reduceLE, Int.reduceEq]
              rw [← hF] at g9
              obtain ⟨T2, o1, o2, o3⟩ := fin _ _ g9
              exact ⟨(k + 1, _, T2), ⟨by simp only; omega, by rw [hF1]; exact o1⟩, by simp only; omega, back_under o2 ⟨rfl, rfl, rfl, rfl, rfl, trivial⟩ (by simp [V.under, seSl, o3])⟩
            | false =>
              have hF : F1 = F0 ++ [⟨2, seatAt k⟩] ++ [⟨5, seatAt k⟩] := by
                rw [hstep, faultsAt, if_pos hA, if_neg hN, if_neg (by rw [hT]; exact Bool.noConfusion)]
                simp only [List.append_assoc, List.nil_append, List.append_nil, List.cons_append]
              simp (disch := first | omega | (simp only [List.length_cons, List.length_nil, List.length_map, List.length_drop]; omega)) only [hadd, seSl, hlt, hkl, if_true, hk1, et, wrap_i64, decide_true, decide_false, List.length_map, List.length_take, List.take_succ_cons, List.take_zero, hob0, b1, hL, q1, List.length_cons, List.length_nil, evSt, ↓evPre, ↓evPreW, evPost, evPostW, ← List.map_take, ← List.map_drop, ↓reduceIte, reduceCtorEq, Nat.reduceEqDiff, forall_const, implies_true, Nat.reduceAdd, Nat.reduceSub, Nat.reduceMul, Nat.reduceLT, Nat.reduceLeDiff, Int.reduceToNat, Int.reduceAdd, Int.reduceSub, Int.reduceNeg, Int.reduceMul, Int.reduceLT, Int.reduceLE, Int.reduceEq]
              refine mid_app (f := ⟨2, seatAt k⟩) mid (by (try simp only [List.length_append, List.length_cons, List.length_nil]); omega) fun c1 U1 g1 => ?_
              have hob1 := g1.obj
              rw [seaR] at hob1
              simp (disch := first | omega | (simp only [List.length_cons, List.length_nil, List.length_map, List.length_drop]; omega)) only [hadd, seSl, hlt, hkl, if_true, hk1, et, wrap_i64, decide_true, decide_false, List.length_map, List.length_take, List.take_succ_cons, List.take_zero, hob1, b1, hL, q1, List.length_cons, List.length_nil, evSt, ↓evPre, ↓evPreW, evPost, evPostW, ← List.map_take, ← List.map_drop, ↓reduceIte, reduceCtorEq, Nat.reduceEqDiff, forall_const, implies_true, Nat.reduceAdd, Nat.reduceSub, Nat.reduceMul, Nat.reduceLT, Nat.reduceLeDiff, Int.reduceToNat, Int.reduceAdd, Int.reduceSub, Int.reduceNeg, Int.reduceMul, Int.reduceLT, Int.reduceLE, Int.reduceEq]
              refine mid_app (f := ⟨5, seatAt k⟩) g1 (by (try simp only [List.length_append, List.length_cons, List.length_nil]); omega) fun c2 U2 g2 => ?_
              have hob2 := g2.obj
              rw [seaR] at hob2
              simp (disch := first | omega | (simp only [List.length_cons, List.length_nil, List.length_map, List.length_drop]; omega)) only [hadd, seSl, hlt, hkl, if_true, hk1, et, wrap_i64, decide_true, decide_false, List.length_map, List.length_take, List.take_succ_cons, List.take_zero, hob2, b1, hL, q1, List.length_cons, List.length_nil, evSt, ↓evPre, ↓evPreW, evPost, evPostW, ← List.map_take, ← List.map_drop, ↓reduceIte, reduceCtorEq, Nat.reduceEqDiff, forall_const, implies_true, Nat.reduceAdd, Nat.reduceSub, Nat.reduceMul, Nat.reduceLT, Nat.reduceLeDiff, Int.reduceToNat, Int.reduceAdd, Int.reduceSub, Int.reduceNeg, Int.reduceMul, Int.reduceLT, Int.reduceLE, Int.reduceEq]
              refine (anySame_A (l.take k) s pid _ htl g2.obj).then ?_
              simp (disch := first | omega | (simp only [List.length_cons, List.length_nil, List.length_map, List.length_drop]; omega)) only [hadd, seSl, hlt, hkl, if_true, hk1, et, wrap_i64, decide_true, decide_false, List.length_map, List.length_take, List.take_succ_cons, List.take_zero, hT, hob2, b1, hL, q1, List.length_cons, List.length_nil, evSt, ↓evPre, ↓evPreW, evPost, evPostW, ← List.map_take, ← List.map_drop, ↓reduceIte, reduceCtorEq, Nat.reduceEqDiff, forall_const, implies_true, Nat.reduceAdd, Nat.reduceSub, Nat.reduceMul, Nat.reduceLT, Nat.reduceLeDiff, Int.reduceToNat, Int.reduceAdd, Int.reduceSub, Int.reduceNeg, Int.reduceMul, Int.reduceLT, Int.reduceLE, Int.reduceEq]
              rw [← hF] at g2
              obtain ⟨T2, o1, o2, o3⟩ := fin _ _ g2
              exact ⟨(k + 1, _, T2), ⟨by simp only; omega, by rw [hF1]; exact o1⟩, by simp only; omega, back_under o2 ⟨rfl, rfl, rfl, rfl, rfl, trivial⟩ (by simp [V.under, seSl, o3])⟩
          by_cases q2 : (90 : Int) < c.toNat
          · have hN : ¬ nameGood s.letter := by rw [hL, nameGood_one]; omega
            cases hT : (l.take k).any (sameS s) with
            | true =>
              have hF : F1 = F0 ++ [⟨2, seatAt k⟩] ++ [⟨5, seatAt k⟩] ++ [⟨6, seatAt k⟩] := by
                rw [hstep, faultsAt, if_pos hA, if_neg hN, if_pos hT]
                simp only [List.append_assoc, List.nil_append, List.append_nil, List.cons_append]
              simp (disch := first | omega | (simp only [List.length_cons, List.length_nil, List.length_map, List.length_drop]; omega)) only [hadd, seSl, hlt, hkl, if_true, hk1, et, wrap_i64, decide_true, decide_false, List.length_map, List.length_take, List.take_succ_cons, List.take_zero, hob0, b1, hL, q1, q2, List.length_cons, List.length_nil, evSt, ↓evPre, ↓evPreW, evPost, evPostW, ← List.map_take, ← List.map_drop, ↓reduceIte, reduceCtorEq, Nat.reduceEqDiff, forall_const, implies_true, Nat.reduceAdd, Nat.reduceSub, Nat.reduceMul, Nat.reduceLT, Nat.reduceLeDiff, Int.reduceToNat, Int.reduceAdd, Int.reduceSub, Int.reduceNeg, Int.reduceMul, Int.reduceLT, Int.reduceLE, Int.reduceEq]
              refine mid_app (f := ⟨2, seatAt k⟩) mid (by (try simp only [List.length_append, List.length_cons, List.length_nil]); omega) fun c1 U1 g1 => ?_
              have hob1 := g1.obj
              rw [seaR] at hob1
              simp (disch := first | omega | (simp only [List.length_cons, List.length_nil, List.length_map, List.length_drop]; omega)) only [hadd, seSl, hlt, hkl, if_true, hk1, et, wrap_i64, decide_true, decide_false, List.length_map, List.length_take, List.take_succ_cons, List.take_zero, hob1, b1, hL, q1, q2, List.length_cons, List.length_nil, evSt, ↓evPre, ↓evPreW, evPost, evPostW, ← List.map_take, ← List.map_drop, ↓reduceIte, reduceCtorEq, Nat.reduceEqDiff, forall_const, implies_true, Nat.reduceAdd, Nat.reduceSub, Nat.reduceMul, Nat.reduceLT, Nat.reduceLeDiff, Int.reduceToNat, Int.reduceAdd, Int.reduceSub, Int.reduceNeg, Int.reduceMul, Int.reduceLT, Int.reduceLE, Int.reduceEq]
              refine mid_app (f := ⟨5, seatAt k⟩) g1 (by (try simp only [List.length_append, List.length_cons, List.length_nil]); omega) fun c2 U2 g2 => ?_
              have hob2 := g2.obj
              rw [seaR] at hob2
              simp (disch := first | omega | (simp only [List.length_cons, List.length_nil, List.length_map, List.length_drop]; omega)) only [hadd, seSl, hlt, hkl, if_true, hk1, et, wrap_i64, decide_true, decide_false, List.length_map, List.length_take, List.take_succ_cons, List.take_zero, hob2, b1, hL, q1, q2, List.length_cons, List.length_nil, evSt, ↓evPre, ↓evPreW, evPost, evPostW, ← List.map_take, ← List.map_drop, ↓reduceIte, reduceCtorEq, Nat.reduceEqDiff, forall_const, implies_true, Nat.reduceAdd, Nat.reduceSub, Nat.reduceMul, Nat.reduceLT, Nat.reduceLeDiff, Int.reduceToNat, Int.reduceAdd, Int.reduceSub, Int.reduceNeg, Int.reduceMul, Int.reduceLT, Int.reduceLE, Int.reduceEq]
              refine (anySame_A (l.take k) s pid _ htl g2.obj).then ?_
              simp (disch := first | omega | (simp only [List.length_cons, List.length_nil, List.length_map, List.length_drop]; omega)) only [hadd, seSl, hlt, hkl, if_true, hk1, et, wrap_i64, decide_true, decide_false, List.length_map, List.length_take, List.take_succ_cons, List.take_zero, hT, hob2, b1, hL, q1, q2, List.length_cons, List.length_nil, evSt, ↓evPre, ↓evPreW, evPost, evPostW, ← List.map_take, ← List.map_drop, ↓reduceIte, reduceCtorEq, Nat.reduceEqDiff, forall_const, implies_true, Nat.reduceAdd, Nat.reduceSub, Nat.reduceMul, Nat.reduceLT, Nat.reduceLeDiff, Int.reduceToNat, Int.reduceAdd, Int.reduceSub, Int.reduceNeg, Int.reduceMul, Int.reduceLT, Int.reduceLE, Int.reduceEq]
              refine mid_app (f := ⟨6, seatAt k⟩) g2 (by (try simp only [List.length_append, List.length_cons, List.length_nil]); omega) fun c9 U9 g9 => ?_
              simp (disch := first | omega | (simp only [List.length_cons, List.length_nil, List.length_map, List.length_drop]; omega)) only [hadd, seSl, hlt, hkl, if_true, hk1, et, wrap_i64, decide_true, decide_false, List.length_map, List.length_take, List.take_succ_cons, List.take_zero, evSt, ↓evPre, ↓evPreW, evPost, evPostW, ← List.map_take, ← List.map_drop, ↓reduceIte, reduceCtorEq, Nat.reduceEqDiff, forall_const, implies_true, Nat.reduceAdd, Nat.reduceSub, Nat.reduceMul, Nat.reduceLT, Nat.reduceLeDiff, Int.reduceToNat, Int.reduceAdd, Int.reduceSub, Int.reduceNeg, Int.reduceMul, Int.reduceLT, Int.reduceLE, Int.reduceEq]
              rw [← hF] at g9
              obtain ⟨T2, o1, o2, o3⟩ := fin _ _ g9
              exact ⟨(k + 1, _, T2), ⟨by simp only; omega, by rw [hF1]; exact o1⟩, by simp only; omega, back_under o2 ⟨rfl, rfl, rfl, rfl, rfl, trivial⟩ (by simp [V.under, seSl, o3])⟩
            | false =>
              have hF : F1 = F0 ++ [⟨2, seatAt k⟩] ++ [⟨5, seatAt k⟩] := by
                rw [hstep, faultsAt, if_pos hA, if_neg hN, if_neg (by rw [hT]; exact Bool.noConfusion)]
                simp only [List.append_assoc, List.nil_append, List.append_nil, List.cons_append]
              simp (disch := first | omega | (simp only [List.length_cons, List.length_nil, List.length_map, List.length_drop]; omega)) only [hadd, seSl, hlt, hkl, if_true, hk1, et, wrap_i64, decide_true, decide_false, List.length_map, List.length_take, List.take_succ_cons, List.take_zero, hob0, b1, hL, q1, q2, List.length_cons, List.length_nil, evSt, ↓evPre, ↓evPreW, evPost, evPostW, ← List.map_take, ← List.map_drop, ↓reduceIte, reduceCtorEq, Nat.reduceEqDiff, forall_const, implies_true, Nat.reduceAdd, Nat.reduceSub, Nat.reduceMul, Nat.reduceLT, Nat.reduceLeDiff, Int.reduceToNat, Int.reduceAdd, Int.reduceSub, Int.reduceNeg, Int.reduceMul, Int.reduceLT, Int.reduceLE, Int.reduceEq]
              refine mid_app (f := ⟨2, seatAt k⟩) mid (by (try simp only [List.length_append, List.length_cons, List.length_nil]); omega) fun c1 U1 g1 => ?_
              have hob1 := g1.obj
              rw [seaR] at hob1
              simp (disch := first | omega | (simp only [List.length_cons, List.length_nil, List.length_map, List.length_drop]; omega)) only [hadd, seSl, hlt, hkl, if_true, hk1, et, wrap_i64, decide_true, decide_false, List.length_map, List.length_take, List.take_succ_cons, List.take_zero, hob1, b1, hL, q1, q2, List.length_cons, List.length_nil, evSt, ↓evPre, ↓evPreW, evPost, evPostW, ← List.map_take, ← List.map_drop, ↓reduceIte, reduceCtorEq, Nat.reduceEqDiff, forall_const, implies_true, Nat.reduceAdd, Nat.reduceSub, Nat.reduceMul, Nat.reduceLT, Nat.reduceLeDiff, Int.reduceToNat, Int.reduceAdd, Int.reduceSub, Int.reduceNeg, Int.reduceMul, Int.reduceLT, Int.reduceLE, Int.reduceEq]
              refine mid_app (f := ⟨5, seatAt k⟩) g1 (by (try simp only [List.length_append, List.length_cons, List.length_nil]); omega) fun c2 U2 g2 => ?_
              have hob2 := g2.obj
              rw [seaR] at hob2
              simp (disch := first | omega | (simp only [List.length_cons, List.length_nil, List.length_map, List.length_drop]; omega)) only [hadd, seSl, hlt, hkl, if_true, hk1, et, wrap_i64, decide_true, decide_false, List.length_map, List.length_take, List.take_succ_cons, List.take_zero, hob2, b1, hL, q1, q2, List.length_cons, List.length_nil, evSt, ↓evPre, ↓evPreW, evPost, evPostW, ← List.map_take, ← List.map_drop, ↓reduceIte, reduceCtorEq, Nat.reduceEqDiff, forall_const, implies_true, Nat.reduceAdd, Nat.reduceSub, Nat.reduceMul, Nat.reduceLT, Nat.reduceLeDiff, Int.reduceToNat, Int.reduceAdd, Int.reduceSub, Int.reduceNeg, Int.reduceMul, Int.reduceLT, Int.reduceLE, Int.reduceEq]
              refine (anySame_A (l.take k) s pid _ htl g2.obj).then ?_
              simp (disch := first | omega | (simp only [List.length_cons, List.length_nil, List.length_map, List.length_drop]; omega)) only [hadd, seSl, hlt, hkl, if_true, hk1, et, wrap_i64, decide_true, decide_false, List.length_map, List.length_take, List.take_succ_cons, List.take_zero, hT, hob2, b1, hL, q1, q2, List.length_cons, List.length_nil, evSt, ↓evPre, ↓evPreW, evPost, evPostW, ← List.map_take, ← List.map_drop, ↓reduceIte, reduceCtorEq, Nat.reduceEqDiff, forall_const, implies_true, Nat.reduceAdd, Nat.reduceSub, Nat.reduceMul, Nat.reduceLT, Nat.reduceLeDiff, Int.reduceToNat, Int.reduceAdd, Int.reduceSub, Int.reduceNeg, Int.reduceMul, Int.reduceLT, Int.reduceLE, Int.reduceEq]
              rw [← hF] at g2
              obtain ⟨T2, o1, o2, o3⟩ := fin _ _ g2
              exact ⟨(k + 1, _, T2), ⟨by simp only; omega, by rw [hF1]; exact o1⟩, by simp only; omega, back_under o2 ⟨rfl, rfl, rfl, rfl, rfl, trivial⟩ (by simp [V.under, seSl, o3])⟩
          have hN : nameGood s.letter := by rw [hL, nameGood_one]; omega
          cases hT : (l.take k).any (sameS s) with
          | true =>
            have hF : F1 = F0 ++ [⟨2, seatAt k⟩] ++ [⟨6, seatAt k⟩] := by
              rw [hstep, faultsAt, if_pos hA, if_pos hN, if_pos hT]
              simp only [List.append_assoc, List.nil_append, List.append_nil, List.cons_append]
            simp (disch := first | omega | (simp only [List.length_cons, List.length_nil, List.length_map, List.length_drop]; omega)) only [hadd, seSl, hlt, hkl, if_true, hk1, et, wrap_i64, decide_true, decide_false, List.length_map, List.length_take, List.take_succ_cons, List.take_zero, hob0, b1, hL, q1, q2, List.length_cons, List.length_nil, evSt, ↓evPre, ↓evPreW, evPost, evPostW, ← List.map_take, ← List.map_drop, ↓reduceIte, reduceCtorEq, Nat.reduceEqDiff, forall_const, implies_true, Nat.reduceAdd, Nat.reduceSub, Nat.reduceMul, Nat.reduceLT, Nat.reduceLeDiff, Int.reduceToNat, Int.reduceAdd, Int.reduceSub, Int.reduceNeg, Int.reduceMul, Int.reduceLT, Int.reduceLE, Int.reduceEq]
            refine mid_app (f := ⟨2, seatAt k⟩) mid (by (try simp only [List.length_append, List.length_cons, List.length_nil]); omega) fun c1 U1 g1 => ?_
            have hob1 := g1.obj
            rw [seaR] at hob1
            simp (disch := first | omega | (simp only [List.length_cons, List.length_nil, List.length_map, List.length_drop]; omega)) only [hadd, seSl, hlt, hkl, if_true, hk1, et, wrap_i64, decide_true, decide_false, List.length_map, List.length_take, List.take_succ_cons, List.take_zero, hob1, b1, hL, q1, q2, List.length_cons, List.length_nil, evSt, ↓evPre, ↓evPreW, evPost, evPostW, ← List.map_take, ← List.map_drop, ↓reduceIte, reduceCtorEq, Nat.reduceEqDiff, forall_const, implies_true, Nat.reduceAdd, Nat.reduceSub, Nat.reduceMul, Nat.reduceLT, Nat.reduceLeDiff, Int.reduceToNat, Int.reduceAdd, Int.reduceSub, Int.reduceNeg, Int.reduceMul, Int.reduceLT, Int.reduceLE, Int.reduceEq]
            refine (anySame_A (l.take k) s pid _ htl g1.obj).then ?_
            simp (disch := first | omega | (simp only [List.length_cons, List.length_nil, List.length_map, List.length_drop]; omega)) only [hadd, seSl, hlt, hkl, if_true, hk1, et, wrap_i64, decide_true, decide_false, List.length_map, List.length_take, List.take_succ_cons, List.take_zero, hT, hob1, b1, hL, q1, q2, List.length_cons, List.length_nil, evSt, ↓evPre, ↓evPreW, evPost, evPostW, ← List.map_take, ← List.map_drop, ↓reduceIte, reduceCtorEq, Nat.reduceEqDiff, forall_const, implies_true, Nat.reduceAdd, Nat.reduceSub, Nat.reduceMul, Nat.reduceLT, Nat.reduceLeDiff, Int.reduceToNat, Int.reduceAdd, Int.reduceSub, Int.reduceNeg, Int.reduceMul, Int.reduceLT, Int.reduceLE, Int.reduceEq]
            refine mid_app (f := ⟨6, seatAt k⟩) g1 (by (try simp only [List.length_append, List.length_cons, List.length_nil]); omega) fun c9 U9 g9 => ?_
            simp (disch := first | omega | (simp only [List.length_cons, List.length_nil, List.length_map, List.length_drop]; omega)) only [hadd, seSl, hlt, hkl, if_true, hk1, et, wrap_i64, decide_true, decide_false, List.length_map, List.length_take, List.take_succ_cons, List.take_zero, evSt, ↓evPre, ↓evPreW, evPost, evPostW, ← List.map_take, ← List.map_drop, ↓reduceIte, reduceCtorEq, Nat.reduceEqDiff, forall_const, implies_true, Nat.reduceAdd, Nat.reduceSub, Nat.reduceMul, Nat.reduceLT, Nat.reduceLeDiff, Int.reduceToNat, Int.reduceAdd, Int.reduceSub, Int.reduceNeg, Int.reduceMul, Int.reduceLT, Int.reduceLE, Int.reduceEq]
            rw [← hF] at g9
            obtain ⟨T2, o1, o2, o3⟩ := fin _ _ g9
            exact ⟨(k + 1, _, T2), ⟨by simp only; omega, by rw [hF1]; exact o1⟩, by simp only; omega, back_under o2 ⟨rfl, rfl, rfl, rfl, rfl, trivial⟩ (by simp [V.under, seSl, o3])⟩
          | false =>
            have hF : F1 = F0 ++ [⟨2, seatAt k⟩] := by
              rw [hstep, faultsAt, if_pos hA, if_pos hN, if_neg (by rw [hT]; exact Bool.noConfusion)]
              simp only [List.append_assoc, List.nil_append, List.append_nil, List.cons_append]
            simp (disch := first | omega | (simp only [List.length_cons, List.length_nil, List.length_map, List.length_drop]; omega)) only [hadd, seSl, hlt, hkl, if_true, hk1, et, wrap_i64, decide_true, decide_false, List.length_map, List.length_take, List.take_succ_cons, List.take_zero, hob0, b1, hL, q1, q2, List.length_cons, List.length_nil, evSt, ↓evPre, ↓evPreW, evPost, evPostW, ← List.map_take, ← List.map_drop, ↓reduceIte, reduceCtorEq, Nat.reduceEqDiff, forall_const, implies_true, Nat.reduceAdd, Nat.reduceSub, Nat.reduceMul, Nat.reduceLT, Nat.reduceLeDiff, Int.reduceToNat, Int.reduceAdd, Int.reduceSub, Int.reduceNeg, Int.reduceMul, Int.reduceLT, Int.reduceLE, Int.reduceEq]
            refine mid_app (f := ⟨2, seatAt k⟩) mid (by (try simp only [List.length_append, List.length_cons, List.length_nil]); omega) fun c1 U1 g1 => ?_
            have hob1 := g1.obj
            rw [seaR] at hob1
            simp (disch := first | omega | (simp only [List.length_cons, List.length_nil, List.length_map, List.length_drop]; omega)) only [hadd, seSl, hlt, hkl, if_true, hk1, et, wrap_i64, decide_true, decide_false, List.length_map, List.length_take, List.take_succ_cons, List.take_zero, hob1, b1, hL, q1, q2, List.length_cons, List.length_nil, evSt, ↓evPre, ↓evPreW, evPost, evPostW, ← List.map_take, ← List.map_drop, ↓reduceIte, reduceCtorEq, Nat.reduceEqDiff, forall_const, implies_true, Nat.reduceAdd, Nat.reduceSub, Nat.reduceMul, Nat.reduceLT, Nat.reduceLeDiff, Int.reduceToNat, Int.reduceAdd, Int.reduceSub, Int.reduceNeg, Int.reduceMul, Int.reduceLT, Int.reduceLE, Int.reduceEq]
            refine (anySame_A (l.take k) s pid _ htl g1.obj).then ?_
            simp (disch := first | omega | (simp only [List.length_cons, List.length_nil, List.length_map, List.length_drop]; omega)) only [hadd, seSl, hlt, hkl, if_true, hk1, et, wrap_i64, decide_true, decide_false, List.length_map, List.length_take, List.take_succ_cons, List.take_zero, hT, hob1, b1, hL, q1, q2, List.length_cons, List.length_nil, evSt, ↓evPre, ↓evPreW, evPost, evPostW, ← List.map_take, ← List.map_drop, ↓reduceIte, reduceCtorEq, Nat.reduceEqDiff, forall_const, implies_true, Nat.reduceAdd, Nat.reduceSub, Nat.reduceMul, Nat.reduceLT, Nat.reduceLeDiff, Int.reduceToNat, Int.reduceAdd, Int.reduceSub, Int.reduceNeg, Int.reduceMul, Int.reduceLT, Int.reduceLE, Int.reduceEq]
            rw [← hF] at g1
            obtain ⟨T2, o1, o2, o3⟩ := fin _ _ g1
            exact ⟨(k + 1, _, T2), ⟨by simp only; omega, by rw [hF1]; exact o1⟩, by simp only; omega, back_under o2 ⟨rfl, rfl, rfl, rfl, rfl, trivial⟩ (by simp [V.under, seSl, o3])⟩
    by_cases b2 : 999 < s.row
    · have hA : argBad s := by unfold argBad; omega
      cases hL : s.letter with
      | nil =>
        have hN : ¬ nameGood s.letter := by rw [hL]; exact nameGood_nil
        cases hT : (l.take k).any (sameS s) with
        | true =>
          have hF : F1 = F0 ++ [⟨2, seatAt k⟩] ++ [⟨5, seatAt k⟩] ++ [⟨6, seatAt k⟩] := by
            rw [hstep, faultsAt, if_pos hA, if_neg hN, if_pos hT]
            simp only [List.append_assoc, List.nil_append, List.append_nil, List.cons_append]
          simp (disch := first | omega | (simp only [List.length_cons, List.length_nil, List.length_map, List.length_drop]; omega)) only [hadd, seSl, hlt, hkl, if_true, hk1, et, wrap_i64, decide_true, decide_false, List.length_map, List.length_take, List.take_succ_cons, List.take_zero, hob0, b1, b2, hL, List.length_nil, evSt, ↓evPre, ↓evPreW, evPost, evPostW, ← List.map_take, ← List.map_drop, ↓reduceIte, reduceCtorEq, Nat.reduceEqDiff, forall_const, implies_true, Nat.reduceAdd, Nat.reduceSub, Nat.reduceMul, Nat.reduceLT, Nat.reduceLeDiff, Int.reduceToNat, Int.reduceAdd, Int.reduceSub, Int.reduceNeg, Int.reduceMul, Int.reduceLT, Int.reduceLE, Int.reduceEq]
          refine mid_app (f := ⟨2, seatAt k⟩) mid (by (try simp only [List.length_append, List.length_cons, List.length_nil]); omega) fun c1 U1 g1 => ?_
          have hob1 := g1.obj
          rw [seaR] at hob1
          simp (disch := first | omega | (simp only [List.length_cons, List.length_nil, List.length_map, List.length_drop]; omega)) only [hadd, seSl, hlt, hkl, if_true, hk1, et, wrap_i64, decide_true, decide_false, List.length_map, List.length_take, List.take_succ_cons, List.take_zero, hob1, b1, b2, hL, List.length_nil, evSt, ↓evPre, ↓evPreW, evPost, evPostW, ← List.map_take, ← List.map_drop, ↓reduceIte, reduceCtorEq, Nat.reduceEqDiff, forall_const, implies_true, Nat.reduceAdd, Nat.reduceSub, Nat.reduceMul, Nat.reduceLT, Nat.reduceLeDiff, Int.reduceToNat, Int.reduceAdd, Int.reduceSub, Int.reduceNeg, Int.reduceMul, Int.reduceLT, Int.reduceLE, Int.reduceEq]
          refine mid_app (f := ⟨5, seatAt k⟩) g1 (by (try simp only [List.length_append, List.length_cons, List.length_nil]); omega) fun c2 U2 g2 => ?_
          have hob2 := g2.obj
          rw [seaR] at hob2
          simp (disch := first | omega | (simp only [List.length_cons, List.length_nil, List.length_map, List.length_drop]; omega)) only [hadd, seSl, hlt, hkl, if_true, hk1, et, wrap_i64, decide_true, decide_false, List.length_map, List.length_take, List.take_succ_cons, List.take_zero, hob2, b1, b2, hL, List.length_nil, evSt, ↓evPre, ↓evPreW, evPost, evPostW, ← List.map_take, ← List.map_drop, ↓reduceIte, reduceCtorEq, Nat.reduceEqDiff, forall_const, implies_true, Nat.reduceAdd, Nat.reduceSub, Nat.reduceMul, Nat.reduceLT, Nat.reduceLeDiff, Int.reduceToNat, Int.reduceAdd, Int.reduceSub, Int.reduceNeg, Int.reduceMul, Int.reduceLT, Int.reduceLE, Int.reduceEq]
          refine (anySame_A (l.take k) s pid _ htl g2.obj).then ?_
          simp (disch := first | omega | (simp only [List.length_cons, List.length_nil, List.length_map, List.length_drop]; omega)) only [hadd, seSl, hlt, hkl, if_true, hk1, et, wrap_i64, decide_true, decide_false, List.length_map, List.length_take, List.take_succ_cons, List.take_zero, hT, hob2, b1, b2, hL, List.length_nil, evSt, ↓evPre, ↓evPreW, evPost, evPostW, ← List.map_take, ← List.map_drop, ↓reduceIte, reduceCtorEq, Nat.reduceEqDiff, forall_const, implies_true, Nat.reduceAdd, Nat.reduceSub, Nat.reduceMul, Nat.reduceLT, Nat.reduceLeDiff, Int.reduceToNat, Int.reduceAdd, Int.reduceSub, Int.reduceNeg, Int.reduceMul, Int.reduceLT, Int.reduceLE, Int.reduceEq]
          refine mid_app (f := ⟨6, seatAt k⟩) g2 (by (try simp only [List.length_append, List.length_cons, List.length_nil]); omega) fun c9 U9 g9 => ?_
          simp (disch := first | omega | (simp only [List.length_cons, List.length_nil, List.length_map, List.length_drop]; omega)) only [hadd, seSl, hlt, hkl, if_true, hk1, et, wrap_i64, decide_true, decide_false, List.length_map, List.length_take, List.take_succ_cons, List.take_zero, evSt, ↓evPre, ↓evPreW, evPost, evPostW, ← List.map_take, ← List.map_drop, ↓reduceIte, reduceCtorEq, Nat.reduceEqDiff, forall_const, implies_true, Nat.reduceAdd, Nat.reduceSub, Nat.reduceMul, Nat.reduceLT, Nat.reduceLeDiff, Int.reduceToNat, Int.reduceAdd, Int.reduceSub, Int.reduceNeg, Int.reduceMul, Int.reduceLT, Int.reduceLE, Int.reduceEq]
          rw [← hF] at g9
          obtain ⟨T2, o1, o2, o3⟩ := fin _ _ g9
          exact ⟨(k + 1, _, T2), ⟨by simp only; omega, by rw [hF1]; exact o1⟩, by simp only; omega, back_under o2 ⟨rfl, rfl, rfl, rfl, rfl, trivial⟩ (by simp [V.under, seSl, o3])⟩
        | false =>
          have hF : F1 = F0 ++ [⟨2, seatAt k⟩] ++ [⟨5, seatAt k⟩] := by
            rw [hstep, faultsAt, if_pos hA, if_neg hN, if_neg (by rw [hT]; exact Bool.noConfusion)]
            simp only [List.append_assoc, List.nil_append, List.append_nil, List.cons_append]
          simp (disch := first | omega | (simp only [List.length_cons, List.length_nil, List.length_map, List.length_drop]; omega)) only [hadd, seSl, hlt, hkl, if_true, hk1, et, wrap_i64, decide_true, decide_false, List.length_map, List.length_take, List.take_succ_cons, List.take_zero, hob0, b1, b2, hL, List.length_nil, evSt, ↓evPre, ↓evPreW, evPost, evPostW, ← List.map_take, ← List.map_drop, ↓reduceIte, reduceCtorEq, Nat.reduceEqDiff, forall_const, implies_true, Nat.reduceAdd, Nat.reduceSub, Nat.reduceMul, Nat.reduceLT, Nat.reduceLeDiff, Int.reduceToNat, Int.reduceAdd, Int.reduceSub, Int.reduceNeg, Int.reduceMul, Int.reduceLT, Int.reduceLE, Int.reduceEq]
          refine mid_app (f := ⟨2, seatAt k⟩) mid (by (try simp only [List.length_append, List.length_cons, List.length_nil]); omega) fun c1 U1 g1 => ?_
          have hob1 := g1.obj
          rw [seaR] at hob1
          simp (disch := first | omega | (simp only [List.length_cons, List.length_nil, List.length_map, List.length_drop]; omega)) only [hadd, seSl, hlt, hkl, if_true, hk1, et, wrap_i64, decide_true, decide_false, List.length_map, List.length_take, List.take_succ_cons, List.take_zero, hob1, b1, b2, hL, List.length_nil, evSt, ↓evPre, ↓evPreW, evPost, evPostW, ← List.map_take, ← List.map_drop, ↓reduceIte, reduceCtorEq, Nat.reduceEqDiff, forall_const, implies_true, Nat.reduceAdd, Nat.reduceSub, Nat.reduceMul, Nat.reduceLT, Nat.reduceLeDiff, Int.reduceToNat, Int.reduceAdd, Int.reduceSub, Int.reduceNeg, Int.reduceMul, Int.reduceLT, Int.reduceLE, Int.reduceEq]
          refine mid_app (f := ⟨5, seatAt k⟩) g1 (by (try simp only [List.length_append, List.length_cons, List.length_nil]); omega) fun c2 U2 g2 => ?_
          have hob2 := g2.obj
          rw [seaR] at hob2
          simp (disch := first | omega | (simp only [List.length_cons, List.length_nil, List.length_map, List.length_drop]; omega)) only [hadd, seSl, hlt, hkl, if_true, hk1, et, wrap_i64, decide_true, decide_false, List.length_map, List.length_take, List.take_succ_cons, List.take_zero, hob2, b1, b2, hL, List.length_nil, evSt, ↓evPre, ↓evPreW, evPost, evPostW, ← List.map_take, ← List.map_drop, ↓reduceIte, reduceCtorEq, Nat.reduceEqDiff, forall_const, implies_true, Nat.reduceAdd, Nat.reduceSub, Nat.reduceMul, Nat.reduceLT, Nat.reduceLeDiff, Int.reduceToNat, Int.reduceAdd, Int.reduceSub, Int.reduceNeg, Int.reduceMul, Int.reduceLT, Int.reduceLE, Int.reduceEq]
          refine (anySame_A (l.take k) s pid _ htl g2.obj).then ?_
          simp (disch := first | omega | (simp only [List.length_cons, List.length_nil, List.length_map, List.length_drop]; omega)) only [hadd, seSl, hlt, hkl, if_true, hk1, et, wrap_i64, decide_true, decide_false, List.length_map, List.length_take, List.take_succ_cons, List.take_zero, hT, hob2, b1, b2, hL, List.length_nil, evSt, ↓evPre, ↓evPreW, evPost, evPostW, ← List.map_take, ← List.map_drop, ↓reduceIte, reduceCtorEq, Nat.reduceEqDiff, forall_const, implies_true, Nat.reduceAdd, Nat.reduceSub, Nat.reduceMul, Nat.reduceLT, Nat.reduceLeDiff, Int.reduceToNat, Int.reduceAdd, Int.reduceSub, Int.reduceNeg, Int.reduceMul, Int.reduceLT, Int.reduceLE, Int.reduceEq]
          rw [← hF] at g2
          obtain ⟨T2, o1, o2, o3⟩ := fin _ _ g2
          exact ⟨(k + 1, _, T2), ⟨by simp only; omega, by rw [hF1]; exact o1⟩, by simp only; omega, back_under o2 ⟨rfl, rfl, rfl, rfl, rfl, trivial⟩ (by simp [V.under, seSl, o3])⟩
      | cons c r =>
        cases r with
        | cons d r2 =>
          have hN : ¬ nameGood s.letter := by rw [hL]; exact nameGood_two
          have q1 : ¬ ((r2.length + 1 + 1 : Nat) : Int) = 1 := by omega
          cases hT : (l.take k).any (sameS s) with
          | true =>
            have hF : F1 = F0 ++ [⟨2, seatAt k⟩] ++ [⟨5, seatAt k⟩] ++ [⟨6, seatAt k⟩] := by
              rw [hstep, faultsAt, if_pos hA, if_neg hN, if_pos hT]
              simp only [List.append_assoc, List.nil_append, List.append_nil, List.cons_append]
            simp (disch := first | omega | (simp only [List.length_cons, List.length_nil, List.length_map, List.length_drop]; omega)) only [hadd, seSl, hlt, hkl, if_true, hk1, et, wrap_i64, decide_true, decide_false, List.length_map, List.length_take, List.take_succ_cons, List.take_zero, hob0, b1, b2, hL, q1, List.length_cons, List.length_nil, evSt, ↓evPre, ↓evPreW, evPost, evPostW, ← List.map_take, ← List.map_drop, ↓reduceIte, reduceCtorEq, Nat.reduceEqDiff, forall_const, implies_true, Nat.reduceAdd, Nat.reduceSub, Nat.reduceMul, Nat.reduceLT, Nat.reduceLeDiff, Int.reduceToNat, Int.reduceAdd, Int.reduceSub, Int.reduceNeg, Int.reduceMul, Int.reduceLT, Int.reduceLE, Int.reduceEq]
            refine mid_app (f := ⟨2, seatAt k⟩) mid (by (try simp only [List.length_append, List.length_cons, List.length_nil]); omega) fun c1 U1 g1 => ?_
            have hob1 := g1.obj
            rw [seaR] at hob1
            simp (disch := first | omega | (simp only [List.length_cons, List.length_nil, List.length_map, List.length_drop]; omega)) only [hadd, seSl, hlt, hkl, if_true, hk1, et, wrap_i64, decide_true, decide_false, List.length_map, List.length_take, List.take_succ_cons, List.take_zero, hob1, b1, b2, hL, q1, List.length_cons, List.length_nil, evSt, ↓evPre, ↓evPreW, evPost, evPostW, ← List.map_take, ← List.map_drop, ↓reduceIte, reduceCtorEq, Nat.reduceEqDiff, forall_const, implies_true, Nat.reduceAdd, Nat.reduceSub, Nat.reduceMul, Nat.reduceLT, Nat.reduceLeDiff, Int.reduceToNat, Int.reduceAdd, Int.reduceSub, Int.reduceNeg, Int.reduceMul, Int.reduceLT, Int.reduceLE, Int.reduceEq]
            refine mid_app (f := ⟨5, seatAt k⟩) g1 (by (try simp only [List.length_append, List.length_cons, List.length_nil]); omega) fun c2 U2 g2 => ?_
            have hob2 := g2.obj
            rw [seaR] at hob2
            simp (disch := first | omega | (simp only [List.length_cons, List.length_nil, List.length_map, List.length_drop]; omega)) only [hadd, seSl, hlt, hkl, if_true, hk1, et, wrap_i64, decide_true, decide_false, List.length_map, List.length_take, List.take_succ_cons, List.take_zero, hob2, b1, b2, hL, q1, List.length_cons, List.length_nil, evSt, ↓evPre, ↓evPreW, evPost, evPostW, ← List.map_take, ← List.map_drop, ↓reduceIte, reduceCtorEq, Nat.reduceEqDiff, forall_const, implies_true, Nat.reduceAdd, Nat.reduceSub, Nat.reduceMul, Nat.reduceLT, Nat.reduceLeDiff, Int.reduceToNat, Int.reduceAdd, Int.reduceSub, Int.reduceNeg, Int.reduceMul, Int.reduceLT, Int.reduceLE, Int.reduceEq]
            refine (anySame_A (l.take k) s pid _ htl g2.obj).then ?_
            simp (disch := first | omega | (simp only [List.length_cons, List.length_nil, List.length_map, List.length_drop]; omega)) only [hadd, seSl, hlt, hkl, if_true, hk1, et, wrap_i64, decide_true, decide_false, List.length_map, List.length_take, List.take_succ_cons, List.take_zero, hT, hob2, b1, b2, hL, q1, List.length_cons, List.length_nil, evSt, ↓evPre, ↓evPreW, evPost, evPostW, ← List.map_take, ← List.map_drop, ↓reduceIte, reduceCtorEq, Nat.reduceEqDiff, forall_const, implies_true, Nat.reduceAdd, Nat.reduceSub, Nat.reduceMul, Nat.reduceLT, Nat.reduceLeDiff, Int.reduceToNat, Int.reduceAdd, Int.reduceSub, Int.reduceNeg, Int.reduceMul, Int.reduceLT, Int.reduceLE, Int.reduceEq]
            refine mid_app (f := ⟨6, seatAt k⟩) g2 (by (try simp only [List.length_append, List.length_cons, List.length_nil]); omega) fun c9 U9 g9 => ?_
            simp (disch := first | omega | (simp only [List.length_cons, List.length_nil, List.length_map, List.length_drop]; omega)) only [hadd, seSl, hlt, hkl, if_true, hk1, et, wrap_i64, decide_true, decide_false, List.length_map, List.length_take, List.take_succ_cons, List.take_zero, evSt, ↓evPre, ↓evPreW, evPost, evPostW, ← List.map_take, ← List.map_drop, ↓reduceIte, reduceCtorEq, Nat.reduceEqDiff, forall_const, implies_true, Nat.reduceAdd, Nat.reduceSub, Nat.reduceMul, Nat.reduceLT, Nat.reduceLeDiff, Int.reduceToNat, Int.reduceAdd, Int.reduceSub, Int.reduceNeg, Int.reduceMul, Int.reduceLT, Int.reduceLE, Int.reduceEq]
            rw [← hF] at g9
            obtain ⟨T2, o1, o2, o3⟩ := fin _ _ g9
            exact ⟨(k + 1, _, T2), ⟨by simp only; omega, by rw [hF1]; exact o1⟩, by simp only; omega, back_under o2 ⟨rfl, rfl, rfl, rfl, rfl, trivial⟩ (by simp [V.under, seSl, o3])⟩
          | false =>
            have hF : F1 = F0 ++ [⟨2, seatAt k⟩] ++ [⟨5, seatAt k⟩] := by
              rw [hstep, faultsAt, if_pos hA, if_neg hN, if_neg (by rw [hT]; exact Bool.noConfusion)]
              simp only [List.append_assoc, List.nil_append, List.append_nil, List.cons_append]
            simp (disch := first | omega | (simp only [List.length_cons, List.length_nil, List.length_map, List.length_drop]; omega)) only [hadd, seSl, hlt, hkl, if_true, hk1, et, wrap_i64, decide_true, decide_false, List.length_map, List.length_take, List.take_succ_cons, List.take_zero, hob0, b1, b2, hL, q1, List.length_cons, List.length_nil, evSt, ↓evPre, ↓evPreW, evPost, evPostW, ← List.map_take, ← List.map_drop, ↓reduceIte, reduceCtorEq, Nat.reduceEqDiff, forall_const, implies_true, Nat.reduceAdd, Nat.reduceSub, Nat.reduceMul, Nat.reduceLT, Nat.reduceLeDiff, Int.reduceToNat, Int.reduceAdd, Int.reduceSub, Int.reduceNeg, Int.reduceMul, Int.reduceLT, Int.reduceLE, Int.reduceEq]
            refine mid_app (f := ⟨2, seatAt k⟩) mid (by (try simp only [List.length_append, List.length_cons, List.length_nil]); omega) fun c1 U1 g1 => ?_
            have hob1 := g1.obj
            rw [seaR] at hob1
            simp (disch := first | omega | (simp only [List.length_cons, List.length_nil, List.length_map, List.length_drop]; omega)) only [hadd, seSl, hlt, hkl, if_true, hk1, et, wrap_i64, decide_true, decide_false, List.length_map, List.length_take, List.take_succ_cons, List.take_zero, hob1, b1, b2, hL, q1, List.length_cons, List.length_nil, evSt, ↓evPre, ↓evPreW, evPost, evPostW, ← List.map_take, ← List.map_drop, ↓reduceIte, reduceCtorEq, Nat.reduceEqDiff, forall_const, implies_true, Nat.reduceAdd, Nat.reduceSub, Nat.reduceMul, Nat.reduceLT, Nat.reduceLeDiff, Int.reduceToNat, Int.reduceAdd, Int.reduceSub, Int.reduceNeg, Int.reduceMul, Int.reduceLT, Int.reduceLE, Int.reduceEq]
            refine mid_app (f := ⟨5, seatAt k⟩) g1 (by (try simp only [List.length_append, List.length_cons, List.length_nil]); omega) fun c2 U2 g2 => ?_
            have hob2 := g2.obj
            rw [seaR] at hob2
            simp (disch := first | omega | (simp only [List.length_cons, List.length_nil, List.length_map, List.length_drop]; omega)) only [hadd, seSl, hlt, hkl, if_true, hk1, et, wrap_i64, decide_true, decide_false, List.length_map, List.length_take, List.take_succ_cons, List.take_zero, hob2, b1, b2, hL, q1, List.length_cons, List.length_nil, evSt, ↓evPre, ↓evPreW, evPost, evPostW, ← List.map_take, ← List.map_drop, ↓reduceIte, reduceCtorEq, Nat.reduceEqDiff, forall_const, implies_true, Nat.reduceAdd, Nat.reduceSub, Nat.reduceMul, Nat.reduceLT, Nat.reduceLeDiff, Int.reduceToNat, Int.reduceAdd, Int.reduceSub, Int.reduceNeg, Int.reduceMul, Int.reduceLT, Int.reduceLE, Int.reduceEq]
            refine (anySame_A (l.take k) s pid _ htl g2.obj).then ?_
            simp (disch := first | omega | (simp only [List.length_cons, List.length_nil, List.length_map, List.length_drop]; omega)) only [hadd, seSl, hlt, hkl, if_true, hk1, et, wrap_i64, decide_true, decide_false, List.length_map, List.length_take, List.take_succ_cons, List.take_zero, hT, hob2, b1, b2, hL, q1, List.length_cons, List.length_nil, evSt, ↓evPre, ↓evPreW, evPost, evPostW, ← List.map_take, ← List.map_drop, ↓reduceIte, reduceCtorEq, Nat.reduceEqDiff, forall_const, implies_true, Nat.reduceAdd, Nat.reduceSub, Nat.reduceMul, Nat.reduceLT, Nat.reduceLeDiff, Int.reduceToNat, Int.reduceAdd, Int.reduceSub, Int.reduceNeg, Int.reduceMul, Int.reduceLT, Int.reduceLE, Int.reduceEq]
            rw [← hF] at g2
            obtain ⟨T2, o1, o2, o3⟩ := fin _ _ g2
            exact ⟨(k + 1, _, T2), ⟨by simp only; omega, by rw [hF1]; exact o1⟩, by simp only; omega, back_under o2 ⟨rfl, rfl, rfl, rfl, rfl, trivial⟩ (by simp [V.under, seSl, o3])⟩
        | nil =>
          by_cases q1 : (c.toNat : Int) < 65
          · have hN : ¬ nameGood s.letter := by rw [hL, nameGood_one]; omega
            cases hT : (l.take k).any (sameS s) with
            | true =>
              have hF : F1 = F0 ++ [⟨2, seatAt k⟩] ++ [⟨5, seatAt k⟩] ++ [⟨6, seatAt k⟩] := by
                rw [hstep, faultsAt, if_pos hA, if_neg hN, if_pos hT]
                simp only [List.append_assoc, List.nil_append, List.append_nil, List.cons_append]
              simp (disch := first | omega | (simp only [List.length_cons, List.length_nil, List.length_map, List.length_drop]; omega)) only [hadd, seSl, hlt, hkl, if_true, hk1, et, wrap_i64, decide_true, decide_false, List.length_map, List.length_take, List.take_succ_cons, List.take_zero, hob0, b1, b2, hL, q1, List.length_cons, List.length_nil, evSt, ↓evPre, ↓evPreW, evPost, evPostW, ← List.map_take, ← List.map_drop, ↓reduceIte, reduceCtorEq, Nat.reduceEqDiff, forall_const, implies_true, Nat.reduceAdd, Nat.reduceSub, Nat.reduceMul, Nat.reduceLT, Nat.reduceLeDiff, Int.reduceToNat, Int.reduceAdd, Int.reduceSub, Int.reduceNeg, Int.reduceMul, Int.reduceLT, Int.reduceLE, Int.reduceEq]
              refine mid_app (f := ⟨2, seatAt k⟩) mid (by (try simp only [List.length_append, List.length_cons, List.length_nil]); omega) fun c1 U1 g1 => ?_
              have hob1 := g1.obj
              rw [seaR] at hob1
              simp (disch := first | omega | (simp only [List.length_cons, List.length_nil, List.length_map, List.length_drop]; omega)) only [hadd, seSl, hlt, hkl, if_true, hk1, et, wrap_i64, decide_true, decide_false, List.length_map, List.length_take, List.take_succ_cons, List.take_zero, hob1, b1, b2, hL, q1, List.length_cons, List.length_nil, evSt, ↓evPre, ↓evPreW, evPost, evPostW, ← List.map_take, ← List.map_drop, ↓reduceIte, reduceCtorEq, Nat.reduceEqDiff, forall_const, implies_true, Nat.reduceAdd, Nat.reduceSub, Nat.reduceMul, Nat.reduceLT, Nat.reduceLeDiff, Int.reduceToNat, Int.reduceAdd, Int.reduceSub, Int.reduceNeg, Int.reduceMul, Int.reduceLT, Int.reduceLE, Int.reduceEq]
              refine mid_app (f := ⟨5, seatAt k⟩) g1 (by (try simp only [List.length_append, List.length_cons, List.length_nil]); omega) fun c2 U2 g2 => ?_
              have hob2 := g2.obj
              rw [seaR] at hob2
              simp (disch := first | omega | (simp only [List.length_cons, List.length_nil, List.length_map, List.length_drop]; omega)) only [hadd, seSl, hlt, hkl, if_true, hk1, et, wrap_i64, decide_true, decide_false, List.length_map, List.length_take, List.take_succ_cons, List.take_zero, hob2, b1, b2, hL, q1, List.length_cons, List.length_nil, evSt, ↓evPre, ↓evPreW, evPost, evPostW, ← List.map_take, ← List.map_drop, ↓reduceIte, reduceCtorEq, Nat.reduceEqDiff, forall_const, implies_true, Nat.reduceAdd, Nat.reduceSub, Nat.reduceMul, Nat.reduceLT, Nat.reduceLeDiff, Int.reduceToNat, Int.reduceAdd, Int.reduceSub, Int.reduceNeg, Int.reduceMul, Int.reduceLT, Int.reduceLE, Int.reduceEq]
              refine (anySame_A (l.take k) s pid _ htl g2.obj).then ?_
              simp (disch := first | omega | (simp only [List.length_cons, List.length_nil, List.length_map, List.length_drop]; omega)) only [hadd, seSl, hlt, hkl, if_true, hk1, et, wrap_i64, decide_true, decide_false, List.length_map, List.length_take, List.take_succ_cons, List.take_zero, hT, hob2, b1, b2, hL, q1, List.length_cons, List.length_nil, evSt, ↓evPre, ↓evPreW, evPost, evPostW, ← List.map_take, ← List.map_drop, ↓reduceIte, reduceCtorEq, Nat.reduceEqDiff, forall_const, implies_true, Nat.reduceAdd, Nat.reduceSub, Nat.reduceMul, Nat.reduceLT, Nat.reduceLeDiff, Int.reduceToNat, Int.reduceAdd, Int.reduceSub, Int.reduceNeg, Int.reduceMul, Int.reduceLT, Int.reduceLE, Int.reduceEq]
              refine mid_app (f := ⟨6, seatAt k⟩) g2 (by (try simp only [List.length_append, List.length_cons, List.length_nil]); omega) fun c9 U9 g9 => ?_
              simp (disch := first | omega | (simp only [List.length_cons, List.length_nil, List.length_map, List.length_drop]; omega)) only [hadd, seSl, hlt, hkl, if_true, hk1, et, wrap_i64, decide_true, decide_false, List.length_map, List.length_take, List.take_succ_cons, List.take_zero, evSt, ↓evPre, ↓evPreW, evPost, evPostW, ← List.map_take, ← List.map_drop, ↓reduceIte, reduceCtorEq, Nat.reduceEqDiff, forall_const, implies_true, Nat.reduceAdd, Nat.reduceSub, Nat.reduceMul, Nat.reduceLT, Nat.reduceLeDiff, Int.reduceToNat, Int.reduceAdd, Int.reduceSub, Int.reduceNeg, Int.reduceMul, Int.reduceLT, Int.reduceLE, Int.reduceEq]
              rw [← hF] at g9
              obtain ⟨T2, o1, o2, o3⟩ := fin _ _ g9
              exact ⟨(k + 1, _, T2), ⟨by simp only; omega, by rw [hF1]; exact o1⟩, by simp only; omega, back_under o2 ⟨rfl, rfl, rfl, rfl, rfl, trivial⟩ (by simp [V.under, seSl, o3])⟩
            | false =>
              have hF : F1 = F0 ++ [⟨2, seatAt k⟩] ++ [⟨5, seatAt k⟩] := by
                rw [hstep, faultsAt, if_pos hA, if_neg hN, if_neg (by rw [hT]; exact Bool.noConfusion)]
                simp only [List.append_assoc, List.nil_append, List.append_nil, List.cons_append]
              simp (disch := first | omega | (simp only [List.length_cons, List.length_nil, List.length_map, List.length_drop]; omega)) only [hadd, seSl, hlt, hkl, if_true, hk1, et, wrap_i64, decide_true, decide_false, List.length_map, List.length_take, List.take_succ_cons, List.take_zero, hob0, b1, b2, hL, q1, List.length_cons, List.length_nil, evSt, ↓evPre, ↓evPreW, evPost, evPostW, ← List.map_take, ← List.map_drop, ↓reduceIte, reduceCtorEq, Nat.reduceEqDiff, forall_const, implies_true, Nat.reduceAdd, Nat.reduceSub, Nat.reduceMul, Nat.reduceLT, Nat.reduceLeDiff, Int.reduceToNat, Int.reduceAdd, Int.reduceSub, Int.reduceNeg, Int.reduceMul, Int.reduceLT, Int.reduceLE, Int.reduceEq]
              refine mid_app (f := ⟨2, seatAt k⟩) mid (by (try simp only [List.length_append, List.length_cons, List.length_nil]); omega) fun c1 U1 g1 => ?_
              have hob1 := g1.obj
              rw [seaR] at hob1
              simp (disch := first | omega | (simp only [List.length_cons, List.length_nil, List.length_map, List.length_drop]; omega)) only [hadd, seSl, hlt, hkl, if_true, hk1, et, wrap_i64, decide_true, decide_false, List.length_map, List.length_take, List.take_succ_cons, List.take_zero, hob1, b1, b2, hL, q1, List.length_cons, List.length_nil, evSt, ↓evPre, ↓evPreW, evPost, evPostW, ← List.map_take, ← List.map_drop, ↓reduceIte, reduceCtorEq, Nat.reduceEqDiff, forall_const, implies_true, Nat.reduceAdd, Nat.reduceSub, Nat.reduceMul, Nat.reduceLT, Nat.reduceLeDiff, Int.reduceToNat, Int.reduceAdd, Int.reduceSub, Int.reduceNeg, Int.reduceMul, Int.reduceLT, Int.reduceLE, Int.reduceEq]
              refine mid_app (f := ⟨5, seatAt k⟩) g1 (by (try simp only [List.length_append, List.length_cons, List.length_nil]); omega) fun c2 U2 g2 => ?_
              have hob2 := g2.obj
              rw [seaR] at hob2
              simp (disch := first | omega | (simp only [List.length_cons, List.length_nil, List.length_map, List.length_drop]; omega)) only [hadd, seSl, hlt, hkl, if_true, hk1, et, wrap_i64, decide_true, decide_false, List.length_map, List.length_take, List.take_succ_cons, List.take_zero, hob2, b1, b2, hL, q1, List.length_cons, List.length_nil, evSt, ↓evPre, ↓evPreW, evPost, evPostW, ← List.map_take, ← List.map_drop, ↓reduceIte, reduceCtorEq, Nat.reduceEqDiff, forall_const, implies_true, Nat.reduceAdd, Nat.reduceSub, Nat.reduceMul, Nat.reduceLT, Nat.reduceLeDiff, Int.reduceToNat, Int.reduceAdd, Int.reduceSub, Int.reduceNeg, Int.reduceMul, Int.reduceLT, Int.reduceLE, Int.reduceEq]
              refine (anySame_A (l.take k) s pid _ htl g2.obj).then ?_
              simp (disch := first | omega | (simp only [List.length_cons, List.length_nil, List.length_map, List.length_drop]; omega)) only [hadd, seSl, hlt, hkl, if_true, hk1, et, wrap_i64, decide_true, decide_false, List.length_map, List.length_take, List.take_succ_cons, List.take_zero, hT, hob2, b1, b2, hL, q1, List.length_cons, List.length_nil, evSt, ↓evPre, ↓evPreW, evPost, evPostW, ← List.map_take, ← List.map_drop, ↓reduceIte, reduceCtorEq, Nat.reduceEqDiff, forall_const, implies_true, Nat.reduceAdd, Nat.reduceSub, Nat.reduceMul, Nat.reduceLT, Nat.reduceLeDiff, Int.reduceToNat, Int.reduceAdd, Int.reduceSub, Int.reduceNeg, Int.reduceMul, Int.reduceLT, Int.reduceLE, Int.reduceEq]
              rw [← hF] at g2
              obtain ⟨T2, o1, o2, o3⟩ := fin _ _ g2
              exact ⟨(k + 1, _, T2), ⟨by simp only; omega, by rw [hF1]; exact o1⟩, by simp only; omega, back_under o2 ⟨rfl, rfl, rfl, rfl, rfl, trivial⟩ (by simp [V.under, seSl, o3])⟩
          by_cases q2 : (90 : Int) < c.toNat
          · have hN : ¬ nameGood s.letter := by rw [hL, nameGood_one]; omega
            cases hT : (l.take k).any (sameS s) with
            | true =>
              have hF : F1 = F0 ++ [⟨2, seatAt k⟩] ++ [⟨5, seatAt k⟩] ++ [⟨6, seatAt k⟩] := by
                rw [hstep, faultsAt, if_pos hA, if_neg hN, if_pos hT]
                simp only [List.append_assoc, List.nil_append, List.append_nil, List.cons_append]
              simp (disch := first | omega | (simp only [List.length_cons, List.length_nil, List.length_map, List.length_drop]; omega)) only [hadd, seSl, hlt, hkl, if_true, hk1, et, wrap_i64, decide_true, decide_false, List.length_map, List.length_take, List.take_succ_cons, List.take_zero, hob0, b1, b2, hL, q1, q2, List.length_cons, List.length_nil, evSt, ↓evPre, ↓evPreW, evPost, evPostW, ← List.map_take, ← List.map_drop, ↓reduceIte, reduceCtorEq, Nat.reduceEqDiff, forall_const, implies_true, Nat.reduceAdd, Nat.reduceSub, Nat.reduceMul, Nat.reduceLT, Nat.reduceLeDiff, Int.reduceToNat, Int.reduceAdd, Int.reduceSub, Int.reduceNeg, Int.reduceMul, Int.reduceLT, Int.reduceLE, Int.reduceEq]
              refine mid_app (f := ⟨2, seatAt k⟩) mid (by (try simp only [List.length_append, List.length_cons, List.length_nil]); omega) fun c1 U1 g1 => ?_
              have hob1 := g1.obj
              rw [seaR] at hob1
              simp (disch := first | omega | (simp only [List.length_cons, List.length_nil, List.length_map, List.length_drop]; omega)) only [hadd, seSl, hlt, hkl, if_true, hk1, et, wrap_i64, decide_true, decide_false, List.length_map, List.length_take, List.take_succ_cons, List.take_zero, hob1, b1, b2, hL, q1, q2, List.length_cons, List.length_nil, evSt, ↓evPre, ↓evPreW, evPost, evPostW, ← List.map_take, ← List.map_drop, ↓reduceIte, reduceCtorEq, Nat.reduceEqDiff, forall_const, implies_true, Nat.reduceAdd, Nat.reduceSub, Nat.reduceMul, Nat.reduceLT, Nat.reduceLeDiff, Int.reduceToNat, Int.reduceAdd, Int.reduceSub, Int.reduceNeg, Int.reduceMul, Int.reduceLT, Int.reduceLE, Int.reduceEq]
              refine mid_app (f := ⟨5, seatAt k⟩) g1 (by (try simp only [List.length_append, List.length_cons, List.length_nil]); omega) fun c2 U2 g2 => ?_
              have hob2 := g2.obj
              rw [seaR] at hob2
              simp (disch := first | omega | (simp only [List.length_cons, List.length_nil, List.length_map, List.length_drop]; omega)) only [hadd, seSl, hlt, hkl, if_true, hk1, et, wrap_i64, decide_true, decide_false, List.length_map, List.length_take, List.take_succ_cons, List.take_zero, hob2, b1, b2, hL, q1, q2, List.length_cons, List.length_nil, evSt, ↓evPre, ↓evPreW, evPost, evPostW, ← List.map_take, ← List.map_drop, ↓reduceIte, reduceCtorEq, Nat.reduceEqDiff, forall_const, implies_true, Nat.reduceAdd, Nat.reduceSub, Nat.reduceMul, Nat.reduceLT, Nat.reduceLeDiff, Int.reduceToNat, Int.reduceAdd, Int.reduceSub, Int.reduceNeg, Int.reduceMul, Int.reduceLT, Int.reduceLE, Int.reduceEq]
              refine (anySame_A (l.take k) s pid _ htl g2.obj).then ?_
              simp (disch := first | omega | (simp only [List.length_cons, List.length_nil, List.length_map, List.length_drop]; omega)) only [hadd, seSl, hlt, hkl, if_true, hk1, et, wrap_i64, decide_true, decide_false, List.length_map, List.length_take, List.take_succ_cons, List.take_zero, hT, hob2, b1, b2, hL, q1, q2, List.length_cons, List.length_nil, evSt, ↓evPre, ↓evPreW, evPost, evPostW, ← List.map_take, ← List.map_drop, ↓reduceIte, reduceCtorEq, Nat.reduceEqDiff, forall_const, implies_true, Nat.reduceAdd, Nat.reduceSub, Nat.reduceMul, Nat.reduceLT, Nat.reduceLeDiff, Int.reduceToNat, Int.reduceAdd, Int.reduceSub, Int.reduceNeg, Int.reduceMul, Int.reduceLT, Int.reduceLE, Int.reduceEq]
              refine mid_app (f := ⟨6, seatAt k⟩) g2 (by (try simp only [List.length_append, List.length_cons, List.length_nil]); omega) fun c9 U9 g9 => ?_
              simp (disch := first | omega | (simp only [List.length_cons, List.length_nil, List.length_map, List.length_drop]; omega)) only [hadd, seSl, hlt, hkl, if_true, hk1, et, wrap_i64, decide_true, decide_false, List.length_map, List.length_take, List.take_succ_cons, List.take_zero, evSt, ↓evPre, ↓evPreW, evPost, evPostW, ← List.map_take, ← List.map_drop, ↓reduceIte, reduceCtorEq, Nat.reduceEqDiff, forall_const, implies_true, Nat.reduceAdd, Nat.reduceSub, Nat.reduceMul, Nat.reduceLT, Nat.reduceLeDiff, Int.reduceToNat, Int.reduceAdd, Int.reduceSub, Int.reduceNeg, Int.reduceMul, Int.reduceLT, Int.reduceLE, Int.reduceEq]
              rw [← hF] at g9
              obtain ⟨T2, o1, o2, o3⟩ := fin _ _ g9
              exact ⟨(k + 1, _, T2), ⟨by simp only; omega, by rw [hF1]; exact o1⟩, by simp only; omega, back_under o2 ⟨rfl, rfl, rfl, rfl, rfl, trivial⟩ (by simp [V.under, seSl, o3])⟩
            | false =>
              have hF : F1 = F0 ++ [⟨2, seatAt k⟩] ++ [⟨5, seatAt k⟩] := by
                rw [hstep, faultsAt, if_pos hA, if_neg hN, if_neg (by rw [hT]; exact Bool.noConfusion)]
                simp only [List.append_assoc, List.nil_append, List.append_nil, List.cons_append]
              simp (disch := first | omega | (simp only [List.length_cons, List.length_nil, List.length_map, List.length_drop]; omega)) only [hadd, seSl, hlt, hkl, if_true, hk1, et, wrap_i64, decide_true, decide_false, List.length_map, List.length_take, List.take_succ_cons, List.take_zero, hob0, b1, b2, hL, q1, q2, List.length_cons, List.length_nil, evSt, ↓evPre, ↓evPreW, evPost, evPostW, ← List.map_take, ← List.map_drop, ↓reduceIte, reduceCtorEq, Nat.reduceEqDiff, forall_const, implies_true, Nat.reduceAdd, Nat.reduceSub, Nat.reduceMul, Nat.reduceLT, Nat.reduceLeDiff, Int.reduceToNat, Int.reduceAdd, Int.reduceSub, Int.reduceNeg, Int.reduceMul, Int.reduceLT, Int.reduceLE, Int.reduceEq]
              refine mid_app (f := ⟨2, seatAt k⟩) mid (by (try simp only [List.length_append, List.length_cons, List.length_nil]); omega) fun c1 U1 g1 => ?_
              have hob1 := g1.obj
              rw [seaR] at hob1
              simp (disch := first | omega | (simp only [List.length_cons, List.length_nil, List.length_map, List.length_drop]; omega)) only [hadd, seSl, hlt, hkl, if_true, hk1, et, wrap_i64, decide_true, decide_false, List.length_map, List.length_take, List.take_succ_cons, List.take_zero, hob1, b1, b2, hL, q1, q2, List.length_cons, List.length_nil, evSt, ↓evPre, ↓evPreW, evPost, evPostW, ← List.map_take, ← List.map_drop, ↓reduceIte, reduceCtorEq, Nat.reduceEqDiff, forall_const, implies_true, Nat.reduceAdd, Nat.reduceSub, Nat.reduceMul, Nat.reduceLT, Nat.reduceLeDiff, Int.reduceToNat, Int.reduceAdd, Int.reduceSub, Int.reduceNeg, Int.reduceMul, Int.reduceLT, Int.reduceLE, Int.reduceEq]
              refine mid_app (f := ⟨5, seatAt k⟩) g1 (by (try simp only [List.length_append, List.length_cons, List.length_nil]); omega) fun c2 U2 g2 => ?_
              have hob2 := g2.obj
              rw [seaR] at hob2
              simp (disch := first | omega | (simp only [List.length_cons, List.length_nil, List.length_map, List.length_drop]; omega)) only [hadd, seSl, hlt, hkl, if_true, hk1, et, wrap_i64, decide_true, decide_false, List.length_map, List.length_take, List.take_succ_cons, List.take_zero, hob2, b1, b2, hL, q1, q2, List.length_cons, List.length_nil, evSt, ↓evPre, ↓evPreW, evPost, evPostW, ← List.map_take, ← List.map_drop, ↓reduceIte, reduceCtorEq, Nat.reduceEqDiff, forall_const, implies_true, Nat.reduceAdd, Nat.reduceSub, Nat.reduceMul, Nat.reduceLT, Nat.reduceLeDiff, Int.reduceToNat, Int.reduceAdd, Int.reduceSub, Int.reduceNeg, Int.reduceMul, Int.reduceLT, Int.reduceLE, Int.reduceEq]
              refine (anySame_A (l.take k) s pid _ htl g2.obj).then ?_
              simp (disch := first | omega | (simp only [List.length_cons, List.length_nil, List.length_map, List.length_drop]; omega)) only [hadd, seSl, hlt, hkl, if_true, hk1, et, wrap_i64, decide_true, decide_false, List.length_map, List.length_take, List.take_succ_cons, List.take_zero, hT, hob2, b1, b2, hL, q1, q2, List.length_cons, List.length_nil, evSt, ↓evPre, ↓evPreW, evPost, evPostW, ← List.map_take, ← List.map_drop, ↓reduceIte, reduceCtorEq, Nat.reduceEqDiff, forall_const, implies_true, Nat.reduceAdd, Nat.reduceSub, Nat.reduceMul, Nat.reduceLT, Nat.reduceLeDiff, Int.reduceToNat, Int.reduceAdd, Int.reduceSub, Int.reduceNeg, Int.reduceMul, Int.reduceLT, Int.reduceLE, Int.reduceEq]
              rw [← hF] at g2
              obtain ⟨T2, o1, o2, o3⟩ := fin _ _ g2
              exact ⟨(k + 1, _, T2), ⟨by simp only; omega, by rw [hF1]; exact o1⟩, by simp only; omega, back_under o2 ⟨rfl, rfl, rfl, rfl, rfl, trivial⟩ (by simp [V.under, seSl, o3])⟩
          have hN : nameGood s.letter := by rw [hL, nameGood_one]; omega
          cases hT : (l.take k).any (sameS s) with
          | true =>
            have hF : F1 = F0 ++ [⟨2, seatAt k⟩] ++ [⟨6, seatAt k⟩] := by
              rw [hstep, faultsAt, if_pos hA, if_pos hN, if_pos hT]
              simp only [List.append_assoc, List.nil_append, List.append_nil, List.cons_append]
            simp (disch := first | omega | (simp only [List.length_cons, List.length_nil, List.length_map, List.length_drop]; omega)) only [hadd, seSl, hlt, hkl, if_true, hk1, et, wrap_i64, decide_true, decide_false, List.length_map, List.length_take, List.take_succ_cons, List.take_zero, hob0, b1, b2, hL, q1, q2, List.length_cons, List.length_nil, evSt, ↓evPre, ↓evPreW, evPost, evPostW, ← List.map_take, ← List.map_drop, ↓reduceIte, reduceCtorEq, Nat.reduceEqDiff, forall_const, implies_true, Nat.reduceAdd, Nat.reduceSub, Nat.reduceMul, Nat.reduceLT, Nat.reduceLeDiff, Int.reduceToNat, Int.reduceAdd, Int.reduceSub, Int.reduceNeg, Int.reduceMul, Int.reduceLT, Int.reduceLE, Int.reduceEq]
            refine mid_app (f := ⟨2, seatAt k⟩) mid (by (try simp only [List.length_append, List.length_cons, List.length_nil]); omega) fun c1 U1 g1 => ?_
            have hob1 := g1.obj
            rw [seaR] at hob1
            simp (disch := first | omega | (simp only [List.length_cons, List.length_nil, List.length_map, List.length_drop]; omega)) only [hadd, seSl, hlt, hkl, if_true, hk1, et, wrap_i64, decide_true, decide_false, List.length_map, List.length_take, List.take_succ_cons, List.take_zero, hob1, b1, b2, hL, q1, q2, List.length_cons, List.length_nil, evSt, ↓evPre, ↓evPreW, evPost, evPostW, ← List.map_take, ← List.map_drop, ↓reduceIte, reduceCtorEq, Nat.reduceEqDiff, forall_const, implies_true, Nat.reduceAdd, Nat.reduceSub, Nat.reduceMul, Nat.reduceLT, Nat.reduceLeDiff, Int.reduceToNat, Int.reduceAdd, Int.reduceSub, Int.reduceNeg, Int.reduceMul, Int.reduceLT, Int.reduceLE, Int.reduceEq]
            refine (anySame_A (l.take k) s pid _ htl g1.obj).then ?_
            simp (disch := first | omega | (simp only [List.length_cons, List.length_nil, List.length_map, List.length_drop]; omega)) only [hadd, seSl, hlt, hkl, if_true, hk1, et, wrap_i64, decide_true, decide_false, List.length_map, List.length_take, List.take_succ_cons, List.take_zero, hT, hob1, b1, b2, hL, q1, q2, List.length_cons, List.length_nil, evSt, ↓evPre, ↓evPreW, evPost, evPostW, ← List.map_take, ← List.map_drop, ↓reduceIte, reduceCtorEq, Nat.reduceEqDiff, forall_const, implies_true, Nat.reduceAdd, Nat.reduceSub, Nat.reduceMul, Nat.reduceLT, Nat.reduceLeDiff, Int.reduceToNat, Int.reduceAdd, Int.reduceSub, Int.reduceNeg, Int.reduceMul, Int.reduceLT, Int.reduceLE, Int.reduceEq]
            refine mid_app (f := ⟨6, seatAt k⟩) g1 (by (try simp only [List.length_append, List.length_cons, List.length_nil]); omega) fun c9 U9 g9 => ?_
            simp (disch := first | omega | (simp only [List.length_cons, List.length_nil, List.length_map, List.length_drop]; omega)) only [hadd, seSl, hlt, hkl, if_true, hk1, et, wrap_i64, decide_true, decide_false, List.length_map, List.length_take, List.take_succ_cons, List.take_zero, evSt, ↓evPre, ↓evPreW, evPost, evPostW, ← List.map_take, ← List.map_drop, ↓reduceIte, reduceCtorEq, Nat.reduceEqDiff, forall_const, implies_true, Nat.reduceAdd, Nat.reduceSub, Nat.reduceMul, Nat.reduceLT, Nat.reduceLeDiff, Int.reduceToNat, Int.reduceAdd, Int.reduceSub, Int.reduceNeg, Int.reduceMul, Int.reduceLT, Int.reduceLE, Int.reduceEq]
            rw [← hF] at g9
            obtain ⟨T2, o1, o2, o3⟩ := fin _ _ g9
            exact ⟨(k + 1, _, T2), ⟨by simp only; omega, by rw [hF1]; exact o1⟩, by simp only; omega, back_under o2 ⟨rfl, rfl, rfl, rfl, rfl, trivial⟩ (by simp [V.under, seSl, o3])⟩
          | false =>
            have hF : F1 = F0 ++ [⟨2, seatAt k⟩] := by
              rw [hstep, faultsAt, if_pos hA, if_pos hN, if_neg (by rw [hT]; exact Bool.noConfusion)]
              simp only [List.append_assoc, List.nil_append, List.append_nil, List.cons_append]
            simp (disch := first | omega | (simp only [List.length_cons, List.length_nil, List.length_map, List.length_drop]; omega)) only [hadd, seSl, hlt, hkl, if_true, hk1, et, wrap_i64, decide_true, decide_false, List.length_map, List.length_take, List.take_succ_cons, List.take_zero, hob0, b1, b2, hL, q1, q2, List.length_cons, List.length_nil, evSt, ↓evPre, ↓evPreW, evPost, evPostW, ← List.map_take, ← List.map_drop, ↓reduceIte, reduceCtorEq, Nat.reduceEqDiff, forall_const, implies_true, Nat.reduceAdd, Nat.reduceSub, Nat.reduceMul, Nat.reduceLT, Nat.reduceLeDiff, Int.reduceToNat, Int.reduceAdd, Int.reduceSub, Int.reduceNeg, Int.reduceMul, Int.reduceLT, Int.reduceLE, Int.reduceEq]
            refine mid_app (f := ⟨2, seatAt k⟩) mid (by (try simp only [List.length_append, List.length_cons, List.length_nil]); omega) fun c1 U1 g1 => ?_
            have hob1 := g1.obj
            rw [seaR] at hob1
            simp (disch := first | omega | (simp only [List.length_cons, List.length_nil, List.length_map, List.length_drop]; omega)) only [hadd, seSl, hlt, hkl, if_true, hk1, et, wrap_i64, decide_true, decide_false, List.length_map, List.length_take, List.take_succ_cons, List.take_zero, hob1, b1, b2, hL, q1, q2, List.length_cons, List.length_nil, evSt, ↓evPre, ↓evPreW, evPost, evPostW, ← List.map_take, ← List.map_drop, ↓reduceIte, reduceCtorEq, Nat.reduceEqDiff, forall_const, implies_true, Nat.reduceAdd, Nat.reduceSub, Nat.reduceMul, Nat.reduceLT, Nat.reduceLeDiff, Int.reduceToNat, Int.reduceAdd, Int.reduceSub, Int.reduceNeg, Int.reduceMul, Int.reduceLT, Int.reduceLE, Int.reduceEq]
            refine (anySame_A (l.take k) s pid _ htl g1.obj).then ?_
            simp (disch := first | omega | (simp only [List.length_cons, List.length_nil, List.length_map, List.length_drop]; omega)) only [hadd, seSl, hlt, hkl, if_true, hk1, et, wrap_i64, decide_true, decide_false, List.length_map, List.length_take, List.take_succ_cons, List.take_zero, hT, hob1, b1, b2, hL, q1, q2, List.length_cons, List.length_nil, evSt, ↓evPre, ↓evPreW, evPost, evPostW, ← List.map_take, ← List.map_drop, ↓reduceIte, reduceCtorEq, Nat.reduceEqDiff, forall_const, implies_true, Nat.reduceAdd, Nat.reduceSub, Nat.reduceMul, Nat.reduceLT, Nat.reduceLeDiff, Int.reduceToNat, Int.reduceAdd, Int.reduceSub, Int.reduceNeg, Int.reduceMul, Int.reduceLT, Int.reduceLE, Int.reduceEq]
            rw [← hF] at g1
            obtain ⟨T2, o1, o2, o3⟩ := fin _ _ g1
            exact ⟨(k + 1, _, T2), ⟨by simp only; omega, by rw [hF1]; exact o1⟩, by simp only; omega, back_under o2 ⟨rfl, rfl, rfl, rfl, rfl, trivial⟩ (by simp [V.under, seSl, o3])⟩
    by_cases b3 : s.has < 0
    · have hA : argBad s := by unfold argBad; omega
      cases hL : s.letter with
      | nil =>
        have hN : ¬ nameGood s.letter := by rw [hL]; exact nameGood_nil
        cases hT : (l.take k).any (sameS s) with
        | true =>
          have hF : F1 = F0 ++ [⟨2, seatAt k⟩] ++ [⟨5, seatAt k⟩] ++ [⟨6, seatAt k⟩] := by
            rw [hstep, faultsAt, if_pos hA, if_neg hN, if_pos hT]
            simp only [List.append_assoc, List.nil_append, List.append_nil, List.cons_append]
          simp (disch := first | omega | (simp only [List.length_cons, List.length_nil, List.length_map, List.length_drop]; omega)) only [hadd, seSl, hlt, hkl, if_true, hk1, et, wrap_i64, decide_true, decide_false, List.length_map, List.length_take, List.take_succ_cons, List.take_zero, hob0, b1, b2, b3, hL, List.length_nil, evSt, ↓evPre, ↓evPreW, evPost, evPostW, ← List.map_take, ← List.map_drop, ↓reduceIte, reduceCtorEq, Nat.reduceEqDiff, forall_const, implies_true, Nat.reduceAdd, Nat.reduceSub, Nat.reduceMul, Nat.reduceLT, Nat.reduceLeDiff, Int.reduceToNat, Int.reduceAdd, Int.reduceSub, Int.reduceNeg, Int.reduceMul, Int.reduceLT, Int.reduceLE, Int.reduceEq]
          refine mid_app (f := ⟨2, seatAt k⟩) mid (by (try simp only [List.length_append, List.length_cons, List.length_nil]); omega) fun c1 U1 g1 => ?_
          have hob1 := g1.obj
          rw [seaR] at hob1
          simp (disch := first | omega | (simp only [List.length_cons, List.length_nil, List.length_map, List.length_drop]; omega)) only [hadd, seSl, hlt, hkl, if_true, hk1, et, wrap_i64, decide_true, decide_false, List.length_map, List.length_take, List.take_succ_cons, List.take_zero, hob1, b1, b2, b3, hL, List.length_nil, evSt, ↓evPre, ↓evPreW, evPost, evPostW, ← List.map_take, ← List.map_drop, ↓reduceIte, reduceCtorEq, Nat.reduceEqDiff, forall_const, implies_true, Nat.reduceAdd, Nat.reduceSub, Nat.reduceMul, Nat.reduceLT, Nat.reduceLeDiff, Int.reduceToNat, Int.reduceAdd, Int.reduceSub, Int.reduceNeg, Int.reduceMul, Int.reduceLT, Int.reduceLE, Int.reduceEq]
          refine mid_app (f := ⟨5, seatAt k⟩) g1 (by (try simp only [List.length_append, List.length_cons, List.length_nil]); omega) fun c2 U2 g2 => ?_
          have hob2 := g2.obj
          rw [seaR] at hob2
          simp (disch := first | omega | (simp only [List.length_cons, List.length_nil, List.length_map, List.length_drop]; omega)) only [hadd, seSl, hlt, hkl, if_true, hk1, et, wrap_i64, decide_true, decide_false, List.length_map, List.length_take, List.take_succ_cons, List.take_zero, hob2, b1, b2, b3, hL, List.length_nil, evSt, ↓evPre, ↓evPreW, evPost, evPostW, ← List.map_take, ← List.map_drop, ↓reduceIte, reduceCtorEq, Nat.reduceEqDiff, forall_const, implies_true, Nat.reduceAdd, Nat.reduceSub, Nat.reduceMul, Nat.reduceLT, Nat.reduceLeDiff, Int.reduceToNat, Int.reduceAdd, Int.reduceSub, Int.reduceNeg, Int.reduceMul, Int.reduceLT, Int.reduceLE, Int.reduceEq]
          refine (anySame_A (l.take k) s pid _ htl g2.obj).then ?_
          simp (disch := first | omega | (simp only [List.length_cons, List.length_nil, List.length_map, List.length_drop]; omega)) only [hadd, seSl, hlt, hkl, if_true, hk1, et, wrap_i64, decide_true, decide_false, List.length_map, List.length_take, List.take_succ_cons, List.take_zero, hT, hob2, b1, b2, b3, hL, List.length_nil, evSt, ↓evPre, ↓evPreW, evPost, evPostW, ← List.map_take, ← List.map_drop, ↓reduceIte, reduceCtorEq, Nat.reduceEqDiff, forall_const, implies_true, Nat.reduceAdd, Nat.reduceSub, Nat.reduceMul, Nat.reduceLT, Nat.reduceLeDiff, Int.reduceToNat, Int.reduceAdd, Int.reduceSub, Int.reduceNeg, Int.reduceMul, Int.reduceLT, Int.reduceLE, Int.reduceEq]
          refine mid_app (f := ⟨6, seatAt k⟩) g2 (by (try simp only [List.length_append, List.length_cons, List.length_nil]); omega) fun c9 U9 g9 => ?_
          simp (disch := first | omega | (simp only [List.length_cons, List.length_nil, List.length_map, List.length_drop]; omega)) only [hadd, seSl, hlt, hkl, if_true, hk1, et, wrap_i64, decide_true, decide_false, List.length_map, List.length_take, List.take_succ_cons, List.take_zero, evSt, ↓evPre, ↓evPreW, evPost, evPostW, ← List.map_take, ← List.map_drop, ↓reduceIte, reduceCtorEq, Nat.reduceEqDiff, forall_const, implies_true, Nat.reduceAdd, Nat.reduceSub, Nat.reduceMul, Nat.reduceLT, Nat.reduceLeDiff, Int.reduceToNat, Int.reduceAdd, Int.reduceSub, Int.reduceNeg, Int.reduceMul, Int.reduceLT, Int.reduceLE, Int.reduceEq]
          rw [← hF] at g9
          obtain ⟨T2, o1, o2, o3⟩ := fin _ _ g9
          exact ⟨(k + 1, _, T2), ⟨by simp only; omega, by rw [hF1]; exact o1⟩, by simp only; omega, back_under o2 ⟨rfl, rfl, rfl, rfl, rfl, trivial⟩ (by simp [V.under, seSl, o3])⟩
        | false =>
          have hF : F1 = F0 ++ [⟨2, seatAt k⟩] ++ [⟨5, seatAt k⟩] := by
            rw [hstep, faultsAt, if_pos hA, if_neg hN, if_neg (by rw [hT]; exact Bool.noConfusion)]
            simp only [List.append_assoc, List.nil_append, List.append_nil, List.cons_append]
          simp (disch := first | omega | (simp only [List.length_cons, List.length_nil, List.length_map, List.length_drop]; omega)) only [hadd, seSl, hlt, hkl, if_true, hk1, et, wrap_i64, decide_true, decide_false, List.length_map, List.length_take, List.take_succ_cons, List.take_zero, hob0, b1, b2, b3, hL, List.length_nil, evSt, ↓evPre, ↓evPreW, evPost, evPostW, ← List.map_take, ← List.map_drop, ↓reduceIte, reduceCtorEq, Nat.reduceEqDiff, forall_const, implies_true, Nat.reduceAdd, Nat.reduceSub, Nat.reduceMul, Nat.reduceLT, Nat.reduceLeDiff, Int.reduceToNat, Int.reduceAdd, Int.reduceSub, Int.reduceNeg, Int.reduceMul, Int.reduceLT, Int.reduceLE, Int.reduceEq]
          refine mid_app (f := ⟨2, seatAt k⟩) mid (by (try simp only [List.length_append, List.length_cons, List.length_nil]); omega) fun c1 U1 g1 => ?_
          have hob1 := g1.obj
          rw [seaR] at hob1
          simp (disch := first | omega | (simp only [List.length_cons, List.length_nil, List.length_map, List.length_drop]; omega)) only [hadd, seSl, hlt, hkl, if_true, hk1, et, wrap_i64, decide_true, decide_false, List.length_map, List.length_take, List.take_succ_cons, List.take_zero, hob1, b1, b2, b3, hL, List.length_nil, evSt, ↓evPre, ↓evPreW, evPost, evPostW, ← List.map_take, ← List.map_drop, ↓reduceIte, reduceCtorEq, Nat.reduceEqDiff, forall_const, implies_true, Nat.reduceAdd, Nat.reduceSub, Nat.reduceMul, Nat.reduceLT, Nat.reduceLeDiff, Int.reduceToNat, Int.reduceAdd, Int.reduceSub, Int.reduceNeg, Int.reduceMul, Int.reduceLT, Int.reduceLE, Int.reduceEq]
          refine mid_app (f := ⟨5, seatAt k⟩) g1 (by (try simp only [List.length_append, List.length_cons, List.length_nil]); omega) fun c2 U2 g2 => ?_
          have hob2 := g2.obj
          rw [seaR] at hob2
          simp (disch := first | omega | (simp only [List.length_cons, List.length_nil, List.length_map, List.length_drop]; omega)) only [hadd, seSl, hlt, hkl, if_true, hk1, et, wrap_i64, decide_true, decide_false, List.length_map, List.length_take, List.take_succ_cons, List.take_zero, hob2, b1, b2, b3, hL, List.length_nil, evSt, ↓evPre, ↓evPreW, evPost, evPostW, ← List.map_take, ← List.map_drop, ↓reduceIte, reduceCtorEq, Nat.reduceEqDiff, forall_const, implies_true, Nat.reduceAdd, Nat.reduceSub, Nat.reduceMul, Nat.reduceLT, Nat.reduceLeDiff, Int.reduceToNat, Int.reduceAdd, Int.reduceSub, Int.reduceNeg, Int.reduceMul, Int.reduceLT, Int.reduceLE, Int.reduceEq]
          refine (anySame_A (l.take k) s pid _ htl g2.obj).then ?_
          simp (disch := first | omega | (simp only [List.length_cons, List.length_nil, List.length_map, List.length_drop]; omega)) only [hadd, seSl, hlt, hkl, if_true, hk1, et, wrap_i64, decide_true, decide_false, List.length_map, List.length_take, List.take_succ_cons, List.take_zero, hT, hob2, b1, b2, b3, hL, List.length_nil, evSt, ↓evPre, ↓evPreW, evPost, evPostW, ← List.map_take, ← List.map_drop, ↓reduceIte, reduceCtorEq, Nat.reduceEqDiff, forall_const, implies_true, Nat.reduceAdd, Nat.reduceSub, Nat.reduceMul, Nat.reduceLT, Nat.reduceLeDiff, Int.reduceToNat, Int.reduceAdd, Int.reduceSub, Int.reduceNeg, Int.reduceMul, Int.reduceLT, Int.reduceLE, Int.reduceEq]
          rw [← hF] at g2
          obtain ⟨T2, o1, o2, o3⟩ := fin _ _ g2
          exact ⟨(k + 1, _, T2), ⟨by simp only; omega, by rw [hF1]; exact o1⟩, by simp only; omega, back_under o2 ⟨rfl, rfl, rfl, rfl, rfl, trivial⟩ (by simp [V.under, seSl, o3])⟩
      | cons c r =>
        cases r with
        | cons d r2 =>
          have hN : ¬ nameGood s.letter := by rw [hL]; exact nameGood_two
          have q1 : ¬ ((r2.length + 1 + 1 : Nat) : Int) = 1 := by omega
          cases hT : (l.take k).any (sameS s) with
          | true =>
            have hF : F1 = F0 ++ [⟨2, seatAt k⟩] ++ [⟨5, seatAt k⟩] ++ [⟨6, seatAt k⟩] := by
              rw [hstep, faultsAt, if_pos hA, if_neg hN, if_pos hT]
              simp only [List.append_assoc, List.nil_append, List.append_nil, List.cons_append]
            simp (disch := first | omega | (simp only [List.length_cons, List.length_nil, List.length_map, List.length_drop]; omega)) only [hadd, seSl, hlt, hkl, if_true, hk1, et, wrap_i64, decide_true, decide_false, List.length_map, List.length_take, List.take_succ_cons, List.take_zero, hob0, b1, b2, b3, hL, q1, List.length_cons, List.length_nil, evSt, ↓evPre, ↓evPreW, evPost, evPostW, ← List.map_take, ← List.map_drop, ↓reduceIte, reduceCtorEq, Nat.reduceEqDiff, forall_const, implies_true, Nat.reduceAdd, Nat.reduceSub, Nat.reduceMul, Nat.reduceLT, Nat.reduceLeDiff, Int.reduceToNat, Int.reduceAdd, Int.reduceSub, Int.reduceNeg, Int.reduceMul, Int.reduceLT, Int.reduceLE, Int.reduceEq]
            refine mid_app (f := ⟨2, seatAt k⟩) mid (by (try simp only [List.length_append, List.length_cons, List.length_nil]); omega) fun c1 U1 g1 => ?_
            have hob1 := g1.obj
            rw [seaR] at hob1
            simp (disch := first | omega | (simp only [List.length_cons, List.length_nil, List.length_map, List.length_drop]; omega)) only [hadd, seSl, hlt, hkl, if_true, hk1, et, wrap_i64, decide_true, decide_false, List.length_map, List.length_take, List.take_succ_cons, List.take_zero, hob1, b1, b2, b3, hL, q1, List.length_cons, List.length_nil, evSt, ↓evPre, ↓evPreW, evPost, evPostW, ← List.map_take, ← List.map_drop, ↓reduceIte, reduceCtorEq, Nat.reduceEqDiff, forall_const, implies_true, Nat.reduceAdd, Nat.reduceSub, Nat.reduceMul, Nat.reduceLT, Nat.reduceLeDiff, Int.reduceToNat, Int.reduceAdd, Int.reduceSub, Int.reduceNeg, Int.reduceMul, Int.reduceLT, Int.reduceLE, Int.reduceEq]
            refine mid_app (f := ⟨5, seatAt k⟩) g1 (by (try simp only [List.length_append, List.length_cons, List.length_nil]); omega) fun c2 U2 g2 => ?_
            have hob2 := g2.obj
            rw [seaR] at hob2
            simp (disch := first | omega | (simp only [List.length_cons, List.length_nil, List.length_map, List.length_drop]; omega)) only [hadd, seSl, hlt, hkl, if_true, hk1, et, wrap_i64, decide_true, decide_false, List.length_map, List.length_take, List.take_succ_cons, List.take_zero, hob2, b1, b2, b3, hL, q1, List.length_cons, List.length_nil, evSt, ↓evPre, ↓evPreW, evPost, evPostW, ← List.map_take, ← List.map_drop, ↓reduceIte, reduceCtorEq, Nat.reduceEqDiff, forall_const, implies_true, Nat.reduceAdd, Nat.reduceSub, Nat.reduceMul, Nat.reduceLT, Nat.reduceLeDiff, Int.reduceToNat, Int.reduceAdd, Int.reduceSub, Int.reduceNeg, Int.reduceMul, Int.reduceLT, Int.reduceLE, Int.reduceEq]
            refine (anySame_A (l.take k) s pid _ htl g2.obj).then ?_
            simp (disch := first | omega | (simp only [List.length_cons, List.length_nil, List.length_map, List.length_drop]; omega)) only [hadd, seSl, hlt, hkl, if_true, hk1, et, wrap_i64, decide_true, decide_false, List.length_map, List.length_take, List.take_succ_cons, List.take_zero, hT, hob2, b1, b2, b3, hL, q1, List.length_cons, List.length_nil, evSt, ↓evPre, ↓evPreW, evPost, evPostW, ← List.map_take, ← List.map_drop, ↓reduceIte, reduceCtorEq, Nat.reduceEqDiff, forall_const, implies_true, Nat.reduceAdd, Nat.reduceSub, Nat.reduceMul, Nat.reduceLT, Nat.reduceLeDiff, Int.reduceToNat, Int.reduceAdd, Int.reduceSub, Int.reduceNeg, Int.reduceMul, Int.reduceLT, Int.reduceLE, Int.reduceEq]
            refine mid_app (f := ⟨6, seatAt k⟩) g2 (by (try simp only [List.length_append, List.length_cons, List.length_nil]); omega) fun c9 U9 g9 => ?_
            simp (disch := first | omega | (simp only [List.length_cons, List.length_nil, List.length_map, List.length_drop]; omega)) only [hadd, seSl, hlt, hkl, if_true, hk1, et, wrap_i64, decide_true, decide_false, List.length_map, List.length_take, List.take_succ_cons, List.take_zero, evSt, ↓evPre, ↓evPreW, evPost, evPostW, ← List.map_take, ← List.map_drop, ↓reduceIte, reduceCtorEq, Nat.reduceEqDiff, forall_const, implies_true, Nat.reduceAdd, Nat.reduceSub, Nat.reduceMul, Nat.reduceLT, Nat.reduceLeDiff, Int.reduceToNat, Int.reduceAdd, Int.reduceSub, Int.reduceNeg, Int.reduceMul, Int.reduceLT, Int.reduceLE, Int.reduceEq]
            rw [← hF] at g9
            obtain ⟨T2, o1, o2, o3⟩ := fin _ _ g9
            exact ⟨(k + 1, _, T2), ⟨by simp only; omega, by rw [hF1]; exact o1⟩, by simp only; omega, back_under o2 ⟨rfl, rfl, rfl, rfl, rfl, trivial⟩ (by simp [V.under, seSl, o3])⟩
          | false =>
            have hF : F1 = F0 ++ [⟨2, seatAt k⟩] ++ [⟨5, seatAt k⟩] := by
              rw [hstep, faultsAt, if_pos hA, if_neg hN, if_neg (by rw [hT]; exact Bool.noConfusion)]
              simp only [List.append_assoc, List.nil_append, List.append_nil, List.cons_append]
            simp (disch := first | omega | (simp only [List.length_cons, List.length_nil, List.length_map, List.length_drop]; omega)) only [hadd, seSl, hlt, hkl, if_true, hk1, et, wrap_i64, decide_true, decide_false, List.length_map, List.length_take, List.take_succ_cons, List.take_zero, hob0, b1, b2, b3, hL, q1, List.length_cons, List.length_nil, evSt, ↓evPre, ↓evPreW, evPost, evPostW, ← List.map_take, ← List.map_drop, ↓reduceIte, reduceCtorEq, Nat.reduceEqDiff, forall_const, implies_true, Nat.reduceAdd, Nat.reduceSub, Nat.reduceMul, Nat.reduceLT, Nat.reduceLeDiff, Int.reduceToNat, Int.reduceAdd, Int.reduceSub, Int.reduceNeg, Int.reduceMul, Int.reduceLT, Int.reduceLE, Int.reduceEq]
            refine mid_app (f := ⟨2, seatAt k⟩) mid (by (try simp only [List.length_append, List.length_cons, List.length_nil]); omega) fun c1 U1 g1 => ?_
            have hob1 := g1.obj
            rw [seaR] at hob1
            simp (disch := first | omega | (simp only [List.length_cons, List.length_nil, List.length_map, List.length_drop]; omega)) only [hadd, seSl, hlt, hkl, if_true, hk1, et, wrap_i64, decide_true, decide_false, List.length_map, List.length_take, List.take_succ_cons, List.take_zero, hob1, b1, b2, b3, hL, q1, List.length_cons, List.length_nil, evSt, ↓evPre, ↓evPreW, evPost, evPostW, ← List.map_take, ← List.map_drop, ↓reduceIte, reduceCtorEq, Nat.reduceEqDiff, forall_const, implies_true, Nat.reduceAdd, Nat.reduceSub, Nat.reduceMul, Nat.reduceLT, Nat.reduceLeDiff, Int.reduceToNat, Int.reduceAdd, Int.reduceSub, Int.reduceNeg, Int.reduceMul, Int.reduceLT, Int.reduceLE, Int.reduceEq]
            refine mid_app (f := ⟨5, seatAt k⟩) g1 (by (try simp only [List.length_append, List.length_cons, List.length_nil]); omega) fun c2 U2 g2 => ?_
            have hob2 := g2.obj
            rw [seaR] at hob2
            simp (disch := first | omega | (simp only [List.length_cons, List.length_nil, List.length_map, List.length_drop]; omega)) only [hadd, seSl, hlt, hkl, if_true, hk1, et, wrap_i64, decide_true, decide_false, List.length_map, List.length_take, List.take_succ_cons, List.take_zero, hob2, b1, b2, b3, hL, q1, List.length_cons, List.length_nil, evSt, ↓evPre, ↓evPreW, evPost, evPostW, ← List.map_take, ← List.map_drop, ↓reduceIte, reduceCtorEq, Nat.reduceEqDiff, forall_const, implies_true, Nat.reduceAdd, Nat.reduceSub, Nat.reduceMul, Nat.reduceLT, Nat.reduceLeDiff, Int.reduceToNat, Int.reduceAdd, Int.reduceSub, Int.reduceNeg, Int.reduceMul, Int.reduceLT, Int.reduceLE, Int.reduceEq]
            refine (anySame_A (l.take k) s pid _ htl g2.obj).then ?_
            simp (disch := first | omega | (simp only [List.length_cons, List.length_nil, List.length_map, List.length_drop]; omega)) only [hadd, seSl, hlt, hkl, if_true, hk1, et, wrap_i64, decide_true, decide_false, List.length_map, List.length_take, List.take_succ_cons, List.take_zero, hT, hob2, b1, b2, b3, hL, q1, List.length_cons, List.length_nil, evSt, ↓evPre, ↓evPreW, evPost, evPostW, ← List.map_take, ← List.map_drop, ↓reduceIte, reduceCtorEq, Nat.reduceEqDiff, forall_const, implies_true, Nat.reduceAdd, Nat.reduceSub, Nat.reduceMul, Nat.reduceLT, Nat.reduceLeDiff, Int.reduceToNat, Int.reduceAdd, Int.reduceSub, Int.reduceNeg, Int.reduceMul, Int.reduceLT, Int.reduceLE, Int.reduceEq]
            rw [← hF] at g2
            obtain ⟨T2, o1, o2, o3⟩ := fin _ _ g2
            exact ⟨(k + 1, _, T2), ⟨by simp only; omega, by rw [hF1]; exact o1⟩, by simp only; omega, back_under o2 ⟨rfl, rfl, rfl, rfl, rfl, trivial⟩ (by simp [V.under, seSl, o3])⟩
        | nil =>
          by_cases q1 : (c.toNat : Int) < 65
          · have hN : ¬ nameGood s.letter := by rw [hL, nameGood_one]; omega
            cases hT : (l.take k).any (sameS s) with
            | true =>
              have hF : F1 = F0 ++ [⟨2, seatAt k⟩] ++ [⟨5, seatAt k⟩] ++ [⟨6, seatAt k⟩] := by
                rw [hstep, faultsAt, if_pos hA, if_neg hN, if_pos hT]
                simp only [List.append_assoc, List.nil_append, List.append_nil, List.cons_append]
              simp (disch := first | omega | (simp only [List.length_cons, List.length_nil, List.length_map, List.length_drop]; omega)) only [hadd, seSl, hlt, hkl, if_true, hk1, et, wrap_i64, decide_true, decide_false, List.length_map, List.length_take, List.take_succ_cons, List.take_zero, hob0, b1, b2, b3, hL, q1, List.length_cons, List.length_nil, evSt, ↓evPre, ↓evPreW, evPost, evPostW, ← List.map_take, ← List.map_drop, ↓reduceIte, reduceCtorEq, Nat.reduceEqDiff, forall_const, implies_true, Nat.reduceAdd, Nat.reduceSub, Nat.reduceMul, Nat.reduceLT, Nat.reduceLeDiff, Int.reduceToNat, Int.reduceAdd, Int.reduceSub, Int.reduceNeg, Int.reduceMul, Int.reduceLT, Int.reduceLE, Int.reduceEq]
              refine mid_app (f := ⟨2, seatAt k⟩) mid (by (try simp only [List.length_append, List.length_cons, List.length_nil]); omega) fun c1 U1 g1 => ?_
              have hob1 := g1.obj
              rw [seaR] at hob1
              simp (disch := first | omega | (simp only [List.length_cons, List.length_nil, List.length_map, List.length_drop]; omega)) only [hadd, seSl, hlt, hkl, if_true, hk1, et, wrap_i64, decide_true, decide_false, List.length_map, List.length_take, List.take_succ_cons, List.take_zero, hob1, b1, b2, b3, hL, q1, List.length_cons, List.length_nil, evSt, ↓evPre, ↓evPreW, evPost, evPostW, ← List.map_take, ← List.map_drop, ↓reduceIte, reduceCtorEq, Nat.reduceEqDiff, forall_const, implies_true, Nat.reduceAdd, Nat.reduceSub, Nat.reduceMul, Nat.reduceLT, Nat.reduceLeDiff, Int.reduceToNat, Int.reduceAdd, Int.reduceSub, Int.reduceNeg, Int.reduceMul, Int.reduceLT, Int.reduceLE, Int.reduceEq]
              refine mid_app (f := ⟨5, seatAt k⟩) g1 (by (try simp only [List.length_append, List.length_cons, List.length_nil]); omega) fun c2 U2 g2 => ?_
              have hob2 := g2.obj
              rw [seaR] at hob2
              simp (disch := first | omega | (simp only [List.length_cons, List.length_nil, List.length_map, List.length_drop]; omega)) only [hadd, seSl, hlt, hkl, if_true, hk1, et, wrap_i64, decide_true, decide_false, List.length_map, List.length_take, List.take_succ_cons, List.take_zero, hob2, b1, b2, b3, hL, q1, List.length_cons, List.length_nil, evSt, ↓evPre, ↓evPreW, evPost, evPostW, ← List.map_take, ← List.map_drop, ↓reduceIte, reduceCtorEq, Nat.reduceEqDiff, forall_const, implies_true, Nat.reduceAdd, Nat.reduceSub, Nat.reduceMul, Nat.reduceLT, Nat.reduceLeDiff, Int.reduceToNat, Int.reduceAdd, Int.reduceSub, Int.reduceNeg, Int.reduceMul, Int.reduceLT, Int.reduceLE, Int.reduceEq]
              refine (anySame_A (l.take k) s pid _ htl g2.obj).then ?_
              simp (disch := first | omega | (simp only [List.length_cons, List.length_nil, List.length_map, List.length_drop]; omega)) only [hadd, seSl, hlt, hkl, if_true, hk1, et, wrap_i64, decide_true, decide_false, List.length_map, List.length_take, List.take_succ_cons, List.take_zero, hT, hob2, b1, b2, b3, hL, q1, List.length_cons, List.length_nil, evSt, ↓evPre, ↓evPreW, evPost, evPostW, ← List.map_take, ← List.map_drop, ↓reduceIte, reduceCtorEq, Nat.reduceEqDiff, forall_const, implies_true, Nat.reduceAdd, Nat.reduceSub, Nat.reduceMul, Nat.reduceLT, Nat.reduceLeDiff, Int.reduceToNat, Int.reduceAdd, Int.reduceSub, Int.reduceNeg, Int.reduceMul, Int.reduceLT, Int.reduceLE, Int.reduceEq]
              refine mid_app (f := ⟨6, seatAt k⟩) g2 (by (try simp only [List.length_append, List.length_cons, List.length_nil]); omega) fun c9 U9 g9 => ?_
              simp (disch := first | omega | (simp only [List.length_cons, List.length_nil, List.length_map, List.length_drop]; omega)) only [hadd, seSl, hlt, hkl, if_true, hk1, et, wrap_i64, decide_true, decide_false, List.length_map, List.length_take, List.take_succ_cons, List.take_zero, evSt, ↓evPre, ↓evPreW, evPost, evPostW, ← List.map_take, ← List.map_drop, ↓reduceIte, reduceCtorEq, Nat.reduceEqDiff, forall_const, implies_true, Nat.reduceAdd, Nat.reduceSub, Nat.reduceMul, Nat.reduceLT, Nat.reduceLeDiff, Int.reduceToNat, Int.reduceAdd, Int.reduceSub, Int.reduceNeg, Int.reduceMul, Int.reduceLT, Int.reduceLE, Int.reduceEq]
              rw [← hF] at g9
              obtain ⟨T2, o1, o2, o3⟩ := fin _ _ g9
              exact ⟨(k + 1, _, T2), ⟨by simp only; omega, by rw [hF1]; exact o1⟩, by simp only; omega, back_under o2 ⟨rfl, rfl, rfl, rfl, rfl, trivial⟩ (by simp [V.under, seSl, o3])⟩
            | false =>
              have hF : F1 = F0 ++ [⟨2, seatAt k⟩] ++ [⟨5, seatAt k⟩] := by
                rw [hstep, faultsAt, if_pos hA, if_neg hN, if_neg (by rw [hT]; exact Bool.noConfusion)]
                simp only [List.append_assoc, List.nil_append, List.append_nil, List.cons_append]
              simp (disch := first | omega | (simp only [List.length_cons, List.length_nil, List.length_map, List.length_drop]; omega)) only [hadd, seSl, hlt, hkl, if_true, hk1, et, wrap_i64, decide_true, decide_false, List.length_map, List.length_take, List.take_succ_cons, List.take_zero, hob0, b1, b2, b3, hL, q1, List.length_cons, List.length_nil, evSt, ↓evPre, ↓evPreW, evPost, evPostW, ← List.map_take, ← List.map_drop, ↓reduceIte, reduceCtorEq, Nat.reduceEqDiff, forall_const, implies_true, Nat.reduceAdd, Nat.reduceSub, Nat.reduceMul, Nat.reduceLT, Nat.reduceLeDiff, Int.reduceToNat, Int.reduceAdd, Int.reduceSub, Int.reduceNeg, Int.reduceMul, Int.reduceLT, Int.reduceLE, Int.reduceEq]
              refine mid_app (f := ⟨2, seatAt k⟩) mid (by (try simp only [List.length_append, List.length_cons, List.length_nil]); omega) fun c1 U1 g1 => ?_
              have hob1 := g1.obj
              rw [seaR] at hob1
              simp (disch := first | omega | (simp only [List.length_cons, List.length_nil, List.length_map, List.length_drop]; omega)) only [hadd, seSl, hlt, hkl, if_true, hk1, et, wrap_i64, decide_true, decide_false, List.length_map, List.length_take, List.take_succ_cons, List.take_zero, hob1, b1, b2, b3, hL, q1, List.length_cons, List.length_nil, evSt, ↓evPre, ↓evPreW, evPost, evPostW, ← List.map_take, ← List.map_drop, ↓reduceIte, reduceCtorEq, Nat.reduceEqDiff, forall_const, implies_true, Nat.reduceAdd, Nat.reduceSub, Nat.reduceMul, Nat.reduceLT, Nat.reduceLeDiff, Int.reduceToNat, Int.reduceAdd, Int.reduceSub, Int.reduceNeg, Int.reduceMul, Int.reduceLT, Int.reduceLE, Int.reduceEq]
              refine mid_app (f := ⟨5, seatAt k⟩) g1 (by (try simp only [List.length_append, List.length_cons, List.length_nil]); omega) fun c2 U2 g2 => ?_
              have hob2 := g2.obj
              rw [seaR] at hob2
              simp (disch := first | omega | (simp only [List.length_cons, List.length_nil, List.length_map, List.length_drop]; omega)) only [hadd, seSl, hlt, hkl, if_true, hk1, et, wrap_i64, decide_true, decide_false, List.length_map, List.length_take, List.take_succ_cons, List.take_zero, hob2, b1, b2, b3, hL, q1, List.length_cons, List.length_nil, evSt, ↓evPre, ↓evPreW, evPost, evPostW, ← List.map_take, ← List.map_drop, ↓reduceIte, reduceCtorEq, Nat.reduceEqDiff, forall_const, implies_true, Nat.reduceAdd, Nat.reduceSub, Nat.reduceMul, Nat.reduceLT, Nat.reduceLeDiff, Int.reduceToNat, Int.reduceAdd, Int.reduceSub, Int.reduceNeg, Int.reduceMul, Int.reduceLT, Int.reduceLE, Int.reduceEq]
              refine (anySame_A (l.take k) s pid _ htl g2.obj).then ?_
              simp (disch := first | omega | (simp only [List.length_cons, List.length_nil, List.length_map, List.length_drop]; omega)) only [hadd, seSl, hlt, hkl, if_true, hk1, et, wrap_i64, decide_true, decide_false, List.length_map, List.length_take, List.take_succ_cons, List.take_zero, hT, hob2, b1, b2, b3, hL, q1, List.length_cons, List.length_nil, evSt, ↓evPre, ↓evPreW, evPost, evPostW, ← List.map_take, ← List.map_drop, ↓reduceIte, reduceCtorEq, Nat.reduceEqDiff, forall_const, implies_true, Nat.reduceAdd, Nat.reduceSub, Nat.reduceMul, Nat.reduceLT, Nat.reduceLeDiff, Int.reduceToNat, Int.reduceAdd, Int.reduceSub, Int.reduceNeg, Int.reduceMul, Int.reduceLT, Int.reduceLE, Int.reduceEq]
              rw [← hF] at g2
              obtain ⟨T2, o1, o2, o3⟩ := fin _ _ g2
              exact ⟨(k + 1, _, T2), ⟨by simp only; omega, by rw [hF1]; exact o1⟩, by simp only; omega, back_under o2 ⟨rfl, rfl, rfl, rfl, rfl, trivial⟩ (by simp [V.under, seSl, o3])⟩
          by_cases q2 : (90 : Int) < c.toNat
          · have hN : ¬ nameGood s.letter := by rw [hL, nameGood_one]; omega
            cases hT : (l.take k).any (sameS s) with
            | true =>
              have hF : F1 = F0 ++ [⟨2, seatAt k⟩] ++ [⟨5, seatAt k⟩] ++ [⟨6, seatAt k⟩] := by
                rw [hstep, faultsAt, if_pos hA, if_neg hN, if_pos hT]
                simp only [List.append_assoc, List.nil_append, List.append_nil, List.cons_append]
              simp (disch := first | omega | (simp only [List.length_cons, List.length_nil, List.length_map, List.length_drop]; omega)) only [hadd, seSl, hlt, hkl, if_true, hk1, et, wrap_i64, decide_true, decide_false, List.length_map, List.length_take, List.take_succ_cons, List.take_zero, hob0, b1, b2, b3, hL, q1, q2, List.length_cons, List.length_nil, evSt, ↓evPre, ↓evPreW, evPost, evPostW, ← List.map_take, ← List.map_drop, ↓reduceIte, reduceCtorEq, Nat.reduceEqDiff, forall_const, implies_true, Nat.reduceAdd, Nat.reduceSub, Nat.reduceMul, Nat.reduceLT, Nat.reduceLeDiff, Int.reduceToNat, Int.reduceAdd, Int.reduceSub, Int.reduceNeg, Int.reduceMul, Int.reduceLT, Int.reduceLE, Int.reduceEq]
              refine mid_app (f := ⟨2, seatAt k⟩) mid (by (try simp only [List.length_append, List.length_cons, List.length_nil]); omega) fun c1 U1 g1 => ?_
              have hob1 := g1.obj
              rw [seaR] at hob1
              simp (disch := first | omega | (simp only [List.length_cons, List.length_nil, List.length_map, List.length_drop]; omega)) only [hadd, seSl, hlt, hkl, if_true, hk1, et, wrap_i64, decide_true, decide_false, List.length_map, List.length_take, List.take_succ_cons, List.take_zero, hob1, b1, b2, b3, hL, q1, q2, List.length_cons, List.length_nil, evSt, ↓evPre, ↓evPreW, evPost, evPostW, ← List.map_take, ← List.map_drop, ↓reduceIte, reduceCtorEq, Nat.reduceEqDiff, forall_const, implies_true, Nat.reduceAdd, Nat.reduceSub, Nat.reduceMul, Nat.reduceLT, Nat.reduceLeDiff, Int.reduceToNat, Int.reduceAdd, Int.reduceSub, Int.reduceNeg, Int.reduceMul, Int.reduceLT, Int.reduceLE, Int.reduceEq]
              refine mid_app (f := ⟨5, seatAt k⟩) g1 (by (try simp only [List.length_append, List.length_cons, List.length_nil]); omega) fun c2 U2 g2 => ?_
              have hob2 := g2.obj
              rw [seaR] at hob2
              simp (disch := first | omega | (simp only [List.length_cons, List.length_nil, List.length_map, List.length_drop]; omega)) only [hadd, seSl, hlt, hkl, if_true, hk1, et, wrap_i64, decide_true, decide_false, List.length_map, List.length_take, List.take_succ_cons, List.take_zero, hob2, b1, b2, b3, hL, q1, q2, List.length_cons, List.length_nil, evSt, ↓evPre, ↓evPreW, evPost, evPostW, ← List.map_take, ← List.map_drop, ↓reduceIte, reduceCtorEq, Nat.reduceEqDiff, forall_const, implies_true, Nat.reduceAdd, Nat.reduceSub, Nat.reduceMul, Nat.reduceLT, Nat.reduceLeDiff, Int.reduceToNat, Int.reduceAdd, Int.reduceSub, Int.reduceNeg, Int.reduceMul, Int.reduceLT, Int.reduceLE, Int.reduceEq]
              refine (anySame_A (l.take k) s pid _ htl g2.obj).then ?_
              simp (disch := first | omega | (simp only [List.length_cons, List.length_nil, List.length_map, List.length_drop]; omega)) only [hadd, seSl, hlt, hkl, if_true, hk1, et, wrap_i64, decide_true, decide_false, List.length_map, List.length_take, List.take_succ_cons, List.take_zero, hT, hob2, b1, b2, b3, hL, q1, q2, List.length_cons, List.length_nil, evSt, ↓evPre, ↓evPreW, evPost, evPostW, ← List.map_take, ← List.map_drop, ↓reduceIte, reduceCtorEq, Nat.reduceEqDiff, forall_const, implies_true, Nat.reduceAdd, Nat.reduceSub, Nat.reduceMul, Nat.reduceLT, Nat.reduceLeDiff, Int.reduceToNat, Int.reduceAdd, Int.reduceSub, Int.reduceNeg, Int.reduceMul, Int.reduceLT, Int.reduceLE, Int.reduceEq]
              refine mid_app (f := ⟨6, seatAt k⟩) g2 (by (try simp only [List.length_append, List.length_cons, List.length_nil]); omega) fun c9 U9 g9 => ?_
              simp (disch := first | omega | (simp only [List.length_cons, List.length_nil, List.length_map, List.length_drop]; omega)) only [hadd, seSl, hlt, hkl, if_true, hk1, et, wrap_i64, decide_true, decide_false, List.length_map, List.length_take, List.take_succ_cons, List.take_zero, evSt, ↓evPre, ↓evPreW, evPost, evPostW, ← List.map_take, ← List.map_drop, ↓reduceIte, reduceCtorEq, Nat.reduceEqDiff, forall_const, implies_true, Nat.reduceAdd, Nat.reduceSub, Nat.reduceMul, Nat.reduceLT, Nat.reduceLeDiff, Int.reduceToNat, Int.reduceAdd, Int.reduceSub, Int.reduceNeg, Int.reduceMul, Int.reduceLT, Int.reduceLE, Int.reduceEq]
              rw [← hF] at g9
              obtain ⟨T2, o1, o2, o3⟩ := fin _ _ g9
              exact ⟨(k + 1, _, T2), ⟨by simp only; omega, by rw [hF1]; exact o1⟩, by simp only; omega, back_under o2 ⟨rfl, rfl, rfl, rfl, rfl, trivial⟩ (by simp [V.under, seSl, o3])⟩
            | false =>
              have hF : F1 = F0 ++ [⟨2, seatAt k⟩] ++ [⟨5, seatAt k⟩] := by
                rw [hstep, faultsAt, if_pos hA, if_neg hN, if_neg (by rw [hT]; exact Bool.noConfusion)]
                simp only [List.append_assoc, List.nil_append, List.append_nil, List.cons_append]
              simp (disch := first | omega | (simp only [List.length_cons, List.length_nil, List.length_map, List.length_drop]; omega)) only [hadd, seSl, hlt, hkl, if_true, hk1, et, wrap_i64, decide_true, decide_false, List.length_map, List.length_take, List.take_succ_cons, List.take_zero, hob0, b1, b2, b3, hL, q1, q2, List.length_cons, List.length_nil, evSt, ↓evPre, ↓evPreW, evPost, evPostW, ← List.map_take, ← List.map_drop, ↓reduceIte, reduceCtorEq, Nat.reduceEqDiff, forall_const, implies_true, Nat.reduceAdd, Nat.reduceSub, Nat.reduceMul, Nat.reduceLT, Nat.reduceLeDiff, Int.reduceToNat, Int.reduceAdd, Int.reduceSub, Int.reduceNeg, Int.reduceMul, Int.reduceLT, Int.reduceLE, Int.reduceEq]
              refine mid_app (f := ⟨2, seatAt k⟩) mid (by (try simp only [List.length_append, List.length_cons, List.length_nil]); omega) fun c1 U1 g1 => ?_
              have hob1 := g1.obj
              rw [seaR] at hob1
              simp (disch := first | omega | (simp only [List.length_cons, List.length_nil, List.length_map, List.length_drop]; omega)) only [hadd, seSl, hlt, hkl, if_true, hk1, et, wrap_i64, decide_true, decide_false, List.length_map, List.length_take, List.take_succ_cons, List.take_zero, hob1, b1, b2, b3, hL, q1, q2, List.length_cons, List.length_nil, evSt, ↓evPre, ↓evPreW, evPost, evPostW, ← List.map_take, ← List.map_drop, ↓reduceIte, reduceCtorEq, Nat.reduceEqDiff, forall_const, implies_true, Nat.reduceAdd, Nat.reduceSub, Nat.reduceMul, Nat.reduceLT, Nat.reduceLeDiff, Int.reduceToNat, Int.reduceAdd, Int.reduceSub, Int.reduceNeg, Int.reduceMul, Int.reduceLT, Int.reduceLE, Int.reduceEq]
              refine mid_app (f := ⟨5, seatAt k⟩) g1 (by (try simp only [List.length_append, List.length_cons, List.length_nil]); omega) fun c2 U2 g2 => ?_
              have hob2 := g2.obj
              rw [seaR] at hob2
              simp (disch := first | omega | (simp only [List.length_cons, List.length_nil, List.length_map, List.length_drop]; omega)) only [hadd, seSl, hlt, hkl, if_true, hk1, et, wrap_i64, decide_true, decide_false, List.length_map, List.length_take, List.take_succ_cons, List.take_zero, hob2, b1, b2, b3, hL, q1, q2, List.length_cons, List.length_nil, evSt, ↓evPre, ↓evPreW, evPost, evPostW, ← List.map_take, ← List.map_drop, ↓reduceIte, reduceCtorEq, Nat.reduceEqDiff, forall_const, implies_true, Nat.reduceAdd, Nat.reduceSub, Nat.reduceMul, Nat.reduceLT, Nat.reduceLeDiff, Int.reduceToNat, Int.reduceAdd, Int.reduceSub, Int.reduceNeg, Int.reduceMul, Int.reduceLT, Int.reduceLE, Int.reduceEq]
              refine (anySame_A (l.take k) s pid _ htl g2.obj).then ?_
              simp (disch := first | omega | (simp only [List.length_cons, List.length_nil, List.length_map, List.length_drop]; omega)) only [hadd, seSl, hlt, hkl, if_true, hk1, et, wrap_i64, decide_true, decide_false, List.length_map, List.length_take, List.take_succ_cons, List.take_zero, hT, hob2, b1, b2, b3, hL, q1, q2, List.length_cons, List.length_nil, evSt, ↓evPre, ↓evPreW, evPost, evPostW, ← List.map_take, ← List.map_drop, ↓reduceIte, reduceCtorEq, Nat.reduceEqDiff, forall_const, implies_true, Nat.reduceAdd, Nat.reduceSub, Nat.reduceMul, Nat.reduceLT, Nat.reduceLeDiff, Int.reduceToNat, Int.reduceAdd, Int.reduceSub, Int.reduceNeg, Int.reduceMul, Int.reduceLT, Int.reduceLE, Int.reduceEq]
              rw [← hF] at g2
              obtain ⟨T2, o1, o2, o3⟩ := fin _ _ g2
              exact ⟨(k + 1, _, T2), ⟨by simp only; omega, by rw [hF1]; exact o1⟩, by simp only; omega, back_under o2 ⟨rfl, rfl, rfl, rfl, rfl, trivial⟩ (by simp [V.under, seSl, o3])⟩
          have hN : nameGood s.letter := by rw [hL, nameGood_one]; omega
          cases hT : (l.take k).any (sameS s) with
          | true =>
            have hF : F1 = F0 ++ [⟨2, seatAt k⟩] ++ [⟨6, seatAt k⟩] := by
              rw [hstep, faultsAt, if_pos hA, if_pos hN, if_pos hT]
              simp only [List.append_assoc, List.nil_append, List.append_nil, List.cons_append]
            simp (disch := first | omega | (simp only [List.length_cons, List.length_nil, List.length_map, List.length_drop]; omega)) only [hadd, seSl, hlt, hkl, if_true, hk1, et, wrap_i64, decide_true, decide_false, List.length_map, List.length_take, List.take_succ_cons, List.take_zero, hob0, b1, b2, b3, hL, q1, q2, List.length_cons, List.length_nil, evSt, ↓evPre, ↓evPreW, evPost, evPostW, ← List.map_take, ← List.map_drop, ↓reduceIte, reduceCtorEq, Nat.reduceEqDiff, forall_const, implies_true, Nat.reduceAdd, Nat.reduceSub, Nat.reduceMul, Nat.reduceLT, Nat.reduceLeDiff, Int.reduceToNat, Int.reduceAdd, Int.reduceSub, Int.reduceNeg, Int.reduceMul, Int.reduceLT, Int.reduceLE, Int.reduceEq]
            refine mid_app (f := ⟨2, seatAt k⟩) mid (by (try simp only [List.length_append, List.length_cons, List.length_nil]); omega) fun c1 U1 g1 => ?_
            have hob1 := g1.obj
            rw [seaR] at hob1
            simp (disch := first | omega | (simp only [List.length_cons, List.length_nil, List.length_map, List.length_drop]; omega)) only [hadd, seSl, hlt, hkl, if_true, hk1, et, wrap_i64, decide_true, decide_false, List.length_map, List.length_take, List.take_succ_cons, List.take_zero, hob1, b1, b2, b3, hL, q1, q2, List.length_cons, List.length_nil, evSt, ↓evPre, ↓evPreW, evPost, evPostW, ← List.map_take, ← List.map_drop, ↓reduceIte, reduceCtorEq, Nat.reduceEqDiff, forall_const, implies_true, Nat.reduceAdd, Nat.reduceSub, Nat.reduceMul, Nat.reduceLT, Nat.reduceLeDiff, Int.reduceToNat, Int.reduceAdd, Int.reduceSub, Int.reduceNeg, Int.reduceMul, Int.reduceLT, Int.reduceLE, Int.reduceEq]
            refine (anySame_A (l.take k) s pid _ htl g1.obj).then ?_
            simp (disch := first | omega | (simp only [List.length_cons, List.length_nil, List.length_map, List.length_drop]; omega)) only [hadd, seSl, hlt, hkl, if_true, hk1, et, wrap_i64, decide_true, decide_false, List.length_map, List.length_take, List.take_succ_cons, List.take_zero, hT, hob1, b1, b2, b3, hL, q1, q2, List.length_cons, List.length_nil, evSt, ↓evPre, ↓evPreW, evPost, evPostW, ← List.map_take, ← List.map_drop, ↓reduceIte, reduceCtorEq, Nat.reduceEqDiff, forall_const, implies_true, Nat.reduceAdd, Nat.reduceSub, Nat.reduceMul, Nat.reduceLT, Nat.reduceLeDiff, Int.reduceToNat, Int.reduceAdd, Int.reduceSub, Int.reduceNeg, Int.reduceMul, Int.reduceLT, Int.reduceLE, Int.reduceEq]
            refine mid_app (f := ⟨6, seatAt k⟩) g1 (by (try simp only [List.length_append, List.length_cons, List.length_nil]); omega) fun c9 U9 g9 => ?_
            simp (disch := first | omega | (simp only [List.length_cons, List.length_nil, List.length_map, List.length_drop]; omega)) only [hadd, seSl, hlt, hkl, if_true, hk1, et, wrap_i64, decide_true, decide_false, List.length_map, List.length_take, List.take_succ_cons, List.take_zero, evSt, ↓evPre, ↓evPreW, evPost, evPostW, ← List.map_take, ← List.map_drop, ↓reduceIte, reduceCtorEq, Nat.reduceEqDiff, forall_const, implies_true, Nat.reduceAdd, Nat.reduceSub, Nat.reduceMul, Nat.reduceLT, Nat.reduceLeDiff, Int.reduceToNat, Int.reduceAdd, Int.reduceSub, Int.reduceNeg, Int.reduceMul, Int.reduceLT, Int.reduceLE, Int.reduceEq]
            rw [← hF] at g9
            obtain ⟨T2, o1, o2, o3⟩ := fin _ _ g9
            exact ⟨(k + 1, _, T2), ⟨by simp only; omega, by rw [hF1]; exact o1⟩, by simp only; omega, back_under o2 ⟨rfl, rfl, rfl, rfl, rfl, trivial⟩ (by simp [V.under, seSl, o3])⟩
          | false =>
            have hF : F1 = F0 ++ [⟨2, seatAt k⟩] := by
              rw [hstep, faultsAt, if_pos hA, if_pos hN, if_neg (by rw [hT]; exact Bool.noConfusion)]
              simp only [List.append_assoc, List.nil_append, List.append_nil, List.cons_append]
            simp (disch := first | omega | (simp only [List.length_cons, List.length_nil, List.length_map, List.length_drop]; omega)) only [hadd, seSl, hlt, hkl, if_true, hk1, et, wrap_i64, decide_true, decide_false, List.length_map, List.length_take, List.take_succ_cons, List.take_zero, hob0, b1, b2, b3, hL, q1, q2, List.length_cons, List.length_nil, evSt, ↓evPre, ↓evPreW, evPost, evPostW, ← List.map_take, ← List.map_drop, ↓reduceIte, reduceCtorEq, Nat.reduceEqDiff, forall_const, implies_true, Nat.reduceAdd, Nat.reduceSub, Nat.reduceMul, Nat.reduceLT, Nat.reduceLeDiff, Int.reduceToNat, Int.reduceAdd, Int.reduceSub, Int.reduceNeg, Int.reduceMul, Int.reduceLT, Int.reduceLE, Int.reduceEq]
            refine mid_app (f := ⟨2, seatAt k⟩) mid (by (try simp only [List.length_append, List.length_cons, List.length_nil]); omega) fun c1 U1 g1 => ?_
            have hob1 := g1.obj
            rw [seaR] at hob1
            simp (disch := first | omega | (simp only [List.length_cons, List.length_nil, List.length_map, List.length_drop]; omega)) only [hadd, seSl, hlt, hkl, if_true, hk1, et, wrap_i64, decide_true, decide_false, List.length_map, List.length_take, List.take_succ_cons, List.take_zero, hob1, b1, b2, b3, hL, q1, q2, List.length_cons, List.length_nil, evSt, ↓evPre, ↓evPreW, evPost, evPostW, ← List.map_take, ← List.map_drop, ↓reduceIte, reduceCtorEq, Nat.reduceEqDiff, forall_const, implies_true, Nat.reduceAdd, Nat.reduceSub, Nat.reduceMul, Nat.reduceLT, Nat.reduceLeDiff, Int.reduceToNat, Int.reduceAdd, Int.reduceSub, Int.reduceNeg, Int.reduceMul, Int.reduceLT, Int.reduceLE, Int.reduceEq]
            refine (anySame_A (l.take k) s pid _ htl g1.obj).then ?_
            simp (disch := first | omega | (simp only [List.length_cons, List.length_nil, List.length_map, List.length_drop]; omega)) only [hadd, seSl, hlt, hkl, if_true, hk1, et, wrap_i64, decide_true, decide_false, List.length_map, List.length_take, List.take_succ_cons, List.take_zero, hT, hob1, b1, b2, b3, hL, q1, q2, List.length_cons, List.length_nil, evSt, ↓evPre, ↓evPreW, evPost, evPostW, ← List.map_take, ← List.map_drop, ↓reduceIte, reduceCtorEq, Nat.reduceEqDiff, forall_const, implies_true, Nat.reduceAdd, Nat.reduceSub, Nat.reduceMul, Nat.reduceLT, Nat.reduceLeDiff, Int.reduceToNat, Int.reduceAdd, Int.reduceSub, Int.reduceNeg, Int.reduceMul, Int.reduceLT, Int.reduceLE, Int.reduceEq]
            rw [← hF] at g1
            obtain ⟨T2, o1, o2, o3⟩ := fin _ _ g1
            exact ⟨(k + 1, _, T2), ⟨by simp only; omega, by rw [hF1]; exact o1⟩, by simp only; omega, back_under o2 ⟨rfl, rfl, rfl, rfl, rfl, trivial⟩ (by simp [V.under, seSl, o3])⟩
    by_cases b4 : 15 < s.has
    · have hA : argBad s := by unfold argBad; omega
      cases hL : s.letter with
      | nil =>
        have hN : ¬ nameGood s.letter := by rw [hL]; exact nameGood_nil
        cases hT : (l.take k).any (sameS s) with
        | true =>
          have hF : F1 = F0 ++ [⟨2, seatAt k⟩] ++ [⟨5, seatAt k⟩] ++ [⟨6, seatAt k⟩] := by
            rw [hstep, faultsAt, if_pos hA, if_neg hN, if_pos hT]
            simp only [List.append_assoc, List.nil_append, List.append_nil, List.cons_append]
          simp (disch := first | omega | (simp only [List.length_cons, List.length_nil, List.length_map, List.length_drop]; omega)) only [hadd, seSl, hlt, hkl, if_true, hk1, et, wrap_i64, decide_true, decide_false, List.length_map, List.length_take, List.take_succ_cons, List.take_zero, hob0, b1, b2, b3, b4, hL, List.length_nil, evSt, ↓evPre, ↓evPreW, evPost, evPostW, ← List.map_take, ← List.map_drop, ↓reduceIte, reduceCtorEq, Nat.reduceEqDiff, forall_const, implies_true, Nat.reduceAdd, Nat.reduceSub, Nat.reduceMul, Nat.reduceLT, Nat.reduceLeDiff, Int.reduceToNat, Int.reduceAdd, Int.reduceSub, Int.reduceNeg, Int.reduceMul, Int.reduceLT, Int.reduceLE, Int.reduceEq]
          refine mid_app (f := ⟨2, seatAt k⟩) mid (by (try simp only [List.length_append, List.length_cons, List.length_nil]); omega) fun c1 U1 g1 => ?_
          have hob1 := g1.obj
          rw [seaR] at hob1
          simp (disch := first | omega | (simp only [List.length_cons, List.length_nil, List.length_map, List.length_drop]; omega)) only [hadd, seSl, hlt, hkl, if_true, hk1, et, wrap_i64, decide_true, decide_false, List.length_map, List.length_take, List.take_succ_cons, List.take_zero, hob1, b1, b2, b3, b4, hL, List.length_nil, evSt, ↓evPre, ↓evPreW, evPost, evPostW, ← List.map_take, ← List.map_drop, ↓reduceIte, reduceCtorEq, Nat.reduceEqDiff, forall_const, implies_true, Nat.reduceAdd, Nat.reduceSub, Nat.reduceMul, Nat.reduceLT, Nat.reduceLeDiff, Int.reduceToNat, Int.reduceAdd, Int.reduceSub, Int.reduceNeg, Int.reduceMul, Int.reduceLT, Int.reduceLE, Int.reduceEq]
          refine mid_app (f := ⟨5, seatAt k⟩) g1 (by (try simp only [List.length_append, List.length_cons, List.length_nil]); omega) fun c2 U2 g2 => ?_
          have hob2 := g2.obj
          rw [seaR] at hob2
          simp (disch := first | omega | (simp only [List.length_cons, List.length_nil, List.length_map, List.length_drop]; omega)) only [hadd, seSl, hlt, hkl, if_true, hk1, et, wrap_i64, decide_true, decide_false, List.length_map, List.length_take, List.take_succ_cons, List.take_zero, hob2, b1, b2, b3, b4, hL, List.length_nil, evSt, ↓evPre, ↓evPreW, evPost, evPostW, ← List.map_take, ← List.map_drop, ↓reduceIte, reduceCtorEq, Nat.reduceEqDiff, forall_const, implies_true, Nat.reduceAdd, Nat.reduceSub, Nat.reduceMul, Nat.reduceLT, Nat.reduceLeDiff, Int.reduceToNat, Int.reduceAdd, Int.reduceSub, Int.reduceNeg, Int.reduceMul, Int.reduceLT, Int.reduceLE, Int.reduceEq]
          refine (anySame_A (l.take k) s pid _ htl g2.obj).then ?_
          simp (disch := first | omega | (simp only [List.length_cons, List.length_nil, List.length_map, List.length_drop]; omega)) only [hadd, seSl, hlt, hkl, if_true, hk1, et, wrap_i64, decide_true, decide_false, List.length_map, List.length_take, List.take_succ_cons, List.take_zero, hT, hob2, b1, b2, b3, b4, hL, List.length_nil, evSt, ↓evPre, ↓evPreW, evPost, evPostW, ← List.map_take, ← List.map_drop, ↓reduceIte, reduceCtorEq, Nat.reduceEqDiff, forall_const, implies_true, Nat.reduceAdd, Nat.reduceSub, Nat.reduceMul, Nat.reduceLT, Nat.reduceLeDiff, Int.reduceToNat, Int.reduceAdd, Int.reduceSub, Int.reduceNeg, Int.reduceMul, Int.reduceLT, Int.reduceLE, Int.reduceEq]
          refine mid_app (f := ⟨6, seatAt k⟩) g2 (by (try simp only [List.length_append, List.length_cons, List.length_nil]); omega) fun c9 U9 g9 => ?_
          simp (disch := first | omega | (simp only [List.length_cons, List.length_nil, List.length_map, List.length_drop]; omega)) only [hadd, seSl, hlt, hkl, if_true, hk1, et, wrap_i64, decide_true, decide_false, List.length_map, List.length_take, List.take_succ_cons, List.take_zero, evSt, ↓evPre, ↓evPreW, evPost, evPostW, ← List.map_take, ← List.map_drop, ↓reduceIte, reduceCtorEq, Nat.reduceEqDiff, forall_const, implies_true, Nat.reduceAdd, Nat.reduceSub, Nat.reduceMul, Nat.reduceLT, Nat.reduceLeDiff, Int.reduceToNat, Int.reduceAdd, Int.reduceSub, Int.reduceNeg, Int.reduceMul, Int.reduceLT, Int.reduceLE, Int.reduceEq]
          rw [← hF] at g9
          obtain ⟨T2, o1, o2, o3⟩ := fin _ _ g9
          exact ⟨(k + 1, _, T2), ⟨by simp only; omega, by rw [hF1]; exact o1⟩, by simp only; omega, back_under o2 ⟨rfl, rfl, rfl, rfl, rfl, trivial⟩ (by simp [V.under, seSl, o3])⟩
        | false =>
          have hF : F1 = F0 ++ [⟨2, seatAt k⟩] ++ [⟨5, seatAt k⟩] := by
            rw [hstep, faultsAt, if_pos hA, if_neg hN, if_neg (by rw [hT]; exact Bool.noConfusion)]
            simp only [List.append_assoc, List.nil_append, List.append_nil, List.cons_append]
          simp (disch := first | omega | (simp only [List.length_cons, List.length_nil, List.length_map, List.length_drop]; omega)) only [hadd, seSl, hlt, hkl, if_true, hk1, et, wrap_i64, decide_true, decide_false, List.length_map, List.length_take, List.take_succ_cons, List.take_zero, hob0, b1, b2, b3, b4, hL, List.length_nil, evSt, ↓evPre, ↓evPreW, evPost, evPostW, ← List.map_take, ← List.map_drop, ↓reduceIte, reduceCtorEq, Nat.reduceEqDiff, forall_const, implies_true, Nat.reduceAdd, Nat.reduceSub, Nat.reduceMul, Nat.reduceLT, Nat.reduceLeDiff, Int.reduceToNat, Int.reduceAdd, Int.reduceSub, Int.reduceNeg, Int.reduceMul, Int.reduceLT, Int.reduceLE, Int.reduceEq]
          refine mid_app (f := ⟨2, seatAt k⟩) mid (by (try simp only [List.length_append, List.length_cons, List.length_nil]); omega) fun c1 U1 g1 => ?_
          have hob1 := g1.obj
          rw [seaR] at hob1
          simp (disch := first | omega | (simp only [List.length_cons, List.length_nil, List.length_map, List.length_drop]; omega)) only [hadd, seSl, hlt, hkl, if_true, hk1, et, wrap_i64, decide_true, decide_false, List.length_map, List.length_take, List.take_succ_cons, List.take_zero, hob1, b1, b2, b3, b4, hL, List.length_nil, evSt, ↓evPre, ↓evPreW, evPost, evPostW, ← List.map_take, ← List.map_drop, ↓reduceIte, reduceCtorEq, Nat.reduceEqDiff, forall_const, implies_true, Nat.reduceAdd, Nat.reduceSub, Nat.reduceMul, Nat.reduceLT, Nat.reduceLeDiff, Int.reduceToNat, Int.reduceAdd, Int.reduceSub, Int.reduceNeg, Int.reduceMul, Int.reduceLT, Int.reduceLE, Int.reduceEq]
          refine mid_app (f := ⟨5, seatAt k⟩) g1 (by (try simp only [List.length_append, List.length_cons, List.length_nil]); omega) fun c2 U2 g2 => ?_
          have hob2 := g2.obj
          rw [seaR] at hob2
          simp (disch := first | omega | (simp only [List.length_cons, List.length_nil, List.length_map, List.length_drop]; omega)) only [hadd, seSl, hlt, hkl, if_true, hk1, et, wrap_i64, decide_true, decide_false, List.length_map, List.length_take, List.take_succ_cons, List.take_zero, hob2, b1, b2, b3, b4, hL, List.length_nil, evSt, ↓evPre, ↓evPreW, evPost, evPostW, ← List.map_take, ← List.map_drop, ↓reduceIte, reduceCtorEq, Nat.reduceEqDiff, forall_const, implies_true, Nat.reduceAdd, Nat.reduceSub, Nat.reduceMul, Nat.reduceLT, Nat.reduceLeDiff, Int.reduceToNat, Int.reduceAdd, Int.reduceSub, Int.reduceNeg, Int.reduceMul, Int.reduceLT, Int.reduceLE, Int.reduceEq]
          refine (anySame_A (l.take k) s pid _ htl g2.obj).then ?_
          simp (disch := first | omega | (simp only [List.length_cons, List.length_nil, List.length_map, List.length_drop]; omega)) only [hadd, seSl, hlt, hkl, if_true, hk1, et, wrap_i64, decide_true, decide_false, List.length_map, List.length_take, List.take_succ_cons, List.take_zero, hT, hob2, b1, b2, b3, b4, hL, List.length_nil, evSt, ↓evPre, ↓evPreW, evPost, evPostW, ← List.map_take, ← List.map_drop, ↓reduceIte, reduceCtorEq, Nat.reduceEqDiff, forall_const, implies_true, Nat.reduceAdd, Nat.reduceSub, Nat.reduceMul, Nat.reduceLT, Nat.reduceLeDiff, Int.reduceToNat, Int.reduceAdd, Int.reduceSub, Int.reduceNeg, Int.reduceMul, Int.reduceLT, Int.reduceLE, Int.reduceEq]
          rw [← hF] at g2
          obtain ⟨T2, o1, o2, o3⟩ := fin _ _ g2
          exact ⟨(k + 1, _, T2), ⟨by simp only; omega, by rw [hF1]; exact o1⟩, by simp only; omega, back_under o2 ⟨rfl, rfl, rfl, rfl, rfl, trivial⟩ (by simp [V.under, seSl, o3])⟩
      | cons c r =>
        cases r with
        | cons d r2 =>
          have hN : ¬ nameGood s.letter := by rw [hL]; exact nameGood_two
          have q1 : ¬ ((r2.length + 1 + 1 : Nat) : Int) = 1 := by omega
          cases hT : (l.take k).any (sameS s) with
          | true =>
            have hF : F1 = F0 ++ [⟨2, seatAt k⟩] ++ [⟨5, seatAt k⟩] ++ [⟨6, seatAt k⟩] := by
              rw [hstep, faultsAt, if_pos hA, if_neg hN, if_pos hT]
              simp only [List.append_assoc, List.nil_append, List.append_nil, List.cons_append]
            simp (disch := first | omega | (simp only [List.length_cons, List.length_nil, List.length_map, List.length_drop]; omega)) only [hadd, seSl, hlt, hkl, if_true, hk1, et, wrap_i64, decide_true, decide_false, List.length_map, List.length_take, List.take_succ_cons, List.take_zero, hob0, b1, b2, b3, b4, hL, q1, List.length_cons, List.length_nil, evSt, ↓evPre, ↓evPreW, evPost, evPostW, ← List.map_take, ← List.map_drop, ↓reduceIte, reduceCtorEq, Nat.reduceEqDiff, forall_const, implies_true, Nat.reduceAdd, Nat.reduceSub, Nat.reduceMul, Nat.reduceLT, Nat.reduceLeDiff, Int.reduceToNat, Int.reduceAdd, Int.reduceSub, Int.reduceNeg, Int.reduceMul, Int.reduceLT, Int.reduceLE, Int.reduceEq]
            refine mid_app (f := ⟨2, seatAt k⟩) mid (by (try simp only [List.length_append, List.length_cons, List.length_nil]); omega) fun c1 U1 g1 => ?_
            have hob1 := g1.obj
            rw [seaR] at hob1
            simp (disch := first | omega | (simp only [List.length_cons, List.length_nil, List.length_map, List.length_drop]; omega)) only [hadd, seSl, hlt, hkl, if_true, hk1, et, wrap_i64, decide_true, decide_false, List.length_map, List.length_take, List.take_succ_cons, List.take_zero, hob1, b1, b2, b3, b4, hL, q1, List.length_cons, List.length_nil, evSt, ↓evPre, ↓evPreW, evPost, evPostW, ← List.map_take, ← List.map_drop, ↓reduceIte, reduceCtorEq, Nat.reduceEqDiff, forall_const, implies_true, Nat.reduceAdd, Nat.reduceSub, Nat.reduceMul, Nat.reduceLT, Nat.reduceLeDiff, Int.reduceToNat, Int.reduceAdd, Int.reduceSub, Int.reduceNeg, Int.reduceMul, Int.reduceLT, Int.reduceLE, Int.reduceEq]
            refine mid_app (f := ⟨5, seatAt k⟩) g1 (by (try simp only [List.length_append, List.length_cons, List.length_nil]); omega) fun c2 U2 g2 => ?_
            have hob2 := g2.obj
            rw [seaR] at hob2
            simp (disch := first | omega | (simp only [List.length_cons, List.length_nil, List.length_map, List.length_drop]; omega)) only [hadd, seSl, hlt, hkl, if_true, hk1, et, wrap_i64, decide_true, decide_false, List.length_map, List.length_take, List.take_succ_cons, List.take_zero, hob2, b1, b2, b3, b4, hL, q1, List.length_cons, List.length_nil, evSt, ↓evPre, ↓evPreW, evPost, evPostW, ← List.map_take, ← List.map_drop, ↓reduceIte, reduceCtorEq, Nat.reduceEqDiff, forall_const, implies_true, Nat.reduceAdd, Nat.reduceSub, Nat.reduceMul, Nat.reduceLT, Nat.reduceLeDiff, Int.reduceToNat, Int.reduceAdd, Int.reduceSub, Int.reduceNeg, Int.reduceMul, Int.reduceLT, Int.reduceLE, Int.reduceEq]
            refine (anySame_A (l.take k) s pid _ htl g2.obj).then ?_
            simp (disch := first | omega | (simp only [List.length_cons, List.length_nil, List.length_map, List.length_drop]; omega)) only [hadd, seSl, hlt, hkl, if_true, hk1, et, wrap_i64, decide_true, decide_false, List.length_map, List.length_take, List.take_succ_cons, List.take_zero, hT, hob2, b1, b2, b3, b4, hL, q1, List.length_cons, List.length_nil, evSt, ↓evPre, ↓evPreW, evPost, evPostW, ← List.map_take, ← List.map_drop, ↓reduceIte, reduceCtorEq, Nat.reduceEqDiff, forall_const, implies_true, Nat.reduceAdd, Nat.reduceSub, Nat.reduceMul, Nat.reduceLT, Nat.reduceLeDiff, Int.reduceToNat, Int.reduceAdd, Int.reduceSub, Int.reduceNeg, Int.reduceMul, Int.reduceLT, Int.reduceLE, Int.reduceEq]
            refine mid_app (f := ⟨6, seatAt k⟩) g2 (by (try simp only [List.length_append, List.length_cons, List.length_nil]); omega) fun c9 U9 g9 => ?_
            simp (disch := first | omega | (simp only [List.length_cons, List.length_nil, List.length_map, List.length_drop]; omega)) only [hadd, seSl, hlt, hkl, if_true, hk1, et, wrap_i64, decide_true, decide_false, List.length_map, List.length_take, List.take_succ_cons, List.take_zero, evSt, ↓evPre, ↓evPreW, evPost, evPostW, ← List.map_take, ← List.map_drop, ↓reduceIte, reduceCtorEq, Nat.reduceEqDiff, forall_const, implies_true, Nat.reduceAdd, Nat.reduceSub, Nat.reduceMul, Nat.reduceLT, Nat.reduceLeDiff, Int.reduceToNat, Int.reduceAdd, Int.reduceSub, Int.reduceNeg, Int.reduceMul, Int.reduceLT, Int.reduceLE, Int.reduceEq]
            rw [← hF] at g9
            obtain ⟨T2, o1, o2, o3⟩ := fin _ _ g9
            exact ⟨(k + 1, _, T2), ⟨by simp only; omega, by rw [hF1]; exact o1⟩, by simp only; omega, back_under o2 ⟨rfl, rfl, rfl, rfl, rfl, trivial⟩ (by simp [V.under, seSl, o3])⟩
          | false =>
            have hF : F1 = F0 ++ [⟨2, seatAt k⟩] ++ [⟨5, seatAt k⟩] := by
              rw [hstep, faultsAt, if_pos hA, if_neg hN, if_neg (by rw [hT]; exact Bool.noConfusion)]
              simp only [List.append_assoc, List.nil_append, List.append_nil, List.cons_append]
            simp (disch := first | omega | (simp only [List.length_cons, List.length_nil, List.length_map, List.length_drop]; omega)) only [hadd, seSl, hlt, hkl, if_true, hk1, et, wrap_i64, decide_true, decide_false, List.length_map, List.length_take, List.take_succ_cons, List.take_zero, hob0, b1, b2, b3, b4, hL, q1, List.length_cons, List.length_nil, evSt, ↓evPre, ↓evPreW, evPost, evPostW, ← List.map_take, ← List.map_drop, ↓reduceIte, reduceCtorEq, Nat.reduceEqDiff, forall_const, implies_true, Nat.reduceAdd, Nat.reduceSub, Nat.reduceMul, Nat.reduceLT, Nat.reduceLeDiff, Int.reduceToNat, Int.reduceAdd, Int.reduceSub, Int.reduceNeg, Int.reduceMul, Int.reduceLT, Int.reduceLE, Int.reduceEq]
            refine mid_app (f := ⟨2, seatAt k⟩) mid (by (try simp only [List.length_append, List.length_cons, List.length_nil]); omega) fun c1 U1 g1 => ?_
            have hob1 := g1.obj
            rw [seaR] at hob1
            simp (disch := first | omega | (simp only [List.length_cons, List.length_nil, List.length_map, List.length_drop]; omega)) only [hadd, seSl, hlt, hkl, if_true, hk1, et, wrap_i64, decide_true, decide_false, List.length_map, List.length_take, List.take_succ_cons, List.take_zero, hob1, b1, b2, b3, b4, hL, q1, List.length_cons, List.length_nil, evSt, ↓evPre, ↓evPreW, evPost, evPostW, ← List.map_take, ← List.map_drop, ↓reduceIte, reduceCtorEq, Nat.reduceEqDiff, forall_const, implies_true, Nat.reduceAdd, Nat.reduceSub, Nat.reduceMul, Nat.reduceLT, Nat.reduceLeDiff, Int.reduceToNat, Int.reduceAdd, Int.reduceSub, Int.reduceNeg, Int.reduceMul, Int.reduceLT, Int.reduceLE, Int.reduceEq]
            refine mid_app (f := ⟨5, seatAt k⟩) g1 (by (try simp only [List.length_append, List.length_cons, List.length_nil]); omega) fun c2 U2 g2 => ?_
            have hob2 := g2.obj
            rw [seaR] at hob2
            simp (disch := first | omega | (simp only [List.length_cons, List.length_nil, List.length_map, List.length_drop]; omega)) only [hadd, seSl, hlt, hkl, if_true, hk1, et, wrap_i64, decide_true, decide_false, List.length_map, List.length_take, List.take_succ_cons, List.take_zero, hob2, b1, b2, b3, b4, hL, q1, List.length_cons, List.length_nil, evSt, ↓evPre, ↓evPreW, evPost, evPostW, ← List.map_take, ← List.map_drop, ↓reduceIte, reduceCtorEq, Nat.reduceEqDiff, forall_const, implies_true, Nat.reduceAdd, Nat.reduceSub, Nat.reduceMul, Nat.reduceLT, Nat.reduceLeDiff, Int.reduceToNat, Int.reduceAdd, Int.reduceSub, Int.reduceNeg, Int.reduceMul, Int.reduceLT, Int.reduceLE, Int.reduceEq]
            refine (anySame_A (l.take k) s pid _ htl g2.obj).then ?_
            simp (disch := first | omega | (simp only [List.length_cons, List.length_nil, List.length_map, List.length_drop]; omega)) only [hadd, seSl, hlt, hkl, if_true, hk1, et, wrap_i64, decide_true, decide_false, List.length_map, List.length_take, List.take_succ_cons, List.take_zero, hT, hob2, b1, b2, b3, b4, hL, q1, List.length_cons, List.length_nil, evSt, ↓evPre, ↓evPreW, evPost, evPostW, ← List.map_take, ← List.map_drop, ↓reduceIte, reduceCtorEq, Nat.reduceEqDiff, forall_const, implies_true, Nat.reduceAdd, Nat.reduceSub, Nat.reduceMul, Nat.reduceLT, Nat.reduceLeDiff, Int.reduceToNat, Int.reduceAdd, Int.reduceSub, Int.reduceNeg, Int.reduceMul, Int.reduceLT, Int.reduceLE, Int.reduceEq]
            rw [← hF] at g2
            obtain ⟨T2, o1, o2, o3⟩ := fin _ _ g2
            exact ⟨(k + 1, _, T2), ⟨by simp only; omega, by rw [hF1]; exact o1⟩, by simp only; omega, back_under o2 ⟨rfl, rfl, rfl, rfl, rfl, trivial⟩ (by simp [V.under, seSl, o3])⟩
        | nil =>
          by_cases q1 : (c.toNat : Int) < 65
          · have hN : ¬ nameGood s.letter := by rw [hL, nameGood_one]; omega
            cases hT : (l.take k).any (sameS s) with
            | true =>
              have hF : F1 = F0 ++ [⟨2, seatAt k⟩] ++ [⟨5, seatAt k⟩] ++ [⟨6, seatAt k⟩] := by
                rw [hstep, faultsAt, if_pos hA, if_neg hN, if_pos hT]
                simp only [List.append_assoc, List.nil_append, List.append_nil, List.cons_append]
              simp (disch := first | omega | (simp only [List.length_cons, List.length_nil, List.length_map, List.length_drop]; omega)) only [hadd, seSl, hlt, hkl, if_true, hk1, et, wrap_i64, decide_true, decide_false, List.length_map, List.length_take, List.take_succ_cons, List.take_zero, hob0, b1, b2, b3, b4, hL, q1, List.length_cons, List.length_nil, evSt, ↓evPre, ↓evPreW, evPost, evPostW, ← List.map_take, ← List.map_drop, ↓reduceIte, reduceCtorEq, Nat.reduceEqDiff, forall_const, implies_true, Nat.reduceAdd, Nat.reduceSub, Nat.reduceMul, Nat.reduceLT, Nat.reduceLeDiff, Int.reduceToNat, Int.reduceAdd, Int.reduceSub, Int.reduceNeg, Int.reduceMul, Int.reduceLT, Int.reduceLE, Int.reduceEq]
              refine mid_app (f := ⟨2, seatAt k⟩) mid (by (try simp only [List.length_append, List.length_cons, List.length_nil]); omega) fun c1 U1 g1 => ?_
              have hob1 := g1.obj
              rw [seaR] at hob1
              simp (disch := first | omega | (simp only [List.length_cons, List.length_nil, List.length_map, List.length_drop]; omega)) only [hadd, seSl, hlt, hkl, if_true, hk1, et, wrap_i64, decide_true, decide_false, List.length_map, List.length_take, List.take_succ_cons, List.take_zero, hob1, b1, b2, b3, b4, hL, q1, List.length_cons, List.length_nil, evSt, ↓evPre, ↓evPreW, evPost, evPostW, ← List.map_take, ← List.map_drop, ↓reduceIte, reduceCtorEq, Nat.reduceEqDiff, forall_const, implies_true, Nat.reduceAdd, Nat.reduceSub, Nat.reduceMul, Nat.reduceLT, Nat.reduceLeDiff, Int.reduceToNat, Int.reduceAdd, Int.reduceSub, Int.reduceNeg, Int.reduceMul, Int.reduceLT, Int.reduceLE, Int.reduceEq]
              refine mid_app (f := ⟨5, seatAt k⟩) g1 (by (try simp only [List.length_append, List.length_cons, List.length_nil]); omega) fun c2 U2 g2 => ?_
              have hob2 := g2.obj
              rw [seaR] at hob2
              simp (disch := first | omega | (simp only [List.length_cons, List.length_nil, List.length_map, List.length_drop]; omega)) only [hadd, seSl, hlt, hkl, if_true, hk1, et, wrap_i64, decide_true, decide_false, List.length_map, List.length_take, List.take_succ_cons, List.take_zero, hob2, b1, b2, b3, b4, hL, q1, List.length_cons, List.length_nil, evSt, ↓evPre, ↓evPreW, evPost, evPostW, ← List.map_take, ← List.map_drop, ↓reduceIte, reduceCtorEq, Nat.reduceEqDiff, forall_const, implies_true, Nat.reduceAdd, Nat.reduceSub, Nat.reduceMul, Nat.reduceLT, Nat.reduceLeDiff, Int.reduceToNat, Int.reduceAdd, Int.reduceSub, Int.reduceNeg, Int.reduceMul, Int.reduceLT, Int.reduceLE, Int.reduceEq]
              refine (anySame_A (l.take k) s pid _ htl g2.obj).then ?_
              simp (disch := first | omega | (simp only [List.length_cons, List.length_nil, List.length_map, List.length_drop]; omega)) only [hadd, seSl, hlt, hkl, if_true, hk1, et, wrap_i64, decide_true, decide_false, List.length_map, List.length_take, List.take_succ_cons, List.take_zero, hT, hob2, b1, b2, b3, b4, hL, q1, List.length_cons, List.length_nil, evSt, ↓evPre, ↓evPreW, evPost, evPostW, ← List.map_take, ← List.map_drop, ↓reduceIte, reduceCtorEq, Nat.reduceEqDiff, forall_const, implies_true, Nat.reduceAdd, Nat.reduceSub, Nat.reduceMul, Nat.reduceLT, Nat.reduceLeDiff, Int.reduceToNat, Int.reduceAdd, Int.reduceSub, Int.reduceNeg, Int.reduceMul, Int.reduceLT, Int.reduceLE, Int.reduceEq]
              refine mid_app (f := ⟨6, seatAt k⟩) g2 (by (try simp only [List.length_append, List.length_cons, List.length_nil]); omega) fun c9 U9 g9 => ?_
              simp (disch := first | omega | (simp only [List.length_cons, List.length_nil, List.length_map, List.length_drop]; omega)) only [hadd, seSl, hlt, hkl, if_true, hk1, et, wrap_i64, decide_true, decide_false, List.length_map, List.length_take, List.take_succ_cons, List.take_zero, evSt, ↓evPre, ↓evPreW, evPost, evPostW, ← List.map_take, ← List.map_drop, ↓reduceIte, reduceCtorEq, Nat.reduceEqDiff, forall_const, implies_true, Nat.reduceAdd, Nat.reduceSub, Nat.reduceMul, Nat.reduceLT, Nat.reduceLeDiff, Int.reduceToNat, Int.reduceAdd, Int.reduceSub, Int.reduceNeg, Int.reduceMul, Int.reduceLT, Int.reduceLE, Int.reduceEq]
              rw [← hF] at g9
              obtain ⟨T2, o1, o2, o3⟩ := fin _ _ g9
              exact ⟨(k + 1, _, T2), ⟨by simp only; omega, by rw [hF1]; exact o1⟩, by simp only; omega, back_under o2 ⟨rfl, rfl, rfl, rfl, rfl, trivial⟩ (by simp [V.under, seSl, o3])⟩
            | false =>
              have hF : F1 = F0 ++ [⟨2, seatAt k⟩] ++ [⟨5, seatAt k⟩] := by
                rw [hstep, faultsAt, if_pos hA, if_neg hN, if_neg (by rw [hT]; exact Bool.noConfusion)]
                simp only [List.append_assoc, List.nil_append, List.append_nil, List.cons_append]
              simp (disch := first | omega | (simp only [List.length_cons, List.length_nil, List.length_map, List.length_drop]; omega)) only [hadd, seSl, hlt, hkl, if_true, hk1, et, wrap_i64, decide_true, decide_false, List.length_map, List.length_take, List.take_succ_cons, List.take_zero, hob0, b1, b2, b3, b4, hL, q1, List.length_cons, List.length_nil, evSt, ↓evPre, ↓evPreW, evPost, evPostW, ← List.map_take, ← List.map_drop, ↓reduceIte, reduceCtorEq, Nat.reduceEqDiff, forall_const, implies_true, Nat.reduceAdd, Nat.reduceSub, Nat.reduceMul, Nat.reduceLT, Nat.reduceLeDiff, Int.reduceToNat, Int.reduceAdd, Int.reduceSub, Int.reduceNeg, Int.reduceMul, Int.reduceLT, Int.reduceLE, Int.reduceEq]
              refine mid_app (f := ⟨2, seatAt k⟩) mid (by (try simp only [List.length_append, List.length_cons, List.length_nil]); omega) fun c1 U1 g1 => ?_
              have hob1 := g1.obj
              rw [seaR] at hob1
              simp (disch := first | omega | (simp only [List.length_cons, List.length_nil, List.length_map, List.length_drop]; omega)) only [hadd, seSl, hlt, hkl, if_true, hk1, et, wrap_i64, decide_true, decide_false, List.length_map, List.length_take, List.take_succ_cons, List.take_zero, hob1, b1, b2, b3, b4, hL, q1, List.length_cons, List.length_nil, evSt, ↓evPre, ↓evPreW, evPost, evPostW, ← List.map_take, ← List.map_drop, ↓reduceIte, reduceCtorEq, Nat.reduceEqDiff, forall_const, implies_true, Nat.reduceAdd, Nat.reduceSub, Nat.reduceMul, Nat.reduceLT, Nat.reduceLeDiff, Int.reduceToNat, Int.reduceAdd, Int.reduceSub, Int.reduceNeg, Int.reduceMul, Int.reduceLT, Int.reduceLE, Int.reduceEq]
              refine mid_app (f := ⟨5, seatAt k⟩) g1 (by (try simp only [List.length_append, List.length_cons, List.length_nil]); omega) fun c2 U2 g2 => ?_
              have hob2 := g2.obj
              rw [seaR] at hob2
              simp (disch := first | omega | (simp only [List.length_cons, List.length_nil, List.length_map, List.length_drop]; omega)) only [hadd, seSl, hlt, hkl, if_true, hk1, et, wrap_i64, decide_true, decide_false, List.length_map, List.length_take, List.take_succ_cons, List.take_zero, hob2, b1, b2, b3, b4, hL, q1, List.length_cons, List.length_nil, evSt, ↓evPre, ↓evPreW, evPost, evPostW, ← List.map_take, ← List.map_drop, ↓reduceIte, reduceCtorEq, Nat.reduceEqDiff, forall_const, implies_true, Nat.reduceAdd, Nat.reduceSub, Nat.reduceMul, Nat.reduceLT, Nat.reduceLeDiff, Int.reduceToNat, Int.reduceAdd, Int.reduceSub, Int.reduceNeg, Int.reduceMul, Int.reduceLT, Int.reduceLE, Int.reduceEq]
              refine (anySame_A (l.take k) s pid _ htl g2.obj).then ?_
              simp (disch := first | omega | (simp only [List.length_cons, List.length_nil, List.length_map, List.length_drop]; omega)) only [hadd, seSl, hlt, hkl, if_true, hk1, et, wrap_i64, decide_true, decide_false, List.length_map, List.length_take, List.take_succ_cons, List.take_zero, hT, hob2, b1, b2, b3, b4, hL, q1, List.length_cons, List.length_nil, evSt, ↓evPre, ↓evPreW, evPost, evPostW, ← List.map_take, ← List.map_drop, ↓reduceIte, reduceCtorEq, Nat.reduceEqDiff, forall_const, implies_true, Nat.reduceAdd, Nat.reduceSub, Nat.reduceMul, Nat.reduceLT, Nat.reduceLeDiff, Int.reduceToNat, Int.reduceAdd, Int.reduceSub, Int.reduceNeg, Int.reduceMul, Int.reduceLT, Int.reduceLE, Int.reduceEq]
              rw [← hF] at g2
              obtain ⟨T2, o1, o2, o3⟩ := fin _ _ g2
              exact ⟨(k + 1, _, T2), ⟨by simp only; omega, by rw [hF1]; exact o1⟩, by simp only; omega, back_under o2 ⟨rfl, rfl, rfl, rfl, rfl, trivial⟩ (by simp [V.under, seSl, o3])⟩
          by_cases q2 : (90 : Int) < c.toNat
          · have hN : ¬ nameGood s.letter := by rw [hL, nameGood_one]; omega
            cases hT : (l.take k).any (sameS s) with
            | true =>
              have hF : F1 = F0 ++ [⟨2, seatAt k⟩] ++ [⟨5, seatAt k⟩] ++ [⟨6, seatAt k⟩] := by
                rw [hstep, faultsAt, if_pos hA, if_neg hN, if_pos hT]
                simp only [List.append_assoc, List.nil_append, List.append_nil, List.cons_append]
              simp (disch := first | omega | (simp only [List.length_cons, List.length_nil, List.length_map, List.length_drop]; omega)) only [hadd, seSl, hlt, hkl, if_true, hk1, et, wrap_i64, decide_true, decide_false, List.length_map, List.length_take, List.take_succ_cons, List.take_zero, hob0, b1, b2, b3, b4, hL, q1, q2, List.length_cons, List.length_nil, evSt, ↓evPre, ↓evPreW, evPost, evPostW, ← List.map_take, ← List.map_drop, ↓reduceIte, reduceCtorEq, Nat.reduceEqDiff, forall_const, implies_true, Nat.reduceAdd, Nat.reduceSub, Nat.reduceMul, Nat.reduceLT, Nat.reduceLeDiff, Int.reduceToNat, Int.reduceAdd, Int.reduceSub, Int.reduceNeg, Int.reduceMul, Int.reduceLT, Int.reduceLE, Int.reduceEq]
              refine mid_app (f := ⟨2, seatAt k⟩) mid (by (try simp only [List.length_append, List.length_cons, List.length_nil]); omega) fun c1 U1 g1 => ?_
              have hob1 := g1.obj
              rw [seaR] at hob1
              simp (disch := first | omega | (simp only [List.length_cons, List.length_nil, List.length_map, List.length_drop]; omega)) only [hadd, seSl, hlt, hkl, if_true, hk1, et, wrap_i64, decide_true, decide_false, List.length_map, List.length_take, List.take_succ_cons, List.take_zero, hob1, b1, b2, b3, b4, hL, q1, q2, List.length_cons, List.length_nil, evSt, ↓evPre, ↓evPreW, evPost, evPostW, ← List.map_take, ← List.map_drop, ↓reduceIte, reduceCtorEq, Nat.reduceEqDiff, forall_const, implies_true, Nat.reduceAdd, Nat.reduceSub, Nat.reduceMul, Nat.reduceLT, Nat.reduceLeDiff, Int.reduceToNat, Int.reduceAdd, Int.reduceSub, Int.reduceNeg, Int.reduceMul, Int.reduceLT, Int.reduceLE, Int.reduceEq]
              refine mid_app (f := ⟨5, seatAt k⟩) g1 (by (try simp only [List.length_append, List.length_cons, List.length_nil]); omega) fun c2 U2 g2 => ?_
              have hob2 := g2.obj
              rw [seaR] at hob2
              simp (disch := first | omega | (simp only [List.length_cons, List.length_nil, List.length_map, List.length_drop]; omega)) only [hadd, seSl, hlt, hkl, if_true, hk1, et, wrap_i64, decide_true, decide_false, List.length_map, List.length_take, List.take_succ_cons, List.take_zero, hob2, b1, b2, b3, b4, hL, q1, q2, List.length_cons, List.length_nil, evSt, ↓evPre, ↓evPreW, evPost, evPostW, ← List.map_take, ← List.map_drop, ↓reduceIte, reduceCtorEq, Nat.reduceEqDiff, forall_const, implies_true, Nat.reduceAdd, Nat.reduceSub, Nat.reduceMul, Nat.reduceLT, Nat.reduceLeDiff, Int.reduceToNat, Int.reduceAdd, Int.reduceSub, Int.reduceNeg, Int.reduceMul, Int.reduceLT, Int.reduceLE, Int.reduceEq]
              refine (anySame_A (l.take k) s pid _ htl g2.obj).then ?_
              simp (disch := first | omega | (simp only [List.length_cons, List.length_nil, List.length_map, List.length_drop]; omega)) only [hadd, seSl, hlt, hkl, if_true, hk1, et, wrap_i64, decide_true, decide_false, List.length_map, List.length_take, List.take_succ_cons, List.take_zero, hT, hob2, b1, b2, b3, b4, hL, q1, q2, List.length_cons, List.length_nil, evSt, ↓evPre, ↓evPreW, evPost, evPostW, ← List.map_take, ← List.map_drop, ↓reduceIte, reduceCtorEq, Nat.reduceEqDiff, forall_const, implies_true, Nat.reduceAdd, Nat.reduceSub, Nat.reduceMul, Nat.reduceLT, Nat.reduceLeDiff, Int.reduceToNat, Int.reduceAdd, Int.reduceSub, Int.reduceNeg, Int.reduceMul, Int.reduceLT, Int.reduceLE, Int.reduceEq]
              refine mid_app (f := ⟨6, seatAt k⟩) g2 (by (try simp only [List.length_append, List.length_cons, List.length_nil]); omega) fun c9 U9 g9 => ?_
              simp (disch := first | omega | (simp only [List.length_cons, List.length_nil, List.length_map, List.length_drop]; omega)) only [hadd, seSl, hlt, hkl, if_true, hk1, et, wrap_i64, decide_true, decide_false, List.length_map, List.length_take, List.take_succ_cons, List.take_zero, evSt, ↓evPre, ↓evPreW, evPost, evPostW, ← List.map_take, ← List.map_drop, ↓reduceIte, reduceCtorEq, Nat.reduceEqDiff, forall_const, implies_true, Nat.reduceAdd, Nat.reduceSub, Nat.reduceMul, Nat.reduceLT, Nat.reduceLeDiff, Int.reduceToNat, Int.reduceAdd, Int.reduceSub, Int.reduceNeg, Int.reduceMul, Int.reduceLT, Int.reduceLE, Int.reduceEq]
              rw [← hF] at g9
              obtain ⟨T2, o1, o2, o3⟩ := fin _ _ g9
              exact ⟨(k + 1, _, T2), ⟨by simp only; omega, by rw [hF1]; exact o1⟩, by simp only; omega, back_under o2 ⟨rfl, rfl, rfl, rfl, rfl, trivial⟩ (by simp [V.under, seSl, o3])⟩
            | false =>
              have hF : F1 = F0 ++ [⟨2, seatAt k⟩] ++ [⟨5, seatAt k⟩] := by
                rw [hstep, faultsAt, if_pos hA, if_neg hN, if_neg (by rw [hT]; exact Bool.noConfusion)]
                simp only [List.append_assoc, List.nil_append, List.append_nil, List.cons_append]
              simp (disch := first | omega | (simp only [List.length_cons, List.length_nil, List.length_map, List.length_drop]; omega)) only [hadd, seSl, hlt, hkl, if_true, hk1, et, wrap_i64, decide_true, decide_false, List.length_map, List.length_take, List.take_succ_cons, List.take_zero, hob0, b1, b2, b3, b4, hL, q1, q2, List.length_cons, List.length_nil, evSt, ↓evPre, ↓evPreW, evPost, evPostW, ← List.map_take, ← List.map_drop, ↓reduceIte, reduceCtorEq, Nat.reduceEqDiff, forall_const, implies_true, Nat.reduceAdd, Nat.reduceSub, Nat.reduceMul, Nat.reduceLT, Nat.reduceLeDiff, Int.reduceToNat, Int.reduceAdd, Int.reduceSub, Int.reduceNeg, Int.reduceMul, Int.reduceLT, Int.reduceLE, Int.reduceEq]
              refine mid_app (f := ⟨2, seatAt k⟩) mid (by (try simp only [List.length_append, List.length_cons, List.length_nil]); omega) fun c1 U1 g1 => ?_
              have hob1 := g1.obj
              rw [seaR] at hob1
              simp (disch := first | omega | (simp only [List.length_cons, List.length_nil, List.length_map, List.length_drop]; omega)) only [hadd, seSl, hlt, hkl, if_true, hk1, et, wrap_i64, decide_true, decide_false, List.length_map, List.length_take, List.take_succ_cons, List.take_zero, hob1, b1, b2, b3, b4, hL, q1, q2, List.length_cons, List.length_nil, evSt, ↓evPre, ↓evPreW, evPost, evPostW, ← List.map_take, ← List.map_drop, ↓reduceIte, reduceCtorEq, Nat.reduceEqDiff, forall_const, implies_true, Nat.reduceAdd, Nat.reduceSub, Nat.reduceMul, Nat.reduceLT, Nat.reduceLeDiff, Int.reduceToNat, Int.reduceAdd, Int.reduceSub, Int.reduceNeg, Int.reduceMul, Int.reduceLT, Int.reduceLE, Int.reduceEq]
              refine mid_app (f := ⟨5, seatAt k⟩) g1 (by (try simp only [List.length_append, List.length_cons, List.length_nil]); omega) fun c2 U2 g2 => ?_
              have hob2 := g2.obj
              rw [seaR] at hob2
              simp (disch := first | omega | (simp only [List.length_cons, List.length_nil, List.length_map, List.length_drop]; omega)) only [hadd, seSl, hlt, hkl, if_true, hk1, et, wrap_i64, decide_true, decide_false, List.length_map, List.length_take, List.take_succ_cons, List.take_zero, hob2, b1, b2, b3, b4, hL, q1, q2, List.length_cons, List.length_nil, evSt, ↓evPre, ↓evPreW, evPost, evPostW, ← List.map_take, ← List.map_drop, ↓reduceIte, reduceCtorEq, Nat.reduceEqDiff, forall_const, implies_true, Nat.reduceAdd, Nat.reduceSub, Nat.reduceMul, Nat.reduceLT, Nat.reduceLeDiff, Int.reduceToNat, Int.reduceAdd, Int.reduceSub, Int.reduceNeg, Int.reduceMul, Int.reduceLT, Int.reduceLE, Int.reduceEq]
              refine (anySame_A (l.take k) s pid _ htl g2.obj).then ?_
              simp (disch := first | omega | (simp only [List.length_cons, List.length_nil, List.length_map, List.length_drop]; omega)) only [hadd, seSl, hlt, hkl, if_true, hk1, et, wrap_i64, decide_true, decide_false, List.length_map, List.length_take, List.take_succ_cons, List.take_zero, hT, hob2, b1, b2, b3, b4, hL, q1, q2, List.length_cons, List.length_nil, evSt, ↓evPre, ↓evPreW, evPost, evPostW, ← List.map_take, ← List.map_drop, ↓reduceIte, reduceCtorEq, Nat.reduceEqDiff, forall_const, implies_true, Nat.reduceAdd, Nat.reduceSub, Nat.reduceMul, Nat.reduceLT, Nat.reduceLeDiff, Int.reduceToNat, Int.reduceAdd, Int.reduceSub, Int.reduceNeg, Int.reduceMul, Int.reduceLT, Int.reduceLE, Int.reduceEq]
              rw [← hF] at g2
              obtain ⟨T2, o1, o2, o3⟩ := fin _ _ g2
              exact ⟨(k + 1, _, T2), ⟨by simp only; omega, by rw [hF1]; exact o1⟩, by simp only; omega, back_under o2 ⟨rfl, rfl, rfl, rfl, rfl, trivial⟩ (by simp [V.under, seSl, o3])⟩
          have hN : nameGood s.letter := by rw [hL, nameGood_one]; omega
          cases hT : (l.take k).any (sameS s) with
          | true =>
            have hF : F1 = F0 ++ [⟨2, seatAt k⟩] ++ [⟨6, seatAt k⟩] := by
              rw [hstep, faultsAt, if_pos hA, if_pos hN, if_pos hT]
              simp only [List.append_assoc, List.nil_append, List.append_nil, List.cons_append]
            simp (disch := first | omega | (simp only [List.length_cons, List.length_nil, List.length_map, List.length_drop]; omega)) only [hadd, seSl, hlt, hkl, if_true, hk1, et, wrap_i64, decide_true, decide_false, List.length_map, List.length_take, List.take_succ_cons, List.take_zero, hob0, b1, b2, b3, b4, hL, q1, q2, List.length_cons, List.length_nil, evSt, ↓evPre, ↓evPreW, evPost, evPostW, ← List.map_take, ← List.map_drop, ↓reduceIte, reduceCtorEq, Nat.reduceEqDiff, forall_const, implies_true, Nat.reduceAdd, Nat.reduceSub, Nat.reduceMul, Nat.reduceLT, Nat.reduceLeDiff, Int.reduceToNat, Int.reduceAdd, Int.reduceSub, Int.reduceNeg, Int.reduceMul, Int.reduceLT, Int.reduceLE, Int.reduceEq]
            refine mid_app (f := ⟨2, seatAt k⟩) mid (by (try simp only [List.length_append, List.length_cons, List.length_nil]); omega) fun c1 U1 g1 => ?_
            have hob1 := g1.obj
            rw [seaR] at hob1
            simp (disch := first | omega | (simp only [List.length_cons, List.length_nil, List.length_map, List.length_drop]; omega)) only [hadd, seSl, hlt, hkl, if_true, hk1, et, wrap_i64, decide_true, decide_false, List.length_map, List.length_take, List.take_succ_cons, List.take_zero, hob1, b1, b2, b3, b4, hL, q1, q2, List.length_cons, List.length_nil, evSt, ↓evPre, ↓evPreW, evPost, evPostW, ← List.map_take, ← List.map_drop, ↓reduceIte, reduceCtorEq, Nat.reduceEqDiff, forall_const, implies_true, Nat.reduceAdd, Nat.reduceSub, Nat.reduceMul, Nat.reduceLT, Nat.reduceLeDiff, Int.reduceToNat, Int.reduceAdd, Int.reduceSub, Int.reduceNeg, Int.reduceMul, Int.reduceLT, Int.reduceLE, Int.reduceEq]
            refine (anySame_A (l.take k) s pid _ htl g1.obj).then ?_
            simp (disch := first | omega | (simp only [List.length_cons, List.length_nil, List.length_map, List.length_drop]; omega)) only [hadd, seSl, hlt, hkl, if_true, hk1, et, wrap_i64, decide_true, decide_false, List.length_map, List.length_take, List.take_succ_cons, List.take_zero, hT, hob1, b1, b2, b3, b4, hL, q1, q2, List.length_cons, List.length_nil, evSt, ↓evPre, ↓evPreW, evPost, evPostW, ← List.map_take, ← List.map_drop, ↓reduceIte, reduceCtorEq, Nat.reduceEqDiff, forall_const, implies_true, Nat.reduceAdd, Nat.reduceSub, Nat.reduceMul, Nat.reduceLT, Nat.reduceLeDiff, Int.reduceToNat, Int.reduceAdd, Int.reduceSub, Int.reduceNeg, Int.reduceMul, Int.reduceLT, Int.reduceLE, Int.reduceEq]
            refine mid_app (f := ⟨6, seatAt k⟩) g1 (by (try simp only [List.length_append, List.length_cons, List.length_nil]); omega) fun c9 U9 g9 => ?_
            simp (disch := first | omega | (simp only [List.length_cons, List.length_nil, List.length_map, List.length_drop]; omega)) only [hadd, seSl, hlt, hkl, if_true, hk1, et, wrap_i64, decide_true, decide_false, List.length_map, List.length_take, List.take_succ_cons, List.take_zero, evSt, ↓evPre, ↓evPreW, evPost, evPostW, ← List.map_take, ← List.map_drop, ↓reduceIte, reduceCtorEq, Nat.reduceEqDiff, forall_const, implies_true, Nat.reduceAdd, Nat.reduceSub, Nat.reduceMul, Nat.reduceLT, Nat.reduceLeDiff, Int.reduceToNat, Int.reduceAdd, Int.reduceSub, Int.reduceNeg, Int.reduceMul, Int.reduceLT, Int.reduceLE, Int.reduceEq]
            rw [← hF] at g9
            obtain ⟨T2, o1, o2, o3⟩ := fin _ _ g9
            exact ⟨(k + 1, _, T2), ⟨by simp only; omega, by rw [hF1]; exact o1⟩, by simp only; omega, back_under o2 ⟨rfl, rfl, rfl, rfl, rfl, trivial⟩ (by simp [V.under, seSl, o3])⟩
          | false =>
            have hF : F1 = F0 ++ [⟨2, seatAt k⟩] := by
              rw [hstep, faultsAt, if_pos hA, if_pos hN, if_neg (by rw [hT]; exact Bool.noConfusion)]
              simp only [List.append_assoc, List.nil_append, List.append_nil, List.cons_append]
            simp (disch := first | omega | (simp only [List.length_cons, List.length_nil, List.length_map, List.length_drop]; omega)) only [hadd, seSl, hlt, hkl, if_true, hk1, et, wrap_i64, decide_true, decide_false, List.length_map, List.length_take, List.take_succ_cons, List.take_zero, hob0, b1, b2, b3, b4, hL, q1, q2, List.length_cons, List.length_nil, evSt, ↓evPre, ↓evPreW, evPost, evPostW, ← List.map_take, ← List.map_drop, ↓reduceIte, reduceCtorEq, Nat.reduceEqDiff, forall_const, implies_true, Nat.reduceAdd, Nat.reduceSub, Nat.reduceMul, Nat.reduceLT, Nat.reduceLeDiff, Int.reduceToNat, Int.reduceAdd, Int.reduceSub, Int.reduceNeg, Int.reduceMul, Int.reduceLT, Int.reduceLE, Int.reduceEq]
            refine mid_app (f := ⟨2, seatAt k⟩) mid (by (try simp only [List.length_append, List.length_cons, List.length_nil]); omega) fun c1 U1 g1 => ?_
            have hob1 := g1.obj
            rw [seaR] at hob1
            simp (disch := first | omega | (simp only [List.length_cons, List.length_nil, List.length_map, List.length_drop]; omega)) only [hadd, seSl, hlt, hkl, if_true, hk1, et, wrap_i64, decide_true, decide_false, List.length_map, List.length_take, List.take_succ_cons, List.take_zero, hob1, b1, b2, b3, b4, hL, q1, q2, List.length_cons, List.length_nil, evSt, ↓evPre, ↓evPreW, evPost, evPostW, ← List.map_take, ← List.map_drop, ↓reduceIte, reduceCtorEq, Nat.reduceEqDiff, forall_const, implies_true, Nat.reduceAdd, Nat.reduceSub, Nat.reduceMul, Nat.reduceLT, Nat.reduceLeDiff, Int.reduceToNat, Int.reduceAdd, Int.reduceSub, Int.reduceNeg, Int.reduceMul, Int.reduceLT, Int.reduceLE, Int.reduceEq]
            refine (anySame_A (l.take k) s pid _ htl g1.obj).then ?_
            simp (disch := first | omega | (simp only [List.length_cons, List.length_nil, List.length_map, List.length_drop]; omega)) only [hadd, seSl, hlt, hkl, if_true, hk1, et, wrap_i64, decide_true, decide_false, List.length_map, List.length_take, List.take_succ_cons, List.take_zero, hT, hob1, b1, b2, b3, b4, hL, q1, q2, List.length_cons, List.length_nil, evSt, ↓evPre, ↓evPreW, evPost, evPostW, ← List.map_take, ← List.map_drop, ↓reduceIte, reduceCtorEq, Nat.reduceEqDiff, forall_const, implies_true, Nat.reduceAdd, Nat.reduceSub, Nat.reduceMul, Nat.reduceLT, Nat.reduceLeDiff, Int.reduceToNat, Int.reduceAdd, Int.reduceSub, Int.reduceNeg, Int.reduceMul, Int.reduceLT, Int.reduceLE, Int.reduceEq]
            rw [← hF] at g1
            obtain ⟨T2, o1, o2, o3⟩ := fin _ _ g1
            exact ⟨(k + 1, _, T2), ⟨by simp only; omega, by rw [hF1]; exact o1⟩, by simp only; omega, back_under o2 ⟨rfl, rfl, rfl, rfl, rfl, trivial⟩ (by simp [V.under, seSl, o3])⟩
    have hA : ¬ argBad s := by unfold argBad; omega
    cases hL : s.letter with
    | nil =>
      have hN : ¬ nameGood s.letter := by rw [hL]; exact nameGood_nil
      cases hT : (l.take k).any (sameS s) with
      | true =>
        have hF : F1 = F0 ++ [⟨5, seatAt k⟩] ++ [⟨6, seatAt k⟩] := by
          rw [hstep, faultsAt, if_neg hA, if_neg hN, if_pos hT]
          simp only [List.append_assoc, List.nil_append, List.append_nil, List.cons_append]
        simp (disch := first | omega | (simp only [List.length_cons, List.length_nil, List.length_map, List.length_drop]; omega)) only [hadd, seSl, hlt, hkl, if_true, hk1, et, wrap_i64, decide_true, decide_false, List.length_map, List.length_take, List.take_succ_cons, List.take_zero, hob0, b1, b2, b3, b4, hL, List.length_nil, evSt, ↓evPre, ↓evPreW, evPost, evPostW, ← List.map_take, ← List.map_drop, ↓reduceIte, reduceCtorEq, Nat.reduceEqDiff, forall_const, implies_true, Nat.reduceAdd, Nat.reduceSub, Nat.reduceMul, Nat.reduceLT, Nat.reduceLeDiff, Int.reduceToNat, Int.reduceAdd, Int.reduceSub, Int.reduceNeg, Int.reduceMul, Int.reduceLT, Int.reduceLE, Int.reduceEq]
        refine mid_app (f := ⟨5, seatAt k⟩) mid (by (try simp only [List.length_append, List.length_cons, List.length_nil]); omega) fun c1 U1 g1 => ?_
        have hob1 := g1.obj
        rw [seaR] at hob1
        simp (disch := first | omega | (simp only [List.length_cons, List.length_nil, List.length_map, List.length_drop]; omega)) only [hadd, seSl, hlt, hkl, if_true, hk1, et, wrap_i64, decide_true, decide_false, List.length_map, List.length_take, List.take_succ_cons, List.take_zero, hob1, b1, b2, b3, b4, hL, List.length_nil, evSt, ↓evPre, ↓evPreW, evPost, evPostW, ← List.map_take, ← List.map_drop, ↓reduceIte, reduceCtorEq, Nat.reduceEqDiff, forall_const, implies_true, Nat.reduceAdd, Nat.reduceSub, Nat.reduceMul, Nat.reduceLT, Nat.reduceLeDiff, Int.reduceToNat, Int.reduceAdd, Int.reduceSub, Int.reduceNeg, Int.reduceMul, Int.reduceLT, Int.reduceLE, Int.reduceEq]
        refine (anySame_A (l.take k) s pid _ htl g1.obj).then ?_
        simp (disch := first | omega | (simp only [List.length_cons, List.length_nil, List.length_map, List.length_drop]; omega)) only [hadd, seSl, hlt, hkl, if_true, hk1, et, wrap_i64, decide_true, decide_false, List.length_map, List.length_take, List.take_succ_cons, List.take_zero, hT, hob1, b1, b2, b3, b4, hL, List.length_nil, evSt, ↓evPre, ↓evPreW, evPost, evPostW, ← List.map_take, ← List.map_drop, ↓reduceIte, reduceCtorEq, Nat.reduceEqDiff, forall_const, implies_true, Nat.reduceAdd, Nat.reduceSub, Nat.reduceMul, Nat.reduceLT, Nat.reduceLeDiff, Int.reduceToNat, Int.reduceAdd, Int.reduceSub, Int.reduceNeg, Int.reduceMul, Int.reduceLT, Int.reduceLE, Int.reduceEq]
        refine mid_app (f := ⟨6, seatAt k⟩) g1 (by (try simp only [List.length_append, List.length_cons, List.length_nil]); omega) fun c9 U9 g9 => ?_
        simp (disch := first | omega | (simp only [List.length_cons, List.length_nil, List.length_map, List.length_drop]; omega)) only [hadd, seSl, hlt, hkl, if_true, hk1, et, wrap_i64, decide_true, decide_false, List.length_map, List.length_take, List.take_succ_cons, List.take_zero, evSt, ↓evPre, ↓evPreW, evPost, evPostW, ← List.map_take, ← List.map_drop, ↓reduceIte, reduceCtorEq, Nat.reduceEqDiff, forall_const, implies_true, Nat.reduceAdd, Nat.reduceSub, Nat.reduceMul, Nat.reduceLT, Nat.reduceLeDiff, Int.reduceToNat, Int.reduceAdd, Int.reduceSub, Int.reduceNeg, Int.reduceMul, Int.reduceLT, Int.reduceLE, Int.reduceEq]
        rw [← hF] at g9
        obtain ⟨T2, o1, o2, o3⟩ := fin _ _ g9
        exact ⟨(k + 1, _, T2), ⟨by simp only; omega, by rw [hF1]; exact o1⟩, by simp only; omega, back_under o2 ⟨rfl, rfl, rfl, rfl, rfl, trivial⟩ (by simp [V.under, seSl, o3])⟩
      | false =>
        have hF : F1 = F0 ++ [⟨5, seatAt k⟩] := by
          rw [hstep, faultsAt, if_neg hA, if_neg hN, if_neg (by rw [hT]; exact Bool.noConfusion)]
          simp only [List.append_assoc, List.nil_append, List.append_nil, List.cons_append]
        simp (disch := first | omega | (simp only [List.length_cons, List.length_nil, List.length_map, List.length_drop]; omega)) only [hadd, seSl, hlt, hkl, if_true, hk1, et, wrap_i64, decide_true, decide_false, List.length_map, List.length_take, List.take_succ_cons, List.take_zero, hob0, b1, b2, b3, b4, hL, List.length_nil, evSt, ↓evPre, ↓evPreW, evPost, evPostW, ← List.map_take, ← List.map_drop, ↓reduceIte, reduceCtorEq, Nat.reduceEqDiff, forall_const, implies_true, Nat.reduceAdd, Nat.reduceSub, Nat.reduceMul, Nat.reduceLT, Nat.reduceLeDiff, Int.reduceToNat, Int.reduceAdd, Int.reduceSub, Int.reduceNeg, Int.reduceMul, Int.reduceLT, Int.reduceLE, Int.reduceEq]
        refine mid_app (f := ⟨5, seatAt k⟩) mid (by (try simp only [List.length_append, List.length_cons, List.length_nil]); omega) fun c1 U1 g1 => ?_
        have hob1 := g1.obj
        rw [seaR] at hob1
        simp (disch := first | omega | (simp only [List.length_cons, List.length_nil, List.length_map, List.length_drop]; omega)) only [hadd, seSl, hlt, hkl, if_true, hk1, et, wrap_i64, decide_true, decide_false, List.length_map, List.length_take, List.take_succ_cons, List.take_zero, hob1, b1, b2, b3, b4, hL, List.length_nil, evSt, ↓evPre, ↓evPreW, evPost, evPostW, ← List.map_take, ← List.map_drop, ↓reduceIte, reduceCtorEq, Nat.reduceEqDiff, forall_const, implies_true, Nat.reduceAdd, Nat.reduceSub, Nat.reduceMul, Nat.reduceLT, Nat.reduceLeDiff, Int.reduceToNat, Int.reduceAdd, Int.reduceSub, Int.reduceNeg, Int.reduceMul, Int.reduceLT, Int.reduceLE, Int.reduceEq]
        refine (anySame_A (l.take k) s pid _ htl g1.obj).then ?_
        simp (disch := first | omega | (simp only [List.length_cons, List.length_nil, List.length_map, List.length_drop]; omega)) only [hadd, seSl, hlt, hkl, if_true, hk1, et, wrap_i64, decide_true, decide_false, List.length_map, List.length_take, List.take_succ_cons, List.take_zero, hT, hob1, b1, b2, b3, b4, hL, List.length_nil, evSt, ↓evPre, ↓evPreW, evPost, evPostW, ← List.map_take, ← List.map_drop, ↓reduceIte, reduceCtorEq, Nat.reduceEqDiff, forall_const, implies_true, Nat.reduceAdd, Nat.reduceSub, Nat.reduceMul, Nat.reduceLT, Nat.reduceLeDiff, Int.reduceToNat, Int.reduceAdd, Int.reduceSub, Int.reduceNeg, Int.reduceMul, Int.reduceLT, Int.reduceLE, Int.reduceEq]
        rw [← hF] at g1
        obtain ⟨T2, o1, o2, o3⟩ := fin _ _ g1
        exact ⟨(k + 1, _, T2), ⟨by simp only; omega, by rw [hF1]; exact o1⟩, by simp only; omega, back_under o2 ⟨rfl, rfl, rfl, rfl, rfl, trivial⟩ (by simp [V.under, seSl, o3])⟩
    | cons c r =>
      cases r with
      | cons d r2 =>
        have hN : ¬ nameGood s.letter := by rw [hL]; exact nameGood_two
        have q1 : ¬ ((r2.length + 1 + 1 : Nat) : Int) = 1 := by omega
        cases hT : (l.take k).any (sameS s) with
        | true =>
          have hF : F1 = F0 ++ [⟨5, seatAt k⟩] ++ [⟨6, seatAt k⟩] := by
            rw [hstep, faultsAt, if_neg hA, if_neg hN, if_pos hT]
            simp only [List.append_assoc, List.nil_append, List.append_nil, List.cons_append]
          simp (disch := first | omega | (simp only [List.length_cons, List.length_nil, List.length_map, List.length_drop]; omega)) only [hadd, seSl, hlt, hkl, if_true, hk1, et, wrap_i64, decide_true, decide_false, List.length_map, List.length_take, List.take_succ_cons, List.take_zero, hob0, b1, b2, b3, b4, hL, q1, List.length_cons, List.length_nil, evSt, ↓evPre, ↓evPreW, evPost, evPostW, ← List.map_take, ← List.map_drop, ↓reduceIte, reduceCtorEq, Nat.reduceEqDiff, forall_const, implies_true, Nat.reduceAdd, Nat.reduceSub, Nat.reduceMul, Nat.reduceLT, Nat.reduceLeDiff, Int.reduceToNat, Int.reduceAdd, Int.reduceSub, Int.reduceNeg, Int.reduceMul, Int.reduceLT, Int.reduceLE, Int.reduceEq]
          refine mid_app (f := ⟨5, seatAt k⟩) mid (by (try simp only [List.length_append, List.length_cons, List.length_nil]); omega) fun c1 U1 g1 => ?_
          have hob1 := g1.obj
          rw [seaR] at hob1
          simp (disch := first | omega | (simp only [List.length_cons, List.length_nil, List.length_map, List.length_drop]; omega)) only [hadd, seSl, hlt, hkl, if_true, hk1, et, wrap_i64, decide_true, decide_false, List.length_map, List.length_take, List.take_succ_cons, List.take_zero, hob1, b1, b2, b3, b4, hL, q1, List.length_cons, List.length_nil, evSt, ↓evPre, ↓evPreW, evPost, evPostW, ← List.map_take, ← List.map_drop, ↓reduceIte, reduceCtorEq, Nat.reduceEqDiff, forall_const, implies_true, Nat.reduceAdd, Nat.reduceSub, Nat.reduceMul, Nat.reduceLT, Nat.reduceLeDiff, Int.reduceToNat, Int.reduceAdd, Int.reduceSub, Int.reduceNeg, Int.reduceMul, Int.reduceLT, Int.reduceLE, Int.reduceEq]
          refine (anySame_A (l.take k) s pid _ htl g1.obj).then ?_
          simp (disch := first | omega | (simp only [List.length_cons, List.length_nil, List.length_map, List.length_drop]; omega)) only [hadd, seSl, hlt, hkl, if_true, hk1, et, wrap_i64, decide_true, decide_false, List.length_map, List.length_take, List.take_succ_cons, List.take_zero, hT, hob1, b1, b2, b3, b4, hL, q1, List.length_cons, List.length_nil, evSt, ↓evPre, ↓evPreW, evPost, evPostW, ← List.map_take, ← List.map_drop, ↓reduceIte, reduceCtorEq, Nat.reduceEqDiff, forall_const, implies_true, Nat.reduceAdd, Nat.reduceSub, Nat.reduceMul, Nat.reduceLT, Nat.reduceLeDiff, Int.reduceToNat, Int.reduceAdd, Int.reduceSub, Int.reduceNeg, Int.reduceMul, Int.reduceLT, Int.reduceLE, Int.reduceEq]
          refine mid_app (f := ⟨6, seatAt k⟩) g1 (by (try simp only [List.length_append, List.length_cons, List.length_nil]); omega) fun c9 U9 g9 => ?_
          simp (disch := first | omega | (simp only [List.length_cons, List.length_nil, List.length_map, List.length_drop]; omega)) only [hadd, seSl, hlt, hkl, if_true, hk1, et, wrap_i64, decide_true, decide_false, List.length_map, List.length_take, List.take_succ_cons, List.take_zero, evSt, ↓evPre, ↓evPreW, evPost, evPostW, ← List.map_take, ← List.map_drop, ↓reduceIte, reduceCtorEq, Nat.reduceEqDiff, forall_const, implies_true, Nat.reduceAdd, Nat.reduceSub, Nat.reduceMul, Nat.reduceLT, Nat.reduceLeDiff, Int.reduceToNat, Int.reduceAdd, Int.reduceSub, Int.reduceNeg, Int.reduceMul, Int.reduceLT, Int.reduceLE, Int.reduceEq]
          rw [← hF] at g9
          obtain ⟨T2, o1, o2, o3⟩ := fin _ _ g9
          exact ⟨(k + 1, _, T2), ⟨by simp only; omega, by rw [hF1]; exact o1⟩, by simp only; omega, back_under o2 ⟨rfl, rfl, rfl, rfl, rfl, trivial⟩ (by simp [V.under, seSl, o3])⟩
        | false =>
          have hF : F1 = F0 ++ [⟨5, seatAt k⟩] := by
            rw [hstep, faultsAt, if_neg hA, if_neg hN, if_neg (by rw [hT]; exact Bool.noConfusion)]
            simp only [List.append_assoc, List.nil_append, List.append_nil, List.cons_append]
          simp (disch := first | omega | (simp only [List.length_cons, List.length_nil, List.length_map, List.length_drop]; omega)) only [hadd, seSl, hlt, hkl, if_true, hk1, et, wrap_i64, decide_true, decide_false, List.length_map, List.length_take, List.take_succ_cons, List.take_zero, hob0, b1, b2, b3, b4, hL, q1, List.length_cons, List.length_nil, evSt, ↓evPre, ↓evPreW, evPost, evPostW, ← List.map_take, ← List.map_drop, ↓reduceIte, reduceCtorEq, Nat.reduceEqDiff, forall_const, implies_true, Nat.reduceAdd, Nat.reduceSub, Nat.reduceMul, Nat.reduceLT, Nat.reduceLeDiff, Int.reduceToNat, Int.reduceAdd, Int.reduceSub, Int.reduceNeg, Int.reduceMul, Int.reduceLT, Int.reduceLE, Int.reduceEq]
          refine mid_app (f := ⟨5, seatAt k⟩) mid (by (try simp only [List.length_append, List.length_cons, List.length_nil]); omega) fun c1 U1 g1 => ?_
          have hob1 := g1.obj
          rw [seaR] at hob1
          simp (disch := first | omega | (simp only [List.length_cons, List.length_nil, List.length_map, List.length_drop]; omega)) only [hadd, seSl, hlt, hkl, if_true, hk1, et, wrap_i64, decide_true, decide_false, List.length_map, List.length_take, List.take_succ_cons, List.take_zero, hob1, b1, b2, b3, b4, hL, q1, List.length_cons, List.length_nil, evSt, ↓evPre, ↓evPreW, evPost, evPostW, ← List.map_take, ← List.map_drop, ↓reduceIte, reduceCtorEq, Nat.reduceEqDiff, forall_const, implies_true, Nat.reduceAdd, Nat.reduceSub, Nat.reduceMul, Nat.reduceLT, Nat.reduceLeDiff, Int.reduceToNat, Int.reduceAdd, Int.reduceSub, Int.reduceNeg, Int.reduceMul, Int.reduceLT, Int.reduceLE, Int.reduceEq]
          refine (anySame_A (l.take k) s pid _ htl g1.obj).then ?_
          simp (disch := first | omega | (simp only [List.length_cons, List.length_nil, List.length_map, List.length_drop]; omega)) only [hadd, seSl, hlt, hkl, if_true, hk1, et, wrap_i64, decide_true, decide_false, List.length_map, List.length_take, List.take_succ_cons, List.take_zero, hT, hob1, b1, b2, b3, b4, hL, q1, List.length_cons, List.length_nil, evSt, ↓evPre, ↓evPreW, evPost, evPostW, ← List.map_take, ← List.map_drop, ↓reduceIte, reduceCtorEq, Nat.reduceEqDiff, forall_const, implies_true, Nat.reduceAdd, Nat.reduceSub, Nat.reduceMul, Nat.reduceLT, Nat.reduceLeDiff, Int.reduceToNat, Int.reduceAdd, Int.reduceSub, Int.reduceNeg, Int.reduceMul, Int.reduceLT, Int.reduceLE, Int.reduceEq]
          rw [← hF] at g1
          obtain ⟨T2, o1, o2, o3⟩ := fin _ _ g1
          exact ⟨(k + 1, _, T2), ⟨by simp only; omega, by rw [hF1]; exact o1⟩, by simp only; omega, back_under o2 ⟨rfl, rfl, rfl, rfl, rfl, trivial⟩ (by simp [V.under, seSl, o3])⟩
      | nil =>
        by_cases q1 : (c.toNat : Int) < 65
        · have hN : ¬ nameGood s.letter := by rw [hL, nameGood_one]; omega
          cases hT : (l.take k).any (sameS s) with
          | true =>
            have hF : F1 = F0 ++ [⟨5, seatAt k⟩] ++ [⟨6, seatAt k⟩] := by
              rw [hstep, faultsAt, if_neg hA, if_neg hN, if_pos hT]
              simp only [List.append_assoc, List.nil_append, List.append_nil, List.cons_append]
            simp (disch := first | omega | (simp only [List.length_cons, List.length_nil, List.length_map, List.length_drop]; omega)) only [hadd, seSl, hlt, hkl, if_true, hk1, et, wrap_i64, decide_true, decide_false, List.length_map, List.length_take, List.take_succ_cons, List.take_zero, hob0, b1, b2, b3, b4, hL, q1, List.length_cons, List.length_nil, evSt, ↓evPre, ↓evPreW, evPost, evPostW, ← List.map_take, ← List.map_drop, ↓reduceIte, reduceCtorEq, Nat.reduceEqDiff, forall_const, implies_true, Nat.reduceAdd, Nat.reduceSub, Nat.reduceMul, Nat.reduceLT, Nat.reduceLeDiff, Int.reduceToNat, Int.reduceAdd, Int.reduceSub, Int.reduceNeg, Int.reduceMul, Int.reduceLT, Int.reduceLE, Int.reduceEq]
            refine mid_app (f := ⟨5, seatAt k⟩) mid (by (try simp only [List.length_append, List.length_cons, List.length_nil]); omega) fun c1 U1 g1 => ?_
            have hob1 := g1.obj
            rw [seaR] at hob1
            simp (disch := first | omega | (simp only [List.length_cons, List.length_nil, List.length_map, List.length_drop]; omega)) only [hadd, seSl, hlt, hkl, if_true, hk1, et, wrap_i64, decide_true, decide_false, List.length_map, List.length_take, List.take_succ_cons, List.take_zero, hob1, b1, b2, b3, b4, hL, q1, List.length_cons, List.length_nil, evSt, ↓evPre, ↓evPreW, evPost, evPostW, ← List.map_take, ← List.map_drop, ↓reduceIte, reduceCtorEq, Nat.reduceEqDiff, forall_const, implies_true, Nat.reduceAdd, Nat.reduceSub, Nat.reduceMul, Nat.reduceLT, Nat.reduceLeDiff, Int.reduceToNat, Int.reduceAdd, Int.reduceSub, Int.reduceNeg, Int.reduceMul, Int.reduceLT, Int.reduceLE, Int.reduceEq]
            refine (anySame_A (l.take k) s pid _ htl g1.obj).then ?_
            simp (disch := first | omega | (simp only [List.length_cons, List.length_nil, List.length_map, List.length_drop]; omega)) only [hadd, seSl, hlt, hkl, if_true, hk1, et, wrap_i64, decide_true, decide_false, List.length_map, List.length_take, List.take_succ_cons, List.take_zero, hT, hob1, b1, b2, b3, b4, hL, q1, List.length_cons, List.length_nil, evSt, ↓evPre, ↓evPreW, evPost, evPostW, ← List.map_take, ← List.map_drop, ↓reduceIte, reduceCtorEq, Nat.reduceEqDiff, forall_const, implies_true, Nat.reduceAdd, Nat.reduceSub, Nat.reduceMul, Nat.reduceLT, Nat.reduceLeDiff, Int.reduceToNat, Int.reduceAdd, Int.reduceSub, Int.reduceNeg, Int.reduceMul, Int.reduceLT, Int.reduceLE, Int.reduceEq]
            refine mid_app (f := ⟨6, seatAt k⟩) g1 (by (try simp only [List.length_append, List.length_cons, List.length_nil]); omega) fun c9 U9 g9 => ?_
            simp (disch := first | omega | (simp only [List.length_cons, List.length_nil, List.length_map, List.length_drop]; omega)) only [hadd, seSl, hlt, hkl, if_true, hk1, et, wrap_i64, decide_true, decide_false, List.length_map, List.length_take, List.take_succ_cons, List.take_zero, evSt, ↓evPre, ↓evPreW, evPost, evPostW, ← List.map_take, ← List.map_drop, ↓reduceIte, reduceCtorEq, Nat.reduceEqDiff, forall_const, implies_true, Nat.reduceAdd, Nat.reduceSub, Nat.reduceMul, Nat.reduceLT, Nat.reduceLeDiff, Int.reduceToNat, Int.reduceAdd, Int.reduceSub, Int.reduceNeg, Int.reduceMul, Int.reduceLT, Int.reduceLE, Int.reduceEq]
            rw [← hF] at g9
            obtain ⟨T2, o1, o2, o3⟩ := fin _ _ g9
            exact ⟨(k + 1, _, T2), ⟨by simp only; omega, by rw [hF1]; exact o1⟩, by simp only; omega, back_under o2 ⟨rfl, rfl, rfl, rfl, rfl, trivial⟩ (by simp [V.under, seSl, o3])⟩
          | false =>
            have hF : F1 = F0 ++ [⟨5, seatAt k⟩] := by
              rw [hstep, faultsAt, if_neg hA, if_neg hN, if_neg (by rw [hT]; exact Bool.noConfusion)]
              simp only [List.append_assoc, List.nil_append, List.append_nil, List.cons_append]
            simp (disch := first | omega | (simp only [List.length_cons, List.length_nil, List.length_map, List.length_drop]; omega)) only [hadd, seSl, hlt, hkl, if_true, hk1, et, wrap_i64, decide_true, decide_false, List.length_map, List.length_take, List.take_succ_cons, List.take_zero, hob0, b1, b2, b3, b4, hL, q1, List.length_cons, List.length_nil, evSt, ↓evPre, ↓evPreW, evPost, evPostW, ← List.map_take, ← List.map_drop, ↓reduceIte, reduceCtorEq, Nat.reduceEqDiff, forall_const, implies_true, Nat.reduceAdd, Nat.reduceSub, Nat.reduceMul, Nat.reduceLT, Nat.reduceLeDiff, Int.reduceToNat, Int.reduceAdd, Int.reduceSub, Int.reduceNeg, Int.reduceMul, Int.reduceLT, Int.reduceLE, Int.reduceEq]
            refine mid_app (f := ⟨5, seatAt k⟩) mid (by (try simp only [List.length_append, List.length_cons, List.length_nil]); omega) fun c1 U1 g1 => ?_
            have hob1 := g1.obj
            rw [seaR] at hob1
            simp (disch := first | omega | (simp only [List.length_cons, List.length_nil, List.length_map, List.length_drop]; omega)) only [hadd, seSl, hlt, hkl, if_true, hk1, et, wrap_i64, decide_true, decide_false, List.length_map, List.length_take, List.take_succ_cons, List.take_zero, hob1, b1, b2, b3, b4, hL, q1, List.length_cons, List.length_nil, evSt, ↓evPre, ↓evPreW, evPost, evPostW, ← List.map_take, ← List.map_drop, ↓reduceIte, reduceCtorEq, Nat.reduceEqDiff, forall_const, implies_true, Nat.reduceAdd, Nat.reduceSub, Nat.reduceMul, Nat.reduceLT, Nat.reduceLeDiff, Int.reduceToNat, Int.reduceAdd, Int.reduceSub, Int.reduceNeg, Int.reduceMul, Int.reduceLT, Int.reduceLE, Int.reduceEq]
            refine (anySame_A (l.take k) s pid _ htl g1.obj).then ?_
            simp (disch := first | omega | (simp only [List.length_cons, List.length_nil, List.length_map, List.length_drop]; omega)) only [hadd, seSl, hlt, hkl, if_true, hk1, et, wrap_i64, decide_true, decide_false, List.length_map, List.length_take, List.take_succ_cons, List.take_zero, hT, hob1, b1, b2, b3, b4, hL, q1, List.length_cons, List.length_nil, evSt, ↓evPre, ↓evPreW, evPost, evPostW, ← List.map_take, ← List.map_drop, ↓reduceIte, reduceCtorEq, Nat.reduceEqDiff, forall_const, implies_true, Nat.reduceAdd, Nat.reduceSub, Nat.reduceMul, Nat.reduceLT, Nat.reduceLeDiff, Int.reduceToNat, Int.reduceAdd, Int.reduceSub, Int.reduceNeg, Int.reduceMul, Int.reduceLT, Int.reduceLE, Int.reduceEq]
            rw [← hF] at g1
            obtain ⟨T2, o1, o2, o3⟩ := fin _ _ g1
            exact ⟨(k + 1, _, T2), ⟨by simp only; omega, by rw [hF1]; exact o1⟩, by simp only; omega, back_under o2 ⟨rfl, rfl, rfl, rfl, rfl, trivial⟩ (by simp [V.under, seSl, o3])⟩
        by_cases q2 : (90 : Int) < c.toNat
        · have hN : ¬ nameGood s.letter := by rw [hL, nameGood_one]; omega
          cases hT : (l.take k).any (sameS s) with
          | true =>
            have hF : F1 = F0 ++ [⟨5, seatAt k⟩] ++ [⟨6, seatAt k⟩] := by
              rw [hstep, faultsAt, if_neg hA, if_neg hN, if_pos hT]
              simp only [List.append_assoc, List.nil_append, List.append_nil, List.cons_append]
            simp (disch := first | omega | (simp only [List.length_cons, List.length_nil, List.length_map, List.length_drop]; omega)) only [hadd, seSl, hlt, hkl, if_true, hk1, et, wrap_i64, decide_true, decide_false, List.length_map, List.length_take, List.take_succ_cons, List.take_zero, hob0, b1, b2, b3, b4, hL, q1, q2, List.length_cons, List.length_nil, evSt, ↓evPre, ↓evPreW, evPost, evPostW, ← List.map_take, ← List.map_drop, ↓reduceIte, reduceCtorEq, Nat.reduceEqDiff, forall_const, implies_true, Nat.reduceAdd, Nat.reduceSub, Nat.reduceMul, Nat.reduceLT, Nat.reduceLeDiff, Int.reduceToNat, Int.reduceAdd, Int.reduceSub, Int.reduceNeg, Int.reduceMul, Int.reduceLT, Int.reduceLE, Int.reduceEq]
            refine mid_app (f := ⟨5, seatAt k⟩) mid (by (try simp only [List.length_append, List.length_cons, List.length_nil]); omega) fun c1 U1 g1 => ?_
            have hob1 := g1.obj
            rw [seaR] at hob1
            simp (disch := first | omega | (simp only [List.length_cons, List.length_nil, List.length_map, List.length_drop]; omega)) only [hadd, seSl, hlt, hkl, if_true, hk1, et, wrap_i64, decide_true, decide_false, List.length_map, List.length_take, List.take_succ_cons, List.take_zero, hob1, b1, b2, b3, b4, hL, q1, q2, List.length_cons, List.length_nil, evSt, ↓evPre, ↓evPreW, evPost, evPostW, ← List.map_take, ← List.map_drop, ↓reduceIte, reduceCtorEq, Nat.reduceEqDiff, forall_const, implies_true, Nat.reduceAdd, Nat.reduceSub, Nat.reduceMul, Nat.reduceLT, Nat.reduceLeDiff, Int.reduceToNat, Int.reduceAdd, Int.reduceSub, Int.reduceNeg, Int.reduceMul, Int.reduceLT, Int.reduceLE, Int.reduceEq]
            refine (anySame_A (l.take k) s pid _ htl g1.obj).then ?_
            simp (disch := first | omega | (simp only [List.length_cons, List.length_nil, List.length_map, List.length_drop]; omega)) only [hadd, seSl, hlt, hkl, if_true, hk1, et, wrap_i64, decide_true, decide_false, List.length_map, List.length_take, List.take_succ_cons, List.take_zero, hT, hob1, b1, b2, b3, b4, hL, q1, q2, List.length_cons, List.length_nil, evSt, ↓evPre, ↓evPreW, evPost, evPostW, ← List.map_take, ← List.map_drop, ↓reduceIte, reduceCtorEq, Nat.reduceEqDiff, forall_const, implies_true, Nat.reduceAdd, Nat.reduceSub, Nat.reduceMul, Nat.reduceLT, Nat.reduceLeDiff, Int.reduceToNat, Int.reduceAdd, Int.reduceSub, Int.reduceNeg, Int.reduceMul, Int.reduceLT, Int.reduceLE, Int.reduceEq]
            refine mid_app (f := ⟨6, seatAt k⟩) g1 (by (try simp only [List.length_append, List.length_cons, List.length_nil]); omega) fun c9 U9 g9 => ?_
            simp (disch := first | omega | (simp only [List.length_cons, List.length_nil, List.length_map, List.length_drop]; omega)) only [hadd, seSl, hlt, hkl, if_true, hk1, et, wrap_i64, decide_true, decide_false, List.length_map, List.length_take, List.take_succ_cons, List.take_zero, evSt, ↓evPre, ↓evPreW, evPost, evPostW, ← List.map_take, ← List.map_drop, ↓reduceIte, reduceCtorEq, Nat.reduceEqDiff, forall_const, implies_true, Nat.reduceAdd, Nat.reduceSub, Nat.reduceMul, Nat.reduceLT, Nat.reduceLeDiff, Int.reduceToNat, Int.reduceAdd, Int.reduceSub, Int.reduceNeg, Int.reduceMul, Int.reduceLT, Int.reduceLE, Int.reduceEq]
            rw [← hF] at g9
            obtain ⟨T2, o1, o2, o3⟩ := fin _ _ g9
            exact ⟨(k + 1, _, T2), ⟨by simp only; omega, by rw [hF1]; exact o1⟩, by simp only; omega, back_under o2 ⟨rfl, rfl, rfl, rfl, rfl, trivial⟩ (by simp [V.under, seSl, o3])⟩
          | false =>
            have hF : F1 = F0 ++ [⟨5, seatAt k⟩] := by
              rw [hstep, faultsAt, if_neg hA, if_neg hN, if_neg (by rw [hT]; exact Bool.noConfusion)]
              simp only [List.append_assoc, List.nil_append, List.append_nil, List.cons_append]
            simp (disch := first | omega | (simp only [List.length_cons, List.length_nil, List.length_map, List.length_drop]; omega)) only [hadd, seSl, hlt, hkl, if_true, hk1, et, wrap_i64, decide_true, decide_false, List.length_map, List.length_take, List.take_succ_cons, List.take_zero, hob0, b1, b2, b3, b4, hL, q1, q2, List.length_cons, List.length_nil, evSt, ↓evPre, ↓evPreW, evPost, evPostW, ← List.map_take, ← List.map_drop, ↓reduceIte, reduceCtorEq, Nat.reduceEqDiff, forall_const, implies_true, Nat.reduceAdd, Nat.reduceSub, Nat.reduceMul, Nat.reduceLT, Nat.reduceLeDiff, Int.reduceToNat, Int.reduceAdd, Int.reduceSub, Int.reduceNeg, Int.reduceMul, Int.reduceLT, Int.reduceLE, Int.reduceEq]
            refine mid_app (f := ⟨5, seatAt k⟩) mid (by (try simp only [List.length_append, List.length_cons, List.length_nil]); omega) fun c1 U1 g1 => ?_
            have hob1 := g1.obj
            rw [seaR] at hob1
            simp (disch := first | omega | (simp only [List.length_cons, List.length_nil, List.length_map, List.length_drop]; omega)) only [hadd, seSl, hlt, hkl, if_true, hk1, et, wrap_i64, decide_true, decide_false, List.length_map, List.length_take, List.take_succ_cons, List.take_zero, hob1, b1, b2, b3, b4, hL, q1, q2, List.length_cons, List.length_nil, evSt, ↓evPre, ↓evPreW, evPost, evPostW, ← List.map_take, ← List.map_drop, ↓reduceIte, reduceCtorEq, Nat.reduceEqDiff, forall_const, implies_true, Nat.reduceAdd, Nat.reduceSub, Nat.reduceMul, Nat.reduceLT, Nat.reduceLeDiff, Int.reduceToNat, Int.reduceAdd, Int.reduceSub, Int.reduceNeg, Int.reduceMul, Int.reduceLT, Int.reduceLE, Int.reduceEq]
            refine (anySame_A (l.take k) s pid _ htl g1.obj).then ?_
            simp (disch := first | omega | (simp only [List.length_cons, List.length_nil, List.length_map, List.length_drop]; omega)) only [hadd, seSl, hlt, hkl, if_true, hk1, et, wrap_i64, decide_true, decide_false, List.length_map, List.length_take, List.take_succ_cons, List.take_zero, hT, hob1, b1, b2, b3, b4, hL, q1, q2, List.length_cons, List.length_nil, evSt, ↓evPre, ↓evPreW, evPost, evPostW, ← List.map_take, ← List.map_drop, ↓reduceIte, reduceCtorEq, Nat.reduceEqDiff, forall_const, implies_true, Nat.reduceAdd, Nat.reduceSub, Nat.reduceMul, Nat.reduceLT, Nat.reduceLeDiff, Int.reduceToNat, Int.reduceAdd, Int.reduceSub, Int.reduceNeg, Int.reduceMul, Int.reduceLT, Int.reduceLE, Int.reduceEq]
            rw [← hF] at g1
            obtain ⟨T2, o1, o2, o3⟩ := fin _ _ g1
            exact ⟨(k + 1, _, T2), ⟨by simp only; omega, by rw [hF1]; exact o1⟩, by simp only; omega, back_under o2 ⟨rfl, rfl, rfl, rfl, rfl, trivial⟩ (by simp [V.under, seSl, o3])⟩
        have hN : nameGood s.letter := by rw [hL, nameGood_one]; omega
        cases hT : (l.take k).any (sameS s) with
        | true =>
          have hF : F1 = F0 ++ [⟨6, seatAt k⟩] := by
            rw [hstep, faultsAt, if_neg hA, if_pos hN, if_pos hT]
            simp only [List.append_assoc, List.nil_append, List.append_nil, List.cons_append]
          simp (disch := first | omega | (simp only [List.length_cons, List.length_nil, List.length_map, List.length_drop]; omega)) only [hadd, seSl, hlt, hkl, if_true, hk1, et, wrap_i64, decide_true, decide_false, List.length_map, List.length_take, List.take_succ_cons, List.take_zero, hob0, b1, b2, b3, b4, hL, q1, q2, List.length_cons, List.length_nil, evSt, ↓evPre, ↓evPreW, evPost, evPostW, ← List.map_take, ← List.map_drop, ↓reduceIte, reduceCtorEq, Nat.reduceEqDiff, forall_const, implies_true, Nat.reduceAdd, Nat.reduceSub, Nat.reduceMul, Nat.reduceLT, Nat.reduceLeDiff, Int.reduceToNat, Int.reduceAdd, Int.reduceSub, Int.reduceNeg, Int.reduceMul, Int.reduceLT, Int.reduceLE, Int.reduceEq]
          refine (anySame_A (l.take k) s pid _ htl mid.obj).then ?_
          simp (disch := first | omega | (simp only [List.length_cons, List.length_nil, List.length_map, List.length_drop]; omega)) only [hadd, seSl, hlt, hkl, if_true, hk1, et, wrap_i64, decide_true, decide_false, List.length_map, List.length_take, List.take_succ_cons, List.take_zero, hT, hob0, b1, b2, b3, b4, hL, q1, q2, List.length_cons, List.length_nil, evSt, ↓evPre, ↓evPreW, evPost, evPostW, ← List.map_take, ← List.map_drop, ↓reduceIte, reduceCtorEq, Nat.reduceEqDiff, forall_const, implies_true, Nat.reduceAdd, Nat.reduceSub, Nat.reduceMul, Nat.reduceLT, Nat.reduceLeDiff, Int.reduceToNat, Int.reduceAdd, Int.reduceSub, Int.reduceNeg, Int.reduceMul, Int.reduceLT, Int.reduceLE, Int.reduceEq]
          refine mid_app (f := ⟨6, seatAt k⟩) mid (by (try simp only [List.length_append, List.length_cons, List.length_nil]); omega) fun c9 U9 g9 => ?_
          simp (disch := first | omega | (simp only [List.length_cons, List.length_nil, List.length_map, List.length_drop]; omega)) only [hadd, seSl, hlt, hkl, if_true, hk1, et, wrap_i64, decide_true, decide_false, List.length_map, List.length_take, List.take_succ_cons, List.take_zero, evSt, ↓evPre, ↓evPreW, evPost, evPostW, ← List.map_take, ← List.map_drop, ↓reduceIte, reduceCtorEq, Nat.reduceEqDiff, forall_const, implies_true, Nat.reduceAdd, Nat.reduceSub, Nat.reduceMul, Nat.reduceLT, Nat.reduceLeDiff, Int.reduceToNat, Int.reduceAdd, Int.reduceSub, Int.reduceNeg, Int.reduceMul, Int.reduceLT, Int.reduceLE, Int.reduceEq]
          rw [← hF] at g9
          obtain ⟨T2, o1, o2, o3⟩ := fin _ _ g9
          exact ⟨(k + 1, _, T2), ⟨by simp only; omega, by rw [hF1]; exact o1⟩, by simp only; omega, back_under o2 ⟨rfl, rfl, rfl, rfl, rfl, trivial⟩ (by simp [V.under, seSl, o3])⟩
        | false =>
          have hF : F1 = F0 := by
            rw [hstep, faultsAt, if_neg hA, if_pos hN, if_neg (by rw [hT]; exact Bool.noConfusion)]
            simp only [List.append_assoc, List.nil_append, List.append_nil, List.cons_append]
          simp (disch := first | omega | (simp only [List.length_cons, List.length_nil, List.length_map, List.length_drop]; omega)) only [hadd, seSl, hlt, hkl, if_true, hk1, et, wrap_i64, decide_true, decide_false, List.length_map, List.length_take, List.take_succ_cons, List.take_zero, hob0, b1, b2, b3, b4, hL, q1, q2, List.length_cons, List.length_nil, evSt, ↓evPre, ↓evPreW, evPost, evPostW, ← List.map_take, ← List.map_drop, ↓reduceIte, reduceCtorEq, Nat.reduceEqDiff, forall_const, implies_true, Nat.reduceAdd, Nat.reduceSub, Nat.reduceMul, Nat.reduceLT, Nat.reduceLeDiff, Int.reduceToNat, Int.reduceAdd, Int.reduceSub, Int.reduceNeg, Int.reduceMul, Int.reduceLT, Int.reduceLE, Int.reduceEq]
          refine (anySame_A (l.take k) s pid _ htl mid.obj).then ?_
          simp (disch := first | omega | (simp only [List.length_cons, List.length_nil, List.length_map, List.length_drop]; omega)) only [hadd, seSl, hlt, hkl, if_true, hk1, et, wrap_i64, decide_true, decide_false, List.length_map, List.length_take, List.take_succ_cons, List.take_zero, hT, hob0, b1, b2, b3, b4, hL, q1, q2, List.length_cons, List.length_nil, evSt, ↓evPre, ↓evPreW, evPost, evPostW, ← List.map_take, ← List.map_drop, ↓reduceIte, reduceCtorEq, Nat.reduceEqDiff, forall_const, implies_true, Nat.reduceAdd, Nat.reduceSub, Nat.reduceMul, Nat.reduceLT, Nat.reduceLeDiff, Int.reduceToNat, Int.reduceAdd, Int.reduceSub, Int.reduceNeg, Int.reduceMul, Int.reduceLT, Int.reduceLE, Int.reduceEq]
          rw [← hF] at mid
          obtain ⟨T2, o1, o2, o3⟩ := fin _ _ mid
          exact ⟨(k + 1, _, T2), ⟨by simp only; omega, by rw [hF1]; exact o1⟩, by simp only; omega, back_under o2 ⟨rfl, rfl, rfl, rfl, rfl, trivial⟩ (by simp [V.under, seSl, o3])⟩
end Go.Proofs.YteeenlgoildmiaaDoor
