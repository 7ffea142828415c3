/- The reference's reader: is, tag. -/
import Derived.Test.YtpblahljlbakdaaEdi13
namespace Go.Proofs.Ytpblahljlbakdaa
open Go Go.AL
set_option linter.unusedSimpArgs false

set_option maxRecDepth 20000 in
theorem is_A (s : Txt) (k : Nat) (bad : Bool) (c : UInt8) (S T : Store) (hs : s.length ≤ 65536) :
    CallA Try.prog 49 [.ptr S.length 0 0 0, .int .u8 c.toNat] (S ++ ⟨0, some (.arr 66 3 [[.str s, .int .i64 k, .bool bad]])⟩ :: T) fun r S' => r = .bool (!bad && decide (s[k]? = some c)) ∧ S' = S ++ ⟨0, some (.arr 66 3 [[.str s, .int .i64 k, .bool bad]])⟩ :: T := by
  refine CallA.keep Try.func49 c49 (Nat.le_of_ble_eq_true rfl) fun σ hσ => ?_
  cases bad
  · cases hd : s[k]? with
    | none =>
      have hlt : ¬ (k : Int) < (s.length : Int) := by have := List.getElem?_eq_none_iff.1 hd; omega
      simp (disch := first | omega | (simp only [List.length_cons, List.length_nil, List.length_map, List.length_drop]; omega)) only [a49, hlt, ob_app, ob_app0, ob_cons, ob_head, Bool.not_false, decide_false, reduceCtorEq, Bool.and_false, ↓evPre, ↓evPreW, evPost, evPostW, ← List.map_take, ← List.map_drop, ↓reduceIte, reduceCtorEq, Nat.reduceEqDiff, forall_const, implies_true, Nat.reduceAdd, Nat.reduceSub, Nat.reduceMul, Nat.reduceLT, Nat.reduceLeDiff, Int.reduceToNat, Int.reduceAdd, Int.reduceSub, Int.reduceNeg, Int.reduceMul, Int.reduceLT, Int.reduceLE, Int.reduceEq]
    | some d =>
      have hlt : (k : Int) < (s.length : Int) := by have := (List.getElem?_eq_some_iff.1 hd).1; omega
      have he : decide ((d.toNat : Int) = (c.toNat : Int)) = decide (d = c) := by
        rw [decide_eq_decide, Int.ofNat_inj, UInt8.toNat_inj]
      simp (disch := first | omega | (simp only [List.length_cons, List.length_nil, List.length_map, List.length_drop]; omega)) only [a49, hlt, hd, he, ob_app, ob_app0, ob_cons, ob_head, Bool.not_false, decide_true, Option.some.injEq, Bool.true_and, ↓evPre, ↓evPreW, evPost, evPostW, ← List.map_take, ← List.map_drop, ↓reduceIte, reduceCtorEq, Nat.reduceEqDiff, forall_const, implies_true, Nat.reduceAdd, Nat.reduceSub, Nat.reduceMul, Nat.reduceLT, Nat.reduceLeDiff, Int.reduceToNat, Int.reduceAdd, Int.reduceSub, Int.reduceNeg, Int.reduceMul, Int.reduceLT, Int.reduceLE, Int.reduceEq]
  · simp (disch := first | omega | (simp only [List.length_cons, List.length_nil, List.length_map, List.length_drop]; omega)) only [a49, ob_app, ob_app0, ob_cons, ob_head, Bool.not_true, Bool.false_and, ↓evPre, ↓evPreW, evPost, evPostW, ← List.map_take, ← List.map_drop, ↓reduceIte, reduceCtorEq, Nat.reduceEqDiff, forall_const, implies_true, Nat.reduceAdd, Nat.reduceSub, Nat.reduceMul, Nat.reduceLT, Nat.reduceLeDiff, Int.reduceToNat, Int.reduceAdd, Int.reduceSub, Int.reduceNeg, Int.reduceMul, Int.reduceLT, Int.reduceLE, Int.reduceEq]

set_option maxRecDepth 20000 in
theorem refTag_A (s : Txt) (k : Nat) (S T : Store) (hs : s.length ≤ 65536) (hk : k ≤ s.length) :
    CallA Try.prog 48 [.ptr S.length 0 0 0] (S ++ ⟨0, some (.arr 66 3 [[.str s, .int .i64 k, .bool false]])⟩ :: T) fun r S' =>
      r = .str ((s.drop k).take (tagN 3 (s.drop k))) ∧ S' = S ++ ⟨0, some (.arr 66 3 [[.str s, .int .i64 (k + tagN 3 (s.drop k) : Nat), .bool (decide (tagN 3 (s.drop k) < 3))]])⟩ :: T := by
  refine CallA.keep Try.func48 c48 (Nat.le_of_ble_eq_true rfl) fun σ hσ => ?_
  simp (disch := first | omega | (simp only [List.length_cons, List.length_nil, List.length_map, List.length_drop]; omega)) only [a48, ob_app, ob_app0, ob_cons, ob_head, se_app, se_app0, se_cons, se_head, ↓evPre, ↓evPreW, evPost, evPostW, ← List.map_take, ← List.map_drop, ↓reduceIte, reduceCtorEq, Nat.reduceEqDiff, forall_const, implies_true, Nat.reduceAdd, Nat.reduceSub, Nat.reduceMul, Nat.reduceLT, Nat.reduceLeDiff, Int.reduceToNat, Int.reduceAdd, Int.reduceSub, Int.reduceNeg, Int.reduceMul, Int.reduceLT, Int.reduceLE, Int.reduceEq]
  refine loopA (ι := Nat) (fun i => [(0, .ptr S.length 0 0 0), (3, .int .i64 k)]) (fun i => S ++ ⟨0, some (.arr 66 3 [[.str s, .int .i64 (k + i : Nat), .bool false]])⟩ :: T) (fun i => i ≤ 3 ∧ k + i ≤ s.length ∧ tagN 3 (s.drop k) = i + tagN (3 - i) (s.drop (k + i))) (fun i => 3 - i) 0 ⟨by omega, by omega, by simp⟩ ?_ rfl ?_
  · simp only [↓evPre, ↓evPreW, evPost, evPostW, ← List.map_take, ← List.map_drop, ↓reduceIte, reduceCtorEq, Nat.reduceEqDiff, forall_const, implies_true, Nat.reduceAdd, Nat.reduceSub, Nat.reduceMul, Nat.reduceLT, Nat.reduceLeDiff, Int.reduceToNat, Int.reduceAdd, Int.reduceSub, Int.reduceNeg, Int.reduceMul, Int.reduceLT, Int.reduceLE, Int.reduceEq]
  · rintro i ⟨hi, hki, ht⟩
    have stop : tagN 3 (s.drop k) = i → (k : Int) ≤ ((k + i : Nat) : Int) ∧ ((k + i : Nat) : Int) ≤ (s.length : Int) ∧ k + i - k = i ∧ decide (((k + i : Nat) : Int) < (k : Int) + 3) = decide (i < 3) := fun _ => ⟨by omega, by omega, by omega, by rw [decide_eq_decide]; omega⟩
    cases hc : s[k + i]? with
    | none =>
      have hlt : ¬ ((k + i : Nat) : Int) < (s.length : Int) := by have := List.getElem?_eq_none_iff.1 hc; omega
      rw [show s.drop (k + i) = [] from List.drop_eq_nil_of_le (by omega), tagN_nil] at ht
      obtain ⟨s1, s2, s3, s4⟩ := stop (by omega)
      rw [Nat.add_zero] at ht
      simp (disch := first | omega | (simp only [List.length_cons, List.length_nil, List.length_map, List.length_drop]; omega)) only [hlt, ht, s1, s2, s3, s4, wrap_i64, ob_app, ob_app0, ob_cons, ob_head, se_app, se_app0, se_cons, se_head, and_self, if_true, ↓evPre, ↓evPreW, evPost, evPostW, ← List.map_take, ← List.map_drop, ↓reduceIte, reduceCtorEq, Nat.reduceEqDiff, forall_const, implies_true, Nat.reduceAdd, Nat.reduceSub, Nat.reduceMul, Nat.reduceLT, Nat.reduceLeDiff, Int.reduceToNat, Int.reduceAdd, Int.reduceSub, Int.reduceNeg, Int.reduceMul, Int.reduceLT, Int.reduceLE, Int.reduceEq]
    | some c =>
      have hlt : ((k + i : Nat) : Int) < (s.length : Int) := by have := (List.getElem?_eq_some_iff.1 hc).1; omega
      have e1 : (((k + i : Nat) : Int)).toNat = k + i := by omega
      have h0 : 0 ≤ ((k + i : Nat) : Int) := by omega
      by_cases hi3 : i = 3
      · subst hi3
        have hz : tagN 3 (s.drop k) = 3 := by rw [ht]; simp [tagN]
        obtain ⟨s1, s2, s3, s4⟩ := stop hz
        have hno : ¬ ((k + 3 : Nat) : Int) < (k : Int) + 3 := by omega
        simp (disch := first | omega | (simp only [List.length_cons, List.length_nil, List.length_map, List.length_drop]; omega)) only [hlt, hz, hno, s1, s2, s3, decide_false, wrap_i64, ob_app, ob_app0, ob_cons, ob_head, se_app, se_app0, se_cons, se_head, and_self, if_true, ↓evPre, ↓evPreW, evPost, evPostW, ← List.map_take, ← List.map_drop, ↓reduceIte, reduceCtorEq, Nat.reduceEqDiff, forall_const, implies_true, Nat.reduceAdd, Nat.reduceSub, Nat.reduceMul, Nat.reduceLT, Nat.reduceLeDiff, Int.reduceToNat, Int.reduceAdd, Int.reduceSub, Int.reduceNeg, Int.reduceMul, Int.reduceLT, Int.reduceLE, Int.reduceEq]
      · have hlt3 : ((k + i : Nat) : Int) < (k : Int) + 3 := by omega
        rw [drop_cons hc, show 3 - i = (3 - (i + 1)) + 1 by omega] at ht
        by_cases h1 : 65 ≤ (c.toNat : Int)
        · by_cases h2 : (c.toNat : Int) ≤ 90
          · have hu : upC c = true := by simp [upC]; omega
            simp only [tagN, hu, if_true] at ht
            simp (disch := first | omega | (simp only [List.length_cons, List.length_nil, List.length_map, List.length_drop]; omega)) only [hlt, hlt3, e1, h0, hc, h1, h2, decide_true, wrap_i64, ob_app, ob_app0, ob_cons, ob_head, se_app, se_app0, se_cons, se_head, ↓evPre, ↓evPreW, evPost, evPostW, ← List.map_take, ← List.map_drop, ↓reduceIte, reduceCtorEq, Nat.reduceEqDiff, forall_const, implies_true, Nat.reduceAdd, Nat.reduceSub, Nat.reduceMul, Nat.reduceLT, Nat.reduceLeDiff, Int.reduceToNat, Int.reduceAdd, Int.reduceSub, Int.reduceNeg, Int.reduceMul, Int.reduceLT, Int.reduceLE, Int.reduceEq]
            refine ⟨i + 1, ⟨by omega, by omega, ?_⟩, by omega, rfl⟩
            rw [ht, Nat.add_assoc k i 1]
            omega
          · have hu : upC c = false := by simp [upC]; omega
            have hz : tagN 3 (s.drop k) = i := by simpa [tagN, hu] using ht
            obtain ⟨s1, s2, s3, s4⟩ := stop hz
            simp (disch := first | omega | (simp only [List.length_cons, List.length_nil, List.length_map, List.length_drop]; omega)) only [hlt, hlt3, e1, h0, hc, h1, h2, hz, s1, s2, s3, s4, decide_true, decide_false, wrap_i64, ob_app, ob_app0, ob_cons, ob_head, se_app, se_app0, se_cons, se_head, and_self, if_true, ↓evPre, ↓evPreW, evPost, evPostW, ← List.map_take, ← List.map_drop, ↓reduceIte, reduceCtorEq, Nat.reduceEqDiff, forall_const, implies_true, Nat.reduceAdd, Nat.reduceSub, Nat.reduceMul, Nat.reduceLT, Nat.reduceLeDiff, Int.reduceToNat, Int.reduceAdd, Int.reduceSub, Int.reduceNeg, Int.reduceMul, Int.reduceLT, Int.reduceLE, Int.reduceEq]
            rw [decide_eq_true (show i < 3 by omega)]
        · have hu : upC c = false := by simp [upC]; omega
          have hz : tagN 3 (s.drop k) = i := by simpa [tagN, hu] using ht
          obtain ⟨s1, s2, s3, s4⟩ := stop hz
          simp (disch := first | omega | (simp only [List.length_cons, List.length_nil, List.length_map, List.length_drop]; omega)) only [hlt, hlt3, e1, h0, hc, h1, hz, s1, s2, s3, s4, decide_true, decide_false, wrap_i64, ob_app, ob_app0, ob_cons, ob_head, se_app, se_app0, se_cons, se_head, and_self, if_true, ↓evPre, ↓evPreW, evPost, evPostW, ← List.map_take, ← List.map_drop, ↓reduceIte, reduceCtorEq, Nat.reduceEqDiff, forall_const, implies_true, Nat.reduceAdd, Nat.reduceSub, Nat.reduceMul, Nat.reduceLT, Nat.reduceLeDiff, Int.reduceToNat, Int.reduceAdd, Int.reduceSub, Int.reduceNeg, Int.reduceMul, Int.reduceLT, Int.reduceLE, Int.reduceEq]
          rw [decide_eq_true (show i < 3 by omega)]
end Go.Proofs.Ytpblahljlbakdaa
