/- The reader: a tag. -/
import Derived.Test.YtpblahljlbakdaaEdi8
namespace Go.Proofs.Ytpblahljlbakdaa
open Go Go.AL
set_option linter.unusedSimpArgs false

theorem tagN_nil : ∀ n, tagN n [] = 0
  | 0 => rfl
  | _ + 1 => rfl
theorem drop_cons {α : Type} {s : List α} {k : Nat} {c : α} (h : s[k]? = some c) : s.drop k = c :: s.drop (k + 1) := by
  obtain ⟨hlt, rfl⟩ := List.getElem?_eq_some_iff.1 h
  exact List.drop_eq_getElem_cons hlt
theorem tagN_le : ∀ (n : Nat) (l : Txt), tagN n l ≤ n
  | 0, l => by cases l <;> simp [tagN]
  | n + 1, [] => by simp [tagN]
  | n + 1, c :: r => by
    have := tagN_le n r
    simp only [tagN]
    split <;> omega

/-- The lines so far: the cell that names them, and their object. -/
def Outs (S T : Store) (o : V) (rows : List (List V)) : Prop := (o = .nilSl ∧ T = [] ∧ rows = []) ∨ ∃ v, o = .msl (S.length + 1) v 0 rows.length ∧ T = [⟨v, some (.arr 35 2 rows)⟩]

set_option maxRecDepth 20000 in
theorem tag_A (s : Txt) (k : Nat) (S T : Store) (o : V) (rows : List (List V)) (hs : s.length ≤ 65536) (hk : k ≤ s.length) (hr : rows.length ≤ 65536) (ho : Outs S T o rows) :
    CallA Try.prog 37 [.ptr S.length 0 0 0] (S ++ ⟨0, some (.arr 63 3 [[.str s, .int .i64 k, o]])⟩ :: T) fun r S' =>
      if tagN 3 (s.drop k) = 3 then r = .bool true ∧ ∃ v, S' = S ++ [⟨0, some (.arr 63 3 [[.str s, .int .i64 (k + 3 : Nat), .msl (S.length + 1) v 0 (rows.length + 1)]])⟩, ⟨v, some (.arr 35 2 (rows ++ [[.str ((s.drop k).take 3), .nilSl]]))⟩]
      else r = .bool false ∧ S' = S ++ ⟨0, some (.arr 63 3 [[.str s, .int .i64 (k + tagN 3 (s.drop k) : Nat), o]])⟩ :: T := by
  refine CallA.keep Try.func37 c37 (Nat.le_of_ble_eq_true rfl) fun σ hσ => ?_
  simp (disch := first | omega | (simp only [List.length_cons, List.length_nil, List.length_map, List.length_drop]; omega)) only [a37, ob_app, ob_app0, ob_cons, ob_head, se_app, se_app0, se_cons, se_head, ↓evPre, ↓evPreW, evPost, evPostW, ← List.map_take, ← List.map_drop, ↓reduceIte, reduceCtorEq, Nat.reduceEqDiff, forall_const, implies_true, Nat.reduceAdd, Nat.reduceSub, Nat.reduceMul, Nat.reduceLT, Nat.reduceLeDiff, Int.reduceToNat, Int.reduceAdd, Int.reduceSub, Int.reduceNeg, Int.reduceMul, Int.reduceLT, Int.reduceLE, Int.reduceEq]
  refine loopA (ι := Nat) (fun i => [(0, .ptr S.length 0 0 0), (3, .int .i64 k)]) (fun i => S ++ ⟨0, some (.arr 63 3 [[.str s, .int .i64 (k + i : Nat), o]])⟩ :: T) (fun i => i ≤ 3 ∧ k + i ≤ s.length ∧ tagN 3 (s.drop k) = i + tagN (3 - i) (s.drop (k + i))) (fun i => 3 - i) 0 ⟨by omega, by omega, by simp⟩ ?_ rfl ?_
  · simp only [↓evPre, ↓evPreW, evPost, evPostW, ← List.map_take, ← List.map_drop, ↓reduceIte, reduceCtorEq, Nat.reduceEqDiff, forall_const, implies_true, Nat.reduceAdd, Nat.reduceSub, Nat.reduceMul, Nat.reduceLT, Nat.reduceLeDiff, Int.reduceToNat, Int.reduceAdd, Int.reduceSub, Int.reduceNeg, Int.reduceMul, Int.reduceLT, Int.reduceLE, Int.reduceEq]
  · rintro i ⟨hi, hki, ht⟩
    by_cases hlt : ((k + i : Nat) : Int) < (k : Int) + 3
    · cases hc : s[k + i]? with
      | none =>
        have hkl : k + i = s.length := by have := List.getElem?_eq_none_iff.1 hc; omega
        have hkl' : ((k + i : Nat) : Int) = (s.length : Int) := by omega
        rw [show s.drop (k + i) = [] from List.drop_eq_nil_of_le (by omega), tagN_nil] at ht
        have hi3 : ¬ i = 3 := by omega
        have hlt' : (s.length : Int) < (k : Int) + 3 := by omega
        simp (disch := first | omega | (simp only [List.length_cons, List.length_nil, List.length_map, List.length_drop]; omega)) only [hlt', hkl', hi3, ht, if_false, Nat.add_zero, decide_true, wrap_i64, ob_app, ob_app0, ob_cons, ob_head, se_app, se_app0, se_cons, se_head, ↓evPre, ↓evPreW, evPost, evPostW, ← List.map_take, ← List.map_drop, ↓reduceIte, reduceCtorEq, Nat.reduceEqDiff, forall_const, implies_true, Nat.reduceAdd, Nat.reduceSub, Nat.reduceMul, Nat.reduceLT, Nat.reduceLeDiff, Int.reduceToNat, Int.reduceAdd, Int.reduceSub, Int.reduceNeg, Int.reduceMul, Int.reduceLT, Int.reduceLE, Int.reduceEq]
      | some c =>
        have hlt2 := (List.getElem?_eq_some_iff.1 hc).1
        have hne : ¬ ((k + i : Nat) : Int) = (s.length : Int) := by omega
        rw [drop_cons hc, show 3 - i = (3 - (i + 1)) + 1 by omega] at ht
        have e1 : (((k + i : Nat) : Int)).toNat = k + i := by omega
        have h0 : 0 ≤ ((k + i : Nat) : Int) := by omega
        by_cases h1 : (c.toNat : Int) < 65
        · have hu : upC c = false := by simp [upC]; omega
          have hz : tagN 3 (s.drop k) = i := by simpa [tagN, hu] using ht
          have hi3 : ¬ i = 3 := by omega
          simp (disch := first | omega | (simp only [List.length_cons, List.length_nil, List.length_map, List.length_drop]; omega)) only [hlt, hne, e1, h0, hc, h1, hi3, hz, if_false, decide_true, decide_false, wrap_i64, ob_app, ob_app0, ob_cons, ob_head, se_app, se_app0, se_cons, se_head, ↓evPre, ↓evPreW, evPost, evPostW, ← List.map_take, ← List.map_drop, ↓reduceIte, reduceCtorEq, Nat.reduceEqDiff, forall_const, implies_true, Nat.reduceAdd, Nat.reduceSub, Nat.reduceMul, Nat.reduceLT, Nat.reduceLeDiff, Int.reduceToNat, Int.reduceAdd, Int.reduceSub, Int.reduceNeg, Int.reduceMul, Int.reduceLT, Int.reduceLE, Int.reduceEq]
        · by_cases h2 : 90 < (c.toNat : Int)
          · have hu : upC c = false := by simp [upC]; omega
            have hz : tagN 3 (s.drop k) = i := by simpa [tagN, hu] using ht
            have hi3 : ¬ i = 3 := by omega
            simp (disch := first | omega | (simp only [List.length_cons, List.length_nil, List.length_map, List.length_drop]; omega)) only [hlt, hne, e1, h0, hc, h1, h2, hi3, hz, if_false, decide_true, decide_false, wrap_i64, ob_app, ob_app0, ob_cons, ob_head, se_app, se_app0, se_cons, se_head, ↓evPre, ↓evPreW, evPost, evPostW, ← List.map_take, ← List.map_drop, ↓reduceIte, reduceCtorEq, Nat.reduceEqDiff, forall_const, implies_true, Nat.reduceAdd, Nat.reduceSub, Nat.reduceMul, Nat.reduceLT, Nat.reduceLeDiff, Int.reduceToNat, Int.reduceAdd, Int.reduceSub, Int.reduceNeg, Int.reduceMul, Int.reduceLT, Int.reduceLE, Int.reduceEq]
          · have hu : upC c = true := by simp [upC]; omega
            simp only [tagN, hu, if_true] at ht
            simp (disch := first | omega | (simp only [List.length_cons, List.length_nil, List.length_map, List.length_drop]; omega)) only [hlt, hne, e1, h0, hc, h1, h2, decide_true, decide_false, wrap_i64, ob_app, ob_app0, ob_cons, ob_head, se_app, se_app0, se_cons, se_head, ↓evPre, ↓evPreW, evPost, evPostW, ← List.map_take, ← List.map_drop, ↓reduceIte, reduceCtorEq, Nat.reduceEqDiff, forall_const, implies_true, Nat.reduceAdd, Nat.reduceSub, Nat.reduceMul, Nat.reduceLT, Nat.reduceLeDiff, Int.reduceToNat, Int.reduceAdd, Int.reduceSub, Int.reduceNeg, Int.reduceMul, Int.reduceLT, Int.reduceLE, Int.reduceEq]
            refine ⟨i + 1, ⟨by omega, by omega, ?_⟩, by omega, rfl⟩
            rw [ht, Nat.add_assoc k i 1]
            omega
    · have hi3 : i = 3 := by omega
      subst hi3
      have ht3 : tagN 3 (s.drop k) = 3 := by rw [ht]; simp [tagN]
      have hb1 : (k : Int) ≤ ((k + 3 : Nat) : Int) := by omega
      have hb2 : ((k + 3 : Nat) : Int) ≤ (s.length : Int) := by omega
      have e3 : k + 3 - k = 3 := by omega
      rcases ho with ⟨rfl, rfl, rfl⟩ | ⟨v, rfl, rfl⟩
      · simp (disch := first | omega | (simp only [List.length_cons, List.length_nil, List.length_map, List.length_drop]; omega)) only [hlt, ht3, hb1, hb2, e3, roomA, if_true, wrap_i64, ob_app, ob_app0, ob_cons, ob_head, se_app, se_app0, se_cons, se_head, ap_app, le_app, List.cons_append, List.nil_append, List.length_cons, List.length_nil, ↓evPre, ↓evPreW, evPost, evPostW, ← List.map_take, ← List.map_drop, ↓reduceIte, reduceCtorEq, Nat.reduceEqDiff, forall_const, implies_true, Nat.reduceAdd, Nat.reduceSub, Nat.reduceMul, Nat.reduceLT, Nat.reduceLeDiff, Int.reduceToNat, Int.reduceAdd, Int.reduceSub, Int.reduceNeg, Int.reduceMul, Int.reduceLT, Int.reduceLE, Int.reduceEq]
        exact ⟨_, rfl⟩
      · simp (disch := first | omega | (simp only [List.length_cons, List.length_nil, List.length_map, List.length_drop]; omega)) only [hlt, ht3, hb1, hb2, e3, roomA, if_true, wrap_i64, ob_app, ob_app0, ob_cons, ob_head, se_app, se_app0, se_cons, se_head, ap_app, le_app, List.cons_append, List.nil_append, List.length_cons, List.length_nil, ↓evPre, ↓evPreW, evPost, evPostW, ← List.map_take, ← List.map_drop, ↓reduceIte, reduceCtorEq, Nat.reduceEqDiff, forall_const, implies_true, Nat.reduceAdd, Nat.reduceSub, Nat.reduceMul, Nat.reduceLT, Nat.reduceLeDiff, Int.reduceToNat, Int.reduceAdd, Int.reduceSub, Int.reduceNeg, Int.reduceMul, Int.reduceLT, Int.reduceLE, Int.reduceEq]
        exact ⟨by omega, _, rfl⟩
end Go.Proofs.Ytpblahljlbakdaa
