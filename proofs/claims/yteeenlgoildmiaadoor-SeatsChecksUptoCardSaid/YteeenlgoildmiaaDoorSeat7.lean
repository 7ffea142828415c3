/- Numbers' digits; violations compared. -/
import Derived.Test.YteeenlgoildmiaaDoorSeat6
namespace Go.Proofs.YteeenlgoildmiaaDoor
open Go Go.AL
set_option linter.unusedSimpArgs false
set_option linter.unusedVariables false

/-! ### Numbers -/
def decB (n : Nat) : Txt := if n < 10 then [UInt8.ofNat (48 + n)] else [UInt8.ofNat (48 + n / 10), UInt8.ofNat (48 + n % 10)]
def dg36 : Txt := [48, 49, 50, 51, 52, 53, 54, 55, 56, 57, 97, 98, 99, 100, 101, 102, 103, 104, 105, 106, 107, 108, 109, 110, 111, 112, 113, 114, 115, 116, 117, 118, 119, 120, 121, 122]
def dg10 : Txt := [48, 49, 50, 51, 52, 53, 54, 55, 56, 57]
def dg100 : Txt := (List.range 100).flatMap fun n => [UInt8.ofNat (48 + n / 10), UInt8.ofNat (48 + n % 10)]
theorem dg36_at {n : Nat} (h : n < 10) : (dg36.drop n).take 1 = decB n := by
  have : ∀ n : Fin 10, (dg36.drop n.val).take 1 = decB n.val := by decide +kernel
  exact this ⟨n, h⟩
theorem dg10_at {n : Nat} (h : n < 10) : (dg10.drop n).take 1 = decB n := by
  have : ∀ n : Fin 10, (dg10.drop n.val).take 1 = decB n.val := by decide +kernel
  exact this ⟨n, h⟩
theorem dg100_at {n : Nat} (h : n < 100) (h2 : ¬ n < 10) : (dg100.drop (2 * n)).take 2 = decB n := by
  have : ∀ n : Fin 100, ¬ n.val < 10 → (dg100.drop (2 * n.val)).take 2 = decB n.val := by decide +kernel
  exact this ⟨n, h⟩ h2

theorem decB_len (n : Nat) : (decB n).length ≤ 2 := by unfold decB; split <;> simp

set_option maxRecDepth 100000 in
theorem small_A (n : Nat) (S : Store) (hn : n < 100) : CallA Tryd.prog 48 [.int .i64 n] S fun r S' => r = .str (decB n) ∧ S' = S := by
  refine CallA.keep Tryd.func48 c48 (Nat.le_of_ble_eq_true rfl) fun σ hσ => ?_
  by_cases h : n < 10
  · have h' : (n : Int) < 10 := by omega
    have hc : (n : Int) + 1 = ((n + 1 : Nat) : Int) := by omega
    have hs : cutS [48, 49, 50, 51, 52, 53, 54, 55, 56, 57, 97, 98, 99, 100, 101, 102, 103, 104, 105, 106, 107, 108, 109, 110, 111, 112, 113, 114, 115, 116, 117, 118, 119, 120, 121, 122] (some (n : Int)) (some ((n + 1 : Nat) : Int)) = some (.str (decB n)) := by
      rw [cutS_some, if_pos ⟨by omega, by omega, by simp only [List.length_cons, List.length_nil]; omega⟩, ← dg36_at h, Int.toNat_natCast, Int.toNat_natCast, Nat.add_sub_cancel_left]
      rfl
    simp (disch := omega) only [a48, h', hc, hs, wrap_i64, decide_true, ↓evPre, ↓evPreW, evPost, evPostW, ← List.map_take, ← List.map_drop, ↓reduceIte, reduceCtorEq, Nat.reduceEqDiff, forall_const, implies_true, Nat.reduceAdd, Nat.reduceSub, Nat.reduceMul, Nat.reduceLT, Nat.reduceLeDiff, Int.reduceToNat, Int.reduceAdd, Int.reduceSub, Int.reduceNeg, Int.reduceMul, Int.reduceLT, Int.reduceLE, Int.reduceEq]
  · have h' : ¬ (n : Int) < 10 := by omega
    have hc : (n : Int) * 2 = ((2 * n : Nat) : Int) := by omega
    have hc2 : ((2 * n : Nat) : Int) + 2 = ((2 * n + 2 : Nat) : Int) := by omega
    have hs : cutS dg100 (some ((2 * n : Nat) : Int)) (some ((2 * n + 2 : Nat) : Int)) = some (.str (decB n)) := by
      rw [cutS_some, if_pos ⟨by omega, by omega, by have : dg100.length = 200 := by decide +kernel
                                                    rw [this]; omega⟩, ← dg100_at hn h, Int.toNat_natCast, Int.toNat_natCast, Nat.add_sub_cancel_left]
    have hl : ([48, 48, 48, 49, 48, 50, 48, 51, 48, 52, 48, 53, 48, 54, 48, 55, 48, 56, 48, 57, 49, 48, 49, 49, 49, 50, 49, 51, 49, 52, 49, 53, 49, 54, 49, 55, 49, 56, 49, 57, 50, 48, 50, 49, 50, 50, 50, 51, 50, 52, 50, 53, 50, 54, 50, 55, 50, 56, 50, 57, 51, 48, 51, 49, 51, 50, 51, 51, 51, 52, 51, 53, 51, 54, 51, 55, 51, 56, 51, 57, 52, 48, 52, 49, 52, 50, 52, 51, 52, 52, 52, 53, 52, 54, 52, 55, 52, 56, 52, 57, 53, 48, 53, 49, 53, 50, 53, 51, 53, 52, 53, 53, 53, 54, 53, 55, 53, 56, 53, 57, 54, 48, 54, 49, 54, 50, 54, 51, 54, 52, 54, 53, 54, 54, 54, 55, 54, 56, 54, 57, 55, 48, 55, 49, 55, 50, 55, 51, 55, 52, 55, 53, 55, 54, 55, 55, 55, 56, 55, 57, 56, 48, 56, 49, 56, 50, 56, 51, 56, 52, 56, 53, 56, 54, 56, 55, 56, 56, 56, 57, 57, 48, 57, 49, 57, 50, 57, 51, 57, 52, 57, 53, 57, 54, 57, 55, 57, 56, 57, 57] : Txt) = dg100 := by decide +kernel
    simp only [a48, hl]
    simp (disch := omega) only [h', hc, hc2, hs, wrap_i64, decide_false, ↓evPre, ↓evPreW, evPost, evPostW, ← List.map_take, ← List.map_drop, ↓reduceIte, reduceCtorEq, Nat.reduceEqDiff, forall_const, implies_true, Nat.reduceAdd, Nat.reduceSub, Nat.reduceMul, Nat.reduceLT, Nat.reduceLeDiff, Int.reduceToNat, Int.reduceAdd, Int.reduceSub, Int.reduceNeg, Int.reduceMul, Int.reduceLT, Int.reduceLE, Int.reduceEq]

theorem formatInt_A (n : Nat) (S : Store) (hn : n < 100) : CallA Tryd.prog 45 [.int .i64 n, .int .i64 10] S fun r S' => r = .str (decB n) ∧ S' = S := by
  refine CallA.keep Tryd.func45 c45 (Nat.le_of_ble_eq_true rfl) fun σ hσ => ?_
  have h1 : (0 : Int) ≤ n := by omega
  have h2 : (n : Int) < 100 := by omega
  simp only [a45, h1, h2, decide_true, ↓evPre, ↓evPreW, evPost, evPostW, ← List.map_take, ← List.map_drop, ↓reduceIte, reduceCtorEq, Nat.reduceEqDiff, forall_const, implies_true, Nat.reduceAdd, Nat.reduceSub, Nat.reduceMul, Nat.reduceLT, Nat.reduceLeDiff, Int.reduceToNat, Int.reduceAdd, Int.reduceSub, Int.reduceNeg, Int.reduceMul, Int.reduceLT, Int.reduceLE, Int.reduceEq]
  refine (small_A n S hn).then ?_
  simp only [↓evPre, ↓evPreW, evPost, evPostW, ← List.map_take, ← List.map_drop, ↓reduceIte, reduceCtorEq, Nat.reduceEqDiff, forall_const, implies_true, Nat.reduceAdd, Nat.reduceSub, Nat.reduceMul, Nat.reduceLT, Nat.reduceLeDiff, Int.reduceToNat, Int.reduceAdd, Int.reduceSub, Int.reduceNeg, Int.reduceMul, Int.reduceLT, Int.reduceLE, Int.reduceEq]

theorem itoaI_A (n : Nat) (S : Store) (hn : n < 100) : CallA Tryd.prog 38 [.int .i64 n] S fun r S' => r = .str (decB n) ∧ S' = S := by
  refine CallA.keep Tryd.func38 c38 (Nat.le_of_ble_eq_true rfl) fun σ hσ => ?_
  simp only [a38, ↓evPre, ↓evPreW, evPost, evPostW, ← List.map_take, ← List.map_drop, ↓reduceIte, reduceCtorEq, Nat.reduceEqDiff, forall_const, implies_true, Nat.reduceAdd, Nat.reduceSub, Nat.reduceMul, Nat.reduceLT, Nat.reduceLeDiff, Int.reduceToNat, Int.reduceAdd, Int.reduceSub, Int.reduceNeg, Int.reduceMul, Int.reduceLT, Int.reduceLE, Int.reduceEq]
  refine (formatInt_A n S hn).then ?_
  simp only [↓evPre, ↓evPreW, evPost, evPostW, ← List.map_take, ← List.map_drop, ↓reduceIte, reduceCtorEq, Nat.reduceEqDiff, forall_const, implies_true, Nat.reduceAdd, Nat.reduceSub, Nat.reduceMul, Nat.reduceLT, Nat.reduceLeDiff, Int.reduceToNat, Int.reduceAdd, Int.reduceSub, Int.reduceNeg, Int.reduceMul, Int.reduceLT, Int.reduceLE, Int.reduceEq]

theorem itoa_A (n : Nat) (S : Store) (hn : n < 100) : CallA Tryd.prog 29 [.int .i64 n] S fun r S' => r = .str (decB n) ∧ S' = S := by
  refine CallA.keep Tryd.func29 c29 (Nat.le_of_ble_eq_true rfl) fun σ hσ => ?_
  simp only [a29, ↓evPre, ↓evPreW, evPost, evPostW, ← List.map_take, ← List.map_drop, ↓reduceIte, reduceCtorEq, Nat.reduceEqDiff, forall_const, implies_true, Nat.reduceAdd, Nat.reduceSub, Nat.reduceMul, Nat.reduceLT, Nat.reduceLeDiff, Int.reduceToNat, Int.reduceAdd, Int.reduceSub, Int.reduceNeg, Int.reduceMul, Int.reduceLT, Int.reduceLE, Int.reduceEq]
  refine (itoaI_A n S hn).then ?_
  simp only [↓evPre, ↓evPreW, evPost, evPostW, ← List.map_take, ← List.map_drop, ↓reduceIte, reduceCtorEq, Nat.reduceEqDiff, forall_const, implies_true, Nat.reduceAdd, Nat.reduceSub, Nat.reduceMul, Nat.reduceLT, Nat.reduceLeDiff, Int.reduceToNat, Int.reduceAdd, Int.reduceSub, Int.reduceNeg, Int.reduceMul, Int.reduceLT, Int.reduceLE, Int.reduceEq]

theorem digit_A (n : Nat) (S : Store) (hn : n < 10) : CallA Tryd.prog 40 [.int .u64 n] S fun r S' => r = .str (decB n) ∧ S' = S := by
  refine CallA.keep Tryd.func40 c40 (Nat.le_of_ble_eq_true rfl) fun σ hσ => ?_
  have h' : (n : Int) < 10 := by omega
  have hc : (n : Int) + 1 = ((n + 1 : Nat) : Int) := by omega
  have hs : cutS [48, 49, 50, 51, 52, 53, 54, 55, 56, 57] (some (n : Int)) (some ((n + 1 : Nat) : Int)) = some (.str (decB n)) := by
    rw [cutS_some, if_pos ⟨by omega, by omega, by simp only [List.length_cons, List.length_nil]; omega⟩, ← dg10_at hn, Int.toNat_natCast, Int.toNat_natCast, Nat.add_sub_cancel_left]
    rfl
  simp (disch := omega) only [a40, h', hc, hs, wrap_u64, decide_true, ↓evPre, ↓evPreW, evPost, evPostW, ← List.map_take, ← List.map_drop, ↓reduceIte, reduceCtorEq, Nat.reduceEqDiff, forall_const, implies_true, Nat.reduceAdd, Nat.reduceSub, Nat.reduceMul, Nat.reduceLT, Nat.reduceLeDiff, Int.reduceToNat, Int.reduceAdd, Int.reduceSub, Int.reduceNeg, Int.reduceMul, Int.reduceLT, Int.reduceLE, Int.reduceEq]

theorem digits_A (n : Nat) (S : Store) (hn : n < 100) : CallA Tryd.prog 40 [.int .u64 n] S fun r S' => r = .str (decB n) ∧ S' = S := by
  by_cases h : n < 10
  · exact digit_A n S h
  refine CallA.keep Tryd.func40 c40 (Nat.le_of_ble_eq_true rfl) fun σ hσ => ?_
  have h' : ¬ (n : Int) < 10 := by omega
  have e1 : (n : Int).tdiv 10 = ((n / 10 : Nat) : Int) := by rw [Int.tdiv_eq_ediv_of_nonneg (by omega)]; omega
  have e2 : (n : Int).tmod 10 = ((n % 10 : Nat) : Int) := by rw [Int.tmod_eq_emod_of_nonneg (by omega)]; omega
  have hc : ((n % 10 : Nat) : Int) + 1 = ((n % 10 + 1 : Nat) : Int) := by omega
  have hs : cutS [48, 49, 50, 51, 52, 53, 54, 55, 56, 57] (some ((n % 10 : Nat) : Int)) (some ((n % 10 + 1 : Nat) : Int)) = some (.str (decB (n % 10))) := by
    have h10 : n % 10 < 10 := by omega
    rw [cutS_some, if_pos ⟨by omega, by omega, by simp only [List.length_cons, List.length_nil]; omega⟩, ← dg10_at h10, Int.toNat_natCast, Int.toNat_natCast, Nat.add_sub_cancel_left]
    rfl
  have ha : binV .add (.str (decB (n / 10))) (.str (decB (n % 10))) = some (.str (decB (n / 10) ++ decB (n % 10))) := bs_add (by have := decB_len (n / 10); have := decB_len (n % 10); unfold maxLen; omega)
  have he : decB n = decB (n / 10) ++ decB (n % 10) := by
    have g1 : n / 10 < 10 := by omega
    have g2 : n % 10 < 10 := by omega
    simp only [decB, if_neg h, if_pos g1, if_pos g2, List.singleton_append]
  simp (disch := omega) only [a40, h', e1, e2, hc, hs, wrap_u64, decide_false, ↓evPre, ↓evPreW, evPost, evPostW, ← List.map_take, ← List.map_drop, ↓reduceIte, reduceCtorEq, Nat.reduceEqDiff, forall_const, implies_true, Nat.reduceAdd, Nat.reduceSub, Nat.reduceMul, Nat.reduceLT, Nat.reduceLeDiff, Int.reduceToNat, Int.reduceAdd, Int.reduceSub, Int.reduceNeg, Int.reduceMul, Int.reduceLT, Int.reduceLE, Int.reduceEq]
  refine (digit_A (n / 10) S (by omega)).then ?_
  simp (disch := omega) only [h', e1, e2, hc, hs, he, ha, wrap_u64, decide_false, ↓evPre, ↓evPreW, evPost, evPostW, ← List.map_take, ← List.map_drop, ↓reduceIte, reduceCtorEq, Nat.reduceEqDiff, forall_const, implies_true, Nat.reduceAdd, Nat.reduceSub, Nat.reduceMul, Nat.reduceLT, Nat.reduceLeDiff, Int.reduceToNat, Int.reduceAdd, Int.reduceSub, Int.reduceNeg, Int.reduceMul, Int.reduceLT, Int.reduceLE, Int.reduceEq]

theorem decimal_A (n : Nat) (S : Store) (hn : n < 100) : CallA Tryd.prog 32 [.int .i64 n] S fun r S' => r = .str (decB n) ∧ S' = S := by
  refine CallA.keep Tryd.func32 c32 (Nat.le_of_ble_eq_true rfl) fun σ hσ => ?_
  have h' : ¬ (n : Int) < 0 := by omega
  simp (disch := omega) only [a32, h', wrap_u64, decide_false, ↓evPre, ↓evPreW, evPost, evPostW, ← List.map_take, ← List.map_drop, ↓reduceIte, reduceCtorEq, Nat.reduceEqDiff, forall_const, implies_true, Nat.reduceAdd, Nat.reduceSub, Nat.reduceMul, Nat.reduceLT, Nat.reduceLeDiff, Int.reduceToNat, Int.reduceAdd, Int.reduceSub, Int.reduceNeg, Int.reduceMul, Int.reduceLT, Int.reduceLE, Int.reduceEq]
  refine (digits_A n S hn).then ?_
  simp only [↓evPre, ↓evPreW, evPost, evPostW, ← List.map_take, ← List.map_drop, ↓reduceIte, reduceCtorEq, Nat.reduceEqDiff, forall_const, implies_true, Nat.reduceAdd, Nat.reduceSub, Nat.reduceMul, Nat.reduceLT, Nat.reduceLeDiff, Int.reduceToNat, Int.reduceAdd, Int.reduceSub, Int.reduceNeg, Int.reduceMul, Int.reduceLT, Int.reduceLE, Int.reduceEq]

/-! ### Violations -/
structure Flt where
  err : Int
  at_ : Txt
  deriving DecidableEq
def fltR (f : Flt) : List V := [.int .i64 f.err, .str f.at_]
def fltSl (l : List Flt) : V := .sl 2 (l.map fltR)

theorem same_A (l m : List Flt) (S : Store) (hl : l.length ≤ 1099511627776) : CallA Tryd.prog 13 [fltSl l, fltSl m] S fun r S' => r = .bool (decide (l = m)) ∧ S' = S := by
  refine CallA.keep Tryd.func13 c13 (Nat.le_of_ble_eq_true rfl) fun σ hσ => ?_
  simp only [a13, fltSl, List.length_map, ↓evPre, ↓evPreW, evPost, evPostW, ← List.map_take, ← List.map_drop, ↓reduceIte, reduceCtorEq, Nat.reduceEqDiff, forall_const, implies_true, Nat.reduceAdd, Nat.reduceSub, Nat.reduceMul, Nat.reduceLT, Nat.reduceLeDiff, Int.reduceToNat, Int.reduceAdd, Int.reduceSub, Int.reduceNeg, Int.reduceMul, Int.reduceLT, Int.reduceLE, Int.reduceEq]
  refine ⟨fun h => ?_, fun h => ?_⟩
  · have : ¬ l = m := fun e => h (by rw [e])
    simp [this]
  · have hm : l.length = m.length := by omega
    refine loopA (ι := Nat) (fun k => [(0, fltSl l), (1, fltSl m), (5, .int .i64 k)]) (fun _ => S) (fun k => k ≤ l.length ∧ l.take k = m.take k) (fun k => l.length - k) 0 ⟨Nat.zero_le _, rfl⟩ ?_ rfl ?_
    · simp only [fltSl, ↓evPre, ↓evPreW, evPost, evPostW, ← List.map_take, ← List.map_drop, ↓reduceIte, reduceCtorEq, Nat.reduceEqDiff, forall_const, implies_true, Nat.reduceAdd, Nat.reduceSub, Nat.reduceMul, Nat.reduceLT, Nat.reduceLeDiff, Int.reduceToNat, Int.reduceAdd, Int.reduceSub, Int.reduceNeg, Int.reduceMul, Int.reduceLT, Int.reduceLE, Int.reduceEq]
    · rintro k ⟨hk, hinv⟩
      cases hc : l[k]? with
      | none =>
        have hlt : ¬ ((k : Int) < l.length) := by rw [List.getElem?_eq_none_iff] at hc; omega
        have e : l = m := by rw [List.take_of_length_le (by omega), List.take_of_length_le (by omega)] at hinv; exact hinv
        have e' : decide (l = m) = true := by simp [e]
        simp (disch := omega) only [fltSl, List.length_map, wrap_i64, hc, hlt, e', decide_false, ↓evPre, ↓evPreW, evPost, evPostW, ← List.map_take, ← List.map_drop, ↓reduceIte, reduceCtorEq, Nat.reduceEqDiff, forall_const, implies_true, Nat.reduceAdd, Nat.reduceSub, Nat.reduceMul, Nat.reduceLT, Nat.reduceLeDiff, Int.reduceToNat, Int.reduceAdd, Int.reduceSub, Int.reduceNeg, Int.reduceMul, Int.reduceLT, Int.reduceLE, Int.reduceEq]
      | some c =>
        have hlt' := (List.getElem?_eq_some_iff.1 hc).1
        have hlt : (k : Int) < l.length := by omega
        have hd : m[k]? = some m[k] := List.getElem?_eq_getElem (by omega)
        simp (disch := first | omega | (simp only [List.length_cons, List.length_nil, List.length_map, List.length_drop]; omega)) only [fltSl, fltR, List.length_map, wrap_i64, hc, hd, hlt, List.take_succ_cons, List.take_zero, List.getElem?_map, Option.map_some, ↓evPre, ↓evPreW, evPost, evPostW, ← List.map_take, ← List.map_drop, ↓reduceIte, reduceCtorEq, Nat.reduceEqDiff, forall_const, implies_true, Nat.reduceAdd, Nat.reduceSub, Nat.reduceMul, Nat.reduceLT, Nat.reduceLeDiff, Int.reduceToNat, Int.reduceAdd, Int.reduceSub, Int.reduceNeg, Int.reduceMul, Int.reduceLT, Int.reduceLE, Int.reduceEq]
        refine ⟨fun h => ?_, fun h => ⟨k + 1, ⟨by omega, ?_⟩, by omega, rfl⟩⟩
        · have : ¬ l = m := fun e => by
            subst e
            rw [hc] at hd
            have hd' := Option.some.inj hd
            rw [← hd'] at h
            simp at h
          simp [this]
        · have e : c = m[k] := by
            simp only [Bool.and_eq_true, decide_eq_true_eq] at h
            generalize m[k] = d at h
            obtain ⟨a1, a2⟩ := c
            obtain ⟨b1, b2⟩ := d
            simp only at h
            rw [h.1, h.2]
          rw [List.take_add_one, List.take_add_one, hinv, hc, hd, e]
end Go.Proofs.YteeenlgoildmiaaDoor
