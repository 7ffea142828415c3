/- Numbers' digits; violations compared. -/
import Derived.Test.YtjjdfkkfhbndiaaDoorQStSeat4
namespace Go.Proofs.YtjjdfkkfhbndiaaDoor.St
open Go Go.AL
set_option linter.unusedSectionVars false
variable [Go.AL.Mode]
set_option linter.unusedSimpArgs false
set_option linter.unusedVariables false
def decB (n : Nat) : Txt := if n < 10 then [UInt8.ofNat (48 + n)] else [UInt8.ofNat (48 + n / 10), UInt8.ofNat (48 + n % 10)]
def dg36 : Txt := [48, 49, 50, 51, 52, 53, 54, 55, 56, 57, 97, 98, 99, 100, 101, 102, 103, 104, 105, 106, 107, 108, 109, 110, 111, 112, 113, 114, 115, 116, 117, 118, 119, 120, 121, 122]
def dg100 : Txt := (List.range 100).flatMap fun n => [UInt8.ofNat (48 + n / 10), UInt8.ofNat (48 + n % 10)]
theorem dg36_at {n : Nat} (h : n < 10) : (dg36.drop n).take 1 = decB n := by
  have : ∀ n : Fin 10, (dg36.drop n.val).take 1 = decB n.val := by decide +kernel
  exact this ⟨n, h⟩
theorem dg100_at {n : Nat} (h : n < 100) (h2 : ¬ n < 10) : (dg100.drop (2 * n)).take 2 = decB n := by
  have : ∀ n : Fin 100, ¬ n.val < 10 → (dg100.drop (2 * n.val)).take 2 = decB n.val := by decide +kernel
  exact this ⟨n, h⟩ h2
set_option maxRecDepth 100000 in
theorem small_A (n : Nat) (S : Store) (hn : n < 100) : CallA Tryd.prog 60 [.int .i64 n] S fun r S' => r = .str (decB n) ∧ S' = S := by
  refine CallA.keep Tryd.func60 c3048 (Nat.le_of_ble_eq_true rfl) fun σ hσ => ?_
  by_cases h : n < 10
  · have h' : (n : Int) < 10 := by omega
    have hc : (n : Int) + 1 = ((n + 1 : Nat) : Int) := by omega
    have hs : cutS [48, 49, 50, 51, 52, 53, 54, 55, 56, 57, 97, 98, 99, 100, 101, 102, 103, 104, 105, 106, 107, 108, 109, 110, 111, 112, 113, 114, 115, 116, 117, 118, 119, 120, 121, 122] (some (n : Int)) (some ((n + 1 : Nat) : Int)) = some (.str (decB n)) := by
      rw [cutS_some, if_pos ⟨by omega, by omega, by simp only [List.length_cons, List.length_nil]; omega⟩, ← dg36_at h, Int.toNat_natCast, Int.toNat_natCast, Nat.add_sub_cancel_left]
      rfl
    simp (disch := omega) only [a3048, h', hc, hs, wrap_i64, decide_true, ↓evPre, ↓evPreW, evPost, evPostW, evR, evU, seval]
  · have h' : ¬ (n : Int) < 10 := by omega
    have hc : (n : Int) * 2 = ((2 * n : Nat) : Int) := by omega
    have hc2 : ((2 * n : Nat) : Int) + 2 = ((2 * n + 2 : Nat) : Int) := by omega
    have hs : cutS dg100 (some ((2 * n : Nat) : Int)) (some ((2 * n + 2 : Nat) : Int)) = some (.str (decB n)) := by
      rw [cutS_some, if_pos ⟨by omega, by omega, by have : dg100.length = 200 := by decide +kernel
                                                    rw [this]; omega⟩, ← dg100_at hn h, Int.toNat_natCast, Int.toNat_natCast, Nat.add_sub_cancel_left]
    have hl : ([48, 48, 48, 49, 48, 50, 48, 51, 48, 52, 48, 53, 48, 54, 48, 55, 48, 56, 48, 57, 49, 48, 49, 49, 49, 50, 49, 51, 49, 52, 49, 53, 49, 54, 49, 55, 49, 56, 49, 57, 50, 48, 50, 49, 50, 50, 50, 51, 50, 52, 50, 53, 50, 54, 50, 55, 50, 56, 50, 57, 51, 48, 51, 49, 51, 50, 51, 51, 51, 52, 51, 53, 51, 54, 51, 55, 51, 56, 51, 57, 52, 48, 52, 49, 52, 50, 52, 51, 52, 52, 52, 53, 52, 54, 52, 55, 52, 56, 52, 57, 53, 48, 53, 49, 53, 50, 53, 51, 53, 52, 53, 53, 53, 54, 53, 55, 53, 56, 53, 57, 54, 48, 54, 49, 54, 50, 54, 51, 54, 52, 54, 53, 54, 54, 54, 55, 54, 56, 54, 57, 55, 48, 55, 49, 55, 50, 55, 51, 55, 52, 55, 53, 55, 54, 55, 55, 55, 56, 55, 57, 56, 48, 56, 49, 56, 50, 56, 51, 56, 52, 56, 53, 56, 54, 56, 55, 56, 56, 56, 57, 57, 48, 57, 49, 57, 50, 57, 51, 57, 52, 57, 53, 57, 54, 57, 55, 57, 56, 57, 57] : Txt) = dg100 := by decide +kernel
    simp only [a3048, hl]
    simp (disch := omega) only [h', hc, hc2, hs, wrap_i64, decide_false, ↓evPre, ↓evPreW, evPost, evPostW, evR, evU, seval]
theorem formatInt_A (n : Nat) (S : Store) (hn : n < 100) : CallA Tryd.prog 52 [.int .i64 n, .int .i64 10] S fun r S' => r = .str (decB n) ∧ S' = S := by
  refine CallA.keep Tryd.func52 c3045 (Nat.le_of_ble_eq_true rfl) fun σ hσ => ?_
  have h1 : (0 : Int) ≤ n := by omega
  have h2 : (n : Int) < 100 := by omega
  simp only [a3045, h1, h2, decide_true, ↓evPre, ↓evPreW, evPost, evPostW, evR, evU, seval]
  refine (small_A n S hn).then ?_
  simp only [↓evPre, ↓evPreW, evPost, evPostW, evR, evU, seval]
theorem itoaI_A (n : Nat) (S : Store) (hn : n < 100) : CallA Tryd.prog 39 [.int .i64 n] S fun r S' => r = .str (decB n) ∧ S' = S := by
  refine CallA.keep Tryd.func39 c3038 (Nat.le_of_ble_eq_true rfl) fun σ hσ => ?_
  simp only [a3038, ↓evPre, ↓evPreW, evPost, evPostW, evR, evU, seval]
  refine (formatInt_A n S hn).then ?_
  simp only [↓evPre, ↓evPreW, evPost, evPostW, evR, evU, seval]
theorem itoa_A (n : Nat) (S : Store) (hn : n < 100) : CallA Tryd.prog 18 [.int .i64 n] S fun r S' => r = .str (decB n) ∧ S' = S := by
  refine CallA.keep Tryd.func18 c3029 (Nat.le_of_ble_eq_true rfl) fun σ hσ => ?_
  simp only [a3029, ↓evPre, ↓evPreW, evPost, evPostW, evR, evU, seval]
  refine (itoaI_A n S hn).then ?_
  simp only [↓evPre, ↓evPreW, evPost, evPostW, evR, evU, seval]
structure Flt where
  err : Int
  at_ : Txt
  deriving DecidableEq
end Go.Proofs.YtjjdfkkfhbndiaaDoor.St
/- Seats that were there before. -/
namespace Go.Proofs.YtjjdfkkfhbndiaaDoor.St
open Go Go.AL
set_option linter.unusedSectionVars false
variable [Go.AL.Mode]
set_option linter.unusedSimpArgs false
set_option linter.unusedVariables false
def sameS (s x : Sea) : Bool := decide (x.row = s.row) && decide (x.letter = s.letter)
theorem sameS_A (s x : Sea) (id : Nat) (S : Store) (hob : S.obj? id 0 = some (39, 3, [seaR s])) : CallA Tryd.prog 20 [.agg (seaR x), .ptr id 0 0 0] S fun r S' => r = .bool (sameS s x) ∧ S' = S := by
  refine CallA.keep Tryd.func20 c3031 (Nat.le_of_ble_eq_true rfl) fun σ hσ => ?_
  by_cases h : x.row = s.row
  · have e : sameS s x = decide (x.letter = s.letter) := by simp [sameS, h]
    rw [e]
    unfold seaR at hob
    simp (disch := first | omega | (simp only [lenT]; omega)) only [a3031, seaR, hob, h, eq_self, decide_true, List.getElem?_cons_zero, evSt, ↓evPre, ↓evPreW, evPost, evPostW, evR, evU, seval]
  · have e : sameS s x = false := by simp [sameS, h]
    rw [e]
    unfold seaR at hob
    simp (disch := first | omega | (simp only [lenT]; omega)) only [a3031, seaR, hob, h, decide_false, List.getElem?_cons_zero, evSt, ↓evPre, ↓evPreW, evPost, evPostW, evR, evU, seval]
theorem anySame_A (l : List Sea) (s : Sea) (id : Nat) (S : Store) (hl : l.length ≤ 1099511627776) (hob : S.obj? id 0 = some (39, 3, [seaR s])) : CallA Tryd.prog 19 [seSl l, .func 20 [] [.ptr id 0 0 0]] S fun r S' => r = .bool (l.any (sameS s)) ∧ S' = S := by
  refine CallA.keep Tryd.func19 c3030 (Nat.le_of_ble_eq_true rfl) fun σ hσ => ?_
  simp only [a3030, ↓evPre, ↓evPreW, evPost, evPostW, evR, evU, seval]
  have key : CallA Tryd.prog 40 [seSl l, .func 20 [] [.ptr id 0 0 0]] S fun r S' => (∃ n : Int, r = .int .i64 n ∧ (0 ≤ n ↔ l.any (sameS s) = true)) ∧ S' = S := by
    refine CallA.keep Tryd.func40 c3039 (Nat.le_of_ble_eq_true rfl) fun σ hσ => ?_
    simp only [a3039, seSl, ↓evPre, ↓evPreW, evPost, evPostW, evR, evU, seval]
    refine loopA (ι := Nat) (fun k => [(0, seSl l), (1, .func 20 [] [.ptr id 0 0 0]), (6, seSl l), (7, .int .i64 l.length), (8, .int .i64 k)]) (fun _ => S) (fun k => k ≤ l.length ∧ (l.take k).any (sameS s) = false) (fun k => l.length - k) 0 ⟨Nat.zero_le _, rfl⟩ ?_ rfl ?_
    · simp only [seSl, ↓evPre, ↓evPreW, evPost, evPostW, evR, evU, seval]
    · rintro k ⟨hk, hinv⟩
      cases hc : l[k]? with
      | none =>
        have hlt : ¬ ((k : Int) < l.length) := by rw [List.getElem?_eq_none_iff] at hc; omega
        rw [List.take_of_length_le (by rw [List.getElem?_eq_none_iff] at hc; omega)] at hinv
        simp (disch := first | omega | (simp only [lenT]; omega)) only [seSl, wrap_i64, hc, hlt, ↓evPre, ↓evPreW, evPost, evPostW, evR, evU, seval]
        exact ⟨_, rfl, by rw [hinv]; simp⟩
      | some c =>
        have hlt' := (List.getElem?_eq_some_iff.1 hc).1
        have hlt : (k : Int) < l.length := by omega
        have hs : (l.take (k + 1)).any (sameS s) = sameS s c := by
          rw [List.take_add_one, hc, List.any_append, hinv]
          simp
        simp (disch := first | omega | (simp only [lenT]; omega)) only [seSl, seaR, wrap_i64, hc, hlt, decide_true, ↓evPre, ↓evPreW, evPost, evPostW, evR, evU, seval]
        refine (sameS_A s c id S hob).then ?_
        cases hsc : sameS s c with
        | true =>
          have hm : l.any (sameS s) = true := List.any_eq_true.2 ⟨c, List.mem_of_getElem? hc, hsc⟩
          simp (disch := first | omega | (simp only [lenT]; omega)) only [seSl, wrap_i64, ↓evPre, ↓evPreW, evPost, evPostW, evR, evU, seval]
          exact ⟨_, rfl, by rw [hm]; simp⟩
        | false =>
          simp (disch := first | omega | (simp only [lenT]; omega)) only [seSl, wrap_i64, ↓evPre, ↓evPreW, evPost, evPostW, evR, evU, seval]
          exact ⟨k + 1, ⟨by omega, by rw [hs, hsc]⟩, by omega, rfl⟩
  refine key.mono ?_
  rintro r S' ⟨⟨n, rfl, hn⟩, rfl⟩
  have e : decide (0 ≤ n) = l.any (sameS s) := by
    rw [Bool.eq_iff_iff, decide_eq_true_eq]
    exact hn
  simp only [e, ↓evPre, ↓evPreW, evPost, evPostW, evR, evU, seval]
end Go.Proofs.YtjjdfkkfhbndiaaDoor.St
