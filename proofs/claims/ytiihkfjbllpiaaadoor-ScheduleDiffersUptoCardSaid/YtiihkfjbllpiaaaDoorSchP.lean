/- Numbers below 100; codes of carriers and equipment. What a flight's legs are looked at for. Legs in order of time. What is wrong with a leg. -/
import Derived.Test.YtiihkfjbllpiaaaDoorScaC
import Derived.Test.YtiihkfjbllpiaaaDoorSchA
namespace Go.Proofs.YtiihkfjbllpiaaaDoor
open Go Go.AL
set_option linter.unusedSectionVars false
variable [Go.AL.Mode] [Go.AL.LooseM]
set_option linter.unusedSimpArgs false
set_option linter.unusedVariables false

/-! ### Numbers -/
def decB (n : Nat) : Txt := if n < 10 then [UInt8.ofNat (48 + n)] else [UInt8.ofNat (48 + n / 10), UInt8.ofNat (48 + n % 10)]
def dg36 : Txt := [48, 49, 50, 51, 52, 53, 54, 55, 56, 57, 97, 98, 99, 100, 101, 102, 103, 104, 105, 106, 107, 108, 109, 110, 111, 112, 113, 114, 115, 116, 117, 118, 119, 120, 121, 122]
def dg100 : Txt := (List.range 100).flatMap fun n => [UInt8.ofNat (48 + n / 10), UInt8.ofNat (48 + n % 10)]
theorem dg36_at {n : Nat} (h : n < 10) : (dg36.drop n).take 1 = decB n := by
  have : ∀ n : Fin 10, (dg36.drop n.val).take 1 = decB n.val := by decide +kernel
  exact this ⟨n, h⟩
theorem dg100_at {n : Nat} (h : n < 100) (h2 : ¬ n < 10) : (dg100.drop (2 * n)).take 2 = decB n := by
  have : ∀ n : Fin 100, ¬ n.val < 10 → (dg100.drop (2 * n.val)).take 2 = decB n.val := by decide +kernel
  exact this ⟨n, h⟩ h2

theorem decB_len (n : Nat) : (decB n).length ≤ 2 := by unfold decB; split <;> simp

set_option maxRecDepth 100000 in
theorem small_A (n : Nat) (S : Store) (hn : n < 100) : CallA Tryd.prog 72 [.int .i64 n] S fun r S' => r = .str (decB n) ∧ S' = S := by
  refine CallA.keep Tryd.func72 c660 (Nat.le_of_ble_eq_true rfl) fun σ hσ => ?_
  by_cases h : n < 10
  · have h' : (n : Int) < 10 := by omega
    have hc : (n : Int) + 1 = ((n + 1 : Nat) : Int) := by omega
    have hs : cutS [48, 49, 50, 51, 52, 53, 54, 55, 56, 57, 97, 98, 99, 100, 101, 102, 103, 104, 105, 106, 107, 108, 109, 110, 111, 112, 113, 114, 115, 116, 117, 118, 119, 120, 121, 122] (some (n : Int)) (some ((n + 1 : Nat) : Int)) = some (.str (decB n)) := by
      rw [cutS_some, if_pos ⟨by omega, by omega, by simp only [List.length_cons, List.length_nil]; omega⟩, ← dg36_at h, Int.toNat_natCast, Int.toNat_natCast, Nat.add_sub_cancel_left]
      rfl
    simp (disch := omega) only [a660, h', hc, hs, wrap_i64, decide_true, ↓evPre, ↓evPreW, evPost, evPostW, evR, evU, seval]
  · have h' : ¬ (n : Int) < 10 := by omega
    have hc : (n : Int) * 2 = ((2 * n : Nat) : Int) := by omega
    have hc2 : ((2 * n : Nat) : Int) + 2 = ((2 * n + 2 : Nat) : Int) := by omega
    have hs : cutS dg100 (some ((2 * n : Nat) : Int)) (some ((2 * n + 2 : Nat) : Int)) = some (.str (decB n)) := by
      rw [cutS_some, if_pos ⟨by omega, by omega, by have : dg100.length = 200 := by decide +kernel
                                                    rw [this]; omega⟩, ← dg100_at hn h, Int.toNat_natCast, Int.toNat_natCast, Nat.add_sub_cancel_left]
    have hl : ([48, 48, 48, 49, 48, 50, 48, 51, 48, 52, 48, 53, 48, 54, 48, 55, 48, 56, 48, 57, 49, 48, 49, 49, 49, 50, 49, 51, 49, 52, 49, 53, 49, 54, 49, 55, 49, 56, 49, 57, 50, 48, 50, 49, 50, 50, 50, 51, 50, 52, 50, 53, 50, 54, 50, 55, 50, 56, 50, 57, 51, 48, 51, 49, 51, 50, 51, 51, 51, 52, 51, 53, 51, 54, 51, 55, 51, 56, 51, 57, 52, 48, 52, 49, 52, 50, 52, 51, 52, 52, 52, 53, 52, 54, 52, 55, 52, 56, 52, 57, 53, 48, 53, 49, 53, 50, 53, 51, 53, 52, 53, 53, 53, 54, 53, 55, 53, 56, 53, 57, 54, 48, 54, 49, 54, 50, 54, 51, 54, 52, 54, 53, 54, 54, 54, 55, 54, 56, 54, 57, 55, 48, 55, 49, 55, 50, 55, 51, 55, 52, 55, 53, 55, 54, 55, 55, 55, 56, 55, 57, 56, 48, 56, 49, 56, 50, 56, 51, 56, 52, 56, 53, 56, 54, 56, 55, 56, 56, 56, 57, 57, 48, 57, 49, 57, 50, 57, 51, 57, 52, 57, 53, 57, 54, 57, 55, 57, 56, 57, 57] : Txt) = dg100 := by decide +kernel
    simp only [a660, hl]
    simp (disch := omega) only [h', hc, hc2, hs, wrap_i64, decide_false, ↓evPre, ↓evPreW, evPost, evPostW, evR, evU, seval]

theorem formatInt_A (n : Nat) (S : Store) (hn : n < 100) : CallA Tryd.prog 59 [.int .i64 n, .int .i64 10] S fun r S' => r = .str (decB n) ∧ S' = S := by
  refine CallA.keep Tryd.func59 c631 (Nat.le_of_ble_eq_true rfl) fun σ hσ => ?_
  have h1 : (0 : Int) ≤ n := by omega
  have h2 : (n : Int) < 100 := by omega
  simp only [a631, h1, h2, decide_true, ↓evPre, ↓evPreW, evPost, evPostW, evR, evU, seval]
  refine (small_A n S hn).then ?_
  simp only [↓evPre, ↓evPreW, evPost, evPostW, evR, evU, seval]

theorem itoaI_A (n : Nat) (S : Store) (hn : n < 100) : CallA Tryd.prog 44 [.int .i64 n] S fun r S' => r = .str (decB n) ∧ S' = S := by
  refine CallA.keep Tryd.func44 c587 (Nat.le_of_ble_eq_true rfl) fun σ hσ => ?_
  simp only [a587, ↓evPre, ↓evPreW, evPost, evPostW, evR, evU, seval]
  refine (formatInt_A n S hn).then ?_
  simp only [↓evPre, ↓evPreW, evPost, evPostW, evR, evU, seval]

theorem itoa_A (n : Nat) (S : Store) (hn : n < 100) : CallA Tryd.prog 26 [.int .i64 n] S fun r S' => r = .str (decB n) ∧ S' = S := by
  refine CallA.keep Tryd.func26 c545 (Nat.le_of_ble_eq_true rfl) fun σ hσ => ?_
  simp only [a545, ↓evPre, ↓evPreW, evPost, evPostW, evR, evU, seval]
  refine (itoaI_A n S hn).then ?_
  simp only [↓evPre, ↓evPreW, evPost, evPostW, evR, evU, seval]

theorem tdecimal_A (n : Nat) (S : Store) (hn : n < 100) : CallA Tryd.prog 48 [.int .i64 n] S fun r S' => r = .str (decB n) ∧ S' = S := by
  refine CallA.keep Tryd.func48 c578 (Nat.le_of_ble_eq_true rfl) fun σ hσ => ?_
  simp only [a578, ↓evPre, ↓evPreW, evPost, evPostW, evR, evU, seval]
  refine (itoa_A n S hn).then ?_
  simp only [↓evPre, ↓evPreW, evPost, evPostW, evR, evU, seval]

/-! ### Codes -/
theorem up_A (c : UInt8) (S : Store) : CallA Tryd.prog 77 [.int .u8 c.toNat] S fun r S' => r = .bool (up c) ∧ S' = S := by
  refine CallA.keep Tryd.func77 c665 (Nat.le_of_ble_eq_true rfl) fun σ hσ => ?_
  by_cases h1 : (65 : Int) ≤ c.toNat
  · by_cases h2 : (c.toNat : Int) ≤ 90
    · have : up c = true := by unfold up; exact decide_eq_true ⟨by omega, by omega⟩
      simp only [a665, this, dT h1, dT h2, ↓evPre, ↓evPreW, evPost, evPostW, evR, evU, seval]
    · have : up c = false := by unfold up; exact decide_eq_false (fun h => by omega)
      simp only [a665, this, dT h1, dF h2, ↓evPre, ↓evPreW, evPost, evPostW, evR, evU, seval]
  · have : up c = false := by unfold up; exact decide_eq_false (fun h => by omega)
    simp only [a665, this, dF h1, ↓evPre, ↓evPreW, evPost, evPostW, evR, evU, seval]
theorem dig_A (c : UInt8) (S : Store) : CallA Tryd.prog 62 [.int .u8 c.toNat] S fun r S' => r = .bool (dig c) ∧ S' = S := by
  refine CallA.keep Tryd.func62 c634 (Nat.le_of_ble_eq_true rfl) fun σ hσ => ?_
  by_cases h1 : (48 : Int) ≤ c.toNat
  · by_cases h2 : (c.toNat : Int) ≤ 57
    · have : dig c = true := by unfold dig; exact decide_eq_true ⟨by omega, by omega⟩
      simp only [a634, this, dT h1, dT h2, ↓evPre, ↓evPreW, evPost, evPostW, evR, evU, seval]
    · have : dig c = false := by unfold dig; exact decide_eq_false (fun h => by omega)
      simp only [a634, this, dT h1, dF h2, ↓evPre, ↓evPreW, evPost, evPostW, evR, evU, seval]
  · have : dig c = false := by unfold dig; exact decide_eq_false (fun h => by omega)
    simp only [a634, this, dF h1, ↓evPre, ↓evPreW, evPost, evPostW, evR, evU, seval]
theorem code1_A (c : UInt8) (S : Store) : CallA Tryd.prog 76 [.int .u8 c.toNat] S fun r S' => r = .bool (up c || dig c) ∧ S' = S := by
  refine CallA.keep Tryd.func76 c664 (Nat.le_of_ble_eq_true rfl) fun σ hσ => ?_
  simp only [a664, ↓evPre, ↓evPreW, evPost, evPostW, evR, evU, seval]
  refine (up_A c S).then ?_
  cases h : up c with
  | true => simp only [Bool.true_or, ↓evPre, ↓evPreW, evPost, evPostW, evR, evU, seval]
  | false =>
    simp only [↓evPre, ↓evPreW, evPost, evPostW, evR, evU, seval]
    refine (dig_A c S).then ?_
    simp only [Bool.false_or, ↓evPre, ↓evPreW, evPost, evPostW, evR, evU, seval]
theorem all_at {l : Txt} {q : UInt8 → Bool} {k : Nat} {c : UInt8} (hc : l[k]? = some c) : (l.drop k).all q = (q c && (l.drop (k + 1)).all q) := by
  have e : l.drop k = c :: l.drop (k + 1) := by
    obtain ⟨hlt, rfl⟩ := List.getElem?_eq_some_iff.1 hc
    exact List.drop_eq_getElem_cons hlt
  rw [e, List.all_cons]
/-- A text that a call is given lies within a machine. -/
theorem str_len {f : FuncId} {s : Txt} {rest : List V} {S : Store} {R : V → Store → Prop} (h : s.length ≤ maxLen → CallA Tryd.prog f (.str s :: rest) S R) (h0 : callable Tryd.prog f) : CallA Tryd.prog f (.str s :: rest) S R :=
  ⟨h0, fun ρ w us hi hv => by
    obtain ⟨u, _, hu⟩ := hv.2 0 _ rfl
    cases hu with
    | str h1 h2 => exact (h (by rw [← h1]; simpa using h2)).2 ρ w us hi hv⟩
theorem every_A (s : Txt) (q : UInt8 → Bool) (g : FuncId) (hs : s.length ≤ 9223372036854775807) (hq : ∀ c S, CallA Tryd.prog g [.int .u8 c.toNat] S fun r S' => r = .bool (q c) ∧ S' = S) (S : Store) :
    CallA Tryd.prog 61 [.str s, .func g [] []] S fun r S' => r = .bool (s.all q) ∧ S' = S := by
  refine CallA.keep Tryd.func61 c633 (Nat.le_of_ble_eq_true rfl) fun σ hσ => ?_
  simp (disch := first | omega | (simp only [lenT]; omega)) only [a633, evSt, ↓evPre, ↓evPreW, evPost, evPostW, evR, evU, seval]
  refine loopA (ι := Nat) (fun k => [(0, .str s), (1, .func g [] []), (7, .int .i64 s.length), (8, .int .i64 (k : Nat))]) (fun _ => S) (fun k => k ≤ s.length ∧ s.all q = (s.drop k).all q) (fun k => s.length - k) 0 ⟨Nat.zero_le _, rfl⟩ ?_ rfl ?_
  · simp only [↓evPre, ↓evPreW, evPost, evPostW, evR, evU, seval]
  rintro k ⟨hk, he⟩
  cases hc : s[k]? with
  | none =>
    have hge : s.length ≤ k := List.getElem?_eq_none_iff.1 hc
    have hlt : ¬ ((k : Int) < s.length) := by omega
    rw [List.drop_eq_nil_of_le hge] at he
    simp (disch := first | omega | (simp only [lenT]; omega)) only [he, dF hlt, List.all_nil, evSt, ↓evPre, ↓evPreW, evPost, evPostW, evR, evU, seval]
  | some c =>
    have hlt' := (List.getElem?_eq_some_iff.1 hc).1
    have hlt : (k : Int) < s.length := by omega
    have hk1 : (k : Int) + 1 = ((k + 1 : Nat) : Int) := by omega
    rw [all_at hc] at he
    simp (disch := first | omega | (simp only [lenT]; omega)) only [dT hlt, hc, evSt, ↓evPre, ↓evPreW, evPost, evPostW, evR, evU, seval]
    refine (hq c S).then ?_
    cases h : q c with
    | true =>
      rw [h, Bool.true_and] at he
      simp (disch := first | omega | (simp only [lenT]; omega)) only [wrap_i64, hk1, evSt, ↓evPre, ↓evPreW, evPost, evPostW, evR, evU, seval]
      exact ⟨k + 1, ⟨by omega, he⟩, by omega, rfl⟩
    | false =>
      rw [h, Bool.false_and] at he
      simp (disch := first | omega | (simp only [lenT]; omega)) only [he, evSt, ↓evPre, ↓evPreW, evPost, evPostW, evR, evU, seval]
theorem code_A (s : Txt) (a b : Nat) (hs : s.length ≤ 9223372036854775807) (S : Store) : CallA Tryd.prog 60 [.str s, .int .i64 (a : Nat), .int .i64 (b : Nat)] S fun r S' => r = .bool (codeF s a b) ∧ S' = S := by
  refine CallA.keep Tryd.func60 c632 (Nat.le_of_ble_eq_true rfl) fun σ hσ => ?_
  unfold codeF
  by_cases h1 : a ≤ s.length
  · have h1' : (a : Int) ≤ s.length := by omega
    by_cases h2 : s.length ≤ b
    · have h2' : (s.length : Int) ≤ b := by omega
      simp (disch := first | omega | (simp only [lenT]; omega)) only [a632, dT h1', dT h2', h1, h2, and_self, decide_true, Bool.true_and, evSt, ↓evPre, ↓evPreW, evPost, evPostW, evR, evU, seval]
      refine (every_A s (fun c => up c || dig c) 76 hs code1_A S).then ?_
      simp (disch := first | omega | (simp only [lenT]; omega)) only [evSt, ↓evPre, ↓evPreW, evPost, evPostW, evR, evU, seval]
    · have h2' : ¬ (s.length : Int) ≤ b := by omega
      simp (disch := first | omega | (simp only [lenT]; omega)) only [a632, dT h1', dF h2', h1, h2, and_false, decide_false, Bool.false_and, evSt, ↓evPre, ↓evPreW, evPost, evPostW, evR, evU, seval]
  · have h1' : ¬ (a : Int) ≤ s.length := by omega
    simp (disch := first | omega | (simp only [lenT]; omega)) only [a632, dF h1', h1, false_and, decide_false, Bool.false_and, evSt, ↓evPre, ↓evPreW, evPost, evPostW, evR, evU, seval]
theorem carrier_A (s : Txt) (hs : s.length ≤ 9223372036854775807) (S : Store) : CallA Tryd.prog 46 [.str s] S fun r S' => r = .bool (carF s) ∧ S' = S := by
  refine CallA.keep Tryd.func46 c589 (Nat.le_of_ble_eq_true rfl) fun σ hσ => ?_
  unfold carF
  simp (disch := first | omega | (simp only [lenT]; omega)) only [a589, evSt, ↓evPre, ↓evPreW, evPost, evPostW, evR, evU, seval]
  refine (code_A s 2 2 hs S).then ?_
  cases h : codeF s 2 2 with
  | true =>
    simp (disch := first | omega | (simp only [lenT]; omega)) only [evSt, ↓evPre, ↓evPreW, evPost, evPostW, evR, evU, seval]
    refine (every_A s dig 62 hs dig_A S).then ?_
    simp (disch := first | omega | (simp only [lenT]; omega)) only [Bool.true_and, evSt, ↓evPre, ↓evPreW, evPost, evPostW, evR, evU, seval]
  | false => simp (disch := first | omega | (simp only [lenT]; omega)) only [Bool.false_and, evSt, ↓evPre, ↓evPreW, evPost, evPostW, evR, evU, seval]

theorem codeT_A (s : Txt) (a b : Nat) (S : Store) : CallA Tryd.prog 60 [.str s, .int .i64 (a : Nat), .int .i64 (b : Nat)] S fun r S' => r = .bool (codeF s a b) ∧ S' = S :=
  str_len (fun h => code_A s a b (by unfold maxLen at h; omega) S) ⟨Tryd.f60, Tryd.func60, by kernel_rfl, by kernel_rfl⟩
theorem carrierT_A (s : Txt) (S : Store) : CallA Tryd.prog 46 [.str s] S fun r S' => r = .bool (carF s) ∧ S' = S :=
  str_len (fun h => carrier_A s (by unfold maxLen at h; omega) S) ⟨Tryd.f46, Tryd.func46, by kernel_rfl, by kernel_rfl⟩
def minF (n : Int) : Bool := decide (-1440 ≤ n) && decide (n < 5760)
theorem min_A (n : Int) (S : Store) : CallA Tryd.prog 65 [.int .i64 n] S fun r S' => r = .bool (minF n) ∧ S' = S := by
  refine CallA.keep Tryd.func65 c636 (Nat.le_of_ble_eq_true rfl) fun σ hσ => ?_
  unfold minF
  by_cases h1 : -1440 ≤ n
  · simp only [a636, dT h1, Bool.true_and, ↓evPre, ↓evPreW, evPost, evPostW, evR, evU, seval]
  · simp only [a636, dF h1, Bool.false_and, ↓evPre, ↓evPreW, evPost, evPostW, evR, evU, seval]
/-! ### Index, Contains -/
def ixF {α : Type} (q : α → Bool) : List α → Nat → Int
  | [], _ => -1
  | y :: l, k => if q y then (k : Nat) else ixF q l (k + 1)
theorem ix_any {α : Type} (q : α → Bool) : ∀ (l : List α) (k : Nat), decide (0 ≤ ixF q l k) = l.any q
  | [], k => by simp [ixF]
  | y :: l, k => by
    rw [ixF]
    by_cases h : q y = true
    · have : (0 : Int) ≤ (k : Nat) := by omega
      simp [h, this]
    · rw [if_neg h, ix_any q l (k + 1)]
      simp [h]
theorem drop_at {α : Type} {l : List α} {k : Nat} {x : α} (h : l[k]? = some x) : l.drop k = x :: l.drop (k + 1) := by
  obtain ⟨hlt, rfl⟩ := List.getElem?_eq_some_iff.1 h
  exact List.drop_eq_getElem_cons hlt
theorem index_A (l : List Lg) (q : Lg → Bool) (g : FuncId) (caps : List V) (hl : l.length ≤ 1000000) (hq : ∀ x S, CallA Tryd.prog g (.agg (lgR x) :: caps) S fun r S' => r = .bool (q x) ∧ S' = S) (S : Store) :
    CallA Tryd.prog 89 [.sl 5 (l.map lgR), .func g [] caps] S fun r S' => r = .int .i64 (ixF q l 0) ∧ S' = S := by
  refine CallA.keep Tryd.func89 c652 (Nat.le_of_ble_eq_true rfl) fun σ hσ => ?_
  simp only [lgR] at hq
  simp (disch := first | omega | (simp only [lenT]; omega)) only [a652, evSt, ↓evPre, ↓evPreW, evPost, evPostW, evR, evU, seval]
  refine loopA (ι := Nat) (fun k => [(0, .sl 5 (l.map lgR)), (1, .func g [] caps), (7, .int .i64 l.length), (8, .int .i64 (k : Nat))]) (fun _ => S) (fun k => k ≤ l.length ∧ ixF q l 0 = ixF q (l.drop k) k) (fun k => l.length - k) 0 ⟨Nat.zero_le _, rfl⟩ ?_ rfl ?_
  · simp only [↓evPre, ↓evPreW, evPost, evPostW, evR, evU, seval]
  rintro k ⟨hk, he⟩
  cases hc : l[k]? with
  | none =>
    have hge : l.length ≤ k := List.getElem?_eq_none_iff.1 hc
    have hlt : ¬ ((k : Int) < l.length) := by omega
    rw [List.drop_eq_nil_of_le hge] at he
    simp (disch := first | omega | (simp only [lenT]; omega)) only [dF hlt, he, ixF, evSt, ↓evPre, ↓evPreW, evPost, evPostW, evR, evU, seval]
  | some y =>
    have hlt' := (List.getElem?_eq_some_iff.1 hc).1
    have hlt : (k : Int) < l.length := by omega
    have hk1 : (k : Int) + 1 = ((k + 1 : Nat) : Int) := by omega
    rw [drop_at hc, ixF] at he
    simp (disch := first | omega | (simp only [lenT]; omega)) only [dT hlt, hc, lgR, evSt, ↓evPre, ↓evPreW, evPost, evPostW, evR, evU, seval]
    refine (hq y S).then ?_
    cases hy : q y with
    | true =>
      rw [if_pos hy] at he
      simp (disch := first | omega | (simp only [lenT]; omega)) only [he, evSt, ↓evPre, ↓evPreW, evPost, evPostW, evR, evU, seval]
    | false =>
      rw [if_neg (by simp [hy])] at he
      simp (disch := first | omega | (simp only [lenT]; omega)) only [wrap_i64, hk1, evSt, ↓evPre, ↓evPreW, evPost, evPostW, evR, evU, seval]
      exact ⟨k + 1, ⟨by omega, he⟩, by omega, rfl⟩
theorem contains_A (l : List Lg) (q : Lg → Bool) (g : FuncId) (caps : List V) (hl : l.length ≤ 1000000) (hq : ∀ x S, CallA Tryd.prog g (.agg (lgR x) :: caps) S fun r S' => r = .bool (q x) ∧ S' = S) (S : Store) :
    CallA Tryd.prog 78 [.sl 5 (l.map lgR), .func g [] caps] S fun r S' => r = .bool (l.any q) ∧ S' = S := by
  refine CallA.keep Tryd.func78 c654 (Nat.le_of_ble_eq_true rfl) fun σ hσ => ?_
  simp (disch := first | omega | (simp only [lenT]; omega)) only [a654, evSt, ↓evPre, ↓evPreW, evPost, evPostW, evR, evU, seval]
  refine (index_A l q g caps hl hq S).then ?_
  simp (disch := first | omega | (simp only [lenT]; omega)) only [ix_any, evSt, ↓evPre, ↓evPreW, evPost, evPostW, evR, evU, seval]

/-! ### One leg behind the other -/
def folF (L : List Lg) (i : Nat) (l : Lg) : Bool := (match i with
  | 0 => true
  | j + 1 => match L[j]? with
    | some l0 => decide (l.f = l0.t)
    | none => true) && !((L.take (i + 1)).any fun x => decide (x.f = l.t))
theorem folF_zero {L : List Lg} {i : Nat} {l : Lg} (h : ¬ 0 < i) : folF L i l = !((L.take (i + 1)).any fun x => decide (x.f = l.t)) := by
  obtain rfl : i = 0 := by omega
  simp [folF]
theorem folF_succ {L : List Lg} {i : Nat} {l l0 : Lg} (hi : 0 < i) (h : L[i - 1]? = some l0) : folF L i l = (decide (l.f = l0.t) && !((L.take (i + 1)).any fun x => decide (x.f = l.t))) := by
  cases i with
  | zero => omega
  | succ j =>
    rw [Nat.add_sub_cancel] at h
    simp [folF, h]
theorem fol1_A (L : List Lg) (i : Nat) (l x : Lg) (hl : L.length ≤ 1000000) (hc : L[i]? = some l) (S : Store) : CallA Tryd.prog 79 [.agg (lgR x), .cptr [.sl 5 (L.map lgR)], .cptr [.int .i64 (i : Nat)]] S fun r S' => r = .bool (decide (x.f = l.t)) ∧ S' = S := by
  refine CallA.keep Tryd.func79 c666 (Nat.le_of_ble_eq_true rfl) fun σ hσ => ?_
  have hlt := (List.getElem?_eq_some_iff.1 hc).1
  simp (disch := first | omega | (simp only [lenT]; omega)) only [a666, lgR, hc, evSt, ↓evPre, ↓evPreW, evPost, evPostW, evR, evU, seval]
theorem follows_A (L : List Lg) (i : Nat) (l : Lg) (hl : L.length ≤ 1000000) (hc : L[i]? = some l) (S : Store) : CallA Tryd.prog 64 [.sl 5 (L.map lgR), .int .i64 (i : Nat)] S fun r S' => r = .bool (folF L i l) ∧ S' = S := by
  refine CallA.keep Tryd.func64 c635 (Nat.le_of_ble_eq_true rfl) fun σ hσ => ?_
  have hlt := (List.getElem?_eq_some_iff.1 hc).1
  have hi1 : (i : Int) + 1 = ((i + 1 : Nat) : Int) := by omega
  have hle : ((i + 1 : Nat) : Int) ≤ L.length := by omega
  have hcon := contains_A (L.take (i + 1)) (fun x => decide (x.f = l.t)) 79 [.cptr [.sl 5 (L.map lgR)], .cptr [.int .i64 (i : Nat)]] (by simp; omega) (fun x S => fol1_A L i l x hl hc S) S
  by_cases hi : 0 < i
  · obtain ⟨l0, h0⟩ : ∃ l0, L[i - 1]? = some l0 := ⟨L[i - 1]'(by omega), List.getElem?_eq_getElem (by omega)⟩
    rw [folF_succ hi h0]
    have hp : (0 : Int) < (i : Int) := by omega
    have hj : (i : Int) - 1 = ((i - 1 : Nat) : Int) := by omega
    by_cases he : l.f = l0.t
    · simp (disch := first | omega | (simp only [lenT]; omega)) only [a635, lgR, dT hp, dT he, hj, hi1, hle, hc, h0, wrap_i64, if_true, Bool.true_and, Bool.not_not, evSt, ↓evPre, ↓evPreW, evPost, evPostW, evR, evU, seval]
      refine hcon.then ?_
      simp (disch := first | omega | (simp only [lenT]; omega)) only [evSt, ↓evPre, ↓evPreW, evPost, evPostW, evR, evU, seval]
    · simp (disch := first | omega | (simp only [lenT]; omega)) only [a635, lgR, dT hp, dF he, hj, hi1, hle, hc, h0, wrap_i64, if_true, Bool.false_and, Bool.not_false, evSt, ↓evPre, ↓evPreW, evPost, evPostW, evR, evU, seval]
  · have hp : ¬ (0 : Int) < (i : Int) := by omega
    rw [folF_zero hi]
    simp (disch := first | omega | (simp only [lenT]; omega)) only [a635, dF hp, hi1, hle, wrap_i64, if_true, Bool.not_not, evSt, ↓evPre, ↓evPreW, evPost, evPostW, evR, evU, seval]
    refine hcon.then ?_
    simp (disch := first | omega | (simp only [lenT]; omega)) only [evSt, ↓evPre, ↓evPreW, evPost, evPostW, evR, evU, seval]
def ordL : Option Int → List Dt → Bool
  | _, [] => true
  | b, d :: r => !decide (d.arr ≤ d.dep) && ((match b with
    | none => true
    | some a => !decide (d.dep < a)) && ordL (some d.arr) r)
def befO (k : Nat) (b : Int) : Option Int := if 0 < k then some b else none
theorem ordL_bad {b : Option Int} {d : Dt} {r : List Dt} (h : d.arr ≤ d.dep) : ordL b (d :: r) = false := by simp [ordL, h]
theorem ordL_late {k : Nat} {b : Int} {d : Dt} {r : List Dt} (hk : 0 < k) (h : d.dep < b) : ordL (befO k b) (d :: r) = false := by simp [ordL, befO, hk, h]
theorem ordL_go {k : Nat} {b : Int} {d : Dt} {r : List Dt} (h : ¬ d.arr ≤ d.dep) (h2 : ¬ (0 < k ∧ d.dep < b)) : ordL (befO k b) (d :: r) = ordL (befO (k + 1) d.arr) r := by
  have e : befO (k + 1) d.arr = some d.arr := by simp [befO]
  rw [e]
  by_cases hk : 0 < k
  · have h3 : ¬ d.dep < b := fun h => h2 ⟨hk, h⟩
    simp [ordL, befO, hk, h, h3]
  · simp [ordL, befO, hk, h]
theorem ordered_A (p : Pls) (hp : POk p) (x : Fl) (day : Int) (hl : x.legs.length ≤ 100000) (S : Store) : CallA Tryd.prog 49 [plV p, .sl 5 (x.legs.map lgR), .int .i64 day] S fun r S' => r = .bool (ordL none (legsF p x day)) ∧ S' = S := by
  refine CallA.withNeat Tryd.func49 c592 fun hn => ?_
  refine CallA.fin Tryd.func49 c592 (Nat.le_of_ble_eq_true rfl) fun σ hσ => ?_
  have ht := fun l S => timeC_A p hp l day S
  simp only [plV, lgR] at ht
  simp (disch := first | omega | (simp only [lenT]; omega)) only [a592, plV, evSt, ↓evPre, ↓evPreW, evPost, evPostW, evR, evU, seval]
  refine loopF (ι := Nat × Int) (fun i => [(2, .int .i64 day), (3, .cptr [.sl 5 (p.1.map aptR), .sl 3 (p.2.map dstR)]), (7, .int .i64 i.2), (12, .sl 5 (x.legs.map lgR)), (13, .int .i64 x.legs.length), (14, .int .i64 (i.1 : Nat))]) (fun _ => S) (fun i => i.1 ≤ x.legs.length ∧ ordL none (legsF p x day) = ordL (befO i.1 i.2) ((legsF p x day).drop i.1)) (fun i => x.legs.length - i.1) (fun i hi => by rw [hσ]; exact Nat.le_refl _) (0, 0) ⟨Nat.zero_le _, rfl⟩ (.inl ⟨?_, rfl⟩) ?_
  · simp only [↓evPre, ↓evPreW, evPost, evPostW, evR, evU, seval]
  rintro ⟨k, b⟩ ⟨hk, he⟩
  simp only at hk he ⊢
  cases hc : x.legs[k]? with
  | none =>
    have hge : x.legs.length ≤ k := List.getElem?_eq_none_iff.1 hc
    have hlt : ¬ ((k : Int) < x.legs.length) := by omega
    rw [List.drop_eq_nil_of_le (by simp [legsF]; omega), ordL] at he
    simp (disch := first | omega | (simp only [lenT]; omega)) only [dF hlt, he, evSt, ↓evPre, ↓evPreW, evPost, evPostW, evR, evU, seval]
    exact ⟨_, S, hn.self, .imm rfl, Nat.le_refl _, rfl, rfl⟩
  | some l =>
    have hlt' := (List.getElem?_eq_some_iff.1 hc).1
    have hlt : (k : Int) < x.legs.length := by omega
    have hk1 : (k : Int) + 1 = ((k + 1 : Nat) : Int) := by omega
    have hd : (legsF p x day)[k]? = some (datF p x day l) := by simp [legsF, hc]
    rw [drop_at hd] at he
    simp (disch := first | omega | (simp only [lenT]; omega)) only [dT hlt, hc, lgR, evSt, ↓evPre, ↓evPreW, evPost, evPostW, evR, evU, seval]
    refine (ht l _).then ?_
    by_cases h1 : atF p l.t day l.arr ≤ atF p l.f day l.dep
    · rw [ordL_bad h1] at he
      simp (disch := first | omega | (simp only [lenT]; omega)) only [dT h1, he, evSt, ↓evPre, ↓evPreW, evPost, evPostW, evR, evU, seval]
      exact ⟨_, S, hn.fgt _, .imm rfl, Nat.le_refl _, rfl, rfl⟩
    · by_cases h2 : 0 < k ∧ atF p l.f day l.dep < b
      · rw [ordL_late h2.1 h2.2] at he
        have h3 : (0 : Int) < (k : Int) := by omega
        simp (disch := first | omega | (simp only [lenT]; omega)) only [dF h1, dT h2.2, dT h3, he, evSt, ↓evPre, ↓evPreW, evPost, evPostW, evR, evU, seval]
        exact ⟨_, S, hn.fgt _, .imm rfl, Nat.le_refl _, rfl, rfl⟩
      · rw [ordL_go h1 h2] at he
        by_cases h3 : (0 : Int) < (k : Int)
        · have h4 : ¬ atF p l.f day l.dep < b := fun h => h2 ⟨by omega, h⟩
          simp (disch := first | omega | (simp only [lenT]; omega)) only [dF h1, dF h4, dT h3, wrap_i64, hk1, evSt, ↓evPre, ↓evPreW, evPost, evPostW, evR, evU, seval]
          exact ⟨(k + 1, _), ⟨by simp only; omega, he⟩, by simp only; omega, back_under (hn.fgt _) (by simp only [datF, ↓evPre, ↓evPreW, evPost, evPostW, evR, evU, seval]) (by simp [V.under])⟩
        · simp (disch := first | omega | (simp only [lenT]; omega)) only [dF h1, dF h3, wrap_i64, hk1, evSt, ↓evPre, ↓evPreW, evPost, evPostW, evR, evU, seval]
          exact ⟨(k + 1, _), ⟨by simp only; omega, he⟩, by simp only; omega, back_under (hn.fgt _) (by simp only [datF, ↓evPre, ↓evPreW, evPost, evPostW, evR, evU, seval]) (by simp [V.under])⟩
def legErr (p : Pls) (L : List Lg) (i : Nat) (l : Lg) : List Int :=
  (if codeF l.eq 3 3 then [] else [5]) ++ ((if (findF p l.f).isSome && (findF p l.t).isSome then [] else [14]) ++ ((if folF L i l then [] else [15]) ++ (if minF l.dep && minF l.arr then [] else [2])))
set_option maxHeartbeats 2000000 in
theorem leg_A (p : Pls) (hp : POk p) (L : List Lg) (i : Nat) (l : Lg) (hl : L.length ≤ 1000000) (hc : L[i]? = some l) (S : Store) : CallA Tryd.prog 47 [plV p, .sl 5 (L.map lgR), .int .i64 (i : Nat)] S fun r S' => r = .sl 1 ((legErr p L i l).map inR) ∧ S' = S := by
  refine CallA.withNeat Tryd.func47 c590 fun hn => ?_
  refine CallA.fin Tryd.func47 c590 (Nat.le_of_ble_eq_true rfl) fun σ hσ => ?_
  have hlt := (List.getElem?_eq_some_iff.1 hc).1
  obtain ⟨c1, c2, c3, o1, v1, e1, i1, k1, _, _⟩ := find_zone p hp l.f
  obtain ⟨c4, c5, c6, o2, v2, e2, i2, k2, _, _⟩ := find_zone p hp l.t
  have f1 := fun S => find_A p l.f S hp.h1
  have f2 := fun S => find_A p l.t S hp.h1
  simp only [plV, e1] at f1
  simp only [plV, e2] at f2
  have hcode := fun S => codeT_A l.eq 3 3 S
  simp (disch := first | omega | (simp only [lenT]; omega)) only [a590, plV, lgR, hc, evSt, ↓evPre, ↓evPreW, evPost, evPostW, evR, evU, seval]
  refine (f1 _).then ?_
  simp (disch := first | omega | (simp only [lenT]; omega)) only [i1, k1, evSt, ↓evPre, ↓evPreW, evPost, evPostW, evR, evU, seval]
  refine (f2 _).then ?_
  simp (disch := first | omega | (simp only [lenT]; omega)) only [i1, k1, i2, k2, evSt, ↓evPre, ↓evPreW, evPost, evPostW, evR, evU, seval]
  refine (hcode _).then ?_
  have hE : legErr p L i l = (if codeF l.eq 3 3 then [] else [5]) ++ ((if (findF p l.f).isSome && (findF p l.t).isSome then [] else [14]) ++ ((if folF L i l then [] else [15]) ++ (if minF l.dep && minF l.arr then [] else [2]))) := rfl
  rw [hE]
  have hfol := fun S => follows_A L i l hl hc S
  have hm1 := fun S => min_A l.dep S
  have hm2 := fun S => min_A l.arr S
  revert hfol hm1 hm2
  generalize folF L i l = b4
  generalize minF l.dep = b5
  generalize minF l.arr = b6
  generalize codeF l.eq 3 3 = b1
  generalize (findF p l.f).isSome = b2
  generalize (findF p l.t).isSome = b3
  intro hfol hm1 hm2
  have r1 : (1 ≤ roomA) = True := by simp [roomA]
  have r2 : (2 ≤ roomA) = True := by simp [roomA]
  have r3 : (3 ≤ roomA) = True := by simp [roomA]
  have r4 : (4 ≤ roomA) = True := by simp [roomA]
  cases b1 <;> cases b2 <;> cases b3 <;> simp (disch := first | omega | (simp only [lenT]; omega)) only [r1, r2, r3, r4, true_and, i1, k1, i2, k2, evSt, ↓evPre, ↓evPreW, evPost, evPostW, evR, evU, seval]
  all_goals refine (hfol _).then ?_
  all_goals (cases b4 <;> simp (disch := first | omega | (simp only [lenT]; omega)) only [r1, r2, r3, r4, true_and, i1, k1, i2, k2, evSt, ↓evPre, ↓evPreW, evPost, evPostW, evR, evU, seval])
  all_goals refine (hm1 _).then ?_
  all_goals (cases b5 <;> simp (disch := first | omega | (simp only [lenT]; omega)) only [r1, r2, r3, r4, true_and, i1, k1, i2, k2, evSt, ↓evPre, ↓evPreW, evPost, evPostW, evR, evU, seval])
  all_goals try (refine (hm2 _).then ?_)
  all_goals try (cases b6 <;> simp (disch := first | omega | (simp only [lenT]; omega)) only [r1, r2, r3, r4, true_and, i1, k1, i2, k2, evSt, ↓evPre, ↓evPreW, evPost, evPostW, evR, evU, seval])
  all_goals first
    | exact ⟨_, S, hn.fgt _, .nil, Nat.le_refl _, rfl, rfl⟩
    | exact ⟨_, S, hn.fgt _, .sl (t := 51) (by omega) (by rw [ob_app, ob_cons, ob_cons, ob_cons, ob_head]; rfl) rfl (by simp [inR, V.allImm, V.isImm]), Nat.le_refl _, rfl, rfl⟩
end Go.Proofs.YtiihkfjbllpiaaaDoor
