/- Codes: what a text must consist of (taken over from schedule's texts by conv.py). -/
import Derived.Test.YtkdbghhdklfoiaaDoorSFaC
import Derived.Test.YtkdbghhdklfoiaaDoorSAlX
import Derived.Test.YtkdbghhdklfoiaaDoorSAlM
import Derived.Test.YtkdbghhdklfoiaaDoorSFaS
namespace Go.Proofs.YtkdbghhdklfoiaaDoor
open Go Go.AL
set_option linter.unusedSectionVars false
variable [Go.AL.Mode] [Go.AL.LooseM]
set_option linter.unusedSimpArgs false
set_option linter.unusedVariables false
abbrev Txt := List UInt8
theorem dT {p : Prop} [Decidable p] (h : p) : decide p = true := decide_eq_true h
theorem dF {p : Prop} [Decidable p] (h : ¬ p) : decide p = false := decide_eq_false h
def up (c : UInt8) : Bool := decide (65 ≤ c.toNat ∧ c.toNat ≤ 90)
def dig (c : UInt8) : Bool := decide (48 ≤ c.toNat ∧ c.toNat ≤ 57)
def codeF (s : Txt) (a b : Nat) : Bool := decide (a ≤ s.length ∧ s.length ≤ b) && s.all fun c => up c || dig c
def carF (s : Txt) : Bool := codeF s 2 2 && !s.all dig
theorem up_A (c : UInt8) (S : Store) : CallA Tryd.prog 75 [.int .u8 c.toNat] S fun r S' => r = .bool (up c) ∧ S' = S := by
  refine CallA.keep Tryd.func75 c10075 (Nat.le_of_ble_eq_true rfl) fun σ hσ => ?_
  by_cases h1 : (65 : Int) ≤ c.toNat
  · by_cases h2 : (c.toNat : Int) ≤ 90
    · have : up c = true := by unfold up; exact decide_eq_true ⟨by omega, by omega⟩
      simp only [a10075, this, dT h1, dT h2, ↓evPre, ↓evPreW, evPost, evPostW, evR, evU, seval]
    · have : up c = false := by unfold up; exact decide_eq_false (fun h => by omega)
      simp only [a10075, this, dT h1, dF h2, ↓evPre, ↓evPreW, evPost, evPostW, evR, evU, seval]
  · have : up c = false := by unfold up; exact decide_eq_false (fun h => by omega)
    simp only [a10075, this, dF h1, ↓evPre, ↓evPreW, evPost, evPostW, evR, evU, seval]
theorem dig_A (c : UInt8) (S : Store) : CallA Tryd.prog 76 [.int .u8 c.toNat] S fun r S' => r = .bool (dig c) ∧ S' = S := by
  refine CallA.keep Tryd.func76 c10076 (Nat.le_of_ble_eq_true rfl) fun σ hσ => ?_
  by_cases h1 : (48 : Int) ≤ c.toNat
  · by_cases h2 : (c.toNat : Int) ≤ 57
    · have : dig c = true := by unfold dig; exact decide_eq_true ⟨by omega, by omega⟩
      simp only [a10076, this, dT h1, dT h2, ↓evPre, ↓evPreW, evPost, evPostW, evR, evU, seval]
    · have : dig c = false := by unfold dig; exact decide_eq_false (fun h => by omega)
      simp only [a10076, this, dT h1, dF h2, ↓evPre, ↓evPreW, evPost, evPostW, evR, evU, seval]
  · have : dig c = false := by unfold dig; exact decide_eq_false (fun h => by omega)
    simp only [a10076, this, dF h1, ↓evPre, ↓evPreW, evPost, evPostW, evR, evU, seval]
theorem rup_A (c : UInt8) (S : Store) : CallA Tryd.prog 59 [.int .u8 c.toNat] S fun r S' => r = .bool (up c) ∧ S' = S := by
  refine CallA.keep Tryd.func59 c10059 (Nat.le_of_ble_eq_true rfl) fun σ hσ => ?_
  by_cases h1 : (65 : Int) ≤ c.toNat
  · by_cases h2 : (c.toNat : Int) ≤ 90
    · have : up c = true := by unfold up; exact decide_eq_true ⟨by omega, by omega⟩
      simp only [a10059, this, dT h1, dT h2, ↓evPre, ↓evPreW, evPost, evPostW, evR, evU, seval]
    · have : up c = false := by unfold up; exact decide_eq_false (fun h => by omega)
      simp only [a10059, this, dT h1, dF h2, ↓evPre, ↓evPreW, evPost, evPostW, evR, evU, seval]
  · have : up c = false := by unfold up; exact decide_eq_false (fun h => by omega)
    simp only [a10059, this, dF h1, ↓evPre, ↓evPreW, evPost, evPostW, evR, evU, seval]
theorem rdig_A (c : UInt8) (S : Store) : CallA Tryd.prog 60 [.int .u8 c.toNat] S fun r S' => r = .bool (dig c) ∧ S' = S := by
  refine CallA.keep Tryd.func60 c10060 (Nat.le_of_ble_eq_true rfl) fun σ hσ => ?_
  by_cases h1 : (48 : Int) ≤ c.toNat
  · by_cases h2 : (c.toNat : Int) ≤ 57
    · have : dig c = true := by unfold dig; exact decide_eq_true ⟨by omega, by omega⟩
      simp only [a10060, this, dT h1, dT h2, ↓evPre, ↓evPreW, evPost, evPostW, evR, evU, seval]
    · have : dig c = false := by unfold dig; exact decide_eq_false (fun h => by omega)
      simp only [a10060, this, dT h1, dF h2, ↓evPre, ↓evPreW, evPost, evPostW, evR, evU, seval]
  · have : dig c = false := by unfold dig; exact decide_eq_false (fun h => by omega)
    simp only [a10060, this, dF h1, ↓evPre, ↓evPreW, evPost, evPostW, evR, evU, seval]
theorem code1_A (c : UInt8) (S : Store) : CallA Tryd.prog 74 [.int .u8 c.toNat] S fun r S' => r = .bool (up c || dig c) ∧ S' = S := by
  refine CallA.keep Tryd.func74 c10074 (Nat.le_of_ble_eq_true rfl) fun σ hσ => ?_
  simp only [a10074, ↓evPre, ↓evPreW, evPost, evPostW, evR, evU, seval]
  refine (up_A c S).then ?_
  cases h : up c with
  | true => simp only [Bool.true_or, ↓evPre, ↓evPreW, evPost, evPostW, evR, evU, seval]
  | false =>
    simp only [↓evPre, ↓evPreW, evPost, evPostW, evR, evU, seval]
    refine (dig_A c S).then ?_
    simp only [Bool.false_or, ↓evPre, ↓evPreW, evPost, evPostW, evR, evU, seval]
theorem all_at {l : Txt} {q : UInt8 → Bool} {k : Nat} {c : UInt8} (hc : l[k]? = some c) : (l.drop k).all q = (q c && (l.drop (k + 1)).all q) := by
  have e : l.drop k = c :: l.drop (k + 1) := by
    obtain ⟨hlt, rfl⟩ := List.getElem?_eq_some_iff.1 hc
    exact List.drop_eq_getElem_cons hlt
  rw [e, List.all_cons]
theorem str_len {f : FuncId} {s : Txt} {rest : List V} {S : Store} {R : V → Store → Prop} (h : s.length ≤ maxLen → CallA Tryd.prog f (.str s :: rest) S R) (h0 : callable Tryd.prog f) : CallA Tryd.prog f (.str s :: rest) S R :=
  ⟨h0, fun ρ w us hi hv => by
    obtain ⟨u, _, hu⟩ := hv.2 0 _ rfl
    cases hu with
    | str h1 h2 => exact (h (by rw [← h1]; simpa using h2)).2 ρ w us hi hv⟩
theorem every_A (s : Txt) (q : UInt8 → Bool) (g : FuncId) (hs : s.length ≤ 9223372036854775807) (hq : ∀ c S, CallA Tryd.prog g [.int .u8 c.toNat] S fun r S' => r = .bool (q c) ∧ S' = S) (S : Store) :
    CallA Tryd.prog 73 [.str s, .func g [] []] S fun r S' => r = .bool (s.all q) ∧ S' = S := by
  refine CallA.keep Tryd.func73 c10073 (Nat.le_of_ble_eq_true rfl) fun σ hσ => ?_
  simp (disch := first | omega | (simp only [lenT]; omega)) only [a10073, evSt, ↓evPre, ↓evPreW, evPost, evPostW, evR, evU, seval]
  refine loopA (ι := Nat) (fun k => [(0, .str s), (1, .func g [] []), (7, .int .i64 s.length), (8, .int .i64 (k : Nat))]) (fun _ => S) (fun k => k ≤ s.length ∧ s.all q = (s.drop k).all q) (fun k => s.length - k) 0 ⟨Nat.zero_le _, rfl⟩ ?_ rfl ?_
  · simp only [↓evPre, ↓evPreW, evPost, evPostW, evR, evU, seval]
  rintro k ⟨hk, he⟩
  cases hc : s[k]? with
  | none =>
    have hge : s.length ≤ k := List.getElem?_eq_none_iff.1 hc
    have hlt : ¬ ((k : Int) < s.length) := by omega
    rw [List.drop_eq_nil_of_le hge] at he
    simp (disch := first | omega | (simp only [lenT]; omega)) only [he, dF hlt, List.all_nil, evSt, ↓evPre, ↓evPreW, evPost, evPostW, evR, evU, seval]
  | some c =>
    have hlt' := (List.getElem?_eq_some_iff.1 hc).1
    have hlt : (k : Int) < s.length := by omega
    have hk1 : (k : Int) + 1 = ((k + 1 : Nat) : Int) := by omega
    rw [all_at hc] at he
    simp (disch := first | omega | (simp only [lenT]; omega)) only [dT hlt, hc, evSt, ↓evPre, ↓evPreW, evPost, evPostW, evR, evU, seval]
    refine (hq c S).then ?_
    cases h : q c with
    | true =>
      rw [h, Bool.true_and] at he
      simp (disch := first | omega | (simp only [lenT]; omega)) only [wrap_i64, hk1, evSt, ↓evPre, ↓evPreW, evPost, evPostW, evR, evU, seval]
      exact ⟨k + 1, ⟨by omega, he⟩, by omega, rfl⟩
    | false =>
      rw [h, Bool.false_and] at he
      simp (disch := first | omega | (simp only [lenT]; omega)) only [he, evSt, ↓evPre, ↓evPreW, evPost, evPostW, evR, evU, seval]
theorem code_A (s : Txt) (a b : Nat) (hs : s.length ≤ 9223372036854775807) (S : Store) : CallA Tryd.prog 44 [.str s, .int .i64 (a : Nat), .int .i64 (b : Nat)] S fun r S' => r = .bool (codeF s a b) ∧ S' = S := by
  refine CallA.keep Tryd.func44 c10044 (Nat.le_of_ble_eq_true rfl) fun σ hσ => ?_
  unfold codeF
  by_cases h1 : a ≤ s.length
  · have h1' : (a : Int) ≤ s.length := by omega
    by_cases h2 : s.length ≤ b
    · have h2' : (s.length : Int) ≤ b := by omega
      simp (disch := first | omega | (simp only [lenT]; omega)) only [a10044, dT h1', dT h2', h1, h2, and_self, decide_true, Bool.true_and, evSt, ↓evPre, ↓evPreW, evPost, evPostW, evR, evU, seval]
      refine (every_A s (fun c => up c || dig c) 74 hs code1_A S).then ?_
      simp (disch := first | omega | (simp only [lenT]; omega)) only [evSt, ↓evPre, ↓evPreW, evPost, evPostW, evR, evU, seval]
    · have h2' : ¬ (s.length : Int) ≤ b := by omega
      simp (disch := first | omega | (simp only [lenT]; omega)) only [a10044, dT h1', dF h2', h1, h2, and_false, decide_false, Bool.false_and, evSt, ↓evPre, ↓evPreW, evPost, evPostW, evR, evU, seval]
  · have h1' : ¬ (a : Int) ≤ s.length := by omega
    simp (disch := first | omega | (simp only [lenT]; omega)) only [a10044, dF h1', h1, false_and, decide_false, Bool.false_and, evSt, ↓evPre, ↓evPreW, evPost, evPostW, evR, evU, seval]
theorem carrier_A (s : Txt) (hs : s.length ≤ 9223372036854775807) (S : Store) : CallA Tryd.prog 72 [.str s] S fun r S' => r = .bool (carF s) ∧ S' = S := by
  refine CallA.keep Tryd.func72 c10072 (Nat.le_of_ble_eq_true rfl) fun σ hσ => ?_
  unfold carF
  simp (disch := first | omega | (simp only [lenT]; omega)) only [a10072, evSt, ↓evPre, ↓evPreW, evPost, evPostW, evR, evU, seval]
  refine (code_A s 2 2 hs S).then ?_
  cases h : codeF s 2 2 with
  | true =>
    simp (disch := first | omega | (simp only [lenT]; omega)) only [evSt, ↓evPre, ↓evPreW, evPost, evPostW, evR, evU, seval]
    refine (every_A s dig 76 hs dig_A S).then ?_
    simp (disch := first | omega | (simp only [lenT]; omega)) only [Bool.true_and, evSt, ↓evPre, ↓evPreW, evPost, evPostW, evR, evU, seval]
  | false => simp (disch := first | omega | (simp only [lenT]; omega)) only [Bool.false_and, evSt, ↓evPre, ↓evPreW, evPost, evPostW, evR, evU, seval]
theorem rcode_A (s : Txt) (a b : Nat) (hs : s.length ≤ 9223372036854775807) (S : Store) : CallA Tryd.prog 30 [.str s, .int .i64 (a : Nat), .int .i64 (b : Nat)] S fun r S' => r = .bool (codeF s a b) ∧ S' = S := by
  refine CallA.keep Tryd.func30 c10030 (Nat.le_of_ble_eq_true rfl) fun σ hσ => ?_
  simp (disch := first | omega | (simp only [lenT]; omega)) only [a10030, evSt, ↓evPre, ↓evPreW, evPost, evPostW, evR, evU, seval]
  refine loopA (ι := Nat) (fun k => [(0, .str s), (1, .int .i64 (a : Nat)), (2, .int .i64 (b : Nat)), (7, .int .i64 (k : Nat))]) (fun _ => S) (fun k => k ≤ s.length ∧ (s.all fun c => up c || dig c) = ((s.drop k).all fun c => up c || dig c)) (fun k => s.length - k) 0 ⟨Nat.zero_le _, rfl⟩ ?_ rfl ?_
  · simp only [↓evPre, ↓evPreW, evPost, evPostW, evR, evU, seval]
  rintro k ⟨hk, he⟩
  cases hc : s[k]? with
  | none =>
    have hge : s.length ≤ k := List.getElem?_eq_none_iff.1 hc
    have hlt : ¬ ((k : Int) < s.length) := by omega
    rw [List.drop_eq_nil_of_le hge] at he
    unfold codeF
    rw [he]
    by_cases h1 : a ≤ s.length
    · have h1' : (a : Int) ≤ s.length := by omega
      by_cases h2 : s.length ≤ b
      · have h2' : (s.length : Int) ≤ b := by omega
        simp (disch := first | omega | (simp only [lenT]; omega)) only [dF hlt, dT h1', dT h2', h1, h2, and_self, decide_true, List.all_nil, Bool.and_self, evSt, ↓evPre, ↓evPreW, evPost, evPostW, evR, evU, seval]
      · have h2' : ¬ (s.length : Int) ≤ b := by omega
        simp (disch := first | omega | (simp only [lenT]; omega)) only [dF hlt, dT h1', dF h2', h1, h2, and_false, decide_false, Bool.false_and, evSt, ↓evPre, ↓evPreW, evPost, evPostW, evR, evU, seval]
    · have h1' : ¬ (a : Int) ≤ s.length := by omega
      simp (disch := first | omega | (simp only [lenT]; omega)) only [dF hlt, dF h1', h1, false_and, decide_false, Bool.false_and, evSt, ↓evPre, ↓evPreW, evPost, evPostW, evR, evU, seval]
  | some c =>
    have hlt' := (List.getElem?_eq_some_iff.1 hc).1
    have hlt : (k : Int) < s.length := by omega
    have hk1 : (k : Int) + 1 = ((k + 1 : Nat) : Int) := by omega
    rw [all_at hc] at he
    simp (disch := first | omega | (simp only [lenT]; omega)) only [dT hlt, hc, evSt, ↓evPre, ↓evPreW, evPost, evPostW, evR, evU, seval]
    refine (rup_A c S).then ?_
    cases h : up c with
    | true =>
      rw [h, Bool.true_or, Bool.true_and] at he
      simp (disch := first | omega | (simp only [lenT]; omega)) only [wrap_i64, hk1, evSt, ↓evPre, ↓evPreW, evPost, evPostW, evR, evU, seval]
      exact ⟨k + 1, ⟨by omega, he⟩, by omega, rfl⟩
    | false =>
      simp (disch := first | omega | (simp only [lenT]; omega)) only [hc, evSt, ↓evPre, ↓evPreW, evPost, evPostW, evR, evU, seval]
      refine (rdig_A c S).then ?_
      cases h2 : dig c with
      | true =>
        rw [h, h2, Bool.or_true, Bool.true_and] at he
        simp (disch := first | omega | (simp only [lenT]; omega)) only [wrap_i64, hk1, evSt, ↓evPre, ↓evPreW, evPost, evPostW, evR, evU, seval]
        exact ⟨k + 1, ⟨by omega, he⟩, by omega, rfl⟩
      | false =>
        rw [h, h2, Bool.or_self, Bool.false_and] at he
        unfold codeF
        simp (disch := first | omega | (simp only [lenT]; omega)) only [he, Bool.and_false, evSt, ↓evPre, ↓evPreW, evPost, evPostW, evR, evU, seval]
theorem car_two {a b : UInt8} (h : codeF [a, b] 2 2 = true) : (!([a, b] : Txt).all dig) = (up a || up b) := by
  have key : ∀ c : UInt8, (up c || dig c) = true → dig c = !up c := fun c hc => by
    cases hu : up c with
    | false => rw [hu, Bool.false_or] at hc; rw [hc]; rfl
    | true =>
      have h1 := of_decide_eq_true hu
      have : dig c = false := decide_eq_false (fun h => by omega)
      rw [this]; rfl
  simp only [codeF, List.length_cons, List.length_nil, List.all_cons, List.all_nil, Bool.and_true, Bool.and_eq_true] at h
  rw [List.all_cons, List.all_cons, List.all_nil, Bool.and_true, key a h.2.1, key b h.2.2]
  cases up a <;> cases up b <;> rfl
theorem rcarrier_A (s : Txt) (hs : s.length ≤ 9223372036854775807) (S : Store) : CallA Tryd.prog 58 [.str s] S fun r S' => r = .bool (carF s) ∧ S' = S := by
  refine CallA.keep Tryd.func58 c10058 (Nat.le_of_ble_eq_true rfl) fun σ hσ => ?_
  unfold carF
  simp (disch := first | omega | (simp only [lenT]; omega)) only [a10058, evSt, ↓evPre, ↓evPreW, evPost, evPostW, evR, evU, seval]
  refine (rcode_A s 2 2 hs S).then ?_
  cases h : codeF s 2 2 with
  | true =>
    obtain ⟨a, b, rfl⟩ : ∃ a b, s = [a, b] := by
      have : s.length = 2 := by
        simp only [codeF, Bool.and_eq_true, decide_eq_true_eq] at h
        omega
      match s, this with
      | [a, b], _ => exact ⟨a, b, rfl⟩
    rw [car_two h]
    simp (disch := first | omega | (simp only [lenT]; omega)) only [List.getElem?_cons_zero, evSt, ↓evPre, ↓evPreW, evPost, evPostW, evR, evU, seval]
    refine (rup_A a S).then ?_
    cases ha : up a with
    | true => simp (disch := first | omega | (simp only [lenT]; omega)) only [Bool.true_or, Bool.and_self, evSt, ↓evPre, ↓evPreW, evPost, evPostW, evR, evU, seval]
    | false =>
      simp (disch := first | omega | (simp only [lenT]; omega)) only [List.getElem?_cons_zero, List.getElem?_cons_succ, evSt, ↓evPre, ↓evPreW, evPost, evPostW, evR, evU, seval]
      refine (rup_A b S).then ?_
      cases hb : up b <;> simp (disch := first | omega | (simp only [lenT]; omega)) only [Bool.false_or, Bool.and_self, Bool.true_and, evSt, ↓evPre, ↓evPreW, evPost, evPostW, evR, evU, seval]
  | false => simp (disch := first | omega | (simp only [lenT]; omega)) only [Bool.false_and, evSt, ↓evPre, ↓evPreW, evPost, evPostW, evR, evU, seval]
theorem codeT_A (s : Txt) (a b : Nat) (S : Store) : CallA Tryd.prog 44 [.str s, .int .i64 (a : Nat), .int .i64 (b : Nat)] S fun r S' => r = .bool (codeF s a b) ∧ S' = S :=
  str_len (fun h => code_A s a b (by unfold maxLen at h; omega) S) ⟨Tryd.f44, Tryd.func44, by kernel_rfl, by kernel_rfl⟩
theorem carrierT_A (s : Txt) (S : Store) : CallA Tryd.prog 72 [.str s] S fun r S' => r = .bool (carF s) ∧ S' = S :=
  str_len (fun h => carrier_A s (by unfold maxLen at h; omega) S) ⟨Tryd.f72, Tryd.func72, by kernel_rfl, by kernel_rfl⟩
theorem rcodeT_A (s : Txt) (a b : Nat) (S : Store) : CallA Tryd.prog 30 [.str s, .int .i64 (a : Nat), .int .i64 (b : Nat)] S fun r S' => r = .bool (codeF s a b) ∧ S' = S :=
  str_len (fun h => rcode_A s a b (by unfold maxLen at h; omega) S) ⟨Tryd.f30, Tryd.func30, by kernel_rfl, by kernel_rfl⟩
theorem rcarrierT_A (s : Txt) (S : Store) : CallA Tryd.prog 58 [.str s] S fun r S' => r = .bool (carF s) ∧ S' = S :=
  str_len (fun h => rcarrier_A s (by unfold maxLen at h; omega) S) ⟨Tryd.f58, Tryd.func58, by kernel_rfl, by kernel_rfl⟩
end Go.Proofs.YtkdbghhdklfoiaaDoor
/- Amounts and words: what is written. -/
namespace Go.Proofs.YtkdbghhdklfoiaaDoor
open Go Go.AL Go.RowKit Go.Sort
set_option linter.unusedSectionVars false
variable [Go.AL.Mode] [Go.AL.LooseM]
set_option linter.unusedSimpArgs false
set_option linter.unusedVariables false
def airF (s : Txt) : Bool := decide (s.length = 3) && s.all up
theorem airport_A (s : Txt) (hs : s.length ≤ 9223372036854775807) (S : Store) : CallA Tryd.prog 71 [.str s] S fun r S' => r = .bool (airF s) ∧ S' = S := by
  refine CallA.keep Tryd.func71 c10071 (Nat.le_of_ble_eq_true rfl) fun σ hσ => ?_
  unfold airF
  by_cases h1 : (s.length : Int) = 3
  · have h1' : s.length = 3 := by omega
    simp only [a10071, dT h1, dT h1', Bool.true_and, ↓evPre, ↓evPreW, evPost, evPostW, evR, evU, seval]
    refine (every_A s up 75 hs up_A S).then ?_
    simp only [↓evPre, ↓evPreW, evPost, evPostW, evR, evU, seval]
  · have h1' : ¬ s.length = 3 := by omega
    simp only [a10071, dF h1, dF h1', Bool.false_and, ↓evPre, ↓evPreW, evPost, evPostW, evR, evU, seval]
theorem airportT_A (s : Txt) (S : Store) : CallA Tryd.prog 71 [.str s] S fun r S' => r = .bool (airF s) ∧ S' = S :=
  str_len (fun h => airport_A s (by unfold maxLen at h; omega) S) ⟨Tryd.f71, Tryd.func71, by kernel_rfl, by kernel_rfl⟩
theorem letters_A (s : Txt) (n : Nat) (hs : s.length ≤ 9223372036854775807) (S : Store) : CallA Tryd.prog 90 [.str s, .int .i64 (n : Nat)] S fun r S' => r = .bool (decide (s.length = n) && s.all up) ∧ S' = S := by
  refine CallA.keep Tryd.func90 c10090 (Nat.le_of_ble_eq_true rfl) fun σ hσ => ?_
  simp (disch := first | omega | (simp only [lenT]; omega)) only [a10090, evSt, ↓evPre, ↓evPreW, evPost, evPostW, evR, evU, seval]
  refine loopA (ι := Nat) (fun k => [(0, .str s), (1, .int .i64 (n : Nat)), (5, .int .i64 (k : Nat))]) (fun _ => S) (fun k => k ≤ s.length ∧ s.all up = (s.drop k).all up) (fun k => s.length - k) 0 ⟨Nat.zero_le _, rfl⟩ ?_ rfl ?_
  · simp only [↓evPre, ↓evPreW, evPost, evPostW, evR, evU, seval]
    try rfl
  rintro k ⟨hk, he⟩
  cases hc : s[k]? with
  | none =>
    have hge : s.length ≤ k := List.getElem?_eq_none_iff.1 hc
    have hlt : ¬ ((k : Int) < s.length) := by omega
    rw [List.drop_eq_nil_of_le hge] at he
    by_cases h1 : (s.length : Int) = (n : Nat)
    · have h1' : s.length = n := by omega
      simp (disch := first | omega | (simp only [lenT]; omega)) only [dF hlt, dT h1, dT h1', he, List.all_nil, Bool.and_self, evSt, ↓evPre, ↓evPreW, evPost, evPostW, evR, evU, seval]
    · have h1' : ¬ s.length = n := by omega
      simp (disch := first | omega | (simp only [lenT]; omega)) only [dF hlt, dF h1, dF h1', he, Bool.false_and, evSt, ↓evPre, ↓evPreW, evPost, evPostW, evR, evU, seval]
  | some c =>
    have hlt' := (List.getElem?_eq_some_iff.1 hc).1
    have hlt : (k : Int) < s.length := by omega
    have hk1 : (k : Int) + 1 = ((k + 1 : Nat) : Int) := by omega
    rw [all_at hc] at he
    simp (disch := first | omega | (simp only [lenT]; omega)) only [dT hlt, hc, evSt, ↓evPre, ↓evPreW, evPost, evPostW, evR, evU, seval]
    refine (rup_A c S).then ?_
    cases hq : up c
    · rw [hq, Bool.false_and] at he
      simp (disch := first | omega | (simp only [lenT]; omega)) only [he, Bool.not_false, Bool.and_false, evSt, ↓evPre, ↓evPreW, evPost, evPostW, evR, evU, seval]
    · rw [hq, Bool.true_and] at he
      simp (disch := first | omega | (simp only [lenT]; omega)) only [Bool.not_true, wrap_i64, hk1, evSt, ↓evPre, ↓evPreW, evPost, evPostW, evR, evU, seval]
      exact ⟨k + 1, ⟨by omega, he⟩, by omega, by first | rfl | exact ⟨rfl, rfl⟩ | exact ⟨rfl, rfl, rfl⟩⟩
theorem rairportT_A (s : Txt) (S : Store) : CallA Tryd.prog 57 [.str s] S fun r S' => r = .bool (airF s) ∧ S' = S :=
  str_len (fun h => by
    refine CallA.keep Tryd.func57 c10057 (Nat.le_of_ble_eq_true rfl) fun σ hσ => ?_
    simp only [a10057, ↓evPre, ↓evPreW, evPost, evPostW, evR, evU, seval]
    refine (letters_A s 3 (by unfold maxLen at h; omega) S).then ?_
    simp only [airF, ↓evPre, ↓evPreW, evPost, evPostW, evR, evU, seval]) ⟨Tryd.f57, Tryd.func57, by kernel_rfl, by kernel_rfl⟩
def plainC (c : UInt8) : Bool := decide (33 ≤ c.toNat ∧ c.toNat ≤ 126 ∧ c.toNat ≠ 34)
def plainF (s : Txt) : Bool := decide (s ≠ []) && s.all plainC
theorem plain1_A (c : UInt8) (S : Store) : CallA Tryd.prog 86 [.int .u8 c.toNat] S fun r S' => r = .bool (plainC c) ∧ S' = S := by
  refine CallA.keep Tryd.func86 c10086 (Nat.le_of_ble_eq_true rfl) fun σ hσ => ?_
  unfold plainC
  by_cases h1 : (32 : Int) < c.toNat
  · by_cases h2 : (c.toNat : Int) ≤ 126
    · by_cases h3 : (c.toNat : Int) = 34
      · have h : ¬ (33 ≤ c.toNat ∧ c.toNat ≤ 126 ∧ c.toNat ≠ 34) := by omega
        simp only [a10086, dT h1, dT h2, dT h3, dF h, Bool.not_true, ↓evPre, ↓evPreW, evPost, evPostW, evR, evU, seval]
      · have h : (33 ≤ c.toNat ∧ c.toNat ≤ 126 ∧ c.toNat ≠ 34) := by omega
        simp only [a10086, dT h1, dT h2, dF h3, dT h, Bool.not_false, ↓evPre, ↓evPreW, evPost, evPostW, evR, evU, seval]
    · have h : ¬ (33 ≤ c.toNat ∧ c.toNat ≤ 126 ∧ c.toNat ≠ 34) := by omega
      simp only [a10086, dT h1, dF h2, dF h, ↓evPre, ↓evPreW, evPost, evPostW, evR, evU, seval]
  · have h : ¬ (33 ≤ c.toNat ∧ c.toNat ≤ 126 ∧ c.toNat ≠ 34) := by omega
    simp only [a10086, dF h1, dF h, ↓evPre, ↓evPreW, evPost, evPostW, evR, evU, seval]
theorem plain_A (s : Txt) (S : Store) : CallA Tryd.prog 54 [.str s] S fun r S' => r = .bool (plainF s) ∧ S' = S :=
  str_len (fun hl => by
    refine CallA.keep Tryd.func54 c10054 (Nat.le_of_ble_eq_true rfl) fun σ hσ => ?_
    unfold plainF
    by_cases h1 : s = []
    · have h1' : ¬ s ≠ [] := fun h => h h1
      simp only [a10054, dT h1, dF h1', Bool.false_and, Bool.not_true, ↓evPre, ↓evPreW, evPost, evPostW, evR, evU, seval]
    · simp only [a10054, dF h1, decide_eq_true (show s ≠ [] from h1), Bool.true_and, Bool.not_false, ↓evPre, ↓evPreW, evPost, evPostW, evR, evU, seval]
      refine (every_A s plainC 86 (by unfold maxLen at hl; omega) plain1_A S).then ?_
      simp only [↓evPre, ↓evPreW, evPost, evPostW, evR, evU, seval]) ⟨Tryd.f54, Tryd.func54, by kernel_rfl, by kernel_rfl⟩
theorem ext_grow (ρ : AL.Place) (S : Store) (w : World) (k : Nat) (os : Array Go.Obj) : Ext ρ S w ρ S (grow (w.drewN k) os) := by
  have hb : ∀ g, g < w.heap.size → (grow (w.drewN k) os).heap[g]? = w.heap[g]? := fun g hg => by
    show (w.heap ++ os)[g]? = _
    rw [Array.getElem?_append_left hg]
  refine ⟨rfl, ⟨rfl, fun _ => Nat.le_add_right _ _⟩, rfl, ?_, fun g hg => ⟨⟨?_, hg.2⟩, hb g hg.1⟩, Nat.le_refl _, fun id o o' h h' => ?_⟩
  · show _ ≤ (w.heap ++ os).size
    rw [Array.size_append]; omega
  · show _ < (w.heap ++ os).size
    rw [Array.size_append]; have := hg.1; omega
  · rw [h] at h'; cases h'; exact ⟨Nat.le_refl _, fun _ c hc => ⟨c, hc, Cont.like_refl c, rfl⟩⟩
theorem inv_grow {ρ : AL.Place} {S : Store} {w : World} (hi : AL.Inv ρ S w) (k : Nat) (os : Array Go.Obj) : AL.Inv ρ S (grow (w.drewN k) os) := by
  have hx := ext_grow ρ S w k os
  refine inv_below hi ⟨hx.os, hx.tape.1, hx.output, hx.size, fun g hg => ?_⟩
  show (w.heap ++ os)[g]? = _
  rw [Array.getElem?_append_left hg]
theorem glob0 : Tryd.prog.globalNamed "internal/strconv.uint64pow10" = some 0 := by kernel_rfl
theorem tab0 {ρ : AL.Place} {S : Store} {w : World} (hi : AL.Inv ρ S w) : Lib.TabIs Tryd.prog w "internal/strconv.uint64pow10" .u64 Lib.pow10Tab := by
  obtain ⟨_, t, fr, hh⟩ : Unowned ρ S w 0 ∧ ∃ t fr, w.heap[0]? = some (.cells (Lib.pow10Tab.map fun z => Value.int .u64 z).toArray t fr) := hi.tab (0, _) (List.mem_cons_self ..)
  unfold Lib.TabIs World.var?
  rw [glob0]
  show (match w.heap[0]? with | some (.cells cs _ _) => some cs | _ => none) = _
  rw [show w.heap[0]? = _ from hh]
theorem fuint_A (u : Nat) (hu : u < 18446744073709551616) (S : Store) : CallA Tryd.prog 53 [.int .u64 (u : Nat), .int .i64 10] S fun r S' => r = .str (Lib.decDigits u) ∧ S' = S := by
  have key : CallA Tryd.prog 85 [.int .u64 (u : Nat), .int .i64 10] S fun r S' => r = .str (Lib.decDigits u) ∧ S' = S := by
    refine ⟨⟨Tryd.f85, Tryd.func85, by kernel_rfl, by kernel_rfl⟩, fun ρ w us hi hv => ?_⟩
    obtain ⟨x, y, rfl, hx, hy⟩ := hv.two
    cases hx
    cases hy
    refine (fuint_raw u hu w (tab0 hi)).mono fun en w' ⟨he, k, os, hw⟩ => ?_
    subst hw
    refine ⟨ρ, S, _, _, he, .str (by simp) ?_, inv_grow hi k os, ext_grow ρ S w k os, rfl, rfl⟩
    have h1 := Lib.decDigits_length u
    have h2 : Lib.nDigits u ≤ 20 := by
      by_cases h0 : 1 ≤ u
      · have := Lib.numDigits_eq u h0 hu
        split at this <;> omega
      · have : u = 0 := by omega
        subst this
        rw [Lib.nDigits_small (by decide)]
        decide
    show (Lib.decDigits u).toArray.size ≤ maxLen
    rw [List.size_toArray, h1]
    unfold maxLen
    omega
  refine CallA.keep Tryd.func53 c10053 (Nat.le_of_ble_eq_true rfl) fun σ hσ => ?_
  simp only [a10053, ↓evPre, ↓evPreW, evPost, evPostW, evR, evU, seval]
  refine key.then ?_
  simp only [↓evPre, ↓evPreW, evPost, evPostW, evR, evU, seval]
def okM (n : Int) : Prop := 0 ≤ n ∧ n ≤ 1099511627776
theorem size_A (n : Int) (h : okM n) (S : Store) : CallA Tryd.prog 52 [.int .i64 n] S fun r S' => r = .int .u64 n ∧ S' = S := by
  obtain ⟨h0, h1⟩ := h
  refine CallA.keep Tryd.func52 c10052 (Nat.le_of_ble_eq_true rfl) fun σ hσ => ?_
  simp (disch := first | omega | (simp only [lenT]; omega)) only [a10052, dF (show ¬ n < 0 by omega), wrap_u64, evSt, ↓evPre, ↓evPreW, evPost, evPostW, evR, evU, seval]
def amtF (n : Nat) : Txt := Lib.decDigits (n / 100) ++ [46] ++ ((if n % 100 < 10 then [48] else []) ++ Lib.decDigits (n % 100))
theorem dec_len (u : Nat) (hu : u < 18446744073709551616) : (Lib.decDigits u).length ≤ 20 := by
  rw [Lib.decDigits_length]
  by_cases h0 : 1 ≤ u
  · have := Lib.numDigits_eq u h0 hu
    split at this <;> omega
  · have : u = 0 := by omega
    subst this
    rw [Lib.nDigits_small (by decide)]
    decide
set_option maxHeartbeats 1000000 in
theorem mprint_A (n : Nat) (h : n ≤ 1099511627776) (S : Store) : CallA Tryd.prog 26 [.int .i64 (n : Nat)] S fun r S' => r = .str (amtF n) ∧ S' = S := by
  refine CallA.keep Tryd.func26 c10026 (Nat.le_of_ble_eq_true rfl) fun σ hσ => ?_
  have hsz := fun S => size_A (n : Nat) ⟨by omega, by omega⟩ S
  have e1 : ((n : Nat) : Int).tmod 100 = ((n % 100 : Nat) : Int) := by rw [Int.tmod_eq_emod_of_nonneg (by omega)]; omega
  have e2 : ((n : Nat) : Int).tdiv 100 = ((n / 100 : Nat) : Int) := by rw [Int.tdiv_eq_ediv_of_nonneg (by omega)]; omega
  have f1 := fun S => fuint_A (n % 100) (by omega) S
  have f2 := fun S => fuint_A (n / 100) (by omega) S
  have l1 := dec_len (n % 100) (by omega)
  have l2 := dec_len (n / 100) (by omega)
  unfold amtF
  generalize Lib.decDigits (n % 100) = d1 at f1 l1 ⊢
  generalize Lib.decDigits (n / 100) = d2 at f2 l2 ⊢
  have a1 : binV .add (.str [48]) (.str d1) = some (.str (48 :: d1)) := bs_add (by simp only [List.length_cons, List.length_nil]; unfold maxLen; omega)
  have a2 : binV .add (.str []) (.str d2) = some (.str d2) := bs_add (by simp only [List.length_nil]; unfold maxLen; omega)
  have a3 : binV .add (.str d2) (.str [46]) = some (.str (d2 ++ [46])) := bs_add (by simp only [List.length_cons, List.length_nil]; unfold maxLen; omega)
  have a4 : ∀ m : Txt, m.length ≤ 30 → binV .add (.str (d2 ++ [46])) (.str m) = some (.str (d2 ++ [46] ++ m)) := fun m hm => bs_add (by simp only [List.length_append, List.length_cons, List.length_nil]; unfold maxLen; omega)
  have a5 := a4 d1 (by omega)
  have a6 := a4 (48 :: d1) (by simp only [List.length_cons]; omega)
  simp (disch := first | omega | (simp only [lenT]; omega)) only [a10026, evSt, ↓evPre, ↓evPreW, evPost, evPostW, evR, evU, seval]
  refine (hsz S).then ?_
  simp (disch := first | omega | (simp only [lenT]; omega)) only [dF (show ¬ ((n : Nat) : Int) < 0 by omega), e1, evSt, ↓evPre, ↓evPreW, evPost, evPostW, evR, evU, seval]
  refine (f1 S).then ?_
  by_cases hc : ((n % 100 : Nat) : Int) < 10
  · have hc' : n % 100 < 10 := by omega
    simp (disch := first | omega | (simp only [lenT]; omega)) only [dT hc, if_pos hc', e1, e2, a1, wrap_u64, evSt, ↓evPre, ↓evPreW, evPost, evPostW, evR, evU, seval]
    refine (f2 S).then ?_
    simp (disch := first | omega | (simp only [lenT]; omega)) only [a2, a3, a6, evSt, ↓evPre, ↓evPreW, evPost, evPostW, evR, evU, seval]
    try simp
  · have hc' : ¬ n % 100 < 10 := by omega
    simp (disch := first | omega | (simp only [lenT]; omega)) only [dF hc, if_neg hc', e1, e2, wrap_u64, evSt, ↓evPre, ↓evPreW, evPost, evPostW, evR, evU, seval]
    refine (f2 S).then ?_
    simp (disch := first | omega | (simp only [lenT]; omega)) only [a2, a3, a5, evSt, ↓evPre, ↓evPreW, evPost, evPostW, evR, evU, seval]
    try simp
end Go.Proofs.YtkdbghhdklfoiaaDoor
