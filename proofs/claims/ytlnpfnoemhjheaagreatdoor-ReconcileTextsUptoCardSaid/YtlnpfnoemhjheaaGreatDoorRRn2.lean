/- Numbers: what the reference writes and reads. -/
import Derived.Test.YtlnpfnoemhjheaaGreatDoorRRn0
import Derived.Test.YtlnpfnoemhjheaaGreatDoorRAlM
namespace Go.Proofs.YtlnpfnoemhjheaaGreatDoor
open Go Go.AL
set_option linter.unusedSectionVars false
variable [Go.AL.Mode] [Go.AL.LooseM]
set_option linter.unusedSimpArgs false
set_option linter.unusedVariables false
def ten : Tx := [48, 49, 50, 51, 52, 53, 54, 55, 56, 57]
theorem ten_at : ∀ k : Nat, k < 10 → (ten.drop k).take (k + 1 - k) = [UInt8.ofNat (48 + k)] := by
  intro k hk
  match k, hk with
  | 0, _ => rfl
  | 1, _ => rfl
  | 2, _ => rfl
  | 3, _ => rfl
  | 4, _ => rfl
  | 5, _ => rfl
  | 6, _ => rfl
  | 7, _ => rfl
  | 8, _ => rfl
  | 9, _ => rfl
theorem digits_A : ∀ (m n : Nat), n < m → n < 18446744073709551616 → ∀ S : Store, CallA Tryz.prog 57 [.int .u64 n] S fun r S' => r = .str (Lib.decDigits n) ∧ S' = S
  | 0, n, h, _, _ => absurd h (Nat.not_lt_zero _)
  | m + 1, n, h, hn, S => by
    refine CallA.keep Tryz.func57 c9057 (Nat.le_of_ble_eq_true rfl) fun σ hσ => ?_
    by_cases h10 : (n : Int) < 10
    · rw [Lib.decDigits, dif_pos (by omega)]
      have ht := ten_at n (by omega)
      have e1 : ((n : Int) + 1).toNat = n + 1 := by omega
      simp only [ten] at ht
      have hc : (if (n : Int) ≤ (n : Int) + 1 ∧ (n : Int) + 1 ≤ 10 then some (V.str (List.take (n + 1 - n) (List.drop n [48, 49, 50, 51, 52, 53, 54, 55, 56, 57]))) else none) = some (.str [UInt8.ofNat (48 + n)]) := by rw [if_pos ⟨by omega, by omega⟩, ht]
      simp (disch := omega) only [a9057, decide_eq_true h10, wrap_u64, e1, Int.toNat_natCast, hc, evSt, ↓evPre, ↓evPreW, evPost, evPostW, evR, evU, seval]
    · have ih := digits_A m (n / 10) (by omega) (by omega)
      have ht := ten_at (n % 10) (by omega)
      have e1 : (((n % 10 : Nat) : Int) + 1).toNat = n % 10 + 1 := by omega
      simp only [ten] at ht
      have hc : (if ((n % 10 : Nat) : Int) ≤ ((n % 10 : Nat) : Int) + 1 ∧ ((n % 10 : Nat) : Int) + 1 ≤ 10 then some (V.str (List.take (n % 10 + 1 - n % 10) (List.drop (n % 10) [48, 49, 50, 51, 52, 53, 54, 55, 56, 57]))) else none) = some (.str [UInt8.ofNat (48 + n % 10)]) := by rw [if_pos ⟨by omega, by omega⟩, ht]
      have e10 : (n : Int).tdiv 10 = ((n / 10 : Nat) : Int) := by rw [Int.tdiv_eq_ediv_of_nonneg (by omega)]; omega
      have em : (n : Int).tmod 10 = ((n % 10 : Nat) : Int) := by rw [Int.tmod_eq_emod_of_nonneg (by omega)]; omega
      have hdl : (Lib.decDigits (n / 10)).length ≤ 1000 := by
        rw [Lib.decDigits_length]
        have := Lib.nDigits_le20 (n / 10) (by omega)
        omega
      have hadd : binV .add (.str (Lib.decDigits (n / 10))) (.str [UInt8.ofNat (48 + n % 10)]) = some (.str (Lib.decDigits n)) := by
        rw [bs_add (by unfold maxLen; simp; omega)]
        conv => rhs; rw [Lib.decDigits, dif_neg (by omega)]
      simp (disch := omega) only [a9057, decide_eq_false h10, wrap_u64, e10, em, e1, hc, Int.toNat_natCast, evSt, ↓evPre, ↓evPreW, evPost, evPostW, evR, evU, seval]
      refine (ih S).then ?_
      simp (disch := omega) only [hadd, evSt, ↓evPre, ↓evPreW, evPost, evPostW, evR, evU, seval]
theorem rdecimal_A {S : Store} (n : Int) (h0 : -9223372036854775808 ≤ n) (h1 : n ≤ 9223372036854775807) : CallA Tryz.prog 26 [.int .i64 n] S fun r S' => r = .str (Lib.itoa n) ∧ S' = S := by
  refine CallA.keep Tryz.func26 c9026 (Nat.le_of_ble_eq_true rfl) fun σ hσ => ?_
  by_cases hn : n < 0
  · have e1 : 0 - (n + 1) = ((n.natAbs - 1 : Nat) : Int) := by omega
    have e2 : ((n.natAbs - 1 : Nat) : Int) + 1 = ((n.natAbs : Nat) : Int) := by omega
    have hi : Lib.itoa n = 45 :: Lib.decDigits n.natAbs := by rw [Lib.itoa, if_pos hn]
    have hdl : (Lib.decDigits n.natAbs).length ≤ 1000 := by
      rw [Lib.decDigits_length]
      have := Lib.nDigits_le20 n.natAbs (by omega)
      omega
    have hadd : binV .add (.str [45]) (.str (Lib.decDigits n.natAbs)) = some (.str (Lib.itoa n)) := by
      rw [bs_add (by unfold maxLen; simp; omega), hi]
      rfl
    simp (disch := omega) only [a9026, decide_eq_true hn, wrap_i64, wrap_u64, e1, e2, evSt, ↓evPre, ↓evPreW, evPost, evPostW, evR, evU, seval]
    refine (digits_A (n.natAbs + 1) n.natAbs (by omega) (by omega) S).then ?_
    simp (disch := omega) only [hadd, evSt, ↓evPre, ↓evPreW, evPost, evPostW, evR, evU, seval]
  · have e1 : n = ((n.toNat : Nat) : Int) := by omega
    have hi : Lib.itoa n = Lib.decDigits n.toNat := by rw [Lib.itoa, if_neg hn]
    rw [hi]
    generalize n.toNat = k at e1
    subst e1
    simp (disch := omega) only [a9026, decide_eq_false hn, wrap_i64, wrap_u64, evSt, ↓evPre, ↓evPreW, evPost, evPostW, evR, evU, seval]
    refine (digits_A (k + 1) k (by omega) (by omega) S).then ?_
    simp (disch := omega) only [evSt, ↓evPre, ↓evPreW, evPost, evPostW, evR, evU, seval]
end Go.Proofs.YtlnpfnoemhjheaaGreatDoor
/- Numbers: what the reference reads. -/
namespace Go.Proofs.YtlnpfnoemhjheaaGreatDoor
open Go Go.AL
set_option linter.unusedSectionVars false
variable [Go.AL.Mode] [Go.AL.LooseM]
set_option linter.unusedSimpArgs false
set_option linter.unusedVariables false
theorem rdig_A (c : UInt8) (S : Store) : CallA Tryz.prog 64 [.int .u8 c.toNat] S fun r S' => r = .bool (dig c) ∧ S' = S := by
  refine CallA.keep Tryz.func64 c9064 (Nat.le_of_ble_eq_true rfl) fun σ hσ => ?_
  by_cases h1 : (48 : Int) ≤ (c.toNat : Nat)
  · have e : dig c = decide ((c.toNat : Int) ≤ 57) := by
      unfold dig
      rw [decide_eq_true (by omega : 48 ≤ c.toNat), Bool.true_and]
      exact decide_eq_decide.2 (by omega)
    simp (disch := first | omega | (simp only [lenT]; omega)) only [a9064, decide_eq_true h1, e, evSt, ↓evPre, ↓evPreW, evPost, evPostW, evR, evU, seval]
  · have e : dig c = false := by
      unfold dig
      rw [decide_eq_false (by omega : ¬ 48 ≤ c.toNat), Bool.false_and]
    simp (disch := first | omega | (simp only [lenT]; omega)) only [a9064, decide_eq_false h1, e, evSt, ↓evPre, ↓evPreW, evPost, evPostW, evR, evU, seval]
theorem natF_snoc (l : Tx) (c : UInt8) : natF 0 (l ++ [c]) = 10 * natF 0 l + (c.toNat - 48) := by
  rw [natF_app, natF_cons]
  simp [natF]
set_option maxHeartbeats 2000000 in
theorem rnumber_A (s : Tx) (hl : s.length ≤ 1000000) (S : Store) : CallA Tryz.prog 31 [.str s] S fun r S' => r = .tup [.int .i64 (numF s).1, .int .i64 (numF s).2] ∧ S' = S := by
  refine CallA.keep Tryz.func31 c9031 (Nat.le_of_ble_eq_true rfl) fun σ hσ => ?_
  have hb := body_len s
  obtain ⟨ng, hng⟩ : ∃ ng, ng = decide (s.head? = some 45) := ⟨_, rfl⟩
  simp only [a9031]
  refine stageA (fun E S' => E.get 0 = .str s ∧ S' = S) ?_ ?_
  · intro K hK
    simp (disch := first | omega | (simp only [lenT]; omega)) only [evSt, ↓evPre, ↓evPreW, evPost, evPostW, evR, evU, seval]
    exact hK _ _ ⟨rfl, rfl⟩
  rintro E S2 ⟨e0, hS2⟩
  rw [hS2]
  clear hS2 S2
  refine stageA (fun E S' => (E.get 0 = .str s ∧ E.get 4 = .bool ng) ∧ S' = S) ?_ ?_
  · intro K hK
    cases hs : s with
    | nil =>
      have h0 : ¬ (0 : Int) < ((List.length ([] : Tx) : Nat) : Int) := by simp
      simp (disch := first | omega | (simp only [lenT]; omega)) only [e0, hs, decide_eq_false h0, evSt, ↓evPre, ↓evPreW, evPost, evPostW, evR, evU, seval]
      exact hK _ _ ⟨⟨e0, by rw [hng, hs]; rfl⟩, rfl⟩
    | cons c r =>
      have h0 : (0 : Int) < ((r.length + 1 : Nat) : Int) := by omega
      have hci : decide ((c.toNat : Int) = 45) = ng := by
        rw [hng, hs]
        refine decide_eq_decide.2 ⟨fun e => ?_, fun e => ?_⟩
        · have : c.toNat = 45 := by omega
          rw [List.head?_cons, ← UInt8.ofNat_toNat (x := c), this]
          rfl
        · rw [List.head?_cons, Option.some.injEq] at e
          rw [e]
          rfl
      have hc0 : (c :: r)[0]? = some c := rfl
      simp (disch := first | omega | (simp only [lenT]; omega)) only [e0, hs, decide_eq_true h0, hc0, hci, evSt, ↓evPre, ↓evPreW, evPost, evPostW, evR, evU, seval]
      refine hK _ _ ?_
      exact ⟨⟨e0, rfl⟩, rfl⟩
  clear e0
  rintro E S2 ⟨⟨e0, e4⟩, hS2⟩
  rw [hS2]
  clear hS2 S2
  refine stageA (fun E S' => (E.get 0 = .str s ∧ E.get 4 = .bool ng ∧ E.get 5 = .str s) ∧ S' = S) ?_ ?_
  · intro K hK
    simp (disch := first | omega | (simp only [lenT]; omega)) only [e0, evSt, ↓evPre, ↓evPreW, evPost, evPostW, evR, evU, seval]
    exact hK _ _ ⟨⟨e0, e4, rfl⟩, rfl⟩
  clear e0 e4
  rintro E S2 ⟨⟨e0, e4, e5⟩, hS2⟩
  rw [hS2]
  clear hS2 S2
  refine stageA (fun E S' => (E.get 0 = .str s ∧ E.get 4 = .bool ng ∧ E.get 5 = .str (bodyF s)) ∧ S' = S) ?_ ?_
  · intro K hK
    cases hq : ng
    · have hne : ¬ s.head? = some 45 := by rw [hng] at hq; simpa using hq
      have hbd : bodyF s = s := by rw [bodyF, if_neg hne]
      simp (disch := first | omega | (simp only [lenT]; omega)) only [e4, hq, evSt, ↓evPre, ↓evPreW, evPost, evPostW, evR, evU, seval]
      exact hK _ _ ⟨⟨e0, e4, by rw [hbd]; exact e5⟩, rfl⟩
    · have he : s.head? = some 45 := by rw [hng] at hq; simpa using hq
      have hbd : bodyF s = s.drop 1 := by rw [bodyF, if_pos he]
      have hpos : 1 ≤ s.length := by
        cases s with
        | nil => cases he
        | cons c r => simp
      have hsl : (if (1 : Int) ≤ (s.length : Nat) ∧ ((s.length : Nat) : Int) ≤ (s.length : Nat) then some (V.str (List.take (s.length - 1) (List.drop 1 s))) else none) = some (.str (bodyF s)) := by
        rw [if_pos ⟨by omega, by omega⟩, hbd, List.take_of_length_le (by rw [List.length_drop]; omega)]
      simp (disch := first | omega | (simp only [lenT]; omega)) only [e0, e4, hq, hsl, evSt, ↓evPre, ↓evPreW, evPost, evPostW, evR, evU, seval]
      exact hK _ _ ⟨⟨e0, e4, rfl⟩, rfl⟩
  clear e0 e4 e5
  rintro E S2 ⟨⟨e0, e4, e5⟩, hS2⟩
  rw [hS2]
  clear hS2 S2
  refine stageA (fun E S' => (E.get 4 = .bool ng ∧ E.get 5 = .str (bodyF s)) ∧ (bodyF s ≠ [] ∧ ¬ ((bodyF s).head? = some 48 ∧ s ≠ [48])) ∧ S' = S) ?_ ?_
  · intro K hK
    by_cases h0 : bodyF s = []
    · rw [numF_bad s (.inl h0)]
      simp (disch := first | omega | (simp only [lenT]; omega)) only [e5, h0, evSt, ↓evPre, ↓evPreW, evPost, evPostW, evR, evU, seval]
    obtain ⟨c, d, hc⟩ : ∃ c d, bodyF s = c :: d := by
      cases hb : bodyF s with
      | nil => exact absurd hb h0
      | cons c d => exact ⟨c, d, rfl⟩
    have hc0 : (bodyF s)[0]? = some c := by rw [hc]; rfl
    have hci : ((c.toNat : Nat) : Int) = 48 ↔ c = 48 := ⟨fun e => by
      have : c.toNat = 48 := by omega
      rw [← UInt8.ofNat_toNat (x := c), this]
      rfl, fun e => by rw [e]; rfl⟩
    have hch : (bodyF s).head? = some 48 ↔ c = 48 := by rw [hc]; simp
    have hpos : 0 < (bodyF s).length := by rw [hc]; simp
    by_cases hz : c = 48
    · have e1 := decide_eq_true (hci.2 hz)
      cases hq : ng
      · have hne : ¬ s.head? = some 45 := by rw [hng] at hq; simpa using hq
        have hbd : bodyF s = s := by rw [bodyF, if_neg hne]
        by_cases hl1 : (1 : Int) < ((bodyF s).length : Nat)
        · have hs : s ≠ [48] := fun e => by rw [hbd, e] at hl1; simp at hl1
          rw [numF_bad s (.inr (.inr ⟨hch.2 hz, hs⟩))]
          simp (disch := first | omega | (simp only [lenT]; omega)) only [e4, e5, h0, hq, hc0, e1, decide_eq_true hl1, evSt, ↓evPre, ↓evPreW, evPost, evPostW, evR, evU, seval]
        · have hs : s = [48] := by
            rw [hbd] at hc hl1
            rw [hc, hz]
            rw [hc] at hl1
            simp only [List.length_cons] at hl1
            rw [List.eq_nil_of_length_eq_zero (by omega : d.length = 0)]
          simp (disch := first | omega | (simp only [lenT]; omega)) only [e4, e5, h0, hq, hc0, e1, decide_eq_false hl1, evSt, ↓evPre, ↓evPreW, evPost, evPostW, evR, evU, seval]
          exact hK _ _ ⟨⟨e4, e5⟩, ⟨h0, fun h => h.2 hs⟩, rfl⟩
      · have he : s.head? = some 45 := by rw [hng] at hq; simpa using hq
        have hs : s ≠ [48] := fun e => by rw [e] at he; cases he
        rw [numF_bad s (.inr (.inr ⟨hch.2 hz, hs⟩))]
        simp (disch := first | omega | (simp only [lenT]; omega)) only [e4, e5, h0, hq, hc0, e1, evSt, ↓evPre, ↓evPreW, evPost, evPostW, evR, evU, seval]
    · have e1 := decide_eq_false (fun e => hz (hci.1 e))
      simp (disch := first | omega | (simp only [lenT]; omega)) only [e4, e5, h0, hc0, e1, evSt, ↓evPre, ↓evPreW, evPost, evPostW, evR, evU, seval]
      exact hK _ _ ⟨⟨e4, e5⟩, ⟨h0, fun h => hz (hch.1 h.1)⟩, rfl⟩
  clear e0 e4 e5
  rintro E S2 ⟨⟨e4, e5⟩, ⟨hne, hz⟩, hS2⟩
  rw [hS2]
  clear hS2 S2
  generalize hB : bodyF s = B at *
  refine stageA (fun E S' => (E.get 4 = .bool ng ∧ E.get 5 = .str B) ∧ B.all dig = true ∧ S' = S) ?_ ?_
  · intro K hK
    simp (disch := first | omega | (simp only [lenT]; omega)) only [evSt, ↓evPre, ↓evPreW, evPost, evPostW, evR, evU, seval]
    refine loopA (ι := Nat) (fun k => [(4, .bool ng), (5, .str B), (6, .int .i64 (k : Nat))]) (fun _ => S) (fun k => k ≤ B.length ∧ (B.take k).all dig = true) (fun k => B.length - k) 0 ⟨Nat.zero_le _, rfl⟩ ?_ rfl ?_
    · simp only [e4, e5, ↓evPre, ↓evPreW, evPost, evPostW, evR, evU, seval]
      try rfl
    rintro k ⟨hk, ha⟩
    cases hc : B[k]? with
    | none =>
      have hge := List.getElem?_eq_none_iff.1 hc
      have hlt : ¬ ((k : Int) < B.length) := by omega
      rw [List.take_of_length_le hge] at ha
      simp (disch := first | omega | (simp only [lenT]; omega)) only [decide_eq_false hlt, evSt, ↓evPre, ↓evPreW, evPost, evPostW, evR, evU, seval]
      exact hK _ _ ⟨⟨rfl, rfl⟩, ha, rfl⟩
    | some c =>
      have hlt' := (List.getElem?_eq_some_iff.1 hc).1
      have hlt : (k : Int) < B.length := by omega
      have hk1 : (k : Int) + 1 = ((k + 1 : Nat) : Int) := by omega
      simp (disch := first | omega | (simp only [lenT]; omega)) only [decide_eq_true hlt, hc, evSt, ↓evPre, ↓evPreW, evPost, evPostW, evR, evU, seval]
      refine (rdig_A c S).then ?_
      cases hd : dig c
      · have hf : B.all dig = false := by
          rw [← Bool.not_eq_true]
          intro h
          have := List.all_eq_true.1 h c (List.mem_of_getElem? hc)
          rw [hd] at this
          cases this
        rw [numF_bad s (.inr (.inl (by rw [hB]; exact hf)))]
        simp (disch := first | omega | (simp only [lenT]; omega)) only [Bool.not_false, evSt, ↓evPre, ↓evPreW, evPost, evPostW, evR, evU, seval]
      · simp (disch := first | omega | (simp only [lenT]; omega)) only [wrap_i64, hk1, Bool.not_true, evSt, ↓evPre, ↓evPreW, evPost, evPostW, evR, evU, seval]
        refine ⟨k + 1, ⟨by omega, ?_⟩, by omega, by first | rfl | exact ⟨rfl, rfl⟩ | exact ⟨rfl, rfl, rfl⟩⟩
        rw [List.take_add_one, hc, Option.toList_some, List.all_append, ha, List.all_cons, hd]
        rfl
  clear e4 e5
  rintro E S2 ⟨⟨e4, e5⟩, hd, hS2⟩
  rw [hS2]
  clear hS2 S2
  have hgood := numF_good s (by
    rw [hB]
    rintro (h | h | h)
    · exact hne h
    · rw [hd] at h
      cases h
    · exact hz h)
  obtain ⟨c, d, hcd⟩ : ∃ c d, B = c :: d := by
    cases hb : B with
    | nil => exact absurd hb hne
    | cons c d => exact ⟨c, d, rfl⟩
  have hlead : (c = 48 ∧ s = [48]) ∨ 10 ^ d.length ≤ natF 0 B := by
    by_cases h48 : c = 48
    · refine .inl ⟨h48, Decidable.not_not.1 fun hs => hz ⟨by rw [hcd, h48]; rfl, hs⟩⟩
    · refine .inr ?_
      rw [hcd] at hd ⊢
      rw [List.all_cons, Bool.and_eq_true] at hd
      exact natF_big c d hd.1 h48
  have hlen : B.length = d.length + 1 := by rw [hcd]; rfl
  refine stageA (fun E S' => (E.get 4 = .bool ng ∧ E.get 5 = .str B) ∧ B.length ≤ 19 ∧ S' = S) ?_ ?_
  · intro K hK
    by_cases h19 : (19 : Int) < (B.length : Nat)
    · have hbig : 9223372036854775808 < natF 0 B := by
        rcases hlead with ⟨_, hs⟩ | h
        · have : B.length ≤ 1 := by
            rw [← hB, hs]
            decide
          omega
        · have h1 : 10 ^ 19 ≤ 10 ^ d.length := Nat.pow_le_pow_right (by decide) (by omega)
          have h2 : (9223372036854775808 : Nat) < 10 ^ 19 := by decide
          omega
      have hf : fitF s = false := by
        unfold fitF
        rw [hB]
        split <;> simp <;> omega
      rw [hgood, hf]
      simp (disch := first | omega | (simp only [lenT]; omega)) only [e5, decide_eq_true h19, Bool.false_eq_true, if_false, evSt, ↓evPre, ↓evPreW, evPost, evPostW, evR, evU, seval]
    · simp (disch := first | omega | (simp only [lenT]; omega)) only [e5, decide_eq_false h19, evSt, ↓evPre, ↓evPreW, evPost, evPostW, evR, evU, seval]
      exact hK _ _ ⟨⟨e4, e5⟩, by omega, rfl⟩
  clear e4 e5
  rintro E S2 ⟨⟨e4, e5⟩, h19, hS2⟩
  rw [hS2]
  clear hS2 S2
  refine stageA (fun E S' => (E.get 4 = .bool ng ∧ E.get 5 = .str B ∧ E.get 7 = .int .u64 0) ∧ S' = S) ?_ ?_
  · intro K hK
    simp (disch := first | omega | (simp only [lenT]; omega)) only [evSt, ↓evPre, ↓evPreW, evPost, evPostW, evR, evU, seval]
    exact hK _ _ ⟨⟨e4, e5, rfl⟩, rfl⟩
  clear e4 e5
  rintro E S2 ⟨⟨e4, e5, e7⟩, hS2⟩
  rw [hS2]
  clear hS2 S2
  have hbd : ∀ k, k ≤ B.length → natF 0 (B.take k) < 10000000000000000000 := fun k hk => by
    have h1 := natF_lt (B.take k) 0 0 (by decide) (by rw [List.all_eq_true] at hd ⊢; exact fun x hx => hd x (List.mem_of_mem_take hx))
    have h2 : 10 ^ (0 + (B.take k).length) ≤ 10 ^ 19 := Nat.pow_le_pow_right (by decide) (by rw [List.length_take]; omega)
    have h3 : (10 : Nat) ^ 19 = 10000000000000000000 := by decide
    omega
  refine stageA (fun E S' => (E.get 4 = .bool ng ∧ E.get 7 = .int .u64 (natF 0 B : Nat)) ∧ S' = S) ?_ ?_
  · intro K hK
    simp (disch := first | omega | (simp only [lenT]; omega)) only [evSt, ↓evPre, ↓evPreW, evPost, evPostW, evR, evU, seval]
    refine loopA (ι := Nat) (fun k => [(4, .bool ng), (5, .str B), (7, .int .u64 (natF 0 (B.take k) : Nat)), (8, .int .i64 (k : Nat))]) (fun _ => S) (fun k => k ≤ B.length) (fun k => B.length - k) 0 (Nat.zero_le _) ?_ rfl ?_
    · simp only [e4, e5, e7, ↓evPre, ↓evPreW, evPost, evPostW, evR, evU, seval]
      try rfl
    intro k hk
    cases hc : B[k]? with
    | none =>
      have hge := List.getElem?_eq_none_iff.1 hc
      have hlt : ¬ ((k : Int) < B.length) := by omega
      simp (disch := first | omega | (simp only [lenT]; omega)) only [decide_eq_false hlt, List.take_of_length_le hge, evSt, ↓evPre, ↓evPreW, evPost, evPostW, evR, evU, seval]
      exact hK _ _ ⟨⟨rfl, rfl⟩, rfl⟩
    | some c =>
      have hlt' := (List.getElem?_eq_some_iff.1 hc).1
      have hlt : (k : Int) < B.length := by omega
      have hk1 : (k : Int) + 1 = ((k + 1 : Nat) : Int) := by omega
      have hdc := dig_iff.1 (List.all_eq_true.1 hd c (List.mem_of_getElem? hc))
      have hsn : natF 0 (B.take (k + 1)) = 10 * natF 0 (B.take k) + (c.toNat - 48) := by
        rw [List.take_add_one, hc, Option.toList_some, natF_snoc]
      have hb1 := hbd (k + 1) (by omega)
      have hb0 := hbd k hk
      generalize natF 0 (B.take k) = a at hsn hb0 ⊢
      have e1 : (10 : Int) * (a : Nat) + ((c.toNat : Nat) - 48) = ((natF 0 (B.take (k + 1)) : Nat) : Int) := by rw [hsn]; omega
      have hu8 : ∀ n : Int, 0 ≤ n → n ≤ 255 → IntKind.u8.wrap n = n := fun n h0 h1 => wrap_u8 h0 h1
      simp (disch := omega) only [decide_eq_true hlt, hc, wrap_i64, wrap_u64, wrap_u8, hk1, e1, evSt, ↓evPre, ↓evPreW, evPost, evPostW, evR, evU, seval]
      exact ⟨k + 1, by omega, by omega, rfl, rfl⟩
  clear e4 e5 e7
  rintro E S2 ⟨⟨e4, e7⟩, hS2⟩
  rw [hS2]
  clear hS2 S2
  have hbB := hbd B.length (Nat.le_refl _)
  rw [List.take_of_length_le (Nat.le_refl _)] at hbB
  have hfit : fitF s = if ng then decide (natF 0 B ≤ 9223372036854775808) else decide (natF 0 B < 9223372036854775808) := by
    unfold fitF
    rw [hB, hng]
    simp only [decide_eq_true_eq]
  have hval : valF s = if ng then -((natF 0 B : Nat) : Int) else ((natF 0 B : Nat) : Int) := by
    unfold valF
    rw [hB, hng]
    simp only [decide_eq_true_eq]
  have hone : ng = true → 1 ≤ natF 0 B := fun h => by
    rcases hlead with ⟨_, hs⟩ | h1
    · rw [h, hs] at hng
      cases hng
    · have : 0 < 10 ^ d.length := Nat.pow_pos (by decide)
      omega
  generalize natF 0 B = m at *
  refine stageA (fun E S' => (E.get 4 = .bool ng ∧ E.get 7 = .int .u64 (m : Nat)) ∧ (ng = true → ¬ m ≤ 9223372036854775808) ∧ S' = S) ?_ ?_
  · intro K hK
    cases hq : ng
    · simp (disch := first | omega | (simp only [lenT]; omega)) only [e4, hq, evSt, ↓evPre, ↓evPreW, evPost, evPostW, evR, evU, seval]
      refine hK _ _ ?_
      exact ⟨⟨e4, e7⟩, (fun h => by rw [hq] at h; cases h), rfl⟩
    · have h1 := hone hq
      by_cases hm : (m : Int) ≤ 9223372036854775808
      · rw [hgood, hfit, hval]
        have e1 : (m : Int) - 1 = ((m - 1 : Nat) : Int) := by omega
        have e2 : (0 : Int) - ((m - 1 : Nat) : Int) - 1 = -(m : Int) := by omega
        have hm' : m ≤ 9223372036854775808 := by omega
        simp (disch := omega) only [e4, e7, hq, decide_eq_true hm, decide_eq_true hm', wrap_u64, wrap_i64, e1, e2, if_true, evSt, ↓evPre, ↓evPreW, evPost, evPostW, evR, evU, seval]
      · simp (disch := first | omega | (simp only [lenT]; omega)) only [e4, e7, hq, decide_eq_false hm, evSt, ↓evPre, ↓evPreW, evPost, evPostW, evR, evU, seval]
        refine hK _ _ ?_
        exact ⟨⟨e4, e7⟩, (fun _ => by omega), rfl⟩
  clear e4 e7
  rintro E S2 ⟨⟨e4, e7⟩, hng2, hS2⟩
  rw [hS2]
  clear hS2 S2
  rw [hgood, hfit, hval]
  cases hq : ng
  · by_cases hm : (9223372036854775808 : Int) ≤ (m : Int)
    · have hm' : ¬ m < 9223372036854775808 := by omega
      simp (disch := omega) only [e4, e7, hq, decide_eq_true hm, decide_eq_false hm', Bool.false_eq_true, if_false, evSt, ↓evPre, ↓evPreW, evPost, evPostW, evR, evU, seval]
    · have hm' : m < 9223372036854775808 := by omega
      simp (disch := omega) only [e4, e7, hq, decide_eq_false hm, decide_eq_true hm', wrap_i64, Bool.false_eq_true, if_false, if_true, evSt, ↓evPre, ↓evPreW, evPost, evPostW, evR, evU, seval]
  · have hm' := hng2 hq
    simp (disch := omega) only [e4, e7, hq, decide_eq_false hm', Bool.false_eq_true, if_true, if_false, evSt, ↓evPre, ↓evPreW, evPost, evPostW, evR, evU, seval]
end Go.Proofs.YtlnpfnoemhjheaaGreatDoor
