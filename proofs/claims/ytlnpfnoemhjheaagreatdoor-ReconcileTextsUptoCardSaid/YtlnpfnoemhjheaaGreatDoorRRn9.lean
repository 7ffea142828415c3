/- States as messages: the law. -/
import Derived.Test.YtlnpfnoemhjheaaGreatDoorRRn7
import Derived.Test.YtlnpfnoemhjheaaGreatDoorRRec6
namespace Go.Proofs.YtlnpfnoemhjheaaGreatDoor
open Go Go.AL
set_option linter.unusedSectionVars false
variable [Go.AL.Mode] [Go.AL.LooseM]
set_option linter.unusedSimpArgs false
set_option linter.unusedVariables false
theorem allF_length : ∀ {ls : List Ed.Ln} {l : List St}, allF ls = some l → l.length = ls.length
  | [], l, h => by cases h; rfl
  | x :: ls, l, h => by
    unfold allF at h
    split at h
    · next a b ha hb =>
      cases h
      rw [List.length_cons, List.length_cons, allF_length hb]
    · cases h
theorem decF_len (s : Tx) (hs : s.length ≤ 65536) : (decF s).1.length ≤ 1000000 := by
  have hz := Ed.parsed_sz s hs
  have hz2 : Ed.szL (Ed.parsed s).1 ≤ 200000 := by omega
  have hl := (small_parts hz2).1
  unfold decF
  split
  · exact Nat.zero_le _
  · cases ha : allF (Ed.parsed s).1 with
    | none => exact Nat.zero_le _
    | some l =>
      have := allF_length ha
      simp only
      omega
theorem decF_back (l : List St) (hx : ∀ x ∈ l, okX x) (hl : l.length ≤ 60) (hr : Ed.rightL (l.map lnOf) = true) : decF (Ed.outL (l.map lnOf)) = (l, 0) := by
  have h1 := Ed.outL_len (l.map lnOf)
  have h2 := szL_of l hx
  unfold decF
  rw [Ed.back_one hr (by omega)]
  simp only [ne_eq, not_true_eq_false, if_false, allF_of l hx]
set_option maxHeartbeats 2000000 in
theorem law_texts (l : List St) (s : Tx) (S : Store) (hx : ∀ x ∈ l, okX x) : CallA Tryz.prog 3 [stSl l, .str s] S fun r S' => r = .bool true ∧ S' = S := by
  refine CallA.keep Tryz.func3 c9003 (Nat.le_of_ble_eq_true rfl) fun σ hσ => ?_
  by_cases h1 : (60 : Int) < (l.length : Int)
  · simp (disch := first | omega | (simp only [lenT]; omega)) only [a9003, stSl, decide_eq_true h1, Bool.not_true, evSt, ↓evPre, ↓evPreW, evPost, evPostW, evR, evU, seval]
    refine (example_A _).then ?_
    simp (disch := first | omega | (simp only [lenT]; omega)) only [evSt, ↓evPre, ↓evPreW, evPost, evPostW, evR, evU, seval]
  by_cases h2 : (2000 : Int) < (s.length : Int)
  · simp (disch := first | omega | (simp only [lenT]; omega)) only [a9003, stSl, decide_eq_false h1, decide_eq_true h2, Bool.not_true, Bool.not_false, evSt, ↓evPre, ↓evPreW, evPost, evPostW, evR, evU, seval]
    refine (example_A _).then ?_
    simp (disch := first | omega | (simp only [lenT]; omega)) only [evSt, ↓evPre, ↓evPreW, evPost, evPostW, evR, evU, seval]
  have hl : l.length ≤ 60 := by omega
  simp (disch := first | omega | (simp only [lenT]; omega)) only [a9003, stSl, decide_eq_false h1, decide_eq_false h2, Bool.not_true, Bool.not_false, evSt, ↓evPre, ↓evPreW, evPost, evPostW, evR, evU, seval]
  obtain ⟨t, e, hpv, hback⟩ : ∃ t e, Ed.printV (l.map lnOf) = .tup [.str t, .int .i64 e] ∧ (e = 0 → decF t = (l, 0)) := by
    unfold Ed.printV
    split
    · next hr => exact ⟨_, _, rfl, fun _ => decF_back l hx hl hr⟩
    · exact ⟨_, _, rfl, fun h => by cases h⟩
  have hen := fun S => encode_A l hl hx S
  have hre := fun S => rencode_A l hl hx S
  have hde := fun t S => decode_A t S
  have hrd := fun t S => rdecode_A t S
  rw [hpv] at hen hre
  simp only [stSl] at hen hre hde hrd
  have hst := fun a b S h => states_A a b S h
  have hll := decF_len s (by omega)
  simp only [stSl] at hst
  refine (hen _).then ?_
  simp (disch := first | omega | (simp only [lenT]; omega)) only [evSt, ↓evPre, ↓evPreW, evPost, evPostW, evR, evU, seval]
  refine (hre _).then ?_
  simp (disch := first | omega | (simp only [lenT]; omega)) only [evSt, ↓evPre, ↓evPreW, evPost, evPostW, evR, evU, seval]
  refine (hde _ _).then ?_
  simp (disch := first | omega | (simp only [lenT]; omega)) only [evSt, ↓evPre, ↓evPreW, evPost, evPostW, evR, evU, seval]
  refine (hrd _ _).then ?_
  simp (disch := first | omega | (simp only [lenT]; omega)) only [decide_eq_true (rfl : t = t), decide_eq_true (rfl : e = e), Bool.not_true, evSt, ↓evPre, ↓evPreW, evPost, evPostW, evR, evU, seval]
  refine (hst _ _ _ hll).then ?_
  by_cases he : e = 0
  case neg =>
    simp (disch := first | omega | (simp only [lenT]; omega)) only [decide_eq_false he, Bool.not_false, Bool.not_true, evSt, ↓evPre, ↓evPreW, evPost, evPostW, evR, evU, seval]
    refine (example_A _).then ?_
    simp (disch := first | omega | (simp only [lenT]; omega)) only [evSt, ↓evPre, ↓evPreW, evPost, evPostW, evR, evU, seval]
  have hb := hback he
  simp (disch := first | omega | (simp only [lenT]; omega)) only [decide_eq_true he, Bool.not_true, evSt, ↓evPre, ↓evPreW, evPost, evPostW, evR, evU, seval]
  have hd2 := hde t
  rw [hb] at hd2
  refine (hd2 _).then ?_
  simp (disch := first | omega | (simp only [lenT]; omega)) only [evSt, ↓evPre, ↓evPreW, evPost, evPostW, evR, evU, seval]
  refine (hst _ _ _ (by omega)).then ?_
  simp (disch := first | omega | (simp only [lenT]; omega)) only [evSt, ↓evPre, ↓evPreW, evPost, evPostW, evR, evU, seval]
  refine (example_A _).then ?_
  simp (disch := first | omega | (simp only [lenT]; omega)) only [evSt, ↓evPre, ↓evPreW, evPost, evPostW, evR, evU, seval]
end Go.Proofs.YtlnpfnoemhjheaaGreatDoor
