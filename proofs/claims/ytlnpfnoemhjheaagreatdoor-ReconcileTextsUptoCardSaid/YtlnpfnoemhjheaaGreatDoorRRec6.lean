/- The reference's lists of coupons. -/
import Derived.Test.YtlnpfnoemhjheaaGreatDoorRRec5
namespace Go.Proofs.YtlnpfnoemhjheaaGreatDoor
open Go Go.AL
set_option linter.unusedSectionVars false
variable [Go.AL.Mode] [Go.AL.LooseM]
set_option linter.unusedSimpArgs false
set_option linter.unusedVariables false
def st0 : St := ⟨0, 0, 0, 0⟩
end Go.Proofs.YtlnpfnoemhjheaaGreatDoor
/- The reference's lists of coupons: the walk; its differences. -/
namespace Go.Proofs.YtlnpfnoemhjheaaGreatDoor
open Go Go.AL
set_option linter.unusedSectionVars false
variable [Go.AL.Mode] [Go.AL.LooseM]
set_option linter.unusedSimpArgs false
set_option linter.unusedVariables false
end Go.Proofs.YtlnpfnoemhjheaaGreatDoor
/- A list that grows. -/
namespace Go.Proofs.YtlnpfnoemhjheaaGreatDoor
open Go Go.AL
set_option linter.unusedSectionVars false
variable [Go.AL.Mode] [Go.AL.LooseM]
set_option linter.unusedSimpArgs false
set_option linter.unusedVariables false
end Go.Proofs.YtlnpfnoemhjheaaGreatDoor
/- The reference's merged states; short lists; the example; the law of lists. -/
namespace Go.Proofs.YtlnpfnoemhjheaaGreatDoor
open Go Go.AL
set_option linter.unusedSectionVars false
variable [Go.AL.Mode] [Go.AL.LooseM]
set_option linter.unusedSimpArgs false
set_option linter.unusedVariables false
theorem LoopA.forget {P : Program} {N : Nat} {σ : Base} {b : ACode} {Q : Exit → Env → Store → Prop} {E E1 : Env} {S S1 : Store} (h : LoopA P N σ b Q E1 S1) (hf : Fgt S S1) (hs : subF S S1 E1 E) (hl : σ.S.length ≤ S1.length) : LoopA P N σ b Q E S :=
  fun c own hc ρ a w hx hr => h c own hc ρ a w (hx.forget hf hl) (hr.forget hf hs)
theorem map_find {f : St → St} (hf : ∀ z, sameS z (f z) = true) (w : St) : ∀ (l : List St), (l.map f).find? (sameS w) = (l.find? (sameS w)).map f
  | [] => rfl
  | x :: l => by
    rw [List.map_cons, List.find?_cons, List.find?_cons, map_find hf w l]
    have : sameS w (f x) = sameS w x := by
      rw [same_sym w (f x), same_sym w x]
      exact (same_same w (hf x)).symm
    rw [this]
    cases sameS w x <;> rfl
end Go.Proofs.YtlnpfnoemhjheaaGreatDoor
/- Short lists; the example. -/
namespace Go.Proofs.YtlnpfnoemhjheaaGreatDoor
open Go Go.AL
set_option linter.unusedSectionVars false
variable [Go.AL.Mode] [Go.AL.LooseM]
set_option linter.unusedSimpArgs false
set_option linter.unusedVariables false
theorem states_A (a b : List St) (S : Store) (ha : a.length ≤ 1000000) : CallA Tryz.prog 10 [stSl a, stSl b] S fun r S' => r = .bool (decide (a = b)) ∧ S' = S := by
  refine CallA.keep Tryz.func10 c27 (Nat.le_of_ble_eq_true rfl) fun σ hσ => ?_
  by_cases h1 : a.length = b.length
  · have h1' : (a.length : Int) = b.length := by omega
    simp (disch := first | omega | (simp only [lenT]; omega)) only [a27, stSl, dT h1', ↓evPre, ↓evPreW, evPost, evPostW, evR, evU, seval]
    refine loopA (ι := Nat) (fun k => [(0, stSl a), (1, stSl b), (5, .int .i64 k)]) (fun _ => S) (fun k => k ≤ a.length ∧ a.take k = b.take k) (fun k => a.length - k) 0 ⟨Nat.zero_le _, rfl⟩ ?_ rfl ?_
    · simp only [stSl, ↓evPre, ↓evPreW, evPost, evPostW, evR, evU, seval]
      try rfl
    rintro k ⟨hk, hv⟩
    cases hc : a[k]? with
    | some x =>
      have hlt' := (List.getElem?_eq_some_iff.1 hc).1
      have hlt : (k : Int) < a.length := by omega
      obtain ⟨y, hd⟩ : ∃ y, b[k]? = some y := ⟨b[k]'(by omega), List.getElem?_eq_getElem _⟩
      by_cases hxy : x = y
      · subst hxy
        simp (disch := first | omega | (simp only [lenT]; omega)) only [stSl, stR, wrap_i64, hc, hd, dT hlt, eqd_st, ↓evPre, ↓evPreW, evPost, evPostW, evR, evU, seval]
        exact ⟨k + 1, ⟨by omega, by rw [List.take_add_one, List.take_add_one, hc, hd, hv]⟩, by omega, rfl⟩
      · have hab : a ≠ b := fun h => by rw [h, hd] at hc; cases hc; exact hxy rfl
        simp (disch := first | omega | (simp only [lenT]; omega)) only [stSl, stR, wrap_i64, hc, hd, dT hlt, dF hxy, dF hab, eqd_st, ↓evPre, ↓evPreW, evPost, evPostW, evR, evU, seval]
    | none =>
      have hge : a.length ≤ k := List.getElem?_eq_none_iff.1 hc
      have hlt : ¬ ((k : Int) < a.length) := by omega
      rw [List.take_of_length_le hge, List.take_of_length_le (by omega)] at hv
      simp (disch := first | omega | (simp only [lenT]; omega)) only [stSl, dF hlt, dT hv, ↓evPre, ↓evPreW, evPost, evPostW, evR, evU, seval]
  · have h1' : ¬ (a.length : Int) = b.length := by omega
    have hab : a ≠ b := fun h => h1 (by rw [h])
    simp (disch := first | omega | (simp only [lenT]; omega)) only [a27, stSl, dF h1', dF hab, ↓evPre, ↓evPreW, evPost, evPostW, evR, evU, seval]
theorem mF_ex (w : St) : mF [⟨5, 0, 2, 1⟩] [⟨5, 0, 2, 3⟩] w = [(⟨5, 0, 3, 3⟩ : St)].find? (sameS w) := by
  unfold mF
  simp only [List.find?_cons, List.find?_nil]
  have h1 : sameS w ⟨5, 0, 2, 1⟩ = sameS w ⟨5, 0, 3, 3⟩ := rfl
  have h2 : sameS w ⟨5, 0, 2, 3⟩ = sameS w ⟨5, 0, 3, 3⟩ := rfl
  rw [h1, h2]
  cases sameS w ⟨5, 0, 3, 3⟩
  · rfl
  · decide
theorem example_A (S : Store) : CallA Tryz.prog 5 [] S fun r S' => r = .bool true ∧ S' = S := by
  refine CallA.withNeat Tryz.func5 c26 fun hn => ?_
  refine CallA.fin Tryz.func5 c26 (Nat.le_of_ble_eq_true rfl) fun σ hσ => ?_
  simp (disch := first | omega | (simp only [lenT]; omega)) only [a26, evSt, ↓evPre, ↓evPreW, evPost, evPostW, evR, evU, seval]
  refine (merge_A [⟨5, 0, 2, 1⟩] [⟨5, 0, 2, 3⟩] _ (by simp) (by simp) (fun x hx => by simp at hx; subst hx; simp) (fun x hx => by simp at hx; subst hx; simp)).mono ?_
  rintro r S' ⟨⟨d, h1, h2, rfl⟩, rfl⟩
  have hd : d = [⟨5, 0, 3, 3⟩] := h1.uniqF (List.pairwise_singleton ..) fun w => by rw [h2, mF_ex]
  subst hd
  simp (disch := first | omega | (simp only [lenT]; omega)) only [stSl, stR, evSt, ↓evPre, ↓evPreW, evPost, evPostW, evR, evU, seval]
  exact ⟨_, S, hn.fgt _, .imm rfl, Nat.le_refl _, rfl, rfl⟩
end Go.Proofs.YtlnpfnoemhjheaaGreatDoor
