/- Shares: what is wrong with one, whatever the timetable. -/
import Derived.Test.YtiihkfjbllpiaaaGreatDoorQSchB
namespace Go.Proofs.YtiihkfjbllpiaaaGreatDoor
open Go Go.AL
set_option linter.unusedSectionVars false
variable [Go.AL.Mode] [Go.AL.LooseM]
set_option linter.unusedSimpArgs false
set_option linter.unusedVariables false

def argB (x : Sr) : Bool := decide (x.n < 1) || (decide (9999 < x.n) || (decide (x.oas < 1) || decide (9999 < x.oas)))
def f1 (x : Sr) : List Int := if carF x.c && carF x.oc then [] else [5]
def f2 (x : Sr) : List Int := f1 x ++ if argB x then [2] else []
def f3 (x : Sr) : List Int := f2 x ++ if decide (x.c = x.oc) then [8] else []
def formF (x : Sr) : List Int := f3 x ++ if decide (pdF x.p = 0) then [] else [pdF x.p]
theorem shErr_eq (l : List Fl) (e : List Sr) (x : Sr) : shErr l e x = formF x ++ if pdF x.p = 0 then dayE l e x else [] := by
  unfold shErr formF f3 f2 f1 dayE argB
  by_cases h : pdF x.p = 0 <;> simp [h, or_assoc]
theorem f1_len (x : Sr) : (f1 x).length ≤ 1 := by unfold f1; split <;> simp
theorem f2_len (x : Sr) : (f2 x).length ≤ 2 := by have := f1_len x; unfold f2; rw [List.length_append]; split <;> simp <;> omega
theorem f3_len (x : Sr) : (f3 x).length ≤ 3 := by have := f2_len x; unfold f3; rw [List.length_append]; split <;> simp <;> omega
theorem formF_len (x : Sr) : (formF x).length ≤ 4 := by have := f3_len x; unfold formF; rw [List.length_append]; split <;> simp <;> omega
theorem arg_cases (x : Sr) : (decide (x.n < 1) = true ∧ True ∧ True ∧ True) ∨ (decide (x.n < 1) = false ∧ decide (9999 < x.n) = true ∧ True ∧ True) ∨ (decide (x.n < 1) = false ∧ decide (9999 < x.n) = false ∧ decide (x.oas < 1) = true ∧ True) ∨
    (decide (x.n < 1) = false ∧ decide (9999 < x.n) = false ∧ decide (x.oas < 1) = false ∧ decide (9999 < x.oas) = true) ∨ (decide (x.n < 1) = false ∧ decide (9999 < x.n) = false ∧ decide (x.oas < 1) = false ∧ decide (9999 < x.oas) = false) := by
  cases decide (x.n < 1) <;> cases decide (9999 < x.n) <;> cases decide (x.oas < 1) <;> cases decide (9999 < x.oas) <;> simp
theorem formF_eq (x : Sr) : formF x = ((((if carF x.c && carF x.oc then [] else [5]) ++ if decide (x.n < 1) || (decide (9999 < x.n) || (decide (x.oas < 1) || decide (9999 < x.oas))) then [2] else []) ++ if decide (x.c = x.oc) then [8] else []) ++ if decide (pdF x.p = 0) then [] else [pdF x.p] : List Int) := rfl
set_option maxHeartbeats 16000000 in
set_option maxRecDepth 10000 in
theorem form_A (x : Sr) (S : Store) : CallA Tryz.prog 75 [.agg (srR x)] S fun r S' => r = accV S.length ((formF x).map inR) ∧ S' = S ++ accT 34 1 ((formF x).map inR) := by
  refine CallA.keep Tryz.func75 c575 (Nat.le_of_ble_eq_true rfl) fun σ hσ => ?_
  have hc1 := fun S => carrierT_A x.c S
  have hc2 := fun S => carrierT_A x.oc S
  have hck := fun S => check_A x.p S
  simp only [pdR] at hck
  have r1 : (1 ≤ roomA) = True := by simp [roomA]
  have r2 : (2 ≤ roomA) = True := by simp [roomA]
  have r3 : (3 ≤ roomA) = True := by simp [roomA]
  have r4 : (4 ≤ roomA) = True := by simp [roomA]
  simp (disch := first | omega | (simp only [lenT]; omega)) only [a575, srR, evSt, ↓evPre, ↓evPreW, evPost, evPostW, evR, evU, seval]
  refine (hc1 _).then ?_
  rcases arg_cases x with ⟨d1, d2, d3, d4⟩ | ⟨d1, d2, d3, d4⟩ | ⟨d1, d2, d3, d4⟩ | ⟨d1, d2, d3, d4⟩ | ⟨d1, d2, d3, d4⟩ <;> cases h1 : carF x.c <;> cases h3 : decide (x.c = x.oc) <;> simp (disch := first | omega | (simp only [lenT]; omega)) only [srR, d1, d2, d3, d4, h3, r1, r2, r3, r4, true_and, evSt, ↓evPre, ↓evPreW, evPost, evPostW, evR, evU, seval]
  all_goals try
    (refine (hc2 _).then ?_
     cases h2 : carF x.oc <;> simp (disch := first | omega | (simp only [lenT]; omega)) only [srR, d1, d2, d3, d4, h3, r1, r2, r3, r4, true_and, evSt, ↓evPre, ↓evPreW, evPost, evPostW, evR, evU, seval])
  all_goals refine (hck _).then ?_
  all_goals (cases h4 : decide (pdF x.p = 0) <;> simp (disch := first | omega | (simp only [lenT]; omega)) only [srR, d1, d2, d3, d4, h3, h4, r1, r2, r3, r4, true_and, evSt, ↓evPre, ↓evPreW, evPost, evPostW, evR, evU, seval])
  all_goals
    have hF := formF_eq x
    clear hc1 hc2 hck r1 r2 r3 r4 hσ
    simp only [*, Bool.true_and, Bool.false_and, Bool.and_false, Bool.and_true, Bool.true_or, Bool.false_or, Bool.or_true, Bool.or_false, Bool.false_eq_true, if_true, if_false, List.nil_append, List.append_nil, List.cons_append, List.singleton_append] at hF
    rw [hF]
    first
      | exact ⟨rfl, rfl⟩
      | exact ⟨rfl, by simp [accT]⟩
end Go.Proofs.YtiihkfjbllpiaaaGreatDoor
