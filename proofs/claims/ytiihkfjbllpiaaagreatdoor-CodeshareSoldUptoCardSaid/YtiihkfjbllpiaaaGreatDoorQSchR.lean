/- The reference's look at a flight. -/
import Derived.Test.YtiihkfjbllpiaaaGreatDoorQSchQ
namespace Go.Proofs.YtiihkfjbllpiaaaGreatDoor
open Go Go.AL
set_option linter.unusedSectionVars false
variable [Go.AL.Mode] [Go.AL.LooseM]
set_option linter.unusedSimpArgs false
set_option linter.unusedVariables false

def headF (x : Fl) : List Ft := hdErr x ++ if x.legs.length < 1 ∨ 6 < x.legs.length then [⟨4, txL⟩] else []
set_option maxHeartbeats 4000000 in
theorem head_A (x : Fl) (hl : x.legs.length ≤ 1100000) (S : Store) : CallA Tryz.prog 96 [.agg (flR x)] S fun r S' => r = accV S.length ((headF x).map ftR) ∧ S' = S ++ accT 78 2 ((headF x).map ftR) := by
  refine CallA.keep Tryz.func96 c596 (Nat.le_of_ble_eq_true rfl) fun σ hσ => ?_
  have hcar := fun S => rcarrierT_A x.c S
  have hck := fun S => rcheck_A x.p S
  simp only [pdR] at hck
  have e0 : headF x = ((((if carF x.c then [] else [⟨5, txC⟩]) ++ if x.n < 1 ∨ 9999 < x.n then [⟨2, txN⟩] else []) ++ if pdF x.p ≠ 0 then [⟨pdF x.p, txP⟩] else []) ++ if x.legs.length < 1 ∨ 6 < x.legs.length then [⟨4, txL⟩] else [] : List Ft) := rfl
  have r1 : (1 ≤ roomA) = True := by simp [roomA]
  have r2 : (2 ≤ roomA) = True := by simp [roomA]
  have r3 : (3 ≤ roomA) = True := by simp [roomA]
  have r4 : (4 ≤ roomA) = True := by simp [roomA]
  simp (disch := first | omega | (simp only [lenT]; omega)) only [a596, flR, evSt, ↓evPre, ↓evPreW, evPost, evPostW, evR, evU, seval]
  refine (hcar _).then ?_
  have n1 : (x.n < 1 ∨ 9999 < x.n) ↔ (decide (x.n < 1) || decide (9999 < x.n)) = true := by simp
  have n2 : pdF x.p ≠ 0 ↔ decide (pdF x.p = 0) = false := by simp
  have n3 : (x.legs.length < 1 ∨ 6 < x.legs.length) ↔ (decide ((x.legs.length : Int) < 1) || decide (6 < (x.legs.length : Int))) = true := by rw [Bool.or_eq_true, decide_eq_true_eq, decide_eq_true_eq]; omega
  simp only [n1, n2, n3] at e0
  rw [e0]
  cases hb1 : carF x.c <;> cases hx1 : decide (x.n < 1) <;> cases hx2 : decide (9999 < x.n) <;> cases hx3 : decide (pdF x.p = 0) <;> cases hx4 : decide ((x.legs.length : Int) < 1) <;> cases hx5 : decide (6 < (x.legs.length : Int))
  all_goals simp (disch := first | omega | (simp only [lenT]; omega)) only [r1, r2, r3, r4, true_and, flR, hx1, hx2, hx3, hx4, hx5, evSt, ↓evPre, ↓evPreW, evPost, evPostW, evR, evU, seval]
  all_goals refine (hck _).then ?_
  all_goals simp (disch := first | omega | (simp only [lenT]; omega)) only [r1, r2, r3, r4, true_and, flR, hx1, hx2, hx3, hx4, hx5, evSt, ↓evPre, ↓evPreW, evPost, evPostW, evR, evU, seval]
  all_goals try refine (hck _).then ?_
  all_goals try simp (disch := first | omega | (simp only [lenT]; omega)) only [r1, r2, r3, r4, true_and, flR, hx1, hx2, hx3, hx4, hx5, evSt, ↓evPre, ↓evPreW, evPost, evPostW, evR, evU, seval]
  all_goals first
    | exact ⟨rfl, rfl⟩
    | exact ⟨rfl, by simp [accT]⟩
end Go.Proofs.YtiihkfjbllpiaaaGreatDoor
