/- Schedule: the chapter's examples; the laws Finds and Days. -/
import Derived.Test.YtiihkfjbllpiaaaDoorSm7
namespace Go.Proofs.YtiihkfjbllpiaaaDoor
open Go Go.AL
set_option linter.unusedSectionVars false
variable [Go.AL.Mode] [Go.AL.LooseM]
set_option linter.unusedSimpArgs false
set_option linter.unusedVariables false

/-! ### The examples -/
def g0 : Fl := ⟨[66, 65], 117, ⟨9497, 9499, 127⟩, []⟩
def kBA : Txt := [66, 65]
def kLHR : Txt := [76, 72, 82]
def kJFK : Txt := [74, 70, 75]
def s8 : Sg := ⟨kBA, 117, 9498, kLHR, kJFK, 13677620, 13678120⟩
def t8 : Sg := ⟨kBA, 117, 9498, kLHR, kJFK, 13677621, 13678120⟩
def d8 : Dt := ⟨kBA, 117, 9499, kLHR, kJFK, 13679060, 13679560, [55, 55, 55]⟩
theorem kn1 : ttF q0 [x0, g0] rT = [⟨4, [102, 108, 105, 103, 104, 116, 32, 49, 32, 108, 101, 103, 115]⟩, ⟨6, [102, 108, 105, 103, 104, 116, 32, 49]⟩] := by decide +kernel
theorem kn2 : onL [x0] kBA 117 9500 = none := by decide +kernel
theorem kn3 : segF q0 [x0] kBA 117 9498 kLHR kJFK = (s8, 0) := by decide +kernel
theorem kn4 : (segF q0 [x0] kBA 117 9498 kJFK kLHR).2 = 14 := by decide +kernel
theorem kn5 : difF [x0] [] kBA 117 ⟨9499, 9505, 127⟩ = [9499] := by decide +kernel
theorem kn6 : allL q0 [x0] 9499 = [d8] := by decide +kernel
theorem kn7 : oprtd q0 [x0] s8 = true := by decide +kernel
theorem kn8 : oprtd q0 [x0] t8 = false := by decide +kernel
theorem kn9 : ([x0, g0].all fun x => (daysF x.p).all fun d => !badDay q0 x d) = true := by decide +kernel
theorem q0_ok : POk q0 := ⟨by decide, fun a ha => by
  have h : (q0.1.all fun a => decide (a.sh.length ≤ 100000)) = true := by decide
  exact of_decide_eq_true (List.all_eq_true.1 h a ha)⟩
theorem x0_ok : FOk [x0] := ⟨by decide, fun x hx => by simp only [List.mem_singleton] at hx; subst hx; decide⟩
theorem e0_ok : FOk [] := ⟨by decide, fun x hx => by cases hx⟩
theorem kcheck_A (S : Store) : CallA Tryd.prog 14 [plV q0, .sl 6 [flR x0, [.str [66, 65], .int .i64 117, .int .i64 9497, .int .i64 9499, .int .i64 127, .nilSl]]] S fun r S' => r = .sl 2 [[.int .i64 4, .str [102, 108, 105, 103, 104, 116, 32, 49, 32, 108, 101, 103, 115]], [.int .i64 6, .str [102, 108, 105, 103, 104, 116, 32, 49]]] ∧ S' = S := by
  have h := check8_A q0 q0_ok [x0, g0] (by decide) (fun x hx => by
      rcases List.mem_cons.1 hx with rfl | hx
      · decide
      · simp only [List.mem_singleton] at hx; subst hx; decide) rT (fun x hx d hd hb => by
    have := List.all_eq_true.1 (List.all_eq_true.1 kn9 x hx) d hd
    rw [hb] at this
    cases this) (fun d => by rw [rT, prtF_len]; omega) S
  rw [kn1] at h
  exact h.wk ⟨.refl _, Wk.slL ⟨⟨.refl _, .refl _, .refl _, .refl _, .refl _, .refl _, trivial⟩, ⟨.refl _, .refl _, .refl _, .refl _, .refl _, .nil 5, trivial⟩, trivial⟩, trivial⟩
theorem kday_A (S : Store) : CallA Tryd.prog 16 [plV q0, .sl 6 ([x0].map flR), .int .i64 9499] S fun r S' => r = .sl 8 [dtR d8] ∧ S' = S :=
  (day_A q0 q0_ok [x0] x0_ok 9499 S).mono fun r S' ⟨L, h1, h2, h3⟩ => ⟨by
    have h := h2.2
    rw [kn6] at h
    rw [h1, List.perm_singleton.1 h]
    rfl, h3⟩
set_option maxHeartbeats 4000000 in
theorem knows8_A (S : Store) : CallA Tryd.prog 5 [] S fun r S' => r = .bool true ∧ S' = S := by
  refine CallA.withNeat Tryd.func5 c516 fun hn => ?_
  refine CallA.fin Tryd.func5 c516 (Nat.le_of_ble_eq_true rfl) fun σ hσ => ?_
  have h2 := fun S => onC_A [x0] kBA 117 9500 (by decide) S
  have h3 := fun S => seg_A q0 q0_ok [x0] x0_ok kBA 117 9498 kLHR kJFK S
  have h4 := fun S => seg_A q0 q0_ok [x0] x0_ok kBA 117 9498 kJFK kLHR S
  have h5 := fun S => (differ_A [x0] [] x0_ok e0_ok kBA 117 ⟨9499, 9505, 127⟩ S).wk (args := [.sl 6 ([x0].map flR), .nilSl, .str kBA, .int .i64 117, .agg (pdR ⟨9499, 9505, 127⟩)]) ⟨.refl _, .nil 6, .refl _, .refl _, .refl _, trivial⟩
  have h6 := fun S => kday_A S
  have h7 := fun S => oprtd_A q0 q0_ok [x0] x0_ok s8 S
  have h8 := fun S => oprtd_A q0 q0_ok [x0] x0_ok t8 S
  rw [kn2] at h2
  rw [kn3] at h3
  rw [kn5] at h5
  rw [kn7] at h7
  rw [kn8] at h8
  simp only [kn4] at h4
  generalize (segF q0 [x0] kBA 117 9498 kJFK kLHR).1 = u at h4
  simp only [List.map_cons, List.map_nil, kBA, kLHR, kJFK, s8, t8, d8, sgR, dtR, pdR, inR] at h2 h3 h4 h5 h6 h7 h8
  have hx : flR x0 = [.str [66, 65], .int .i64 117, .int .i64 9497, .int .i64 9499, .int .i64 127, .sl 5 [[.str [76, 72, 82], .str [74, 70, 75], .int .i64 500, .int .i64 700, .str [55, 55, 55]]]] := rfl
  have hc := fun S => kcheck_A S
  have h1 := fun S => first8_A S
  rw [hx] at h1 h2 h3 h4 h5 h6 h7 h8 hc
  simp (disch := first | omega | (simp only [lenT]; omega)) only [a516, evSt, ↓evPre, ↓evPreW, evPost, evPostW, evR, evU, seval]
  refine (places8_A _).then ?_
  simp (disch := first | omega | (simp only [lenT]; omega)) only [plV, evSt, ↓evPre, ↓evPreW, evPost, evPostW, evR, evU, seval]
  refine (h1 _).then ?_
  simp (disch := first | omega | (simp only [lenT]; omega)) only [plV, evSt, ↓evPre, ↓evPreW, evPost, evPostW, evR, evU, seval]
  refine (hc _).then ?_
  simp (disch := first | omega | (simp only [lenT]; omega)) only [plV, evSt, ↓evPre, ↓evPreW, evPost, evPostW, evR, evU, seval]
  refine (h2 _).then ?_
  simp (disch := first | omega | (simp only [lenT]; omega)) only [onR, noFl, plV, evSt, ↓evPre, ↓evPreW, evPost, evPostW, evR, evU, seval]
  refine (h3 _).then ?_
  simp (disch := first | omega | (simp only [lenT]; omega)) only [plV, evSt, ↓evPre, ↓evPreW, evPost, evPostW, evR, evU, seval]
  refine (h4 _).then ?_
  simp (disch := first | omega | (simp only [lenT]; omega)) only [plV, sgR, evSt, ↓evPre, ↓evPreW, evPost, evPostW, evR, evU, seval]
  refine (h5 _).then ?_
  simp (disch := first | omega | (simp only [lenT]; omega)) only [plV, evSt, ↓evPre, ↓evPreW, evPost, evPostW, evR, evU, seval]
  refine (h6 _).then ?_
  simp (disch := first | omega | (simp only [lenT]; omega)) only [plV, evSt, ↓evPre, ↓evPreW, evPost, evPostW, evR, evU, seval]
  refine (h7 _).then ?_
  simp (disch := first | omega | (simp only [lenT]; omega)) only [plV, evSt, ↓evPre, ↓evPreW, evPost, evPostW, evR, evU, seval]
  refine (h8 _).then ?_
  simp (disch := first | omega | (simp only [lenT]; omega)) only [plV, evSt, ↓evPre, ↓evPreW, evPost, evPostW, evR, evU, seval]
  exact ⟨_, S, hn.fgt _, .imm rfl, Nat.le_refl _, rfl, rfl⟩

/-! ### The laws -/
structure Ak where
  c : Txt
  n : Int
  day : Int
  f : Txt
  t : Txt
def akR (a : Ak) : List V := [.str a.c, .int .i64 a.n, .int .i64 a.day, .str a.f, .str a.t]
end Go.Proofs.YtiihkfjbllpiaaaDoor
