/- A mirror's methods: made, set, Put, Get, Changes. -/
import Derived.Test.YtlnpfnoemhjheaaGreatDoorMMir1
import Derived.Test.YtlnpfnoemhjheaaGreatDoorMRecC
namespace Go.Proofs.YtlnpfnoemhjheaaGreatDoor
open Go Go.AL
set_option linter.unusedSectionVars false
variable [Go.AL.Mode] [Go.AL.LooseM]
set_option linter.unusedSimpArgs false
set_option linter.unusedVariables false
theorem New_A (S : Store) : CallA Tryz.prog 14 [] S fun r S' => r = .ptr (S.length + 3) 0 0 0 ∧ S' = mst S [] Mi0 [] [] := by
  refine CallA.keep Tryz.func14 c10 (Nat.le_of_ble_eq_true rfl) fun σ hσ => ?_
  simp (disch := first | omega | (simp only [lenT]; omega)) only [a10, cells_mapv, ok_mapv, evSt, ↓evPre, ↓evPreW, evPost, evPostW, evR, evU, seval]
  try rfl
theorem made_A (A B : Store) (M : Mi) (Q : List (Nat × Int × Int)) (C : List (Nat × List St)) : CallA Tryz.prog 35 [.ptr (A.length + 3) 0 0 0] (mst A B M Q C) fun r S' => r = .bool true ∧ S' = mst A B M Q C := by
  unfold mst
  refine CallA.keep Tryz.func35 c34 (Nat.le_of_ble_eq_true rfl) fun σ hσ => ?_
  simp (disch := first | omega | (simp only [lenT]; omega)) only [a34, evM, evSt, ↓evPre, ↓evPreW, evPost, evPostW, evR, evU, seval]
set_option maxRecDepth 100000 in
theorem set_A (A B : Store) (M : Mi) (Q : List (Nat × Int × Int)) (C : List (Nat × List St)) (x : St) (hN : M.N ≤ 1000000) :
    CallA Tryz.prog 36 [.ptr (A.length + 3) 0 0 0, stV x] (mst A B M Q C) fun r S' => r = .tup [] ∧ S' = mst A B (recM M x) (recQ M x Q) [] := by
  refine CallA.withNeat Tryz.func36 c41 fun hn => ?_
  refine CallA.fin Tryz.func36 c41 (Nat.le_of_ble_eq_true rfl) fun σ hσ => ?_
  have hf := find_entM x M.R
  have hN1 : (M.N : Int) + 1 = ((M.N + 1 : Nat) : Int) := by omega
  have hp : putV (.agg [.int .i64 x.t, .int .i64 x.c]) (.agg [.int .i64 x.t, .int .i64 x.c, .int .i64 x.v, .int .i64 x.s, .int .i64 ((M.N : Int) + 1)]) (M.R.map entM) = (recM M x).R.map entM := by rw [hN1]; exact put_entM x (M.N + 1) M.R
  have hq : ∀ Q', putV (.int .i64 ((M.N : Int) + 1)) (.agg [.int .i64 x.t, .int .i64 x.c]) (Q'.map entQ) = (putQ (M.N + 1) (x.t, x.c) Q').map entQ := fun Q' => by rw [hN1]; exact put_entQ (M.N + 1) (x.t, x.c) Q'
  have fin : ∀ (T : Store) (q : List (V × V)), q = (recQ M x Q).map entQ → ∃ r1 S1, Fgt (mirX A B ((recM M x).R.map entM) .free q [] ((M.N : Int) + 1) ++ T) S1 ∧ Frz (mirX A B ((recM M x).R.map entM) .free q [] ((M.N : Int) + 1) ++ T) S1 (.tup []) r1 ∧ mxN A B ≤ S1.length ∧ r1 = .tup [] ∧ S1 = mst A B (recM M x) (recQ M x Q) [] := by
    intro T q hq
    subst hq
    rw [hN1]
    have e : mirX A B ((recM M x).R.map entM) .free ((recQ M x Q).map entQ) [] ((M.N + 1 : Nat) : Int) = mst A B (recM M x) (recQ M x Q) [] := rfl
    rw [e]
    exact ⟨_, mst A B (recM M x) (recQ M x Q) [], (mst_neat hn).fgt T, .imm rfl, by unfold mst; rw [mx_len]; exact Nat.le_refl _, rfl, rfl⟩
  unfold keyV at hf
  cases hg : findR M.R x with
  | none =>
    rw [hg] at hf
    simp (disch := first | omega | (simp only [lenT]; omega)) only [a41, mst, stV, stR, wrap_i64, hf, hp, hq, Option.map_none, Option.getD_none, Option.isSome_none, evM, evSt, ↓evPre, ↓evPreW, evPost, evPostW, evR, evU, seval]
    exact fin _ _ (by rw [recQ, hg])
  | some r =>
    rw [hg] at hf
    have hd := del_entQ r.2 Q
    simp (disch := first | omega | (simp only [lenT]; omega)) only [a41, mst, entM, stV, stR, wrap_i64, hf, hp, hq, hd, Option.getD_some, Option.isSome_some, evM, evSt, ↓evPre, ↓evPreW, evPost, evPostW, evR, evU, seval]
    exact fin _ _ (by rw [recQ, hg])
end Go.Proofs.YtlnpfnoemhjheaaGreatDoor
/- A mirror's methods: Put, Get, Changes, Event. -/
namespace Go.Proofs.YtlnpfnoemhjheaaGreatDoor
open Go Go.AL
set_option linter.unusedSectionVars false
variable [Go.AL.Mode] [Go.AL.LooseM]
set_option linter.unusedSimpArgs false
set_option linter.unusedVariables false
structure MOk (M : Mi) (Q : List (Nat × Int × Int)) (C : List (Nat × List St)) : Prop where
  wf : WF M
  q : QOk M.R Q
  c : COk M C
theorem MOk.step {M : Mi} {Q : List (Nat × Int × Int)} {C : List (Nat × List St)} (h : MOk M Q C) (x : St) : MOk (recM M x) (recQ M x Q) [] := ⟨h.wf.step x, h.q.step h.wf x, fun p hp => by cases hp⟩
theorem MOk0 : MOk Mi0 [] [] := ⟨WF0, QOk0, fun p hp => by cases hp⟩
def Leaves (A B : Store) (M : Mi) (S' : Store) : Prop := ∃ Q C, MOk M Q C ∧ S' = mst A B M Q C
def putF (M : Mi) (x : St) : Int × Mi :=
  if x.v < 1 ∨ x.s < 1 ∨ 8 < x.s then (2, M) else match findR M.R x with
    | some r => if x.v ≤ r.1.v then (30, M) else (0, recM M x)
    | none => (0, recM M x)
def getF (M : Mi) (t c : Int) : St × Bool := match findR M.R ⟨t, c, 0, 0⟩ with
  | some r => (r.1, true)
  | none => (⟨0, 0, 0, 0⟩, false)
theorem mst_fin {A B T : Store} {M : Mi} {Q : List (Nat × Int × Int)} {C : List (Nat × List St)} {r r1 : V} {R : V → Store → Prop} (h : Neat (mst A B M Q C)) (hr : Frz (mst A B M Q C ++ T) (mst A B M Q C) r r1) (k : R r1 (mst A B M Q C)) :
    ∃ r1 S1, Fgt (mst A B M Q C ++ T) S1 ∧ Frz (mst A B M Q C ++ T) S1 r r1 ∧ mxN A B ≤ S1.length ∧ R r1 S1 :=
  ⟨r1, mst A B M Q C, h.fgt T, hr, by unfold mst; rw [mx_len]; exact Nat.le_refl _, k⟩
theorem set_AL (A B L : Store) (M : Mi) (Q : List (Nat × Int × Int)) (C : List (Nat × List St)) (x : St) (hN : M.N ≤ 1000000) :
    CallA Tryz.prog 36 [.ptr (A.length + 3) 0 0 0, stV x] (mst A B M Q C ++ L) fun r S' => r = .tup [] ∧ S' = mst A B (recM M x) (recQ M x Q) [] ++ L := by
  rw [mst_app, mst_app]
  exact set_A A (B ++ L) M Q C x hN
theorem made_AL (A B L : Store) (M : Mi) (Q : List (Nat × Int × Int)) (C : List (Nat × List St)) : CallA Tryz.prog 35 [.ptr (A.length + 3) 0 0 0] (mst A B M Q C ++ L) fun r S' => r = .bool true ∧ S' = mst A B M Q C ++ L := by
  rw [mst_app]
  exact made_A A (B ++ L) M Q C
section
variable (A B : Store) (M : Mi) (Q : List (Nat × Int × Int)) (C : List (Nat × List St))
set_option maxRecDepth 100000 in
theorem Put_A (h : MOk M Q C) (hN : M.N ≤ 1000000) (x : St) :
    CallA Tryz.prog 15 [.ptr (A.length + 3) 0 0 0, stV x] (mst A B M Q C) fun r S' => r = .int .i64 (putF M x).1 ∧ Leaves A B (putF M x).2 S' := by
  refine CallA.withNeat Tryz.func15 c23 fun hn => ?_
  refine CallA.fin Tryz.func15 c23 (Nat.le_of_ble_eq_true rfl) fun σ hσ => ?_
  simp (disch := first | omega | (simp only [lenT]; omega)) only [a23, stV, stR, mst, evM, evSt, ↓evPre, ↓evPreW, evPost, evPostW, evR, evU, seval]
  refine (made_A A B M Q C).then ?_
  have hf := find_entM x M.R
  unfold keyV at hf
  have same : ∀ (T : Store) (n : Nat), putF M x = ((n : Int), M) → ∃ r1 S1, Fgt (mst A B M Q C ++ T) S1 ∧ Frz (mst A B M Q C ++ T) S1 (.int .i64 (n : Int)) r1 ∧ mxN A B ≤ S1.length ∧ r1 = .int .i64 (putF M x).1 ∧ Leaves A B (putF M x).2 S1 := fun T n hp =>
    mst_fin hn (.imm rfl) ⟨by rw [hp], by rw [hp]; exact ⟨Q, C, h, rfl⟩⟩
  have same0 : ∀ (n : Nat), putF M x = ((n : Int), M) → ∃ r1 S1, Fgt (mst A B M Q C) S1 ∧ Frz (mst A B M Q C) S1 (.int .i64 (n : Int)) r1 ∧ mxN A B ≤ S1.length ∧ r1 = .int .i64 (putF M x).1 ∧ Leaves A B (putF M x).2 S1 := fun n hp => by
    have := same [] n hp
    simpa using this
  by_cases h1 : x.v < 1
  · simp (disch := first | omega | (simp only [lenT]; omega)) only [dT h1, mst, evM, evSt, ↓evPre, ↓evPreW, evPost, evPostW, evR, evU, seval]
    exact same0 2 (by rw [putF, if_pos (.inl h1)]; rfl)
  by_cases h2 : x.s < 1
  · simp (disch := first | omega | (simp only [lenT]; omega)) only [dF h1, dT h2, mst, evM, evSt, ↓evPre, ↓evPreW, evPost, evPostW, evR, evU, seval]
    exact same0 2 (by rw [putF, if_pos (.inr (.inl h2))]; rfl)
  by_cases h3 : 8 < x.s
  · simp (disch := first | omega | (simp only [lenT]; omega)) only [dF h1, dF h2, dT h3, mst, evM, evSt, ↓evPre, ↓evPreW, evPost, evPostW, evR, evU, seval]
    exact same0 2 (by rw [putF, if_pos (.inr (.inr h3))]; rfl)
  have h123 : ¬ (x.v < 1 ∨ x.s < 1 ∨ 8 < x.s) := by omega
  have fin : ∀ (T : Store), putF M x = (0, recM M x) → ∃ r1 S1, Fgt (mst A B (recM M x) (recQ M x Q) [] ++ T) S1 ∧ Frz (mst A B (recM M x) (recQ M x Q) [] ++ T) S1 (.int .i64 0) r1 ∧ mxN A B ≤ S1.length ∧ r1 = .int .i64 (putF M x).1 ∧ Leaves A B (putF M x).2 S1 := fun T hp =>
    mst_fin (mst_neat hn) (.imm rfl) ⟨by rw [hp], by rw [hp]; exact ⟨_, _, h.step x, rfl⟩⟩
  cases hg : findR M.R x with
  | none =>
    rw [hg] at hf
    have hp : putF M x = (0, recM M x) := by rw [putF, if_neg h123, hg]
    simp (disch := first | omega | (simp only [lenT]; omega)) only [dF h1, dF h2, dF h3, hf, Option.map_none, Option.getD_none, Option.isSome_none, mst, evM, evSt, ↓evPre, ↓evPreW, evPost, evPostW, evR, evU, seval]
    refine (set_AL A B _ M Q C x hN).then2 ?_
    simp (disch := first | omega | (simp only [lenT]; omega)) only [mst, evM, evSt, ↓evPre, ↓evPreW, evPost, evPostW, evR, evU, seval]
    exact fin _ hp
  | some r =>
    rw [hg] at hf
    by_cases h4 : x.v ≤ r.1.v
    · have hp : putF M x = (30, M) := by rw [putF, if_neg h123, hg]; simp only [h4, if_true]
      simp (disch := first | omega | (simp only [lenT]; omega)) only [entM, dF h1, dF h2, dF h3, dT h4, hf, Option.getD_some, Option.isSome_some, mst, evM, evSt, ↓evPre, ↓evPreW, evPost, evPostW, evR, evU, seval]
      exact same _ 30 hp
    · have hp : putF M x = (0, recM M x) := by rw [putF, if_neg h123, hg]; simp only [h4, if_false]
      simp (disch := first | omega | (simp only [lenT]; omega)) only [entM, dF h1, dF h2, dF h3, dF h4, hf, Option.getD_some, Option.isSome_some, mst, evM, evSt, ↓evPre, ↓evPreW, evPost, evPostW, evR, evU, seval]
      refine (set_AL A B _ M Q C x hN).then2 ?_
      simp (disch := first | omega | (simp only [lenT]; omega)) only [mst, evM, evSt, ↓evPre, ↓evPreW, evPost, evPostW, evR, evU, seval]
      exact fin _ hp
end
theorem WF.get {M : Mi} (h : WF M) {x : St} (hx : x ∈ M.R.map (·.1)) : getF M x.t x.c = (x, true) := by
  obtain ⟨r, hr, rfl⟩ := List.mem_map.1 hx
  have := h.find_mem hr
  rw [getF]
  have e : findR M.R ⟨r.1.t, r.1.c, 0, 0⟩ = findR M.R r.1 := rfl
  rw [e, this]
theorem putF_cases (M : Mi) (x : St) : ((putF M x).1 ≠ 0 ∧ (putF M x).2 = M) ∨ (putF M x = (0, recM M x) ∧ ¬ (x.v < 1 ∨ x.s < 1 ∨ 8 < x.s) ∧ ∀ r, findR M.R x = some r → r.1.v < x.v) := by
  unfold putF
  split
  · exact .inl ⟨by simp, rfl⟩
  · next h =>
    cases hg : findR M.R x with
    | none => exact .inr ⟨rfl, h, fun r hr => by cases hr⟩
    | some r =>
      simp only
      split
      · exact .inl ⟨by simp, rfl⟩
      · exact .inr ⟨rfl, h, fun q hq => by cases hq; omega⟩
end Go.Proofs.YtlnpfnoemhjheaaGreatDoor
/- A mirror's methods: Get. -/
namespace Go.Proofs.YtlnpfnoemhjheaaGreatDoor
open Go Go.AL
set_option linter.unusedSectionVars false
variable [Go.AL.Mode] [Go.AL.LooseM]
set_option linter.unusedSimpArgs false
set_option linter.unusedVariables false
section
variable (A B : Store) (M : Mi) (Q : List (Nat × Int × Int)) (C : List (Nat × List St))
theorem Get_A (t c : Int) : CallA Tryz.prog 74 [.ptr (A.length + 3) 0 0 0, .int .i64 t, .int .i64 c] (mst A B M Q C) fun r S' => r = .tup [stV (getF M t c).1, .bool (getF M t c).2] ∧ S' = mst A B M Q C := by
  refine CallA.withNeat Tryz.func74 c14 fun hn => ?_
  refine CallA.fin Tryz.func74 c14 (Nat.le_of_ble_eq_true rfl) fun σ hσ => ?_
  have hf : findV (.agg [.int .i64 t, .int .i64 c]) (M.R.map entM) = (findR M.R ⟨t, c, 0, 0⟩).map fun r => (entM r).2 := find_entM ⟨t, c, 0, 0⟩ M.R
  simp (disch := first | omega | (simp only [lenT]; omega)) only [a14, mst, evM, evSt, ↓evPre, ↓evPreW, evPost, evPostW, evR, evU, seval]
  refine (made_AL A B _ M Q C).then ?_
  cases hg : findR M.R ⟨t, c, 0, 0⟩ with
  | none =>
    rw [hg] at hf
    have hp : getF M t c = (⟨0, 0, 0, 0⟩, false) := by rw [getF, hg]
    simp (disch := first | omega | (simp only [lenT]; omega)) only [hf, Option.map_none, Option.getD_none, Option.isSome_none, mst, evM, evSt, ↓evPre, ↓evPreW, evPost, evPostW, evR, evU, seval]
    exact mst_fin hn (.imm rfl) ⟨by rw [hp]; rfl, rfl⟩
  | some r =>
    rw [hg] at hf
    have hp : getF M t c = (r.1, true) := by rw [getF, hg]
    simp (disch := first | omega | (simp only [lenT]; omega)) only [hf, entM, Option.getD_some, Option.isSome_some, mst, evM, evSt, ↓evPre, ↓evPreW, evPost, evPostW, evR, evU, seval]
    exact mst_fin hn (.imm rfl) ⟨by rw [hp]; rfl, rfl⟩
end
end Go.Proofs.YtlnpfnoemhjheaaGreatDoor
