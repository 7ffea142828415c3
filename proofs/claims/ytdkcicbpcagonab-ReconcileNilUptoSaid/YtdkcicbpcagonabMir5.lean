/- A mirror's methods: Put, Get, Changes, Event. -/
import Derived.Test.YtdkcicbpcagonabMir3
namespace Go.Proofs.Ytdkcicbpcagonab
open Go Go.AL
set_option linter.unusedSimpArgs false
set_option linter.unusedVariables false

structure MOk (M : Mi) (Q : List (Nat × Int × Int)) (C : List (Nat × List St)) : Prop where
  wf : WF M
  q : QOk M.R Q
  c : COk M C
theorem MOk.step {M : Mi} {Q : List (Nat × Int × Int)} {C : List (Nat × List St)} (h : MOk M Q C) (x : St) : MOk (recM M x) (recQ M x Q) [] := ⟨h.wf.step x, h.q.step h.wf x, fun p hp => by cases hp⟩
theorem MOk0 : MOk Mi0 [] [] := ⟨WF0, QOk0, fun p hp => by cases hp⟩

/-- What a call leaves: a mirror that knows M. -/
def Leaves (A B : Store) (M : Mi) (S' : Store) : Prop := ∃ Q C, MOk M Q C ∧ S' = mst A B M Q C

def putF (M : Mi) (x : St) : Int × Mi :=
  if x.v < 1 ∨ x.s < 1 ∨ 8 < x.s then (2, M) else match findR M.R x with
    | some r => if x.v ≤ r.1.v then (30, M) else (0, recM M x)
    | none => (0, recM M x)
def getF (M : Mi) (t c : Int) : St × Bool := match findR M.R ⟨t, c, 0, 0⟩ with
  | some r => (r.1, true)
  | none => (⟨0, 0, 0, 0⟩, false)
def evF (M : Mi) (t c e : Int) : (St × Int) × Mi := match findR M.R ⟨t, c, 0, 0⟩ with
  | none => ((⟨0, 0, 0, 0⟩, 7), M)
  | some r => if (nextF r.1.s e).2 ≠ 0 then ((⟨0, 0, 0, 0⟩, (nextF r.1.s e).2), M)
    else if r.1.v = 9223372036854775807 then ((⟨0, 0, 0, 0⟩, 2), M)
    else ((⟨r.1.t, r.1.c, r.1.v + 1, (nextF r.1.s e).1⟩, 0), recM M ⟨r.1.t, r.1.c, r.1.v + 1, (nextF r.1.s e).1⟩)

theorem mst_fin {A B T : Store} {M : Mi} {Q : List (Nat × Int × Int)} {C : List (Nat × List St)} {r r1 : V} {R : V → Store → Prop} (h : Neat (mst A B M Q C)) (hr : Frz (mst A B M Q C ++ T) (mst A B M Q C) r r1) (k : R r1 (mst A B M Q C)) :
    ∃ r1 S1, Fgt (mst A B M Q C ++ T) S1 ∧ Frz (mst A B M Q C ++ T) S1 r r1 ∧ mxN A B ≤ S1.length ∧ R r1 S1 :=
  ⟨r1, mst A B M Q C, h.fgt T, hr, by unfold mst; rw [mx_len]; exact Nat.le_refl _, k⟩
theorem set_AL (A B L : Store) (M : Mi) (Q : List (Nat × Int × Int)) (C : List (Nat × List St)) (x : St) (hN : M.N ≤ 1000000) :
    CallA Try.prog 34 [.ptr (A.length + 3) 0 0 0, stV x] (mst A B M Q C ++ L) fun r S' => r = .tup [] ∧ S' = mst A B (recM M x) (recQ M x Q) [] ++ L := by
  rw [mst_app, mst_app]
  exact set_A A (B ++ L) M Q C x hN
theorem made_AL (A B L : Store) (M : Mi) (Q : List (Nat × Int × Int)) (C : List (Nat × List St)) : CallA Try.prog 26 [.ptr (A.length + 3) 0 0 0] (mst A B M Q C ++ L) fun r S' => r = .bool true ∧ S' = mst A B M Q C ++ L := by
  rw [mst_app]
  exact made_A A (B ++ L) M Q C

section
variable (A B : Store) (M : Mi) (Q : List (Nat × Int × Int)) (C : List (Nat × List St))

set_option maxRecDepth 100000 in
theorem Put_A (h : MOk M Q C) (hN : M.N ≤ 1000000) (x : St) :
    CallA Try.prog 22 [.ptr (A.length + 3) 0 0 0, stV x] (mst A B M Q C) fun r S' => r = .int .i64 (putF M x).1 ∧ Leaves A B (putF M x).2 S' := by
  refine CallA.withNeat Try.func22 c23 fun hn => ?_
  refine CallA.fin Try.func22 c23 (Nat.le_of_ble_eq_true rfl) fun σ hσ => ?_
  simp (disch := first | omega | (simp only [List.length_cons, List.length_nil, List.length_map, List.length_drop]; omega)) only [a23, stV, stR, mst, evM, evSt, ↓evPre, ↓evPreW, evPost, evPostW, ← List.map_take, ← List.map_drop, ↓reduceIte, reduceCtorEq, Nat.reduceEqDiff, forall_const, implies_true, Nat.reduceAdd, Nat.reduceSub, Nat.reduceMul, Nat.reduceLT, Nat.reduceLeDiff, Int.reduceToNat, Int.reduceAdd, Int.reduceSub, Int.reduceNeg, Int.reduceMul, Int.reduceLT, Int.reduceLE, Int.reduceEq]
  refine (made_A A B M Q C).then ?_
  have hf := find_entM x M.R
  unfold keyV at hf
  have same : ∀ (T : Store) (n : Nat), putF M x = ((n : Int), M) → ∃ r1 S1, Fgt (mst A B M Q C ++ T) S1 ∧ Frz (mst A B M Q C ++ T) S1 (.int .i64 (n : Int)) r1 ∧ mxN A B ≤ S1.length ∧ r1 = .int .i64 (putF M x).1 ∧ Leaves A B (putF M x).2 S1 := fun T n hp =>
    mst_fin hn (.imm rfl) ⟨by rw [hp], by rw [hp]; exact ⟨Q, C, h, rfl⟩⟩
  have same0 : ∀ (n : Nat), putF M x = ((n : Int), M) → ∃ r1 S1, Fgt (mst A B M Q C) S1 ∧ Frz (mst A B M Q C) S1 (.int .i64 (n : Int)) r1 ∧ mxN A B ≤ S1.length ∧ r1 = .int .i64 (putF M x).1 ∧ Leaves A B (putF M x).2 S1 := fun n hp => by
    have := same [] n hp
    simpa using this
  by_cases h1 : x.v < 1
  · simp (disch := first | omega | (simp only [List.length_cons, List.length_nil, List.length_map, List.length_drop]; omega)) only [dT h1, mst, evM, evSt, ↓evPre, ↓evPreW, evPost, evPostW, ← List.map_take, ← List.map_drop, ↓reduceIte, reduceCtorEq, Nat.reduceEqDiff, forall_const, implies_true, Nat.reduceAdd, Nat.reduceSub, Nat.reduceMul, Nat.reduceLT, Nat.reduceLeDiff, Int.reduceToNat, Int.reduceAdd, Int.reduceSub, Int.reduceNeg, Int.reduceMul, Int.reduceLT, Int.reduceLE, Int.reduceEq]
    exact same0 2 (by rw [putF, if_pos (.inl h1)]; rfl)
  by_cases h2 : x.s < 1
  · simp (disch := first | omega | (simp only [List.length_cons, List.length_nil, List.length_map, List.length_drop]; omega)) only [dF h1, dT h2, mst, evM, evSt, ↓evPre, ↓evPreW, evPost, evPostW, ← List.map_take, ← List.map_drop, ↓reduceIte, reduceCtorEq, Nat.reduceEqDiff, forall_const, implies_true, Nat.reduceAdd, Nat.reduceSub, Nat.reduceMul, Nat.reduceLT, Nat.reduceLeDiff, Int.reduceToNat, Int.reduceAdd, Int.reduceSub, Int.reduceNeg, Int.reduceMul, Int.reduceLT, Int.reduceLE, Int.reduceEq]
    exact same0 2 (by rw [putF, if_pos (.inr (.inl h2))]; rfl)
  by_cases h3 : 8 < x.s
  · simp (disch := first | omega | (simp only [List.length_cons, List.length_nil, List.length_map, List.length_drop]; omega)) only [dF h1, dF h2, dT h3, mst, evM, evSt, ↓evPre, ↓evPreW, evPost, evPostW, ← List.map_take, ← List.map_drop, ↓reduceIte, reduceCtorEq, Nat.reduceEqDiff, forall_const, implies_true, Nat.reduceAdd, Nat.reduceSub, Nat.reduceMul, Nat.reduceLT, Nat.reduceLeDiff, Int.reduceToNat, Int.reduceAdd, Int.reduceSub, Int.reduceNeg, Int.reduceMul, Int.reduceLT, Int.reduceLE, Int.reduceEq]
    exact same0 2 (by rw [putF, if_pos (.inr (.inr h3))]; rfl)
  have h123 : ¬ (x.v < 1 ∨ x.s < 1 ∨ 8 < x.s) := by omega
  have fin : ∀ (T : Store), putF M x = (0, recM M x) → ∃ r1 S1, Fgt (mst A B (recM M x) (recQ M x Q) [] ++ T) S1 ∧ Frz (mst A B (recM M x) (recQ M x Q) [] ++ T) S1 (.int .i64 0) r1 ∧ mxN A B ≤ S1.length ∧ r1 = .int .i64 (putF M x).1 ∧ Leaves A B (putF M x).2 S1 := fun T hp =>
    mst_fin (mst_neat hn) (.imm rfl) ⟨by rw [hp], by rw [hp]; exact ⟨_, _, h.step x, rfl⟩⟩
  cases hg : findR M.R x with
  | none =>
    rw [hg] at hf
    have hp : putF M x = (0, recM M x) := by rw [putF, if_neg h123, hg]
    simp (disch := first | omega | (simp only [List.length_cons, List.length_nil, List.length_map, List.length_drop]; omega)) only [dF h1, dF h2, dF h3, hf, Option.map_none, Option.getD_none, Option.isSome_none, mst, evM, evSt, ↓evPre, ↓evPreW, evPost, evPostW, ← List.map_take, ← List.map_drop, ↓reduceIte, reduceCtorEq, Nat.reduceEqDiff, forall_const, implies_true, Nat.reduceAdd, Nat.reduceSub, Nat.reduceMul, Nat.reduceLT, Nat.reduceLeDiff, Int.reduceToNat, Int.reduceAdd, Int.reduceSub, Int.reduceNeg, Int.reduceMul, Int.reduceLT, Int.reduceLE, Int.reduceEq]
    refine (set_AL A B _ M Q C x hN).then2 ?_
    simp (disch := first | omega | (simp only [List.length_cons, List.length_nil, List.length_map, List.length_drop]; omega)) only [mst, evM, evSt, ↓evPre, ↓evPreW, evPost, evPostW, ← List.map_take, ← List.map_drop, ↓reduceIte, reduceCtorEq, Nat.reduceEqDiff, forall_const, implies_true, Nat.reduceAdd, Nat.reduceSub, Nat.reduceMul, Nat.reduceLT, Nat.reduceLeDiff, Int.reduceToNat, Int.reduceAdd, Int.reduceSub, Int.reduceNeg, Int.reduceMul, Int.reduceLT, Int.reduceLE, Int.reduceEq]
    exact fin _ hp
  | some r =>
    rw [hg] at hf
    by_cases h4 : x.v ≤ r.1.v
    · have hp : putF M x = (30, M) := by rw [putF, if_neg h123, hg]; simp only [h4, if_true]
      simp (disch := first | omega | (simp only [List.length_cons, List.length_nil, List.length_map, List.length_drop]; omega)) only [entM, dF h1, dF h2, dF h3, dT h4, hf, Option.map_some, Option.getD_some, Option.isSome_some, mst, evM, evSt, ↓evPre, ↓evPreW, evPost, evPostW, ← List.map_take, ← List.map_drop, ↓reduceIte, reduceCtorEq, Nat.reduceEqDiff, forall_const, implies_true, Nat.reduceAdd, Nat.reduceSub, Nat.reduceMul, Nat.reduceLT, Nat.reduceLeDiff, Int.reduceToNat, Int.reduceAdd, Int.reduceSub, Int.reduceNeg, Int.reduceMul, Int.reduceLT, Int.reduceLE, Int.reduceEq]
      exact same _ 30 hp
    · have hp : putF M x = (0, recM M x) := by rw [putF, if_neg h123, hg]; simp only [h4, if_false]
      simp (disch := first | omega | (simp only [List.length_cons, List.length_nil, List.length_map, List.length_drop]; omega)) only [entM, dF h1, dF h2, dF h3, dF h4, hf, Option.map_some, Option.getD_some, Option.isSome_some, mst, evM, evSt, ↓evPre, ↓evPreW, evPost, evPostW, ← List.map_take, ← List.map_drop, ↓reduceIte, reduceCtorEq, Nat.reduceEqDiff, forall_const, implies_true, Nat.reduceAdd, Nat.reduceSub, Nat.reduceMul, Nat.reduceLT, Nat.reduceLeDiff, Int.reduceToNat, Int.reduceAdd, Int.reduceSub, Int.reduceNeg, Int.reduceMul, Int.reduceLT, Int.reduceLE, Int.reduceEq]
      refine (set_AL A B _ M Q C x hN).then2 ?_
      simp (disch := first | omega | (simp only [List.length_cons, List.length_nil, List.length_map, List.length_drop]; omega)) only [mst, evM, evSt, ↓evPre, ↓evPreW, evPost, evPostW, ← List.map_take, ← List.map_drop, ↓reduceIte, reduceCtorEq, Nat.reduceEqDiff, forall_const, implies_true, Nat.reduceAdd, Nat.reduceSub, Nat.reduceMul, Nat.reduceLT, Nat.reduceLeDiff, Int.reduceToNat, Int.reduceAdd, Int.reduceSub, Int.reduceNeg, Int.reduceMul, Int.reduceLT, Int.reduceLE, Int.reduceEq]
      exact fin _ hp
end

theorem WF.get {M : Mi} (h : WF M) {x : St} (hx : x ∈ M.R.map (·.1)) : getF M x.t x.c = (x, true) := by
  obtain ⟨r, hr, rfl⟩ := List.mem_map.1 hx
  have := h.find_mem hr
  rw [getF]
  have e : findR M.R ⟨r.1.t, r.1.c, 0, 0⟩ = findR M.R r.1 := rfl
  rw [e, this]
theorem putF_cases (M : Mi) (x : St) : ((putF M x).1 ≠ 0 ∧ (putF M x).2 = M) ∨ (putF M x = (0, recM M x) ∧ ¬ (x.v < 1 ∨ x.s < 1 ∨ 8 < x.s) ∧ ∀ r, findR M.R x = some r → r.1.v < x.v) := by
  unfold putF
  split
  · exact .inl ⟨by simp, rfl⟩
  · next h =>
    cases hg : findR M.R x with
    | none => exact .inr ⟨rfl, h, fun r hr => by cases hr⟩
    | some r =>
      simp only
      split
      · exact .inl ⟨by simp, rfl⟩
      · exact .inr ⟨rfl, h, fun q hq => by cases hq; omega⟩
end Go.Proofs.Ytdkcicbpcagonab
