/- After Expire all holds end later, those that were returned do not, and none is lost. -/
import Derived.Test.YthdcajfjglgiiaaHoldG
namespace Go.Proofs.Ythdcajfjglgiiaa
open Go Go.AL
set_option linter.unusedSectionVars false
variable [Go.AL.Mode] [Go.AL.LooseM]
set_option linter.unusedSimpArgs false
set_option linter.unusedVariables false

section
variable {A B T : Store} {P : List Hd} {k ver : Nat} {o : AL.Obj}
theorem hs_ob : Store.obj? (hst A B P ++ T) (hN A B + k) ver = Store.obj? T k ver := hn_ob
theorem hs_ob0 : Store.obj? (hst A B P ++ T) (hN A B) ver = Store.obj? T 0 ver := hn_ob0
theorem hs_se : (hst A B P ++ T : Store).set (hN A B + k) o = hst A B P ++ T.set k o := hn_se
theorem hs_se0 : (hst A B P ++ T : Store).set (hN A B) o = hst A B P ++ T.set 0 o := hn_se0
end
theorem evQ : (type_of% @hst_len) ∧ (type_of% @hs_ob) ∧ (type_of% @hs_ob0) ∧ (type_of% @hs_se) ∧ (type_of% @hs_se0) := ⟨@hst_len, @hs_ob, @hs_ob0, @hs_se, @hs_se0⟩
theorem hN_lt1 {S : Store} : S.length + 1 < hN S [] := by unfold hN; simp

theorem gone_rest_len (L : List Hd) (now : Int) : (restF L now).length + (goneF L now).length = L.length := by
  unfold restF goneF
  induction L with
  | nil => rfl
  | cons x L ih =>
    rw [List.filter_cons, List.filter_cons]
    by_cases h : x.til ≤ now
    · simp only [dT h, Bool.not_true, Bool.false_eq_true, if_false, if_true, List.length_cons]; omega
    · simp only [dF h, Bool.not_false, Bool.false_eq_true, if_false, if_true, List.length_cons]; omega
theorem gone_not {L : List Hd} (hu : Uq L) {now : Int} {x : Hd} (hx : x ∈ goneF L now) : x.til ≤ now ∧ dropF (restF L now) x.id = ((zHd, 7), restF L now) := by
  unfold goneF at hx
  rw [List.mem_filter, decide_eq_true_eq] at hx
  refine ⟨hx.2, ?_⟩
  cases hf : findH (restF L now) x.id with
  | none => rw [dropF, hf]
  | some y =>
    obtain ⟨h1, h2⟩ := find_some hf
    unfold restF at h1
    rw [List.mem_filter] at h1
    have e1 := find_mem hu h1.1
    have e2 := find_mem hu hx.1
    rw [h2, e2] at e1
    cases e1
    have := h1.2
    rw [dT hx.2] at this
    cases this

set_option maxRecDepth 100000 in
set_option maxHeartbeats 1000000 in
theorem law_expires (l : List Hd) (now : Int) (hl : l.length ≤ 2000000) (hlx : ∀ x ∈ l, x.legs.length ≤ 2000000) (S : Store) : CallA Try.prog 3 [.sl 5 (l.map hdR), .int .i64 now] S fun r S' => r = .bool true ∧ S' = S := by
  refine CallA.withNeat Try.func3 c303 fun hn => ?_
  refine CallA.fin Try.func3 c303 (Nat.le_of_ble_eq_true rfl) fun σ hσ => ?_
  have fin0 : ∀ (T : Store), Fgt T S → ∃ r1 S1, Fgt T S1 ∧ Frz T S1 (.bool true) r1 ∧ S.length ≤ S1.length ∧ r1 = .bool true ∧ S1 = S := fun T h => ⟨.bool true, S, h, .imm rfl, Nat.le_refl _, rfl, rfl⟩
  by_cases h20 : (20 : Int) < l.length
  · simp (disch := first | omega | (simp only [List.length_cons, List.length_nil, List.length_map, List.length_drop]; omega)) only [a303, List.length_map, dT h20, evSt, ↓evPre, ↓evPreW, evPost, evPostW, ← List.map_take, ← List.map_drop, ↓reduceIte, reduceCtorEq, Nat.reduceEqDiff, forall_const, implies_true, Nat.reduceAdd, Nat.reduceSub, Nat.reduceMul, Nat.reduceLT, Nat.reduceLeDiff, Int.reduceToNat, Int.reduceAdd, Int.reduceSub, Int.reduceNeg, Int.reduceMul, Int.reduceLT, Int.reduceLE, Int.reduceEq]
    refine (awake_A S).then ?_
    simp (disch := first | omega | (simp only [List.length_cons, List.length_nil, List.length_map, List.length_drop]; omega)) only [evSt, ↓evPre, ↓evPreW, evPost, evPostW, ← List.map_take, ← List.map_drop, ↓reduceIte, reduceCtorEq, Nat.reduceEqDiff, forall_const, implies_true, Nat.reduceAdd, Nat.reduceSub, Nat.reduceMul, Nat.reduceLT, Nat.reduceLeDiff, Int.reduceToNat, Int.reduceAdd, Int.reduceSub, Int.reduceNeg, Int.reduceMul, Int.reduceLT, Int.reduceLE, Int.reduceEq]
    exact fin0 S hn.self
  simp (disch := first | omega | (simp only [List.length_cons, List.length_nil, List.length_map, List.length_drop]; omega)) only [a303, List.length_map, dF h20, evSt, ↓evPre, ↓evPreW, evPost, evPostW, ← List.map_take, ← List.map_drop, ↓reduceIte, reduceCtorEq, Nat.reduceEqDiff, forall_const, implies_true, Nat.reduceAdd, Nat.reduceSub, Nat.reduceMul, Nat.reduceLT, Nat.reduceLeDiff, Int.reduceToNat, Int.reduceAdd, Int.reduceSub, Int.reduceNeg, Int.reduceMul, Int.reduceLT, Int.reduceLE, Int.reduceEq]
  refine (New_A S).then2 ?_
  simp (disch := first | omega | (simp only [List.length_cons, List.length_nil, List.length_map, List.length_drop]; omega)) only [evSt, ↓evPre, ↓evPreW, evPost, evPostW, ← List.map_take, ← List.map_drop, ↓reduceIte, reduceCtorEq, Nat.reduceEqDiff, forall_const, implies_true, Nat.reduceAdd, Nat.reduceSub, Nat.reduceMul, Nat.reduceLT, Nat.reduceLeDiff, Int.reduceToNat, Int.reduceAdd, Int.reduceSub, Int.reduceNeg, Int.reduceMul, Int.reduceLT, Int.reduceLE, Int.reduceEq]
  refine loopF (ι := Nat × List Hd × List Hd) (fun p => [(0, .sl 5 (l.map hdR)), (1, .int .i64 now), (5, .ptr (S.length + 1) 0 0 0), (6, .int .i64 (p.1 : Nat))]) (fun p => hst S [] p.2.1) (fun p => p.1 ≤ l.length ∧ p.2.1.Perm p.2.2 ∧ OkL p.2.2 ∧ p.2.2.length ≤ p.1) (fun p => l.length - p.1)
    (fun p _ => by rw [hσ, hst_len]; unfold hN; omega) (0, [], []) ⟨Nat.zero_le _, .refl _, .nil, Nat.le_refl _⟩ (.inl ⟨?_, rfl⟩) ?_
  · simp only [↓evPre, ↓evPreW, evPost, evPostW, ← List.map_take, ← List.map_drop, ↓reduceIte, reduceCtorEq, Nat.reduceEqDiff, forall_const, implies_true, Nat.reduceAdd, Nat.reduceSub, Nat.reduceMul, Nat.reduceLT, Nat.reduceLeDiff, Int.reduceToNat, Int.reduceAdd, Int.reduceSub, Int.reduceNeg, Int.reduceMul, Int.reduceLT, Int.reduceLE, Int.reduceEq]
  rintro ⟨k, P, L⟩ ⟨hk, hP, hok, hlen⟩
  simp only at hk hP hok hlen ⊢
  cases hc : l[k]? with
  | some x =>
    have hlt' := (List.getElem?_eq_some_iff.1 hc).1
    have hlt : (k : Int) < l.length := by omega
    have hk1 : (k : Int) + 1 = ((k + 1 : Nat) : Int) := by omega
    have hxx := hlx x (List.mem_of_getElem? hc)
    by_cases h8 : (8 : Int) < x.legs.length
    · simp (disch := first | omega | (simp only [List.length_cons, List.length_nil, List.length_map, List.length_drop]; omega)) only [dT hlt, dT h8, hdR, List.length_map, List.getElem?_map, Option.map_some, hc, evSt, ↓evPre, ↓evPreW, evPost, evPostW, ← List.map_take, ← List.map_drop, ↓reduceIte, reduceCtorEq, Nat.reduceEqDiff, forall_const, implies_true, Nat.reduceAdd, Nat.reduceSub, Nat.reduceMul, Nat.reduceLT, Nat.reduceLeDiff, Int.reduceToNat, Int.reduceAdd, Int.reduceSub, Int.reduceNeg, Int.reduceMul, Int.reduceLT, Int.reduceLE, Int.reduceEq]
      refine (awake_A _).then ?_
      simp (disch := first | omega | (simp only [List.length_cons, List.length_nil, List.length_map, List.length_drop]; omega)) only [evSt, ↓evPre, ↓evPreW, evPost, evPostW, ← List.map_take, ← List.map_drop, ↓reduceIte, reduceCtorEq, Nat.reduceEqDiff, forall_const, implies_true, Nat.reduceAdd, Nat.reduceSub, Nat.reduceMul, Nat.reduceLT, Nat.reduceLeDiff, Int.reduceToNat, Int.reduceAdd, Int.reduceSub, Int.reduceNeg, Int.reduceMul, Int.reduceLT, Int.reduceLE, Int.reduceEq]
      have hfgS := hst_fgt0 (P := P) (T := []) hn
      rw [List.append_nil] at hfgS
      exact fin0 _ hfgS
    · have hx8 : x.legs.length ≤ 1000000 := by omega
      have c1 := Put_A S [] P L hP hok (by omega) x hx8
      simp only [hdR] at c1
      simp (disch := first | omega | (simp only [List.length_cons, List.length_nil, List.length_map, List.length_drop]; omega)) only [dT hlt, dF h8, hdR, List.length_map, List.getElem?_map, Option.map_some, hc, evSt, ↓evPre, ↓evPreW, evPost, evPostW, ← List.map_take, ← List.map_drop, ↓reduceIte, reduceCtorEq, Nat.reduceEqDiff, forall_const, implies_true, Nat.reduceAdd, Nat.reduceSub, Nat.reduceMul, Nat.reduceLT, Nat.reduceLeDiff, Int.reduceToNat, Int.reduceAdd, Int.reduceSub, Int.reduceNeg, Int.reduceMul, Int.reduceLT, Int.reduceLE, Int.reduceEq]
      refine c1.mono ?_
      rintro r S' ⟨rfl, P', hP', rfl⟩
      simp (disch := first | omega | (simp only [List.length_cons, List.length_nil, List.length_map, List.length_drop]; omega)) only [wrap_i64, hk1, evSt, ↓evPre, ↓evPreW, evPost, evPostW, ← List.map_take, ← List.map_drop, ↓reduceIte, reduceCtorEq, Nat.reduceEqDiff, forall_const, implies_true, Nat.reduceAdd, Nat.reduceSub, Nat.reduceMul, Nat.reduceLT, Nat.reduceLeDiff, Int.reduceToNat, Int.reduceAdd, Int.reduceSub, Int.reduceNeg, Int.reduceMul, Int.reduceLT, Int.reduceLE, Int.reduceEq]
      have h7 := put_len L x
      exact ⟨(k + 1, P', (putF L x).2), ⟨hlt', hP', hok.put x hx8, by simp only; omega⟩, by simp only; omega, .inl ⟨by simp only [↓evPre, ↓evPreW, evPost, evPostW, ← List.map_take, ← List.map_drop, ↓reduceIte, reduceCtorEq, Nat.reduceEqDiff, forall_const, implies_true, Nat.reduceAdd, Nat.reduceSub, Nat.reduceMul, Nat.reduceLT, Nat.reduceLeDiff, Int.reduceToNat, Int.reduceAdd, Int.reduceSub, Int.reduceNeg, Int.reduceMul, Int.reduceLT, Int.reduceLE, Int.reduceEq], rfl⟩⟩
  | none =>
    have hge : l.length ≤ k := List.getElem?_eq_none_iff.1 hc
    have hlt : ¬ ((k : Int) < l.length) := by omega
    have hL : L.length ≤ 20 := by omega
    have hgl := gone_rest_len L now
    have hok2 := hok.rest now
    have hnot := fun x hx => gone_not (L := L) hok.uq (now := now) (x := x) hx
    have htil : ∀ x ∈ restF L now, ¬ x.til ≤ now := fun x hx => by
      unfold restF at hx
      rw [List.mem_filter] at hx
      simpa using hx.2
    simp (disch := first | omega | (simp only [List.length_cons, List.length_nil, List.length_map, List.length_drop]; omega)) only [dF hlt, List.length_map, evSt, ↓evPre, ↓evPreW, evPost, evPostW, ← List.map_take, ← List.map_drop, ↓reduceIte, reduceCtorEq, Nat.reduceEqDiff, forall_const, implies_true, Nat.reduceAdd, Nat.reduceSub, Nat.reduceMul, Nat.reduceLT, Nat.reduceLeDiff, Int.reduceToNat, Int.reduceAdd, Int.reduceSub, Int.reduceNeg, Int.reduceMul, Int.reduceLT, Int.reduceLE, Int.reduceEq]
    refine (AllL_A S [] P L hP hok (by omega)).then ?_
    simp (disch := first | omega | (simp only [List.length_cons, List.length_nil, List.length_map, List.length_drop]; omega)) only [List.length_map, evSt, ↓evPre, ↓evPreW, evPost, evPostW, ← List.map_take, ← List.map_drop, ↓reduceIte, reduceCtorEq, Nat.reduceEqDiff, forall_const, implies_true, Nat.reduceAdd, Nat.reduceSub, Nat.reduceMul, Nat.reduceLT, Nat.reduceLeDiff, Int.reduceToNat, Int.reduceAdd, Int.reduceSub, Int.reduceNeg, Int.reduceMul, Int.reduceLT, Int.reduceLE, Int.reduceEq]
    refine (Expire_A S [] P L hP hok (by omega) now).mono ?_
    rintro r S' ⟨rfl, P2, hP2, rfl⟩
    generalize hL2 : restF L now = L2 at *
    generalize hG : goneF L now = G at *
    have hsum : ((L2.length : Nat) : Int) + ((G.length : Nat) : Int) = ((L.length : Nat) : Int) := by omega
    simp (disch := first | omega | (simp only [List.length_cons, List.length_nil, List.length_map, List.length_drop]; omega)) only [List.length_map, evSt, ↓evPre, ↓evPreW, evPost, evPostW, ← List.map_take, ← List.map_drop, ↓reduceIte, reduceCtorEq, Nat.reduceEqDiff, forall_const, implies_true, Nat.reduceAdd, Nat.reduceSub, Nat.reduceMul, Nat.reduceLT, Nat.reduceLeDiff, Int.reduceToNat, Int.reduceAdd, Int.reduceSub, Int.reduceNeg, Int.reduceMul, Int.reduceLT, Int.reduceLE, Int.reduceEq]
    refine loopF (ι := Nat × List Hd) (fun p => [(1, .int .i64 now), (5, .ptr (S.length + 1) 0 0 0), (7, .int .i64 L.length), (8, .sl 5 (G.map hdR)), (9, .int .i64 (p.1 : Nat))]) (fun p => hst S [] p.2) (fun p => p.1 ≤ G.length ∧ p.2.Perm L2) (fun p => G.length - p.1)
      (fun p _ => by rw [hσ, hst_len]; unfold hN; omega) (0, P2) ⟨Nat.zero_le _, hP2⟩ (.inl ⟨?_, rfl⟩) ?_
    · simp only [↓evPre, ↓evPreW, evPost, evPostW, ← List.map_take, ← List.map_drop, ↓reduceIte, reduceCtorEq, Nat.reduceEqDiff, forall_const, implies_true, Nat.reduceAdd, Nat.reduceSub, Nat.reduceMul, Nat.reduceLT, Nat.reduceLeDiff, Int.reduceToNat, Int.reduceAdd, Int.reduceSub, Int.reduceNeg, Int.reduceMul, Int.reduceLT, Int.reduceLE, Int.reduceEq]
    rintro ⟨i, P3⟩ ⟨hi, hP3⟩
    simp only at hi hP3 ⊢
    cases hci : G[i]? with
    | some x =>
      have hlt' := (List.getElem?_eq_some_iff.1 hci).1
      have hlt : (i : Int) < G.length := by omega
      have hi1 : (i : Int) + 1 = ((i + 1 : Nat) : Int) := by omega
      obtain ⟨t1, t2⟩ := hnot x (List.mem_of_getElem? hci)
      have t1' : ¬ now < x.til := by omega
      have c1 := Drop_A S [] P3 L2 hP3 hok2 (by omega) x.id
      rw [t2] at c1
      simp only [hdR, zHd, List.map_nil] at c1
      simp (disch := first | omega | (simp only [List.length_cons, List.length_nil, List.length_map, List.length_drop]; omega)) only [dT hlt, hdR, List.length_map, List.getElem?_map, Option.map_some, hci, evSt, ↓evPre, ↓evPreW, evPost, evPostW, ← List.map_take, ← List.map_drop, ↓reduceIte, reduceCtorEq, Nat.reduceEqDiff, forall_const, implies_true, Nat.reduceAdd, Nat.reduceSub, Nat.reduceMul, Nat.reduceLT, Nat.reduceLeDiff, Int.reduceToNat, Int.reduceAdd, Int.reduceSub, Int.reduceNeg, Int.reduceMul, Int.reduceLT, Int.reduceLE, Int.reduceEq]
      refine c1.mono ?_
      rintro r S' ⟨rfl, P4, hP4, rfl⟩
      simp (disch := first | omega | (simp only [List.length_cons, List.length_nil, List.length_map, List.length_drop]; omega)) only [dF t1', wrap_i64, hi1, evQ, List.length_map, List.getElem?_map, Option.map_some, hci, hdR, evSt, ↓evPre, ↓evPreW, evPost, evPostW, ← List.map_take, ← List.map_drop, ↓reduceIte, reduceCtorEq, Nat.reduceEqDiff, forall_const, implies_true, Nat.reduceAdd, Nat.reduceSub, Nat.reduceMul, Nat.reduceLT, Nat.reduceLeDiff, Int.reduceToNat, Int.reduceAdd, Int.reduceSub, Int.reduceNeg, Int.reduceMul, Int.reduceLT, Int.reduceLE, Int.reduceEq]
      have hn4 : Neat (hst S [] P4) := hst_neat0 hn
      refine ⟨(i + 1, P4), ⟨hlt', hP4⟩, by simp only; omega, back_under (hn4.fgt _) (by simp only [↓evPre, ↓evPreW, evPost, evPostW, ← List.map_take, ← List.map_drop, ↓reduceIte, reduceCtorEq, Nat.reduceEqDiff, forall_const, implies_true, Nat.reduceAdd, Nat.reduceSub, Nat.reduceMul, Nat.reduceLT, Nat.reduceLeDiff, Int.reduceToNat, Int.reduceAdd, Int.reduceSub, Int.reduceNeg, Int.reduceMul, Int.reduceLT, Int.reduceLE, Int.reduceEq]) ?_⟩
      simp [V.under, hst_len, hN_lt1]
    | none =>
      have hge : G.length ≤ i := List.getElem?_eq_none_iff.1 hci
      have hlt : ¬ ((i : Int) < G.length) := by omega
      simp (disch := first | omega | (simp only [List.length_cons, List.length_nil, List.length_map, List.length_drop]; omega)) only [dF hlt, List.length_map, evSt, ↓evPre, ↓evPreW, evPost, evPostW, ← List.map_take, ← List.map_drop, ↓reduceIte, reduceCtorEq, Nat.reduceEqDiff, forall_const, implies_true, Nat.reduceAdd, Nat.reduceSub, Nat.reduceMul, Nat.reduceLT, Nat.reduceLeDiff, Int.reduceToNat, Int.reduceAdd, Int.reduceSub, Int.reduceNeg, Int.reduceMul, Int.reduceLT, Int.reduceLE, Int.reduceEq]
      refine (AllL_A S [] P3 L2 hP3 hok2 (by omega)).then ?_
      simp (disch := first | omega | (simp only [List.length_cons, List.length_nil, List.length_map, List.length_drop]; omega)) only [List.length_map, hsum, wrap_i64, decide_true, evSt, ↓evPre, ↓evPreW, evPost, evPostW, ← List.map_take, ← List.map_drop, ↓reduceIte, reduceCtorEq, Nat.reduceEqDiff, forall_const, implies_true, Nat.reduceAdd, Nat.reduceSub, Nat.reduceMul, Nat.reduceLT, Nat.reduceLeDiff, Int.reduceToNat, Int.reduceAdd, Int.reduceSub, Int.reduceNeg, Int.reduceMul, Int.reduceLT, Int.reduceLE, Int.reduceEq]
      refine loopF (ι := Nat × List Hd) (fun p => [(1, .int .i64 now), (5, .ptr (S.length + 1) 0 0 0), (12, .sl 5 (L2.map hdR)), (13, .int .i64 (p.1 : Nat))]) (fun p => hst S [] p.2) (fun p => p.1 ≤ L2.length ∧ p.2.Perm (L2.drop p.1)) (fun p => L2.length - p.1)
        (fun p _ => by rw [hσ, hst_len]; unfold hN; omega) (0, P3) ⟨Nat.zero_le _, by simpa using hP3⟩ (.inl ⟨?_, rfl⟩) ?_
      · simp only [↓evPre, ↓evPreW, evPost, evPostW, ← List.map_take, ← List.map_drop, ↓reduceIte, reduceCtorEq, Nat.reduceEqDiff, forall_const, implies_true, Nat.reduceAdd, Nat.reduceSub, Nat.reduceMul, Nat.reduceLT, Nat.reduceLeDiff, Int.reduceToNat, Int.reduceAdd, Int.reduceSub, Int.reduceNeg, Int.reduceMul, Int.reduceLT, Int.reduceLE, Int.reduceEq]
      rintro ⟨j, P5⟩ ⟨hj, hP5⟩
      simp only at hj hP5 ⊢
      cases hcj : L2[j]? with
      | some x =>
        have hlt' := (List.getElem?_eq_some_iff.1 hcj).1
        have hlt : (j : Int) < L2.length := by omega
        have hj1 : (j : Int) + 1 = ((j + 1 : Nat) : Int) := by omega
        have hok3 : OkL (L2.drop j) := hok2.sub (List.drop_sublist _ _)
        have hd := drop_at hcj
        have c1 := Drop_A S [] P5 (L2.drop j) hP5 hok3 (by rw [List.length_drop]; omega) x.id
        rw [hd] at hok3
        rw [hd, drop_head hok3.uq] at c1
        have t1 := htil x (List.mem_of_getElem? hcj)
        simp only [hdR] at c1
        simp (disch := first | omega | (simp only [List.length_cons, List.length_nil, List.length_map, List.length_drop]; omega)) only [dT hlt, hdR, List.length_map, List.getElem?_map, Option.map_some, hcj, evSt, ↓evPre, ↓evPreW, evPost, evPostW, ← List.map_take, ← List.map_drop, ↓reduceIte, reduceCtorEq, Nat.reduceEqDiff, forall_const, implies_true, Nat.reduceAdd, Nat.reduceSub, Nat.reduceMul, Nat.reduceLT, Nat.reduceLeDiff, Int.reduceToNat, Int.reduceAdd, Int.reduceSub, Int.reduceNeg, Int.reduceMul, Int.reduceLT, Int.reduceLE, Int.reduceEq]
        refine c1.mono ?_
        rintro r S' ⟨rfl, P6, hP6, rfl⟩
        have hn6 : Neat (hst S [] P6) := hst_neat0 hn
        by_cases hj0 : 0 < j
        · obtain ⟨z, hz⟩ : ∃ z, L2[j - 1]? = some z := ⟨L2[j - 1]'(by omega), List.getElem?_eq_getElem (by omega)⟩
          have hzx : ¬ x.til < z.til := by
            have ha := hok2.asc
            unfold Asc at ha
            rw [List.pairwise_iff_getElem] at ha
            obtain ⟨hz1, rfl⟩ := List.getElem?_eq_some_iff.1 hz
            obtain ⟨hx1, rfl⟩ := List.getElem?_eq_some_iff.1 hcj
            have := ha (j - 1) j hz1 hx1 (by omega)
            simp only [ltH, decide_eq_true_eq] at this
            omega
          have hj0' : (0 : Int) < (j : Nat) := by omega
          have hj1' : (j : Int) - 1 = ((j - 1 : Nat) : Int) := by omega
          simp (disch := first | omega | (simp only [List.length_cons, List.length_nil, List.length_map, List.length_drop]; omega)) only [dF t1, dT hj0', dF hzx, wrap_i64, hj1, hj1', hz, decide_true, evQ, List.length_map, List.getElem?_map, Option.map_some, hcj, hdR, evSt, ↓evPre, ↓evPreW, evPost, evPostW, ← List.map_take, ← List.map_drop, ↓reduceIte, reduceCtorEq, Nat.reduceEqDiff, forall_const, implies_true, Nat.reduceAdd, Nat.reduceSub, Nat.reduceMul, Nat.reduceLT, Nat.reduceLeDiff, Int.reduceToNat, Int.reduceAdd, Int.reduceSub, Int.reduceNeg, Int.reduceMul, Int.reduceLT, Int.reduceLE, Int.reduceEq]
          refine ⟨(j + 1, P6), ⟨hlt', hP6⟩, by simp only; omega, back_under (hn6.fgt _) (by simp only [↓evPre, ↓evPreW, evPost, evPostW, ← List.map_take, ← List.map_drop, ↓reduceIte, reduceCtorEq, Nat.reduceEqDiff, forall_const, implies_true, Nat.reduceAdd, Nat.reduceSub, Nat.reduceMul, Nat.reduceLT, Nat.reduceLeDiff, Int.reduceToNat, Int.reduceAdd, Int.reduceSub, Int.reduceNeg, Int.reduceMul, Int.reduceLT, Int.reduceLE, Int.reduceEq]) ?_⟩
          simp [V.under, hst_len, hN_lt1]
        · have hj0' : ¬ (0 : Int) < (j : Nat) := by omega
          simp (disch := first | omega | (simp only [List.length_cons, List.length_nil, List.length_map, List.length_drop]; omega)) only [dF t1, dF hj0', wrap_i64, hj1, decide_true, evQ, List.length_map, List.getElem?_map, Option.map_some, hcj, hdR, evSt, ↓evPre, ↓evPreW, evPost, evPostW, ← List.map_take, ← List.map_drop, ↓reduceIte, reduceCtorEq, Nat.reduceEqDiff, forall_const, implies_true, Nat.reduceAdd, Nat.reduceSub, Nat.reduceMul, Nat.reduceLT, Nat.reduceLeDiff, Int.reduceToNat, Int.reduceAdd, Int.reduceSub, Int.reduceNeg, Int.reduceMul, Int.reduceLT, Int.reduceLE, Int.reduceEq]
          refine ⟨(j + 1, P6), ⟨hlt', hP6⟩, by simp only; omega, back_under (hn6.fgt _) (by simp only [↓evPre, ↓evPreW, evPost, evPostW, ← List.map_take, ← List.map_drop, ↓reduceIte, reduceCtorEq, Nat.reduceEqDiff, forall_const, implies_true, Nat.reduceAdd, Nat.reduceSub, Nat.reduceMul, Nat.reduceLT, Nat.reduceLeDiff, Int.reduceToNat, Int.reduceAdd, Int.reduceSub, Int.reduceNeg, Int.reduceMul, Int.reduceLT, Int.reduceLE, Int.reduceEq]) ?_⟩
          simp [V.under, hst_len, hN_lt1]
      | none =>
        have hge : L2.length ≤ j := List.getElem?_eq_none_iff.1 hcj
        have hlt : ¬ ((j : Int) < L2.length) := by omega
        rw [List.drop_eq_nil_iff.2 hge] at hP5
        simp (disch := first | omega | (simp only [List.length_cons, List.length_nil, List.length_map, List.length_drop]; omega)) only [dF hlt, List.length_map, evSt, ↓evPre, ↓evPreW, evPost, evPostW, ← List.map_take, ← List.map_drop, ↓reduceIte, reduceCtorEq, Nat.reduceEqDiff, forall_const, implies_true, Nat.reduceAdd, Nat.reduceSub, Nat.reduceMul, Nat.reduceLT, Nat.reduceLeDiff, Int.reduceToNat, Int.reduceAdd, Int.reduceSub, Int.reduceNeg, Int.reduceMul, Int.reduceLT, Int.reduceLE, Int.reduceEq]
        refine (AllL_A S [] P5 [] hP5 .nil (by simp)).then ?_
        simp (disch := first | omega | (simp only [List.length_cons, List.length_nil, List.length_map, List.length_drop]; omega)) only [List.length_map, List.map_nil, evSt, ↓evPre, ↓evPreW, evPost, evPostW, ← List.map_take, ← List.map_drop, ↓reduceIte, reduceCtorEq, Nat.reduceEqDiff, forall_const, implies_true, Nat.reduceAdd, Nat.reduceSub, Nat.reduceMul, Nat.reduceLT, Nat.reduceLeDiff, Int.reduceToNat, Int.reduceAdd, Int.reduceSub, Int.reduceNeg, Int.reduceMul, Int.reduceLT, Int.reduceLE, Int.reduceEq]
        refine (awake_A _).then ?_
        simp (disch := first | omega | (simp only [List.length_cons, List.length_nil, List.length_map, List.length_drop]; omega)) only [evSt, ↓evPre, ↓evPreW, evPost, evPostW, ← List.map_take, ← List.map_drop, ↓reduceIte, reduceCtorEq, Nat.reduceEqDiff, forall_const, implies_true, Nat.reduceAdd, Nat.reduceSub, Nat.reduceMul, Nat.reduceLT, Nat.reduceLeDiff, Int.reduceToNat, Int.reduceAdd, Int.reduceSub, Int.reduceNeg, Int.reduceMul, Int.reduceLT, Int.reduceLE, Int.reduceEq]
        have hfgS := hst_fgt0 (P := P5) (T := []) hn
        rw [List.append_nil] at hfgS
        exact fin0 _ hfgS
end Go.Proofs.Ythdcajfjglgiiaa
