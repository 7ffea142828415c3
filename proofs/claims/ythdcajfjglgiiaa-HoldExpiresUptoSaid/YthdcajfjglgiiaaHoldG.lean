/- The seats held are the sum over all holds. -/
import Derived.Test.YthdcajfjglgiiaaHoldB
namespace Go.Proofs.Ythdcajfjglgiiaa
open Go Go.AL
set_option linter.unusedSectionVars false
variable [Go.AL.Mode] [Go.AL.LooseM]
set_option linter.unusedSimpArgs false
set_option linter.unusedVariables false

theorem hst_fgt0 {S T : Store} {P : List Hd} (h : Neat S) : Fgt (hst S [] P ++ T) S := hst_fgt h

set_option maxRecDepth 100000 in
theorem law_sums (l : List Hd) (leg : Lg) (cls : List UInt8) (hl : l.length ≤ 2000000) (hlx : ∀ x ∈ l, x.legs.length ≤ 2000000) (S : Store) : CallA Try.prog 6 [.sl 5 (l.map hdR), .agg (lgR leg), .str cls] S fun r S' => r = .bool true ∧ S' = S := by
  refine CallA.withNeat Try.func6 c306 fun hn => ?_
  refine CallA.fin Try.func6 c306 (Nat.le_of_ble_eq_true rfl) fun σ hσ => ?_
  have fin0 : ∀ (T : Store), Fgt T S → ∃ r1 S1, Fgt T S1 ∧ Frz T S1 (.bool true) r1 ∧ S.length ≤ S1.length ∧ r1 = .bool true ∧ S1 = S := fun T h => ⟨.bool true, S, h, .imm rfl, Nat.le_refl _, rfl, rfl⟩
  by_cases h20 : (20 : Int) < l.length
  · simp (disch := first | omega | (simp only [List.length_cons, List.length_nil, List.length_map, List.length_drop]; omega)) only [a306, lgR, List.length_map, dT h20, evSt, ↓evPre, ↓evPreW, evPost, evPostW, ← List.map_take, ← List.map_drop, ↓reduceIte, reduceCtorEq, Nat.reduceEqDiff, forall_const, implies_true, Nat.reduceAdd, Nat.reduceSub, Nat.reduceMul, Nat.reduceLT, Nat.reduceLeDiff, Int.reduceToNat, Int.reduceAdd, Int.reduceSub, Int.reduceNeg, Int.reduceMul, Int.reduceLT, Int.reduceLE, Int.reduceEq]
    refine (awake_A S).then ?_
    simp (disch := first | omega | (simp only [List.length_cons, List.length_nil, List.length_map, List.length_drop]; omega)) only [evSt, ↓evPre, ↓evPreW, evPost, evPostW, ← List.map_take, ← List.map_drop, ↓reduceIte, reduceCtorEq, Nat.reduceEqDiff, forall_const, implies_true, Nat.reduceAdd, Nat.reduceSub, Nat.reduceMul, Nat.reduceLT, Nat.reduceLeDiff, Int.reduceToNat, Int.reduceAdd, Int.reduceSub, Int.reduceNeg, Int.reduceMul, Int.reduceLT, Int.reduceLE, Int.reduceEq]
    exact fin0 S hn.self
  simp (disch := first | omega | (simp only [List.length_cons, List.length_nil, List.length_map, List.length_drop]; omega)) only [a306, lgR, List.length_map, dF h20, evSt, ↓evPre, ↓evPreW, evPost, evPostW, ← List.map_take, ← List.map_drop, ↓reduceIte, reduceCtorEq, Nat.reduceEqDiff, forall_const, implies_true, Nat.reduceAdd, Nat.reduceSub, Nat.reduceMul, Nat.reduceLT, Nat.reduceLeDiff, Int.reduceToNat, Int.reduceAdd, Int.reduceSub, Int.reduceNeg, Int.reduceMul, Int.reduceLT, Int.reduceLE, Int.reduceEq]
  refine (New_A S).then2 ?_
  simp (disch := first | omega | (simp only [List.length_cons, List.length_nil, List.length_map, List.length_drop]; omega)) only [evSt, ↓evPre, ↓evPreW, evPost, evPostW, ← List.map_take, ← List.map_drop, ↓reduceIte, reduceCtorEq, Nat.reduceEqDiff, forall_const, implies_true, Nat.reduceAdd, Nat.reduceSub, Nat.reduceMul, Nat.reduceLT, Nat.reduceLeDiff, Int.reduceToNat, Int.reduceAdd, Int.reduceSub, Int.reduceNeg, Int.reduceMul, Int.reduceLT, Int.reduceLE, Int.reduceEq]
  refine loopF (ι := Nat × List Hd × List Hd) (fun p => [(0, .sl 5 (l.map hdR)), (2, .str cls), (4, .cptr (lgR leg)), (7, .ptr (S.length + 1) 0 0 0), (8, .int .i64 (p.1 : Nat))]) (fun p => hst S [] p.2.1) (fun p => p.1 ≤ l.length ∧ p.2.1.Perm p.2.2 ∧ OkL p.2.2 ∧ p.2.2.length ≤ p.1) (fun p => l.length - p.1)
    (fun p _ => by rw [hσ, hst_len]; unfold hN; omega) (0, [], []) ⟨Nat.zero_le _, .refl _, .nil, Nat.le_refl _⟩ (.inl ⟨?_, rfl⟩) ?_
  · simp only [lgR, ↓evPre, ↓evPreW, evPost, evPostW, ← List.map_take, ← List.map_drop, ↓reduceIte, reduceCtorEq, Nat.reduceEqDiff, forall_const, implies_true, Nat.reduceAdd, Nat.reduceSub, Nat.reduceMul, Nat.reduceLT, Nat.reduceLeDiff, Int.reduceToNat, Int.reduceAdd, Int.reduceSub, Int.reduceNeg, Int.reduceMul, Int.reduceLT, Int.reduceLE, Int.reduceEq]
  rintro ⟨k, P, L⟩ ⟨hk, hP, hok, hlen⟩
  simp only at hk hP hok hlen ⊢
  have hfgS := hst_fgt0 (P := P) (T := []) hn
  rw [List.append_nil] at hfgS
  cases hc : l[k]? with
  | some x =>
    have hlt' := (List.getElem?_eq_some_iff.1 hc).1
    have hlt : (k : Int) < l.length := by omega
    have hk1 : (k : Int) + 1 = ((k + 1 : Nat) : Int) := by omega
    have hxx := hlx x (List.mem_of_getElem? hc)
    by_cases h8 : (8 : Int) < x.legs.length
    · simp (disch := first | omega | (simp only [List.length_cons, List.length_nil, List.length_map, List.length_drop]; omega)) only [dT hlt, dT h8, hdR, List.length_map, List.getElem?_map, Option.map_some, hc, evSt, ↓evPre, ↓evPreW, evPost, evPostW, ← List.map_take, ← List.map_drop, ↓reduceIte, reduceCtorEq, Nat.reduceEqDiff, forall_const, implies_true, Nat.reduceAdd, Nat.reduceSub, Nat.reduceMul, Nat.reduceLT, Nat.reduceLeDiff, Int.reduceToNat, Int.reduceAdd, Int.reduceSub, Int.reduceNeg, Int.reduceMul, Int.reduceLT, Int.reduceLE, Int.reduceEq]
      refine (awake_A _).then ?_
      simp (disch := first | omega | (simp only [List.length_cons, List.length_nil, List.length_map, List.length_drop]; omega)) only [evSt, ↓evPre, ↓evPreW, evPost, evPostW, ← List.map_take, ← List.map_drop, ↓reduceIte, reduceCtorEq, Nat.reduceEqDiff, forall_const, implies_true, Nat.reduceAdd, Nat.reduceSub, Nat.reduceMul, Nat.reduceLT, Nat.reduceLeDiff, Int.reduceToNat, Int.reduceAdd, Int.reduceSub, Int.reduceNeg, Int.reduceMul, Int.reduceLT, Int.reduceLE, Int.reduceEq]
      exact fin0 _ hfgS
    · have hx8 : x.legs.length ≤ 1000000 := by omega
      have c1 := Put_A S [] P L hP hok (by omega) x hx8
      simp only [hdR] at c1
      simp (disch := first | omega | (simp only [List.length_cons, List.length_nil, List.length_map, List.length_drop]; omega)) only [dT hlt, dF h8, hdR, List.length_map, List.getElem?_map, Option.map_some, hc, evSt, ↓evPre, ↓evPreW, evPost, evPostW, ← List.map_take, ← List.map_drop, ↓reduceIte, reduceCtorEq, Nat.reduceEqDiff, forall_const, implies_true, Nat.reduceAdd, Nat.reduceSub, Nat.reduceMul, Nat.reduceLT, Nat.reduceLeDiff, Int.reduceToNat, Int.reduceAdd, Int.reduceSub, Int.reduceNeg, Int.reduceMul, Int.reduceLT, Int.reduceLE, Int.reduceEq]
      refine c1.mono ?_
      rintro r S' ⟨rfl, P', hP', rfl⟩
      simp (disch := first | omega | (simp only [List.length_cons, List.length_nil, List.length_map, List.length_drop]; omega)) only [wrap_i64, hk1, evSt, ↓evPre, ↓evPreW, evPost, evPostW, ← List.map_take, ← List.map_drop, ↓reduceIte, reduceCtorEq, Nat.reduceEqDiff, forall_const, implies_true, Nat.reduceAdd, Nat.reduceSub, Nat.reduceMul, Nat.reduceLT, Nat.reduceLeDiff, Int.reduceToNat, Int.reduceAdd, Int.reduceSub, Int.reduceNeg, Int.reduceMul, Int.reduceLT, Int.reduceLE, Int.reduceEq]
      have h7 := put_len L x
      exact ⟨(k + 1, P', (putF L x).2), ⟨hlt', hP', hok.put x hx8, by simp only; omega⟩, by simp only; omega, .inl ⟨by simp only [lgR, ↓evPre, ↓evPreW, evPost, evPostW, ← List.map_take, ← List.map_drop, ↓reduceIte, reduceCtorEq, Nat.reduceEqDiff, forall_const, implies_true, Nat.reduceAdd, Nat.reduceSub, Nat.reduceMul, Nat.reduceLT, Nat.reduceLeDiff, Int.reduceToNat, Int.reduceAdd, Int.reduceSub, Int.reduceNeg, Int.reduceMul, Int.reduceLT, Int.reduceLE, Int.reduceEq], rfl⟩⟩
  | none =>
    have hge : l.length ≤ k := List.getElem?_eq_none_iff.1 hc
    have hlt : ¬ ((k : Int) < l.length) := by omega
    have hL : L.length ≤ 20 := by omega
    have hcnt := heldB hok leg cls
    simp (disch := first | omega | (simp only [List.length_cons, List.length_nil, List.length_map, List.length_drop]; omega)) only [dF hlt, List.length_map, evSt, ↓evPre, ↓evPreW, evPost, evPostW, ← List.map_take, ← List.map_drop, ↓reduceIte, reduceCtorEq, Nat.reduceEqDiff, forall_const, implies_true, Nat.reduceAdd, Nat.reduceSub, Nat.reduceMul, Nat.reduceLT, Nat.reduceLeDiff, Int.reduceToNat, Int.reduceAdd, Int.reduceSub, Int.reduceNeg, Int.reduceMul, Int.reduceLT, Int.reduceLE, Int.reduceEq]
    refine (AllL_A S [] P L hP hok (by omega)).then ?_
    simp (disch := first | omega | (simp only [List.length_cons, List.length_nil, List.length_map, List.length_drop]; omega)) only [List.length_map, evSt, ↓evPre, ↓evPreW, evPost, evPostW, ← List.map_take, ← List.map_drop, ↓reduceIte, reduceCtorEq, Nat.reduceEqDiff, forall_const, implies_true, Nat.reduceAdd, Nat.reduceSub, Nat.reduceMul, Nat.reduceLT, Nat.reduceLeDiff, Int.reduceToNat, Int.reduceAdd, Int.reduceSub, Int.reduceNeg, Int.reduceMul, Int.reduceLT, Int.reduceLE, Int.reduceEq]
    refine loopA (ι := Nat) (fun k => [(2, .str cls), (4, .cptr (lgR leg)), (7, .ptr (S.length + 1) 0 0 0), (9, .int .i64 (heldF (L.take k) leg cls)), (10, .sl 5 (L.map hdR)), (11, .int .i64 (k : Nat))]) (fun _ => hst S [] P) (fun k => k ≤ L.length) (fun k => L.length - k) 0 (Nat.zero_le _) ?_ rfl ?_
    · simp only [lgR, List.take_zero, heldF, List.filter_nil, List.map_nil, List.sum_nil, ↓evPre, ↓evPreW, evPost, evPostW, ← List.map_take, ← List.map_drop, ↓reduceIte, reduceCtorEq, Nat.reduceEqDiff, forall_const, implies_true, Nat.reduceAdd, Nat.reduceSub, Nat.reduceMul, Nat.reduceLT, Nat.reduceLeDiff, Int.reduceToNat, Int.reduceAdd, Int.reduceSub, Int.reduceNeg, Int.reduceMul, Int.reduceLT, Int.reduceLE, Int.reduceEq]
    rintro i hi
    cases hci : L[i]? with
    | none =>
      have hge : L.length ≤ i := List.getElem?_eq_none_iff.1 hci
      have hlt : ¬ ((i : Int) < L.length) := by omega
      rw [List.take_of_length_le hge]
      have c2 := Held_A S [] P L hP hok (by omega) (by omega) leg cls
      simp only [lgR] at c2
      simp (disch := first | omega | (simp only [List.length_cons, List.length_nil, List.length_map, List.length_drop]; omega)) only [lgR, List.length_map, dF hlt, evSt, ↓evPre, ↓evPreW, evPost, evPostW, ← List.map_take, ← List.map_drop, ↓reduceIte, reduceCtorEq, Nat.reduceEqDiff, forall_const, implies_true, Nat.reduceAdd, Nat.reduceSub, Nat.reduceMul, Nat.reduceLT, Nat.reduceLeDiff, Int.reduceToNat, Int.reduceAdd, Int.reduceSub, Int.reduceNeg, Int.reduceMul, Int.reduceLT, Int.reduceLE, Int.reduceEq]
      refine c2.then ?_
      simp (disch := first | omega | (simp only [List.length_cons, List.length_nil, List.length_map, List.length_drop]; omega)) only [decide_true, evSt, ↓evPre, ↓evPreW, evPost, evPostW, ← List.map_take, ← List.map_drop, ↓reduceIte, reduceCtorEq, Nat.reduceEqDiff, forall_const, implies_true, Nat.reduceAdd, Nat.reduceSub, Nat.reduceMul, Nat.reduceLT, Nat.reduceLeDiff, Int.reduceToNat, Int.reduceAdd, Int.reduceSub, Int.reduceNeg, Int.reduceMul, Int.reduceLT, Int.reduceLE, Int.reduceEq]
      refine (awake_A _).then ?_
      simp (disch := first | omega | (simp only [List.length_cons, List.length_nil, List.length_map, List.length_drop]; omega)) only [evSt, ↓evPre, ↓evPreW, evPost, evPostW, ← List.map_take, ← List.map_drop, ↓reduceIte, reduceCtorEq, Nat.reduceEqDiff, forall_const, implies_true, Nat.reduceAdd, Nat.reduceSub, Nat.reduceMul, Nat.reduceLT, Nat.reduceLeDiff, Int.reduceToNat, Int.reduceAdd, Int.reduceSub, Int.reduceNeg, Int.reduceMul, Int.reduceLT, Int.reduceLE, Int.reduceEq]
      exact fin0 _ hfgS
    | some x =>
      have hlt' := (List.getElem?_eq_some_iff.1 hci).1
      have hlt : (i : Int) < L.length := by omega
      have hi1 : (i : Int) + 1 = ((i + 1 : Nat) : Int) := by omega
      obtain ⟨b0, b1⟩ := hcnt i
      have hb2 := hcnt (i + 1)
      have hgood := hok.good x (List.mem_of_getElem? hci)
      have hch := cnt_has hgood leg
      have hstep := held_snoc (x := x) leg cls hci
      have hx6 := hok.legs x (List.mem_of_getElem? hci)
      have hgd := hgood
      unfold badH at hgd
      simp (disch := first | omega | (simp only [List.length_cons, List.length_nil, List.length_map, List.length_drop]; omega)) only [dT hlt, List.length_map, evSt, ↓evPre, ↓evPreW, evPost, evPostW, ← List.map_take, ← List.map_drop, ↓reduceIte, reduceCtorEq, Nat.reduceEqDiff, forall_const, implies_true, Nat.reduceAdd, Nat.reduceSub, Nat.reduceMul, Nat.reduceLT, Nat.reduceLeDiff, Int.reduceToNat, Int.reduceAdd, Int.reduceSub, Int.reduceNeg, Int.reduceMul, Int.reduceLT, Int.reduceLE, Int.reduceEq]
      refine loopA (ι := Nat) (fun j => [(2, .str cls), (4, .cptr (lgR leg)), (7, .ptr (S.length + 1) 0 0 0), (9, .int .i64 (heldF (L.take i) leg cls + (if x.cls = cls then cntL leg (x.legs.take j) * x.cnt else 0))), (10, .sl 5 (L.map hdR)), (11, .int .i64 (i : Nat)), (12, .int .i64 (j : Nat))]) (fun _ => hst S [] P) (fun j => j ≤ x.legs.length) (fun j => x.legs.length - j) 0 (Nat.zero_le _) ?_ rfl ?_
      · simp only [lgR, List.take_zero, cntL, List.count_nil, Int.natCast_zero, Int.zero_mul, ite_self, Int.add_zero, ↓evPre, ↓evPreW, evPost, evPostW, ← List.map_take, ← List.map_drop, ↓reduceIte, reduceCtorEq, Nat.reduceEqDiff, forall_const, implies_true, Nat.reduceAdd, Nat.reduceSub, Nat.reduceMul, Nat.reduceLT, Nat.reduceLeDiff, Int.reduceToNat, Int.reduceAdd, Int.reduceSub, Int.reduceNeg, Int.reduceMul, Int.reduceLT, Int.reduceLE, Int.reduceEq]
      rintro j hj
      have hend : heldF (L.take (i + 1)) leg cls = heldF (L.take i) leg cls + (if x.cls = cls then cntL leg x.legs * x.cnt else 0) := by
        rw [hstep, hch]
        by_cases q1 : x.cls = cls <;> by_cases q2 : leg ∈ x.legs <;> simp [hasF, q1, q2]
      cases hcj : x.legs[j]? with
      | none =>
        have hge : x.legs.length ≤ j := List.getElem?_eq_none_iff.1 hcj
        have hltj : ¬ ((j : Int) < x.legs.length) := by omega
        rw [List.take_of_length_le hge, ← hend]
        simp (disch := first | omega | (simp only [List.length_cons, List.length_nil, List.length_map, List.length_drop]; omega)) only [hdR, List.length_map, List.getElem?_map, Option.map_some, hci, dF hltj, wrap_i64, hi1, evSt, ↓evPre, ↓evPreW, evPost, evPostW, ← List.map_take, ← List.map_drop, ↓reduceIte, reduceCtorEq, Nat.reduceEqDiff, forall_const, implies_true, Nat.reduceAdd, Nat.reduceSub, Nat.reduceMul, Nat.reduceLT, Nat.reduceLeDiff, Int.reduceToNat, Int.reduceAdd, Int.reduceSub, Int.reduceNeg, Int.reduceMul, Int.reduceLT, Int.reduceLE, Int.reduceEq]
        exact ⟨i + 1, by omega, by omega, rfl, rfl⟩
      | some y =>
        have hlt2 := (List.getElem?_eq_some_iff.1 hcj).1
        have hltj : (j : Int) < x.legs.length := by omega
        have hj1 : (j : Int) + 1 = ((j + 1 : Nat) : Int) := by omega
        have hcs : cntL leg (x.legs.take (j + 1)) = cntL leg (x.legs.take j) + (if y = leg then 1 else 0) := by
          unfold cntL
          rw [take_at hcj, List.count_append, List.count_singleton]
          by_cases e : y = leg <;> simp [e]
        have hle1 : cntL leg (x.legs.take (j + 1)) ≤ 1 := by
          have h8 : cntL leg (x.legs.take (j + 1)) ≤ cntL leg x.legs := by
            unfold cntL
            have := (List.take_sublist (j + 1) x.legs).count_le leg
            omega
          rw [hch] at h8
          split at h8 <;> omega
        have hge0 : 0 ≤ cntL leg (x.legs.take j) := by unfold cntL; omega
        by_cases q1 : x.cls = cls
        · rw [if_pos q1]
          by_cases q2 : y = leg
          · rw [if_pos q2] at hcs
            have h0 : cntL leg (x.legs.take j) = 0 := by omega
            have hnx : heldF (L.take i) leg cls + x.cnt = heldF (L.take i) leg cls + (if x.cls = cls then cntL leg (x.legs.take (j + 1)) * x.cnt else 0) := by rw [if_pos q1, hcs, h0]; omega
            rw [h0, Int.zero_mul, Int.add_zero]
            simp (disch := first | omega | (simp only [List.length_cons, List.length_nil, List.length_map, List.length_drop]; omega)) only [hdR, lgR, eqd_lg, List.length_map, List.getElem?_map, Option.map_some, hci, hcj, dT hltj, dT q1, dT q2, wrap_i64, hj1, evSt, ↓evPre, ↓evPreW, evPost, evPostW, ← List.map_take, ← List.map_drop, ↓reduceIte, reduceCtorEq, Nat.reduceEqDiff, forall_const, implies_true, Nat.reduceAdd, Nat.reduceSub, Nat.reduceMul, Nat.reduceLT, Nat.reduceLeDiff, Int.reduceToNat, Int.reduceAdd, Int.reduceSub, Int.reduceNeg, Int.reduceMul, Int.reduceLT, Int.reduceLE, Int.reduceEq]
            rw [hnx]
            exact ⟨j + 1, by omega, by omega, rfl, rfl⟩
          · rw [if_neg q2] at hcs
            have hnx : heldF (L.take i) leg cls + cntL leg (x.legs.take j) * x.cnt = heldF (L.take i) leg cls + (if x.cls = cls then cntL leg (x.legs.take (j + 1)) * x.cnt else 0) := by rw [if_pos q1, hcs, Int.add_zero]
            simp (disch := first | omega | (simp only [List.length_cons, List.length_nil, List.length_map, List.length_drop]; omega)) only [hdR, lgR, eqd_lg, List.length_map, List.getElem?_map, Option.map_some, hci, hcj, dT hltj, dT q1, dF q2, wrap_i64, hj1, evSt, ↓evPre, ↓evPreW, evPost, evPostW, ← List.map_take, ← List.map_drop, ↓reduceIte, reduceCtorEq, Nat.reduceEqDiff, forall_const, implies_true, Nat.reduceAdd, Nat.reduceSub, Nat.reduceMul, Nat.reduceLT, Nat.reduceLeDiff, Int.reduceToNat, Int.reduceAdd, Int.reduceSub, Int.reduceNeg, Int.reduceMul, Int.reduceLT, Int.reduceLE, Int.reduceEq]
            rw [hnx]
            exact ⟨j + 1, by omega, by omega, rfl, rfl⟩
        · have hnx : heldF (L.take i) leg cls + 0 = heldF (L.take i) leg cls + (if x.cls = cls then cntL leg (x.legs.take (j + 1)) * x.cnt else 0) := by rw [if_neg q1]
          rw [if_neg q1, hnx]
          simp (disch := first | omega | (simp only [List.length_cons, List.length_nil, List.length_map, List.length_drop]; omega)) only [hdR, lgR, List.length_map, List.getElem?_map, Option.map_some, hci, hcj, dT hltj, dF q1, wrap_i64, hj1, evSt, ↓evPre, ↓evPreW, evPost, evPostW, ← List.map_take, ← List.map_drop, ↓reduceIte, reduceCtorEq, Nat.reduceEqDiff, forall_const, implies_true, Nat.reduceAdd, Nat.reduceSub, Nat.reduceMul, Nat.reduceLT, Nat.reduceLeDiff, Int.reduceToNat, Int.reduceAdd, Int.reduceSub, Int.reduceNeg, Int.reduceMul, Int.reduceLT, Int.reduceLE, Int.reduceEq]
          exact ⟨j + 1, by omega, by omega, rfl, rfl⟩
end Go.Proofs.Ythdcajfjglgiiaa
