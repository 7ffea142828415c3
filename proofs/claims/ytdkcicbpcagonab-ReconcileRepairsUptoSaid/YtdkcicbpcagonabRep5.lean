/- The law of repairs (printed by gen5.py). -/
import Derived.Test.YtdkcicbpcagonabRep4
import Derived.Test.YtdkcicbpcagonabRecM
namespace Go.Proofs.Ytdkcicbpcagonab
open Go Go.AL
set_option linter.unusedSimpArgs false
set_option linter.unusedVariables false

def sortM (a b : List St) : List St := allF ((firsts b).foldl stp (firsts a))
theorem sortM_asc (a b : List St) : Asc (sortM a b) := allF_asc _ (stps_apart (firsts_apart a))
theorem sortM_find (a b : List St) (w : St) : (sortM a b).find? (sameS w) = mF a b w := by
  rw [(sortM_asc a b).apart.find_perm (allF_perm _) w, stps_find (firsts_apart b), firsts_find, firsts_find]
  rfl

set_option maxRecDepth 100000 in
theorem law_repairs (a b : List St) (S : Store) (ha : a.length ≤ 2000000) (hb : b.length ≤ 2000000) (ra : ∀ x ∈ a, i64r x.v) (rb : ∀ x ∈ b, i64r x.v) : CallA Try.prog 5 [stSl a, stSl b] S fun r S' => r = .bool true ∧ S' = S := by
  refine CallA.withNeat Try.func5 c205 fun hn => ?_
  refine CallA.fin Try.func5 c205 (Nat.le_of_ble_eq_true rfl) fun σ hσ => ?_
  simp (disch := first | omega | (simp only [List.length_cons, List.length_nil, List.length_map, List.length_drop]; omega)) only [a205, evSt, ↓evPre, ↓evPreW, evPost, evPostW, ← List.map_take, ← List.map_drop, ↓reduceIte, reduceCtorEq, Nat.reduceEqDiff, forall_const, implies_true, Nat.reduceAdd, Nat.reduceSub, Nat.reduceMul, Nat.reduceLT, Nat.reduceLeDiff, Int.reduceToNat, Int.reduceAdd, Int.reduceSub, Int.reduceNeg, Int.reduceMul, Int.reduceLT, Int.reduceLE, Int.reduceEq]
  refine (few_A a b S ha hb).mono ?_
  rintro r S' ⟨⟨t, rfl, ht⟩, rfl⟩
  cases t with
  | false =>
    simp (disch := first | omega | (simp only [List.length_cons, List.length_nil, List.length_map, List.length_drop]; omega)) only [evSt, ↓evPre, ↓evPreW, evPost, evPostW, ← List.map_take, ← List.map_drop, ↓reduceIte, reduceCtorEq, Nat.reduceEqDiff, forall_const, implies_true, Nat.reduceAdd, Nat.reduceSub, Nat.reduceMul, Nat.reduceLT, Nat.reduceLeDiff, Int.reduceToNat, Int.reduceAdd, Int.reduceSub, Int.reduceNeg, Int.reduceMul, Int.reduceLT, Int.reduceLE, Int.reduceEq]
    refine (example_A _).then ?_
    simp (disch := first | omega | (simp only [List.length_cons, List.length_nil, List.length_map, List.length_drop]; omega)) only [evSt, ↓evPre, ↓evPreW, evPost, evPostW, ← List.map_take, ← List.map_drop, ↓reduceIte, reduceCtorEq, Nat.reduceEqDiff, forall_const, implies_true, Nat.reduceAdd, Nat.reduceSub, Nat.reduceMul, Nat.reduceLT, Nat.reduceLeDiff, Int.reduceToNat, Int.reduceAdd, Int.reduceSub, Int.reduceNeg, Int.reduceMul, Int.reduceLT, Int.reduceLE, Int.reduceEq]
    exact ⟨_, _, hn.self, .imm rfl, Nat.le_refl _, rfl, rfl⟩
  | true =>
    obtain ⟨l1, l2, l3, l4⟩ := ht rfl
    have va : vOk 4611686018427387903 a := fun x hx => ⟨(ra x hx).1, by have := l3 x hx; omega⟩
    have vb : vOk 4611686018427387903 b := fun x hx => ⟨(rb x hx).1, by have := l4 x hx; omega⟩
    have up : ∀ {l : List St}, vOk 4611686018427387903 l → vOk 4611686018427387904 l := fun h x hx => ⟨(h x hx).1, by have := (h x hx).2; omega⟩
    obtain ⟨fa1, fa2, fa3⟩ := fill_all a
    obtain ⟨fb1, fb2, fb3⟩ := fill_all b
    simp (disch := first | omega | (simp only [List.length_cons, List.length_nil, List.length_map, List.length_drop]; omega)) only [evSt, ↓evPre, ↓evPreW, evPost, evPostW, ← List.map_take, ← List.map_drop, ↓reduceIte, reduceCtorEq, Nat.reduceEqDiff, forall_const, implies_true, Nat.reduceAdd, Nat.reduceSub, Nat.reduceMul, Nat.reduceLT, Nat.reduceLeDiff, Int.reduceToNat, Int.reduceAdd, Int.reduceSub, Int.reduceNeg, Int.reduceMul, Int.reduceLT, Int.reduceLE, Int.reduceEq]
    refine (filled_A S' a (by omega)).mono ?_
    rintro r S1 ⟨rfl, Q1, C1, v1, h1, hS1⟩
    subst hS1
    simp (disch := first | omega | (simp only [List.length_cons, List.length_nil, List.length_map, List.length_drop]; omega)) only [evSt, ↓evPre, ↓evPreW, evPost, evPostW, ← List.map_take, ← List.map_drop, ↓reduceIte, reduceCtorEq, Nat.reduceEqDiff, forall_const, implies_true, Nat.reduceAdd, Nat.reduceSub, Nat.reduceMul, Nat.reduceLT, Nat.reduceLeDiff, Int.reduceToNat, Int.reduceAdd, Int.reduceSub, Int.reduceNeg, Int.reduceMul, Int.reduceLT, Int.reduceLE, Int.reduceEq]
    refine (filled_A _ b (by omega)).mono ?_
    rintro r S1 ⟨rfl, Q2, C2, v2, h2, hS1⟩
    subst hS1
    rw [du_len, ← quad_2]
    have hW1 := h1.wf
    have hW2 := h2.wf
    generalize fillM a = M1 at fa1 fa2 fa3 h1 hW1 ⊢
    generalize fillM b = M2 at fb1 fb2 fb3 h2 hW2 ⊢
    have p1 : duN S' + 3 = S'.length + 9 := rfl
    have p2 : duN S' + 4 = S'.length + 10 := rfl
    rw [p1, p2]
    simp (disch := first | omega | (simp only [List.length_cons, List.length_nil, List.length_map, List.length_drop]; omega)) only [evSt, ↓evPre, ↓evPreW, evPost, evPostW, ← List.map_take, ← List.map_drop, ↓reduceIte, reduceCtorEq, Nat.reduceEqDiff, forall_const, implies_true, Nat.reduceAdd, Nat.reduceSub, Nat.reduceMul, Nat.reduceLT, Nat.reduceLeDiff, Int.reduceToNat, Int.reduceAdd, Int.reduceSub, Int.reduceNeg, Int.reduceMul, Int.reduceLT, Int.reduceLE, Int.reduceEq]
    refine (all1Q S' M1 Q1 C1 v1 M1 M2 Q2 C2 v2 M2 h1 (by omega)).mono ?_
    rintro r S1 ⟨⟨d1, hd1, rfl⟩, rfl⟩
    have hvd1 := allF_vOk hd1 va fa3
    have hd2 := allF_isAll hW2
    generalize allF (M2.R.map (·.1)) = d2 at hd2
    have hvd2 := allF_vOk hd2 vb fb3
    have e1 := hd1.2.length_eq
    have e2 := hd2.2.length_eq
    rw [List.length_map] at e1 e2
    have r1 := hW1.len
    have r2 := hW2.len
    -- what the merged lists are
    obtain ⟨d, hd, hvd⟩ : ∃ d, Mrg M1 M2 d1 d2 d ∧ vOk 4611686018427387904 d := by
      refine ⟨_, ⟨hd1, hd2, sortM_asc d1 d2, sortM_find d1 d2⟩, ?_⟩
      have k := mF_vOk (sortM_asc d1 d2) (sortM_find d1 d2) hvd1 hvd2
      exact fun x hx => ⟨(k x hx).1, by have := (k x hx).2; omega⟩
    have hdl := mF_len hd.asc hd.find
    have ag := hd.again hW1 hW2 fa2 fb2
    have g1 := hd.rest1 fa2 fb2
    have g2 := hd.rest2 fa2 fb2
    have new := fun y (hy : y ∈ d1) => hd.newer hW1 fa2 fb2 hy
    have n1 := rcv_N M1 d
    have n2 := rcv_N M2 d
    simp (disch := first | omega | (simp only [List.length_cons, List.length_nil, List.length_map, List.length_drop]; omega)) only [evSt, ↓evPre, ↓evPreW, evPost, evPostW, ← List.map_take, ← List.map_drop, ↓reduceIte, reduceCtorEq, Nat.reduceEqDiff, forall_const, implies_true, Nat.reduceAdd, Nat.reduceSub, Nat.reduceMul, Nat.reduceLT, Nat.reduceLeDiff, Int.reduceToNat, Int.reduceAdd, Int.reduceSub, Int.reduceNeg, Int.reduceMul, Int.reduceLT, Int.reduceLE, Int.reduceEq]
    refine (repair_A S' M1 Q1 C1 v1 M1 M2 Q2 C2 v2 M2 d1 d2 d h1 h2 (by omega) (by omega) hd (up hvd1) (up hvd2)).mono ?_
    rintro r S1 ⟨rfl, Q1', C1', Q2', C2', h1', h2', hS1⟩
    subst hS1
    simp (disch := first | omega | (simp only [List.length_cons, List.length_nil, List.length_map, List.length_drop]; omega)) only [evSt, ↓evPre, ↓evPreW, evPost, evPostW, ← List.map_take, ← List.map_drop, ↓reduceIte, reduceCtorEq, Nat.reduceEqDiff, forall_const, implies_true, Nat.reduceAdd, Nat.reduceSub, Nat.reduceMul, Nat.reduceLT, Nat.reduceLeDiff, Int.reduceToNat, Int.reduceAdd, Int.reduceSub, Int.reduceNeg, Int.reduceMul, Int.reduceLT, Int.reduceLE, Int.reduceEq]
    refine (repairR_A S' _ Q1' C1' v1 M1 _ Q2' C2' v2 M2 d1 d2 d hW1 hW2 (by omega) (by omega) hd (up hvd1)).mono ?_
    rintro r S1 ⟨rfl, w1, w2, hS1⟩
    subst hS1
    have hR1 := h1'.wf.len
    have ha1 : allF ((rcv M1 d).1.R.map (·.1)) = d := isAll_eq (allF_isAll h1'.wf) ag.a1 fun w => rfl
    generalize rcv M1 d = p1 at *
    generalize rcv M2 d = p2 at *
    obtain ⟨N1, k1⟩ := p1
    obtain ⟨N2, k2⟩ := p2
    simp only at *
    simp (disch := first | omega | (simp only [List.length_cons, List.length_nil, List.length_map, List.length_drop]; omega)) only [evSt, ↓evPre, ↓evPreW, evPost, evPostW, ← List.map_take, ← List.map_drop, ↓reduceIte, reduceCtorEq, Nat.reduceEqDiff, forall_const, implies_true, Nat.reduceAdd, Nat.reduceSub, Nat.reduceMul, Nat.reduceLT, Nat.reduceLeDiff, Int.reduceToNat, Int.reduceAdd, Int.reduceSub, Int.reduceNeg, Int.reduceMul, Int.reduceLT, Int.reduceLE, Int.reduceEq]
    refine (all1Q S' N1 Q1' C1' w1 N1 N2 Q2' C2' w2 N2 h1' (by omega)).mono ?_
    rintro r S1 ⟨⟨x1, hx1, rfl⟩, rfl⟩
    have : x1 = d := isAll_eq hx1 ag.a1 fun w => rfl
    subst this
    simp (disch := first | omega | (simp only [List.length_cons, List.length_nil, List.length_map, List.length_drop]; omega)) only [evSt, ↓evPre, ↓evPreW, evPost, evPostW, ← List.map_take, ← List.map_drop, ↓reduceIte, reduceCtorEq, Nat.reduceEqDiff, forall_const, implies_true, Nat.reduceAdd, Nat.reduceSub, Nat.reduceMul, Nat.reduceLT, Nat.reduceLeDiff, Int.reduceToNat, Int.reduceAdd, Int.reduceSub, Int.reduceNeg, Int.reduceMul, Int.reduceLT, Int.reduceLE, Int.reduceEq]
    refine (allR1Q S' N1 Q1' C1' w1 N1 N2 Q2' C2' w2 N2 (by omega)).then ?_
    rw [ha1]
    simp (disch := first | omega | (simp only [List.length_cons, List.length_nil, List.length_map, List.length_drop]; omega)) only [evSt, ↓evPre, ↓evPreW, evPost, evPostW, ← List.map_take, ← List.map_drop, ↓reduceIte, reduceCtorEq, Nat.reduceEqDiff, forall_const, implies_true, Nat.reduceAdd, Nat.reduceSub, Nat.reduceMul, Nat.reduceLT, Nat.reduceLeDiff, Int.reduceToNat, Int.reduceAdd, Int.reduceSub, Int.reduceNeg, Int.reduceMul, Int.reduceLT, Int.reduceLE, Int.reduceEq]
    refine (states_A x1 x1 _ (by omega)).then ?_
    simp (disch := first | omega | (simp only [List.length_cons, List.length_nil, List.length_map, List.length_drop]; omega)) only [evSt, ↓evPre, ↓evPreW, evPost, evPostW, ← List.map_take, ← List.map_drop, ↓reduceIte, reduceCtorEq, Nat.reduceEqDiff, forall_const, implies_true, Nat.reduceAdd, Nat.reduceSub, Nat.reduceMul, Nat.reduceLT, Nat.reduceLeDiff, Int.reduceToNat, Int.reduceAdd, Int.reduceSub, Int.reduceNeg, Int.reduceMul, Int.reduceLT, Int.reduceLE, Int.reduceEq]
    refine (all2Q S' N1 Q1' C1' w1 N1 N2 Q2' C2' w2 N2 h2' (by omega)).mono ?_
    rintro r S1 ⟨⟨x2, hx2, rfl⟩, rfl⟩
    have : x2 = x1 := isAll_eq hx2 ag.a2 fun w => rfl
    subst this
    simp (disch := first | omega | (simp only [List.length_cons, List.length_nil, List.length_map, List.length_drop]; omega)) only [evSt, ↓evPre, ↓evPreW, evPost, evPostW, ← List.map_take, ← List.map_drop, ↓reduceIte, reduceCtorEq, Nat.reduceEqDiff, forall_const, implies_true, Nat.reduceAdd, Nat.reduceSub, Nat.reduceMul, Nat.reduceLT, Nat.reduceLeDiff, Int.reduceToNat, Int.reduceAdd, Int.reduceSub, Int.reduceNeg, Int.reduceMul, Int.reduceLT, Int.reduceLE, Int.reduceEq]
    refine (all1Q S' N1 Q1' C1' w1 N1 N2 Q2' C2' w2 N2 h1' (by omega)).mono ?_
    rintro r S1 ⟨⟨x3, hx3, rfl⟩, rfl⟩
    have : x3 = x2 := isAll_eq hx3 ag.a1 fun w => rfl
    subst this
    simp (disch := first | omega | (simp only [List.length_cons, List.length_nil, List.length_map, List.length_drop]; omega)) only [evSt, ↓evPre, ↓evPreW, evPost, evPostW, ← List.map_take, ← List.map_drop, ↓reduceIte, reduceCtorEq, Nat.reduceEqDiff, forall_const, implies_true, Nat.reduceAdd, Nat.reduceSub, Nat.reduceMul, Nat.reduceLT, Nat.reduceLeDiff, Int.reduceToNat, Int.reduceAdd, Int.reduceSub, Int.reduceNeg, Int.reduceMul, Int.reduceLT, Int.reduceLE, Int.reduceEq]
    refine (states_A x3 x3 _ (by omega)).then ?_
    simp (disch := first | omega | (simp only [List.length_cons, List.length_nil, List.length_map, List.length_drop]; omega)) only [evSt, ↓evPre, ↓evPreW, evPost, evPostW, ← List.map_take, ← List.map_drop, ↓reduceIte, reduceCtorEq, Nat.reduceEqDiff, forall_const, implies_true, Nat.reduceAdd, Nat.reduceSub, Nat.reduceMul, Nat.reduceLT, Nat.reduceLeDiff, Int.reduceToNat, Int.reduceAdd, Int.reduceSub, Int.reduceNeg, Int.reduceMul, Int.reduceLT, Int.reduceLE, Int.reduceEq]
    have hund : ∀ j : Nat, (([(5, .ptr (S'.length + 3) 0 0 0), (8, .ptr (S'.length + 9) 0 0 0), (11, stSl d1), (18, .int .i64 (j : Nat))] : Env).all fun p => p.2.under (quad S' N1 Q1' C1' w1 N1 N2 Q2' C2' w2 N2).length) = true := fun j => by
      have e3 : S'.length + 3 < S'.length + 12 := by omega
      have e9 : S'.length + 9 < S'.length + 12 := by omega
      simp [qd_len, V.under, stSl, e3, e9]
    refine loopF (ι := Nat) (fun j => [(5, .ptr (S'.length + 3) 0 0 0), (8, .ptr (S'.length + 9) 0 0 0), (11, stSl d1), (18, .int .i64 (j : Nat))]) (fun _ => quad S' N1 Q1' C1' w1 N1 N2 Q2' C2' w2 N2) (fun j => j ≤ d1.length) (fun j => d1.length - j) (fun p _ => by rw [hσ, qd_len]; omega) 0 (Nat.zero_le _) (.inl ⟨?_, rfl⟩) ?_
    · simp only [stSl, ↓evPre, ↓evPreW, evPost, evPostW, ← List.map_take, ← List.map_drop, ↓reduceIte, reduceCtorEq, Nat.reduceEqDiff, forall_const, implies_true, Nat.reduceAdd, Nat.reduceSub, Nat.reduceMul, Nat.reduceLT, Nat.reduceLeDiff, Int.reduceToNat, Int.reduceAdd, Int.reduceSub, Int.reduceNeg, Int.reduceMul, Int.reduceLT, Int.reduceLE, Int.reduceEq]
      try rfl
    intro j hj
    cases hc : d1[j]? with
    | none =>
      have hge : d1.length ≤ j := List.getElem?_eq_none_iff.1 hc
      have hlt : ¬ ((j : Int) < d1.length) := by omega
      simp (disch := first | omega | (simp only [List.length_cons, List.length_nil, List.length_map, List.length_drop]; omega)) only [stSl, List.length_map, dF hlt, evSt, ↓evPre, ↓evPreW, evPost, evPostW, ← List.map_take, ← List.map_drop, ↓reduceIte, reduceCtorEq, Nat.reduceEqDiff, forall_const, implies_true, Nat.reduceAdd, Nat.reduceSub, Nat.reduceMul, Nat.reduceLT, Nat.reduceLeDiff, Int.reduceToNat, Int.reduceAdd, Int.reduceSub, Int.reduceNeg, Int.reduceMul, Int.reduceLT, Int.reduceLE, Int.reduceEq]
      refine (repair_A S' N1 Q1' C1' w1 N1 N2 Q2' C2' w2 N2 x3 x3 x3 h1' h2' (by omega) (by omega) ag hvd hvd).mono ?_
      rintro r S1 ⟨rfl, Q1, C1, Q2, C2, h1, h2, hS1⟩
      subst hS1
      rw [g1, g2]
      have z : ((0 : Nat) : Int) = 0 := rfl
      simp (disch := first | omega | (simp only [List.length_cons, List.length_nil, List.length_map, List.length_drop]; omega)) only [z, evSt, ↓evPre, ↓evPreW, evPost, evPostW, ← List.map_take, ← List.map_drop, ↓reduceIte, reduceCtorEq, Nat.reduceEqDiff, forall_const, implies_true, Nat.reduceAdd, Nat.reduceSub, Nat.reduceMul, Nat.reduceLT, Nat.reduceLeDiff, Int.reduceToNat, Int.reduceAdd, Int.reduceSub, Int.reduceNeg, Int.reduceMul, Int.reduceLT, Int.reduceLE, Int.reduceEq]
      refine (example_A _).then ?_
      simp (disch := first | omega | (simp only [List.length_cons, List.length_nil, List.length_map, List.length_drop]; omega)) only [evSt, ↓evPre, ↓evPreW, evPost, evPostW, ← List.map_take, ← List.map_drop, ↓reduceIte, reduceCtorEq, Nat.reduceEqDiff, forall_const, implies_true, Nat.reduceAdd, Nat.reduceSub, Nat.reduceMul, Nat.reduceLT, Nat.reduceLeDiff, Int.reduceToNat, Int.reduceAdd, Int.reduceSub, Int.reduceNeg, Int.reduceMul, Int.reduceLT, Int.reduceLE, Int.reduceEq]
      have := quad_fgt (L := []) (M1 := N1) (Q1 := Q1) (C1 := C1) (v1 := w1) (K1 := N1) (M2 := N2) (Q2 := Q2) (C2 := C2) (v2 := w2) (K2 := N2) hn
      rw [List.append_nil] at this
      exact ⟨_, _, this, .imm rfl, Nat.le_refl _, rfl, rfl⟩
    | some y =>
      have hlt' := (List.getElem?_eq_some_iff.1 hc).1
      have hlt : (j : Int) < d1.length := by omega
      have hj1 : (j : Int) + 1 = ((j + 1 : Nat) : Int) := by omega
      obtain ⟨z, hz1, hz2⟩ := new y (List.mem_of_getElem? hc)
      have hz3 : ¬ z.v < y.v := by omega
      have hback : ∀ (E : Env) (T : Store), sub [(5, .ptr (S'.length + 3) 0 0 0), (8, .ptr (S'.length + 9) 0 0 0), (11, stSl d1), (18, .int .i64 ((j + 1 : Nat) : Int))] E → ∃ i', i' ≤ d1.length ∧ d1.length - i' < d1.length - j ∧
          Back [(5, .ptr (S'.length + 3) 0 0 0), (8, .ptr (S'.length + 9) 0 0 0), (11, stSl d1), (18, .int .i64 (i' : Nat))] (quad S' N1 Q1' C1' w1 N1 N2 Q2' C2' w2 N2) E (quad S' N1 Q1' C1' w1 N1 N2 Q2' C2' w2 N2 ++ T) := fun E T hE =>
        ⟨j + 1, by omega, by omega, back_under ((quad_neat hn).fgt _) hE (hund _)⟩
      simp (disch := first | omega | (simp only [List.length_cons, List.length_nil, List.length_map, List.length_drop]; omega)) only [stSl, stR, List.length_map, List.getElem?_map, Option.map_some, hc, dT hlt, evQ, evSt, ↓evPre, ↓evPreW, evPost, evPostW, ← List.map_take, ← List.map_drop, ↓reduceIte, reduceCtorEq, Nat.reduceEqDiff, forall_const, implies_true, Nat.reduceAdd, Nat.reduceSub, Nat.reduceMul, Nat.reduceLT, Nat.reduceLeDiff, Int.reduceToNat, Int.reduceAdd, Int.reduceSub, Int.reduceNeg, Int.reduceMul, Int.reduceLT, Int.reduceLE, Int.reduceEq]
      refine ⟨?_, ?_⟩
      · have hg := get1Q S' [] N1 Q1' C1' w1 N1 N2 Q2' C2' w2 N2 y.t y.c
        rw [List.append_nil] at hg
        refine hg.then ?_
        rw [hz1]
        simp (disch := first | omega | (simp only [List.length_cons, List.length_nil, List.length_map, List.length_drop]; omega)) only [stSl, stV, stR, List.length_map, List.getElem?_map, Option.map_some, hc, dF hz3, hj1, wrap_i64, evQ, evSt, ↓evPre, ↓evPreW, evPost, evPostW, ← List.map_take, ← List.map_drop, ↓reduceIte, reduceCtorEq, Nat.reduceEqDiff, forall_const, implies_true, Nat.reduceAdd, Nat.reduceSub, Nat.reduceMul, Nat.reduceLT, Nat.reduceLeDiff, Int.reduceToNat, Int.reduceAdd, Int.reduceSub, Int.reduceNeg, Int.reduceMul, Int.reduceLT, Int.reduceLE, Int.reduceEq]
        exact hback _ _ ⟨rfl, rfl, rfl, rfl, trivial⟩
      · refine (get1Q S' _ N1 Q1' C1' w1 N1 N2 Q2' C2' w2 N2 y.t y.c).then ?_
        rw [hz1]
        simp (disch := first | omega | (simp only [List.length_cons, List.length_nil, List.length_map, List.length_drop]; omega)) only [stSl, stV, stR, List.length_map, List.getElem?_map, Option.map_some, hc, dF hz3, hj1, wrap_i64, evQ, evSt, ↓evPre, ↓evPreW, evPost, evPostW, ← List.map_take, ← List.map_drop, ↓reduceIte, reduceCtorEq, Nat.reduceEqDiff, forall_const, implies_true, Nat.reduceAdd, Nat.reduceSub, Nat.reduceMul, Nat.reduceLT, Nat.reduceLeDiff, Int.reduceToNat, Int.reduceAdd, Int.reduceSub, Int.reduceNeg, Int.reduceMul, Int.reduceLT, Int.reduceLE, Int.reduceEq]
        exact hback _ _ ⟨rfl, rfl, rfl, rfl, trivial⟩
end Go.Proofs.Ytdkcicbpcagonab
