/- Repairs: the walks. -/
import Derived.Test.YtdkcicbpcagonabRep3
namespace Go.Proofs.Ytdkcicbpcagonab
open Go Go.AL
set_option linter.unusedSimpArgs false
set_option linter.unusedVariables false

section
variable (S L : Store) (M : Mi) (Q : Qs) (C : Cs) (v : Nat) (K : Mi)
theorem allX (h : MOk M Q C) (hN : M.N ≤ 1000000) : CallA Try.prog 13 [.ptr (S.length + 3) 0 0 0] (duo S M Q C v K ++ L) fun r S' => (∃ d, isAll M d ∧ r = stSl d) ∧ S' = duo S M Q C v K ++ L := by
  rw [duom]
  exact All_A S _ M Q C h hN
theorem allRX (hl : K.R.length ≤ 1000) : CallA Try.prog 15 [.ptr (S.length + 4) 0 0 0] (duo S M Q C v K ++ L) fun r S' => r = stSl (allF (K.R.map (·.1))) ∧ S' = duo S M Q C v K ++ L := by
  have := AllR_A (mst S [] M Q C) L K v hl
  rw [mst0_len] at this
  rw [duorl]
  exact this
theorem getX (t c : Int) : CallA Try.prog 16 [.ptr (S.length + 3) 0 0 0, .int .i64 t, .int .i64 c] (duo S M Q C v K ++ L) fun r S' => r = .tup [stV (getF M t c).1, .bool (getF M t c).2] ∧ S' = duo S M Q C v K ++ L := by
  rw [duom]
  exact Get_A S _ M Q C t c
theorem noneX (h : MOk M Q C) (hN : M.N ≤ 1000000) : CallA Try.prog 24 [.ptr (S.length + 3) 0 0 0] (duo S M Q C v K ++ L) fun r S' => r = .bool false ∧ ∃ Q1 C1, MOk M Q1 C1 ∧ S' = duo S M Q1 C1 v K ++ L := by
  rw [duom]
  exact (none_A S _ M Q C h hN).mono fun r S' k => ⟨k.1, by obtain ⟨Q1, C1, h1, h2⟩ := k.2; exact ⟨Q1, C1, h1, by rw [h2, duom]⟩⟩
theorem rcvX (h : MOk M Q C) (l : List St) (hN : M.N + l.length ≤ 100000) : CallA Try.prog 25 [.ptr (S.length + 3) 0 0 0, stSl l] (duo S M Q C v K ++ L) fun r S' => r = .int .i64 ((rcv M l).2 : Nat) ∧ ∃ Q1 C1, MOk (rcv M l).1 Q1 C1 ∧ S' = duo S (rcv M l).1 Q1 C1 v K ++ L := by
  rw [duom]
  exact (receive_A S _ M Q C h l hN).mono fun r S' k => ⟨k.1, by obtain ⟨Q1, C1, h1, h2⟩ := k.2; exact ⟨Q1, C1, h1, by rw [h2, duom]⟩⟩
theorem rcvRX (h : WF K) (l : List St) (hN : K.N + l.length ≤ 100000) : CallA Try.prog 32 [.ptr (S.length + 4) 0 0 0, stSl l] (duo S M Q C v K ++ L) fun r S' => r = .int .i64 ((rcv K l).2 : Nat) ∧ ∃ v', S' = duo S M Q C v' (rcv K l).1 ++ L := by
  have := refPut_A (mst S [] M Q C) L K v h l hN
  rw [mst0_len] at this
  rw [duorl]
  exact this.mono fun r S' k => ⟨k.1, by obtain ⟨v', h⟩ := k.2; exact ⟨v', by rw [h, duorl]⟩⟩
end

/-- Two mirrors, each with the reference's one behind it. -/
def quad (S : Store) (M1 : Mi) (Q1 : Qs) (C1 : Cs) (v1 : Nat) (K1 : Mi) (M2 : Mi) (Q2 : Qs) (C2 : Cs) (v2 : Nat) (K2 : Mi) : Store := duo S M1 Q1 C1 v1 K1 ++ (mobs (S.length + 6) M2 Q2 C2 ++ robs (S.length + 10) v2 K2)
section
variable {S L : Store} {M1 : Mi} {Q1 : Qs} {C1 : Cs} {v1 : Nat} {K1 : Mi} {M2 : Mi} {Q2 : Qs} {C2 : Cs} {v2 : Nat} {K2 : Mi} {k ver : Nat} {o : AL.Obj}
theorem quad_2 : quad S M1 Q1 C1 v1 K1 M2 Q2 C2 v2 K2 = duo (duo S M1 Q1 C1 v1 K1) M2 Q2 C2 v2 K2 := by
  rw [quad, duo.eq_def (duo S M1 Q1 C1 v1 K1), mst_mobs, du_len]
  rfl
theorem qd_len : (quad S M1 Q1 C1 v1 K1 M2 Q2 C2 v2 K2).length = S.length + 12 := by rw [quad_2, du_len, duN, du_len, duN]
theorem qd_ob1 : Store.obj? (quad S M1 Q1 C1 v1 K1 M2 Q2 C2 v2 K2) (S.length + 3) 0 = some (39, 4, [[.mapv S.length 0, .mapv (S.length + 1) 0, .mapv (S.length + 2) 0, .int .i64 (M1.N : Nat)]]) := by rw [quad, duom, mst, mx_ob3]
theorem qd_ob2 : Store.obj? (quad S M1 Q1 C1 v1 K1 M2 Q2 C2 v2 K2) (S.length + 9) 0 = some (39, 4, [[.mapv (S.length + 6) 0, .mapv (S.length + 7) 0, .mapv (S.length + 8) 0, .int .i64 (M2.N : Nat)]]) := by
  have := du_ob1 (S := duo S M1 Q1 C1 v1 K1) (M := M2) (Q := Q2) (C := C2) (v := v2) (K := K2)
  rw [du_len] at this
  rw [quad_2]
  exact this
theorem quad_neat (h : Neat S) : Neat (quad S M1 Q1 C1 v1 K1 M2 Q2 C2 v2 K2) := by rw [quad_2]; exact duo_neat (duo_neat h)
theorem quad_fgt (h : Neat S) : Fgt (quad S M1 Q1 C1 v1 K1 M2 Q2 C2 v2 K2 ++ L) S := by rw [quad, List.append_assoc]; exact duo_fgt h
def qdN (S : Store) : Nat := S.length + 12
theorem qd_len' : (quad S M1 Q1 C1 v1 K1 M2 Q2 C2 v2 K2).length = qdN S := qd_len
theorem qn_ob : Store.obj? (quad S M1 Q1 C1 v1 K1 M2 Q2 C2 v2 K2 ++ L) (qdN S + k) ver = Store.obj? L k ver := by rw [← qd_len' (M1 := M1) (Q1 := Q1) (C1 := C1) (v1 := v1) (K1 := K1) (M2 := M2) (Q2 := Q2) (C2 := C2) (v2 := v2) (K2 := K2), ob_app]
theorem qn_ob0 : Store.obj? (quad S M1 Q1 C1 v1 K1 M2 Q2 C2 v2 K2 ++ L) (qdN S) ver = Store.obj? L 0 ver := by rw [← qd_len' (M1 := M1) (Q1 := Q1) (C1 := C1) (v1 := v1) (K1 := K1) (M2 := M2) (Q2 := Q2) (C2 := C2) (v2 := v2) (K2 := K2), ob_app0]
theorem qn_se : (quad S M1 Q1 C1 v1 K1 M2 Q2 C2 v2 K2 ++ L : Store).set (qdN S + k) o = quad S M1 Q1 C1 v1 K1 M2 Q2 C2 v2 K2 ++ L.set k o := by rw [← qd_len' (M1 := M1) (Q1 := Q1) (C1 := C1) (v1 := v1) (K1 := K1) (M2 := M2) (Q2 := Q2) (C2 := C2) (v2 := v2) (K2 := K2), se_app]
theorem qn_se0 : (quad S M1 Q1 C1 v1 K1 M2 Q2 C2 v2 K2 ++ L : Store).set (qdN S) o = quad S M1 Q1 C1 v1 K1 M2 Q2 C2 v2 K2 ++ L.set 0 o := by rw [← qd_len' (M1 := M1) (Q1 := Q1) (C1 := C1) (v1 := v1) (K1 := K1) (M2 := M2) (Q2 := Q2) (C2 := C2) (v2 := v2) (K2 := K2), se_app0]
end
theorem evQ : ((type_of% @qd_len') ∧ (type_of% @qd_ob1) ∧ (type_of% @qd_ob2)) ∧ (type_of% @qn_ob) ∧ (type_of% @qn_ob0) ∧ (type_of% @qn_se) ∧ (type_of% @qn_se0) := ⟨⟨@qd_len', @qd_ob1, @qd_ob2⟩, @qn_ob, @qn_ob0, @qn_se, @qn_se0⟩

section
variable (S L : Store) (M1 : Mi) (Q1 : Qs) (C1 : Cs) (v1 : Nat) (K1 : Mi) (M2 : Mi) (Q2 : Qs) (C2 : Cs) (v2 : Nat) (K2 : Mi)
theorem all1Q (h : MOk M1 Q1 C1) (hN : M1.N ≤ 1000000) : CallA Try.prog 13 [.ptr (S.length + 3) 0 0 0] (quad S M1 Q1 C1 v1 K1 M2 Q2 C2 v2 K2) fun r S' => (∃ d, isAll M1 d ∧ r = stSl d) ∧ S' = quad S M1 Q1 C1 v1 K1 M2 Q2 C2 v2 K2 := allX S _ M1 Q1 C1 v1 K1 h hN
theorem all2Q (h : MOk M2 Q2 C2) (hN : M2.N ≤ 1000000) : CallA Try.prog 13 [.ptr (S.length + 9) 0 0 0] (quad S M1 Q1 C1 v1 K1 M2 Q2 C2 v2 K2) fun r S' => (∃ d, isAll M2 d ∧ r = stSl d) ∧ S' = quad S M1 Q1 C1 v1 K1 M2 Q2 C2 v2 K2 := by
  have := allX (duo S M1 Q1 C1 v1 K1) [] M2 Q2 C2 v2 K2 h hN
  rw [List.append_nil, du_len, ← quad_2] at this
  exact this
theorem allR1Q (hl : K1.R.length ≤ 1000) : CallA Try.prog 15 [.ptr (S.length + 4) 0 0 0] (quad S M1 Q1 C1 v1 K1 M2 Q2 C2 v2 K2) fun r S' => r = stSl (allF (K1.R.map (·.1))) ∧ S' = quad S M1 Q1 C1 v1 K1 M2 Q2 C2 v2 K2 := allRX S _ M1 Q1 C1 v1 K1 hl
theorem allR2Q (hl : K2.R.length ≤ 1000) : CallA Try.prog 15 [.ptr (S.length + 10) 0 0 0] (quad S M1 Q1 C1 v1 K1 M2 Q2 C2 v2 K2) fun r S' => r = stSl (allF (K2.R.map (·.1))) ∧ S' = quad S M1 Q1 C1 v1 K1 M2 Q2 C2 v2 K2 := by
  have := allRX (duo S M1 Q1 C1 v1 K1) [] M2 Q2 C2 v2 K2 hl
  rw [List.append_nil, du_len, ← quad_2] at this
  exact this
theorem get1Q (t c : Int) : CallA Try.prog 16 [.ptr (S.length + 3) 0 0 0, .int .i64 t, .int .i64 c] (quad S M1 Q1 C1 v1 K1 M2 Q2 C2 v2 K2 ++ L) fun r S' => r = .tup [stV (getF M1 t c).1, .bool (getF M1 t c).2] ∧ S' = quad S M1 Q1 C1 v1 K1 M2 Q2 C2 v2 K2 ++ L := by
  rw [quad, List.append_assoc]
  exact getX S _ M1 Q1 C1 v1 K1 t c
theorem none1Q (h : MOk M1 Q1 C1) (hN : M1.N ≤ 1000000) : CallA Try.prog 24 [.ptr (S.length + 3) 0 0 0] (quad S M1 Q1 C1 v1 K1 M2 Q2 C2 v2 K2) fun r S' => r = .bool false ∧ ∃ Q1' C1', MOk M1 Q1' C1' ∧ S' = quad S M1 Q1' C1' v1 K1 M2 Q2 C2 v2 K2 := noneX S _ M1 Q1 C1 v1 K1 h hN
theorem none2Q (h : MOk M2 Q2 C2) (hN : M2.N ≤ 1000000) : CallA Try.prog 24 [.ptr (S.length + 9) 0 0 0] (quad S M1 Q1 C1 v1 K1 M2 Q2 C2 v2 K2) fun r S' => r = .bool false ∧ ∃ Q2' C2', MOk M2 Q2' C2' ∧ S' = quad S M1 Q1 C1 v1 K1 M2 Q2' C2' v2 K2 := by
  have := noneX (duo S M1 Q1 C1 v1 K1) [] M2 Q2 C2 v2 K2 h hN
  rw [List.append_nil, du_len, ← quad_2] at this
  exact this.mono fun r S' k => ⟨k.1, by obtain ⟨Q', C', h1, h2⟩ := k.2; exact ⟨Q', C', h1, by rw [h2, List.append_nil, quad_2]⟩⟩
theorem rcv1Q (h : MOk M1 Q1 C1) (l : List St) (hN : M1.N + l.length ≤ 100000) : CallA Try.prog 25 [.ptr (S.length + 3) 0 0 0, stSl l] (quad S M1 Q1 C1 v1 K1 M2 Q2 C2 v2 K2) fun r S' => r = .int .i64 ((rcv M1 l).2 : Nat) ∧ ∃ Q1' C1', MOk (rcv M1 l).1 Q1' C1' ∧ S' = quad S (rcv M1 l).1 Q1' C1' v1 K1 M2 Q2 C2 v2 K2 := rcvX S _ M1 Q1 C1 v1 K1 h l hN
theorem rcv2Q (h : MOk M2 Q2 C2) (l : List St) (hN : M2.N + l.length ≤ 100000) : CallA Try.prog 25 [.ptr (S.length + 9) 0 0 0, stSl l] (quad S M1 Q1 C1 v1 K1 M2 Q2 C2 v2 K2) fun r S' => r = .int .i64 ((rcv M2 l).2 : Nat) ∧ ∃ Q2' C2', MOk (rcv M2 l).1 Q2' C2' ∧ S' = quad S M1 Q1 C1 v1 K1 (rcv M2 l).1 Q2' C2' v2 K2 := by
  have := rcvX (duo S M1 Q1 C1 v1 K1) [] M2 Q2 C2 v2 K2 h l hN
  rw [List.append_nil, du_len, ← quad_2] at this
  exact this.mono fun r S' k => ⟨k.1, by obtain ⟨Q', C', h1, h2⟩ := k.2; exact ⟨Q', C', h1, by rw [h2, List.append_nil, quad_2]⟩⟩
theorem rcvR1Q (h : WF K1) (l : List St) (hN : K1.N + l.length ≤ 100000) : CallA Try.prog 32 [.ptr (S.length + 4) 0 0 0, stSl l] (quad S M1 Q1 C1 v1 K1 M2 Q2 C2 v2 K2) fun r S' => r = .int .i64 ((rcv K1 l).2 : Nat) ∧ ∃ v', S' = quad S M1 Q1 C1 v' (rcv K1 l).1 M2 Q2 C2 v2 K2 := rcvRX S _ M1 Q1 C1 v1 K1 h l hN
theorem rcvR2Q (h : WF K2) (l : List St) (hN : K2.N + l.length ≤ 100000) : CallA Try.prog 32 [.ptr (S.length + 10) 0 0 0, stSl l] (quad S M1 Q1 C1 v1 K1 M2 Q2 C2 v2 K2) fun r S' => r = .int .i64 ((rcv K2 l).2 : Nat) ∧ ∃ v', S' = quad S M1 Q1 C1 v1 K1 M2 Q2 C2 v' (rcv K2 l).1 := by
  have := rcvRX (duo S M1 Q1 C1 v1 K1) [] M2 Q2 C2 v2 K2 h l hN
  rw [List.append_nil, du_len, ← quad_2] at this
  exact this.mono fun r S' k => ⟨k.1, by obtain ⟨v', h2⟩ := k.2; exact ⟨v', by rw [h2, List.append_nil, quad_2]⟩⟩

theorem repair_A (d1 d2 d : List St) (h1 : MOk M1 Q1 C1) (h2 : MOk M2 Q2 C2) (hN1 : M1.N ≤ 1000) (hN2 : M2.N ≤ 1000) (hd : Mrg M1 M2 d1 d2 d) (hv1 : vOk 4611686018427387904 d1) (hv2 : vOk 4611686018427387904 d2) :
    CallA Try.prog 12 [.ptr (S.length + 3) 0 0 0, .ptr (S.length + 9) 0 0 0] (quad S M1 Q1 C1 v1 K1 M2 Q2 C2 v2 K2) fun r S' => r = .tup [.int .i64 ((rcv M1 d).2 : Nat), .int .i64 ((rcv M2 d).2 : Nat), .int .i64 0] ∧
      ∃ Q1' C1' Q2' C2', MOk (rcv M1 d).1 Q1' C1' ∧ MOk (rcv M2 d).1 Q2' C2' ∧ S' = quad S (rcv M1 d).1 Q1' C1' v1 K1 (rcv M2 d).1 Q2' C2' v2 K2 := by
  refine CallA.keep Try.func12 c212 (Nat.le_of_ble_eq_true rfl) fun σ hσ => ?_
  have e1 := hd.a1.2.length_eq
  have e2 := hd.a2.2.length_eq
  rw [List.length_map] at e1 e2
  have r1 := h1.wf.len
  have r2 := h2.wf.len
  have hdl := mF_len hd.asc hd.find
  simp (disch := first | omega | (simp only [List.length_cons, List.length_nil, List.length_map, List.length_drop]; omega)) only [a212, evSt, ↓evPre, ↓evPreW, evPost, evPostW, ← List.map_take, ← List.map_drop, ↓reduceIte, reduceCtorEq, Nat.reduceEqDiff, forall_const, implies_true, Nat.reduceAdd, Nat.reduceSub, Nat.reduceMul, Nat.reduceLT, Nat.reduceLeDiff, Int.reduceToNat, Int.reduceAdd, Int.reduceSub, Int.reduceNeg, Int.reduceMul, Int.reduceLT, Int.reduceLE, Int.reduceEq]
  refine (none1Q S M1 Q1 C1 v1 K1 M2 Q2 C2 v2 K2 h1 (by omega)).mono ?_
  rintro r S' ⟨rfl, Q1, C1, h1, hS'⟩
  subst hS'
  simp (disch := first | omega | (simp only [List.length_cons, List.length_nil, List.length_map, List.length_drop]; omega)) only [evSt, ↓evPre, ↓evPreW, evPost, evPostW, ← List.map_take, ← List.map_drop, ↓reduceIte, reduceCtorEq, Nat.reduceEqDiff, forall_const, implies_true, Nat.reduceAdd, Nat.reduceSub, Nat.reduceMul, Nat.reduceLT, Nat.reduceLeDiff, Int.reduceToNat, Int.reduceAdd, Int.reduceSub, Int.reduceNeg, Int.reduceMul, Int.reduceLT, Int.reduceLE, Int.reduceEq]
  refine (none2Q S M1 Q1 C1 v1 K1 M2 Q2 C2 v2 K2 h2 (by omega)).mono ?_
  rintro r S' ⟨rfl, Q2, C2, h2, hS'⟩
  subst hS'
  simp (disch := first | omega | (simp only [List.length_cons, List.length_nil, List.length_map, List.length_drop]; omega)) only [evQ, evSt, ↓evPre, ↓evPreW, evPost, evPostW, ← List.map_take, ← List.map_drop, ↓reduceIte, reduceCtorEq, Nat.reduceEqDiff, forall_const, implies_true, Nat.reduceAdd, Nat.reduceSub, Nat.reduceMul, Nat.reduceLT, Nat.reduceLeDiff, Int.reduceToNat, Int.reduceAdd, Int.reduceSub, Int.reduceNeg, Int.reduceMul, Int.reduceLT, Int.reduceLE, Int.reduceEq]
  refine (all1Q S M1 Q1 C1 v1 K1 M2 Q2 C2 v2 K2 h1 (by omega)).mono ?_
  rintro r S' ⟨⟨d1', hd1, rfl⟩, rfl⟩
  have : d1' = d1 := isAll_eq hd1 hd.a1 fun w => rfl
  subst this
  simp (disch := first | omega | (simp only [List.length_cons, List.length_nil, List.length_map, List.length_drop]; omega)) only [evSt, ↓evPre, ↓evPreW, evPost, evPostW, ← List.map_take, ← List.map_drop, ↓reduceIte, reduceCtorEq, Nat.reduceEqDiff, forall_const, implies_true, Nat.reduceAdd, Nat.reduceSub, Nat.reduceMul, Nat.reduceLT, Nat.reduceLeDiff, Int.reduceToNat, Int.reduceAdd, Int.reduceSub, Int.reduceNeg, Int.reduceMul, Int.reduceLT, Int.reduceLE, Int.reduceEq]
  refine (all2Q S M1 Q1 C1 v1 K1 M2 Q2 C2 v2 K2 h2 (by omega)).mono ?_
  rintro r S' ⟨⟨d2', hd2, rfl⟩, rfl⟩
  have : d2' = d2 := isAll_eq hd2 hd.a2 fun w => rfl
  subst this
  simp (disch := first | omega | (simp only [List.length_cons, List.length_nil, List.length_map, List.length_drop]; omega)) only [evSt, ↓evPre, ↓evPreW, evPost, evPostW, ← List.map_take, ← List.map_drop, ↓reduceIte, reduceCtorEq, Nat.reduceEqDiff, forall_const, implies_true, Nat.reduceAdd, Nat.reduceSub, Nat.reduceMul, Nat.reduceLT, Nat.reduceLeDiff, Int.reduceToNat, Int.reduceAdd, Int.reduceSub, Int.reduceNeg, Int.reduceMul, Int.reduceLT, Int.reduceLE, Int.reduceEq]
  refine (merge_A d1' d2' _ (by omega) (by omega) hv1 hv2).mono ?_
  rintro r S' ⟨⟨d', g1, g2, rfl⟩, rfl⟩
  have : d' = d := g1.uniqF hd.asc fun w => by rw [g2, hd.find]
  subst this
  simp (disch := first | omega | (simp only [List.length_cons, List.length_nil, List.length_map, List.length_drop]; omega)) only [evSt, ↓evPre, ↓evPreW, evPost, evPostW, ← List.map_take, ← List.map_drop, ↓reduceIte, reduceCtorEq, Nat.reduceEqDiff, forall_const, implies_true, Nat.reduceAdd, Nat.reduceSub, Nat.reduceMul, Nat.reduceLT, Nat.reduceLeDiff, Int.reduceToNat, Int.reduceAdd, Int.reduceSub, Int.reduceNeg, Int.reduceMul, Int.reduceLT, Int.reduceLE, Int.reduceEq]
  refine (rcv1Q S M1 Q1 C1 v1 K1 M2 Q2 C2 v2 K2 h1 d' (by omega)).mono ?_
  rintro r S' ⟨rfl, Q1, C1, h1, hS'⟩
  subst hS'
  simp (disch := first | omega | (simp only [List.length_cons, List.length_nil, List.length_map, List.length_drop]; omega)) only [evSt, ↓evPre, ↓evPreW, evPost, evPostW, ← List.map_take, ← List.map_drop, ↓reduceIte, reduceCtorEq, Nat.reduceEqDiff, forall_const, implies_true, Nat.reduceAdd, Nat.reduceSub, Nat.reduceMul, Nat.reduceLT, Nat.reduceLeDiff, Int.reduceToNat, Int.reduceAdd, Int.reduceSub, Int.reduceNeg, Int.reduceMul, Int.reduceLT, Int.reduceLE, Int.reduceEq]
  refine (rcv2Q S _ Q1 C1 v1 K1 M2 Q2 C2 v2 K2 h2 d' (by omega)).mono ?_
  rintro r S' ⟨rfl, Q2, C2, h2, hS'⟩
  subst hS'
  simp (disch := first | omega | (simp only [List.length_cons, List.length_nil, List.length_map, List.length_drop]; omega)) only [evSt, ↓evPre, ↓evPreW, evPost, evPostW, ← List.map_take, ← List.map_drop, ↓reduceIte, reduceCtorEq, Nat.reduceEqDiff, forall_const, implies_true, Nat.reduceAdd, Nat.reduceSub, Nat.reduceMul, Nat.reduceLT, Nat.reduceLeDiff, Int.reduceToNat, Int.reduceAdd, Int.reduceSub, Int.reduceNeg, Int.reduceMul, Int.reduceLT, Int.reduceLE, Int.reduceEq]
  exact ⟨Q1, C1, Q2, C2, h1, h2, rfl⟩
theorem repairR_A (d1 d2 d : List St) (h1 : WF K1) (h2 : WF K2) (hN1 : K1.N ≤ 1000) (hN2 : K2.N ≤ 1000) (hd : Mrg K1 K2 d1 d2 d) (hv1 : vOk 4611686018427387904 d1) :
    CallA Try.prog 14 [.ptr (S.length + 4) 0 0 0, .ptr (S.length + 10) 0 0 0] (quad S M1 Q1 C1 v1 K1 M2 Q2 C2 v2 K2) fun r S' => r = .tup [.int .i64 ((rcv K1 d).2 : Nat), .int .i64 ((rcv K2 d).2 : Nat), .int .i64 0] ∧
      ∃ v1' v2', S' = quad S M1 Q1 C1 v1' (rcv K1 d).1 M2 Q2 C2 v2' (rcv K2 d).1 := by
  refine CallA.keep Try.func14 c214 (Nat.le_of_ble_eq_true rfl) fun σ hσ => ?_
  have e1 := hd.a1.2.length_eq
  have e2 := hd.a2.2.length_eq
  rw [List.length_map] at e1 e2
  have r1 := h1.len
  have r2 := h2.len
  have hdl := mF_len hd.asc hd.find
  have ha1 : allF (K1.R.map (·.1)) = d1 := isAll_eq (allF_isAll h1) hd.a1 fun w => rfl
  have ha2 : allF (K2.R.map (·.1)) = d2 := isAll_eq (allF_isAll h2) hd.a2 fun w => rfl
  simp (disch := first | omega | (simp only [List.length_cons, List.length_nil, List.length_map, List.length_drop]; omega)) only [a214, evSt, ↓evPre, ↓evPreW, evPost, evPostW, ← List.map_take, ← List.map_drop, ↓reduceIte, reduceCtorEq, Nat.reduceEqDiff, forall_const, implies_true, Nat.reduceAdd, Nat.reduceSub, Nat.reduceMul, Nat.reduceLT, Nat.reduceLeDiff, Int.reduceToNat, Int.reduceAdd, Int.reduceSub, Int.reduceNeg, Int.reduceMul, Int.reduceLT, Int.reduceLE, Int.reduceEq]
  refine (allR1Q S M1 Q1 C1 v1 K1 M2 Q2 C2 v2 K2 (by omega)).then ?_
  rw [ha1]
  simp (disch := first | omega | (simp only [List.length_cons, List.length_nil, List.length_map, List.length_drop]; omega)) only [evSt, ↓evPre, ↓evPreW, evPost, evPostW, ← List.map_take, ← List.map_drop, ↓reduceIte, reduceCtorEq, Nat.reduceEqDiff, forall_const, implies_true, Nat.reduceAdd, Nat.reduceSub, Nat.reduceMul, Nat.reduceLT, Nat.reduceLeDiff, Int.reduceToNat, Int.reduceAdd, Int.reduceSub, Int.reduceNeg, Int.reduceMul, Int.reduceLT, Int.reduceLE, Int.reduceEq]
  refine (allR2Q S M1 Q1 C1 v1 K1 M2 Q2 C2 v2 K2 (by omega)).then ?_
  rw [ha2]
  simp (disch := first | omega | (simp only [List.length_cons, List.length_nil, List.length_map, List.length_drop]; omega)) only [evSt, ↓evPre, ↓evPreW, evPost, evPostW, ← List.map_take, ← List.map_drop, ↓reduceIte, reduceCtorEq, Nat.reduceEqDiff, forall_const, implies_true, Nat.reduceAdd, Nat.reduceSub, Nat.reduceMul, Nat.reduceLT, Nat.reduceLeDiff, Int.reduceToNat, Int.reduceAdd, Int.reduceSub, Int.reduceNeg, Int.reduceMul, Int.reduceLT, Int.reduceLE, Int.reduceEq]
  refine (mergeR_A d1 d2 _ (by omega) (by omega) hv1).mono ?_
  rintro r S' ⟨⟨d', g1, g2, rfl⟩, rfl⟩
  have : d' = d := g1.uniqF hd.asc fun w => by rw [g2, hd.find]
  subst this
  simp (disch := first | omega | (simp only [List.length_cons, List.length_nil, List.length_map, List.length_drop]; omega)) only [evSt, ↓evPre, ↓evPreW, evPost, evPostW, ← List.map_take, ← List.map_drop, ↓reduceIte, reduceCtorEq, Nat.reduceEqDiff, forall_const, implies_true, Nat.reduceAdd, Nat.reduceSub, Nat.reduceMul, Nat.reduceLT, Nat.reduceLeDiff, Int.reduceToNat, Int.reduceAdd, Int.reduceSub, Int.reduceNeg, Int.reduceMul, Int.reduceLT, Int.reduceLE, Int.reduceEq]
  refine (rcvR1Q S M1 Q1 C1 v1 K1 M2 Q2 C2 v2 K2 h1 d' (by omega)).mono ?_
  rintro r S' ⟨rfl, w1, hS'⟩
  subst hS'
  simp (disch := first | omega | (simp only [List.length_cons, List.length_nil, List.length_map, List.length_drop]; omega)) only [evSt, ↓evPre, ↓evPreW, evPost, evPostW, ← List.map_take, ← List.map_drop, ↓reduceIte, reduceCtorEq, Nat.reduceEqDiff, forall_const, implies_true, Nat.reduceAdd, Nat.reduceSub, Nat.reduceMul, Nat.reduceLT, Nat.reduceLeDiff, Int.reduceToNat, Int.reduceAdd, Int.reduceSub, Int.reduceNeg, Int.reduceMul, Int.reduceLT, Int.reduceLE, Int.reduceEq]
  refine (rcvR2Q S M1 Q1 C1 w1 _ M2 Q2 C2 v2 K2 h2 d' (by omega)).mono ?_
  rintro r S' ⟨rfl, w2, hS'⟩
  subst hS'
  simp (disch := first | omega | (simp only [List.length_cons, List.length_nil, List.length_map, List.length_drop]; omega)) only [evSt, ↓evPre, ↓evPreW, evPost, evPostW, ← List.map_take, ← List.map_drop, ↓reduceIte, reduceCtorEq, Nat.reduceEqDiff, forall_const, implies_true, Nat.reduceAdd, Nat.reduceSub, Nat.reduceMul, Nat.reduceLT, Nat.reduceLeDiff, Int.reduceToNat, Int.reduceAdd, Int.reduceSub, Int.reduceNeg, Int.reduceMul, Int.reduceLT, Int.reduceLE, Int.reduceEq]
  exact ⟨w1, w2, rfl⟩
end
end Go.Proofs.Ytdkcicbpcagonab
