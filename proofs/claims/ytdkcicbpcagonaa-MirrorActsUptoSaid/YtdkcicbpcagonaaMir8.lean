/- A mirror's methods: Changes, Event, Since. -/
import Derived.Test.YtdkcicbpcagonaaMir6
import Derived.Test.YtdkcicbpcagonaaMir4
import Derived.Test.YtdkcicbpcagonaaMir7
namespace Go.Proofs.Ytdkcicbpcagonaa
open Go Go.AL
set_option linter.unusedSimpArgs false
set_option linter.unusedVariables false

/-! ## A mirror's methods: Changes, Event. -/
section
variable (A B : Store) (M : Mi) (Q : List (Nat × Int × Int)) (C : List (Nat × List St))

theorem Changes_A : CallA Try.prog 16 [.ptr (A.length + 3) 0 0 0] (mst A B M Q C) fun r S' => r = .int .i64 (M.N : Nat) ∧ S' = mst A B M Q C := by
  refine CallA.keep Try.func16 c16 (Nat.le_of_ble_eq_true rfl) fun σ hσ => ?_
  simp (disch := first | omega | (simp only [List.length_cons, List.length_nil, List.length_map, List.length_drop]; omega)) only [a16, evSt, ↓evPre, ↓evPreW, evPost, evPostW, ← List.map_take, ← List.map_drop, ↓reduceIte, reduceCtorEq, Nat.reduceEqDiff, forall_const, implies_true, Nat.reduceAdd, Nat.reduceSub, Nat.reduceMul, Nat.reduceLT, Nat.reduceLeDiff, Int.reduceToNat, Int.reduceAdd, Int.reduceSub, Int.reduceNeg, Int.reduceMul, Int.reduceLT, Int.reduceLE, Int.reduceEq]
  refine (made_A A B M Q C).then ?_
  simp (disch := first | omega | (simp only [List.length_cons, List.length_nil, List.length_map, List.length_drop]; omega)) only [mst, evM, evSt, ↓evPre, ↓evPreW, evPost, evPostW, ← List.map_take, ← List.map_drop, ↓reduceIte, reduceCtorEq, Nat.reduceEqDiff, forall_const, implies_true, Nat.reduceAdd, Nat.reduceSub, Nat.reduceMul, Nat.reduceLT, Nat.reduceLeDiff, Int.reduceToNat, Int.reduceAdd, Int.reduceSub, Int.reduceNeg, Int.reduceMul, Int.reduceLT, Int.reduceLE, Int.reduceEq]

set_option maxRecDepth 100000 in
theorem Event_A (h : MOk M Q C) (hN : M.N ≤ 1000000) (hv : ∀ r ∈ M.R, i64r r.1.v) (t c e : Int) : CallA Try.prog 24 [.ptr (A.length + 3) 0 0 0, .int .i64 t, .int .i64 c, .int .i64 e] (mst A B M Q C) fun r S' => r = .tup [stV (evF M t c e).1.1, .int .i64 (evF M t c e).1.2] ∧ Leaves A B (evF M t c e).2 S' := by
  refine CallA.withNeat Try.func24 c24 fun hn => ?_
  refine CallA.fin Try.func24 c24 (Nat.le_of_ble_eq_true rfl) fun σ hσ => ?_
  have hf : findV (.agg [.int .i64 t, .int .i64 c]) (M.R.map entM) = (findR M.R ⟨t, c, 0, 0⟩).map fun r => (entM r).2 := find_entM ⟨t, c, 0, 0⟩ M.R
  have same : ∀ (T : Store) (x : St) (n : Int), evF M t c e = ((x, n), M) → ∃ r1 S1, Fgt (mst A B M Q C ++ T) S1 ∧ Frz (mst A B M Q C ++ T) S1 (.tup [stV x, .int .i64 n]) r1 ∧ mxN A B ≤ S1.length ∧ r1 = .tup [stV (evF M t c e).1.1, .int .i64 (evF M t c e).1.2] ∧ Leaves A B (evF M t c e).2 S1 := fun T x n hp =>
    mst_fin hn (.imm rfl) ⟨by rw [hp], by rw [hp]; exact ⟨Q, C, h, rfl⟩⟩
  have fin : ∀ (T : Store) (x : St), evF M t c e = ((x, 0), recM M x) → ∃ r1 S1, Fgt (mst A B (recM M x) (recQ M x Q) [] ++ T) S1 ∧ Frz (mst A B (recM M x) (recQ M x Q) [] ++ T) S1 (.tup [stV x, .int .i64 0]) r1 ∧ mxN A B ≤ S1.length ∧ r1 = .tup [stV (evF M t c e).1.1, .int .i64 (evF M t c e).1.2] ∧ Leaves A B (evF M t c e).2 S1 := fun T x hp =>
    mst_fin (mst_neat hn) (.imm rfl) ⟨by rw [hp], by rw [hp]; exact ⟨_, _, h.step x, rfl⟩⟩
  simp (disch := first | omega | (simp only [List.length_cons, List.length_nil, List.length_map, List.length_drop]; omega)) only [a24, mst, evM, evSt, ↓evPre, ↓evPreW, evPost, evPostW, ← List.map_take, ← List.map_drop, ↓reduceIte, reduceCtorEq, Nat.reduceEqDiff, forall_const, implies_true, Nat.reduceAdd, Nat.reduceSub, Nat.reduceMul, Nat.reduceLT, Nat.reduceLeDiff, Int.reduceToNat, Int.reduceAdd, Int.reduceSub, Int.reduceNeg, Int.reduceMul, Int.reduceLT, Int.reduceLE, Int.reduceEq]
  refine (made_AL A B _ M Q C).then ?_
  cases hg : findR M.R ⟨t, c, 0, 0⟩ with
  | none =>
    rw [hg] at hf
    simp (disch := first | omega | (simp only [List.length_cons, List.length_nil, List.length_map, List.length_drop]; omega)) only [hf, Option.map_none, Option.getD_none, Option.isSome_none, mst, evM, evSt, ↓evPre, ↓evPreW, evPost, evPostW, ← List.map_take, ← List.map_drop, ↓reduceIte, reduceCtorEq, Nat.reduceEqDiff, forall_const, implies_true, Nat.reduceAdd, Nat.reduceSub, Nat.reduceMul, Nat.reduceLT, Nat.reduceLeDiff, Int.reduceToNat, Int.reduceAdd, Int.reduceSub, Int.reduceNeg, Int.reduceMul, Int.reduceLT, Int.reduceLE, Int.reduceEq]
    exact same _ ⟨0, 0, 0, 0⟩ 7 (by rw [evF, hg])
  | some r =>
    rw [hg] at hf
    have hrv := hv r (List.mem_of_find?_eq_some hg)
    unfold i64r at hrv
    simp (disch := first | omega | (simp only [List.length_cons, List.length_nil, List.length_map, List.length_drop]; omega)) only [hf, entM, Option.map_some, Option.getD_some, Option.isSome_some, mst, evM, evSt, ↓evPre, ↓evPreW, evPost, evPostW, ← List.map_take, ← List.map_drop, ↓reduceIte, reduceCtorEq, Nat.reduceEqDiff, forall_const, implies_true, Nat.reduceAdd, Nat.reduceSub, Nat.reduceMul, Nat.reduceLT, Nat.reduceLeDiff, Int.reduceToNat, Int.reduceAdd, Int.reduceSub, Int.reduceNeg, Int.reduceMul, Int.reduceLT, Int.reduceLE, Int.reduceEq]
    refine (Next_A _ _ _).then ?_
    by_cases h1 : (nextF r.1.s e).2 = 0
    · by_cases h2 : r.1.v = 9223372036854775807
      · simp (disch := first | omega | (simp only [List.length_cons, List.length_nil, List.length_map, List.length_drop]; omega)) only [dT h1, dT h2, mst, evM, evSt, ↓evPre, ↓evPreW, evPost, evPostW, ← List.map_take, ← List.map_drop, ↓reduceIte, reduceCtorEq, Nat.reduceEqDiff, forall_const, implies_true, Nat.reduceAdd, Nat.reduceSub, Nat.reduceMul, Nat.reduceLT, Nat.reduceLeDiff, Int.reduceToNat, Int.reduceAdd, Int.reduceSub, Int.reduceNeg, Int.reduceMul, Int.reduceLT, Int.reduceLE, Int.reduceEq]
        exact same _ ⟨0, 0, 0, 0⟩ 2 (by rw [evF, hg]; simp only [h1, h2, ne_eq, not_true_eq_false, if_false, if_true])
      · have hp : evF M t c e = ((⟨r.1.t, r.1.c, r.1.v + 1, (nextF r.1.s e).1⟩, 0), recM M ⟨r.1.t, r.1.c, r.1.v + 1, (nextF r.1.s e).1⟩) := by rw [evF, hg]; simp only [h1, h2, ne_eq, not_true_eq_false, if_false]
        simp (disch := first | omega | (simp only [List.length_cons, List.length_nil, List.length_map, List.length_drop]; omega)) only [dT h1, dF h2, wrap_i64, mst, evM, evSt, ↓evPre, ↓evPreW, evPost, evPostW, ← List.map_take, ← List.map_drop, ↓reduceIte, reduceCtorEq, Nat.reduceEqDiff, forall_const, implies_true, Nat.reduceAdd, Nat.reduceSub, Nat.reduceMul, Nat.reduceLT, Nat.reduceLeDiff, Int.reduceToNat, Int.reduceAdd, Int.reduceSub, Int.reduceNeg, Int.reduceMul, Int.reduceLT, Int.reduceLE, Int.reduceEq]
        refine (set_AL A B _ M Q C ⟨r.1.t, r.1.c, r.1.v + 1, (nextF r.1.s e).1⟩ hN).then2 ?_
        simp (disch := first | omega | (simp only [List.length_cons, List.length_nil, List.length_map, List.length_drop]; omega)) only [mst, evM, evSt, ↓evPre, ↓evPreW, evPost, evPostW, ← List.map_take, ← List.map_drop, ↓reduceIte, reduceCtorEq, Nat.reduceEqDiff, forall_const, implies_true, Nat.reduceAdd, Nat.reduceSub, Nat.reduceMul, Nat.reduceLT, Nat.reduceLeDiff, Int.reduceToNat, Int.reduceAdd, Int.reduceSub, Int.reduceNeg, Int.reduceMul, Int.reduceLT, Int.reduceLE, Int.reduceEq]
        exact fin _ _ hp
    · simp (disch := first | omega | (simp only [List.length_cons, List.length_nil, List.length_map, List.length_drop]; omega)) only [dF h1, mst, evM, evSt, ↓evPre, ↓evPreW, evPost, evPostW, ← List.map_take, ← List.map_drop, ↓reduceIte, reduceCtorEq, Nat.reduceEqDiff, forall_const, implies_true, Nat.reduceAdd, Nat.reduceSub, Nat.reduceMul, Nat.reduceLT, Nat.reduceLeDiff, Int.reduceToNat, Int.reduceAdd, Int.reduceSub, Int.reduceNeg, Int.reduceMul, Int.reduceLT, Int.reduceLE, Int.reduceEq]
      exact same _ ⟨0, 0, 0, 0⟩ _ (by rw [evF, hg]; simp only [h1, ne_eq, not_false_eq_true, if_true])
end

/-! ## A mirror's methods: Since. -/
theorem clone_A (l : List St) (S : Store) (hl : l.length ≤ 1000000) : CallA Try.prog 36 [stSl l] S fun r S' => r = stSl l ∧ S' = S := by
  refine CallA.withNeat Try.func36 c36 fun hn => ?_
  refine CallA.fin Try.func36 c36 (Nat.le_of_ble_eq_true rfl) fun σ hσ => ?_
  cases l with
  | nil =>
    simp (disch := first | omega | (simp only [List.length_cons, List.length_nil, List.length_map, List.length_drop]; omega)) only [a36, stSl, List.map_nil, evSt, ↓evPre, ↓evPreW, evPost, evPostW, ← List.map_take, ← List.map_drop, ↓reduceIte, reduceCtorEq, Nat.reduceEqDiff, forall_const, implies_true, Nat.reduceAdd, Nat.reduceSub, Nat.reduceMul, Nat.reduceLT, Nat.reduceLeDiff, Int.reduceToNat, Int.reduceAdd, Int.reduceSub, Int.reduceNeg, Int.reduceMul, Int.reduceLT, Int.reduceLE, Int.reduceEq]
    refine ⟨⟨_, S, hn.self, .nil, Nat.le_refl _, rfl, rfl⟩, by unfold roomA; omega, ⟨_, S, hn.fgt _, .sl (t := 29) (Nat.le_refl _) (by simp (disch := first | omega | (simp only [List.length_cons, List.length_nil, List.length_map, List.length_drop]; omega)) only [evSt, ↓evPre, ↓evPreW, evPost, evPostW, ← List.map_take, ← List.map_drop, ↓reduceIte, reduceCtorEq, Nat.reduceEqDiff, forall_const, implies_true, Nat.reduceAdd, Nat.reduceSub, Nat.reduceMul, Nat.reduceLT, Nat.reduceLeDiff, Int.reduceToNat, Int.reduceAdd, Int.reduceSub, Int.reduceNeg, Int.reduceMul, Int.reduceLT, Int.reduceLE, Int.reduceEq]) rfl (by simp), Nat.le_refl _, rfl, rfl⟩⟩
  | cons x l =>
    have hrm : 0 + (l.length + 1) ≤ roomA := by unfold roomA; simp only [List.length_cons] at hl; omega
    simp (disch := first | omega | (simp only [List.length_cons, List.length_nil, List.length_map, List.length_drop]; omega)) only [a36, stSl, List.map_cons, List.length_map, hrm, evSt, ↓evPre, ↓evPreW, evPost, evPostW, ← List.map_take, ← List.map_drop, ↓reduceIte, reduceCtorEq, Nat.reduceEqDiff, forall_const, implies_true, Nat.reduceAdd, Nat.reduceSub, Nat.reduceMul, Nat.reduceLT, Nat.reduceLeDiff, Int.reduceToNat, Int.reduceAdd, Int.reduceSub, Int.reduceNeg, Int.reduceMul, Int.reduceLT, Int.reduceLE, Int.reduceEq]
    refine ⟨by simpa using hrm, ?_⟩
    exact ⟨_, S, hn.fgt _, .sl (t := 29) (rows := (x :: l).map stR) (Nat.le_refl _) (by simp (disch := first | omega | (simp only [List.length_cons, List.length_nil, List.length_map, List.length_drop]; omega)) only [List.map_cons, evSt, ↓evPre, ↓evPreW, evPost, evPostW, ← List.map_take, ← List.map_drop, ↓reduceIte, reduceCtorEq, Nat.reduceEqDiff, forall_const, implies_true, Nat.reduceAdd, Nat.reduceSub, Nat.reduceMul, Nat.reduceLT, Nat.reduceLeDiff, Int.reduceToNat, Int.reduceAdd, Int.reduceSub, Int.reduceNeg, Int.reduceMul, Int.reduceLT, Int.reduceLE, Int.reduceEq]) (by simp) (stR_imm (x :: l)), Nat.le_refl _, by simp [stSl], rfl⟩

theorem mirX_kill {A B T : Store} {s q c c' : List (V × V)} {x : MX} {n : Int} (h : Neat (mirX A B s x q c' n)) (h1 : mOk (.st [.int .i64, .int .i64]) s) (h2 : mOk (.one (.int .i64)) q) (hx : x.isIt = false)
    (h3 : objF (mirX A B s x q c n ++ T) (mirX A B s x q c' n ++ kill T) (mapO (.one (.int .i64)) c .free) (some (.mp ⟨.one (.int .i64), c', .free⟩))) : Fgt (mirX A B s x q c n ++ T) (mirX A B s x q c' n ++ kill T) := by
  have hn := neat_iff.1 h
  have hxf : ∀ {S S1 : Store}, XF S S1 x x := XF.same fun of p hp => by rw [hp] at hx; cases hx
  refine fgt_point (by rw [List.length_append, List.length_append, mx_len, mx_len, kill_length]; exact Nat.le_refl _) fun id o1 ho => ?_
  by_cases hlt : id < mxN A B
  · rw [List.getElem?_append_left (by rw [mx_len]; exact hlt)] at ho ⊢
    have hm := hn o1 (List.mem_of_getElem? ho)
    have hm' : objN (mirX A B s x q c' n ++ kill T).length o1 := hm.mono (by simp)
    by_cases hid : id < A.length
    · refine ⟨o1, ?_, rfl, hm'.self⟩
      simp only [mirX] at ho ⊢
      rw [List.getElem?_append_left hid] at ho ⊢
      exact ho
    · obtain ⟨k, rfl⟩ : ∃ k, id = A.length + k := ⟨id - A.length, by omega⟩
      simp only [mirX] at ho ⊢
      rw [List.getElem?_append_right (by omega), Nat.add_sub_cancel_left] at ho ⊢
      match k with
      | 0 => simp only [List.getElem?_cons_zero, Option.some.injEq] at ho ⊢; subst ho; exact ⟨_, rfl, rfl, h1.objF hxf⟩
      | 1 => simp only [List.getElem?_cons_succ, List.getElem?_cons_zero, Option.some.injEq] at ho ⊢; subst ho; exact ⟨_, rfl, rfl, h2.objF rfl⟩
      | 2 => simp only [List.getElem?_cons_succ, List.getElem?_cons_zero, Option.some.injEq] at ho ⊢; subst ho; exact ⟨_, rfl, rfl, h3⟩
      | k + 3 =>
        simp only [List.getElem?_cons_succ] at ho ⊢
        exact ⟨o1, ho, rfl, hm'.self⟩
  · rw [List.getElem?_append_right (by rw [mx_len]; omega), mx_len] at ho ⊢
    simp only [kill, List.getElem?_map, Option.map_eq_some_iff] at ho
    obtain ⟨o, h5, rfl⟩ := ho
    exact ⟨o, h5, rfl, trivial⟩

theorem putC_frz {S S1 : Store} {n : Nat} {l : List St} {m : V} (hm : Frz S S1 m (stSl l)) : ∀ (C : List (Nat × List St)), ((putC n l C).map entC).length = (putV (.int .i64 (n : Nat)) m (C.map entC)).length ∧
    ∀ (i : Nat) (p1 p : V × V), ((putC n l C).map entC)[i]? = some p1 → (putV (.int .i64 (n : Nat)) m (C.map entC))[i]? = some p → Frz S S1 p.1 p1.1 ∧ Frz S S1 p.2 p1.2
  | [] => by
    refine ⟨rfl, fun i p1 p h1 h2 => ?_⟩
    cases i with
    | zero => simp [putC, putV] at h1 h2; subst h1 h2; exact ⟨.imm rfl, hm⟩
    | succ i => simp [putC] at h1
  | q :: C => by
    have he : eqKV (.int .i64 (n : Nat)) (entC q).1 = decide (n = q.1) := eqKV_nat n q.1
    by_cases hq : n = q.1
    · rw [List.map_cons, putV, he, putC, if_pos hq, dT hq, if_pos rfl]
      refine ⟨by simp, fun i p1 p h1 h2 => ?_⟩
      cases i with
      | zero => simp at h1 h2; subst h1 h2; exact ⟨.imm rfl, hm⟩
      | succ i =>
        simp only [List.map_cons, List.getElem?_cons_succ] at h1 h2
        rw [h1] at h2; cases h2
        simp only [List.getElem?_map, Option.map_eq_some_iff] at h1
        obtain ⟨z, _, rfl⟩ := h1
        exact ⟨.imm rfl, .imm rfl⟩
    · obtain ⟨ih1, ih2⟩ := putC_frz (n := n) hm C
      rw [List.map_cons, putV, he, putC, if_neg hq, dF hq, if_neg (by simp)]
      refine ⟨by simp only [List.map_cons, List.length_cons, ih1], fun i p1 p h1 h2 => ?_⟩
      cases i with
      | zero => simp at h1 h2; subst h1 h2; exact ⟨.imm rfl, .imm rfl⟩
      | succ i =>
        simp only [List.map_cons, List.getElem?_cons_succ] at h1 h2
        exact ih2 i p1 p h1 h2
theorem putC_mem {n : Nat} {l : List St} {a : Nat × List St} : ∀ {C : List (Nat × List St)}, a ∈ putC n l C → a = (n, l) ∨ a ∈ C
  | [], h => by simp only [putC, List.mem_singleton] at h; exact .inl h
  | q :: C, h => by
    rw [putC] at h
    split at h
    · rcases List.mem_cons.1 h with h | h
      · exact .inl h
      · exact .inr (List.mem_cons_of_mem _ h)
    · rcases List.mem_cons.1 h with h | h
      · exact .inr (by rw [h]; exact List.mem_cons_self ..)
      · exact (putC_mem h).imp id (List.mem_cons_of_mem _)

/-- A number of changes, cut to what there is. -/
def cutN (M : Mi) (c : Int) : Nat := (min (max c 0) (M.N : Int)).toNat
theorem cutN_eq (M : Mi) (c : Int) : min (max c 0) (M.N : Int) = (cutN M c : Nat) := by unfold cutN; omega
theorem cutN_le (M : Mi) (c : Int) : cutN M c ≤ M.N := by unfold cutN; omega
theorem since_step (M : Mi) (c j : Nat) : (List.range' (c + 1) (j + 1)).filterMap (fun n => (fAt M.R n).map (·.1)) = (List.range' (c + 1) j).filterMap (fun n => (fAt M.R n).map (·.1)) ++ (match fAt M.R (c + 1 + j) with
    | some r => [r.1]
    | none => []) := by
  rw [List.range'_concat, List.filterMap_append]
  congr 1
  simp only [Nat.one_mul]
  cases h : fAt M.R (c + 1 + j) <;> simp [h]
section
variable (A B : Store) (M : Mi) (Q : List (Nat × Int × Int)) (C : List (Nat × List St))

theorem since_back (hn : Neat (mst A B M Q C)) {out : List St} {v n : Nat} {k : Int} {cc : Int} {E : Env} {T : Store} {R : List (List V)} (hE : sub [(0, .ptr (A.length + 3) 0 0 0), (1, .int .i64 cc), (8, .int .i64 k), (7, .msl (mxN A B) v 0 n)] E) (hR : R = out.map stR) :
    Back [(0, .ptr (A.length + 3) 0 0 0), (1, .int .i64 cc), (8, .int .i64 k), (7, .msl (mxN A B) v 0 n)] (mst A B M Q C ++ [⟨v, some (.arr 29 4 (out.map stR))⟩]) E (mst A B M Q C ++ ⟨v, some (.arr 29 4 R)⟩ :: T) := by
  subst hR
  refine back_under (hn.fgtL (L1 := [⟨v, some (.arr 29 4 (out.map stR))⟩]) (L := ⟨v, some (.arr 29 4 (out.map stR))⟩ :: T) ⟨rfl, ⟨_, rfl, .imm (stR_imm _)⟩, fgtL_nil⟩) hE ?_
  have : A.length + 3 < mxN A B + 1 := by unfold mxN; omega
  simp [mst_len, V.under, this]

theorem Since_A (h : MOk M Q C) (hN : M.N ≤ 1000000) (c : Int) : CallA Try.prog 19 [.ptr (A.length + 3) 0 0 0, .int .i64 c] (mst A B M Q C) fun r S' => r = stSl (sinceL M (cutN M c)) ∧ Leaves A B M S' := by
  refine CallA.withNeat Try.func19 c19 fun hn => ?_
  refine CallA.fin Try.func19 c19 (Nat.le_of_ble_eq_true rfl) fun σ hσ => ?_
  have hc := cutN_eq M c
  have hcl := cutN_le M c
  generalize cutN M c = k at hc hcl ⊢
  have hfl : ∀ (s : Nat) (n : Nat), ((List.range' s n).filterMap (fun n => (fAt M.R n).map (·.1))).length ≤ n := fun s n => by
    have := List.length_filterMap_le (fun n => (fAt M.R n).map (·.1)) (List.range' s n)
    simpa using this
  have hsl : (sinceL M k).length ≤ 1000000 := by have := hfl (k + 1) (M.N - k); unfold sinceL; omega
  have hf := find_entC k C
  simp (disch := first | omega | (simp only [List.length_cons, List.length_nil, List.length_map, List.length_drop]; omega)) only [a19, evSt, ↓evPre, ↓evPreW, evPost, evPostW, ← List.map_take, ← List.map_drop, ↓reduceIte, reduceCtorEq, Nat.reduceEqDiff, forall_const, implies_true, Nat.reduceAdd, Nat.reduceSub, Nat.reduceMul, Nat.reduceLT, Nat.reduceLeDiff, Int.reduceToNat, Int.reduceAdd, Int.reduceSub, Int.reduceNeg, Int.reduceMul, Int.reduceLT, Int.reduceLE, Int.reduceEq]
  refine (made_A A B M Q C).then ?_
  cases hg : fC C k with
  | some p =>
    rw [hg] at hf
    have hp : p.2 = sinceL M k := by
      have h1 := h.c p (List.mem_of_find?_eq_some hg)
      have h2 := List.find?_some hg
      simp only [decide_eq_true_eq] at h2
      rw [h1, ← h2]
    rw [← hp] at hsl ⊢
    simp (disch := first | omega | (simp only [List.length_cons, List.length_nil, List.length_map, List.length_drop]; omega)) only [hc, hf, Option.map_some, Option.getD_some, Option.isSome_some, mst, evM, evSt, ↓evPre, ↓evPreW, evPost, evPostW, ← List.map_take, ← List.map_drop, ↓reduceIte, reduceCtorEq, Nat.reduceEqDiff, forall_const, implies_true, Nat.reduceAdd, Nat.reduceSub, Nat.reduceMul, Nat.reduceLT, Nat.reduceLeDiff, Int.reduceToNat, Int.reduceAdd, Int.reduceSub, Int.reduceNeg, Int.reduceMul, Int.reduceLT, Int.reduceLE, Int.reduceEq]
    refine (clone_A p.2 _ hsl).then ?_
    simp (disch := first | omega | (simp only [List.length_cons, List.length_nil, List.length_map, List.length_drop]; omega)) only [evM, evSt, ↓evPre, ↓evPreW, evPost, evPostW, ← List.map_take, ← List.map_drop, ↓reduceIte, reduceCtorEq, Nat.reduceEqDiff, forall_const, implies_true, Nat.reduceAdd, Nat.reduceSub, Nat.reduceMul, Nat.reduceLT, Nat.reduceLeDiff, Int.reduceToNat, Int.reduceAdd, Int.reduceSub, Int.reduceNeg, Int.reduceMul, Int.reduceLT, Int.reduceLE, Int.reduceEq]
    exact ⟨_, mst A B M Q C, hn.self, .imm rfl, by rw [mst_len]; exact Nat.le_refl _, rfl, Q, C, h, rfl⟩
  | none =>
    rw [hg] at hf
    simp (disch := first | omega | (simp only [List.length_cons, List.length_nil, List.length_map, List.length_drop]; omega)) only [hc, hf, wrap_i64, Option.map_none, Option.getD_none, Option.isSome_none, mst, evM, evSt, ↓evPre, ↓evPreW, evPost, evPostW, ← List.map_take, ← List.map_drop, ↓reduceIte, reduceCtorEq, Nat.reduceEqDiff, forall_const, implies_true, Nat.reduceAdd, Nat.reduceSub, Nat.reduceMul, Nat.reduceLT, Nat.reduceLeDiff, Int.reduceToNat, Int.reduceAdd, Int.reduceSub, Int.reduceNeg, Int.reduceMul, Int.reduceLT, Int.reduceLE, Int.reduceEq]
    refine LoopA.ghost 7 0 29 4 (by simp only [↓evPre, ↓evPreW, evPost, evPostW, ← List.map_take, ← List.map_drop, ↓reduceIte, reduceCtorEq, Nat.reduceEqDiff, forall_const, implies_true, Nat.reduceAdd, Nat.reduceSub, Nat.reduceMul, Nat.reduceLT, Nat.reduceLeDiff, Int.reduceToNat, Int.reduceAdd, Int.reduceSub, Int.reduceNeg, Int.reduceMul, Int.reduceLT, Int.reduceLE, Int.reduceEq]) ?_
    refine loopF (ι := Nat × Nat) (fun p => [(0, .ptr (A.length + 3) 0 0 0), (1, .int .i64 (k : Nat)), (8, .int .i64 ((k + 1 + p.1 : Nat) : Int)), (7, .msl (mxN A B) p.2 0 ((List.range' (k + 1) p.1).filterMap (fun n => (fAt M.R n).map (·.1))).length)])
      (fun p => mst A B M Q C ++ [⟨p.2, some (.arr 29 4 (((List.range' (k + 1) p.1).filterMap (fun n => (fAt M.R n).map (·.1))).map stR))⟩]) (fun p => p.1 ≤ M.N - k) (fun p => M.N - k - p.1) (fun p _ => by rw [hσ]; simp)
      (0, 0) (Nat.zero_le _) (.inl ⟨?_, ?_⟩) ?_
    · simp (disch := first | omega | (simp only [List.length_cons, List.length_nil, List.length_map, List.length_drop]; omega)) only [List.range'_zero, List.filterMap_nil, evM, evSt, ↓evPre, ↓evPreW, evPost, evPostW, ← List.map_take, ← List.map_drop, ↓reduceIte, reduceCtorEq, Nat.reduceEqDiff, forall_const, implies_true, Nat.reduceAdd, Nat.reduceSub, Nat.reduceMul, Nat.reduceLT, Nat.reduceLeDiff, Int.reduceToNat, Int.reduceAdd, Int.reduceSub, Int.reduceNeg, Int.reduceMul, Int.reduceLT, Int.reduceLE, Int.reduceEq]
      omega
    · rfl
    rintro ⟨j, v⟩ hj
    simp only at hj ⊢
    have hst := since_step M k j
    have hol := hfl (k + 1) j
    generalize ho : (List.range' (k + 1) j).filterMap (fun n => (fAt M.R n).map (·.1)) = out at hst hol ⊢
    by_cases hlt : (k + 1 + j : Nat) ≤ M.N
    · have hlt' : ((k + 1 + j : Nat) : Int) ≤ (M.N : Nat) := by omega
      have hq := find_entQ (k + 1 + j) Q
      have hqf := h.q.find (k + 1 + j)
      change _ = (fAt M.R (k + 1 + j)).map _ at hqf
      have hk1 : ((k + 1 + j : Nat) : Int) + 1 = ((k + 1 + (j + 1) : Nat) : Int) := by omega
      cases hr : fAt M.R (k + 1 + j) with
      | none =>
        rw [hr] at hqf hst
        have hq0 : fQ Q (k + 1 + j) = none := by simpa using hqf
        rw [hq0] at hq
        simp (disch := first | omega | (simp only [List.length_cons, List.length_nil, List.length_map, List.length_drop]; omega)) only [dT hlt', hq, wrap_i64, Option.map_none, Option.getD_none, Option.isSome_none, mst, evM, evSt, ↓evPre, ↓evPreW, evPost, evPostW, ← List.map_take, ← List.map_drop, ↓reduceIte, reduceCtorEq, Nat.reduceEqDiff, forall_const, implies_true, Nat.reduceAdd, Nat.reduceSub, Nat.reduceMul, Nat.reduceLT, Nat.reduceLeDiff, Int.reduceToNat, Int.reduceAdd, Int.reduceSub, Int.reduceNeg, Int.reduceMul, Int.reduceLT, Int.reduceLE, Int.reduceEq]
        refine ⟨(j + 1, v), by simp only; omega, by simp only; omega, ?_⟩
        simp only [hst, List.append_nil, hk1]
        exact since_back A B M Q C hn ⟨rfl, rfl, rfl, rfl, trivial⟩ rfl
      | some r =>
        rw [hr] at hqf hst
        obtain ⟨p, hp, hp2⟩ : ∃ p, fQ Q (k + 1 + j) = some p ∧ p.2 = (r.1.t, r.1.c) := by simpa using hqf
        obtain ⟨p1, p2, p3⟩ := p
        cases hp2
        rw [hp] at hq
        have hfr : findV (.agg [.int .i64 r.1.t, .int .i64 r.1.c]) (M.R.map entM) = some (entM r).2 := by
          have := find_entM ⟨r.1.t, r.1.c, 0, 0⟩ M.R
          rw [h.wf.find_at hr] at this
          exact this
        simp (disch := first | omega | (simp only [List.length_cons, List.length_nil, List.length_map, List.length_drop]; omega)) only [dT hlt', hq, hfr, entQ, entM, wrap_i64, Option.map_some, Option.getD_some, Option.isSome_some, mst, evM, evSt, ↓evPre, ↓evPreW, evPost, evPostW, ← List.map_take, ← List.map_drop, ↓reduceIte, reduceCtorEq, Nat.reduceEqDiff, forall_const, implies_true, Nat.reduceAdd, Nat.reduceSub, Nat.reduceMul, Nat.reduceLT, Nat.reduceLeDiff, Int.reduceToNat, Int.reduceAdd, Int.reduceSub, Int.reduceNeg, Int.reduceMul, Int.reduceLT, Int.reduceLE, Int.reduceEq]
        refine ⟨by unfold roomA; omega, (j + 1, v + 1), by simp only; omega, by simp only; omega, ?_⟩
        simp only [hst, hk1]
        exact since_back A B M Q C hn ⟨rfl, rfl, rfl, by simp (disch := first | omega | (simp only [List.length_cons, List.length_nil, List.length_map, List.length_drop]; omega)) only [List.length_append, ↓evPre, ↓evPreW, evPost, evPostW, ← List.map_take, ← List.map_drop, ↓reduceIte, reduceCtorEq, Nat.reduceEqDiff, forall_const, implies_true, Nat.reduceAdd, Nat.reduceSub, Nat.reduceMul, Nat.reduceLT, Nat.reduceLeDiff, Int.reduceToNat, Int.reduceAdd, Int.reduceSub, Int.reduceNeg, Int.reduceMul, Int.reduceLT, Int.reduceLE, Int.reduceEq], trivial⟩ (by simp [stR])
    · have hlt' : ¬ ((k + 1 + j : Nat) : Int) ≤ (M.N : Nat) := by omega
      have hje : j = M.N - k := by omega
      have hout : out = sinceL M k := by rw [← ho, hje]; rfl
      rw [hout]
      generalize hl : sinceL M k = l at *
      simp (disch := first | omega | (simp only [List.length_cons, List.length_nil, List.length_map, List.length_drop]; omega)) only [dF hlt', mst, evM, evSt, ↓evPre, ↓evPreW, evPost, evPostW, ← List.map_take, ← List.map_drop, ↓reduceIte, reduceCtorEq, Nat.reduceEqDiff, forall_const, implies_true, Nat.reduceAdd, Nat.reduceSub, Nat.reduceMul, Nat.reduceLT, Nat.reduceLeDiff, Int.reduceToNat, Int.reduceAdd, Int.reduceSub, Int.reduceNeg, Int.reduceMul, Int.reduceLT, Int.reduceLE, Int.reduceEq]
      have hn' : Neat (mst A B M Q (putC k l C)) := mst_neat hn
      have hfz : Frz (mirX A B (M.R.map entM) .free (Q.map entQ) (putV (.int .i64 (k : Nat)) (.msl (mxN A B) v 0 l.length) (C.map entC)) (M.N : Nat) ++ [⟨v, some (.arr 29 4 (l.map stR))⟩]) (mst A B M Q (putC k l C) ++ kill [⟨v, some (.arr 29 4 (l.map stR))⟩]) (.msl (mxN A B) v 0 l.length) (stSl l) :=
        .dead (t := 29) (dead_kill (by rw [mst_len]; exact Nat.le_refl _)) (by simp (disch := first | omega | (simp only [List.length_cons, List.length_nil, List.length_map, List.length_drop]; omega)) only [evM, evSt, ↓evPre, ↓evPreW, evPost, evPostW, ← List.map_take, ← List.map_drop, ↓reduceIte, reduceCtorEq, Nat.reduceEqDiff, forall_const, implies_true, Nat.reduceAdd, Nat.reduceSub, Nat.reduceMul, Nat.reduceLT, Nat.reduceLeDiff, Int.reduceToNat, Int.reduceAdd, Int.reduceSub, Int.reduceNeg, Int.reduceMul, Int.reduceLT, Int.reduceLE, Int.reduceEq]) (by simp) (stR_imm _)
      obtain ⟨z1, z2⟩ := putC_frz (n := k) hfz C
      have hfg := mirX_kill (c := putV (.int .i64 (k : Nat)) (.msl (mxN A B) v 0 l.length) (C.map entC)) (T := [⟨v, some (.arr 29 4 (l.map stR))⟩]) hn' (okM _) (okQ _) rfl ⟨_, rfl, rfl, rfl, z1, fun p hp => (okC _ p hp).1, z2⟩
      refine CallA.then2 (CallA.froze (clone_A l (mst A B M Q (putC k l C) ++ kill [⟨v, some (.arr 29 4 (l.map stR))⟩]) hsl) hfg (by simp [mst_len, mx_len, kill]) rfl fun i v1 x1 h1 h2 => ?_) ?_
      · match i, h1, h2 with
        | 0, h1, h2 => simp at h1 h2; subst h1 h2; exact hfz
        | i + 1, h1, h2 => simp at h1
      simp (disch := first | omega | (simp only [List.length_cons, List.length_nil, List.length_map, List.length_drop]; omega)) only [mst, evM, evSt, ↓evPre, ↓evPreW, evPost, evPostW, ← List.map_take, ← List.map_drop, ↓reduceIte, reduceCtorEq, Nat.reduceEqDiff, forall_const, implies_true, Nat.reduceAdd, Nat.reduceSub, Nat.reduceMul, Nat.reduceLT, Nat.reduceLeDiff, Int.reduceToNat, Int.reduceAdd, Int.reduceSub, Int.reduceNeg, Int.reduceMul, Int.reduceLT, Int.reduceLE, Int.reduceEq]
      refine mst_fin hn' (.imm rfl) ⟨rfl, Q, putC k l C, ⟨h.wf, h.q, fun p hp => ?_⟩, rfl⟩
      rcases putC_mem hp with rfl | hp
      · exact hl.symm
      · exact h.c p hp
end
end Go.Proofs.Ytdkcicbpcagonaa
