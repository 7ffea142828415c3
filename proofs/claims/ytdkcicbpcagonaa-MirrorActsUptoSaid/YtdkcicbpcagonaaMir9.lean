/- Calls of a mirror; the chapter's example. -/
import Derived.Test.YtdkcicbpcagonaaMir8
namespace Go.Proofs.Ytdkcicbpcagonaa
open Go Go.AL
set_option linter.unusedSimpArgs false
set_option linter.unusedVariables false

deriving instance DecidableEq for Mi
structure Act where
  k : Int
  x : St
  n : Int
  deriving DecidableEq, Inhabited
def actR (a : Act) : List V := [.int .u8 a.k, .int .i64 a.x.t, .int .i64 a.x.c, .int .i64 a.x.v, .int .i64 a.x.s, .int .i64 a.n]
def actSl (l : List Act) : V := .sl 6 (l.map actR)
def stZ : St := ⟨0, 0, 0, 0⟩
/-- What a call answers, and what the mirror knows then. -/
def doF (M : Mi) (a : Act) : (St × Int) × Mi := if a.k.tmod 2 = 0 then ((stZ, (putF M a.x).1), (putF M a.x).2) else evF M a.x.t a.x.c a.n
/-- All versions are numbers. -/
def VOk (M : Mi) : Prop := ∀ r ∈ M.R, i64r r.1.v
theorem VOk.step {M : Mi} (h : VOk M) {x : St} (hx : i64r x.v) : VOk (recM M x) := fun r hr => by
  rcases updR_mem hr with rfl | hr
  · exact hx
  · exact h r hr
theorem evF_cases (M : Mi) (t c e : Int) : ((evF M t c e).1.2 ≠ 0 ∧ (evF M t c e).2 = M) ∨ ∃ x, evF M t c e = ((x, 0), recM M x) ∧ ∃ r, findR M.R x = some r ∧ x.v = r.1.v + 1 ∧ r.1.v ≠ 9223372036854775807 ∧ 1 ≤ x.s ∧ x.s ≤ 8 := by
  unfold evF
  cases hg : findR M.R ⟨t, c, 0, 0⟩ with
  | none => exact .inl ⟨by simp, rfl⟩
  | some r =>
    simp only
    split
    · next h => exact .inl ⟨h, rfl⟩
    · next h =>
      split
      · exact .inl ⟨by simp, rfl⟩
      · next h2 =>
        refine .inr ⟨_, rfl, r, ?_, rfl, h2, ?_⟩
        · have hs := List.find?_some hg
          refine Eq.trans ?_ hg
          unfold findR
          congr 1
          funext q
          simp only [sameS, decide_eq_true_eq] at hs ⊢
          rw [← hs.1, ← hs.2]
        · have h3 : (nextF r.1.s e).2 = 0 := by simpa using h
          clear h hg
          revert h3
          generalize r.1.s = s
          unfold nextF
          split
          · intro h; simp at h
          · next h1 =>
            split
            · intro h; simp at h
            · split
              · intro h; simp at h
              · next h4 =>
                intro _
                simp only
                revert h4
                unfold nx
                repeat' split
                all_goals simp
theorem doF_cases (M : Mi) (a : Act) : ((doF M a).1.2 ≠ 0 ∧ (doF M a).2 = M) ∨ ∃ x, (doF M a).1.2 = 0 ∧ (doF M a).2 = recM M x ∧ ((x = a.x ∧ 1 ≤ x.v) ∨ ∃ r ∈ M.R, x.v = r.1.v + 1 ∧ r.1.v ≠ 9223372036854775807) ∧ 1 ≤ x.s ∧ x.s ≤ 8 ∧ ∀ r, findR M.R x = some r → r.1.v < x.v := by
  unfold doF
  split
  · rcases putF_cases M a.x with ⟨h1, h2⟩ | ⟨h1, h2, h3⟩
    · exact .inl ⟨h1, h2⟩
    · exact .inr ⟨a.x, by rw [h1], by rw [h1], .inl ⟨rfl, by omega⟩, by omega, by omega, h3⟩
  · rcases evF_cases M a.x.t a.x.c a.n with ⟨h1, h2⟩ | ⟨x, h1, r, h2, h3, h4, h5, h6⟩
    · exact .inl ⟨h1, h2⟩
    · exact .inr ⟨x, by rw [h1], by rw [h1], .inr ⟨r, List.mem_of_find?_eq_some h2, h3, h4⟩, h5, h6, fun q hq => by rw [h2] at hq; cases hq; omega⟩
theorem doF_N (M : Mi) (a : Act) : (doF M a).2.N ≤ M.N + 1 := by
  rcases doF_cases M a with ⟨_, h⟩ | ⟨x, _, h, _⟩ <;> rw [h] <;> simp [recM]
theorem VOk.doF {M : Mi} (h : VOk M) {a : Act} (ha : i64r a.x.v) : VOk (doF M a).2 := by
  rcases doF_cases M a with ⟨_, e⟩ | ⟨x, _, e, hx, _⟩
  · rw [e]; exact h
  · rw [e]
    refine h.step ?_
    rcases hx with ⟨rfl, _⟩ | ⟨r, hr, h1, h2⟩
    · exact ha
    · have := h r hr
      unfold i64r at this ⊢
      omega
/-- What a mirror knows after calls. -/
def doS (M : Mi) (l : List Act) : Mi := l.foldl (fun M a => (doF M a).2) M
theorem doS_N : ∀ (l : List Act) (M : Mi), (doS M l).N ≤ M.N + l.length
  | [], M => Nat.le_refl _
  | a :: l, M => by
    have h1 := doS_N l (doF M a).2
    have h2 := doF_N M a
    simp only [doS, List.foldl_cons, List.length_cons] at h1 ⊢
    omega
theorem doS_V : ∀ (l : List Act) {M : Mi}, VOk M → (∀ a ∈ l, i64r a.x.v) → VOk (doS M l)
  | [], M, h, _ => h
  | a :: l, M, h, ha => doS_V l (h.doF (ha a (List.mem_cons_self ..))) fun b hb => ha b (List.mem_cons_of_mem _ hb)
theorem doS_W : ∀ (l : List Act) {M : Mi}, WF M → WF (doS M l)
  | [], M, h => h
  | a :: l, M, h => by
    refine doS_W l (M := (doF M a).2) ?_
    rcases doF_cases M a with ⟨_, e⟩ | ⟨x, _, e, _⟩
    · rw [e]; exact h
    · rw [e]; exact h.step x
theorem doS_app (M : Mi) (l m : List Act) : doS M (l ++ m) = doS (doS M l) m := List.foldl_append ..

section
variable (A B L : Store) (M : Mi) (Q : List (Nat × Int × Int)) (C : List (Nat × List St))
theorem Event_AL (h : MOk M Q C) (hN : M.N ≤ 1000000) (hv : VOk M) (t c e : Int) : CallA Try.prog 24 [.ptr (A.length + 3) 0 0 0, .int .i64 t, .int .i64 c, .int .i64 e] (mst A B M Q C ++ L) fun r S' => r = .tup [stV (evF M t c e).1.1, .int .i64 (evF M t c e).1.2] ∧ LeavesL A B (evF M t c e).2 L S' := by
  rw [mst_app]
  exact (Event_A A (B ++ L) M Q C h hN hv t c e).mono fun r S' k => ⟨k.1, k.2.toL⟩
theorem Changes_AL : CallA Try.prog 16 [.ptr (A.length + 3) 0 0 0] (mst A B M Q C ++ L) fun r S' => r = .int .i64 (M.N : Nat) ∧ S' = mst A B M Q C ++ L := by
  rw [mst_app]
  exact Changes_A A (B ++ L) M Q C
theorem Since_AL (h : MOk M Q C) (hN : M.N ≤ 1000000) (c : Int) : CallA Try.prog 19 [.ptr (A.length + 3) 0 0 0, .int .i64 c] (mst A B M Q C ++ L) fun r S' => r = stSl (sinceL M (cutN M c)) ∧ LeavesL A B M L S' := by
  rw [mst_app]
  exact (Since_A A (B ++ L) M Q C h hN c).mono fun r S' k => ⟨k.1, k.2.toL⟩

theorem do_A (h : MOk M Q C) (hN : M.N ≤ 1000000) (hv : VOk M) (a : Act) : CallA Try.prog 12 [.ptr (A.length + 3) 0 0 0, .agg (actR a)] (mst A B M Q C) fun r S' => r = .tup [stV (doF M a).1.1, .int .i64 (doF M a).1.2] ∧ Leaves A B (doF M a).2 S' := by
  refine CallA.withNeat Try.func12 c12 fun hn => ?_
  refine CallA.fin Try.func12 c12 (Nat.le_of_ble_eq_true rfl) fun σ hσ => ?_
  by_cases hk : a.k.tmod 2 = 0
  · have hd : doF M a = ((stZ, (putF M a.x).1), (putF M a.x).2) := by rw [doF, if_pos hk]
    simp (disch := first | omega | (simp only [List.length_cons, List.length_nil, List.length_map, List.length_drop]; omega)) only [a12, actR, dT hk, mst, evM, evSt, ↓evPre, ↓evPreW, evPost, evPostW, ← List.map_take, ← List.map_drop, ↓reduceIte, reduceCtorEq, Nat.reduceEqDiff, forall_const, implies_true, Nat.reduceAdd, Nat.reduceSub, Nat.reduceMul, Nat.reduceLT, Nat.reduceLeDiff, Int.reduceToNat, Int.reduceAdd, Int.reduceSub, Int.reduceNeg, Int.reduceMul, Int.reduceLT, Int.reduceLE, Int.reduceEq]
    refine (Put_AL A B _ M Q C h hN a.x).mono ?_
    rintro r S' ⟨rfl, Q', C', h', rfl⟩
    simp (disch := first | omega | (simp only [List.length_cons, List.length_nil, List.length_map, List.length_drop]; omega)) only [mst, evM, evSt, ↓evPre, ↓evPreW, evPost, evPostW, ← List.map_take, ← List.map_drop, ↓reduceIte, reduceCtorEq, Nat.reduceEqDiff, forall_const, implies_true, Nat.reduceAdd, Nat.reduceSub, Nat.reduceMul, Nat.reduceLT, Nat.reduceLeDiff, Int.reduceToNat, Int.reduceAdd, Int.reduceSub, Int.reduceNeg, Int.reduceMul, Int.reduceLT, Int.reduceLE, Int.reduceEq]
    exact mst_fin (mst_neat hn) (.imm rfl) ⟨by rw [hd]; rfl, by rw [hd]; exact ⟨Q', C', h', rfl⟩⟩
  · have hd : doF M a = evF M a.x.t a.x.c a.n := by rw [doF, if_neg hk]
    simp (disch := first | omega | (simp only [List.length_cons, List.length_nil, List.length_map, List.length_drop]; omega)) only [a12, actR, dF hk, mst, evM, evSt, ↓evPre, ↓evPreW, evPost, evPostW, ← List.map_take, ← List.map_drop, ↓reduceIte, reduceCtorEq, Nat.reduceEqDiff, forall_const, implies_true, Nat.reduceAdd, Nat.reduceSub, Nat.reduceMul, Nat.reduceLT, Nat.reduceLeDiff, Int.reduceToNat, Int.reduceAdd, Int.reduceSub, Int.reduceNeg, Int.reduceMul, Int.reduceLT, Int.reduceLE, Int.reduceEq]
    refine (Event_AL A B _ M Q C h hN hv _ _ _).mono ?_
    rintro r S' ⟨rfl, Q', C', h', rfl⟩
    simp (disch := first | omega | (simp only [List.length_cons, List.length_nil, List.length_map, List.length_drop]; omega)) only [mst, evM, stV, stR, evSt, ↓evPre, ↓evPreW, evPost, evPostW, ← List.map_take, ← List.map_drop, ↓reduceIte, reduceCtorEq, Nat.reduceEqDiff, forall_const, implies_true, Nat.reduceAdd, Nat.reduceSub, Nat.reduceMul, Nat.reduceLT, Nat.reduceLeDiff, Int.reduceToNat, Int.reduceAdd, Int.reduceSub, Int.reduceNeg, Int.reduceMul, Int.reduceLT, Int.reduceLE, Int.reduceEq]
    exact mst_fin (mst_neat hn) (.imm rfl) ⟨by rw [hd], by rw [hd]; exact ⟨Q', C', h', rfl⟩⟩
theorem do_AL (h : MOk M Q C) (hN : M.N ≤ 1000000) (hv : VOk M) (a : Act) : CallA Try.prog 12 [.ptr (A.length + 3) 0 0 0, .agg (actR a)] (mst A B M Q C ++ L) fun r S' => r = .tup [stV (doF M a).1.1, .int .i64 (doF M a).1.2] ∧ LeavesL A B (doF M a).2 L S' := by
  rw [mst_app]
  exact (do_A A (B ++ L) M Q C h hN hv a).mono fun r S' k => ⟨k.1, k.2.toL⟩
end

theorem sameL_A (a b : List St) (S : Store) (ha : a.length ≤ 1000000) : CallA Try.prog 18 [stSl a, stSl b] S fun r S' => r = .bool (decide (a = b)) ∧ S' = S := by
  refine CallA.keep Try.func18 c18 (Nat.le_of_ble_eq_true rfl) fun σ hσ => ?_
  by_cases h1 : a.length = b.length
  · have h1' : (a.length : Int) = b.length := by omega
    simp (disch := first | omega | (simp only [List.length_cons, List.length_nil, List.length_map, List.length_drop]; omega)) only [a18, stSl, List.length_map, dT h1', ↓evPre, ↓evPreW, evPost, evPostW, ← List.map_take, ← List.map_drop, ↓reduceIte, reduceCtorEq, Nat.reduceEqDiff, forall_const, implies_true, Nat.reduceAdd, Nat.reduceSub, Nat.reduceMul, Nat.reduceLT, Nat.reduceLeDiff, Int.reduceToNat, Int.reduceAdd, Int.reduceSub, Int.reduceNeg, Int.reduceMul, Int.reduceLT, Int.reduceLE, Int.reduceEq]
    refine loopA (ι := Nat) (fun k => [(0, stSl a), (1, stSl b), (5, .int .i64 k)]) (fun _ => S) (fun k => k ≤ a.length ∧ a.take k = b.take k) (fun k => a.length - k) 0 ⟨Nat.zero_le _, rfl⟩ ?_ rfl ?_
    · simp only [stSl, ↓evPre, ↓evPreW, evPost, evPostW, ← List.map_take, ← List.map_drop, ↓reduceIte, reduceCtorEq, Nat.reduceEqDiff, forall_const, implies_true, Nat.reduceAdd, Nat.reduceSub, Nat.reduceMul, Nat.reduceLT, Nat.reduceLeDiff, Int.reduceToNat, Int.reduceAdd, Int.reduceSub, Int.reduceNeg, Int.reduceMul, Int.reduceLT, Int.reduceLE, Int.reduceEq]
      try rfl
    rintro k ⟨hk, hv⟩
    cases hc : a[k]? with
    | some x =>
      have hlt' := (List.getElem?_eq_some_iff.1 hc).1
      have hlt : (k : Int) < a.length := by omega
      obtain ⟨y, hd⟩ : ∃ y, b[k]? = some y := ⟨b[k]'(by omega), List.getElem?_eq_getElem _⟩
      by_cases hxy : x = y
      · subst hxy
        simp (disch := first | omega | (simp only [List.length_cons, List.length_nil, List.length_map, List.length_drop]; omega)) only [stSl, stR, wrap_i64, List.length_map, List.getElem?_map, Option.map_some, hc, hd, dT hlt, eqd_st, ↓evPre, ↓evPreW, evPost, evPostW, ← List.map_take, ← List.map_drop, ↓reduceIte, reduceCtorEq, Nat.reduceEqDiff, forall_const, implies_true, Nat.reduceAdd, Nat.reduceSub, Nat.reduceMul, Nat.reduceLT, Nat.reduceLeDiff, Int.reduceToNat, Int.reduceAdd, Int.reduceSub, Int.reduceNeg, Int.reduceMul, Int.reduceLT, Int.reduceLE, Int.reduceEq]
        exact ⟨k + 1, ⟨by omega, by rw [List.take_add_one, List.take_add_one, hc, hd, hv]⟩, by omega, rfl⟩
      · have hab : a ≠ b := fun h => by rw [h, hd] at hc; cases hc; exact hxy rfl
        simp (disch := first | omega | (simp only [List.length_cons, List.length_nil, List.length_map, List.length_drop]; omega)) only [stSl, stR, wrap_i64, List.length_map, List.getElem?_map, Option.map_some, hc, hd, dT hlt, dF hxy, dF hab, eqd_st, ↓evPre, ↓evPreW, evPost, evPostW, ← List.map_take, ← List.map_drop, ↓reduceIte, reduceCtorEq, Nat.reduceEqDiff, forall_const, implies_true, Nat.reduceAdd, Nat.reduceSub, Nat.reduceMul, Nat.reduceLT, Nat.reduceLeDiff, Int.reduceToNat, Int.reduceAdd, Int.reduceSub, Int.reduceNeg, Int.reduceMul, Int.reduceLT, Int.reduceLE, Int.reduceEq]
    | none =>
      have hge : a.length ≤ k := List.getElem?_eq_none_iff.1 hc
      have hlt : ¬ ((k : Int) < a.length) := by omega
      rw [List.take_of_length_le hge, List.take_of_length_le (by omega)] at hv
      simp (disch := first | omega | (simp only [List.length_cons, List.length_nil, List.length_map, List.length_drop]; omega)) only [stSl, List.length_map, dF hlt, dT hv, ↓evPre, ↓evPreW, evPost, evPostW, ← List.map_take, ← List.map_drop, ↓reduceIte, reduceCtorEq, Nat.reduceEqDiff, forall_const, implies_true, Nat.reduceAdd, Nat.reduceSub, Nat.reduceMul, Nat.reduceLT, Nat.reduceLeDiff, Int.reduceToNat, Int.reduceAdd, Int.reduceSub, Int.reduceNeg, Int.reduceMul, Int.reduceLT, Int.reduceLE, Int.reduceEq]
  · have h1' : ¬ (a.length : Int) = b.length := by omega
    have hab : a ≠ b := fun h => h1 (by rw [h])
    simp (disch := first | omega | (simp only [List.length_cons, List.length_nil, List.length_map, List.length_drop]; omega)) only [a18, stSl, List.length_map, dF h1', dF hab, ↓evPre, ↓evPreW, evPost, evPostW, ← List.map_take, ← List.map_drop, ↓reduceIte, reduceCtorEq, Nat.reduceEqDiff, forall_const, implies_true, Nat.reduceAdd, Nat.reduceSub, Nat.reduceMul, Nat.reduceLT, Nat.reduceLeDiff, Int.reduceToNat, Int.reduceAdd, Int.reduceSub, Int.reduceNeg, Int.reduceMul, Int.reduceLT, Int.reduceLE, Int.reduceEq]

/-! ### The example -/
def mA : Mi := ⟨[(⟨7, 1, 2, 1⟩, 1)], 1⟩
def mB : Mi := ⟨[(⟨7, 1, 3, 2⟩, 2)], 2⟩
theorem all_one {x : St} {n N : Nat} {d : List St} (h : isAll ⟨[(x, n)], N⟩ d) : d = [x] := List.perm_singleton.1 h.2
set_option maxRecDepth 100000 in
theorem awake_A (S : Store) : CallA Try.prog 9 [] S fun r S' => r = .bool true ∧ S' = S := by
  refine CallA.withNeat Try.func9 c9 fun hn => ?_
  refine CallA.fin Try.func9 c9 (Nat.le_of_ble_eq_true rfl) fun σ hσ => ?_
  simp (disch := first | omega | (simp only [List.length_cons, List.length_nil, List.length_map, List.length_drop]; omega)) only [a9, evSt, ↓evPre, ↓evPreW, evPost, evPostW, ← List.map_take, ← List.map_drop, ↓reduceIte, reduceCtorEq, Nat.reduceEqDiff, forall_const, implies_true, Nat.reduceAdd, Nat.reduceSub, Nat.reduceMul, Nat.reduceLT, Nat.reduceLeDiff, Int.reduceToNat, Int.reduceAdd, Int.reduceSub, Int.reduceNeg, Int.reduceMul, Int.reduceLT, Int.reduceLE, Int.reduceEq]
  refine (New_A S).then2 ?_
  simp (disch := first | omega | (simp only [List.length_cons, List.length_nil, List.length_map, List.length_drop]; omega)) only [mst, evM, evSt, ↓evPre, ↓evPreW, evPost, evPostW, ← List.map_take, ← List.map_drop, ↓reduceIte, reduceCtorEq, Nat.reduceEqDiff, forall_const, implies_true, Nat.reduceAdd, Nat.reduceSub, Nat.reduceMul, Nat.reduceLT, Nat.reduceLeDiff, Int.reduceToNat, Int.reduceAdd, Int.reduceSub, Int.reduceNeg, Int.reduceMul, Int.reduceLT, Int.reduceLE, Int.reduceEq]
  refine (Put_A S [] Mi0 [] [] MOk0 (by decide) ⟨7, 1, 2, 1⟩).mono ?_
  rintro r S' ⟨rfl, Q1, C1, h1, rfl⟩
  have e1 : putF Mi0 ⟨7, 1, 2, 1⟩ = (0, mA) := by decide
  rw [e1] at h1 ⊢
  simp (disch := first | omega | (simp only [List.length_cons, List.length_nil, List.length_map, List.length_drop]; omega)) only [mst, evM, evSt, ↓evPre, ↓evPreW, evPost, evPostW, ← List.map_take, ← List.map_drop, ↓reduceIte, reduceCtorEq, Nat.reduceEqDiff, forall_const, implies_true, Nat.reduceAdd, Nat.reduceSub, Nat.reduceMul, Nat.reduceLT, Nat.reduceLeDiff, Int.reduceToNat, Int.reduceAdd, Int.reduceSub, Int.reduceNeg, Int.reduceMul, Int.reduceLT, Int.reduceLE, Int.reduceEq]
  refine (Put_A S [] _ Q1 C1 h1 (by decide) ⟨7, 1, 2, 2⟩).mono ?_
  rintro r S' ⟨rfl, Q2, C2, h2, rfl⟩
  have e2 : putF mA ⟨7, 1, 2, 2⟩ = (30, mA) := by decide
  simp only [e2] at h2 ⊢
  simp (disch := first | omega | (simp only [List.length_cons, List.length_nil, List.length_map, List.length_drop]; omega)) only [mst, evM, evSt, ↓evPre, ↓evPreW, evPost, evPostW, ← List.map_take, ← List.map_drop, ↓reduceIte, reduceCtorEq, Nat.reduceEqDiff, forall_const, implies_true, Nat.reduceAdd, Nat.reduceSub, Nat.reduceMul, Nat.reduceLT, Nat.reduceLeDiff, Int.reduceToNat, Int.reduceAdd, Int.reduceSub, Int.reduceNeg, Int.reduceMul, Int.reduceLT, Int.reduceLE, Int.reduceEq]
  refine (Event_A S [] _ Q2 C2 h2 (by decide) (fun r hr => by cases hr with | head => exact ⟨by decide, by decide⟩ | tail _ h => cases h) 7 1 1).mono ?_
  rintro r S' ⟨rfl, Q3, C3, h3, rfl⟩
  have e3 : evF mA 7 1 1 = ((⟨7, 1, 3, 2⟩, 0), mB) := by decide
  simp only [e3] at h3 ⊢
  simp (disch := first | omega | (simp only [List.length_cons, List.length_nil, List.length_map, List.length_drop]; omega)) only [mst, evM, stV, stR, evSt, ↓evPre, ↓evPreW, evPost, evPostW, ← List.map_take, ← List.map_drop, ↓reduceIte, reduceCtorEq, Nat.reduceEqDiff, forall_const, implies_true, Nat.reduceAdd, Nat.reduceSub, Nat.reduceMul, Nat.reduceLT, Nat.reduceLeDiff, Int.reduceToNat, Int.reduceAdd, Int.reduceSub, Int.reduceNeg, Int.reduceMul, Int.reduceLT, Int.reduceLE, Int.reduceEq]
  refine (Get_AL S [] _ _ Q3 C3 7 1).then ?_
  have e4 : getF mB 7 1 = (⟨7, 1, 3, 2⟩, true) := by decide
  simp only [e4]
  simp (disch := first | omega | (simp only [List.length_cons, List.length_nil, List.length_map, List.length_drop]; omega)) only [mst, evM, stV, stR, evSt, ↓evPre, ↓evPreW, evPost, evPostW, ← List.map_take, ← List.map_drop, ↓reduceIte, reduceCtorEq, Nat.reduceEqDiff, forall_const, implies_true, Nat.reduceAdd, Nat.reduceSub, Nat.reduceMul, Nat.reduceLT, Nat.reduceLeDiff, Int.reduceToNat, Int.reduceAdd, Int.reduceSub, Int.reduceNeg, Int.reduceMul, Int.reduceLT, Int.reduceLE, Int.reduceEq]
  refine (Event_AL S [] _ _ Q3 C3 h3 (by decide) (fun r hr => by cases hr with | head => exact ⟨by decide, by decide⟩ | tail _ h => cases h) 7 2 1).mono ?_
  rintro r S' ⟨rfl, Q4, C4, h4, rfl⟩
  have e5 : evF mB 7 2 1 = ((⟨0, 0, 0, 0⟩, 7), mB) := by decide
  simp only [e5] at h4 ⊢
  simp (disch := first | omega | (simp only [List.length_cons, List.length_nil, List.length_map, List.length_drop]; omega)) only [mst, evM, stV, stR, evSt, ↓evPre, ↓evPreW, evPost, evPostW, ← List.map_take, ← List.map_drop, ↓reduceIte, reduceCtorEq, Nat.reduceEqDiff, forall_const, implies_true, Nat.reduceAdd, Nat.reduceSub, Nat.reduceMul, Nat.reduceLT, Nat.reduceLeDiff, Int.reduceToNat, Int.reduceAdd, Int.reduceSub, Int.reduceNeg, Int.reduceMul, Int.reduceLT, Int.reduceLE, Int.reduceEq]
  refine (Changes_AL S [] _ _ Q4 C4).then ?_
  have eN : ((mB.N : Nat) : Int) = 2 := by decide
  simp (disch := first | omega | (simp only [List.length_cons, List.length_nil, List.length_map, List.length_drop]; omega)) only [mst, evM, dT eN, stV, stR, evSt, ↓evPre, ↓evPreW, evPost, evPostW, ← List.map_take, ← List.map_drop, ↓reduceIte, reduceCtorEq, Nat.reduceEqDiff, forall_const, implies_true, Nat.reduceAdd, Nat.reduceSub, Nat.reduceMul, Nat.reduceLT, Nat.reduceLeDiff, Int.reduceToNat, Int.reduceAdd, Int.reduceSub, Int.reduceNeg, Int.reduceMul, Int.reduceLT, Int.reduceLE, Int.reduceEq]
  refine (Since_AL S [] _ _ Q4 C4 h4 (by decide) 1).mono ?_
  rintro r S' ⟨rfl, Q5, C5, h5, rfl⟩
  have e6 : sinceL mB (cutN mB 1) = [⟨7, 1, 3, 2⟩] := by decide
  simp only [e6]
  simp (disch := first | omega | (simp only [List.length_cons, List.length_nil, List.length_map, List.length_drop]; omega)) only [mst, evM, stSl, stV, stR, evSt, ↓evPre, ↓evPreW, evPost, evPostW, ← List.map_take, ← List.map_drop, ↓reduceIte, reduceCtorEq, Nat.reduceEqDiff, forall_const, implies_true, Nat.reduceAdd, Nat.reduceSub, Nat.reduceMul, Nat.reduceLT, Nat.reduceLeDiff, Int.reduceToNat, Int.reduceAdd, Int.reduceSub, Int.reduceNeg, Int.reduceMul, Int.reduceLT, Int.reduceLE, Int.reduceEq]
  refine (Since_AL S [] _ _ Q5 C5 h5 (by decide) 2).mono ?_
  rintro r S' ⟨rfl, Q6, C6, h6, rfl⟩
  have e7 : sinceL mB (cutN mB 2) = [] := by decide
  simp only [e7]
  simp (disch := first | omega | (simp only [List.length_cons, List.length_nil, List.length_map, List.length_drop]; omega)) only [mst, evM, stSl, stV, stR, evSt, ↓evPre, ↓evPreW, evPost, evPostW, ← List.map_take, ← List.map_drop, ↓reduceIte, reduceCtorEq, Nat.reduceEqDiff, forall_const, implies_true, Nat.reduceAdd, Nat.reduceSub, Nat.reduceMul, Nat.reduceLT, Nat.reduceLeDiff, Int.reduceToNat, Int.reduceAdd, Int.reduceSub, Int.reduceNeg, Int.reduceMul, Int.reduceLT, Int.reduceLE, Int.reduceEq]
  refine (All_AL S [] _ _ Q6 C6 h6 (by decide)).mono ?_
  rintro r S' ⟨⟨d, hd, rfl⟩, rfl⟩
  have hd' := all_one hd
  subst hd'
  simp (disch := first | omega | (simp only [List.length_cons, List.length_nil, List.length_map, List.length_drop]; omega)) only [mst, evM, stSl, stV, stR, evSt, ↓evPre, ↓evPreW, evPost, evPostW, ← List.map_take, ← List.map_drop, ↓reduceIte, reduceCtorEq, Nat.reduceEqDiff, forall_const, implies_true, Nat.reduceAdd, Nat.reduceSub, Nat.reduceMul, Nat.reduceLT, Nat.reduceLeDiff, Int.reduceToNat, Int.reduceAdd, Int.reduceSub, Int.reduceNeg, Int.reduceMul, Int.reduceLT, Int.reduceLE, Int.reduceEq]
  exact ⟨_, S, mst_fgt hn, .imm rfl, Nat.le_refl _, rfl, rfl⟩
end Go.Proofs.Ytdkcicbpcagonaa
