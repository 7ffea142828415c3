/- Holds: the program's methods Put, Drop, Extend, Held. -/
import Derived.Test.YthdcajfjglgiiaaHold6
namespace Go.Proofs.Ythdcajfjglgiiaa
open Go Go.AL
set_option linter.unusedSectionVars false
variable [Go.AL.Mode] [Go.AL.LooseM]
set_option linter.unusedSimpArgs false
set_option linter.unusedVariables false

/-- What a call leaves. -/
def LvH (A B : Store) (L : List Hd) (S' : Store) : Prop := ∃ P, P.Perm L ∧ S' = hst A B P

theorem frzZ {S S1 : Store} : Frz S S1 (.agg [.int .i64 0, .nilSl, .str [], .int .i64 0, .int .i64 0]) (.agg (hdR zHd)) := by
  refine .agg rfl fun j v hj x hx => ?_
  match j, hj, hx with
  | 0, hj, hx => simp [hdR, zHd] at hj hx; subst hj hx; exact .imm rfl
  | 1, hj, hx => simp [hdR, zHd] at hj hx; subst hj hx; exact .nil
  | 2, hj, hx => simp [hdR, zHd] at hj hx; subst hj hx; exact .imm rfl
  | 3, hj, hx => simp [hdR, zHd] at hj hx; subst hj hx; exact .imm rfl
  | 4, hj, hx => simp [hdR, zHd] at hj hx; subst hj hx; exact .imm rfl
  | j + 5, hj, hx => simp [hdR, zHd] at hj

theorem hN_lt {A B : Store} : A.length + 1 < hN A B := by unfold hN; omega
theorem held_snoc {L : List Hd} {k : Nat} {x : Hd} (leg : Lg) (cls : List UInt8) (hc : L[k]? = some x) : heldF (L.take (k + 1)) leg cls = if hasF x leg cls = true then heldF (L.take k) leg cls + x.cnt else heldF (L.take k) leg cls := by
  unfold heldF
  rw [take_at hc, List.filter_append, List.filter_cons]
  cases hasF x leg cls
  · simp
  · simp [List.sum_append]
theorem heldB {L : List Hd} (h : OkL L) (leg : Lg) (cls : List UInt8) : ∀ k, 0 ≤ heldF (L.take k) leg cls ∧ heldF (L.take k) leg cls ≤ 99 * k
  | 0 => by simp [heldF]
  | k + 1 => by
    obtain ⟨b0, b1⟩ := heldB h leg cls k
    cases hc : L[k]? with
    | none =>
      have hge : L.length ≤ k := List.getElem?_eq_none_iff.1 hc
      rw [List.take_of_length_le (by omega)]
      rw [List.take_of_length_le hge] at b0 b1
      omega
    | some x =>
      rw [held_snoc leg cls hc]
      have hb := h.good x (List.mem_of_getElem? hc)
      unfold badH at hb
      split <;> omega

section
variable (A B : Store) (P L : List Hd) (hP : P.Perm L) (h : OkL L) (hl : L.length ≤ 1000000)
include hP h hl

theorem Put_A (x : Hd) (hx : x.legs.length ≤ 1000000) : CallA Try.prog 9 [.ptr (A.length + 1) 0 0 0, .agg (hdR x)] (hst A B P) fun r S' => r = .int .i64 (putF L x).1 ∧ LvH A B (putF L x).2 S' := by
  refine CallA.withNeat Try.func9 c309 fun hn => ?_
  refine CallA.fin Try.func9 c309 (Nat.le_of_ble_eq_true rfl) fun σ hσ => ?_
  have hPu : Uq P := h.uq.perm hP.symm
  have same : ∀ (T : Store) (n : Nat), putF L x = ((n : Int), L) → ∃ r1 S1, Fgt (hst A B P ++ T) S1 ∧ Frz (hst A B P ++ T) S1 (.int .i64 (n : Int)) r1 ∧ hN A B ≤ S1.length ∧ r1 = .int .i64 (putF L x).1 ∧ LvH A B (putF L x).2 S1 := fun T n hp =>
    hst_fin hn (.imm rfl) ⟨by rw [hp], by rw [hp]; exact ⟨P, hP, rfl⟩⟩
  have bad : ∀ (T : Store), badH x → ∃ r1 S1, Fgt (hst A B P ++ T) S1 ∧ Frz (hst A B P ++ T) S1 (.int .i64 2) r1 ∧ hN A B ≤ S1.length ∧ r1 = .int .i64 (putF L x).1 ∧ LvH A B (putF L x).2 S1 := fun T hb =>
    same T 2 (by rw [putF, if_pos hb]; rfl)
  have hf := find_ent x.id P
  have hfp := find_perm hP hPu x.id
  have hput := put_new (x := x) (P := P)
  obtain ⟨id, legs, cls, cnt, til⟩ := x
  simp only [hdR] at hx hf hfp hput
  unfold hst
  simp (disch := first | omega | (simp only [List.length_cons, List.length_nil, List.length_map, List.length_drop]; omega)) only [a309, hdR, evH, evSt, ↓evPre, ↓evPreW, evPost, evPostW, ← List.map_take, ← List.map_drop, ↓reduceIte, reduceCtorEq, Nat.reduceEqDiff, forall_const, implies_true, Nat.reduceAdd, Nat.reduceSub, Nat.reduceMul, Nat.reduceLT, Nat.reduceLeDiff, Int.reduceToNat, Int.reduceAdd, Int.reduceSub, Int.reduceNeg, Int.reduceMul, Int.reduceLT, Int.reduceLE, Int.reduceEq]
  refine (made_AL A B _ P).then ?_
  unfold hst
  by_cases h1 : id < 1
  · simp (disch := first | omega | (simp only [List.length_cons, List.length_nil, List.length_map, List.length_drop]; omega)) only [dT h1, evH, evSt, ↓evPre, ↓evPreW, evPost, evPostW, ← List.map_take, ← List.map_drop, ↓reduceIte, reduceCtorEq, Nat.reduceEqDiff, forall_const, implies_true, Nat.reduceAdd, Nat.reduceSub, Nat.reduceMul, Nat.reduceLT, Nat.reduceLeDiff, Int.reduceToNat, Int.reduceAdd, Int.reduceSub, Int.reduceNeg, Int.reduceMul, Int.reduceLT, Int.reduceLE, Int.reduceEq]
    exact bad _ (.inl h1)
  by_cases h2 : legs = []
  · have h2' : ((legs.length : Nat) : Int) = 0 := by rw [h2]; rfl
    simp (disch := first | omega | (simp only [List.length_cons, List.length_nil, List.length_map, List.length_drop]; omega)) only [dF h1, dT h2', List.length_map, evH, evSt, ↓evPre, ↓evPreW, evPost, evPostW, ← List.map_take, ← List.map_drop, ↓reduceIte, reduceCtorEq, Nat.reduceEqDiff, forall_const, implies_true, Nat.reduceAdd, Nat.reduceSub, Nat.reduceMul, Nat.reduceLT, Nat.reduceLeDiff, Int.reduceToNat, Int.reduceAdd, Int.reduceSub, Int.reduceNeg, Int.reduceMul, Int.reduceLT, Int.reduceLE, Int.reduceEq]
    exact bad _ (.inr (.inl h2))
  have h2' : ¬ ((legs.length : Nat) : Int) = 0 := fun e => h2 (List.eq_nil_of_length_eq_zero (by omega))
  simp (disch := first | omega | (simp only [List.length_cons, List.length_nil, List.length_map, List.length_drop]; omega)) only [dF h1, dF h2', List.length_map, evH, evSt, ↓evPre, ↓evPreW, evPost, evPostW, ← List.map_take, ← List.map_drop, ↓reduceIte, reduceCtorEq, Nat.reduceEqDiff, forall_const, implies_true, Nat.reduceAdd, Nat.reduceSub, Nat.reduceMul, Nat.reduceLT, Nat.reduceLeDiff, Int.reduceToNat, Int.reduceAdd, Int.reduceSub, Int.reduceNeg, Int.reduceMul, Int.reduceLT, Int.reduceLE, Int.reduceEq]
  refine (distinct_A legs hx _).then ?_
  by_cases h3 : ¬ legs.Nodup
  · simp (disch := first | omega | (simp only [List.length_cons, List.length_nil, List.length_map, List.length_drop]; omega)) only [dF h3, evH, evSt, ↓evPre, ↓evPreW, evPost, evPostW, ← List.map_take, ← List.map_drop, ↓reduceIte, reduceCtorEq, Nat.reduceEqDiff, forall_const, implies_true, Nat.reduceAdd, Nat.reduceSub, Nat.reduceMul, Nat.reduceLT, Nat.reduceLeDiff, Int.reduceToNat, Int.reduceAdd, Int.reduceSub, Int.reduceNeg, Int.reduceMul, Int.reduceLT, Int.reduceLE, Int.reduceEq]
    exact bad _ (.inr (.inr (.inl h3)))
  have h3 := Decidable.not_not.1 h3
  by_cases h4 : cnt < 1
  · simp (disch := first | omega | (simp only [List.length_cons, List.length_nil, List.length_map, List.length_drop]; omega)) only [dT h3, dT h4, evH, evSt, ↓evPre, ↓evPreW, evPost, evPostW, ← List.map_take, ← List.map_drop, ↓reduceIte, reduceCtorEq, Nat.reduceEqDiff, forall_const, implies_true, Nat.reduceAdd, Nat.reduceSub, Nat.reduceMul, Nat.reduceLT, Nat.reduceLeDiff, Int.reduceToNat, Int.reduceAdd, Int.reduceSub, Int.reduceNeg, Int.reduceMul, Int.reduceLT, Int.reduceLE, Int.reduceEq]
    exact bad _ (.inr (.inr (.inr (.inl h4))))
  by_cases h5 : 99 < cnt
  · simp (disch := first | omega | (simp only [List.length_cons, List.length_nil, List.length_map, List.length_drop]; omega)) only [dT h3, dF h4, dT h5, evH, evSt, ↓evPre, ↓evPreW, evPost, evPostW, ← List.map_take, ← List.map_drop, ↓reduceIte, reduceCtorEq, Nat.reduceEqDiff, forall_const, implies_true, Nat.reduceAdd, Nat.reduceSub, Nat.reduceMul, Nat.reduceLT, Nat.reduceLeDiff, Int.reduceToNat, Int.reduceAdd, Int.reduceSub, Int.reduceNeg, Int.reduceMul, Int.reduceLT, Int.reduceLE, Int.reduceEq]
    exact bad _ (.inr (.inr (.inr (.inr (.inl h5)))))
  simp (disch := first | omega | (simp only [List.length_cons, List.length_nil, List.length_map, List.length_drop]; omega)) only [dT h3, dF h4, dF h5, evH, evSt, ↓evPre, ↓evPreW, evPost, evPostW, ← List.map_take, ← List.map_drop, ↓reduceIte, reduceCtorEq, Nat.reduceEqDiff, forall_const, implies_true, Nat.reduceAdd, Nat.reduceSub, Nat.reduceMul, Nat.reduceLT, Nat.reduceLeDiff, Int.reduceToNat, Int.reduceAdd, Int.reduceSub, Int.reduceNeg, Int.reduceMul, Int.reduceLT, Int.reduceLE, Int.reduceEq]
  refine (minute_A til _).then ?_
  cases h6 : minF til with
  | false =>
    simp (disch := first | omega | (simp only [List.length_cons, List.length_nil, List.length_map, List.length_drop]; omega)) only [h6, evH, evSt, ↓evPre, ↓evPreW, evPost, evPostW, ← List.map_take, ← List.map_drop, ↓reduceIte, reduceCtorEq, Nat.reduceEqDiff, forall_const, implies_true, Nat.reduceAdd, Nat.reduceSub, Nat.reduceMul, Nat.reduceLT, Nat.reduceLeDiff, Int.reduceToNat, Int.reduceAdd, Int.reduceSub, Int.reduceNeg, Int.reduceMul, Int.reduceLT, Int.reduceLE, Int.reduceEq]
    exact bad _ (.inr (.inr (.inr (.inr (.inr h6)))))
  | true =>
    have hbad : ¬ badH ⟨id, legs, cls, cnt, til⟩ := by
      unfold badH
      simp [h1, h2, h3, h4, h5, h6]
    cases hg : findH P id with
    | some y =>
      have hp : putF L ⟨id, legs, cls, cnt, til⟩ = (6, L) := by rw [putF, if_neg hbad]; simp only [← hfp, hg]
      rw [hg] at hf
      simp (disch := first | omega | (simp only [List.length_cons, List.length_nil, List.length_map, List.length_drop]; omega)) only [h6, hf, hdR, Option.map_some, Option.getD_some, Option.isSome_some, evH, evSt, ↓evPre, ↓evPreW, evPost, evPostW, ← List.map_take, ← List.map_drop, ↓reduceIte, reduceCtorEq, Nat.reduceEqDiff, forall_const, implies_true, Nat.reduceAdd, Nat.reduceSub, Nat.reduceMul, Nat.reduceLT, Nat.reduceLeDiff, Int.reduceToNat, Int.reduceAdd, Int.reduceSub, Int.reduceNeg, Int.reduceMul, Int.reduceLT, Int.reduceLE, Int.reduceEq]
      exact same _ 6 hp
    | none =>
      have hp : putF L ⟨id, legs, cls, cnt, til⟩ = (0, insH ⟨id, legs, cls, cnt, til⟩ L) := by rw [putF, if_neg hbad]; simp only [← hfp, hg]
      have hput' := hput hg
      rw [hg] at hf
      simp (disch := first | omega | (simp only [List.length_cons, List.length_nil, List.length_map, List.length_drop]; omega)) only [h6, hf, Option.map_none, Option.getD_none, Option.isSome_none, evH, evSt, ↓evPre, ↓evPreW, evPost, evPostW, ← List.map_take, ← List.map_drop, ↓reduceIte, reduceCtorEq, Nat.reduceEqDiff, forall_const, implies_true, Nat.reduceAdd, Nat.reduceSub, Nat.reduceMul, Nat.reduceLT, Nat.reduceLeDiff, Int.reduceToNat, Int.reduceAdd, Int.reduceSub, Int.reduceNeg, Int.reduceMul, Int.reduceLT, Int.reduceLE, Int.reduceEq]
      refine (clone_A legs hx h2 _).then ?_
      simp (disch := first | omega | (simp only [List.length_cons, List.length_nil, List.length_map, List.length_drop]; omega)) only [hput', evH, evSt, ↓evPre, ↓evPreW, evPost, evPostW, ← List.map_take, ← List.map_drop, ↓reduceIte, reduceCtorEq, Nat.reduceEqDiff, forall_const, implies_true, Nat.reduceAdd, Nat.reduceSub, Nat.reduceMul, Nat.reduceLT, Nat.reduceLeDiff, Int.reduceToNat, Int.reduceAdd, Int.reduceSub, Int.reduceNeg, Int.reduceMul, Int.reduceLT, Int.reduceLE, Int.reduceEq]
      have e := hst_neat (P' := P ++ [⟨id, legs, cls, cnt, til⟩]) hn
      refine hst_fin e (.imm rfl) ⟨by rw [hp], by rw [hp]; exact ⟨_, (List.perm_append_comm (l₁ := P)).trans ((hP.cons _).trans (insH_perm _ _).symm), rfl⟩⟩

theorem Drop_A (id : Int) : CallA Try.prog 12 [.ptr (A.length + 1) 0 0 0, .int .i64 id] (hst A B P) fun r S' => r = .tup [.agg (hdR (dropF L id).1.1), .int .i64 (dropF L id).1.2] ∧ LvH A B (dropF L id).2 S' := by
  refine CallA.withNeat Try.func12 c312 fun hn => ?_
  refine CallA.fin Try.func12 c312 (Nat.le_of_ble_eq_true rfl) fun σ hσ => ?_
  have hPu : Uq P := h.uq.perm hP.symm
  have hf := find_ent id P
  have hfp := find_perm hP hPu id
  have hd := del_ent id hPu
  unfold hst
  simp (disch := first | omega | (simp only [List.length_cons, List.length_nil, List.length_map, List.length_drop]; omega)) only [a312, evH, evSt, ↓evPre, ↓evPreW, evPost, evPostW, ← List.map_take, ← List.map_drop, ↓reduceIte, reduceCtorEq, Nat.reduceEqDiff, forall_const, implies_true, Nat.reduceAdd, Nat.reduceSub, Nat.reduceMul, Nat.reduceLT, Nat.reduceLeDiff, Int.reduceToNat, Int.reduceAdd, Int.reduceSub, Int.reduceNeg, Int.reduceMul, Int.reduceLT, Int.reduceLE, Int.reduceEq]
  refine (made_AL A B _ P).then ?_
  unfold hst
  cases hg : findH P id with
  | none =>
    have hp : dropF L id = ((zHd, 7), L) := by rw [dropF, ← hfp, hg]
    rw [hg] at hf
    simp (disch := first | omega | (simp only [List.length_cons, List.length_nil, List.length_map, List.length_drop]; omega)) only [hf, Option.map_none, Option.getD_none, Option.isSome_none, evH, evSt, ↓evPre, ↓evPreW, evPost, evPostW, ← List.map_take, ← List.map_drop, ↓reduceIte, reduceCtorEq, Nat.reduceEqDiff, forall_const, implies_true, Nat.reduceAdd, Nat.reduceSub, Nat.reduceMul, Nat.reduceLT, Nat.reduceLeDiff, Int.reduceToNat, Int.reduceAdd, Int.reduceSub, Int.reduceNeg, Int.reduceMul, Int.reduceLT, Int.reduceLE, Int.reduceEq]
    refine hst_fin hn (.tup2 frzZ (.imm rfl)) ⟨by rw [hp], by rw [hp]; exact ⟨P, hP, rfl⟩⟩
  | some y =>
    have hp : dropF L id = ((y, 0), delH L id) := by rw [dropF, ← hfp, hg]
    rw [hg] at hf
    simp (disch := first | omega | (simp only [List.length_cons, List.length_nil, List.length_map, List.length_drop]; omega)) only [hf, hd, hdR, Option.map_some, Option.getD_some, Option.isSome_some, evH, evSt, ↓evPre, ↓evPreW, evPost, evPostW, ← List.map_take, ← List.map_drop, ↓reduceIte, reduceCtorEq, Nat.reduceEqDiff, forall_const, implies_true, Nat.reduceAdd, Nat.reduceSub, Nat.reduceMul, Nat.reduceLT, Nat.reduceLeDiff, Int.reduceToNat, Int.reduceAdd, Int.reduceSub, Int.reduceNeg, Int.reduceMul, Int.reduceLT, Int.reduceLE, Int.reduceEq]
    have e := hst_neat (P' := delH P id) hn
    exact hst_fin e (.imm rfl) ⟨by rw [hp], by rw [hp]; exact ⟨_, hP.filter _, rfl⟩⟩

theorem Extend_A (id t : Int) : CallA Try.prog 13 [.ptr (A.length + 1) 0 0 0, .int .i64 id, .int .i64 t] (hst A B P) fun r S' => r = .int .i64 (extF L id t).1 ∧ LvH A B (extF L id t).2 S' := by
  refine CallA.withNeat Try.func13 c313 fun hn => ?_
  refine CallA.fin Try.func13 c313 (Nat.le_of_ble_eq_true rfl) fun σ hσ => ?_
  have hPu : Uq P := h.uq.perm hP.symm
  have hf := find_ent id P
  have hfp := find_perm hP hPu id
  have same : ∀ (T : Store) (n : Nat), extF L id t = ((n : Int), L) → ∃ r1 S1, Fgt (hst A B P ++ T) S1 ∧ Frz (hst A B P ++ T) S1 (.int .i64 (n : Int)) r1 ∧ hN A B ≤ S1.length ∧ r1 = .int .i64 (extF L id t).1 ∧ LvH A B (extF L id t).2 S1 := fun T n hp =>
    hst_fin hn (.imm rfl) ⟨by rw [hp], by rw [hp]; exact ⟨P, hP, rfl⟩⟩
  simp (disch := first | omega | (simp only [List.length_cons, List.length_nil, List.length_map, List.length_drop]; omega)) only [a313, evH, evSt, ↓evPre, ↓evPreW, evPost, evPostW, ← List.map_take, ← List.map_drop, ↓reduceIte, reduceCtorEq, Nat.reduceEqDiff, forall_const, implies_true, Nat.reduceAdd, Nat.reduceSub, Nat.reduceMul, Nat.reduceLT, Nat.reduceLeDiff, Int.reduceToNat, Int.reduceAdd, Int.reduceSub, Int.reduceNeg, Int.reduceMul, Int.reduceLT, Int.reduceLE, Int.reduceEq]
  refine (made_A A B P).then ?_
  unfold hst
  cases hg : findH P id with
  | none =>
    have hp : extF L id t = (7, L) := by rw [extF, ← hfp, hg]
    rw [hg] at hf
    simp (disch := first | omega | (simp only [List.length_cons, List.length_nil, List.length_map, List.length_drop]; omega)) only [hf, Option.map_none, Option.getD_none, Option.isSome_none, evH, evSt, ↓evPre, ↓evPreW, evPost, evPostW, ← List.map_take, ← List.map_drop, ↓reduceIte, reduceCtorEq, Nat.reduceEqDiff, forall_const, implies_true, Nat.reduceAdd, Nat.reduceSub, Nat.reduceMul, Nat.reduceLT, Nat.reduceLeDiff, Int.reduceToNat, Int.reduceAdd, Int.reduceSub, Int.reduceNeg, Int.reduceMul, Int.reduceLT, Int.reduceLE, Int.reduceEq]
    exact same _ 7 hp
  | some y =>
    rw [hg] at hf
    simp (disch := first | omega | (simp only [List.length_cons, List.length_nil, List.length_map, List.length_drop]; omega)) only [hf, hdR, Option.map_some, Option.getD_some, Option.isSome_some, evH, evSt, ↓evPre, ↓evPreW, evPost, evPostW, ← List.map_take, ← List.map_drop, ↓reduceIte, reduceCtorEq, Nat.reduceEqDiff, forall_const, implies_true, Nat.reduceAdd, Nat.reduceSub, Nat.reduceMul, Nat.reduceLT, Nat.reduceLeDiff, Int.reduceToNat, Int.reduceAdd, Int.reduceSub, Int.reduceNeg, Int.reduceMul, Int.reduceLT, Int.reduceLE, Int.reduceEq]
    refine (minute_A t _).then ?_
    cases h6 : minF t with
    | false =>
      have hp : extF L id t = (2, L) := by rw [extF, ← hfp, hg]; simp [h6]
      simp (disch := first | omega | (simp only [List.length_cons, List.length_nil, List.length_map, List.length_drop]; omega)) only [h6, evH, evSt, ↓evPre, ↓evPreW, evPost, evPostW, ← List.map_take, ← List.map_drop, ↓reduceIte, reduceCtorEq, Nat.reduceEqDiff, forall_const, implies_true, Nat.reduceAdd, Nat.reduceSub, Nat.reduceMul, Nat.reduceLT, Nat.reduceLeDiff, Int.reduceToNat, Int.reduceAdd, Int.reduceSub, Int.reduceNeg, Int.reduceMul, Int.reduceLT, Int.reduceLE, Int.reduceEq]
      exact same _ 2 hp
    | true =>
      have hp : extF L id t = (0, insH (setT y t) (delH L id)) := by rw [extF, ← hfp, hg]; simp [h6]
      obtain ⟨y1, y2⟩ := find_some hg
      have hput := put_old (x := setT y t) (P := P) (by show findH P y.id ≠ none; rw [y2, hg]; simp)
      have hpm := upd_perm (x := setT y t) hPu (by show findH P y.id ≠ none; rw [y2, hg]; simp)
      have hid : (setT y t).id = id := y2
      rw [hid] at hput hpm
      simp only [setT, hdR] at hput
      simp (disch := first | omega | (simp only [List.length_cons, List.length_nil, List.length_map, List.length_drop]; omega)) only [h6, hput, evH, evSt, ↓evPre, ↓evPreW, evPost, evPostW, ← List.map_take, ← List.map_drop, ↓reduceIte, reduceCtorEq, Nat.reduceEqDiff, forall_const, implies_true, Nat.reduceAdd, Nat.reduceSub, Nat.reduceMul, Nat.reduceLT, Nat.reduceLeDiff, Int.reduceToNat, Int.reduceAdd, Int.reduceSub, Int.reduceNeg, Int.reduceMul, Int.reduceLT, Int.reduceLE, Int.reduceEq]
      have e := hst_neat (P' := updP (setT y t) P) hn
      exact hst_fin e (.imm rfl) ⟨by rw [hp], by rw [hp]; exact ⟨_, hpm.trans (((hP.filter _).cons _).trans (insH_perm _ _).symm), rfl⟩⟩

theorem AllL_A : CallA Try.prog 10 [.ptr (A.length + 1) 0 0 0] (hst A B P) fun r S' => r = .sl 5 (L.map hdR) ∧ S' = hst A B P := by
  refine (All_A A B P (h.uq.perm hP.symm) (by have := hP.length_eq; omega)).mono ?_
  rintro r S' ⟨⟨Q, q1, q2, rfl⟩, rfl⟩
  rw [q2.uniq h.asc (q1.trans hP)]
  exact ⟨rfl, rfl⟩

theorem Held_A (hl2 : L.length ≤ 1000) (leg : Lg) (cls : List UInt8) : CallA Try.prog 14 [.ptr (A.length + 1) 0 0 0, .agg (lgR leg), .str cls] (hst A B P) fun r S' => r = .int .i64 (heldF L leg cls) ∧ S' = hst A B P := by
  refine CallA.withNeat Try.func14 c314 fun hn => ?_
  refine CallA.fin Try.func14 c314 (Nat.le_of_ble_eq_true rfl) fun σ hσ => ?_
  have hcnt : ∀ k, 0 ≤ heldF (L.take k) leg cls ∧ heldF (L.take k) leg cls ≤ 99 * k := heldB h leg cls
  simp (disch := first | omega | (simp only [List.length_cons, List.length_nil, List.length_map, List.length_drop]; omega)) only [a314, lgR, evSt, ↓evPre, ↓evPreW, evPost, evPostW, ← List.map_take, ← List.map_drop, ↓reduceIte, reduceCtorEq, Nat.reduceEqDiff, forall_const, implies_true, Nat.reduceAdd, Nat.reduceSub, Nat.reduceMul, Nat.reduceLT, Nat.reduceLeDiff, Int.reduceToNat, Int.reduceAdd, Int.reduceSub, Int.reduceNeg, Int.reduceMul, Int.reduceLT, Int.reduceLE, Int.reduceEq]
  refine (AllL_A A B P L hP h hl).then ?_
  simp (disch := first | omega | (simp only [List.length_cons, List.length_nil, List.length_map, List.length_drop]; omega)) only [List.length_map, evSt, ↓evPre, ↓evPreW, evPost, evPostW, ← List.map_take, ← List.map_drop, ↓reduceIte, reduceCtorEq, Nat.reduceEqDiff, forall_const, implies_true, Nat.reduceAdd, Nat.reduceSub, Nat.reduceMul, Nat.reduceLT, Nat.reduceLeDiff, Int.reduceToNat, Int.reduceAdd, Int.reduceSub, Int.reduceNeg, Int.reduceMul, Int.reduceLT, Int.reduceLE, Int.reduceEq]
  refine loopF (ι := Nat) (fun k => [(0, .ptr (A.length + 1) 0 0 0), (2, .str cls), (4, .cptr (lgR leg)), (7, .int .i64 (heldF (L.take k) leg cls)), (11, .sl 5 (L.map hdR)), (12, .int .i64 L.length), (13, .int .i64 (k : Nat))]) (fun _ => hst A B P) (fun k => k ≤ L.length) (fun k => L.length - k) (fun k _ => by rw [hσ]; exact Nat.le_refl _) 0 (Nat.zero_le _) (.inl ⟨?_, rfl⟩) ?_
  · simp only [lgR, List.take_zero, heldF, List.filter_nil, List.map_nil, List.sum_nil, ↓evPre, ↓evPreW, evPost, evPostW, ← List.map_take, ← List.map_drop, ↓reduceIte, reduceCtorEq, Nat.reduceEqDiff, forall_const, implies_true, Nat.reduceAdd, Nat.reduceSub, Nat.reduceMul, Nat.reduceLT, Nat.reduceLeDiff, Int.reduceToNat, Int.reduceAdd, Int.reduceSub, Int.reduceNeg, Int.reduceMul, Int.reduceLT, Int.reduceLE, Int.reduceEq]
  rintro k hk
  unfold hst
  cases hc : L[k]? with
  | none =>
    have hge : L.length ≤ k := List.getElem?_eq_none_iff.1 hc
    have hlt : ¬ ((k : Int) < L.length) := by omega
    rw [List.take_of_length_le hge]
    simp (disch := first | omega | (simp only [List.length_cons, List.length_nil, List.length_map, List.length_drop]; omega)) only [dF hlt, evH, evSt, ↓evPre, ↓evPreW, evPost, evPostW, ← List.map_take, ← List.map_drop, ↓reduceIte, reduceCtorEq, Nat.reduceEqDiff, forall_const, implies_true, Nat.reduceAdd, Nat.reduceSub, Nat.reduceMul, Nat.reduceLT, Nat.reduceLeDiff, Int.reduceToNat, Int.reduceAdd, Int.reduceSub, Int.reduceNeg, Int.reduceMul, Int.reduceLT, Int.reduceLE, Int.reduceEq]
    exact hst_fin0 hn (.imm rfl) ⟨rfl, rfl⟩
  | some x =>
    have hlt' := (List.getElem?_eq_some_iff.1 hc).1
    have hlt : (k : Int) < L.length := by omega
    have hk1 : (k : Int) + 1 = ((k + 1 : Nat) : Int) := by omega
    obtain ⟨b0, b1⟩ := hcnt k
    have hstep := held_snoc (x := x) leg cls hc
    have fin : ∀ (E : Env) (T : Store), sub [(0, .ptr (A.length + 1) 0 0 0), (2, .str cls), (4, .cptr (lgR leg)), (7, .int .i64 (heldF (L.take (k + 1)) leg cls)), (11, .sl 5 (L.map hdR)), (12, .int .i64 L.length), (13, .int .i64 ((k + 1 : Nat) : Int))] E →
      ∃ i', i' ≤ L.length ∧ L.length - i' < L.length - k ∧ Back [(0, .ptr (A.length + 1) 0 0 0), (2, .str cls), (4, .cptr (lgR leg)), (7, .int .i64 (heldF (L.take i') leg cls)), (11, .sl 5 (L.map hdR)), (12, .int .i64 L.length), (13, .int .i64 (i' : Nat))] (hX A B (P.map entH) .free) E (hX A B (P.map entH) .free ++ T) := fun E T hE =>
      ⟨k + 1, by omega, by omega, back_under ((show Neat (hX A B (P.map entH) .free) from hn).fgt T) hE (by simp [V.under, hx_len, hN_lt, lgR, V.allUnder])⟩
    by_cases h1 : x.cls = cls
    · simp (disch := first | omega | (simp only [List.length_cons, List.length_nil, List.length_map, List.length_drop]; omega)) only [dT hlt, dT h1, List.length_map, List.getElem?_map, Option.map_some, hc, hdR, lgR, evH, evSt, ↓evPre, ↓evPreW, evPost, evPostW, ← List.map_take, ← List.map_drop, ↓reduceIte, reduceCtorEq, Nat.reduceEqDiff, forall_const, implies_true, Nat.reduceAdd, Nat.reduceSub, Nat.reduceMul, Nat.reduceLT, Nat.reduceLeDiff, Int.reduceToNat, Int.reduceAdd, Int.reduceSub, Int.reduceNeg, Int.reduceMul, Int.reduceLT, Int.reduceLE, Int.reduceEq]
      refine (contains_A x.legs leg (h.legs x (List.mem_of_getElem? hc)) _).then ?_
      by_cases h2 : leg ∈ x.legs
      · have hh : hasF x leg cls = true := by simp [hasF, h1, h2]
        rw [hh, if_pos rfl] at hstep
        have hb2 := hcnt (k + 1)
        rw [hstep] at hb2
        simp (disch := first | omega | (simp only [List.length_cons, List.length_nil, List.length_map, List.length_drop]; omega)) only [dT h2, wrap_i64, hk1, evH, evSt, ↓evPre, ↓evPreW, evPost, evPostW, ← List.map_take, ← List.map_drop, ↓reduceIte, reduceCtorEq, Nat.reduceEqDiff, forall_const, implies_true, Nat.reduceAdd, Nat.reduceSub, Nat.reduceMul, Nat.reduceLT, Nat.reduceLeDiff, Int.reduceToNat, Int.reduceAdd, Int.reduceSub, Int.reduceNeg, Int.reduceMul, Int.reduceLT, Int.reduceLE, Int.reduceEq]
        rw [← hstep]
        exact fin _ _ (by simp only [lgR, ↓evPre, ↓evPreW, evPost, evPostW, ← List.map_take, ← List.map_drop, ↓reduceIte, reduceCtorEq, Nat.reduceEqDiff, forall_const, implies_true, Nat.reduceAdd, Nat.reduceSub, Nat.reduceMul, Nat.reduceLT, Nat.reduceLeDiff, Int.reduceToNat, Int.reduceAdd, Int.reduceSub, Int.reduceNeg, Int.reduceMul, Int.reduceLT, Int.reduceLE, Int.reduceEq])
      · have hh : hasF x leg cls = false := by simp [hasF, h2]
        rw [hh, if_neg (by simp)] at hstep
        simp (disch := first | omega | (simp only [List.length_cons, List.length_nil, List.length_map, List.length_drop]; omega)) only [dF h2, wrap_i64, hk1, evH, evSt, ↓evPre, ↓evPreW, evPost, evPostW, ← List.map_take, ← List.map_drop, ↓reduceIte, reduceCtorEq, Nat.reduceEqDiff, forall_const, implies_true, Nat.reduceAdd, Nat.reduceSub, Nat.reduceMul, Nat.reduceLT, Nat.reduceLeDiff, Int.reduceToNat, Int.reduceAdd, Int.reduceSub, Int.reduceNeg, Int.reduceMul, Int.reduceLT, Int.reduceLE, Int.reduceEq]
        rw [← hstep]
        exact fin _ _ (by simp only [lgR, ↓evPre, ↓evPreW, evPost, evPostW, ← List.map_take, ← List.map_drop, ↓reduceIte, reduceCtorEq, Nat.reduceEqDiff, forall_const, implies_true, Nat.reduceAdd, Nat.reduceSub, Nat.reduceMul, Nat.reduceLT, Nat.reduceLeDiff, Int.reduceToNat, Int.reduceAdd, Int.reduceSub, Int.reduceNeg, Int.reduceMul, Int.reduceLT, Int.reduceLE, Int.reduceEq])
    · have hh : hasF x leg cls = false := by simp [hasF, h1]
      rw [hh, if_neg (by simp)] at hstep
      simp (disch := first | omega | (simp only [List.length_cons, List.length_nil, List.length_map, List.length_drop]; omega)) only [dT hlt, dF h1, List.length_map, List.getElem?_map, Option.map_some, hc, hdR, wrap_i64, hk1, evH, evSt, ↓evPre, ↓evPreW, evPost, evPostW, ← List.map_take, ← List.map_drop, ↓reduceIte, reduceCtorEq, Nat.reduceEqDiff, forall_const, implies_true, Nat.reduceAdd, Nat.reduceSub, Nat.reduceMul, Nat.reduceLT, Nat.reduceLeDiff, Int.reduceToNat, Int.reduceAdd, Int.reduceSub, Int.reduceNeg, Int.reduceMul, Int.reduceLT, Int.reduceLE, Int.reduceEq]
      rw [← hstep]
      exact fin _ _ (by simp only [lgR, ↓evPre, ↓evPreW, evPost, evPostW, ← List.map_take, ← List.map_drop, ↓reduceIte, reduceCtorEq, Nat.reduceEqDiff, forall_const, implies_true, Nat.reduceAdd, Nat.reduceSub, Nat.reduceMul, Nat.reduceLT, Nat.reduceLeDiff, Int.reduceToNat, Int.reduceAdd, Int.reduceSub, Int.reduceNeg, Int.reduceMul, Int.reduceLT, Int.reduceLE, Int.reduceEq])
end
end Go.Proofs.Ythdcajfjglgiiaa
