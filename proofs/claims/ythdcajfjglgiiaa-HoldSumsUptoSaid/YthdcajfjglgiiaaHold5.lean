/- A set of holds in the store: a map and the struct; what lies around it stands. -/
import Derived.Test.YthdcajfjglgiiaaHold4
namespace Go.Proofs.Ythdcajfjglgiiaa
open Go Go.AL
set_option linter.unusedSectionVars false
variable [Go.AL.Mode] [Go.AL.LooseM]
set_option linter.unusedSimpArgs false
set_option linter.unusedVariables false

def hX (A B : Store) (s : List (V × V)) (x : MX) : Store := A ++ (mapO (.one (.int .i64)) s x :: ⟨0, some (.arr 40 1 [[.mapv A.length 0]])⟩ :: B)
def hN (A B : Store) : Nat := A.length + (B.length + 2)
section
variable {A B L : Store} {s s' : List (V × V)} {x x' : MX} {k ver : Nat} {o : AL.Obj}
theorem hx_len : (hX A B s x).length = hN A B := by simp [hX, hN]
theorem hx_app : hX A B s x ++ L = hX A (B ++ L) s x := by simp [hX]
theorem hx_mp0 : Store.mp? (hX A B s x) A.length 0 = some (.one (.int .i64), s, x) := by rw [hX, mp_app0]; rfl
theorem hx_ob1 : Store.obj? (hX A B s x) (A.length + 1) 0 = some (40, 1, [[.mapv A.length 0]]) := by rw [hX, ob_app]; rfl
theorem hx_se0 : (hX A B s x).set A.length ⟨0, some (.mp ⟨.one (.int .i64), s', x'⟩)⟩ = hX A B s' x' := by rw [hX, se_app0]; rfl
theorem hl_mp0 : Store.mp? (hX A B s x ++ L) A.length 0 = some (.one (.int .i64), s, x) := by rw [hx_app, hx_mp0]
theorem hl_ob1 : Store.obj? (hX A B s x ++ L) (A.length + 1) 0 = some (40, 1, [[.mapv A.length 0]]) := by rw [hx_app, hx_ob1]
theorem hl_se0 : (hX A B s x ++ L : Store).set A.length ⟨0, some (.mp ⟨.one (.int .i64), s', x'⟩)⟩ = hX A B s' x' ++ L := by rw [hx_app, hx_se0, hx_app]
theorem hn_ob : Store.obj? (hX A B s x ++ L) (hN A B + k) ver = Store.obj? L k ver := by rw [← hx_len (s := s) (x := x), ob_app]
theorem hn_ob0 : Store.obj? (hX A B s x ++ L) (hN A B) ver = Store.obj? L 0 ver := by rw [← hx_len (s := s) (x := x), ob_app0]
theorem hn_mp : Store.mp? (hX A B s x ++ L) (hN A B + k) ver = Store.mp? L k ver := by rw [← hx_len (s := s) (x := x), mp_app]
theorem hn_mp0 : Store.mp? (hX A B s x ++ L) (hN A B) ver = Store.mp? L 0 ver := by rw [← hx_len (s := s) (x := x), mp_app0]
theorem hn_se : (hX A B s x ++ L : Store).set (hN A B + k) o = hX A B s x ++ L.set k o := by rw [← hx_len (s := s) (x := x), se_app]
theorem hn_se0 : (hX A B s x ++ L : Store).set (hN A B) o = hX A B s x ++ L.set 0 o := by rw [← hx_len (s := s) (x := x), se_app0]
end
theorem evH : ((type_of% @hx_len) ∧ (type_of% @hx_mp0) ∧ (type_of% @hx_ob1) ∧ (type_of% @hx_se0)) ∧ ((type_of% @hl_mp0) ∧ (type_of% @hl_ob1) ∧ (type_of% @hl_se0)) ∧ ((type_of% @hn_ob) ∧ (type_of% @hn_ob0) ∧ (type_of% @hn_mp) ∧ (type_of% @hn_mp0) ∧ (type_of% @hn_se) ∧ (type_of% @hn_se0)) :=
  ⟨⟨@hx_len, @hx_mp0, @hx_ob1, @hx_se0⟩, ⟨@hl_mp0, @hl_ob1, @hl_se0⟩, @hn_ob, @hn_ob0, @hn_mp, @hn_mp0, @hn_se, @hn_se0⟩

theorem okH (P : List Hd) : mOk (.one (.int .i64)) (P.map entH) := fun p hp => by
  obtain ⟨r, _, rfl⟩ := List.mem_map.1 hp
  exact ⟨rfl, rfl, rfl⟩
/-- The store of a set of holds. -/
def hst (A B : Store) (P : List Hd) : Store := hX A B (P.map entH) .free
section
variable {A B L : Store} {P P' : List Hd}
theorem hst_len : (hst A B P).length = hN A B := hx_len
theorem hst_app : hst A B P ++ L = hst A (B ++ L) P := hx_app
theorem hst_neat (h : Neat (hst A B P)) : Neat (hst A B P') := by
  rw [neat_iff, hst_len] at h ⊢
  intro o ho
  simp only [hst, hX, List.mem_append, List.mem_cons] at h ho
  rcases ho with ho | rfl | rfl | ho
  · exact h o (.inl ho)
  · exact (okH _).objN rfl
  · exact h _ (.inr (.inr (.inl rfl)))
  · exact h o (.inr (.inr (.inr ho)))
theorem hst_neat1 (hA : Neat A) (hB : ∀ o ∈ B, objN (hN A B) o) : Neat (hst A B P) := by
  rw [neat_iff, hst_len]
  have hA' := neat_iff.1 hA
  have hle : A.length ≤ hN A B := by unfold hN; omega
  intro o ho
  simp only [hst, hX, List.mem_append, List.mem_cons] at ho
  rcases ho with ho | rfl | rfl | ho
  · exact (hA' o ho).mono hle
  · exact (okH _).objN rfl
  · intro r hr
    simp only [List.mem_singleton] at hr
    subst hr
    refine ⟨rfl, ?_⟩
    have e0 : A.length < hN A B := by unfold hN; omega
    simp [V.allUnder, V.under, e0]
  · exact hB o ho
theorem hst_neat0 (hA : Neat A) : Neat (hst A [] P) := hst_neat1 hA fun o ho => by cases ho
theorem hst_fgt {T : Store} (h : Neat A) : Fgt (hst A B P ++ T) A := by
  rw [hst, hX, List.append_assoc]
  exact h.fgt _
theorem hst_fin {T : Store} {r r1 : V} {R : V → Store → Prop} (h : Neat (hst A B P)) (hr : Frz (hst A B P ++ T) (hst A B P) r r1) (k : R r1 (hst A B P)) :
    ∃ r1 S1, Fgt (hst A B P ++ T) S1 ∧ Frz (hst A B P ++ T) S1 r r1 ∧ hN A B ≤ S1.length ∧ R r1 S1 :=
  ⟨r1, hst A B P, h.fgt T, hr, by rw [hst_len]; exact Nat.le_refl _, k⟩
theorem hst_fin0 {r r1 : V} {R : V → Store → Prop} (h : Neat (hst A B P)) (hr : Frz (hst A B P) (hst A B P) r r1) (k : R r1 (hst A B P)) :
    ∃ r1 S1, Fgt (hst A B P) S1 ∧ Frz (hst A B P) S1 r r1 ∧ hN A B ≤ S1.length ∧ R r1 S1 :=
  ⟨r1, hst A B P, h.self, hr, by rw [hst_len]; exact Nat.le_refl _, k⟩
end

theorem New_A (S : Store) : CallA Try.prog 8 [] S fun r S' => r = .ptr (S.length + 1) 0 0 0 ∧ S' = hst S [] [] := by
  refine CallA.keep Try.func8 c308 (Nat.le_of_ble_eq_true rfl) fun σ hσ => ?_
  simp (disch := first | omega | (simp only [List.length_cons, List.length_nil, List.length_map, List.length_drop]; omega)) only [a308, cells_mapv, ok_mapv, evSt, ↓evPre, ↓evPreW, evPost, evPostW, ← List.map_take, ← List.map_drop, ↓reduceIte, reduceCtorEq, Nat.reduceEqDiff, forall_const, implies_true, Nat.reduceAdd, Nat.reduceSub, Nat.reduceMul, Nat.reduceLT, Nat.reduceLeDiff, Int.reduceToNat, Int.reduceAdd, Int.reduceSub, Int.reduceNeg, Int.reduceMul, Int.reduceLT, Int.reduceLE, Int.reduceEq]
  rfl

theorem made_A (A B : Store) (P : List Hd) : CallA Try.prog 25 [.ptr (A.length + 1) 0 0 0] (hst A B P) fun r S' => r = .bool true ∧ S' = hst A B P := by
  unfold hst
  refine CallA.keep Try.func25 c325 (Nat.le_of_ble_eq_true rfl) fun σ hσ => ?_
  simp (disch := first | omega | (simp only [List.length_cons, List.length_nil, List.length_map, List.length_drop]; omega)) only [a325, evH, evSt, ↓evPre, ↓evPreW, evPost, evPostW, ← List.map_take, ← List.map_drop, ↓reduceIte, reduceCtorEq, Nat.reduceEqDiff, forall_const, implies_true, Nat.reduceAdd, Nat.reduceSub, Nat.reduceMul, Nat.reduceLT, Nat.reduceLeDiff, Int.reduceToNat, Int.reduceAdd, Int.reduceSub, Int.reduceNeg, Int.reduceMul, Int.reduceLT, Int.reduceLE, Int.reduceEq]
theorem made_AL (A B L : Store) (P : List Hd) : CallA Try.prog 25 [.ptr (A.length + 1) 0 0 0] (hst A B P ++ L) fun r S' => r = .bool true ∧ S' = hst A B P ++ L := by
  rw [hst_app]
  exact made_A A (B ++ L) P
theorem made_nil (S : Store) : CallA Try.prog 25 [.nilPtr] S fun r S' => r = .bool false ∧ S' = S := by
  refine CallA.keep Try.func25 c325 (Nat.le_of_ble_eq_true rfl) fun σ hσ => ?_
  simp (disch := first | omega | (simp only [List.length_cons, List.length_nil, List.length_map, List.length_drop]; omega)) only [a325, evSt, ↓evPre, ↓evPreW, evPost, evPostW, ← List.map_take, ← List.map_drop, ↓reduceIte, reduceCtorEq, Nat.reduceEqDiff, forall_const, implies_true, Nat.reduceAdd, Nat.reduceSub, Nat.reduceMul, Nat.reduceLT, Nat.reduceLeDiff, Int.reduceToNat, Int.reduceAdd, Int.reduceSub, Int.reduceNeg, Int.reduceMul, Int.reduceLT, Int.reduceLE, Int.reduceEq]
theorem made_zero (S : Store) (id : Nat) (h : S.obj? id 0 = some (40, 1, [[.nilMap]])) : CallA Try.prog 25 [.ptr id 0 0 0] S fun r S' => r = .bool false ∧ S' = S := by
  refine CallA.keep Try.func25 c325 (Nat.le_of_ble_eq_true rfl) fun σ hσ => ?_
  simp (disch := first | omega | (simp only [List.length_cons, List.length_nil, List.length_map, List.length_drop]; omega)) only [a325, h, evSt, ↓evPre, ↓evPreW, evPost, evPostW, ← List.map_take, ← List.map_drop, ↓reduceIte, reduceCtorEq, Nat.reduceEqDiff, forall_const, implies_true, Nat.reduceAdd, Nat.reduceSub, Nat.reduceMul, Nat.reduceLT, Nat.reduceLeDiff, Int.reduceToNat, Int.reduceAdd, Int.reduceSub, Int.reduceNeg, Int.reduceMul, Int.reduceLT, Int.reduceLE, Int.reduceEq]

/-! ### All -/
theorem values_A (S : Store) (mid : Nat) : CallA Try.prog 30 [.mapv mid 0] S fun r S' => r = .func 41 [] [.ptr S.length 0 0 0] ∧ S' = S ++ [⟨0, some (.arr 38 1 [[.mapv mid 0]])⟩] := by
  refine CallA.keep Try.func30 c330 (Nat.le_of_ble_eq_true rfl) fun σ hσ => ?_
  simp (disch := first | omega | (simp only [List.length_cons, List.length_nil, List.length_map, List.length_drop]; omega)) only [a330, cells_mapv, ok_mapv, evSt, ↓evPre, ↓evPreW, evPost, evPostW, ← List.map_take, ← List.map_drop, ↓reduceIte, reduceCtorEq, Nat.reduceEqDiff, forall_const, implies_true, Nat.reduceAdd, Nat.reduceSub, Nat.reduceMul, Nat.reduceLT, Nat.reduceLeDiff, Int.reduceToNat, Int.reduceAdd, Int.reduceSub, Int.reduceNeg, Int.reduceMul, Int.reduceLT, Int.reduceLE, Int.reduceEq]

theorem rows_cells (l : List V) (P : List Hd) (h : l.Perm (P.map fun h => V.agg (hdR h))) : ∃ Q : List Hd, Q.Perm P ∧ l.map cellsV = Q.map hdR ∧ l.length = Q.length := by
  obtain ⟨Q, h1, h2⟩ := perm_lift (fun h : Hd => V.agg (hdR h)) h P rfl
  refine ⟨Q, h1, ?_, by rw [h2, List.length_map]⟩
  rw [h2, List.map_map]
  rfl
theorem hdV_ok (h : Hd) : HdV (.agg (hdR h)) := ⟨_, _, _, _, _, rfl, rfl, rfl, rfl, rfl, rfl⟩

/-- slices.SortedFunc over maps.Values. -/
theorem sortedFunc_A (A B : Store) (P : List Hd) (hu : Uq P) (hl : P.length ≤ 1000000) :
    CallA Try.prog 29 [.func 41 [] [.ptr (hN A B) 0 0 0], .func 31 [] []] (hst A B P ++ [⟨0, some (.arr 38 1 [[.mapv A.length 0]])⟩]) fun r S' =>
      ∃ Q T : _, Q.Perm P ∧ Asc Q ∧ S' = hst A B P ++ T ∧ ((Q = [] ∧ r = .nilSl) ∨ (∃ id ver, hN A B ≤ id ∧ S'.obj? id ver = some (31, 5, Q.map hdR) ∧ r = .msl id ver 0 Q.length)) := by
  refine CallA.keep Try.func29 c329 (Nat.le_of_ble_eq_true rfl) fun σ hσ => ?_
  simp (disch := first | omega | (simp only [List.length_cons, List.length_nil, List.length_map, List.length_drop]; omega)) only [a329, evSt, ↓evPre, ↓evPreW, evPost, evPostW, ← List.map_take, ← List.map_drop, ↓reduceIte, reduceCtorEq, Nat.reduceEqDiff, forall_const, implies_true, Nat.reduceAdd, Nat.reduceSub, Nat.reduceMul, Nat.reduceLT, Nat.reduceLeDiff, Int.reduceToNat, Int.reduceAdd, Int.reduceSub, Int.reduceNeg, Int.reduceMul, Int.reduceLT, Int.reduceLE, Int.reduceEq]
  have hco : CallA Try.prog 39 [.func 41 [] [.ptr (hN A B) 0 0 0]] (hst A B P ++ [⟨0, some (.arr 38 1 [[.mapv A.length 0]])⟩]) fun r S' => ∃ Q : List Hd, Q.Perm P ∧
      ((Q = [] ∧ r = .nilSl ∧ S' = hst A B P ++ [⟨0, some (.arr 38 1 [[.mapv A.length 0]])⟩]) ∨ (Q ≠ [] ∧ r = .msl (hN A B + 1) 0 0 Q.length ∧ S' = hst A B P ++ [⟨0, some (.arr 38 1 [[.mapv A.length 0]])⟩, ⟨0, some (.arr 31 5 (Q.map hdR))⟩])) := by
    refine CallA.keep Try.func39 c339 (Nat.le_of_ble_eq_true rfl) fun σ hσ => ?_
    simp (disch := first | omega | (simp only [List.length_cons, List.length_nil, List.length_map, List.length_drop]; omega)) only [a339, evSt, ↓evPre, ↓evPreW, evPost, evPostW, ← List.map_take, ← List.map_drop, ↓reduceIte, reduceCtorEq, Nat.reduceEqDiff, forall_const, implies_true, Nat.reduceAdd, Nat.reduceSub, Nat.reduceMul, Nat.reduceLT, Nat.reduceLeDiff, Int.reduceToNat, Int.reduceAdd, Int.reduceSub, Int.reduceNeg, Int.reduceMul, Int.reduceLT, Int.reduceLE, Int.reduceEq]
    refine (appendSeq_A _ (hN A B) A.length 0 38 (P.map entH) (by unfold hst; simp (disch := first | omega | (simp only [List.length_cons, List.length_nil, List.length_map, List.length_drop]; omega)) only [evH, evSt, ↓evPre, ↓evPreW, evPost, evPostW, ← List.map_take, ← List.map_drop, ↓reduceIte, reduceCtorEq, Nat.reduceEqDiff, forall_const, implies_true, Nat.reduceAdd, Nat.reduceSub, Nat.reduceMul, Nat.reduceLT, Nat.reduceLeDiff, Int.reduceToNat, Int.reduceAdd, Int.reduceSub, Int.reduceNeg, Int.reduceMul, Int.reduceLT, Int.reduceLE, Int.reduceEq]) (by unfold hst; simp (disch := first | omega | (simp only [List.length_cons, List.length_nil, List.length_map, List.length_drop]; omega)) only [evH, evSt, ↓evPre, ↓evPreW, evPost, evPostW, ← List.map_take, ← List.map_drop, ↓reduceIte, reduceCtorEq, Nat.reduceEqDiff, forall_const, implies_true, Nat.reduceAdd, Nat.reduceSub, Nat.reduceMul, Nat.reduceLT, Nat.reduceLeDiff, Int.reduceToNat, Int.reduceAdd, Int.reduceSub, Int.reduceNeg, Int.reduceMul, Int.reduceLT, Int.reduceLE, Int.reduceEq]) (fun p hp => ?_) (by simpa using hl)).mono ?_
    · obtain ⟨h, _, rfl⟩ := List.mem_map.1 hp
      exact hdV_ok h
    rintro r S' ⟨l, h1, h2⟩
    simp (disch := first | omega | (simp only [List.length_cons, List.length_nil, List.length_map, List.length_drop]; omega)) only [evSt, ↓evPre, ↓evPreW, evPost, evPostW, ← List.map_take, ← List.map_drop, ↓reduceIte, reduceCtorEq, Nat.reduceEqDiff, forall_const, implies_true, Nat.reduceAdd, Nat.reduceSub, Nat.reduceMul, Nat.reduceLT, Nat.reduceLeDiff, Int.reduceToNat, Int.reduceAdd, Int.reduceSub, Int.reduceNeg, Int.reduceMul, Int.reduceLT, Int.reduceLE, Int.reduceEq]
    rw [List.map_map] at h1
    obtain ⟨Q, q1, q2, q3⟩ := rows_cells l P h1
    refine ⟨Q, q1, ?_⟩
    rcases h2 with ⟨rfl, rfl, rfl⟩ | ⟨h3, rfl, rfl⟩
    · exact .inl ⟨List.eq_nil_of_length_eq_zero q3.symm, rfl, rfl⟩
    · refine .inr ⟨fun e => h3 (List.eq_nil_of_length_eq_zero (by rw [q3, e]; rfl)), ?_, ?_⟩
      · rw [q3, List.length_append, hst_len]; rfl
      · rw [q2, List.append_assoc]; rfl
  refine hco.mono ?_
  rintro r S' ⟨Q, q1, (⟨rfl, rfl, rfl⟩ | ⟨q2, rfl, rfl⟩)⟩
  · simp (disch := first | omega | (simp only [List.length_cons, List.length_nil, List.length_map, List.length_drop]; omega)) only [evSt, ↓evPre, ↓evPreW, evPost, evPostW, ← List.map_take, ← List.map_drop, ↓reduceIte, reduceCtorEq, Nat.reduceEqDiff, forall_const, implies_true, Nat.reduceAdd, Nat.reduceSub, Nat.reduceMul, Nat.reduceLT, Nat.reduceLeDiff, Int.reduceToNat, Int.reduceAdd, Int.reduceSub, Int.reduceNeg, Int.reduceMul, Int.reduceLT, Int.reduceLE, Int.reduceEq]
    refine (sortNil_A _ _).then ?_
    simp (disch := first | omega | (simp only [List.length_cons, List.length_nil, List.length_map, List.length_drop]; omega)) only [evSt, ↓evPre, ↓evPreW, evPost, evPostW, ← List.map_take, ← List.map_drop, ↓reduceIte, reduceCtorEq, Nat.reduceEqDiff, forall_const, implies_true, Nat.reduceAdd, Nat.reduceSub, Nat.reduceMul, Nat.reduceLT, Nat.reduceLeDiff, Int.reduceToNat, Int.reduceAdd, Int.reduceSub, Int.reduceNeg, Int.reduceMul, Int.reduceLT, Int.reduceLE, Int.reduceEq]
    exact ⟨[], _, q1, .nil, rfl, .inl (by simp)⟩
  · simp (disch := first | omega | (simp only [List.length_cons, List.length_nil, List.length_map, List.length_drop]; omega)) only [evSt, ↓evPre, ↓evPreW, evPost, evPostW, ← List.map_take, ← List.map_drop, ↓reduceIte, reduceCtorEq, Nat.reduceEqDiff, forall_const, implies_true, Nat.reduceAdd, Nat.reduceSub, Nat.reduceMul, Nat.reduceLT, Nat.reduceLeDiff, Int.reduceToNat, Int.reduceAdd, Int.reduceSub, Int.reduceNeg, Int.reduceMul, Int.reduceLT, Int.reduceLE, Int.reduceEq]
    have hql := q1.length_eq
    refine (sortH_A Q _ (hN A B + 1) 0 (by omega) (by unfold hst; simp (disch := first | omega | (simp only [List.length_cons, List.length_nil, List.length_map, List.length_drop]; omega)) only [evH, evSt, ↓evPre, ↓evPreW, evPost, evPostW, ← List.map_take, ← List.map_drop, ↓reduceIte, reduceCtorEq, Nat.reduceEqDiff, forall_const, implies_true, Nat.reduceAdd, Nat.reduceSub, Nat.reduceMul, Nat.reduceLT, Nat.reduceLeDiff, Int.reduceToNat, Int.reduceAdd, Int.reduceSub, Int.reduceNeg, Int.reduceMul, Int.reduceLT, Int.reduceLE, Int.reduceEq])).mono ?_
    rintro r S' ⟨rfl, l', h1, h2, rfl⟩
    unfold hst
    simp (disch := first | omega | (simp only [List.length_cons, List.length_nil, List.length_map, List.length_drop]; omega)) only [evH, evSt, ↓evPre, ↓evPreW, evPost, evPostW, ← List.map_take, ← List.map_drop, ↓reduceIte, reduceCtorEq, Nat.reduceEqDiff, forall_const, implies_true, Nat.reduceAdd, Nat.reduceSub, Nat.reduceMul, Nat.reduceLT, Nat.reduceLeDiff, Int.reduceToNat, Int.reduceAdd, Int.reduceSub, Int.reduceNeg, Int.reduceMul, Int.reduceLT, Int.reduceLE, Int.reduceEq]
    refine ⟨l', _, h1.trans q1, asc_of h2 (hu.perm (h1.trans q1).symm), rfl, .inr ⟨hN A B + 1, 0, by omega, ?_, by rw [h1.length_eq]⟩⟩
    simp (disch := first | omega | (simp only [List.length_cons, List.length_nil, List.length_map, List.length_drop]; omega)) only [evH, evSt, ↓evPre, ↓evPreW, evPost, evPostW, ← List.map_take, ← List.map_drop, ↓reduceIte, reduceCtorEq, Nat.reduceEqDiff, forall_const, implies_true, Nat.reduceAdd, Nat.reduceSub, Nat.reduceMul, Nat.reduceLT, Nat.reduceLeDiff, Int.reduceToNat, Int.reduceAdd, Int.reduceSub, Int.reduceNeg, Int.reduceMul, Int.reduceLT, Int.reduceLE, Int.reduceEq]

theorem All_A (A B : Store) (P : List Hd) (hu : Uq P) (hl : P.length ≤ 1000000) : CallA Try.prog 10 [.ptr (A.length + 1) 0 0 0] (hst A B P) fun r S' => (∃ Q : List Hd, Q.Perm P ∧ Asc Q ∧ r = .sl 5 (Q.map hdR)) ∧ S' = hst A B P := by
  refine CallA.withNeat Try.func10 c310 fun hn => ?_
  refine CallA.fin Try.func10 c310 (Nat.le_of_ble_eq_true rfl) fun σ hσ => ?_
  simp (disch := first | omega | (simp only [List.length_cons, List.length_nil, List.length_map, List.length_drop]; omega)) only [a310, evSt, ↓evPre, ↓evPreW, evPost, evPostW, ← List.map_take, ← List.map_drop, ↓reduceIte, reduceCtorEq, Nat.reduceEqDiff, forall_const, implies_true, Nat.reduceAdd, Nat.reduceSub, Nat.reduceMul, Nat.reduceLT, Nat.reduceLeDiff, Int.reduceToNat, Int.reduceAdd, Int.reduceSub, Int.reduceNeg, Int.reduceMul, Int.reduceLT, Int.reduceLE, Int.reduceEq]
  refine (made_A A B P).then ?_
  unfold hst
  simp (disch := first | omega | (simp only [List.length_cons, List.length_nil, List.length_map, List.length_drop]; omega)) only [evH, evSt, ↓evPre, ↓evPreW, evPost, evPostW, ← List.map_take, ← List.map_drop, ↓reduceIte, reduceCtorEq, Nat.reduceEqDiff, forall_const, implies_true, Nat.reduceAdd, Nat.reduceSub, Nat.reduceMul, Nat.reduceLT, Nat.reduceLeDiff, Int.reduceToNat, Int.reduceAdd, Int.reduceSub, Int.reduceNeg, Int.reduceMul, Int.reduceLT, Int.reduceLE, Int.reduceEq]
  refine (values_A _ _).then2 ?_
  simp (disch := first | omega | (simp only [List.length_cons, List.length_nil, List.length_map, List.length_drop]; omega)) only [evH, evSt, ↓evPre, ↓evPreW, evPost, evPostW, ← List.map_take, ← List.map_drop, ↓reduceIte, reduceCtorEq, Nat.reduceEqDiff, forall_const, implies_true, Nat.reduceAdd, Nat.reduceSub, Nat.reduceMul, Nat.reduceLT, Nat.reduceLeDiff, Int.reduceToNat, Int.reduceAdd, Int.reduceSub, Int.reduceNeg, Int.reduceMul, Int.reduceLT, Int.reduceLE, Int.reduceEq]
  refine (sortedFunc_A A B P hu hl).mono ?_
  rintro r S' ⟨Q, T, q1, q2, rfl, (⟨rfl, rfl⟩ | ⟨id, ver, h1, h2, rfl⟩)⟩
  · simp (disch := first | omega | (simp only [List.length_cons, List.length_nil, List.length_map, List.length_drop]; omega)) only [evSt, ↓evPre, ↓evPreW, evPost, evPostW, ← List.map_take, ← List.map_drop, ↓reduceIte, reduceCtorEq, Nat.reduceEqDiff, forall_const, implies_true, Nat.reduceAdd, Nat.reduceSub, Nat.reduceMul, Nat.reduceLT, Nat.reduceLeDiff, Int.reduceToNat, Int.reduceAdd, Int.reduceSub, Int.reduceNeg, Int.reduceMul, Int.reduceLT, Int.reduceLE, Int.reduceEq]
    exact hst_fin hn .nil ⟨⟨[], q1, q2, rfl⟩, rfl⟩
  · simp (disch := first | omega | (simp only [List.length_cons, List.length_nil, List.length_map, List.length_drop]; omega)) only [evSt, ↓evPre, ↓evPreW, evPost, evPostW, ← List.map_take, ← List.map_drop, ↓reduceIte, reduceCtorEq, Nat.reduceEqDiff, forall_const, implies_true, Nat.reduceAdd, Nat.reduceSub, Nat.reduceMul, Nat.reduceLT, Nat.reduceLeDiff, Int.reduceToNat, Int.reduceAdd, Int.reduceSub, Int.reduceNeg, Int.reduceMul, Int.reduceLT, Int.reduceLE, Int.reduceEq]
    exact hst_fin hn (.sl (by rw [hst_len]; exact h1) h2 (by simp) (hdR_imm _)) ⟨⟨Q, q1, q2, rfl⟩, rfl⟩
end Go.Proofs.Ythdcajfjglgiiaa
