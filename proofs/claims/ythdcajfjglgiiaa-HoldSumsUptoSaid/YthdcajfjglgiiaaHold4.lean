/- Holds: sorted. -/
import Derived.Test.YthdcajfjglgiiaaHold3
import Derived.Test.YthdcajfjglgiiaaHoldX
import Derived.Test.YthdcajfjglgiiaaAlT
import Derived.Test.YthdcajfjglgiiaaRecS
namespace Go.Proofs.Ythdcajfjglgiiaa
open Go Go.AL Go.Sort
set_option linter.unusedSectionVars false
variable [Go.AL.Mode] [Go.AL.LooseM]
set_option linter.unusedSimpArgs false
set_option linter.unusedVariables false

/-! ### The order, plainly -/
def Asc (l : List Hd) : Prop := l.Pairwise fun x y => ltH x y = true
theorem ltH_irr (x : Hd) : ltH x x = false := by simp [ltH]
theorem ltH_tr {x y z : Hd} (h : ltH x y = true) (k : ltH y z = true) : ltH x z = true := by
  simp only [ltH, decide_eq_true_eq] at *; omega
theorem ltH_as {x y : Hd} (h : ltH x y = true) : ltH y x = false := by
  simp only [ltH, decide_eq_true_eq, decide_eq_false_iff_not] at *; omega
theorem ltH_of {x y : Hd} (h : ltH y x = false) (k : x.id ≠ y.id) : ltH x y = true := by
  simp only [ltH, decide_eq_true_eq, decide_eq_false_iff_not] at *; omega
theorem Asc.uniq {l m : List Hd} (h : Asc l) (k : Asc m) (hp : l.Perm m) : l = m :=
  List.Perm.eq_of_pairwise (le := fun x y => ltH x y = true) (fun a b _ _ g1 g2 => by rw [ltH_as g1] at g2; cases g2) h k hp
/-- No identifier twice. -/
def Uq (l : List Hd) : Prop := l.Pairwise fun x y => x.id ≠ y.id
theorem Uq.perm {l m : List Hd} (h : Uq l) (hp : l.Perm m) : Uq m := (hp.pairwise_iff (R := fun x y : Hd => x.id ≠ y.id) fun h => h.symm).1 h
theorem asc_of {l : List Hd} (h : l.Pairwise fun x y => ltH y x = false) (k : Uq l) : Asc l := by
  unfold Uq Asc at *
  induction l with
  | nil => exact .nil
  | cons x l ih =>
    rw [List.pairwise_cons] at *
    exact ⟨fun y hy => ltH_of (h.1 y hy) (k.1 y hy), ih h.2 k.2⟩

theorem swoH : SWO (ltOf cfH) where
  irrefl x := by unfold ltOf; rw [cfH_lt]; simp [ltH]
  trans x y z h k := by unfold ltOf at *; rw [cfH_lt] at *; simp only [ltH, decide_eq_true_eq] at *; omega
  ntrans x y z h k := by unfold ltOf at *; rw [cfH_lt] at *; simp only [ltH, decide_eq_false_iff_not] at *; omega

/-! ### The library's sort, of no elements -/
set_option maxRecDepth 100000 in
theorem len640_A (S : Store) : CallA Try.prog 56 [.int .u64 0] S fun r S' => r = .int .i64 0 ∧ S' = S := by
  refine CallA.keep Try.func56 c69 (Nat.le_of_ble_eq_true rfl) fun σ hσ => ?_
  simp (disch := omega) only [a69, wrap_u64, wrap_u8, wrap_i64, ↓evPre, ↓evPreW, evPost, evPostW, ← List.map_take, ← List.map_drop, ↓reduceIte, reduceCtorEq, Nat.reduceEqDiff, forall_const, implies_true, Nat.reduceAdd, Nat.reduceSub, Nat.reduceMul, Nat.reduceLT, Nat.reduceLeDiff, Int.reduceToNat, Int.reduceAdd, Int.reduceSub, Int.reduceNeg, Int.reduceMul, Int.reduceLT, Int.reduceLE, Int.reduceEq]
  decide
theorem len0_A (S : Store) : CallA Try.prog 46 [.int .u64 0] S fun r S' => r = .int .i64 0 ∧ S' = S := by
  refine CallA.keep Try.func46 c52 (Nat.le_of_ble_eq_true rfl) fun σ hσ => ?_
  simp only [a52, ↓evPre, ↓evPreW, evPost, evPostW, ← List.map_take, ← List.map_drop, ↓reduceIte, reduceCtorEq, Nat.reduceEqDiff, forall_const, implies_true, Nat.reduceAdd, Nat.reduceSub, Nat.reduceMul, Nat.reduceLT, Nat.reduceLeDiff, Int.reduceToNat, Int.reduceAdd, Int.reduceSub, Int.reduceNeg, Int.reduceMul, Int.reduceLT, Int.reduceLE, Int.reduceEq]
  refine (len640_A S).then ?_
  simp only [↓evPre, ↓evPreW, evPost, evPostW, ← List.map_take, ← List.map_drop, ↓reduceIte, reduceCtorEq, Nat.reduceEqDiff, forall_const, implies_true, Nat.reduceAdd, Nat.reduceSub, Nat.reduceMul, Nat.reduceLT, Nat.reduceLeDiff, Int.reduceToNat, Int.reduceAdd, Int.reduceSub, Int.reduceNeg, Int.reduceMul, Int.reduceLT, Int.reduceLE, Int.reduceEq]
theorem ins0_A (g : FuncId) (S : Store) : CallA Try.prog 47 [.nilSl, .int .i64 0, .int .i64 0, .func g [] []] S fun r S' => r = .tup [] ∧ S' = S := by
  refine CallA.keep Try.func47 c60 (Nat.le_of_ble_eq_true rfl) fun σ hσ => ?_
  simp (disch := omega) only [a60, wrap_i64, ↓evPre, ↓evPreW, evPost, evPostW, ← List.map_take, ← List.map_drop, ↓reduceIte, reduceCtorEq, Nat.reduceEqDiff, forall_const, implies_true, Nat.reduceAdd, Nat.reduceSub, Nat.reduceMul, Nat.reduceLT, Nat.reduceLeDiff, Int.reduceToNat, Int.reduceAdd, Int.reduceSub, Int.reduceNeg, Int.reduceMul, Int.reduceLT, Int.reduceLE, Int.reduceEq]
  refine loopA (ι := Unit) (fun _ => [(2, .int .i64 0), (8, .int .i64 1)]) (fun _ => S) (fun _ => True) (fun _ => 0) () trivial ?_ rfl ?_
  · simp only [↓evPre, ↓evPreW, evPost, evPostW, ← List.map_take, ← List.map_drop, ↓reduceIte, reduceCtorEq, Nat.reduceEqDiff, forall_const, implies_true, Nat.reduceAdd, Nat.reduceSub, Nat.reduceMul, Nat.reduceLT, Nat.reduceLeDiff, Int.reduceToNat, Int.reduceAdd, Int.reduceSub, Int.reduceNeg, Int.reduceMul, Int.reduceLT, Int.reduceLE, Int.reduceEq]
    try rfl
  · rintro _ _
    simp (disch := omega) only [wrap_i64, ↓evPre, ↓evPreW, evPost, evPostW, ← List.map_take, ← List.map_drop, ↓reduceIte, reduceCtorEq, Nat.reduceEqDiff, forall_const, implies_true, Nat.reduceAdd, Nat.reduceSub, Nat.reduceMul, Nat.reduceLT, Nat.reduceLeDiff, Int.reduceToNat, Int.reduceAdd, Int.reduceSub, Int.reduceNeg, Int.reduceMul, Int.reduceLT, Int.reduceLE, Int.reduceEq]
theorem pdq0_A (g : FuncId) (S : Store) : CallA Try.prog 45 [.nilSl, .int .i64 0, .int .i64 0, .int .i64 0, .func g [] []] S fun r S' => r = .tup [] ∧ S' = S := by
  refine CallA.keep Try.func45 c51 (Nat.le_of_ble_eq_true rfl) fun σ hσ => ?_
  simp (disch := omega) only [a51, wrap_i64, ↓evPre, ↓evPreW, evPost, evPostW, ← List.map_take, ← List.map_drop, ↓reduceIte, reduceCtorEq, Nat.reduceEqDiff, forall_const, implies_true, Nat.reduceAdd, Nat.reduceSub, Nat.reduceMul, Nat.reduceLT, Nat.reduceLeDiff, Int.reduceToNat, Int.reduceAdd, Int.reduceSub, Int.reduceNeg, Int.reduceMul, Int.reduceLT, Int.reduceLE, Int.reduceEq]
  refine loopA (ι := Unit) (fun _ => [(0, .nilSl), (1, .int .i64 0), (2, .int .i64 0), (4, .func g [] [])]) (fun _ => S) (fun _ => True) (fun _ => 0) () trivial ?_ rfl ?_
  · simp only [↓evPre, ↓evPreW, evPost, evPostW, ← List.map_take, ← List.map_drop, ↓reduceIte, reduceCtorEq, Nat.reduceEqDiff, forall_const, implies_true, Nat.reduceAdd, Nat.reduceSub, Nat.reduceMul, Nat.reduceLT, Nat.reduceLeDiff, Int.reduceToNat, Int.reduceAdd, Int.reduceSub, Int.reduceNeg, Int.reduceMul, Int.reduceLT, Int.reduceLE, Int.reduceEq]
    try rfl
  · rintro _ _
    simp (disch := omega) only [wrap_i64, ↓evPre, ↓evPreW, evPost, evPostW, ← List.map_take, ← List.map_drop, ↓reduceIte, reduceCtorEq, Nat.reduceEqDiff, forall_const, implies_true, Nat.reduceAdd, Nat.reduceSub, Nat.reduceMul, Nat.reduceLT, Nat.reduceLeDiff, Int.reduceToNat, Int.reduceAdd, Int.reduceSub, Int.reduceNeg, Int.reduceMul, Int.reduceLT, Int.reduceLE, Int.reduceEq]
    refine (ins0_A g S).then ?_
    simp (disch := omega) only [wrap_i64, ↓evPre, ↓evPreW, evPost, evPostW, ← List.map_take, ← List.map_drop, ↓reduceIte, reduceCtorEq, Nat.reduceEqDiff, forall_const, implies_true, Nat.reduceAdd, Nat.reduceSub, Nat.reduceMul, Nat.reduceLT, Nat.reduceLeDiff, Int.reduceToNat, Int.reduceAdd, Int.reduceSub, Int.reduceNeg, Int.reduceMul, Int.reduceLT, Int.reduceLE, Int.reduceEq]
theorem sortNil_A (g : FuncId) (S : Store) : CallA Try.prog 40 [.nilSl, .func g [] []] S fun r S' => r = .tup [] ∧ S' = S := by
  refine CallA.keep Try.func40 c37 (Nat.le_of_ble_eq_true rfl) fun σ hσ => ?_
  simp (disch := omega) only [a37, wrap_u64, ↓evPre, ↓evPreW, evPost, evPostW, ← List.map_take, ← List.map_drop, ↓reduceIte, reduceCtorEq, Nat.reduceEqDiff, forall_const, implies_true, Nat.reduceAdd, Nat.reduceSub, Nat.reduceMul, Nat.reduceLT, Nat.reduceLeDiff, Int.reduceToNat, Int.reduceAdd, Int.reduceSub, Int.reduceNeg, Int.reduceMul, Int.reduceLT, Int.reduceLE, Int.reduceEq]
  refine (len0_A S).then ?_
  simp (disch := omega) only [↓evPre, ↓evPreW, evPost, evPostW, ← List.map_take, ← List.map_drop, ↓reduceIte, reduceCtorEq, Nat.reduceEqDiff, forall_const, implies_true, Nat.reduceAdd, Nat.reduceSub, Nat.reduceMul, Nat.reduceLT, Nat.reduceLeDiff, Int.reduceToNat, Int.reduceAdd, Int.reduceSub, Int.reduceNeg, Int.reduceMul, Int.reduceLT, Int.reduceLE, Int.reduceEq]
  refine (pdq0_A g S).then ?_
  simp (disch := omega) only [↓evPre, ↓evPreW, evPost, evPostW, ← List.map_take, ← List.map_drop, ↓reduceIte, reduceCtorEq, Nat.reduceEqDiff, forall_const, implies_true, Nat.reduceAdd, Nat.reduceSub, Nat.reduceMul, Nat.reduceLT, Nat.reduceLeDiff, Int.reduceToNat, Int.reduceAdd, Int.reduceSub, Int.reduceNeg, Int.reduceMul, Int.reduceLT, Int.reduceLE, Int.reduceEq]

def zHd : Hd := ⟨0, [], [], 0, 0⟩
def zRow : List Value := [.int .i64 0, .slice none 0 0, .string ⟨#[]⟩, .int .i64 0, .int .i64 0]
theorem zCells (ρ : AL.Place) (S : Store) (w : World) : CellsR ρ S w (hdR zHd) zRow := ⟨rfl, fun j v hj => by
  match j, hj with
  | 0, hj => simp [hdR, zHd] at hj; subst hj; exact ⟨_, rfl, .int, rfl⟩
  | 1, hj => simp [hdR, zHd] at hj; subst hj; exact ⟨_, rfl, .slNil, rfl⟩
  | 2, hj => simp [hdR, zHd] at hj; subst hj; exact ⟨_, rfl, .str rfl (by unfold maxLen; exact Nat.zero_le _), rfl⟩
  | 3, hj => simp [hdR, zHd] at hj; subst hj; exact ⟨_, rfl, .int, rfl⟩
  | 4, hj => simp [hdR, zHd] at hj; subst hj; exact ⟨_, rfl, .int, rfl⟩
  | j + 5, hj => simp [hdR, zHd] at hj⟩

theorem sortH_A (l : List Hd) (S : Store) (id ver : Nat) (hl : l.length ≤ 1000000) (hs : S.obj? id ver = some (31, 5, l.map hdR)) :
    CallA Try.prog 40 [.msl id ver 0 l.length, .func 31 [] []] S fun r S' => r = .tup [] ∧ ∃ l' : List Hd, l'.Perm l ∧ (l'.Pairwise fun x y => ltH y x = false) ∧ S' = S.set id ⟨ver, some (.arr 31 5 (l'.map hdR))⟩ := by
  refine (sortG sortL (sz := 5) (by decide) (fun w => Try.isAgg31 w) (fun w => Try.sizeOf31 w) hdR (fun _ => rfl) (fun _ => rfl) zHd zRow zCells cfH swoH 31 (fun x y S => @cmpH_A ⟨True⟩ x y S) ⟨Try.f40, Try.func40, by kernel_rfl, by kernel_rfl⟩ (fun S => sortNil_A _ S) l S id ver hl hs).mono ?_
  rintro r S' ⟨h1, l', h2, h3, h4⟩
  refine ⟨h1, l', h2, h3.imp fun {x y} h => ?_, h4⟩
  unfold ltOf at h
  rwa [cfH_lt] at h
end Go.Proofs.Ythdcajfjglgiiaa
