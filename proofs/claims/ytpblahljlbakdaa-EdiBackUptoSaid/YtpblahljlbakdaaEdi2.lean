/- The builder. -/
import Derived.Test.YtpblahljlbakdaaEdi1
namespace Go.Proofs.Ytpblahljlbakdaa
open Go Go.AL
set_option linter.unusedSimpArgs false

def bx (p b : V) : AL.Obj := ⟨0, some (.arr 44 2 [[p, b]])⟩

/-- The builder's cells, and its buffer among the objects behind it. -/
def Bld (S T : Store) (p b : V) (bs : List UInt8) : Prop :=
  (p = .nilPtr ∧ b = .nilSl ∧ bs = []) ∨ (p = .ptr S.length 0 0 0 ∧ ∃ j v, b = .msl (S.length + (j + 1)) v 0 bs.length ∧ T.obj? j v = some (5, 1, strRows bs))

theorem strRows_len (l : List UInt8) : (strRows l).length = l.length := by simp [strRows]
theorem strRows_app (l m : List UInt8) : strRows (l ++ m) = strRows l ++ strRows m := by simp [strRows]

theorem copy_fresh (b : V) (S T : Store) : CallA Try.prog 40 [.ptr S.length 0 0 0] (S ++ ⟨0, some (.arr 44 2 [[.nilPtr, b]])⟩ :: T) fun r S' => r = .tup [] ∧ S' = S ++ ⟨0, some (.arr 44 2 [[.ptr S.length 0 0 0, b]])⟩ :: T := by
  refine CallA.keep Try.func40 c40 (Nat.le_of_ble_eq_true rfl) fun σ hσ => ?_
  simp (disch := first | omega | (simp only [List.length_cons, List.length_nil, List.length_map, List.length_drop]; omega)) only [a40, ob_app, ob_app0, ob_cons, ob_head, se_app, se_app0, se_cons, se_head, toUO_some, frUO_some, eqO_some, ↓evPre, ↓evPreW, evPost, evPostW, ← List.map_take, ← List.map_drop, ↓reduceIte, reduceCtorEq, Nat.reduceEqDiff, forall_const, implies_true, Nat.reduceAdd, Nat.reduceSub, Nat.reduceMul, Nat.reduceLT, Nat.reduceLeDiff, Int.reduceToNat, Int.reduceAdd, Int.reduceSub, Int.reduceNeg, Int.reduceMul, Int.reduceLT, Int.reduceLE, Int.reduceEq]

theorem copy_used (b : V) (S T : Store) : CallA Try.prog 40 [.ptr S.length 0 0 0] (S ++ ⟨0, some (.arr 44 2 [[.ptr S.length 0 0 0, b]])⟩ :: T) fun r S' => r = .tup [] ∧ S' = S ++ ⟨0, some (.arr 44 2 [[.ptr S.length 0 0 0, b]])⟩ :: T := by
  refine CallA.keep Try.func40 c40 (Nat.le_of_ble_eq_true rfl) fun σ hσ => ?_
  simp (disch := first | omega | (simp only [List.length_cons, List.length_nil, List.length_map, List.length_drop]; omega)) only [a40, ob_app, ob_app0, ob_cons, ob_head, se_app, se_app0, se_cons, se_head, toUO_some, frUO_some, eqO_some, ↓evPre, ↓evPreW, evPost, evPostW, ← List.map_take, ← List.map_drop, ↓reduceIte, reduceCtorEq, Nat.reduceEqDiff, forall_const, implies_true, Nat.reduceAdd, Nat.reduceSub, Nat.reduceMul, Nat.reduceLT, Nat.reduceLeDiff, Int.reduceToNat, Int.reduceAdd, Int.reduceSub, Int.reduceNeg, Int.reduceMul, Int.reduceLT, Int.reduceLE, Int.reduceEq]

theorem copy_A {S T : Store} {p b : V} {bs : List UInt8} (h : Bld S T p b bs) : CallA Try.prog 40 [.ptr S.length 0 0 0] (S ++ ⟨0, some (.arr 44 2 [[p, b]])⟩ :: T) fun r S' => r = .tup [] ∧ S' = S ++ ⟨0, some (.arr 44 2 [[.ptr S.length 0 0 0, b]])⟩ :: T := by
  rcases h with ⟨rfl, _⟩ | ⟨rfl, _⟩
  · exact copy_fresh b S T
  · exact copy_used b S T

/-- Objects of other types stand. -/
def Keeps (T T' : Store) : Prop := ∀ k v t sz rows, t ≠ 5 → T.obj? k v = some (t, sz, rows) → T'.obj? k v = some (t, sz, rows)

theorem Keeps.refl (T : Store) : Keeps T T := fun _ _ _ _ _ _ h => h
theorem Keeps.trans {T T' T'' : Store} (h : Keeps T T') (h' : Keeps T' T'') : Keeps T T'' := fun k v t sz rows ht ho => h' k v t sz rows ht (h k v t sz rows ht ho)
theorem obj_lt {T : Store} {k v : Nat} {x : TypeId × Nat × List (List V)} (h : T.obj? k v = some x) : k < T.length := by
  obtain ⟨t, sz, rows⟩ := x
  exact (List.getElem?_eq_some_iff.1 (obj_some h)).1
theorem Keeps.push (T : Store) (o : AL.Obj) : Keeps T (T ++ [o]) := fun k v t sz rows _ h => by rw [ob_low (obj_lt h)]; exact h
theorem Keeps.set {T : Store} {j v v' : Nat} {rows rows' : List (List V)} (h : T.obj? j v = some (5, 1, rows)) : Keeps T (T.set j ⟨v', some (.arr 5 1 rows')⟩) := fun k u t sz rs ht ho => by
  by_cases hk : k = j
  · subst hk
    have h1 := obj_some h
    have h2 := obj_some ho
    rw [h1] at h2
    cases h2
    exact absurd rfl ht
  · simp only [Store.obj?] at ho ⊢
    rw [List.getElem?_set_ne (Ne.symm hk)]
    exact ho

theorem obj_set {T : Store} {j v v' : Nat} {x : TypeId × Nat × List (List V)} {t : TypeId} {sz : Nat} {rows : List (List V)} (h : T.obj? j v = some x) : Store.obj? (T.set j ⟨v', some (.arr t sz rows)⟩) j v' = some (t, sz, rows) := by
  simp [Store.obj?, List.getElem?_set_self (obj_lt h)]
theorem obj_push {T : Store} {v : Nat} {t : TypeId} {sz : Nat} {rows : List (List V)} : (T ++ [⟨v, some (.arr t sz rows)⟩] : Store).obj? T.length v = some (t, sz, rows) := by
  simp [Store.obj?]

def Wrote (S T : Store) (bs : List UInt8) (S' : Store) : Prop := ∃ T' p' b', S' = S ++ ⟨0, some (.arr 44 2 [[p', b']])⟩ :: T' ∧ Bld S T' p' b' bs ∧ Keeps T T'

theorem Bld.pushed {S T : Store} {bs : List UInt8} (p : V) (hp : p = .ptr S.length 0 0 0) : Wrote S T bs (S ++ ⟨0, some (.arr 44 2 [[p, .msl (S.length + (T.length + 1)) 0 0 bs.length]])⟩ :: (T ++ [⟨0, some (.arr 5 1 (strRows bs))⟩])) :=
  ⟨_, _, _, rfl, .inr ⟨hp, _, _, rfl, obj_push⟩, Keeps.push _ _⟩
theorem Bld.grown {S T : Store} {bs bs' : List UInt8} {j v : Nat} (h : T.obj? j v = some (5, 1, strRows bs)) (p : V) (hp : p = .ptr S.length 0 0 0) :
    Wrote S T bs' (S ++ ⟨0, some (.arr 44 2 [[p, .msl (S.length + (j + 1)) (v + 1) 0 bs'.length]])⟩ :: T.set j ⟨v + 1, some (.arr 5 1 (strRows bs'))⟩) :=
  ⟨_, _, _, rfl, .inr ⟨hp, _, _, rfl, obj_set h⟩, Keeps.set h⟩

theorem writeS_A {S T : Store} {p b : V} {bs : List UInt8} (h : Bld S T p b bs) (l : List UInt8) (hl : bs.length + l.length ≤ 4294967296) :
    CallA Try.prog 20 [.ptr S.length 0 0 0, .str l] (S ++ ⟨0, some (.arr 44 2 [[p, b]])⟩ :: T) fun r S' => r = .tup [.int .i64 l.length, .nilIface] ∧ Wrote S T (bs ++ l) S' := by
  refine CallA.keep Try.func20 c20 (Nat.le_of_ble_eq_true rfl) fun σ hσ => ?_
  simp (disch := first | omega | (simp only [List.length_cons, List.length_nil, List.length_map, List.length_drop]; omega)) only [a20, ob_app, ob_app0, ob_cons, ob_head, se_app, se_app0, se_cons, se_head, ↓evPre, ↓evPreW, evPost, evPostW, ← List.map_take, ← List.map_drop, ↓reduceIte, reduceCtorEq, Nat.reduceEqDiff, forall_const, implies_true, Nat.reduceAdd, Nat.reduceSub, Nat.reduceMul, Nat.reduceLT, Nat.reduceLeDiff, Int.reduceToNat, Int.reduceAdd, Int.reduceSub, Int.reduceNeg, Int.reduceMul, Int.reduceLT, Int.reduceLE, Int.reduceEq]
  refine (copy_A h).mono ?_
  rintro _ _ ⟨rfl, rfl⟩
  rcases h with ⟨rfl, rfl, rfl⟩ | ⟨rfl, j, v, rfl, ho⟩
  · simp (disch := first | omega | (simp only [List.length_cons, List.length_nil, List.length_map, List.length_drop]; omega)) only [ob_app, ob_app0, ob_cons, ob_head, se_app, se_app0, se_cons, se_head, srcS, strRows_len, ap_app, List.cons_append, le_app, List.length_cons, roomA, ↓evPre, ↓evPreW, evPost, evPostW, ← List.map_take, ← List.map_drop, ↓reduceIte, reduceCtorEq, Nat.reduceEqDiff, forall_const, implies_true, Nat.reduceAdd, Nat.reduceSub, Nat.reduceMul, Nat.reduceLT, Nat.reduceLeDiff, Int.reduceToNat, Int.reduceAdd, Int.reduceSub, Int.reduceNeg, Int.reduceMul, Int.reduceLT, Int.reduceLE, Int.reduceEq]
    exact ⟨by simpa using hl, Bld.pushed _ rfl⟩
  · simp (disch := first | omega | (simp only [List.length_cons, List.length_nil, List.length_map, List.length_drop]; omega)) only [ob_app, ob_app0, ob_cons, ob_head, se_app, se_app0, se_cons, se_head, srcS, strRows_len, ap_app, List.cons_append, le_app, List.length_cons, roomA, ho, ↓evPre, ↓evPreW, evPost, evPostW, ← List.map_take, ← List.map_drop, ↓reduceIte, reduceCtorEq, Nat.reduceEqDiff, forall_const, implies_true, Nat.reduceAdd, Nat.reduceSub, Nat.reduceMul, Nat.reduceLT, Nat.reduceLeDiff, Int.reduceToNat, Int.reduceAdd, Int.reduceSub, Int.reduceNeg, Int.reduceMul, Int.reduceLT, Int.reduceLE, Int.reduceEq]
    refine ⟨hl, ?_⟩
    rw [← strRows_app, ← List.length_append]
    exact Bld.grown ho _ rfl
theorem strRows_one (c : UInt8) : [[V.int .u8 (c.toNat : Int)]] = strRows [c] := rfl

theorem writeB_A {S T : Store} {p b : V} {bs : List UInt8} (h : Bld S T p b bs) (c : UInt8) (hl : bs.length + 1 ≤ 4294967296) :
    CallA Try.prog 21 [.ptr S.length 0 0 0, .int .u8 c.toNat] (S ++ ⟨0, some (.arr 44 2 [[p, b]])⟩ :: T) fun r S' => r = .nilIface ∧ Wrote S T (bs ++ [c]) S' := by
  refine CallA.keep Try.func21 c21 (Nat.le_of_ble_eq_true rfl) fun σ hσ => ?_
  simp (disch := first | omega | (simp only [List.length_cons, List.length_nil, List.length_map, List.length_drop]; omega)) only [a21, ob_app, ob_app0, ob_cons, ob_head, se_app, se_app0, se_cons, se_head, ↓evPre, ↓evPreW, evPost, evPostW, ← List.map_take, ← List.map_drop, ↓reduceIte, reduceCtorEq, Nat.reduceEqDiff, forall_const, implies_true, Nat.reduceAdd, Nat.reduceSub, Nat.reduceMul, Nat.reduceLT, Nat.reduceLeDiff, Int.reduceToNat, Int.reduceAdd, Int.reduceSub, Int.reduceNeg, Int.reduceMul, Int.reduceLT, Int.reduceLE, Int.reduceEq]
  refine (copy_A h).mono ?_
  rintro _ _ ⟨rfl, rfl⟩
  rcases h with ⟨rfl, rfl, rfl⟩ | ⟨rfl, j, v, rfl, ho⟩
  · simp (disch := first | omega | (simp only [List.length_cons, List.length_nil, List.length_map, List.length_drop]; omega)) only [ob_app, ob_app0, ob_cons, ob_head, se_app, se_app0, se_cons, se_head, srcS, strRows_len, ap_app, List.cons_append, le_app, List.length_cons, List.length_nil, roomA, ↓evPre, ↓evPreW, evPost, evPostW, ← List.map_take, ← List.map_drop, ↓reduceIte, reduceCtorEq, Nat.reduceEqDiff, forall_const, implies_true, Nat.reduceAdd, Nat.reduceSub, Nat.reduceMul, Nat.reduceLT, Nat.reduceLeDiff, Int.reduceToNat, Int.reduceAdd, Int.reduceSub, Int.reduceNeg, Int.reduceMul, Int.reduceLT, Int.reduceLE, Int.reduceEq]
    exact Bld.pushed (bs := [c]) _ rfl
  · simp (disch := first | omega | (simp only [List.length_cons, List.length_nil, List.length_map, List.length_drop]; omega)) only [ob_app, ob_app0, ob_cons, ob_head, se_app, se_app0, se_cons, se_head, srcS, strRows_len, ap_app, List.cons_append, le_app, List.length_cons, List.length_nil, roomA, ho, ↓evPre, ↓evPreW, evPost, evPostW, ← List.map_take, ← List.map_drop, ↓reduceIte, reduceCtorEq, Nat.reduceEqDiff, forall_const, implies_true, Nat.reduceAdd, Nat.reduceSub, Nat.reduceMul, Nat.reduceLT, Nat.reduceLeDiff, Int.reduceToNat, Int.reduceAdd, Int.reduceSub, Int.reduceNeg, Int.reduceMul, Int.reduceLT, Int.reduceLE, Int.reduceEq]
    refine ⟨by omega, ?_⟩
    have := Bld.grown (S := S) (bs' := bs ++ [c]) ho (.ptr S.length 0 0 0) rfl
    rw [strRows_app, List.length_append] at this
    exact this

theorem len_A {S T : Store} {p b : V} {bs : List UInt8} (h : Bld S T p b bs) : CallA Try.prog 23 [.ptr S.length 0 0 0] (S ++ ⟨0, some (.arr 44 2 [[p, b]])⟩ :: T) fun r S' => r = .int .i64 bs.length ∧ S' = S ++ ⟨0, some (.arr 44 2 [[p, b]])⟩ :: T := by
  refine CallA.keep Try.func23 c23 (Nat.le_of_ble_eq_true rfl) fun σ hσ => ?_
  rcases h with ⟨rfl, rfl, rfl⟩ | ⟨rfl, j, v, rfl, ho⟩
  · simp (disch := first | omega | (simp only [List.length_cons, List.length_nil, List.length_map, List.length_drop]; omega)) only [a23, ob_app, ob_app0, ob_cons, ob_head, se_app, se_app0, se_cons, se_head, List.length_nil, ↓evPre, ↓evPreW, evPost, evPostW, ← List.map_take, ← List.map_drop, ↓reduceIte, reduceCtorEq, Nat.reduceEqDiff, forall_const, implies_true, Nat.reduceAdd, Nat.reduceSub, Nat.reduceMul, Nat.reduceLT, Nat.reduceLeDiff, Int.reduceToNat, Int.reduceAdd, Int.reduceSub, Int.reduceNeg, Int.reduceMul, Int.reduceLT, Int.reduceLE, Int.reduceEq]
  · simp (disch := first | omega | (simp only [List.length_cons, List.length_nil, List.length_map, List.length_drop]; omega)) only [a23, ob_app, ob_app0, ob_cons, ob_head, se_app, se_app0, se_cons, se_head, ho, ↓evPre, ↓evPreW, evPost, evPostW, ← List.map_take, ← List.map_drop, ↓reduceIte, reduceCtorEq, Nat.reduceEqDiff, forall_const, implies_true, Nat.reduceAdd, Nat.reduceSub, Nat.reduceMul, Nat.reduceLT, Nat.reduceLeDiff, Int.reduceToNat, Int.reduceAdd, Int.reduceSub, Int.reduceNeg, Int.reduceMul, Int.reduceLT, Int.reduceLE, Int.reduceEq]

theorem string_A {S T : Store} {p b : V} {bs : List UInt8} (h : Bld S T p b bs) (hn : bs ≠ [] ∨ p = .nilPtr) : CallA Try.prog 24 [.ptr S.length 0 0 0] (S ++ ⟨0, some (.arr 44 2 [[p, b]])⟩ :: T) fun r S' => r = .str bs ∧ ∃ L, S' = S ++ L := by
  refine CallA.keep Try.func24 c24 (Nat.le_of_ble_eq_true rfl) fun σ hσ => ?_
  rcases h with ⟨rfl, rfl, rfl⟩ | ⟨rfl, j, v, rfl, ho⟩
  · simp (disch := first | omega | (simp only [List.length_cons, List.length_nil, List.length_map, List.length_drop]; omega)) only [a24, ob_app, ob_app0, ob_cons, ob_head, se_app, se_app0, se_cons, se_head, List.length_nil, uStrK, ↓evPre, ↓evPreW, evPost, evPostW, ← List.map_take, ← List.map_drop, ↓reduceIte, reduceCtorEq, Nat.reduceEqDiff, forall_const, implies_true, Nat.reduceAdd, Nat.reduceSub, Nat.reduceMul, Nat.reduceLT, Nat.reduceLeDiff, Int.reduceToNat, Int.reduceAdd, Int.reduceSub, Int.reduceNeg, Int.reduceMul, Int.reduceLT, Int.reduceLE, Int.reduceEq]
    exact ⟨_, rfl⟩
  · have hne : bs ≠ [] := by rcases hn with h | h; exact h; cases h
    have hpos : 0 < bs.length := List.length_pos_iff.2 hne
    simp (disch := first | omega | (simp only [List.length_cons, List.length_nil, List.length_map, List.length_drop]; omega)) only [a24, ob_app, ob_app0, ob_cons, ob_head, se_app, se_app0, se_cons, se_head, ho, hpos, sdatO_some, uStrK, ↓evPre, ↓evPreW, evPost, evPostW, ← List.map_take, ← List.map_drop, ↓reduceIte, reduceCtorEq, Nat.reduceEqDiff, forall_const, implies_true, Nat.reduceAdd, Nat.reduceSub, Nat.reduceMul, Nat.reduceLT, Nat.reduceLeDiff, Int.reduceToNat, Int.reduceAdd, Int.reduceSub, Int.reduceNeg, Int.reduceMul, Int.reduceLT, Int.reduceLE, Int.reduceEq]
    exact ⟨bs, rfl, rfl, hne, rfl, _, rfl⟩
end Go.Proofs.Ytpblahljlbakdaa
