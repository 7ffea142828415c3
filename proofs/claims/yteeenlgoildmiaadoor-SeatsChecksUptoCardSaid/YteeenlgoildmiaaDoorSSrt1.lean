/- The stable sort, at rows of one cell: swaps and rotations. -/
import Derived.Test.YteeenlgoildmiaaDoorSeatC
namespace Go.Proofs.YteeenlgoildmiaaDoor
open Go Go.AL
set_option linter.unusedSimpArgs false
set_option linter.unusedVariables false
set_option maxHeartbeats 8000000

theorem drop_get {α : Type} {l : List α} {k : Nat} {x : α} (h : l[k]? = some x) : l.drop k = x :: l.drop (k + 1) := by
  rw [List.drop_eq_getElem?_toList_append, h]; rfl
/-- The value of a row of one cell. -/
def hd (r : List V) : V := r.headD .undef
theorem hd_get {r : List V} (h : r.length = 1) : r[0]? = some (hd r) := by
  obtain ⟨a, rfl⟩ := List.length_eq_one_iff.1 h
  rfl
theorem cells_ok {v : V} (h : v.cellOk = true) : v.cells? = some [v] := by cases v <;> first | rfl | cases h
theorem hd_cells {r : List V} (h : r.length = 1) (hc : r.all V.cellOk = true) : (hd r).cells? = some r := by
  obtain ⟨a, rfl⟩ := List.length_eq_one_iff.1 h
  simp only [List.all_cons, List.all_nil, Bool.and_true] at hc
  exact cells_ok hc

/-- Two places changed for each other. -/
def sw {α : Type} (l : List α) (i j : Nat) : List α :=
  match l[i]?, l[j]? with
  | some x, some y => (l.set i y).set j x
  | _, _ => l

theorem sw_length {α : Type} (l : List α) (i j : Nat) : (sw l i j).length = l.length := by
  unfold sw; split <;> simp

def swapN {α : Type} (l : List α) (a b : Nat) : Nat → List α
  | 0 => l
  | n + 1 => sw (swapN l a b n) (a + n) (b + n)

theorem swapN_length {α : Type} (l : List α) (a b : Nat) : ∀ n, (swapN l a b n).length = l.length
  | 0 => rfl
  | n + 1 => by rw [swapN, sw_length, swapN_length l a b n]

theorem sw_mem {α : Type} {l : List α} {i j : Nat} {x : α} (h : x ∈ sw l i j) : x ∈ l := by
  unfold sw at h
  split at h
  · rename_i y z hy hz
    rcases List.mem_or_eq_of_mem_set h with h1 | rfl
    · rcases List.mem_or_eq_of_mem_set h1 with h2 | rfl
      · exact h2
      · exact List.mem_of_getElem? hz
    · exact List.mem_of_getElem? hy
  · exact h

theorem swapN_mem {α : Type} {l : List α} {a b : Nat} {x : α} : ∀ {n : Nat}, x ∈ swapN l a b n → x ∈ l
  | 0, h => h
  | _ + 1, h => swapN_mem (sw_mem h)

/-- Rows of two cells, each of which can be stored. -/
def W2 (rows : List (List V)) : Prop := ∀ r ∈ rows, r.length = 1 ∧ r.all V.cellOk = true

def rset (S : Store) (id ver : Nat) (rows : List (List V)) : Store := S.set id ⟨ver, some (.arr 3 1 rows)⟩

theorem rset_obj {S : Store} {id ver : Nat} {rows : List (List V)} (h : id < S.length) : (rset S id ver rows).obj? id ver = some (3, 1, rows) := by
  simp [rset, Store.obj?, h]
theorem rset_same {S : Store} {id ver : Nat} {rows : List (List V)} (h : S[id]? = some ⟨ver, some (.arr 3 1 rows)⟩) : rset S id ver rows = S := by
  obtain ⟨hlt, he⟩ := List.getElem?_eq_some_iff.1 h
  rw [rset, ← he, List.set_getElem_self]
theorem rset_set {S : Store} {id ver : Nat} {rows rows' : List (List V)} : (rset S id ver rows).set id ⟨ver, some (.arr 3 1 rows')⟩ = rset S id ver rows' := by
  simp [rset]
theorem rset_length {S : Store} {id ver : Nat} {rows : List (List V)} : (rset S id ver rows).length = S.length := by simp [rset]


theorem swapRange_A (rows : List (List V)) (a b n : Nat) (S : Store) (id ver : Nat) (cv : V) (hid : id < S.length) (hw : W2 rows) (hab : a + n ≤ b) (hbn : b + n ≤ rows.length) (hl : rows.length ≤ 1099511627776) :
    CallA Tryd.prog 52 [.msl id ver 0 rows.length, .int .i64 a, .int .i64 b, .int .i64 n, cv] (rset S id ver rows) fun r S' => r = .tup [] ∧ S' = rset S id ver (swapN rows a b n) := by
  refine CallA.keep Tryd.func52 c52 (Nat.le_of_ble_eq_true rfl) fun σ hσ => ?_
  simp only [a52, ↓evPre, ↓evPreV, evPost, evPostV, ← List.map_take, ← List.map_drop, ↓reduceIte, reduceCtorEq, Nat.reduceEqDiff, forall_const, implies_true, Nat.reduceAdd, Nat.reduceSub, Nat.reduceMul, Nat.reduceLT, Nat.reduceLeDiff, Int.reduceToNat, Int.reduceAdd, Int.reduceSub, Int.reduceNeg, Int.reduceMul, Int.reduceLT, Int.reduceLE, Int.reduceEq]
  refine loopA (ι := Nat) (fun k => [(0, .msl id ver 0 rows.length), (1, .int .i64 a), (2, .int .i64 b), (3, .int .i64 n), (10, .int .i64 k)]) (fun k => rset S id ver (swapN rows a b k)) (fun k => k ≤ n) (fun k => n - k) 0 (Nat.zero_le _) ?_ rfl ?_
  · simp only [↓evPre, ↓evPreV, evPost, evPostV, ← List.map_take, ← List.map_drop, ↓reduceIte, reduceCtorEq, Nat.reduceEqDiff, forall_const, implies_true, Nat.reduceAdd, Nat.reduceSub, Nat.reduceMul, Nat.reduceLT, Nat.reduceLeDiff, Int.reduceToNat, Int.reduceAdd, Int.reduceSub, Int.reduceNeg, Int.reduceMul, Int.reduceLT, Int.reduceLE, Int.reduceEq]
  · rintro k hk
    by_cases hlt : k < n
    · have hlt' : (k : Int) < n := by omega
      have hlen := swapN_length rows a b k
      have hx : ∃ x, (swapN rows a b k)[a + k]? = some x := ⟨_, List.getElem?_eq_getElem (by omega)⟩
      have hy : ∃ y, (swapN rows a b k)[b + k]? = some y := ⟨_, List.getElem?_eq_getElem (by omega)⟩
      obtain ⟨x, hx⟩ := hx
      obtain ⟨y, hy⟩ := hy
      obtain ⟨x1, x2⟩ := hw x (swapN_mem (List.mem_of_getElem? hx))
      obtain ⟨y1, y2⟩ := hw y (swapN_mem (List.mem_of_getElem? hy))
      have ho : ∀ rows, (rset S id ver rows).obj? id ver = some (3, 1, rows) := fun rows => rset_obj hid
      have ea : ((a : Int) + k).toNat = a + k := by omega
      have eb : ((b : Int) + k).toNat = b + k := by omega
      have tx : x[0]? = some (hd x) := hd_get x1
      have ty : y[0]? = some (hd y) := hd_get y1
      have dx : x.drop 1 = [] := List.drop_eq_nil_of_le (by omega)
      have dy : y.drop 1 = [] := List.drop_eq_nil_of_le (by omega)
      have hy' : ((swapN rows a b k).set (a + k) y)[b + k]? = some y := by rw [List.getElem?_set_ne (by omega)]; exact hy
      simp (disch := omega) only [hlt', wrap_i64, ho, ea, eb, hx, hy, hy', x1, y1, tx, ty, dx, dy, idxO_some, Nat.le_refl, hd_cells x1 x2, hd_cells y1 y2, rset_set, ↓evPre, ↓evPreV, evPost, evPostV, ← List.map_take, ← List.map_drop, ↓reduceIte, reduceCtorEq, Nat.reduceEqDiff, forall_const, implies_true, Nat.reduceAdd, Nat.reduceSub, Nat.reduceMul, Nat.reduceLT, Nat.reduceLeDiff, Int.reduceToNat, Int.reduceAdd, Int.reduceSub, Int.reduceNeg, Int.reduceMul, Int.reduceLT, Int.reduceLE, Int.reduceEq]
      exact ⟨k + 1, by omega, by omega, by omega, by simp only [swapN, sw, hx, hy]⟩
    · have hlt' : ¬ (k : Int) < n := by omega
      have : k = n := by omega
      subst this
      simp (disch := omega) only [hlt', ↓evPre, ↓evPreV, evPost, evPostV, ← List.map_take, ← List.map_drop, ↓reduceIte, reduceCtorEq, Nat.reduceEqDiff, forall_const, implies_true, Nat.reduceAdd, Nat.reduceSub, Nat.reduceMul, Nat.reduceLT, Nat.reduceLeDiff, Int.reduceToNat, Int.reduceAdd, Int.reduceSub, Int.reduceNeg, Int.reduceMul, Int.reduceLT, Int.reduceLE, Int.reduceEq]

/-- Blocks of the same length change places. -/
theorem swapN_blocks {α : Type} (P A M B Q : List α) (h : A.length = B.length) : swapN (P ++ A ++ M ++ B ++ Q) P.length (P.length + A.length + M.length) A.length = P ++ B ++ M ++ A ++ Q := by
  have key : ∀ k, k ≤ A.length → swapN (P ++ A ++ M ++ B ++ Q) P.length (P.length + A.length + M.length) k = P ++ (B.take k ++ A.drop k) ++ M ++ (A.take k ++ B.drop k) ++ Q := by
    intro k
    induction k with
    | zero => intro _; simp [swapN]
    | succ k ih =>
      intro hk
      rw [swapN, ih (by omega)]
      have ha : A[k]? = some A[k] := List.getElem?_eq_getElem (by omega)
      have hb : B[k]? = some B[k] := List.getElem?_eq_getElem (by omega)
      have e1 : A.drop k = A[k] :: A.drop (k + 1) := drop_get ha
      have e2 : B.drop k = B[k] :: B.drop (k + 1) := drop_get hb
      have t1 : A.take (k + 1) = A.take k ++ [A[k]] := by rw [List.take_add_one, ha]; rfl
      have t2 : B.take (k + 1) = B.take k ++ [B[k]] := by rw [List.take_add_one, hb]; rfl
      have l1 : (A.take k).length = k := by simp; omega
      have l2 : (B.take k).length = k := by simp; omega
      have l3 : (A.drop (k + 1)).length = A.length - (k + 1) := by simp
      rw [e1, e2, t1, t2]
      -- both places, written out
      have f1 : P ++ (B.take k ++ A[k] :: A.drop (k + 1)) ++ M ++ (A.take k ++ B[k] :: B.drop (k + 1)) ++ Q = (P ++ B.take k) ++ A[k] :: ((A.drop (k + 1) ++ M ++ A.take k) ++ B[k] :: (B.drop (k + 1) ++ Q)) := by simp only [List.append_assoc, List.cons_append]
      have p1 : (P ++ B.take k).length = P.length + k := by simp; omega
      have p2 : (A.drop (k + 1) ++ M ++ A.take k).length = A.length - (k + 1) + M.length + k := by simp; omega
      rw [f1]
      have g1 : ((P ++ B.take k) ++ A[k] :: ((A.drop (k + 1) ++ M ++ A.take k) ++ B[k] :: (B.drop (k + 1) ++ Q)))[P.length + k]? = some A[k] := by
        rw [List.getElem?_append_right (by omega), p1]; simp
      have g2 : ((P ++ B.take k) ++ A[k] :: ((A.drop (k + 1) ++ M ++ A.take k) ++ B[k] :: (B.drop (k + 1) ++ Q)))[P.length + A.length + M.length + k]? = some B[k] := by
        rw [List.getElem?_append_right (by omega), p1, show P.length + A.length + M.length + k - (P.length + k) = (A.length - (k + 1) + M.length + k) + 1 by omega, List.getElem?_cons_succ, List.getElem?_append_right (by omega), p2]; simp
      rw [sw, g1, g2]
      simp only
      rw [List.set_append_right _ _ (by omega), p1, Nat.sub_self, List.set_cons_zero, List.set_append_right _ _ (by omega), p1, show P.length + A.length + M.length + k - (P.length + k) = (A.length - (k + 1) + M.length + k) + 1 by omega, List.set_cons_succ,
        List.set_append_right _ _ (by omega), p2, Nat.sub_self, List.set_cons_zero]
      simp only [List.append_assoc, List.cons_append, List.nil_append]
  have := key A.length (Nat.le_refl _)
  rw [this, List.drop_length, List.take_length, h, List.take_length, List.drop_length]
  simp

theorem swapRange_B {rows : List (List V)} {a b n N : Nat} {S : Store} {id ver : Nat} {cv : V} (hN : rows.length = N) (hid : id < S.length) (hw : W2 rows) (hab : a + n ≤ b) (hbn : b + n ≤ N) (hl : N ≤ 1099511627776) {rows' : List (List V)} (he : swapN rows a b n = rows') :
    CallA Tryd.prog 52 [.msl id ver 0 N, .int .i64 a, .int .i64 b, .int .i64 n, cv] (rset S id ver rows) fun r S' => r = .tup [] ∧ S' = rset S id ver rows' := by
  subst hN he
  exact swapRange_A rows a b n S id ver cv hid hw hab hbn hl

structure Rot where
  P : List (List V)
  U : List (List V)
  W : List (List AL.V)
  Q : List (List V)

def Rot.rows (i : Rot) : List (List V) := i.P ++ i.U ++ i.W ++ i.Q
def Rot.done (i : Rot) : List (List V) := i.P ++ i.W ++ i.U ++ i.Q

theorem W2_app {a b : List (List V)} : W2 (a ++ b) ↔ W2 a ∧ W2 b :=
  ⟨fun h => ⟨fun r hr => h r (List.mem_append_left _ hr), fun r hr => h r (List.mem_append_right _ hr)⟩, fun h r hr => (List.mem_append.1 hr).elim (h.1 r) (h.2 r)⟩

theorem rotate_A (P U W Q : List (List V)) (S : Store) (id ver N : Nat) (cv : V) (hid : id < S.length) (hw : W2 (P ++ U ++ W ++ Q)) (hN : (P ++ U ++ W ++ Q).length = N) (hl : N ≤ 1099511627776) (hU : 0 < U.length) (hW : 0 < W.length) :
    CallA Tryd.prog 47 [.msl id ver 0 N, .int .i64 P.length, .int .i64 (P.length + U.length : Nat), .int .i64 (P.length + U.length + W.length : Nat), cv] (rset S id ver (P ++ U ++ W ++ Q)) fun r S' => r = .tup [] ∧ S' = rset S id ver (P ++ W ++ U ++ Q) := by
  refine CallA.keep Tryd.func47 c47 (Nat.le_of_ble_eq_true rfl) fun σ hσ => ?_
  have hN' : P.length + U.length + W.length + Q.length = N := by rw [← hN]; simp; omega
  have e1 : ((P.length + U.length : Nat) : Int) - P.length = U.length := by omega
  have e2 : ((P.length + U.length + W.length : Nat) : Int) - (P.length + U.length : Nat) = W.length := by omega
  simp (disch := omega) only [a47, e1, e2, wrap_i64, ↓evPre, ↓evPreV, evPost, evPostV, ← List.map_take, ← List.map_drop, ↓reduceIte, reduceCtorEq, Nat.reduceEqDiff, forall_const, implies_true, Nat.reduceAdd, Nat.reduceSub, Nat.reduceMul, Nat.reduceLT, Nat.reduceLeDiff, Int.reduceToNat, Int.reduceAdd, Int.reduceSub, Int.reduceNeg, Int.reduceMul, Int.reduceLT, Int.reduceLE, Int.reduceEq]
  refine loopA (ι := Rot) (fun i => [(0, .msl id ver 0 N), (2, .int .i64 (P.length + U.length : Nat)), (4, cv), (10, .int .i64 i.U.length), (11, .int .i64 i.W.length)]) (fun i => rset S id ver i.rows)
    (fun i => i.P.length + i.U.length = P.length + U.length ∧ i.rows.length = N ∧ W2 i.rows ∧ i.done = P ++ W ++ U ++ Q ∧ 0 < i.U.length ∧ 0 < i.W.length) (fun i => i.U.length + i.W.length) ⟨P, U, W, Q⟩ ⟨rfl, hN, hw, rfl, hU, hW⟩ ?_ rfl ?_
  · simp only [↓evPre, ↓evPreV, evPost, evPostV, ← List.map_take, ← List.map_drop, ↓reduceIte, reduceCtorEq, Nat.reduceEqDiff, forall_const, implies_true, Nat.reduceAdd, Nat.reduceSub, Nat.reduceMul, Nat.reduceLT, Nat.reduceLeDiff, Int.reduceToNat, Int.reduceAdd, Int.reduceSub, Int.reduceNeg, Int.reduceMul, Int.reduceLT, Int.reduceLE, Int.reduceEq]
  · rintro ⟨P', U', V', Q'⟩ ⟨h1, h2, h3, h4, h5, h6⟩
    simp only [Rot.rows, Rot.done] at h1 h2 h3 h4 h5 h6 ⊢
    have h2' : P'.length + U'.length + V'.length + Q'.length = N := by rw [← h2]; simp; omega
    have f1 : ((P.length + U.length : Nat) : Int) - U'.length = P'.length := by omega
    rcases Nat.lt_trichotomy U'.length V'.length with hlt | heq | hgt
    · obtain ⟨V1, V2, rfl, hv⟩ : ∃ V1 V2, V' = V1 ++ V2 ∧ V2.length = U'.length := ⟨V'.take (V'.length - U'.length), V'.drop (V'.length - U'.length), (List.take_append_drop _ _).symm, by simp; omega⟩
      simp only [List.length_append] at hlt h2' h6
      have g1 : ¬ ((U'.length : Int) = (V1 ++ V2).length) := by simp; omega
      have g2 : ¬ (((V1 ++ V2).length : Int) < U'.length) := by simp; omega
      have f2 : ((P.length + U.length : Nat) : Int) + (V1 ++ V2).length - U'.length = (P'.length + U'.length + V1.length : Nat) := by simp; omega
      have hb : -9223372036854775808 ≤ ((V1 ++ V2).length : Int) - U'.length ∧ ((V1 ++ V2).length : Int) - U'.length ≤ 9223372036854775807 := by simp; omega
      have hb' : -9223372036854775808 ≤ ((P.length + U.length : Nat) : Int) + (V1 ++ V2).length ∧ ((P.length + U.length : Nat) : Int) + (V1 ++ V2).length ≤ 9223372036854775807 := by simp; omega
      simp (disch := omega) only [g1, g2, f1, f2, wrap_i64, ↓evPre, ↓evPreV, evPost, evPostV, ← List.map_take, ← List.map_drop, ↓reduceIte, reduceCtorEq, Nat.reduceEqDiff, forall_const, implies_true, Nat.reduceAdd, Nat.reduceSub, Nat.reduceMul, Nat.reduceLT, Nat.reduceLeDiff, Int.reduceToNat, Int.reduceAdd, Int.reduceSub, Int.reduceNeg, Int.reduceMul, Int.reduceLT, Int.reduceLE, Int.reduceEq]
      refine (swapRange_B (rows := P' ++ U' ++ (V1 ++ V2) ++ Q') (rows' := P' ++ V2 ++ V1 ++ U' ++ Q') h2 hid h3 (by omega) (by omega) hl ?_).mono ?_
      · have := swapN_blocks P' U' V1 V2 Q' hv.symm
        rw [← List.append_assoc (P' ++ U') V1 V2]
        exact this
      · rintro r S' ⟨rfl, rfl⟩
        refine ⟨⟨P', V2, V1, U' ++ Q'⟩, ⟨by simp only; omega, by simp; omega, ?_, by rw [← h4]; simp, by simp only; omega, by simp only; omega⟩, by simp; omega, ⟨by simp; omega, by simp; omega⟩, by simp⟩
        simp only [W2_app] at h3 ⊢
        simp [h3]
    · have g1 : (U'.length : Int) = V'.length := by omega
      have f1' : ((P.length + U.length : Nat) : Int) - V'.length = P'.length := by omega
      simp (disch := omega) only [g1, f1', wrap_i64, ↓evPre, ↓evPreV, evPost, evPostV, ← List.map_take, ← List.map_drop, ↓reduceIte, reduceCtorEq, Nat.reduceEqDiff, forall_const, implies_true, Nat.reduceAdd, Nat.reduceSub, Nat.reduceMul, Nat.reduceLT, Nat.reduceLeDiff, Int.reduceToNat, Int.reduceAdd, Int.reduceSub, Int.reduceNeg, Int.reduceMul, Int.reduceLT, Int.reduceLE, Int.reduceEq]
      have hm : P.length + U.length = P'.length + U'.length + ([] : List (List V)).length := by simp; omega
      refine (swapRange_B (rows := P' ++ U' ++ V' ++ Q') (rows' := P ++ W ++ U ++ Q) h2 hid h3 (by omega) (by omega) hl ?_).mono ?_
      · have := swapN_blocks P' U' [] V' Q' heq
        rw [hm, ← heq]
        simp only [List.append_nil] at this
        rw [this, ← h4]
      · rintro r S' ⟨rfl, rfl⟩
        rfl
    · obtain ⟨U1, U2, rfl, hu⟩ : ∃ U1 U2, U' = U1 ++ U2 ∧ U1.length = V'.length := ⟨U'.take V'.length, U'.drop V'.length, (List.take_append_drop _ _).symm, by simp; omega⟩
      simp only [List.length_append] at hgt h2' h5
      have g1 : ¬ (((U1 ++ U2).length : Int) = V'.length) := by simp; omega
      have g2 : ((V'.length : Int) < (U1 ++ U2).length) := by simp; omega
      have hb : -9223372036854775808 ≤ ((U1 ++ U2).length : Int) - V'.length ∧ ((U1 ++ U2).length : Int) - V'.length ≤ 9223372036854775807 := by simp; omega
      simp (disch := omega) only [g1, g2, f1, wrap_i64, ↓evPre, ↓evPreV, evPost, evPostV, ← List.map_take, ← List.map_drop, ↓reduceIte, reduceCtorEq, Nat.reduceEqDiff, forall_const, implies_true, Nat.reduceAdd, Nat.reduceSub, Nat.reduceMul, Nat.reduceLT, Nat.reduceLeDiff, Int.reduceToNat, Int.reduceAdd, Int.reduceSub, Int.reduceNeg, Int.reduceMul, Int.reduceLT, Int.reduceLE, Int.reduceEq]
      simp only [List.length_append] at h1
      have hm : P.length + U.length = P'.length + U1.length + U2.length := by omega
      refine (swapRange_B (rows := P' ++ (U1 ++ U2) ++ V' ++ Q') (rows' := P' ++ V' ++ U2 ++ U1 ++ Q') h2 hid h3 (by omega) (by omega) hl ?_).mono ?_
      · have := swapN_blocks P' U1 U2 V' Q' hu
        rw [hm, ← hu, ← List.append_assoc P' U1 U2]
        exact this
      · rintro r S' ⟨rfl, rfl⟩
        refine ⟨⟨P' ++ V', U2, U1, Q'⟩, ⟨by simp; omega, by simp; omega, ?_, by rw [← h4]; simp, by simp only; omega, by simp only; omega⟩, by simp; omega, ⟨by simp; omega, by simp; omega⟩, by simp⟩
        simp only [W2_app] at h3 ⊢
        simp [h3]
end Go.Proofs.YteeenlgoildmiaaDoor
