/- The stable sort of 'slices', at rows of two cells: what its parts do to the rows. -/
import Derived.Test.YtoidchljifelgaaBid2
namespace Go.Proofs.Ytoidchljifelgaa
open Go Go.AL
set_option linter.unusedSimpArgs false

/-- Two places changed for each other. -/
def sw {α : Type} (l : List α) (i j : Nat) : List α :=
  match l[i]?, l[j]? with
  | some x, some y => (l.set i y).set j x
  | _, _ => l

theorem sw_length {α : Type} (l : List α) (i j : Nat) : (sw l i j).length = l.length := by
  unfold sw; split <;> simp

def swapN {α : Type} (l : List α) (a b : Nat) : Nat → List α
  | 0 => l
  | n + 1 => sw (swapN l a b n) (a + n) (b + n)

theorem swapN_length {α : Type} (l : List α) (a b : Nat) : ∀ n, (swapN l a b n).length = l.length
  | 0 => rfl
  | n + 1 => by rw [swapN, sw_length, swapN_length l a b n]

theorem sw_mem {α : Type} {l : List α} {i j : Nat} {x : α} (h : x ∈ sw l i j) : x ∈ l := by
  unfold sw at h
  split at h
  · rename_i y z hy hz
    rcases List.mem_or_eq_of_mem_set h with h1 | rfl
    · rcases List.mem_or_eq_of_mem_set h1 with h2 | rfl
      · exact h2
      · exact List.mem_of_getElem? hz
    · exact List.mem_of_getElem? hy
  · exact h

theorem swapN_mem {α : Type} {l : List α} {a b : Nat} {x : α} : ∀ {n : Nat}, x ∈ swapN l a b n → x ∈ l
  | 0, h => h
  | _ + 1, h => swapN_mem (sw_mem h)

/-- Rows of two cells, each of which can be stored. -/
def W2 (rows : List (List V)) : Prop := ∀ r ∈ rows, r.length = 2 ∧ r.all V.cellOk = true

def rset (S : Store) (id ver : Nat) (rows : List (List V)) : Store := S.set id ⟨ver, some (.arr 40 2 rows)⟩

theorem rset_obj {S : Store} {id ver : Nat} {rows : List (List V)} (h : id < S.length) : (rset S id ver rows).obj? id ver = some (40, 2, rows) := by
  simp [rset, Store.obj?, h]
theorem rset_same {S : Store} {id ver : Nat} {rows : List (List V)} (h : S[id]? = some ⟨ver, some (.arr 40 2 rows)⟩) : rset S id ver rows = S := by
  obtain ⟨hlt, he⟩ := List.getElem?_eq_some_iff.1 h
  rw [rset, ← he, List.set_getElem_self]
theorem rset_set {S : Store} {id ver : Nat} {rows rows' : List (List V)} : (rset S id ver rows).set id ⟨ver, some (.arr 40 2 rows')⟩ = rset S id ver rows' := by
  simp [rset]
theorem rset_length {S : Store} {id ver : Nat} {rows : List (List V)} : (rset S id ver rows).length = S.length := by simp [rset]

theorem agg_cells {r : List V} (h : r.all V.cellOk = true) : (V.agg r).cells? = some r := by simp [V.cells?, h]
theorem splice_row {r q : List V} (hr : r.length = 2) (hq : q.length = 2) : splice r 0 q = q := by
  simp [splice, hr, hq]

theorem swapRange_A (rows : List (List V)) (a b n : Nat) (S : Store) (id ver : Nat) (cv : V) (hid : id < S.length) (hw : W2 rows) (hab : a + n ≤ b) (hbn : b + n ≤ rows.length) (hl : rows.length ≤ 1099511627776) :
    CallA Try.prog 31 [.msl id ver 0 rows.length, .int .i64 a, .int .i64 b, .int .i64 n, cv] (rset S id ver rows) fun r S' => r = .tup [] ∧ S' = rset S id ver (swapN rows a b n) := by
  refine CallA.keep Try.func31 c31 (Nat.le_of_ble_eq_true rfl) fun σ hσ => ?_
  simp only [a31, ↓evPre, ↓evPreV, evPost, evPostV, ← List.map_take, ← List.map_drop, ↓reduceIte, reduceCtorEq, Nat.reduceEqDiff, forall_const, implies_true, Nat.reduceAdd, Nat.reduceSub, Nat.reduceMul, Nat.reduceLT, Nat.reduceLeDiff, Int.reduceToNat, Int.reduceAdd, Int.reduceSub, Int.reduceNeg, Int.reduceMul, Int.reduceLT, Int.reduceLE, Int.reduceEq]
  refine loopA (ι := Nat) (fun k => [(0, .msl id ver 0 rows.length), (1, .int .i64 a), (2, .int .i64 b), (3, .int .i64 n), (10, .int .i64 k)]) (fun k => rset S id ver (swapN rows a b k)) (fun k => k ≤ n) (fun k => n - k) 0 (Nat.zero_le _) ?_ rfl ?_
  · simp only [↓evPre, ↓evPreV, evPost, evPostV, ← List.map_take, ← List.map_drop, ↓reduceIte, reduceCtorEq, Nat.reduceEqDiff, forall_const, implies_true, Nat.reduceAdd, Nat.reduceSub, Nat.reduceMul, Nat.reduceLT, Nat.reduceLeDiff, Int.reduceToNat, Int.reduceAdd, Int.reduceSub, Int.reduceNeg, Int.reduceMul, Int.reduceLT, Int.reduceLE, Int.reduceEq]
  · rintro k hk
    by_cases hlt : k < n
    · have hlt' : (k : Int) < n := by omega
      have hlen := swapN_length rows a b k
      have hx : ∃ x, (swapN rows a b k)[a + k]? = some x := ⟨_, List.getElem?_eq_getElem (by omega)⟩
      have hy : ∃ y, (swapN rows a b k)[b + k]? = some y := ⟨_, List.getElem?_eq_getElem (by omega)⟩
      obtain ⟨x, hx⟩ := hx
      obtain ⟨y, hy⟩ := hy
      obtain ⟨x1, x2⟩ := hw x (swapN_mem (List.mem_of_getElem? hx))
      obtain ⟨y1, y2⟩ := hw y (swapN_mem (List.mem_of_getElem? hy))
      have ho : ∀ rows, (rset S id ver rows).obj? id ver = some (40, 2, rows) := fun rows => rset_obj hid
      have ea : ((a : Int) + k).toNat = a + k := by omega
      have eb : ((b : Int) + k).toNat = b + k := by omega
      have tx : x.take 2 = x := List.take_of_length_le (by omega)
      have ty : y.take 2 = y := List.take_of_length_le (by omega)
      have dx : x.drop 2 = [] := List.drop_eq_nil_of_le (by omega)
      have dy : y.drop 2 = [] := List.drop_eq_nil_of_le (by omega)
      have hy' : ((swapN rows a b k).set (a + k) y)[b + k]? = some y := by rw [List.getElem?_set_ne (by omega)]; exact hy
      simp (disch := omega) only [hlt', wrap_i64, ho, ea, eb, hx, hy, hy', x1, y1, tx, ty, dx, dy, idxO_some, ldnR_some, Nat.le_refl, agg_cells x2, agg_cells y2, rset_set, ↓evPre, ↓evPreV, evPost, evPostV, ← List.map_take, ← List.map_drop, ↓reduceIte, reduceCtorEq, Nat.reduceEqDiff, forall_const, implies_true, Nat.reduceAdd, Nat.reduceSub, Nat.reduceMul, Nat.reduceLT, Nat.reduceLeDiff, Int.reduceToNat, Int.reduceAdd, Int.reduceSub, Int.reduceNeg, Int.reduceMul, Int.reduceLT, Int.reduceLE, Int.reduceEq]
      exact ⟨k + 1, by omega, by omega, by omega, by simp only [swapN, sw, hx, hy]⟩
    · have hlt' : ¬ (k : Int) < n := by omega
      have : k = n := by omega
      subst this
      simp (disch := omega) only [hlt', ↓evPre, ↓evPreV, evPost, evPostV, ← List.map_take, ← List.map_drop, ↓reduceIte, reduceCtorEq, Nat.reduceEqDiff, forall_const, implies_true, Nat.reduceAdd, Nat.reduceSub, Nat.reduceMul, Nat.reduceLT, Nat.reduceLeDiff, Int.reduceToNat, Int.reduceAdd, Int.reduceSub, Int.reduceNeg, Int.reduceMul, Int.reduceLT, Int.reduceLE, Int.reduceEq]

/-- Blocks of the same length change places. -/
theorem swapN_blocks {α : Type} (P A M B Q : List α) (h : A.length = B.length) : swapN (P ++ A ++ M ++ B ++ Q) P.length (P.length + A.length + M.length) A.length = P ++ B ++ M ++ A ++ Q := by
  have key : ∀ k, k ≤ A.length → swapN (P ++ A ++ M ++ B ++ Q) P.length (P.length + A.length + M.length) k = P ++ (B.take k ++ A.drop k) ++ M ++ (A.take k ++ B.drop k) ++ Q := by
    intro k
    induction k with
    | zero => intro _; simp [swapN]
    | succ k ih =>
      intro hk
      rw [swapN, ih (by omega)]
      have ha : A[k]? = some A[k] := List.getElem?_eq_getElem (by omega)
      have hb : B[k]? = some B[k] := List.getElem?_eq_getElem (by omega)
      have e1 : A.drop k = A[k] :: A.drop (k + 1) := drop_get ha
      have e2 : B.drop k = B[k] :: B.drop (k + 1) := drop_get hb
      have t1 : A.take (k + 1) = A.take k ++ [A[k]] := by rw [List.take_add_one, ha]; rfl
      have t2 : B.take (k + 1) = B.take k ++ [B[k]] := by rw [List.take_add_one, hb]; rfl
      have l1 : (A.take k).length = k := by simp; omega
      have l2 : (B.take k).length = k := by simp; omega
      have l3 : (A.drop (k + 1)).length = A.length - (k + 1) := by simp
      rw [e1, e2, t1, t2]
      -- both places, written out
      have f1 : P ++ (B.take k ++ A[k] :: A.drop (k + 1)) ++ M ++ (A.take k ++ B[k] :: B.drop (k + 1)) ++ Q = (P ++ B.take k) ++ A[k] :: ((A.drop (k + 1) ++ M ++ A.take k) ++ B[k] :: (B.drop (k + 1) ++ Q)) := by simp only [List.append_assoc, List.cons_append]
      have p1 : (P ++ B.take k).length = P.length + k := by simp; omega
      have p2 : (A.drop (k + 1) ++ M ++ A.take k).length = A.length - (k + 1) + M.length + k := by simp; omega
      rw [f1]
      have g1 : ((P ++ B.take k) ++ A[k] :: ((A.drop (k + 1) ++ M ++ A.take k) ++ B[k] :: (B.drop (k + 1) ++ Q)))[P.length + k]? = some A[k] := by
        rw [List.getElem?_append_right (by omega), p1]; simp
      have g2 : ((P ++ B.take k) ++ A[k] :: ((A.drop (k + 1) ++ M ++ A.take k) ++ B[k] :: (B.drop (k + 1) ++ Q)))[P.length + A.length + M.length + k]? = some B[k] := by
        rw [List.getElem?_append_right (by omega), p1, show P.length + A.length + M.length + k - (P.length + k) = (A.length - (k + 1) + M.length + k) + 1 by omega, List.getElem?_cons_succ, List.getElem?_append_right (by omega), p2]; simp
      rw [sw, g1, g2]
      simp only
      rw [List.set_append_right _ _ (by omega), p1, Nat.sub_self, List.set_cons_zero, List.set_append_right _ _ (by omega), p1, show P.length + A.length + M.length + k - (P.length + k) = (A.length - (k + 1) + M.length + k) + 1 by omega, List.set_cons_succ,
        List.set_append_right _ _ (by omega), p2, Nat.sub_self, List.set_cons_zero]
      simp only [List.append_assoc, List.cons_append, List.nil_append]
  have := key A.length (Nat.le_refl _)
  rw [this, List.drop_length, List.take_length, h, List.take_length, List.drop_length]
  simp
end Go.Proofs.Ytoidchljifelgaa
