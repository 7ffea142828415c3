/- The stable sort, at rows of one cell: swaps and rotations. -/
import Derived.Test.YtjjdfkkfhbndiaaDoorQTosC
namespace Go.Proofs.YtjjdfkkfhbndiaaDoor.St
open Go Go.AL
set_option linter.unusedSectionVars false
variable [Go.AL.Mode] [Go.AL.LooseM]
set_option linter.unusedSimpArgs false
set_option linter.unusedVariables false
set_option maxHeartbeats 8000000
theorem drop_get {α : Type} {l : List α} {k : Nat} {x : α} (h : l[k]? = some x) : l.drop k = x :: l.drop (k + 1) := by
  rw [List.drop_eq_getElem?_toList_append, h]; rfl
def hd (r : List V) : V := r.headD .undef
theorem hd_get {r : List V} (h : r.length = 1) : r[0]? = some (hd r) := by
  obtain ⟨a, rfl⟩ := List.length_eq_one_iff.1 h
  rfl
theorem cells_ok {v : V} (h : v.cellOk = true) : v.cells? = some [v] := by cases v <;> first | rfl | cases h
theorem hd_cells {r : List V} (h : r.length = 1) (hc : r.all V.cellOk = true) : (hd r).cells? = some r := by
  obtain ⟨a, rfl⟩ := List.length_eq_one_iff.1 h
  simp only [List.all_cons, List.all_nil, Bool.and_true] at hc
  exact cells_ok hc
def sw {α : Type} (l : List α) (i j : Nat) : List α :=
  match l[i]?, l[j]? with
  | some x, some y => (l.set i y).set j x
  | _, _ => l
theorem sw_length {α : Type} (l : List α) (i j : Nat) : (sw l i j).length = l.length := by
  unfold sw; split <;> simp
def swapN {α : Type} (l : List α) (a b : Nat) : Nat → List α
  | 0 => l
  | n + 1 => sw (swapN l a b n) (a + n) (b + n)
theorem swapN_length {α : Type} (l : List α) (a b : Nat) : ∀ n, (swapN l a b n).length = l.length
  | 0 => rfl
  | n + 1 => by rw [swapN, sw_length, swapN_length l a b n]
theorem sw_mem {α : Type} {l : List α} {i j : Nat} {x : α} (h : x ∈ sw l i j) : x ∈ l := by
  unfold sw at h
  split at h
  · rename_i y z hy hz
    rcases List.mem_or_eq_of_mem_set h with h1 | rfl
    · rcases List.mem_or_eq_of_mem_set h1 with h2 | rfl
      · exact h2
      · exact List.mem_of_getElem? hz
    · exact List.mem_of_getElem? hy
  · exact h
theorem swapN_mem {α : Type} {l : List α} {a b : Nat} {x : α} : ∀ {n : Nat}, x ∈ swapN l a b n → x ∈ l
  | 0, h => h
  | _ + 1, h => swapN_mem (sw_mem h)
def W2 (rows : List (List V)) : Prop := ∀ r ∈ rows, r.length = 1 ∧ r.all V.cellOk = true
def rset (S : Store) (id ver : Nat) (rows : List (List V)) : Store := S.set id ⟨ver, some (.arr 3 1 rows)⟩
theorem rset_obj {S : Store} {id ver : Nat} {rows : List (List V)} (h : id < S.length) : (rset S id ver rows).obj? id ver = some (3, 1, rows) := by
  simp [rset, Store.obj?, h]
theorem rset_set {S : Store} {id ver : Nat} {rows rows' : List (List V)} : (rset S id ver rows).set id ⟨ver, some (.arr 3 1 rows')⟩ = rset S id ver rows' := by
  simp [rset]
theorem swapRange_A (rows : List (List V)) (a b n : Nat) (S : Store) (id ver : Nat) (cv : V) (hid : id < S.length) (hw : W2 rows) (hab : a + n ≤ b) (hbn : b + n ≤ rows.length) (hl : rows.length ≤ 1099511627776) :
    CallA Tryd.prog 71 [.msl id ver 0 rows.length, .int .i64 a, .int .i64 b, .int .i64 n, cv] (rset S id ver rows) fun r S' => r = .tup [] ∧ S' = rset S id ver (swapN rows a b n) := by
  refine CallA.keep Tryd.func71 c3052 (Nat.le_of_ble_eq_true rfl) fun σ hσ => ?_
  simp only [a3052, ↓evPre, ↓evPreV, evPost, evPostV, evR, evU, seval]
  refine loopA (ι := Nat) (fun k => [(0, .msl id ver 0 rows.length), (1, .int .i64 a), (2, .int .i64 b), (3, .int .i64 n), (10, .int .i64 k)]) (fun k => rset S id ver (swapN rows a b k)) (fun k => k ≤ n) (fun k => n - k) 0 (Nat.zero_le _) ?_ rfl ?_
  · simp only [↓evPre, ↓evPreV, evPost, evPostV, evR, evU, seval]
  · rintro k hk
    by_cases hlt : k < n
    · have hlt' : (k : Int) < n := by omega
      have hlen := swapN_length rows a b k
      have hx : ∃ x, (swapN rows a b k)[a + k]? = some x := ⟨_, List.getElem?_eq_getElem (by omega)⟩
      have hy : ∃ y, (swapN rows a b k)[b + k]? = some y := ⟨_, List.getElem?_eq_getElem (by omega)⟩
      obtain ⟨x, hx⟩ := hx
      obtain ⟨y, hy⟩ := hy
      obtain ⟨x1, x2⟩ := hw x (swapN_mem (List.mem_of_getElem? hx))
      obtain ⟨y1, y2⟩ := hw y (swapN_mem (List.mem_of_getElem? hy))
      have ho : ∀ rows, (rset S id ver rows).obj? id ver = some (3, 1, rows) := fun rows => rset_obj hid
      have ea : ((a : Int) + k).toNat = a + k := by omega
      have eb : ((b : Int) + k).toNat = b + k := by omega
      have tx : x[0]? = some (hd x) := hd_get x1
      have ty : y[0]? = some (hd y) := hd_get y1
      have dx : x.drop 1 = [] := List.drop_eq_nil_of_le (by omega)
      have dy : y.drop 1 = [] := List.drop_eq_nil_of_le (by omega)
      have hy' : ((swapN rows a b k).set (a + k) y)[b + k]? = some y := by rw [List.getElem?_set_ne (by omega)]; exact hy
      simp (disch := omega) only [hlt', wrap_i64, ho, ea, eb, hx, hy, hy', x1, y1, tx, ty, dx, dy, idxO_some, Nat.le_refl, hd_cells x1 x2, hd_cells y1 y2, rset_set, ↓evPre, ↓evPreV, evPost, evPostV, evR, evU, seval]
      exact ⟨k + 1, by omega, by omega, by omega, by simp only [swapN, sw, hx, hy]⟩
    · have hlt' : ¬ (k : Int) < n := by omega
      have : k = n := by omega
      subst this
      simp (disch := omega) only [hlt', ↓evPre, ↓evPreV, evPost, evPostV, evR, evU, seval]
theorem swapN_blocks {α : Type} (P A M B Q : List α) (h : A.length = B.length) : swapN (P ++ A ++ M ++ B ++ Q) P.length (P.length + A.length + M.length) A.length = P ++ B ++ M ++ A ++ Q := by
  have key : ∀ k, k ≤ A.length → swapN (P ++ A ++ M ++ B ++ Q) P.length (P.length + A.length + M.length) k = P ++ (B.take k ++ A.drop k) ++ M ++ (A.take k ++ B.drop k) ++ Q := by
    intro k
    induction k with
    | zero => intro _; simp [swapN]
    | succ k ih =>
      intro hk
      rw [swapN, ih (by omega)]
      have ha : A[k]? = some A[k] := List.getElem?_eq_getElem (by omega)
      have hb : B[k]? = some B[k] := List.getElem?_eq_getElem (by omega)
      have e1 : A.drop k = A[k] :: A.drop (k + 1) := drop_get ha
      have e2 : B.drop k = B[k] :: B.drop (k + 1) := drop_get hb
      have t1 : A.take (k + 1) = A.take k ++ [A[k]] := by rw [List.take_add_one, ha]; rfl
      have t2 : B.take (k + 1) = B.take k ++ [B[k]] := by rw [List.take_add_one, hb]; rfl
      have l1 : (A.take k).length = k := by simp; omega
      have l2 : (B.take k).length = k := by simp; omega
      have l3 : (A.drop (k + 1)).length = A.length - (k + 1) := by simp
      rw [e1, e2, t1, t2]
      have f1 : P ++ (B.take k ++ A[k] :: A.drop (k + 1)) ++ M ++ (A.take k ++ B[k] :: B.drop (k + 1)) ++ Q = (P ++ B.take k) ++ A[k] :: ((A.drop (k + 1) ++ M ++ A.take k) ++ B[k] :: (B.drop (k + 1) ++ Q)) := by simp only [List.append_assoc, List.cons_append]
      have p1 : (P ++ B.take k).length = P.length + k := by simp; omega
      have p2 : (A.drop (k + 1) ++ M ++ A.take k).length = A.length - (k + 1) + M.length + k := by simp; omega
      rw [f1]
      have g1 : ((P ++ B.take k) ++ A[k] :: ((A.drop (k + 1) ++ M ++ A.take k) ++ B[k] :: (B.drop (k + 1) ++ Q)))[P.length + k]? = some A[k] := by
        rw [List.getElem?_append_right (by omega), p1]; simp
      have g2 : ((P ++ B.take k) ++ A[k] :: ((A.drop (k + 1) ++ M ++ A.take k) ++ B[k] :: (B.drop (k + 1) ++ Q)))[P.length + A.length + M.length + k]? = some B[k] := by
        rw [List.getElem?_append_right (by omega), p1, show P.length + A.length + M.length + k - (P.length + k) = (A.length - (k + 1) + M.length + k) + 1 by omega, List.getElem?_cons_succ, List.getElem?_append_right (by omega), p2]; simp
      rw [sw, g1, g2]
      simp only
      rw [List.set_append_right _ _ (by omega), p1, Nat.sub_self, List.set_cons_zero, List.set_append_right _ _ (by omega), p1, show P.length + A.length + M.length + k - (P.length + k) = (A.length - (k + 1) + M.length + k) + 1 by omega, List.set_cons_succ,
        List.set_append_right _ _ (by omega), p2, Nat.sub_self, List.set_cons_zero]
      simp only [List.append_assoc, List.cons_append, List.nil_append]
  have := key A.length (Nat.le_refl _)
  rw [this, List.drop_length, List.take_length, h, List.take_length, List.drop_length]
  simp
theorem swapRange_B {rows : List (List V)} {a b n N : Nat} {S : Store} {id ver : Nat} {cv : V} (hN : rows.length = N) (hid : id < S.length) (hw : W2 rows) (hab : a + n ≤ b) (hbn : b + n ≤ N) (hl : N ≤ 1099511627776) {rows' : List (List V)} (he : swapN rows a b n = rows') :
    CallA Tryd.prog 71 [.msl id ver 0 N, .int .i64 a, .int .i64 b, .int .i64 n, cv] (rset S id ver rows) fun r S' => r = .tup [] ∧ S' = rset S id ver rows' := by
  subst hN he
  exact swapRange_A rows a b n S id ver cv hid hw hab hbn hl
structure Rot where
  P : List (List V)
  U : List (List V)
  W : List (List AL.V)
  Q : List (List V)
def Rot.rows (i : Rot) : List (List V) := i.P ++ i.U ++ i.W ++ i.Q
def Rot.done (i : Rot) : List (List V) := i.P ++ i.W ++ i.U ++ i.Q
theorem W2_app {a b : List (List V)} : W2 (a ++ b) ↔ W2 a ∧ W2 b :=
  ⟨fun h => ⟨fun r hr => h r (List.mem_append_left _ hr), fun r hr => h r (List.mem_append_right _ hr)⟩, fun h r hr => (List.mem_append.1 hr).elim (h.1 r) (h.2 r)⟩
theorem rotate_A (P U W Q : List (List V)) (S : Store) (id ver N : Nat) (cv : V) (hid : id < S.length) (hw : W2 (P ++ U ++ W ++ Q)) (hN : (P ++ U ++ W ++ Q).length = N) (hl : N ≤ 1099511627776) (hU : 0 < U.length) (hW : 0 < W.length) :
    CallA Tryd.prog 65 [.msl id ver 0 N, .int .i64 P.length, .int .i64 (P.length + U.length : Nat), .int .i64 (P.length + U.length + W.length : Nat), cv] (rset S id ver (P ++ U ++ W ++ Q)) fun r S' => r = .tup [] ∧ S' = rset S id ver (P ++ W ++ U ++ Q) := by
  refine CallA.keep Tryd.func65 c3047 (Nat.le_of_ble_eq_true rfl) fun σ hσ => ?_
  have hN' : P.length + U.length + W.length + Q.length = N := by rw [← hN]; simp; omega
  have e1 : ((P.length + U.length : Nat) : Int) - P.length = U.length := by omega
  have e2 : ((P.length + U.length + W.length : Nat) : Int) - (P.length + U.length : Nat) = W.length := by omega
  simp (disch := omega) only [a3047, e1, e2, wrap_i64, ↓evPre, ↓evPreV, evPost, evPostV, evR, evU, seval]
  refine loopA (ι := Rot) (fun i => [(0, .msl id ver 0 N), (2, .int .i64 (P.length + U.length : Nat)), (4, cv), (10, .int .i64 i.U.length), (11, .int .i64 i.W.length)]) (fun i => rset S id ver i.rows)
    (fun i => i.P.length + i.U.length = P.length + U.length ∧ i.rows.length = N ∧ W2 i.rows ∧ i.done = P ++ W ++ U ++ Q ∧ 0 < i.U.length ∧ 0 < i.W.length) (fun i => i.U.length + i.W.length) ⟨P, U, W, Q⟩ ⟨rfl, hN, hw, rfl, hU, hW⟩ ?_ rfl ?_
  · simp only [↓evPre, ↓evPreV, evPost, evPostV, evR, evU, seval]
  · rintro ⟨P', U', V', Q'⟩ ⟨h1, h2, h3, h4, h5, h6⟩
    simp only [Rot.rows, Rot.done] at h1 h2 h3 h4 h5 h6 ⊢
    have h2' : P'.length + U'.length + V'.length + Q'.length = N := by rw [← h2]; simp; omega
    have f1 : ((P.length + U.length : Nat) : Int) - U'.length = P'.length := by omega
    rcases Nat.lt_trichotomy U'.length V'.length with hlt | heq | hgt
    · obtain ⟨V1, V2, rfl, hv⟩ : ∃ V1 V2, V' = V1 ++ V2 ∧ V2.length = U'.length := ⟨V'.take (V'.length - U'.length), V'.drop (V'.length - U'.length), (List.take_append_drop _ _).symm, by simp; omega⟩
      simp only [List.length_append] at hlt h2' h6
      have g1 : ¬ ((U'.length : Int) = (V1 ++ V2).length) := by simp; omega
      have g2 : ¬ (((V1 ++ V2).length : Int) < U'.length) := by simp; omega
      have f2 : ((P.length + U.length : Nat) : Int) + (V1 ++ V2).length - U'.length = (P'.length + U'.length + V1.length : Nat) := by simp; omega
      have hb : -9223372036854775808 ≤ ((V1 ++ V2).length : Int) - U'.length ∧ ((V1 ++ V2).length : Int) - U'.length ≤ 9223372036854775807 := by simp; omega
      have hb' : -9223372036854775808 ≤ ((P.length + U.length : Nat) : Int) + (V1 ++ V2).length ∧ ((P.length + U.length : Nat) : Int) + (V1 ++ V2).length ≤ 9223372036854775807 := by simp; omega
      simp (disch := omega) only [g1, g2, f1, f2, wrap_i64, ↓evPre, ↓evPreV, evPost, evPostV, evR, evU, seval]
      refine (swapRange_B (rows := P' ++ U' ++ (V1 ++ V2) ++ Q') (rows' := P' ++ V2 ++ V1 ++ U' ++ Q') h2 hid h3 (by omega) (by omega) hl ?_).mono ?_
      · have := swapN_blocks P' U' V1 V2 Q' hv.symm
        rw [← List.append_assoc (P' ++ U') V1 V2]
        exact this
      · rintro r S' ⟨rfl, rfl⟩
        refine ⟨⟨P', V2, V1, U' ++ Q'⟩, ⟨by simp only; omega, by simp; omega, ?_, by rw [← h4]; simp, by simp only; omega, by simp only; omega⟩, by simp; omega, ⟨by simp; omega, by simp; omega⟩, by simp⟩
        simp only [W2_app] at h3 ⊢
        simp [h3]
    · have g1 : (U'.length : Int) = V'.length := by omega
      have f1' : ((P.length + U.length : Nat) : Int) - V'.length = P'.length := by omega
      simp (disch := omega) only [g1, f1', wrap_i64, ↓evPre, ↓evPreV, evPost, evPostV, evR, evU, seval]
      have hm : P.length + U.length = P'.length + U'.length + ([] : List (List V)).length := by simp; omega
      refine (swapRange_B (rows := P' ++ U' ++ V' ++ Q') (rows' := P ++ W ++ U ++ Q) h2 hid h3 (by omega) (by omega) hl ?_).mono ?_
      · have := swapN_blocks P' U' [] V' Q' heq
        rw [hm, ← heq]
        simp only [List.append_nil] at this
        rw [this, ← h4]
      · rintro r S' ⟨rfl, rfl⟩
        rfl
    · obtain ⟨U1, U2, rfl, hu⟩ : ∃ U1 U2, U' = U1 ++ U2 ∧ U1.length = V'.length := ⟨U'.take V'.length, U'.drop V'.length, (List.take_append_drop _ _).symm, by simp; omega⟩
      simp only [List.length_append] at hgt h2' h5
      have g1 : ¬ (((U1 ++ U2).length : Int) = V'.length) := by simp; omega
      have g2 : ((V'.length : Int) < (U1 ++ U2).length) := by simp; omega
      have hb : -9223372036854775808 ≤ ((U1 ++ U2).length : Int) - V'.length ∧ ((U1 ++ U2).length : Int) - V'.length ≤ 9223372036854775807 := by simp; omega
      simp (disch := omega) only [g1, g2, f1, wrap_i64, ↓evPre, ↓evPreV, evPost, evPostV, evR, evU, seval]
      simp only [List.length_append] at h1
      have hm : P.length + U.length = P'.length + U1.length + U2.length := by omega
      refine (swapRange_B (rows := P' ++ (U1 ++ U2) ++ V' ++ Q') (rows' := P' ++ V' ++ U2 ++ U1 ++ Q') h2 hid h3 (by omega) (by omega) hl ?_).mono ?_
      · have := swapN_blocks P' U1 U2 V' Q' hu
        rw [hm, ← hu, ← List.append_assoc P' U1 U2]
        exact this
      · rintro r S' ⟨rfl, rfl⟩
        refine ⟨⟨P' ++ V', U2, U1, Q'⟩, ⟨by simp; omega, by simp; omega, ?_, by rw [← h4]; simp, by simp only; omega, by simp only; omega⟩, by simp; omega, ⟨by simp; omega, by simp; omega⟩, by simp⟩
        simp only [W2_app] at h3 ⊢
        simp [h3]
end Go.Proofs.YtjjdfkkfhbndiaaDoor.St
/- The stable sort: insertion; what the merge leans on. -/
namespace Go.Proofs.YtjjdfkkfhbndiaaDoor.St
open Go Go.AL
set_option linter.unusedSectionVars false
variable [Go.AL.Mode] [Go.AL.LooseM]
set_option linter.unusedSimpArgs false
set_option linter.unusedVariables false
set_option maxHeartbeats 8000000
def Cmps (f : FuncId) (first cap : List V) (ok : List V → Prop) (lt : List V → List V → Bool) (ord : List V → List V → Prop) : Prop :=
  ∀ x y S, ok x → ok y → ord y x → CallA Tryd.prog f (first ++ [hd x, hd y] ++ cap) S fun r S' => (∃ n : Int, r = .int .i64 n ∧ (n < 0 ↔ lt x y = true)) ∧ S' = S
structure Ords (ok : List V → Prop) (lt : List V → List V → Bool) : Prop where
  asymm : ∀ x y, ok x → ok y → lt x y = true → lt y x = false
  trans : ∀ x y z, ok x → ok y → ok z → lt y x = false → lt z y = false → lt z x = false
def Srt (lt : List V → List V → Bool) (l : List (List V)) : Prop := l.Pairwise fun x y => lt y x = false
theorem adj_get0 {α : Type} (X Z : List α) (y x : α) : (X ++ y :: x :: Z)[X.length]? = some y := by simp
theorem adj_get1 {α : Type} (X Z : List α) (y x : α) : (X ++ y :: x :: Z)[X.length + 1]? = some x := by
  rw [List.getElem?_append_right (by omega)]; simp
theorem adj_set1 {α : Type} (X Z : List α) (y x z : α) : (X ++ y :: x :: Z).set (X.length + 1) z = X ++ y :: z :: Z := by
  rw [List.set_append_right _ _ (by omega)]; simp
theorem adj_set0 {α : Type} (X Z : List α) (y x z : α) : (X ++ y :: x :: Z).set X.length z = X ++ z :: x :: Z := by
  rw [List.set_append_right _ _ (by omega)]; simp
theorem srt_insert {ok : List V → Prop} {lt : List V → List V → Bool} (ho : Ords ok lt) {A1 A2 : List (List V)} {x : List V} (h : Srt lt (A1 ++ A2)) (hA : ∀ y ∈ A1 ++ A2, ok y) (hx : ok x) (h1 : ∀ y ∈ A1, lt x y = false) (h2 : ∀ y ∈ A2, lt x y = true) : Srt lt (A1 ++ x :: A2) := by
  unfold Srt at *
  rw [List.pairwise_append] at *
  obtain ⟨a, b, c⟩ := h
  refine ⟨a, List.pairwise_cons.2 ⟨fun y hy => ho.asymm x y hx (hA y (List.mem_append_right _ hy)) (h2 y hy), b⟩, fun u hu v hv => ?_⟩
  rcases List.mem_cons.1 hv with rfl | hv
  · exact h1 u hu
  · exact c u hu v hv
theorem insertion_A (P M Q : List (List V)) (S : Store) (id ver a e N : Nat) (f : FuncId) (first cap : List V) (ok : List V → Prop) (lt : List V → List V → Bool) (ord : List V → List V → Prop) (hc : Cmps f first cap ok lt ord) (ho : Ords ok lt)
    (hid : id < S.length) (hw : W2 (P ++ M ++ Q)) (hok : ∀ r ∈ M, ok r) (ha : P.length = a) (he : a + M.length = e) (hN : (P ++ M ++ Q).length = N) (hl : N ≤ 1099511627776) (hor : M.Pairwise ord) :
    CallA Tryd.prog 58 [.msl id ver 0 N, .int .i64 a, .int .i64 e, .func f first cap] (rset S id ver (P ++ M ++ Q)) fun r S' => r = .tup [] ∧ ∃ M', M'.Perm M ∧ Srt lt M' ∧ S' = rset S id ver (P ++ M' ++ Q) := by
  refine CallA.keep Tryd.func58 c3043 (Nat.le_of_ble_eq_true rfl) fun σ hσ => ?_
  have hN' : a + M.length + Q.length = N := by rw [← hN]; simp; omega
  have e1 : (a : Int) + 1 = (a + 1 : Nat) := by omega
  simp (disch := omega) only [a3043, e1, wrap_i64, ↓evPre, ↓evPreV, evPost, evPostV, evR, evU, seval]
  refine loopA (ι := Nat × List (List V) × List (List V)) (fun i => [(0, .msl id ver 0 N), (1, .int .i64 a), (2, .int .i64 e), (3, .func f first cap), (8, .int .i64 i.1)])
    (fun i => rset S id ver (P ++ i.2.1 ++ i.2.2 ++ Q)) (fun i => (i.2.1 ++ i.2.2).Perm M ∧ Srt lt i.2.1 ∧ W2 (P ++ i.2.1 ++ i.2.2 ++ Q) ∧ (i.2.2 ≠ [] → i.1 = a + i.2.1.length) ∧ (i.2.2 = [] → e ≤ i.1) ∧ i.1 ≤ e + 1 ∧ i.2.2.Pairwise ord ∧ ∀ y ∈ i.2.1, ∀ z ∈ i.2.2, ord y z) (fun i => i.2.2.length) (a + 1, M.take 1, M.drop 1) ⟨?_, ?_, ?_, ?_, ?_, ?_, ?_, ?_⟩ ?_ ?_ ?_
  · rw [List.take_append_drop]
  · cases M with
    | nil => exact List.Pairwise.nil
    | cons m M => exact List.pairwise_singleton _ _
  · rw [List.append_assoc P, List.take_append_drop]; exact hw
  · intro h
    cases M with
    | nil => simp at h
    | cons m M => simp
  · intro h
    simp only [List.drop_eq_nil_iff] at h
    omega
  · simp only; omega
  · rw [← List.take_append_drop 1 M, List.pairwise_append] at hor
    exact hor.2.1
  · rw [← List.take_append_drop 1 M, List.pairwise_append] at hor
    exact hor.2.2
  · simp only [↓evPre, ↓evPreV, evPost, evPostV, evR, evU, seval]
  · show rset S id ver (P ++ M ++ Q) = rset S id ver (P ++ M.take 1 ++ M.drop 1 ++ Q)
    rw [List.append_assoc P (M.take 1), List.take_append_drop]
  · rintro ⟨n, A, B⟩ ⟨hp, hs, hw', h1, h2, h3, hb, hab⟩
    simp only at hp hs hw' h1 h2 h3 hb hab ⊢
    have hlen := hp.length_eq
    simp only [List.length_append] at hlen
    have hAok : ∀ r ∈ A, ok r := fun r hr => hok r (hp.mem_iff.1 (List.mem_append_left _ hr))
    cases B with
    | nil =>
      have h2' := h2 rfl
      have g : ¬ ((n : Int) < e) := by omega
      simp (disch := omega) only [g, wrap_i64, ↓evPre, ↓evPreV, evPost, evPostV, evR, evU, seval]
      exact ⟨A, by simpa using hp, hs, rfl⟩
    | cons x B =>
      have h1' := h1 (by simp)
      subst h1'
      have hxok : ok x := hok x (hp.mem_iff.1 (List.mem_append_right _ (List.mem_cons_self ..)))
      have g : (((a + A.length : Nat) : Int) < e) := by simp only [List.length_cons] at hlen; omega
      simp (disch := omega) only [g, wrap_i64, ↓evPre, ↓evPreV, evPost, evPostV, evR, evU, seval]
      refine loopA (ι := List (List V) × List (List V)) (fun i => [(0, .msl id ver 0 N), (1, .int .i64 a), (2, .int .i64 e), (3, .func f first cap), (8, .int .i64 (a + A.length : Nat)), (9, .int .i64 (a + i.1.length : Nat))])
        (fun i => rset S id ver (P ++ i.1 ++ x :: i.2 ++ B ++ Q)) (fun i => i.1 ++ i.2 = A ∧ ∀ y ∈ i.2, lt x y = true) (fun i => i.1.length) (A, []) ⟨by simp, by simp⟩ ?_ (by simp) ?_
      · simp only [↓evPre, ↓evPreV, evPost, evPostV, evR, evU, seval]
      · rintro ⟨A1, A2⟩ ⟨hA, hA2⟩
        simp only at hA hA2 ⊢
        have hxw := hw' x (by simp)
        obtain ⟨x1, x2⟩ := hxw
        have tx : x[0]? = some (hd x) := hd_get x1
        have dx : x.drop 1 = [] := List.drop_eq_nil_of_le (by omega)
        have hobj : ∀ rows, (rset S id ver rows).obj? id ver = some (3, 1, rows) := fun rows => rset_obj hid
        have hAs : Srt lt (A1 ++ A2) := by rw [hA]; exact hs
        have hAo : ∀ y ∈ A1 ++ A2, ok y := by rw [hA]; exact hAok
        have hl1 : A1.length + A2.length = A.length := by rw [← hA]; simp
        have ex1 : ((a + A.length : Nat) : Int) + 1 = (a + A.length + 1 : Nat) := by omega
        have out : Srt lt (A1 ++ x :: A2) → ∃ i' : Nat × List (List V) × List (List V), ((i'.2.1 ++ i'.2.2).Perm M ∧ Srt lt i'.2.1 ∧ W2 (P ++ i'.2.1 ++ i'.2.2 ++ Q) ∧ (i'.2.2 ≠ [] → i'.1 = a + i'.2.1.length) ∧ (i'.2.2 = [] → e ≤ i'.1) ∧ i'.1 ≤ e + 1 ∧ i'.2.2.Pairwise ord ∧ ∀ y ∈ i'.2.1, ∀ z ∈ i'.2.2, ord y z) ∧ i'.2.2.length < B.length + 1 ∧
            ((a + A.length + 1 : Nat) : Int) = (i'.1 : Int) ∧ rset S id ver (P ++ A1 ++ x :: A2 ++ B ++ Q) = rset S id ver (P ++ i'.2.1 ++ i'.2.2 ++ Q) := by
          intro hso
          refine ⟨(a + A.length + 1, A1 ++ x :: A2, B), ⟨?_, hso, ?_, fun _ => ?_, fun hB => ?_, ?_, (List.pairwise_cons.1 hb).2, fun y hy z hz => ?_⟩, by simp, by simp, by simp⟩
          · refine List.Perm.trans ?_ hp
            rw [← hA]
            simp only [List.append_assoc, List.cons_append]
            refine List.Perm.append_left _ ?_
            exact (List.perm_middle (l₁ := A2)).symm
          · rw [← hA] at hw'
            simp only [W2_app] at hw' ⊢
            have : W2 (x :: A2) := fun r hr => by
              rcases List.mem_cons.1 hr with rfl | hr
              · exact ⟨x1, x2⟩
              · exact hw'.1.1.2.2 r hr
            have hB : W2 B := fun r hr => hw'.1.2 r (List.mem_cons_of_mem _ hr)
            exact ⟨⟨⟨hw'.1.1.1, hw'.1.1.2.1, this⟩, hB⟩, hw'.2⟩
          · simp; omega
          · simp only at hB
            subst hB
            simp only [List.length_cons, List.length_nil] at hlen
            simp only; omega
          · simp only [List.length_cons] at hlen
            simp only; omega
          · rw [← hA] at hab
            simp only [List.mem_append, List.mem_cons] at hy
            rcases hy with hy | rfl | hy
            · exact hab y (List.mem_append_left _ hy) z (List.mem_cons_of_mem _ hz)
            · exact (List.pairwise_cons.1 hb).1 z hz
            · exact hab y (List.mem_append_right _ hy) z (List.mem_cons_of_mem _ hz)
        rcases List.eq_nil_or_concat A1 with rfl | ⟨A1', y, rfl⟩
        · have := out (srt_insert ho hAs hAo hxok (by simp) hA2)
          simp (disch := omega) only [ex1, wrap_i64, ↓evPre, ↓evPreV, evPost, evPostV, evR, evU, seval]
          rw [List.append_nil] at this
          exact this
        · simp only [List.concat_eq_append] at hA hAs hAo hl1 out ⊢
          have hyA : y ∈ A := by rw [← hA]; simp
          have hyok := hAok y hyA
          obtain ⟨y1, y2⟩ := hw' y (by simp [hyA])
          have ty : y[0]? = some (hd y) := hd_get y1
          have dy : y.drop 1 = [] := List.drop_eq_nil_of_le (by omega)
          obtain ⟨X, hX⟩ : ∃ X, X = P ++ A1' := ⟨_, rfl⟩
          obtain ⟨Z, hZ⟩ : ∃ Z, Z = A2 ++ B ++ Q := ⟨_, rfl⟩
          have hR : P ++ (A1' ++ [y]) ++ x :: A2 ++ B ++ Q = X ++ y :: x :: Z := by rw [hX, hZ]; simp
          have hR' : P ++ A1' ++ x :: (y :: A2) ++ B ++ Q = X ++ x :: y :: Z := by rw [hX, hZ]; simp
          have hj : a + (A1' ++ [y]).length = X.length + 1 := by rw [hX]; simp; omega
          have hlX : X.length + 1 < N := by
            simp only [List.length_append, List.length_cons, List.length_nil] at hl1
            rw [hX]
            simp only [List.length_append, List.length_cons] at hlen ⊢
            omega
          have ej : ((X.length + 1 : Nat) : Int) - 1 = X.length := by omega
          have ga : (a : Int) < (X.length + 1 : Nat) := by rw [hX]; simp; omega
          rw [hR] at out
          rw [hR, hj]
          simp (disch := omega) only [ga, ej, hobj, idxO_some, adj_get0, adj_get1, x1, y1, tx, ty, wrap_i64, Nat.le_refl, ↓evPre, ↓evPreV, evPost, evPostV, evR, evU, seval]
          refine (hc x y _ hxok hyok (hab y hyA x (List.mem_cons_self ..))).mono ?_
          rintro r S' ⟨⟨n, rfl, hn⟩, rfl⟩
          cases hlt : lt x y
          · have hn' : ¬ (n < 0) := fun h => by rw [hn.1 h] at hlt; cases hlt
            have := out (srt_insert ho hAs hAo hxok (fun u hu => by
              rcases List.mem_append.1 hu with hu | hu
              · have hpw := hAs
                unfold Srt at hpw
                rw [List.append_assoc, List.pairwise_append] at hpw
                exact ho.trans u y x (hAo u (by simp [hu])) hyok hxok (hpw.2.2 u hu y (by simp)) hlt
              · simp only [List.mem_singleton] at hu
                subst hu
                exact hlt) hA2)
            simp (disch := omega) only [hn', ex1, wrap_i64, ↓evPre, ↓evPreV, evPost, evPostV, evR, evU, seval]
            exact this
          · have hn' : n < 0 := hn.2 hlt
            simp (disch := omega) only [hn', ej, hobj, idxO_some, adj_get0, adj_get1, adj_set0, adj_set1, x1, y1, x2, y2, tx, ty, dx, dy, hd_cells x1 x2, hd_cells y1 y2, rset_set, wrap_i64, Nat.le_refl, ↓evPre, ↓evPreV, evPost, evPostV, evR, evU, seval]
            refine ⟨(A1', y :: A2), ⟨by rw [← hA]; simp, fun z hz => ?_⟩, by simp, ?_, by rw [hR']⟩
            · rcases List.mem_cons.1 hz with rfl | hz
              · exact hlt
              · exact hA2 z hz
            · rw [hX]; simp; omega
variable {ok : List V → Prop} {lt : List V → List V → Bool}
theorem srt_mid {A1 A2 : List (List V)} (h : Srt lt (A1 ++ A2)) {x : List V} (h1 : ∀ y ∈ A1, lt x y = false) (h2 : ∀ y ∈ A2, lt y x = false) : Srt lt (A1 ++ x :: A2) := by
  unfold Srt at *
  rw [List.pairwise_append] at *
  obtain ⟨a, b, c⟩ := h
  refine ⟨a, List.pairwise_cons.2 ⟨h2, b⟩, fun u hu v hv => ?_⟩
  rcases List.mem_cons.1 hv with rfl | hv
  · exact h1 u hu
  · exact c u hu v hv
theorem srt_get {l : List (List V)} (h : Srt lt l) {i j : Nat} {x y : List V} (hij : i < j) (hx : l[i]? = some x) (hy : l[j]? = some y) : lt y x = false := by
  obtain ⟨hi, rfl⟩ := List.getElem?_eq_some_iff.1 hx
  obtain ⟨hj, rfl⟩ := List.getElem?_eq_some_iff.1 hy
  exact List.pairwise_iff_getElem.1 h i j hi hj hij
theorem lt_irrefl (ho : Ords ok lt) {x : List V} (hx : ok x) : lt x x = false := by
  cases h : lt x x
  · rfl
  · have := ho.asymm x x hx hx h
    rw [h] at this
    cases this
theorem srt_get' (ho : Ords ok lt) {l : List (List V)} (h : Srt lt l) (hok : ∀ r ∈ l, ok r) {i j : Nat} {x y : List V} (hij : i ≤ j) (hx : l[i]? = some x) (hy : l[j]? = some y) : lt y x = false := by
  rcases Nat.lt_or_eq_of_le hij with h1 | rfl
  · exact srt_get h h1 hx hy
  · rw [hx] at hy
    cases hy
    exact lt_irrefl ho (hok x (List.mem_of_getElem? hx))
theorem lt_left (ho : Ords ok lt) {x y z : List V} (hx : ok x) (hy : ok y) (hz : ok z) (h1 : lt y x = false) (h2 : lt y z = true) : lt x z = true := by
  cases h : lt x z
  · have := ho.trans z x y hz hx hy h h1
    rw [h2] at this
    cases this
  · rfl
theorem lt_right (ho : Ords ok lt) {x y z : List V} (hx : ok x) (hy : ok y) (hz : ok z) (h1 : lt x y = true) (h2 : lt z y = false) : lt x z = true := by
  cases h : lt x z
  · have := ho.trans y z x hy hz hx h2 h
    rw [h1] at this
    cases this
  · rfl
theorem srt_join (ho : Ords ok lt) {A1 A2 B1 B2 L R : List (List V)} (hU : Srt lt (A1 ++ A2)) (hW : Srt lt (B1 ++ B2)) (h1 : ∀ x ∈ A1, ∀ y ∈ B2, lt y x = false) (h2 : ∀ x ∈ B1, ∀ y ∈ A2, lt y x = false)
    (hL : L.Perm (A1 ++ B1)) (hLs : Srt lt L) (hR : R.Perm (A2 ++ B2)) (hRs : Srt lt R) : (L ++ R).Perm ((A1 ++ A2) ++ (B1 ++ B2)) ∧ Srt lt (L ++ R) := by
  constructor
  · refine (hL.append hR).trans ?_
    simp only [List.append_assoc]
    refine List.Perm.append_left _ ?_
    rw [← List.append_assoc B1, ← List.append_assoc A2]
    exact List.Perm.append_right _ List.perm_append_comm
  · unfold Srt at *
    rw [List.pairwise_append] at *
    refine ⟨hLs, hRs, fun x hx y hy => ?_⟩
    have hx' := hL.mem_iff.1 hx
    have hy' := hR.mem_iff.1 hy
    rcases List.mem_append.1 hx' with hx' | hx' <;> rcases List.mem_append.1 hy' with hy' | hy'
    · exact hU.2.2 x hx' y hy'
    · exact h1 x hx' y hy'
    · exact h2 x hx' y hy'
    · exact hW.2.2 x hx' y hy'
theorem cut_list {l : List (List V)} {s : Nat} (hs : s ≤ l.length) : ∃ l1 l2, l = l1 ++ l2 ∧ l1.length = s := ⟨l.take s, l.drop s, (List.take_append_drop _ _).symm, by simp; omega⟩
end Go.Proofs.YtjjdfkkfhbndiaaDoor.St
