/- The stable sort: insertion; what the merge leans on. -/
import Derived.Test.YteeenlgoildmiaaDoorSSrt1
namespace Go.Proofs.YteeenlgoildmiaaDoor
open Go Go.AL
set_option linter.unusedSimpArgs false
set_option linter.unusedVariables false
set_option maxHeartbeats 8000000

/-- A comparison that the sort is handed: less where it is negative. -/
def Cmps (f : FuncId) (first cap : List V) (ok : List V → Prop) (lt : List V → List V → Bool) (ord : List V → List V → Prop) : Prop :=
  ∀ x y S, ok x → ok y → ord y x → CallA Tryd.prog f (first ++ [hd x, hd y] ++ cap) S fun r S' => (∃ n : Int, r = .int .i64 n ∧ (n < 0 ↔ lt x y = true)) ∧ S' = S

structure Ords (ok : List V → Prop) (lt : List V → List V → Bool) : Prop where
  asymm : ∀ x y, ok x → ok y → lt x y = true → lt y x = false
  trans : ∀ x y z, ok x → ok y → ok z → lt y x = false → lt z y = false → lt z x = false

def Srt (lt : List V → List V → Bool) (l : List (List V)) : Prop := l.Pairwise fun x y => lt y x = false

theorem adj_get0 {α : Type} (X Z : List α) (y x : α) : (X ++ y :: x :: Z)[X.length]? = some y := by simp
theorem adj_get1 {α : Type} (X Z : List α) (y x : α) : (X ++ y :: x :: Z)[X.length + 1]? = some x := by
  rw [List.getElem?_append_right (by omega)]; simp
theorem adj_set1 {α : Type} (X Z : List α) (y x z : α) : (X ++ y :: x :: Z).set (X.length + 1) z = X ++ y :: z :: Z := by
  rw [List.set_append_right _ _ (by omega)]; simp
theorem adj_set0 {α : Type} (X Z : List α) (y x z : α) : (X ++ y :: x :: Z).set X.length z = X ++ z :: x :: Z := by
  rw [List.set_append_right _ _ (by omega)]; simp

theorem srt_insert {ok : List V → Prop} {lt : List V → List V → Bool} (ho : Ords ok lt) {A1 A2 : List (List V)} {x : List V} (h : Srt lt (A1 ++ A2)) (hA : ∀ y ∈ A1 ++ A2, ok y) (hx : ok x) (h1 : ∀ y ∈ A1, lt x y = false) (h2 : ∀ y ∈ A2, lt x y = true) : Srt lt (A1 ++ x :: A2) := by
  unfold Srt at *
  rw [List.pairwise_append] at *
  obtain ⟨a, b, c⟩ := h
  refine ⟨a, List.pairwise_cons.2 ⟨fun y hy => ho.asymm x y hx (hA y (List.mem_append_right _ hy)) (h2 y hy), b⟩, fun u hu v hv => ?_⟩
  rcases List.mem_cons.1 hv with rfl | hv
  · exact h1 u hu
  · exact c u hu v hv

theorem insertion_A (P M Q : List (List V)) (S : Store) (id ver a e N : Nat) (f : FuncId) (first cap : List V) (ok : List V → Prop) (lt : List V → List V → Bool) (ord : List V → List V → Prop) (hc : Cmps f first cap ok lt ord) (ho : Ords ok lt)
    (hid : id < S.length) (hw : W2 (P ++ M ++ Q)) (hok : ∀ r ∈ M, ok r) (ha : P.length = a) (he : a + M.length = e) (hN : (P ++ M ++ Q).length = N) (hl : N ≤ 1099511627776) (hor : M.Pairwise ord) :
    CallA Tryd.prog 43 [.msl id ver 0 N, .int .i64 a, .int .i64 e, .func f first cap] (rset S id ver (P ++ M ++ Q)) fun r S' => r = .tup [] ∧ ∃ M', M'.Perm M ∧ Srt lt M' ∧ S' = rset S id ver (P ++ M' ++ Q) := by
  refine CallA.keep Tryd.func43 c43 (Nat.le_of_ble_eq_true rfl) fun σ hσ => ?_
  have hN' : a + M.length + Q.length = N := by rw [← hN]; simp; omega
  have e1 : (a : Int) + 1 = (a + 1 : Nat) := by omega
  simp (disch := omega) only [a43, e1, wrap_i64, ↓evPre, ↓evPreV, evPost, evPostV, ← List.map_take, ← List.map_drop, ↓reduceIte, reduceCtorEq, Nat.reduceEqDiff, forall_const, implies_true, Nat.reduceAdd, Nat.reduceSub, Nat.reduceMul, Nat.reduceLT, Nat.reduceLeDiff, Int.reduceToNat, Int.reduceAdd, Int.reduceSub, Int.reduceNeg, Int.reduceMul, Int.reduceLT, Int.reduceLE, Int.reduceEq]
  -- the head of the loop: i, what is sorted, what is not yet
  refine loopA (ι := Nat × List (List V) × List (List V)) (fun i => [(0, .msl id ver 0 N), (1, .int .i64 a), (2, .int .i64 e), (3, .func f first cap), (8, .int .i64 i.1)])
    (fun i => rset S id ver (P ++ i.2.1 ++ i.2.2 ++ Q)) (fun i => (i.2.1 ++ i.2.2).Perm M ∧ Srt lt i.2.1 ∧ W2 (P ++ i.2.1 ++ i.2.2 ++ Q) ∧ (i.2.2 ≠ [] → i.1 = a + i.2.1.length) ∧ (i.2.2 = [] → e ≤ i.1) ∧ i.1 ≤ e + 1 ∧ i.2.2.Pairwise ord ∧ ∀ y ∈ i.2.1, ∀ z ∈ i.2.2, ord y z) (fun i => i.2.2.length) (a + 1, M.take 1, M.drop 1) ⟨?_, ?_, ?_, ?_, ?_, ?_, ?_, ?_⟩ ?_ ?_ ?_
  · rw [List.take_append_drop]
  · cases M with
    | nil => exact List.Pairwise.nil
    | cons m M => exact List.pairwise_singleton _ _
  · rw [List.append_assoc P, List.take_append_drop]; exact hw
  · intro h
    cases M with
    | nil => simp at h
    | cons m M => simp
  · intro h
    simp only [List.drop_eq_nil_iff] at h
    omega
  · simp only; omega
  · rw [← List.take_append_drop 1 M, List.pairwise_append] at hor
    exact hor.2.1
  · rw [← List.take_append_drop 1 M, List.pairwise_append] at hor
    exact hor.2.2
  · simp only [↓evPre, ↓evPreV, evPost, evPostV, ← List.map_take, ← List.map_drop, ↓reduceIte, reduceCtorEq, Nat.reduceEqDiff, forall_const, implies_true, Nat.reduceAdd, Nat.reduceSub, Nat.reduceMul, Nat.reduceLT, Nat.reduceLeDiff, Int.reduceToNat, Int.reduceAdd, Int.reduceSub, Int.reduceNeg, Int.reduceMul, Int.reduceLT, Int.reduceLE, Int.reduceEq]
  · show rset S id ver (P ++ M ++ Q) = rset S id ver (P ++ M.take 1 ++ M.drop 1 ++ Q)
    rw [List.append_assoc P (M.take 1), List.take_append_drop]
  · rintro ⟨n, A, B⟩ ⟨hp, hs, hw', h1, h2, h3, hb, hab⟩
    simp only at hp hs hw' h1 h2 h3 hb hab ⊢
    have hlen := hp.length_eq
    simp only [List.length_append] at hlen
    have hAok : ∀ r ∈ A, ok r := fun r hr => hok r (hp.mem_iff.1 (List.mem_append_left _ hr))
    cases B with
    | nil =>
      have h2' := h2 rfl
      have g : ¬ ((n : Int) < e) := by omega
      simp (disch := omega) only [g, wrap_i64, ↓evPre, ↓evPreV, evPost, evPostV, ← List.map_take, ← List.map_drop, ↓reduceIte, reduceCtorEq, Nat.reduceEqDiff, forall_const, implies_true, Nat.reduceAdd, Nat.reduceSub, Nat.reduceMul, Nat.reduceLT, Nat.reduceLeDiff, Int.reduceToNat, Int.reduceAdd, Int.reduceSub, Int.reduceNeg, Int.reduceMul, Int.reduceLT, Int.reduceLE, Int.reduceEq]
      exact ⟨A, by simpa using hp, hs, rfl⟩
    | cons x B =>
      have h1' := h1 (by simp)
      subst h1'
      have hxok : ok x := hok x (hp.mem_iff.1 (List.mem_append_right _ (List.mem_cons_self ..)))
      have g : (((a + A.length : Nat) : Int) < e) := by simp only [List.length_cons] at hlen; omega
      simp (disch := omega) only [g, wrap_i64, ↓evPre, ↓evPreV, evPost, evPostV, ← List.map_take, ← List.map_drop, ↓reduceIte, reduceCtorEq, Nat.reduceEqDiff, forall_const, implies_true, Nat.reduceAdd, Nat.reduceSub, Nat.reduceMul, Nat.reduceLT, Nat.reduceLeDiff, Int.reduceToNat, Int.reduceAdd, Int.reduceSub, Int.reduceNeg, Int.reduceMul, Int.reduceLT, Int.reduceLE, Int.reduceEq]
      -- the element sinks: before it what may be greater, behind it what is
      refine loopA (ι := List (List V) × List (List V)) (fun i => [(0, .msl id ver 0 N), (1, .int .i64 a), (2, .int .i64 e), (3, .func f first cap), (8, .int .i64 (a + A.length : Nat)), (9, .int .i64 (a + i.1.length : Nat))])
        (fun i => rset S id ver (P ++ i.1 ++ x :: i.2 ++ B ++ Q)) (fun i => i.1 ++ i.2 = A ∧ ∀ y ∈ i.2, lt x y = true) (fun i => i.1.length) (A, []) ⟨by simp, by simp⟩ ?_ (by simp) ?_
      · simp only [↓evPre, ↓evPreV, evPost, evPostV, ← List.map_take, ← List.map_drop, ↓reduceIte, reduceCtorEq, Nat.reduceEqDiff, forall_const, implies_true, Nat.reduceAdd, Nat.reduceSub, Nat.reduceMul, Nat.reduceLT, Nat.reduceLeDiff, Int.reduceToNat, Int.reduceAdd, Int.reduceSub, Int.reduceNeg, Int.reduceMul, Int.reduceLT, Int.reduceLE, Int.reduceEq]
      · rintro ⟨A1, A2⟩ ⟨hA, hA2⟩
        simp only at hA hA2 ⊢
        have hxw := hw' x (by simp)
        obtain ⟨x1, x2⟩ := hxw
        have tx : x[0]? = some (hd x) := hd_get x1
        have dx : x.drop 1 = [] := List.drop_eq_nil_of_le (by omega)
        have hobj : ∀ rows, (rset S id ver rows).obj? id ver = some (3, 1, rows) := fun rows => rset_obj hid
        have hAs : Srt lt (A1 ++ A2) := by rw [hA]; exact hs
        have hAo : ∀ y ∈ A1 ++ A2, ok y := by rw [hA]; exact hAok
        have hl1 : A1.length + A2.length = A.length := by rw [← hA]; simp
        have ex1 : ((a + A.length : Nat) : Int) + 1 = (a + A.length + 1 : Nat) := by omega
        -- out: x stands where it belongs
        have out : Srt lt (A1 ++ x :: A2) → ∃ i' : Nat × List (List V) × List (List V), ((i'.2.1 ++ i'.2.2).Perm M ∧ Srt lt i'.2.1 ∧ W2 (P ++ i'.2.1 ++ i'.2.2 ++ Q) ∧ (i'.2.2 ≠ [] → i'.1 = a + i'.2.1.length) ∧ (i'.2.2 = [] → e ≤ i'.1) ∧ i'.1 ≤ e + 1 ∧ i'.2.2.Pairwise ord ∧ ∀ y ∈ i'.2.1, ∀ z ∈ i'.2.2, ord y z) ∧ i'.2.2.length < B.length + 1 ∧
            ((a + A.length + 1 : Nat) : Int) = (i'.1 : Int) ∧ rset S id ver (P ++ A1 ++ x :: A2 ++ B ++ Q) = rset S id ver (P ++ i'.2.1 ++ i'.2.2 ++ Q) := by
          intro hso
          refine ⟨(a + A.length + 1, A1 ++ x :: A2, B), ⟨?_, hso, ?_, fun _ => ?_, fun hB => ?_, ?_, (List.pairwise_cons.1 hb).2, fun y hy z hz => ?_⟩, by simp, by simp, by simp⟩
          · refine List.Perm.trans ?_ hp
            rw [← hA]
            simp only [List.append_assoc, List.cons_append]
            refine List.Perm.append_left _ ?_
            exact (List.perm_middle (l₁ := A2)).symm
          · rw [← hA] at hw'
            simp only [W2_app] at hw' ⊢
            have : W2 (x :: A2) := fun r hr => by
              rcases List.mem_cons.1 hr with rfl | hr
              · exact ⟨x1, x2⟩
              · exact hw'.1.1.2.2 r hr
            have hB : W2 B := fun r hr => hw'.1.2 r (List.mem_cons_of_mem _ hr)
            exact ⟨⟨⟨hw'.1.1.1, hw'.1.1.2.1, this⟩, hB⟩, hw'.2⟩
          · simp; omega
          · simp only at hB
            subst hB
            simp only [List.length_cons, List.length_nil] at hlen
            simp only; omega
          · simp only [List.length_cons] at hlen
            simp only; omega
          · rw [← hA] at hab
            simp only [List.mem_append, List.mem_cons] at hy
            rcases hy with hy | rfl | hy
            · exact hab y (List.mem_append_left _ hy) z (List.mem_cons_of_mem _ hz)
            · exact (List.pairwise_cons.1 hb).1 z hz
            · exact hab y (List.mem_append_right _ hy) z (List.mem_cons_of_mem _ hz)
        rcases List.eq_nil_or_concat A1 with rfl | ⟨A1', y, rfl⟩
        · have := out (srt_insert ho hAs hAo hxok (by simp) hA2)
          simp (disch := omega) only [ex1, wrap_i64, ↓evPre, ↓evPreV, evPost, evPostV, ← List.map_take, ← List.map_drop, ↓reduceIte, reduceCtorEq, Nat.reduceEqDiff, forall_const, implies_true, Nat.reduceAdd, Nat.reduceSub, Nat.reduceMul, Nat.reduceLT, Nat.reduceLeDiff, Int.reduceToNat, Int.reduceAdd, Int.reduceSub, Int.reduceNeg, Int.reduceMul, Int.reduceLT, Int.reduceLE, Int.reduceEq]
          rw [List.append_nil] at this
          exact this
        · simp only [List.concat_eq_append] at hA hAs hAo hl1 out ⊢
          have hyA : y ∈ A := by rw [← hA]; simp
          have hyok := hAok y hyA
          obtain ⟨y1, y2⟩ := hw' y (by simp [hyA])
          have ty : y[0]? = some (hd y) := hd_get y1
          have dy : y.drop 1 = [] := List.drop_eq_nil_of_le (by omega)
          obtain ⟨X, hX⟩ : ∃ X, X = P ++ A1' := ⟨_, rfl⟩
          obtain ⟨Z, hZ⟩ : ∃ Z, Z = A2 ++ B ++ Q := ⟨_, rfl⟩
          have hR : P ++ (A1' ++ [y]) ++ x :: A2 ++ B ++ Q = X ++ y :: x :: Z := by rw [hX, hZ]; simp
          have hR' : P ++ A1' ++ x :: (y :: A2) ++ B ++ Q = X ++ x :: y :: Z := by rw [hX, hZ]; simp
          have hj : a + (A1' ++ [y]).length = X.length + 1 := by rw [hX]; simp; omega
          have hlX : X.length + 1 < N := by
            simp only [List.length_append, List.length_cons, List.length_nil] at hl1
            rw [hX]
            simp only [List.length_append, List.length_cons] at hlen ⊢
            omega
          have ej : ((X.length + 1 : Nat) : Int) - 1 = X.length := by omega
          have ga : (a : Int) < (X.length + 1 : Nat) := by rw [hX]; simp; omega
          rw [hR] at out
          rw [hR, hj]
          simp (disch := omega) only [ga, ej, hobj, idxO_some, adj_get0, adj_get1, x1, y1, tx, ty, wrap_i64, Nat.le_refl, ↓evPre, ↓evPreV, evPost, evPostV, ← List.map_take, ← List.map_drop, ↓reduceIte, reduceCtorEq, Nat.reduceEqDiff, forall_const, implies_true, Nat.reduceAdd, Nat.reduceSub, Nat.reduceMul, Nat.reduceLT, Nat.reduceLeDiff, Int.reduceToNat, Int.reduceAdd, Int.reduceSub, Int.reduceNeg, Int.reduceMul, Int.reduceLT, Int.reduceLE, Int.reduceEq]
          refine (hc x y _ hxok hyok (hab y hyA x (List.mem_cons_self ..))).mono ?_
          rintro r S' ⟨⟨n, rfl, hn⟩, rfl⟩
          cases hlt : lt x y
          · have hn' : ¬ (n < 0) := fun h => by rw [hn.1 h] at hlt; cases hlt
            have := out (srt_insert ho hAs hAo hxok (fun u hu => by
              rcases List.mem_append.1 hu with hu | hu
              · have hpw := hAs
                unfold Srt at hpw
                rw [List.append_assoc, List.pairwise_append] at hpw
                exact ho.trans u y x (hAo u (by simp [hu])) hyok hxok (hpw.2.2 u hu y (by simp)) hlt
              · simp only [List.mem_singleton] at hu
                subst hu
                exact hlt) hA2)
            simp (disch := omega) only [hn', ex1, wrap_i64, ↓evPre, ↓evPreV, evPost, evPostV, ← List.map_take, ← List.map_drop, ↓reduceIte, reduceCtorEq, Nat.reduceEqDiff, forall_const, implies_true, Nat.reduceAdd, Nat.reduceSub, Nat.reduceMul, Nat.reduceLT, Nat.reduceLeDiff, Int.reduceToNat, Int.reduceAdd, Int.reduceSub, Int.reduceNeg, Int.reduceMul, Int.reduceLT, Int.reduceLE, Int.reduceEq]
            exact this
          · have hn' : n < 0 := hn.2 hlt
            simp (disch := omega) only [hn', ej, hobj, idxO_some, adj_get0, adj_get1, adj_set0, adj_set1, x1, y1, x2, y2, tx, ty, dx, dy, hd_cells x1 x2, hd_cells y1 y2, rset_set, wrap_i64, Nat.le_refl, ↓evPre, ↓evPreV, evPost, evPostV, ← List.map_take, ← List.map_drop, ↓reduceIte, reduceCtorEq, Nat.reduceEqDiff, forall_const, implies_true, Nat.reduceAdd, Nat.reduceSub, Nat.reduceMul, Nat.reduceLT, Nat.reduceLeDiff, Int.reduceToNat, Int.reduceAdd, Int.reduceSub, Int.reduceNeg, Int.reduceMul, Int.reduceLT, Int.reduceLE, Int.reduceEq]
            refine ⟨(A1', y :: A2), ⟨by rw [← hA]; simp, fun z hz => ?_⟩, by simp, ?_, by rw [hR']⟩
            · rcases List.mem_cons.1 hz with rfl | hz
              · exact hlt
              · exact hA2 z hz
            · rw [hX]; simp; omega

variable {ok : List V → Prop} {lt : List V → List V → Bool}

theorem srt_mid {A1 A2 : List (List V)} (h : Srt lt (A1 ++ A2)) {x : List V} (h1 : ∀ y ∈ A1, lt x y = false) (h2 : ∀ y ∈ A2, lt y x = false) : Srt lt (A1 ++ x :: A2) := by
  unfold Srt at *
  rw [List.pairwise_append] at *
  obtain ⟨a, b, c⟩ := h
  refine ⟨a, List.pairwise_cons.2 ⟨h2, b⟩, fun u hu v hv => ?_⟩
  rcases List.mem_cons.1 hv with rfl | hv
  · exact h1 u hu
  · exact c u hu v hv

/-- Two places of what is sorted, by index. -/
theorem srt_get {l : List (List V)} (h : Srt lt l) {i j : Nat} {x y : List V} (hij : i < j) (hx : l[i]? = some x) (hy : l[j]? = some y) : lt y x = false := by
  obtain ⟨hi, rfl⟩ := List.getElem?_eq_some_iff.1 hx
  obtain ⟨hj, rfl⟩ := List.getElem?_eq_some_iff.1 hy
  exact List.pairwise_iff_getElem.1 h i j hi hj hij

theorem lt_irrefl (ho : Ords ok lt) {x : List V} (hx : ok x) : lt x x = false := by
  cases h : lt x x
  · rfl
  · have := ho.asymm x x hx hx h
    rw [h] at this
    cases this

/-- .. or the same place. -/
theorem srt_get' (ho : Ords ok lt) {l : List (List V)} (h : Srt lt l) (hok : ∀ r ∈ l, ok r) {i j : Nat} {x y : List V} (hij : i ≤ j) (hx : l[i]? = some x) (hy : l[j]? = some y) : lt y x = false := by
  rcases Nat.lt_or_eq_of_le hij with h1 | rfl
  · exact srt_get h h1 hx hy
  · rw [hx] at hy
    cases hy
    exact lt_irrefl ho (hok x (List.mem_of_getElem? hx))

/-- x before y before z, strictly once. -/
theorem lt_left (ho : Ords ok lt) {x y z : List V} (hx : ok x) (hy : ok y) (hz : ok z) (h1 : lt y x = false) (h2 : lt y z = true) : lt x z = true := by
  cases h : lt x z
  · have := ho.trans z x y hz hx hy h h1
    rw [h2] at this
    cases this
  · rfl
theorem lt_right (ho : Ords ok lt) {x y z : List V} (hx : ok x) (hy : ok y) (hz : ok z) (h1 : lt x y = true) (h2 : lt z y = false) : lt x z = true := by
  cases h : lt x z
  · have := ho.trans y z x hy hz hx h2 h
    rw [h1] at this
    cases this
  · rfl

/-- The merge of two sorted lists, each cut in two, so that the first parts come first. -/
theorem srt_join (ho : Ords ok lt) {A1 A2 B1 B2 L R : List (List V)} (hU : Srt lt (A1 ++ A2)) (hW : Srt lt (B1 ++ B2)) (h1 : ∀ x ∈ A1, ∀ y ∈ B2, lt y x = false) (h2 : ∀ x ∈ B1, ∀ y ∈ A2, lt y x = false)
    (hL : L.Perm (A1 ++ B1)) (hLs : Srt lt L) (hR : R.Perm (A2 ++ B2)) (hRs : Srt lt R) : (L ++ R).Perm ((A1 ++ A2) ++ (B1 ++ B2)) ∧ Srt lt (L ++ R) := by
  constructor
  · refine (hL.append hR).trans ?_
    simp only [List.append_assoc]
    refine List.Perm.append_left _ ?_
    rw [← List.append_assoc B1, ← List.append_assoc A2]
    exact List.Perm.append_right _ List.perm_append_comm
  · unfold Srt at *
    rw [List.pairwise_append] at *
    refine ⟨hLs, hRs, fun x hx y hy => ?_⟩
    have hx' := hL.mem_iff.1 hx
    have hy' := hR.mem_iff.1 hy
    rcases List.mem_append.1 hx' with hx' | hx' <;> rcases List.mem_append.1 hy' with hy' | hy'
    · exact hU.2.2 x hx' y hy'
    · exact h1 x hx' y hy'
    · exact h2 x hx' y hy'
    · exact hW.2.2 x hx' y hy'

/-- What the search by halves has found: n places before which a test fails, from which on it holds. -/
theorem cut_list {l : List (List V)} {s : Nat} (hs : s ≤ l.length) : ∃ l1 l2, l = l1 ++ l2 ∧ l1.length = s := ⟨l.take s, l.drop s, (List.take_append_drop _ _).symm, by simp; omega⟩

theorem half_le {i j : Int} (h0 : 0 ≤ i) (h : i < j) : i ≤ (i + j) / 2 ∧ (i + j) / 2 < j := by omega
end Go.Proofs.YteeenlgoildmiaaDoor
