/- The stable sort: the merge where one side has one element. -/
import Derived.Test.YtjjdfkkfhbndiaaDoorQCkSrt1
namespace Go.Proofs.YtjjdfkkfhbndiaaDoor.Ck
open Go Go.AL
set_option linter.unusedSectionVars false
variable [Go.AL.Mode] [Go.AL.LooseM]
set_option linter.unusedSimpArgs false
set_option linter.unusedVariables false
set_option maxHeartbeats 8000000
theorem sym1_A (P W Q : List (List V)) (u : List V) (S : Store) (id ver a m b N : Nat) (f : FuncId) (first cap : List V) (ok : List V → Prop) (lt : List V → List V → Bool) (ord : List V → List V → Prop) (hc : Cmps f first cap ok lt ord) (ho : Ords ok lt)
    (hid : id < S.length) (hw : W2 (P ++ [u] ++ W ++ Q)) (hu : ok u) (hok : ∀ r ∈ W, ok r) (ha : P.length = a) (hm : a + 1 = m) (hb : m + W.length = b) (hN : (P ++ [u] ++ W ++ Q).length = N) (hl : N ≤ 1099511627776) (hs : Srt lt W) (hor : ∀ y ∈ W, ord u y) :
    CallA Tryd.prog 59 [.msl id ver 0 N, .int .i64 a, .int .i64 m, .int .i64 b, .func f first cap] (rset S id ver (P ++ [u] ++ W ++ Q)) fun r S' => r = .tup [] ∧ ∃ M', M'.Perm ([u] ++ W) ∧ Srt lt M' ∧ S' = rset S id ver (P ++ M' ++ Q) := by
  refine CallA.keep Tryd.func59 c2045 (Nat.le_of_ble_eq_true rfl) fun σ hσ => ?_
  have hN' : a + 1 + W.length + Q.length = N := by rw [← hN]; simp; omega
  have e1 : (m : Int) - a = 1 := by omega
  have hobj : ∀ rows, (rset S id ver rows).obj? id ver = some (3, 1, rows) := fun rows => rset_obj hid
  obtain ⟨u1, u2⟩ := hw u (by simp)
  have tu : u[0]? = some (hd u) := hd_get u1
  have du : u.drop 1 = [] := List.drop_eq_nil_of_le (by omega)
  simp (disch := omega) only [a2045, e1, wrap_i64, ↓evPre, ↓evPreV, evPost, evPostV, evR, evU, seval]
  refine loopA (ι := Nat × Nat) (fun i => [(0, .msl id ver 0 N), (1, .int .i64 a), (4, .func f first cap), (10, .int .i64 i.1), (11, .int .i64 i.2)]) (fun _ => rset S id ver (P ++ [u] ++ W ++ Q))
    (fun i => m ≤ i.1 ∧ i.1 ≤ i.2 ∧ i.2 ≤ b ∧ (∀ k y, k + m < i.1 → W[k]? = some y → lt y u = true) ∧ (∀ k y, i.2 ≤ k + m → W[k]? = some y → lt y u = false)) (fun i => i.2 - i.1) (m, b) ⟨Nat.le_refl _, by simp only; omega, Nat.le_refl _, fun k y h => by simp only at h; omega, fun k y h hk => by
      have := (List.getElem?_eq_some_iff.1 hk).1
      simp only at h; omega⟩ ?_ rfl ?_
  · simp only [↓evPre, ↓evPreV, evPost, evPostV, evR, evU, seval]
  · rintro ⟨i, j⟩ ⟨h1, h2, h3, h4, h5⟩
    simp only at h1 h2 h3 h4 h5 ⊢
    by_cases hij : i < j
    · have g : (i : Int) < j := by omega
      obtain ⟨h, hh⟩ : ∃ h, h = (i + j) / 2 := ⟨_, rfl⟩
      have eh : ((i : Int) + j) / 2 = (h : Nat) := by omega
      have hlt : h - m < W.length := by omega
      obtain ⟨y, hy⟩ : ∃ y, W[h - m]? = some y := ⟨_, List.getElem?_eq_getElem hlt⟩
      have hym := List.mem_of_getElem? hy
      have hyok := hok y hym
      obtain ⟨y1, y2⟩ := hw y (by simp [hym])
      have ty : y[0]? = some (hd y) := hd_get y1
      have gy : (P ++ [u] ++ W ++ Q)[h]? = some y := by
        rw [List.append_assoc, List.getElem?_append_right (by simp; omega), List.getElem?_append_left (by simp; omega), ← hy]
        congr 1
        simp; omega
      have gu : (P ++ [u] ++ W ++ Q)[a]? = some u := by
        rw [List.append_assoc, List.append_assoc, List.getElem?_append_right (by omega), ha]; simp
      simp (disch := omega) only [g, eh, hobj, idxO_some, gy, gu, y1, u1, ty, tu, wrap_i64, wrap_u64, Nat.le_refl, ↓evPre, ↓evPreV, evPost, evPostV, evR, evU, seval]
      refine (hc y u _ hyok hu (hor y hym)).mono ?_
      rintro r S' ⟨⟨n, rfl, hn⟩, rfl⟩
      cases hlt' : lt y u
      · have hn' : ¬ (n < 0) := fun h => by rw [hn.1 h] at hlt'; cases hlt'
        simp (disch := omega) only [hn', wrap_i64, ↓evPre, ↓evPreV, evPost, evPostV, evR, evU, seval]
        refine ⟨(i, h), ⟨h1, by simp only; omega, by simp only; omega, h4, fun k z hk hz => ?_⟩, by simp only; omega, rfl, rfl⟩
        simp only at hk
        exact ho.trans u y z hu hyok (hok z (List.mem_of_getElem? hz)) hlt' (srt_get' ho hs hok (by omega) hy hz)
      · have hn' : n < 0 := hn.2 hlt'
        simp (disch := omega) only [hn', wrap_i64, ↓evPre, ↓evPreV, evPost, evPostV, evR, evU, seval]
        refine ⟨(h + 1, j), ⟨by simp only; omega, by simp only; omega, h3, fun k z hk hz => ?_, h5⟩, by simp only; omega, by simp, rfl⟩
        simp only at hk
        exact lt_left ho (hok z (List.mem_of_getElem? hz)) hyok hu (srt_get' ho hs hok (by omega) hz hy) hlt'
    · have g : ¬ ((i : Int) < j) := by omega
      have hij' : i = j := by omega
      subst hij'
      obtain ⟨W1, W2', rfl, hl1⟩ := cut_list (l := W) (s := i - m) (by omega)
      simp (disch := omega) only [g, wrap_i64, ↓evPre, ↓evPreV, evPost, evPostV, evR, evU, seval]
      refine loopA (ι := List (List V) × List (List V)) (fun k => [(0, .msl id ver 0 N), (10, .int .i64 i), (13, .int .i64 (a + k.1.length : Nat))]) (fun k => rset S id ver (P ++ k.1 ++ u :: k.2 ++ W2' ++ Q)) (fun k => k.1 ++ k.2 = W1) (fun k => k.2.length) ([], W1) rfl ?_ (by simp) ?_
      · simp only [↓evPre, ↓evPreV, evPost, evPostV, evR, evU, seval]
      · rintro ⟨D, E⟩ hDE
        simp only at hDE ⊢
        have hlen : D.length + E.length = i - m := by rw [← hl1, ← hDE]; simp
        cases E with
        | nil =>
          have g2 : ¬ (((a + D.length : Nat) : Int) < (i : Int) - 1) := by simp only [List.length_nil] at hlen; omega
          simp (disch := omega) only [g2, wrap_i64, ↓evPre, ↓evPreV, evPost, evPostV, evR, evU, seval]
          rw [List.append_nil] at hDE
          subst hDE
          refine ⟨D ++ u :: W2', List.perm_middle.trans (by simp), ?_, by simp⟩
          refine srt_mid hs (fun y hy => ?_) (fun y hy => ?_)
          · obtain ⟨k, hk⟩ := List.getElem?_of_mem hy
            have hkl := (List.getElem?_eq_some_iff.1 hk).1
            exact ho.asymm y u (hok y (by simp [hy])) hu (h4 k y (by omega) (by rw [List.getElem?_append_left hkl]; exact hk))
          · obtain ⟨k, hk⟩ := List.getElem?_of_mem hy
            refine h5 (D.length + k) y (by omega) ?_
            rw [List.getElem?_append_right (by omega)]
            simpa using hk
        | cons y E =>
          have hym : y ∈ W1 := by rw [← hDE]; simp
          obtain ⟨y1, y2⟩ := hw y (by simp [hym])
          have ty : y[0]? = some (hd y) := hd_get y1
          have dy : y.drop 1 = [] := List.drop_eq_nil_of_le (by omega)
          obtain ⟨X, hX⟩ : ∃ X, X = P ++ D := ⟨_, rfl⟩
          obtain ⟨Z, hZ⟩ : ∃ Z, Z = E ++ W2' ++ Q := ⟨_, rfl⟩
          have hR : P ++ D ++ u :: (y :: E) ++ W2' ++ Q = X ++ u :: y :: Z := by rw [hX, hZ]; simp
          have hR' : P ++ (D ++ [y]) ++ u :: E ++ W2' ++ Q = X ++ y :: u :: Z := by rw [hX, hZ]; simp
          have hk : a + D.length = X.length := by rw [hX]; simp; omega
          simp only [List.length_cons] at hlen
          simp only [List.length_append] at hN' hb
          have g2 : (X.length : Int) < (i : Int) - 1 := by omega
          have ek : (X.length : Int) + 1 = (X.length + 1 : Nat) := by omega
          rw [hR, hk]
          simp (disch := omega) only [g2, ek, hobj, idxO_some, adj_get0, adj_get1, adj_set0, adj_set1, u1, y1, tu, ty, du, dy, hd_cells u1 u2, hd_cells y1 y2, rset_set, wrap_i64, Nat.le_refl, ↓evPre, ↓evPreV, evPost, evPostV, evR, evU, seval]
          refine ⟨(D ++ [y], E), by rw [← hDE]; simp, by simp, ?_, by rw [hR']⟩
          rw [← hk]; simp; omega
theorem sym2_A (P U Q : List (List V)) (u : List V) (S : Store) (id ver a m b N : Nat) (f : FuncId) (first cap : List V) (ok : List V → Prop) (lt : List V → List V → Bool) (ord : List V → List V → Prop) (hc : Cmps f first cap ok lt ord) (ho : Ords ok lt)
    (hid : id < S.length) (hw : W2 (P ++ U ++ [u] ++ Q)) (hu : ok u) (hok : ∀ r ∈ U, ok r) (ha : P.length = a) (hm : a + U.length = m) (hb : m + 1 = b) (hN : (P ++ U ++ [u] ++ Q).length = N) (hl : N ≤ 1099511627776) (hs : Srt lt U) (hU : U.length ≠ 1) (hor : ∀ y ∈ U, ord y u) :
    CallA Tryd.prog 59 [.msl id ver 0 N, .int .i64 a, .int .i64 m, .int .i64 b, .func f first cap] (rset S id ver (P ++ U ++ [u] ++ Q)) fun r S' => r = .tup [] ∧ ∃ M', M'.Perm (U ++ [u]) ∧ Srt lt M' ∧ S' = rset S id ver (P ++ M' ++ Q) := by
  refine CallA.keep Tryd.func59 c2045 (Nat.le_of_ble_eq_true rfl) fun σ hσ => ?_
  have hN' : a + U.length + 1 + Q.length = N := by rw [← hN]; simp; omega
  have e0 : ¬ ((m : Int) - a = 1) := by omega
  have e1 : (b : Int) - m = 1 := by omega
  have hobj : ∀ rows, (rset S id ver rows).obj? id ver = some (3, 1, rows) := fun rows => rset_obj hid
  obtain ⟨u1, u2⟩ := hw u (by simp)
  have tu : u[0]? = some (hd u) := hd_get u1
  have du : u.drop 1 = [] := List.drop_eq_nil_of_le (by omega)
  simp (disch := omega) only [a2045, e0, e1, wrap_i64, ↓evPre, ↓evPreV, evPost, evPostV, evR, evU, seval]
  refine loopA (ι := Nat × Nat) (fun i => [(0, .msl id ver 0 N), (2, .int .i64 m), (4, .func f first cap), (14, .int .i64 i.1), (15, .int .i64 i.2)]) (fun _ => rset S id ver (P ++ U ++ [u] ++ Q))
    (fun i => a ≤ i.1 ∧ i.1 ≤ i.2 ∧ i.2 ≤ m ∧ (∀ k y, k + a < i.1 → U[k]? = some y → lt u y = false) ∧ (∀ k y, i.2 ≤ k + a → U[k]? = some y → lt u y = true)) (fun i => i.2 - i.1) (a, m) ⟨Nat.le_refl _, by simp only; omega, Nat.le_refl _, fun k y h => by simp only at h; omega, fun k y h hk => by
      have := (List.getElem?_eq_some_iff.1 hk).1
      simp only at h; omega⟩ ?_ rfl ?_
  · simp only [↓evPre, ↓evPreV, evPost, evPostV, evR, evU, seval]
  · rintro ⟨i, j⟩ ⟨h1, h2, h3, h4, h5⟩
    simp only at h1 h2 h3 h4 h5 ⊢
    by_cases hij : i < j
    · have g : (i : Int) < j := by omega
      obtain ⟨h, hh⟩ : ∃ h, h = (i + j) / 2 := ⟨_, rfl⟩
      have eh : ((i : Int) + j) / 2 = (h : Nat) := by omega
      have hlt : h - a < U.length := by omega
      obtain ⟨y, hy⟩ : ∃ y, U[h - a]? = some y := ⟨_, List.getElem?_eq_getElem hlt⟩
      have hym := List.mem_of_getElem? hy
      have hyok := hok y hym
      obtain ⟨y1, y2⟩ := hw y (by simp [hym])
      have ty : y[0]? = some (hd y) := hd_get y1
      have gy : (P ++ U ++ [u] ++ Q)[h]? = some y := by
        rw [List.append_assoc, List.getElem?_append_left (by simp; omega), List.getElem?_append_right (by omega), ha]
        exact hy
      have gu : (P ++ U ++ [u] ++ Q)[m]? = some u := by
        rw [List.append_assoc, List.getElem?_append_right (by simp; omega)]
        have : m - (P ++ U).length = 0 := by simp; omega
        rw [this]; simp
      simp (disch := omega) only [g, eh, hobj, idxO_some, gy, gu, y1, u1, ty, tu, wrap_i64, wrap_u64, Nat.le_refl, ↓evPre, ↓evPreV, evPost, evPostV, evR, evU, seval]
      refine (hc u y _ hu hyok (hor y hym)).mono ?_
      rintro r S' ⟨⟨n, rfl, hn⟩, rfl⟩
      cases hlt' : lt u y
      · have hn' : ¬ (n < 0) := fun h => by rw [hn.1 h] at hlt'; cases hlt'
        simp (disch := omega) only [hn', wrap_i64, ↓evPre, ↓evPreV, evPost, evPostV, evR, evU, seval]
        refine ⟨(h + 1, j), ⟨by simp only; omega, by simp only; omega, h3, fun k z hk hz => ?_, h5⟩, by simp only; omega, by simp, rfl⟩
        simp only at hk
        exact ho.trans z y u (hok z (List.mem_of_getElem? hz)) hyok hu (srt_get' ho hs hok (by omega) hz hy) hlt'
      · have hn' : n < 0 := hn.2 hlt'
        simp (disch := omega) only [hn', wrap_i64, ↓evPre, ↓evPreV, evPost, evPostV, evR, evU, seval]
        refine ⟨(i, h), ⟨h1, by simp only; omega, by simp only; omega, h4, fun k z hk hz => ?_⟩, by simp only; omega, rfl, rfl⟩
        simp only at hk
        exact lt_right ho hu hyok (hok z (List.mem_of_getElem? hz)) hlt' (srt_get' ho hs hok (by omega) hy hz)
    · have g : ¬ ((i : Int) < j) := by omega
      have hij' : i = j := by omega
      subst hij'
      obtain ⟨U1, U2', rfl, hl1⟩ := cut_list (l := U) (s := i - a) (by omega)
      simp (disch := omega) only [g, wrap_i64, ↓evPre, ↓evPreV, evPost, evPostV, evR, evU, seval]
      refine loopA (ι := List (List V) × List (List V)) (fun k => [(0, .msl id ver 0 N), (14, .int .i64 i), (17, .int .i64 (i + k.1.length : Nat))]) (fun k => rset S id ver (P ++ U1 ++ k.1 ++ u :: k.2 ++ Q)) (fun k => k.1 ++ k.2 = U2') (fun k => k.1.length) (U2', []) (by simp) ?_ (by simp) ?_
      · simp only [↓evPre, ↓evPreV, evPost, evPostV, evR, evU, seval]
        simp only [List.length_append] at hm
        omega
      · rintro ⟨D, E⟩ hDE
        simp only at hDE ⊢
        rcases List.eq_nil_or_concat D with rfl | ⟨D', y, rfl⟩
        · have g2 : ¬ ((i : Int) < i) := by omega
          simp (disch := omega) only [g2, wrap_i64, ↓evPre, ↓evPreV, evPost, evPostV, evR, evU, seval]
          rw [List.nil_append] at hDE
          subst hDE
          refine ⟨U1 ++ u :: E, ?_, ?_, by simp⟩
          · rw [List.append_assoc]
            exact List.Perm.append_left _ (List.perm_append_comm (l₁ := [u]) (l₂ := E))
          · refine srt_mid hs (fun y hy => ?_) (fun y hy => ?_)
            · obtain ⟨k, hk⟩ := List.getElem?_of_mem hy
              have hkl := (List.getElem?_eq_some_iff.1 hk).1
              exact h4 k y (by omega) (by rw [List.getElem?_append_left hkl]; exact hk)
            · obtain ⟨k, hk⟩ := List.getElem?_of_mem hy
              refine ho.asymm u y hu (hok y (by simp [hy])) (h5 (U1.length + k) y (by omega) ?_)
              rw [List.getElem?_append_right (by omega)]
              simpa using hk
        · simp only [List.concat_eq_append] at hDE ⊢
          have hym : y ∈ U2' := by rw [← hDE]; simp
          obtain ⟨y1, y2⟩ := hw y (by simp [hym])
          have ty : y[0]? = some (hd y) := hd_get y1
          have dy : y.drop 1 = [] := List.drop_eq_nil_of_le (by omega)
          obtain ⟨X, hX⟩ : ∃ X, X = P ++ U1 ++ D' := ⟨_, rfl⟩
          obtain ⟨Z, hZ⟩ : ∃ Z, Z = E ++ Q := ⟨_, rfl⟩
          have hR : P ++ U1 ++ (D' ++ [y]) ++ u :: E ++ Q = X ++ y :: u :: Z := by rw [hX, hZ]; simp
          have hR' : P ++ U1 ++ D' ++ u :: (y :: E) ++ Q = X ++ u :: y :: Z := by rw [hX, hZ]; simp
          have hk : i + (D' ++ [y]).length = X.length + 1 := by rw [hX]; simp; omega
          have hlen : D'.length + 1 + E.length = U2'.length := by rw [← hDE]; simp; omega
          simp only [List.length_append] at hN' hm
          have hXl : X.length = a + (i - a) + D'.length := by rw [hX]; simp; omega
          have g2 : (i : Int) < (X.length + 1 : Nat) := by omega
          have ek : ((X.length + 1 : Nat) : Int) - 1 = X.length := by omega
          rw [hR, hk]
          simp (disch := omega) only [g2, ek, hobj, idxO_some, adj_get0, adj_get1, adj_set0, adj_set1, u1, y1, tu, ty, du, dy, hd_cells u1 u2, hd_cells y1 y2, rset_set, wrap_i64, Nat.le_refl, ↓evPre, ↓evPreV, evPost, evPostV, evR, evU, seval]
          refine ⟨(D', y :: E), by rw [← hDE]; simp, by simp, ?_, by rw [hR']⟩
          simp only; omega
end Go.Proofs.YtjjdfkkfhbndiaaDoor.Ck
