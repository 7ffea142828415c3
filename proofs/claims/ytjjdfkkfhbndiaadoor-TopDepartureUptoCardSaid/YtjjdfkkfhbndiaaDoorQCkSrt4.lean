/- The stable sort: the merge. -/
import Derived.Test.YtjjdfkkfhbndiaaDoorQCkSrt3
namespace Go.Proofs.YtjjdfkkfhbndiaaDoor.Ck
open Go Go.AL
set_option linter.unusedSectionVars false
variable [Go.AL.Mode] [Go.AL.LooseM]
set_option linter.unusedSimpArgs false
set_option linter.unusedVariables false
set_option maxHeartbeats 8000000
def SymOk (f : FuncId) (first cap : List V) (ok : List V → Prop) (lt : List V → List V → Bool) (ord : List V → List V → Prop) (k : Nat) : Prop :=
  ∀ (P U W Q : List (List V)) (S : Store) (id ver a m b N : Nat), U.length + W.length ≤ k → id < S.length → W2 (P ++ U ++ W ++ Q) → (∀ r ∈ U, ok r) → (∀ r ∈ W, ok r) → P.length = a → a + U.length = m → m + W.length = b → (P ++ U ++ W ++ Q).length = N → N ≤ 1099511627776 →
    Srt lt U → Srt lt W → 0 < U.length → 0 < W.length → (∀ x ∈ U, ∀ y ∈ W, ord x y) →
    CallA Tryd.prog 59 [.msl id ver 0 N, .int .i64 a, .int .i64 m, .int .i64 b, .func f first cap] (rset S id ver (P ++ U ++ W ++ Q)) fun r S' => r = .tup [] ∧ ∃ M', M'.Perm (U ++ W) ∧ Srt lt M' ∧ S' = rset S id ver (P ++ M' ++ Q)
theorem sym_step {f : FuncId} {first cap : List V} {ok : List V → Prop} {lt : List V → List V → Bool} {ord : List V → List V → Prop} (hc : Cmps f first cap ok lt ord) (ho : Ords ok lt) {k : Nat} (ih : SymOk f first cap ok lt ord k)
    (P U W Q : List (List V)) (S : Store) (id ver a m b N : Nat) (hk : U.length + W.length ≤ k + 1) (hid : id < S.length) (hw : W2 (P ++ U ++ W ++ Q)) (hUo : ∀ r ∈ U, ok r) (hWo : ∀ r ∈ W, ok r) (ha : P.length = a) (hm : a + U.length = m) (hb : m + W.length = b)
    (hN : (P ++ U ++ W ++ Q).length = N) (hl : N ≤ 1099511627776) (hUs : Srt lt U) (hWs : Srt lt W) (hU0 : 1 < U.length) (hW0 : 1 < W.length) (hor : ∀ x ∈ U, ∀ y ∈ W, ord x y) :
    CallA Tryd.prog 59 [.msl id ver 0 N, .int .i64 a, .int .i64 m, .int .i64 b, .func f first cap] (rset S id ver (P ++ U ++ W ++ Q)) fun r S' => r = .tup [] ∧ ∃ M', M'.Perm (U ++ W) ∧ Srt lt M' ∧ S' = rset S id ver (P ++ M' ++ Q) := by
  refine CallA.keep Tryd.func59 c2045 (Nat.le_of_ble_eq_true rfl) fun σ hσ => ?_
  have hN' : a + U.length + W.length + Q.length = N := by rw [← hN]; simp; omega
  have e0 : ¬ ((m : Int) - a = 1) := by omega
  have e1 : ¬ ((b : Int) - m = 1) := by omega
  have hobj : ∀ rows, (rset S id ver rows).obj? id ver = some (3, 1, rows) := fun rows => rset_obj hid
  obtain ⟨mid, hmid⟩ : ∃ mid, mid = (a + b) / 2 := ⟨_, rfl⟩
  have em : ((a : Int) + b) / 2 = (mid : Nat) := by omega
  obtain ⟨nn, hnn⟩ : ∃ nn, nn = mid + m := ⟨_, rfl⟩
  have en : (mid : Int) + m = (nn : Nat) := by omega
  have fin : ∀ (R0 s : Nat) (A1 A2 B1 B2 L R : List (List V)), U = A1 ++ A2 → W = B1 ++ B2 → (∀ x ∈ A1, ∀ y ∈ B2, lt y x = false) → (∀ x ∈ B1, ∀ y ∈ A2, lt y x = false) → L.Perm (A1 ++ B1) → Srt lt L → R.Perm (A2 ++ B2) → Srt lt R →
      ∃ M', M'.Perm (U ++ W) ∧ Srt lt M' ∧ rset S id ver (P ++ L ++ R ++ Q) = rset S id ver (P ++ M' ++ Q) := by
    rintro R0 s A1 A2 B1 B2 L R rfl rfl h1 h2 h3 h4 h5 h6
    obtain ⟨g1, g2⟩ := srt_join ho hUs hWs h1 h2 h3 h4 h5 h6
    exact ⟨L ++ R, g1, g2, by simp⟩
  have hcase : ∃ S0 R0 : Nat, a ≤ S0 ∧ S0 ≤ R0 ∧ R0 ≤ m ∧ R0 ≤ mid ∧ nn ≤ b + S0 ∧ (S0 = a ∨ nn = b + S0) ∧ (R0 = m ∨ R0 = mid) ∧ ((mid < m ∧ (nn : Int) - b = (S0 : Nat) ∧ R0 = mid) ∨ (¬ mid < m ∧ S0 = a ∧ R0 = m)) := by
    by_cases h : mid < m
    · exact ⟨nn - b, mid, by omega, by omega, by omega, by omega, by omega, by omega, by omega, .inl ⟨h, by omega, rfl⟩⟩
    · exact ⟨a, m, by omega, by omega, by omega, by omega, by omega, by omega, by omega, .inr ⟨h, rfl, rfl⟩⟩
  obtain ⟨S0, R0, c2001, c2002, c2003, c2004, c2005, c2006, c2007, hcase⟩ := hcase
  have ep : (nn : Int) - 1 = (nn - 1 : Nat) := by omega
  have cross : ∀ (s : Nat) (A1 A2 B1 B2 : List (List V)), U = A1 ++ A2 → W = B1 ++ B2 → A1.length = s - a → B1.length = mid - s → S0 ≤ s → s ≤ R0 →
      (∀ c x y, S0 ≤ c → c < s → U[c - a]? = some x → W[nn - 1 - c - m]? = some y → lt y x = false) → (∀ c x y, s ≤ c → c < R0 → U[c - a]? = some x → W[nn - 1 - c - m]? = some y → lt y x = true) →
      (∀ x ∈ A1, ∀ y ∈ B2, lt y x = false) ∧ (∀ x ∈ B1, ∀ y ∈ A2, lt y x = false) := by
    intro s A1 A2 B1 B2 hU hW hA hB hs1 hs2 k1 k2
    have hUl : A1.length + A2.length = U.length := by rw [hU]; simp
    have hWl : B1.length + B2.length = W.length := by rw [hW]; simp
    refine ⟨fun x hx y hy => ?_, fun x hx y hy => ?_⟩
    · obtain ⟨p, hp⟩ := List.getElem?_of_mem hx
      obtain ⟨q, hq⟩ := List.getElem?_of_mem hy
      have hpl := (List.getElem?_eq_some_iff.1 hp).1
      have hql := (List.getElem?_eq_some_iff.1 hq).1
      have hp' : U[p]? = some x := by rw [hU, List.getElem?_append_left hpl]; exact hp
      have hq' : W[B1.length + q]? = some y := by rw [hW, List.getElem?_append_right (by omega)]; simpa using hq
      obtain ⟨x0, hx0⟩ : ∃ x0, U[s - 1 - a]? = some x0 := ⟨_, List.getElem?_eq_getElem (by omega)⟩
      obtain ⟨y0, hy0⟩ : ∃ y0, W[nn - 1 - (s - 1) - m]? = some y0 := ⟨_, List.getElem?_eq_getElem (by omega)⟩
      have h0 := k1 (s - 1) x0 y0 (by omega) (by omega) hx0 hy0
      have ox := hUo x (List.mem_of_getElem? hp')
      have ox0 := hUo x0 (List.mem_of_getElem? hx0)
      have oy := hWo y (List.mem_of_getElem? hq')
      have oy0 := hWo y0 (List.mem_of_getElem? hy0)
      have g1 := srt_get' ho hUs hUo (by omega) hp' hx0
      have g2 := srt_get' ho hWs hWo (by omega) hy0 hq'
      exact ho.trans x y0 y ox oy0 oy (ho.trans x x0 y0 ox ox0 oy0 g1 h0) g2
    · obtain ⟨p, hp⟩ := List.getElem?_of_mem hx
      obtain ⟨q, hq⟩ := List.getElem?_of_mem hy
      have hpl := (List.getElem?_eq_some_iff.1 hp).1
      have hql := (List.getElem?_eq_some_iff.1 hq).1
      have hp' : W[p]? = some x := by rw [hW, List.getElem?_append_left hpl]; exact hp
      have hq' : U[A1.length + q]? = some y := by rw [hU, List.getElem?_append_right (by omega)]; simpa using hq
      obtain ⟨x0, hx0⟩ : ∃ x0, U[s - a]? = some x0 := ⟨_, List.getElem?_eq_getElem (by omega)⟩
      obtain ⟨y0, hy0⟩ : ∃ y0, W[nn - 1 - s - m]? = some y0 := ⟨_, List.getElem?_eq_getElem (by omega)⟩
      have h0 := k2 s x0 y0 (by omega) (by omega) hx0 hy0
      have ox := hWo x (List.mem_of_getElem? hp')
      have ox0 := hUo x0 (List.mem_of_getElem? hx0)
      have oy := hUo y (List.mem_of_getElem? hq')
      have oy0 := hWo y0 (List.mem_of_getElem? hy0)
      have g1 := srt_get' ho hWs hWo (by omega) hp' hy0
      have g2 := srt_get' ho hUs hUo (by omega) hx0 hq'
      exact ho.trans x x0 y ox ox0 oy (ho.trans x y0 x0 ox oy0 ox0 g1 (ho.asymm y0 x0 oy0 ox0 h0)) g2
  have cell : ∀ y ∈ U ++ W, y.length = 1 ∧ y[0]? = some (hd y) := fun y hy => by
    have := (hw y (by simp only [List.mem_append] at hy ⊢; rcases hy with hy | hy <;> simp [hy])).1
    exact ⟨this, hd_get this⟩
  rcases hcase with ⟨hmm, es, er⟩ | ⟨hmm, es, er⟩
  all_goals first
    | (have hmm' : (mid : Int) < m := by omega
       simp (disch := omega) only [a2045, e0, e1, em, en, hmm', es, ep, wrap_i64, wrap_u64, ↓evPre, ↓evPreV, evPost, evPostV, evR, evU, seval])
    | (have hmm' : ¬ ((mid : Int) < m) := by omega
       simp (disch := omega) only [a2045, e0, e1, em, en, hmm', ep, wrap_i64, wrap_u64, ↓evPre, ↓evPreV, evPost, evPostV, evR, evU, seval])
  all_goals
    refine loopA (ι := Nat × Nat) (fun i => [(0, .msl id ver 0 N), (1, .int .i64 a), (2, .int .i64 m), (3, .int .i64 b), (4, .func f first cap), (18, .int .i64 mid), (19, .int .i64 nn), (20, .int .i64 i.1), (21, .int .i64 i.2), (22, .int .i64 (nn - 1 : Nat))]) (fun _ => rset S id ver (P ++ U ++ W ++ Q))
      (fun i => S0 ≤ i.1 ∧ i.1 ≤ i.2 ∧ i.2 ≤ R0 ∧ (∀ c x y, S0 ≤ c → c < i.1 → U[c - a]? = some x → W[nn - 1 - c - m]? = some y → lt y x = false) ∧ (∀ c x y, i.2 ≤ c → c < R0 → U[c - a]? = some x → W[nn - 1 - c - m]? = some y → lt y x = true))
      (fun i => i.2 - i.1) (S0, R0) ⟨Nat.le_refl _, c2002, Nat.le_refl _, fun c x y h h' => by simp only at h'; omega, fun c x y h h' => by simp only at h; omega⟩ ?_ rfl ?_
    · simp only [↓evPre, ↓evPreV, evPost, evPostV, evR, evU, seval]
      omega
    · rintro ⟨i, j⟩ ⟨h1, h2, h3, h4, h5⟩
      simp only at h1 h2 h3 h4 h5 ⊢
      by_cases hij : i < j
      · have g : (i : Int) < j := by omega
        obtain ⟨c, hcc⟩ : ∃ c, c = (i + j) / 2 := ⟨_, rfl⟩
        have ec : ((i : Int) + j) / 2 = (c : Nat) := by omega
        obtain ⟨x, hx⟩ : ∃ x, U[c - a]? = some x := ⟨_, List.getElem?_eq_getElem (by omega)⟩
        obtain ⟨y, hy⟩ : ∃ y, W[nn - 1 - c - m]? = some y := ⟨_, List.getElem?_eq_getElem (by omega)⟩
        have hxm := List.mem_of_getElem? hx
        have hym := List.mem_of_getElem? hy
        obtain ⟨x1, tx⟩ := cell x (List.mem_append_left _ hxm)
        obtain ⟨y1, ty⟩ := cell y (List.mem_append_right _ hym)
        have epc : ((nn - 1 : Nat) : Int) - c = (nn - 1 - c : Nat) := by omega
        have gx : (P ++ U ++ W ++ Q)[c]? = some x := by
          rw [List.append_assoc, List.getElem?_append_left (by simp; omega), List.getElem?_append_right (by omega), ha]; exact hx
        have gy : (P ++ U ++ W ++ Q)[nn - 1 - c]? = some y := by
          rw [List.getElem?_append_left (by simp; omega), List.getElem?_append_right (by simp; omega), ← hy]
          congr 1
          simp; omega
        simp (disch := omega) only [g, ec, epc, hobj, idxO_some, gx, gy, x1, y1, tx, ty, wrap_i64, wrap_u64, Nat.le_refl, ↓evPre, ↓evPreV, evPost, evPostV, evR, evU, seval]
        refine (hc y x _ (hWo y hym) (hUo x hxm) (hor x hxm y hym)).mono ?_
        rintro r S' ⟨⟨n, rfl, hn⟩, rfl⟩
        cases hlt : lt y x
        · have hn' : ¬ (n < 0) := fun h => by rw [hn.1 h] at hlt; cases hlt
          simp (disch := omega) only [hn', wrap_i64, ↓evPre, ↓evPreV, evPost, evPostV, evR, evU, seval]
          refine ⟨(c + 1, j), ⟨by simp only; omega, by simp only; omega, h3, fun d u w k1 k2 k3 k4 => ?_, h5⟩, by simp only; omega, by simp, rfl⟩
          simp only at k2
          have ou := hUo u (List.mem_of_getElem? k3)
          have ow := hWo w (List.mem_of_getElem? k4)
          exact ho.trans u y w ou (hWo y hym) ow (ho.trans u x y ou (hUo x hxm) (hWo y hym) (srt_get' ho hUs hUo (by omega) k3 hx) hlt) (srt_get' ho hWs hWo (by omega) hy k4)
        · have hn' : n < 0 := hn.2 hlt
          simp (disch := omega) only [hn', wrap_i64, ↓evPre, ↓evPreV, evPost, evPostV, evR, evU, seval]
          refine ⟨(i, c), ⟨h1, by simp only; omega, by simp only; omega, h4, fun d u w k1 k2 k3 k4 => ?_⟩, by simp only; omega, rfl, rfl⟩
          simp only at k1
          have ou := hUo u (List.mem_of_getElem? k3)
          have ow := hWo w (List.mem_of_getElem? k4)
          exact lt_right ho ow (hUo x hxm) ou (lt_left ho ow (hWo y hym) (hUo x hxm) (srt_get' ho hWs hWo (by omega) k4 hy) hlt) (srt_get' ho hUs hUo (by omega) hx k3)
      · have g : ¬ ((i : Int) < j) := by omega
        have hij' : i = j := by omega
        subst hij'
        obtain ⟨A1, A2, hUe, hA1⟩ := cut_list (l := U) (s := i - a) (by omega)
        obtain ⟨B1, B2, hWe, hB1⟩ := cut_list (l := W) (s := mid - i) (by omega)
        obtain ⟨k1, k2⟩ := cross i A1 A2 B1 B2 hUe hWe hA1 hB1 h1 h3 h4 h5
        obtain ⟨q, hq⟩ : ∃ q, q = nn - i := ⟨_, rfl⟩
        have eq : (nn : Int) - i = (q : Nat) := by omega
        have hA2 : A1.length + A2.length = U.length := by rw [hUe]; simp
        have hB2 : B1.length + B2.length = W.length := by rw [hWe]; simp
        have l1 : (P ++ A1).length = i := by simp; omega
        have l2 : i + A2.length = m := by omega
        have l3 : m + B1.length = q := by omega
        have hRot : P ++ U ++ W ++ Q = (P ++ A1) ++ A2 ++ B1 ++ (B2 ++ Q) := by rw [hUe, hWe]; simp
        have hw2 : W2 ((P ++ A1) ++ A2 ++ B1 ++ (B2 ++ Q)) := by rw [← hRot]; exact hw
        have hA1s : Srt lt A1 := by rw [hUe] at hUs; unfold Srt at *; exact (List.pairwise_append.1 hUs).1
        have hA2s : Srt lt A2 := by rw [hUe] at hUs; unfold Srt at *; exact (List.pairwise_append.1 hUs).2.1
        have hB1s : Srt lt B1 := by rw [hWe] at hWs; unfold Srt at *; exact (List.pairwise_append.1 hWs).1
        have hB2s : Srt lt B2 := by rw [hWe] at hWs; unfold Srt at *; exact (List.pairwise_append.1 hWs).2.1
        have oA1 : ∀ r ∈ A1, ok r := fun r hr => hUo r (by rw [hUe]; simp [hr])
        have oA2 : ∀ r ∈ A2, ok r := fun r hr => hUo r (by rw [hUe]; simp [hr])
        have oB1 : ∀ r ∈ B1, ok r := fun r hr => hWo r (by rw [hWe]; simp [hr])
        have oB2 : ∀ r ∈ B2, ok r := fun r hr => hWo r (by rw [hWe]; simp [hr])
        have hw3 : W2 (P ++ A1 ++ B1 ++ (A2 ++ (B2 ++ Q))) := by
          simp only [W2_app] at hw2 ⊢
          simp [hw2]
        have hskip : A2.length = 0 ∨ B1.length = 0 → P ++ U ++ W ++ Q = P ++ A1 ++ B1 ++ (A2 ++ (B2 ++ Q)) := fun h => by
          rw [hRot]
          rcases h with h | h
          · rw [List.length_eq_zero_iff.1 h]; simp
          · rw [List.length_eq_zero_iff.1 h]; simp
        have hr1 : A2.length ≠ 0 → B1.length ≠ 0 → CallA Tryd.prog 65 [.msl id ver 0 N, .int .i64 i, .int .i64 m, .int .i64 q, .func f first cap] (rset S id ver (P ++ U ++ W ++ Q)) fun r S' => r = .tup [] ∧ S' = rset S id ver (P ++ A1 ++ B1 ++ (A2 ++ (B2 ++ Q))) := fun g1 g2 => by
          have hr := rotate_A (P ++ A1) A2 B1 (B2 ++ Q) S id ver N (.func f first cap) hid hw2 (by rw [← hRot]; exact hN) hl (by omega) (by omega)
          rw [l1, l2, l3, ← hRot] at hr
          refine hr.mono ?_
          rintro r S' ⟨rfl, rfl⟩
          exact ⟨rfl, by simp⟩
        have hr2 : A1.length ≠ 0 → B1.length ≠ 0 → CallA Tryd.prog 59 [.msl id ver 0 N, .int .i64 a, .int .i64 i, .int .i64 mid, .func f first cap] (rset S id ver (P ++ A1 ++ B1 ++ (A2 ++ (B2 ++ Q)))) fun r S' => r = .tup [] ∧ ∃ L, L.Perm (A1 ++ B1) ∧ Srt lt L ∧ S' = rset S id ver (P ++ L ++ (A2 ++ (B2 ++ Q))) := fun g1 g2 =>
          ih P A1 B1 (A2 ++ (B2 ++ Q)) S id ver a i mid N (by omega) hid hw3 oA1 oB1 ha (by omega) (by omega) (by simp; omega) hl hA1s hB1s (by omega) (by omega) (fun x hx y hy => hor x (by rw [hUe]; simp [hx]) y (by rw [hWe]; simp [hy]))
        have hr3 : A2.length ≠ 0 → B2.length ≠ 0 → ∀ L : List (List V), L.Perm (A1 ++ B1) → CallA Tryd.prog 59 [.msl id ver 0 N, .int .i64 mid, .int .i64 q, .int .i64 b, .func f first cap] (rset S id ver (P ++ L ++ (A2 ++ (B2 ++ Q)))) fun r S' => r = .tup [] ∧ ∃ R, R.Perm (A2 ++ B2) ∧ Srt lt R ∧ S' = rset S id ver (P ++ L ++ R ++ Q) := fun g1 g2 L hL => by
          have hLl := hL.length_eq
          simp only [List.length_append] at hLl
          have e : P ++ L ++ (A2 ++ (B2 ++ Q)) = (P ++ L) ++ A2 ++ B2 ++ Q := by simp
          rw [e]
          refine ih (P ++ L) A2 B2 Q S id ver mid q b N (by omega) hid ?_ oA2 oB2 (by simp; omega) (by omega) (by omega) (by simp; omega) hl hA2s hB2s (by omega) (by omega) (fun x hx y hy => hor x (by rw [hUe]; simp [hx]) y (by rw [hWe]; simp [hy]))
          have hLw : W2 L := fun r hr => by
            have := hL.mem_iff.1 hr
            simp only [W2_app] at hw3
            rcases List.mem_append.1 this with h | h
            · exact hw3.1.1.2 r h
            · exact hw3.1.2 r h
          simp only [W2_app] at hw3 ⊢
          simp [hw3, hLw]
        have fin' : ∀ (L R : List (List V)), L.Perm (A1 ++ B1) → Srt lt L → R.Perm (A2 ++ B2) → Srt lt R → ∃ M', M'.Perm (U ++ W) ∧ Srt lt M' ∧ rset S id ver (P ++ L ++ R ++ Q) = rset S id ver (P ++ M' ++ Q) := fun L R g1 g2 g3 g4 => fin R0 i A1 A2 B1 B2 L R hUe hWe k1 k2 g1 g2 g3 g4
        have hLs : A1.length = 0 ∨ B1.length = 0 → Srt lt (A1 ++ B1) := fun h => by
          rcases h with h | h
          · rw [List.length_eq_zero_iff.1 h]; exact hB1s
          · rw [List.length_eq_zero_iff.1 h, List.append_nil]; exact hA1s
        have hRs : A2.length = 0 ∨ B2.length = 0 → Srt lt (A2 ++ B2) := fun h => by
          rcases h with h | h
          · rw [List.length_eq_zero_iff.1 h]; exact hB2s
          · rw [List.length_eq_zero_iff.1 h, List.append_nil]; exact hA2s
        have endE : ∀ L : List (List V), rset S id ver (P ++ L ++ (A2 ++ (B2 ++ Q))) = rset S id ver (P ++ L ++ (A2 ++ B2) ++ Q) := fun L => by simp
        have endL : rset S id ver (P ++ A1 ++ B1 ++ (A2 ++ (B2 ++ Q))) = rset S id ver (P ++ (A1 ++ B1) ++ (A2 ++ (B2 ++ Q))) := by simp
        by_cases q1 : A1.length = 0 <;> by_cases q2 : A2.length = 0 <;> by_cases p1 : B1.length = 0 <;> by_cases p2 : B2.length = 0
        · -- A1 0 A2 0 B1 0 B2 0
          have d1 : ¬ ((a : Int) < i) := by omega
          have d2 : ¬ ((i : Int) < mid) := by omega
          have d3 : ¬ ((mid : Int) < q) := by omega
          have d4 : ¬ ((q : Int) < b) := by omega
          have d5 : ¬ ((i : Int) < m) := by omega
          have d6 : ¬ ((m : Int) < q) := by omega
          rw [hskip (by omega)]
          try simp (disch := omega) only [g, eq, d1, d2, d3, d4, d5, d6, wrap_i64, ↓evPre, ↓evPreV, evPost, evPostV, evR, evU, seval]
          rw [endL]
          have hL1 : (A1 ++ B1).Perm (A1 ++ B1) := List.Perm.refl _
          have hL2 := hLs (by omega)
          rw [endE]
          exact fin' (A1 ++ B1) (A2 ++ B2) hL1 hL2 (List.Perm.refl _) (hRs (by omega))
        · -- A1 0 A2 0 B1 0 B2 1
          have d1 : ¬ ((a : Int) < i) := by omega
          have d2 : ¬ ((i : Int) < mid) := by omega
          have d3 : ¬ ((mid : Int) < q) := by omega
          have d4 : (q : Int) < b := by omega
          have d5 : ¬ ((i : Int) < m) := by omega
          have d6 : ¬ ((m : Int) < q) := by omega
          rw [hskip (by omega)]
          try simp (disch := omega) only [g, eq, d1, d2, d3, d4, d5, d6, wrap_i64, ↓evPre, ↓evPreV, evPost, evPostV, evR, evU, seval]
          rw [endL]
          have hL1 : (A1 ++ B1).Perm (A1 ++ B1) := List.Perm.refl _
          have hL2 := hLs (by omega)
          rw [endE]
          exact fin' (A1 ++ B1) (A2 ++ B2) hL1 hL2 (List.Perm.refl _) (hRs (by omega))
        · -- A1 0 A2 0 B1 1 B2 0
          have d1 : ¬ ((a : Int) < i) := by omega
          have d2 : (i : Int) < mid := by omega
          have d3 : ¬ ((mid : Int) < q) := by omega
          have d4 : ¬ ((q : Int) < b) := by omega
          have d5 : ¬ ((i : Int) < m) := by omega
          have d6 : (m : Int) < q := by omega
          rw [hskip (by omega)]
          try simp (disch := omega) only [g, eq, d1, d2, d3, d4, d5, d6, wrap_i64, ↓evPre, ↓evPreV, evPost, evPostV, evR, evU, seval]
          rw [endL]
          have hL1 : (A1 ++ B1).Perm (A1 ++ B1) := List.Perm.refl _
          have hL2 := hLs (by omega)
          rw [endE]
          exact fin' (A1 ++ B1) (A2 ++ B2) hL1 hL2 (List.Perm.refl _) (hRs (by omega))
        · -- A1 0 A2 0 B1 1 B2 1
          have d1 : ¬ ((a : Int) < i) := by omega
          have d2 : (i : Int) < mid := by omega
          have d3 : ¬ ((mid : Int) < q) := by omega
          have d4 : (q : Int) < b := by omega
          have d5 : ¬ ((i : Int) < m) := by omega
          have d6 : (m : Int) < q := by omega
          rw [hskip (by omega)]
          try simp (disch := omega) only [g, eq, d1, d2, d3, d4, d5, d6, wrap_i64, ↓evPre, ↓evPreV, evPost, evPostV, evR, evU, seval]
          rw [endL]
          have hL1 : (A1 ++ B1).Perm (A1 ++ B1) := List.Perm.refl _
          have hL2 := hLs (by omega)
          rw [endE]
          exact fin' (A1 ++ B1) (A2 ++ B2) hL1 hL2 (List.Perm.refl _) (hRs (by omega))
        · -- A1 0 A2 1 B1 0 B2 0
          have d1 : ¬ ((a : Int) < i) := by omega
          have d2 : ¬ ((i : Int) < mid) := by omega
          have d3 : (mid : Int) < q := by omega
          have d4 : ¬ ((q : Int) < b) := by omega
          have d5 : (i : Int) < m := by omega
          have d6 : ¬ ((m : Int) < q) := by omega
          rw [hskip (by omega)]
          try simp (disch := omega) only [g, eq, d1, d2, d3, d4, d5, d6, wrap_i64, ↓evPre, ↓evPreV, evPost, evPostV, evR, evU, seval]
          rw [endL]
          have hL1 : (A1 ++ B1).Perm (A1 ++ B1) := List.Perm.refl _
          have hL2 := hLs (by omega)
          rw [endE]
          exact fin' (A1 ++ B1) (A2 ++ B2) hL1 hL2 (List.Perm.refl _) (hRs (by omega))
        · -- A1 0 A2 1 B1 0 B2 1
          have d1 : ¬ ((a : Int) < i) := by omega
          have d2 : ¬ ((i : Int) < mid) := by omega
          have d3 : (mid : Int) < q := by omega
          have d4 : (q : Int) < b := by omega
          have d5 : (i : Int) < m := by omega
          have d6 : ¬ ((m : Int) < q) := by omega
          rw [hskip (by omega)]
          try simp (disch := omega) only [g, eq, d1, d2, d3, d4, d5, d6, wrap_i64, ↓evPre, ↓evPreV, evPost, evPostV, evR, evU, seval]
          rw [endL]
          have hL1 : (A1 ++ B1).Perm (A1 ++ B1) := List.Perm.refl _
          have hL2 := hLs (by omega)
          refine (hr3 q2 p2 (A1 ++ B1) hL1).mono ?_
          rintro r S' ⟨rfl, R, hR1, hR2, rfl⟩
          try simp (disch := omega) only [↓evPre, ↓evPreV, evPost, evPostV, evR, evU, seval]
          exact fin' (A1 ++ B1) R hL1 hL2 hR1 hR2
        · -- A1 0 A2 1 B1 1 B2 0
          have d1 : ¬ ((a : Int) < i) := by omega
          have d2 : (i : Int) < mid := by omega
          have d3 : (mid : Int) < q := by omega
          have d4 : ¬ ((q : Int) < b) := by omega
          have d5 : (i : Int) < m := by omega
          have d6 : (m : Int) < q := by omega
          try simp (disch := omega) only [g, eq, d1, d2, d3, d4, d5, d6, wrap_i64, ↓evPre, ↓evPreV, evPost, evPostV, evR, evU, seval]
          refine (hr1 q2 p1).mono ?_
          rintro r S' ⟨rfl, rfl⟩
          try simp (disch := omega) only [g, eq, d1, d2, d3, d4, d5, d6, wrap_i64, ↓evPre, ↓evPreV, evPost, evPostV, evR, evU, seval]
          rw [endL]
          have hL1 : (A1 ++ B1).Perm (A1 ++ B1) := List.Perm.refl _
          have hL2 := hLs (by omega)
          rw [endE]
          exact fin' (A1 ++ B1) (A2 ++ B2) hL1 hL2 (List.Perm.refl _) (hRs (by omega))
        · -- A1 0 A2 1 B1 1 B2 1
          have d1 : ¬ ((a : Int) < i) := by omega
          have d2 : (i : Int) < mid := by omega
          have d3 : (mid : Int) < q := by omega
          have d4 : (q : Int) < b := by omega
          have d5 : (i : Int) < m := by omega
          have d6 : (m : Int) < q := by omega
          try simp (disch := omega) only [g, eq, d1, d2, d3, d4, d5, d6, wrap_i64, ↓evPre, ↓evPreV, evPost, evPostV, evR, evU, seval]
          refine (hr1 q2 p1).mono ?_
          rintro r S' ⟨rfl, rfl⟩
          try simp (disch := omega) only [g, eq, d1, d2, d3, d4, d5, d6, wrap_i64, ↓evPre, ↓evPreV, evPost, evPostV, evR, evU, seval]
          rw [endL]
          have hL1 : (A1 ++ B1).Perm (A1 ++ B1) := List.Perm.refl _
          have hL2 := hLs (by omega)
          refine (hr3 q2 p2 (A1 ++ B1) hL1).mono ?_
          rintro r S' ⟨rfl, R, hR1, hR2, rfl⟩
          try simp (disch := omega) only [↓evPre, ↓evPreV, evPost, evPostV, evR, evU, seval]
          exact fin' (A1 ++ B1) R hL1 hL2 hR1 hR2
        · -- A1 1 A2 0 B1 0 B2 0
          have d1 : (a : Int) < i := by omega
          have d2 : ¬ ((i : Int) < mid) := by omega
          have d3 : ¬ ((mid : Int) < q) := by omega
          have d4 : ¬ ((q : Int) < b) := by omega
          have d5 : ¬ ((i : Int) < m) := by omega
          have d6 : ¬ ((m : Int) < q) := by omega
          rw [hskip (by omega)]
          try simp (disch := omega) only [g, eq, d1, d2, d3, d4, d5, d6, wrap_i64, ↓evPre, ↓evPreV, evPost, evPostV, evR, evU, seval]
          rw [endL]
          have hL1 : (A1 ++ B1).Perm (A1 ++ B1) := List.Perm.refl _
          have hL2 := hLs (by omega)
          rw [endE]
          exact fin' (A1 ++ B1) (A2 ++ B2) hL1 hL2 (List.Perm.refl _) (hRs (by omega))
        · -- A1 1 A2 0 B1 0 B2 1
          have d1 : (a : Int) < i := by omega
          have d2 : ¬ ((i : Int) < mid) := by omega
          have d3 : ¬ ((mid : Int) < q) := by omega
          have d4 : (q : Int) < b := by omega
          have d5 : ¬ ((i : Int) < m) := by omega
          have d6 : ¬ ((m : Int) < q) := by omega
          rw [hskip (by omega)]
          try simp (disch := omega) only [g, eq, d1, d2, d3, d4, d5, d6, wrap_i64, ↓evPre, ↓evPreV, evPost, evPostV, evR, evU, seval]
          rw [endL]
          have hL1 : (A1 ++ B1).Perm (A1 ++ B1) := List.Perm.refl _
          have hL2 := hLs (by omega)
          rw [endE]
          exact fin' (A1 ++ B1) (A2 ++ B2) hL1 hL2 (List.Perm.refl _) (hRs (by omega))
        · -- A1 1 A2 0 B1 1 B2 0
          have d1 : (a : Int) < i := by omega
          have d2 : (i : Int) < mid := by omega
          have d3 : ¬ ((mid : Int) < q) := by omega
          have d4 : ¬ ((q : Int) < b) := by omega
          have d5 : ¬ ((i : Int) < m) := by omega
          have d6 : (m : Int) < q := by omega
          rw [hskip (by omega)]
          try simp (disch := omega) only [g, eq, d1, d2, d3, d4, d5, d6, wrap_i64, ↓evPre, ↓evPreV, evPost, evPostV, evR, evU, seval]
          refine (hr2 q1 p1).mono ?_
          rintro r S' ⟨rfl, L, hL1, hL2, rfl⟩
          try simp (disch := omega) only [g, eq, d1, d2, d3, d4, d5, d6, wrap_i64, ↓evPre, ↓evPreV, evPost, evPostV, evR, evU, seval]
          rw [endE]
          exact fin' L (A2 ++ B2) hL1 hL2 (List.Perm.refl _) (hRs (by omega))
        · -- A1 1 A2 0 B1 1 B2 1
          have d1 : (a : Int) < i := by omega
          have d2 : (i : Int) < mid := by omega
          have d3 : ¬ ((mid : Int) < q) := by omega
          have d4 : (q : Int) < b := by omega
          have d5 : ¬ ((i : Int) < m) := by omega
          have d6 : (m : Int) < q := by omega
          rw [hskip (by omega)]
          try simp (disch := omega) only [g, eq, d1, d2, d3, d4, d5, d6, wrap_i64, ↓evPre, ↓evPreV, evPost, evPostV, evR, evU, seval]
          refine (hr2 q1 p1).mono ?_
          rintro r S' ⟨rfl, L, hL1, hL2, rfl⟩
          try simp (disch := omega) only [g, eq, d1, d2, d3, d4, d5, d6, wrap_i64, ↓evPre, ↓evPreV, evPost, evPostV, evR, evU, seval]
          rw [endE]
          exact fin' L (A2 ++ B2) hL1 hL2 (List.Perm.refl _) (hRs (by omega))
        · -- A1 1 A2 1 B1 0 B2 0
          have d1 : (a : Int) < i := by omega
          have d2 : ¬ ((i : Int) < mid) := by omega
          have d3 : (mid : Int) < q := by omega
          have d4 : ¬ ((q : Int) < b) := by omega
          have d5 : (i : Int) < m := by omega
          have d6 : ¬ ((m : Int) < q) := by omega
          rw [hskip (by omega)]
          try simp (disch := omega) only [g, eq, d1, d2, d3, d4, d5, d6, wrap_i64, ↓evPre, ↓evPreV, evPost, evPostV, evR, evU, seval]
          rw [endL]
          have hL1 : (A1 ++ B1).Perm (A1 ++ B1) := List.Perm.refl _
          have hL2 := hLs (by omega)
          rw [endE]
          exact fin' (A1 ++ B1) (A2 ++ B2) hL1 hL2 (List.Perm.refl _) (hRs (by omega))
        · -- A1 1 A2 1 B1 0 B2 1
          have d1 : (a : Int) < i := by omega
          have d2 : ¬ ((i : Int) < mid) := by omega
          have d3 : (mid : Int) < q := by omega
          have d4 : (q : Int) < b := by omega
          have d5 : (i : Int) < m := by omega
          have d6 : ¬ ((m : Int) < q) := by omega
          rw [hskip (by omega)]
          try simp (disch := omega) only [g, eq, d1, d2, d3, d4, d5, d6, wrap_i64, ↓evPre, ↓evPreV, evPost, evPostV, evR, evU, seval]
          rw [endL]
          have hL1 : (A1 ++ B1).Perm (A1 ++ B1) := List.Perm.refl _
          have hL2 := hLs (by omega)
          refine (hr3 q2 p2 (A1 ++ B1) hL1).mono ?_
          rintro r S' ⟨rfl, R, hR1, hR2, rfl⟩
          try simp (disch := omega) only [↓evPre, ↓evPreV, evPost, evPostV, evR, evU, seval]
          exact fin' (A1 ++ B1) R hL1 hL2 hR1 hR2
        · -- A1 1 A2 1 B1 1 B2 0
          have d1 : (a : Int) < i := by omega
          have d2 : (i : Int) < mid := by omega
          have d3 : (mid : Int) < q := by omega
          have d4 : ¬ ((q : Int) < b) := by omega
          have d5 : (i : Int) < m := by omega
          have d6 : (m : Int) < q := by omega
          try simp (disch := omega) only [g, eq, d1, d2, d3, d4, d5, d6, wrap_i64, ↓evPre, ↓evPreV, evPost, evPostV, evR, evU, seval]
          refine (hr1 q2 p1).mono ?_
          rintro r S' ⟨rfl, rfl⟩
          try simp (disch := omega) only [g, eq, d1, d2, d3, d4, d5, d6, wrap_i64, ↓evPre, ↓evPreV, evPost, evPostV, evR, evU, seval]
          refine (hr2 q1 p1).mono ?_
          rintro r S' ⟨rfl, L, hL1, hL2, rfl⟩
          try simp (disch := omega) only [g, eq, d1, d2, d3, d4, d5, d6, wrap_i64, ↓evPre, ↓evPreV, evPost, evPostV, evR, evU, seval]
          rw [endE]
          exact fin' L (A2 ++ B2) hL1 hL2 (List.Perm.refl _) (hRs (by omega))
        · -- A1 1 A2 1 B1 1 B2 1
          have d1 : (a : Int) < i := by omega
          have d2 : (i : Int) < mid := by omega
          have d3 : (mid : Int) < q := by omega
          have d4 : (q : Int) < b := by omega
          have d5 : (i : Int) < m := by omega
          have d6 : (m : Int) < q := by omega
          try simp (disch := omega) only [g, eq, d1, d2, d3, d4, d5, d6, wrap_i64, ↓evPre, ↓evPreV, evPost, evPostV, evR, evU, seval]
          refine (hr1 q2 p1).mono ?_
          rintro r S' ⟨rfl, rfl⟩
          try simp (disch := omega) only [g, eq, d1, d2, d3, d4, d5, d6, wrap_i64, ↓evPre, ↓evPreV, evPost, evPostV, evR, evU, seval]
          refine (hr2 q1 p1).mono ?_
          rintro r S' ⟨rfl, L, hL1, hL2, rfl⟩
          try simp (disch := omega) only [g, eq, d1, d2, d3, d4, d5, d6, wrap_i64, ↓evPre, ↓evPreV, evPost, evPostV, evR, evU, seval]
          refine (hr3 q2 p2 L hL1).mono ?_
          rintro r S' ⟨rfl, R, hR1, hR2, rfl⟩
          try simp (disch := omega) only [↓evPre, ↓evPreV, evPost, evPostV, evR, evU, seval]
          exact fin' L R hL1 hL2 hR1 hR2
end Go.Proofs.YtjjdfkkfhbndiaaDoor.Ck
