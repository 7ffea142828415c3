/- The reference's amounts are written. -/
import Derived.Test.YtkdbghhdklfoiaaDoorSFd6
namespace Go.Proofs.YtkdbghhdklfoiaaDoor
open Go Go.AL Go.RowKit
set_option linter.unusedSectionVars false
variable [Go.AL.Mode] [Go.AL.LooseM]
set_option linter.unusedSimpArgs false
set_option linter.unusedVariables false
def dgF : Nat → Nat → Nat → Txt
  | 0, _, _ => []
  | f + 1, n, l => if n = 0 ∧ l = 0 then [] else dgF f (n / 10) (l - 1) ++ [UInt8.ofNat (48 + n % 10)]
theorem dgF_pos {f m : Nat} (h : 0 < m) : dgF f m 0 = dgF f m 1 := by
  cases f with
  | zero => rfl
  | succ f => rw [dgF, dgF, if_neg (by omega), if_neg (by omega)]
theorem dgF_dec : ∀ (f n : Nat), n < 10 ^ (f + 1) → dgF (f + 1) n 1 = Lib.decDigits n
  | f, n, h => by
    by_cases h1 : n < 10
    · rw [Lib.decDigits, dif_pos h1, dgF, if_neg (by omega), show n / 10 = 0 by omega, show n % 10 = n by omega]
      cases f with
      | zero => rfl
      | succ f => rw [dgF, if_pos ⟨rfl, rfl⟩]; rfl
    · cases f with
      | zero => simp at h; omega
      | succ f =>
        rw [Nat.pow_succ] at h
        rw [Lib.decDigits, dif_neg h1, dgF, if_neg (by omega), show 1 - 1 = 0 from rfl, dgF_pos (by omega), dgF_dec f (n / 10) (by omega)]
theorem dgF_two (n : Nat) (h : n < 100) : dgF 20 n 2 = twoF n := by
  have : ∀ m : Fin 100, dgF 20 m.val 2 = twoF m.val := by decide +kernel
  exact this ⟨n, h⟩
theorem dgF_len : ∀ (f n l : Nat), (dgF f n l).length ≤ f
  | 0, _, _ => Nat.le_refl _
  | f + 1, n, l => by
    have := dgF_len f (n / 10) (l - 1)
    rw [dgF]
    split
    · simp
    · simp only [List.length_append, List.length_singleton]
      omega
set_option maxHeartbeats 1000000 in
theorem rdgs_A (n : Nat) (l : Nat) (h : n ≤ 1099511627776) (hl : l ≤ 2) (S : Store) : CallA Tryd.prog 64 [.int .u64 (n : Nat), .int .i64 (l : Nat)] S fun r S' => r = .str (dgF 20 n l) ∧ S' = S := by
  refine CallA.keep Tryd.func64 c10064 (Nat.le_of_ble_eq_true rfl) fun σ hσ => ?_
  generalize hD : dgF 20 n l = D
  simp (disch := first | omega | (simp only [lenT]; omega)) only [a10064, evSt, ↓evPre, ↓evPreW, evPost, evPostW, evR, evU, seval]
  refine loopA (ι := Nat × Nat × Int × Txt) (fun i => [(0, .int .u64 (i.2.1 : Nat)), (1, .int .i64 i.2.2.1), (5, .str i.2.2.2)]) (fun _ => S)
    (fun i => D = dgF i.1 i.2.1 i.2.2.1.toNat ++ i.2.2.2 ∧ i.2.1 < 10 ^ i.1 ∧ i.2.2.1 = (l : Int) + i.1 - 20 ∧ i.1 ≤ 20 ∧ i.2.2.2.length + i.1 = 20 ∧ i.2.1 ≤ 1099511627776) (fun i => i.1)
    (20, n, (l : Nat), []) ⟨by simp [hD], by simp only; omega, by simp only; omega, Nat.le_refl _, rfl, h⟩ ?_ rfl ?_
  · simp only [↓evPre, ↓evPreW, evPost, evPostW, evR, evU, seval]
    try rfl
  rintro ⟨f, m, li, s⟩ ⟨hd, hm, hli, hf, hsl, hmb⟩
  simp only at hd hm hli hf hsl hmb ⊢
  have e1 : ((m : Nat) : Int).tmod 10 = ((m % 10 : Nat) : Int) := by rw [Int.tmod_eq_emod_of_nonneg (by omega)]; omega
  have e2 : ((m : Nat) : Int).tdiv 10 = ((m / 10 : Nat) : Int) := by rw [Int.tdiv_eq_ediv_of_nonneg (by omega)]; omega
  by_cases h0 : m = 0 ∧ li ≤ 0
  · have c1 : ¬ (0 : Int) < ((m : Nat) : Int) := by omega
    have c2 : ¬ (0 : Int) < li := by omega
    have hz : dgF f m li.toNat = [] := by
      rw [show li.toNat = 0 by omega, h0.1]
      cases f with
      | zero => rfl
      | succ f => rw [dgF, if_pos ⟨rfl, rfl⟩]
    rw [hz, List.nil_append] at hd
    rw [hd]
    simp (disch := first | omega | (simp only [lenT]; omega)) only [dF c1, dF c2, evSt, ↓evPre, ↓evPreW, evPost, evPostW, evR, evU, seval]
  obtain ⟨g, rfl⟩ : ∃ g, f = g + 1 := by
    cases f with
    | zero => simp at hm; omega
    | succ g => exact ⟨g, rfl⟩
  rw [dgF, if_neg (by omega), List.append_assoc] at hd
  rw [Nat.pow_succ] at hm
  have hnx : ∀ li', li' = li - 1 → D = dgF g (m / 10) li'.toNat ++ ([UInt8.ofNat (48 + m % 10)] ++ s) := fun li' e => by
    rw [hd, show li.toNat - 1 = li'.toNat by omega]
  have hc : decide ((0 : Int) < ((m : Nat) : Int)) = true ∨ (decide ((0 : Int) < ((m : Nat) : Int)) = false ∧ decide ((0 : Int) < li) = true) := by
    by_cases c1 : (0 : Int) < ((m : Nat) : Int)
    · exact .inl (dT c1)
    · exact .inr ⟨dF c1, dT (by omega)⟩
  have h48 : (48 : Int) + ((m % 10 : Nat) : Int) = ((48 + m % 10 : Nat) : Int) := by omega
  have hb : ∀ S : Store, b2sV S (.sl 1 [[.int .u8 ((48 + m % 10 : Nat) : Int)]]) = some (.str [UInt8.ofNat (48 + m % 10)]) := fun S => by
    have := b2s_sl (S := S) (l := [UInt8.ofNat (48 + m % 10)])
    unfold byteRows at this
    simp only [List.map_cons, List.map_nil, ofNat_dig (show m % 10 < 10 by omega)] at this
    exact this
  have hadd : binV .add (.str [UInt8.ofNat (48 + m % 10)]) (.str s) = some (.str (UInt8.ofNat (48 + m % 10) :: s)) := bs_add (by simp only [List.length_cons, List.length_nil]; unfold maxLen; omega)
  rcases hc with q | ⟨q, q'⟩
  · simp (disch := first | omega | (simp only [lenT]; omega)) only [q, e1, e2, wrap_u64, wrap_u8, wrap_i64, h48, hb, hadd, evSt, ↓evPre, ↓evPreW, evPost, evPostW, evR, evU, seval]
    refine ⟨(g, m / 10, li - 1, UInt8.ofNat (48 + m % 10) :: s), ⟨hnx _ rfl, by simp only; omega, by simp only; omega, by simp only; omega, by simp only [List.length_cons]; omega, by simp only; omega⟩, by simp only; omega, ?_⟩
    first | rfl | exact ⟨rfl, rfl⟩ | exact ⟨rfl, rfl, rfl⟩ | (simp only [↓evPre, ↓evPreW, evPost, evPostW, evR, evU, seval]; first | rfl | exact ⟨rfl, rfl⟩ | exact ⟨rfl, rfl, rfl⟩)
  · simp (disch := first | omega | (simp only [lenT]; omega)) only [q, q', e1, e2, wrap_u64, wrap_u8, wrap_i64, h48, hb, hadd, evSt, ↓evPre, ↓evPreW, evPost, evPostW, evR, evU, seval]
    refine ⟨(g, m / 10, li - 1, UInt8.ofNat (48 + m % 10) :: s), ⟨hnx _ rfl, by simp only; omega, by simp only; omega, by simp only; omega, by simp only [List.length_cons]; omega, by simp only; omega⟩, by simp only; omega, ?_⟩
    first | rfl | exact ⟨rfl, rfl⟩ | exact ⟨rfl, rfl, rfl⟩ | (simp only [↓evPre, ↓evPreW, evPost, evPostW, evR, evU, seval]; first | rfl | exact ⟨rfl, rfl⟩ | exact ⟨rfl, rfl, rfl⟩)
theorem rmprint_A (n : Int) (h : okB n = true) (S : Store) : CallA Tryd.prog 38 [.int .i64 n] S fun r S' => r = .str (amW n) ∧ S' = S := by
  have hn : 0 ≤ n ∧ n ≤ 1099511627776 := by
    unfold okB at h
    simp only [Bool.and_eq_true, decide_eq_true_eq] at h
    exact h
  obtain ⟨m, rfl⟩ : ∃ m : Nat, n = (m : Nat) := ⟨n.toNat, by omega⟩
  unfold amW
  rw [Int.toNat_natCast, amt_eq]
  refine CallA.keep Tryd.func38 c10038 (Nat.le_of_ble_eq_true rfl) fun σ hσ => ?_
  have e1 : ((m : Nat) : Int).tmod 100 = ((m % 100 : Nat) : Int) := by rw [Int.tmod_eq_emod_of_nonneg (by omega)]; omega
  have e2 : ((m : Nat) : Int).tdiv 100 = ((m / 100 : Nat) : Int) := by rw [Int.tdiv_eq_ediv_of_nonneg (by omega)]; omega
  have d1 := fun S => rdgs_A (m / 100) 1 (by omega) (by omega) S
  have d2 := fun S => rdgs_A (m % 100) 2 (by omega) (by omega) S
  have l1 := dgF_len 20 (m / 100) 1
  have l2 := dgF_len 20 (m % 100) 2
  rw [dgF_dec 19 (m / 100) (by omega)] at l1
  rw [dgF_two (m % 100) (by omega)] at l2
  simp only [dgF_dec 19 (m / 100) (by omega)] at d1
  simp only [dgF_two (m % 100) (by omega)] at d2
  generalize Lib.decDigits (m / 100) = x at d1 l1 ⊢
  generalize twoF (m % 100) = y at d2 l2 ⊢
  have a1 : binV .add (.str []) (.str x) = some (.str x) := bs_add (by simp only [List.length_nil]; unfold maxLen; omega)
  have a2 : binV .add (.str x) (.str [46]) = some (.str (x ++ [46])) := bs_add (by simp only [List.length_cons, List.length_nil]; unfold maxLen; omega)
  have a3 : binV .add (.str (x ++ [46])) (.str y) = some (.str (x ++ 46 :: y)) := by
    have := bs_add (l := x ++ [46]) (m := y) (by simp only [List.length_append, List.length_cons, List.length_nil]; unfold maxLen; omega)
    rw [this, List.append_assoc]
    rfl
  simp (disch := first | omega | (simp only [lenT]; omega)) only [a10038, dF (show ¬ ((m : Nat) : Int) < 0 by omega), wrap_u64, e1, e2, evSt, ↓evPre, ↓evPreW, evPost, evPostW, evR, evU, seval]
  refine (d1 S).then ?_
  simp (disch := first | omega | (simp only [lenT]; omega)) only [a1, a2, e1, evSt, ↓evPre, ↓evPreW, evPost, evPostW, evR, evU, seval]
  refine (d2 S).then ?_
  simp (disch := first | omega | (simp only [lenT]; omega)) only [a3, evSt, ↓evPre, ↓evPreW, evPost, evPostW, evR, evU, seval]
end Go.Proofs.YtkdbghhdklfoiaaDoor
/- The reference's amounts are read. -/
namespace Go.Proofs.YtkdbghhdklfoiaaDoor
open Go Go.AL Go.RowKit
set_option linter.unusedSectionVars false
variable [Go.AL.Mode] [Go.AL.LooseM]
set_option linter.unusedSimpArgs false
set_option linter.unusedVariables false
theorem dval_zero {l : Txt} (h : dval l = 0) (hd : l.all dig = true) : ∀ c ∈ l, c = 48 := fun c hc => by
  obtain ⟨k, hk⟩ := List.getElem?_of_mem hc
  have h1 := dval_take l (k + 1)
  rw [dval_step hk] at h1
  have h2 := List.all_eq_true.1 hd c hc
  have h3 : 48 ≤ c.toNat ∧ c.toNat ≤ 57 := by unfold dig at h2; exact of_decide_eq_true h2
  exact UInt8.toNat_inj.1 (show c.toNat = 48 by omega)
def preD (t : Txt) (k j : Nat) : Txt := if j ≤ k then t.take j else t.take k ++ (t.drop (k + 1)).take (j - (k + 1))
theorem preD_dot {t : Txt} {k : Nat} : preD t k (k + 1) = preD t k k := by
  unfold preD
  rw [if_neg (by omega), if_pos (Nat.le_refl _), Nat.sub_self, List.take_zero, List.append_nil]
theorem preD_next {t : Txt} {k j : Nat} {c : UInt8} (h : t[j]? = some c) (hj : j ≠ k) : preD t k (j + 1) = preD t k j ++ [c] := by
  unfold preD
  by_cases h1 : j < k
  · rw [if_pos (by omega), if_pos (by omega), take_at h]
  · rw [if_neg (by omega), if_neg (by omega), List.append_assoc, show j + 1 - (k + 1) = (j - (k + 1)) + 1 by omega]
    congr 1
    refine take_at ?_
    rw [List.getElem?_drop, show k + 1 + (j - (k + 1)) = j by omega]
    exact h
theorem preD_dval {t : Txt} {k j : Nat} {c : UInt8} (h : t[j]? = some c) (hj : j ≠ k) : dval (preD t k (j + 1)) = 10 * dval (preD t k j) + (c.toNat - 48) := by
  rw [preD_next h hj, dval_app]
  rfl
set_option maxHeartbeats 2000000 in
theorem rmparse_A (s : Txt) (hs : s.length ≤ 1000000000) (S : Store) : CallA Tryd.prog 94 [.str s] S fun r S' => r = .tup [.int .i64 (mparF s).1, .int .i64 (mparF s).2] ∧ S' = S := by
  refine CallA.keep Tryd.func94 c10094 (Nat.le_of_ble_eq_true rfl) fun σ hσ => ?_
  simp only [a10094]
  refine stageA (fun E S' => E.get 0 = .str s ∧ S' = S) ?_ ?_
  · intro K hK
    simp (disch := first | omega | (simp only [lenT]; omega)) only [evSt, ↓evPre, ↓evPreW, evPost, evPostW, evR, evU, seval]
    exact hK _ _ ⟨rfl, rfl⟩
  rintro E S2 ⟨e0, hS2⟩
  rw [hS2]
  clear hS2 S2
  refine stageA (fun E S' => (E.get 4 = .int .i64 1 ∧ E.get 5 = .str s) ∧ S' = S) ?_ ?_
  · intro K hK
    simp (disch := first | omega | (simp only [lenT]; omega)) only [e0, evSt, ↓evPre, ↓evPreW, evPost, evPostW, evR, evU, seval]
    exact hK _ _ ⟨⟨rfl, rfl⟩, rfl⟩
  clear e0
  rintro E S2 ⟨⟨e4, e5⟩, hS2⟩
  rw [hS2]
  clear hS2 S2
  refine stageA (fun E S' => (E.get 4 = .int .i64 (sgF s) ∧ E.get 5 = .str (tlF s)) ∧ S' = S) ?_ ?_
  · intro K hK
    cases s with
    | nil =>
      simp (disch := first | omega | (simp only [lenT]; omega)) only [e4, e5, evSt, ↓evPre, ↓evPreW, evPost, evPostW, evR, evU, seval]
      exact hK _ _ ⟨⟨e4, e5⟩, rfl⟩
    | cons c s =>
      have hz : (0 : Int) < ((s.length + 1 : Nat) : Int) := by omega
      by_cases h1 : (c.toNat : Int) = 45
      · have hc : c = 45 := UInt8.toNat_inj.1 (by show c.toNat = 45; omega)
        have e1 : sgF (c :: s) = -1 := by simp [sgF, hc]
        have e2 : tlF (c :: s) = s := by simp [tlF, hc]
        simp (disch := first | omega | (simp only [lenT]; omega)) only [e4, e5, dT h1, dT hz, List.length_cons, evSt, ↓evPre, ↓evPreW, evPost, evPostW, evR, evU, seval]
        rw [if_pos ⟨by omega, by omega⟩]
        simp (disch := first | omega | (simp only [lenT]; omega)) only [evSt, ↓evPre, ↓evPreW, evPost, evPostW, evR, evU, seval]
        refine hK _ _ ⟨⟨by rw [e1]; rfl, ?_⟩, rfl⟩
        rw [e2]
        simp only [↓evPre, ↓evPreW, evPost, evPostW, evR, evU, seval]
        first | rfl | (congr 1; exact List.take_of_length_le (by simp))
      · have hc : c ≠ 45 := fun h => h1 (by rw [h]; rfl)
        have e1 : sgF (c :: s) = 1 := by simp [sgF, hc]
        have e2 : tlF (c :: s) = c :: s := by simp [tlF, hc]
        simp (disch := first | omega | (simp only [lenT]; omega)) only [e4, e5, dF h1, dT hz, List.length_cons, evSt, ↓evPre, ↓evPreW, evPost, evPostW, evR, evU, seval]
        exact hK _ _ ⟨⟨e4.trans (by rw [e1]), e5.trans (by rw [e2])⟩, rfl⟩
  clear e4 e5
  rintro E S2 ⟨⟨e4, e5⟩, hS2⟩
  rw [hS2]
  clear hS2 S2
  have htl : (tlF s).length ≤ s.length := by unfold tlF; split <;> simp
  have hst : sgF s = -1 → s = 45 :: tlF s := fun h => by
    unfold sgF tlF at *
    by_cases q : s.head? = some 45
    · rw [if_pos q]
      cases s with
      | nil => cases q
      | cons c s => cases q; rfl
    · rw [if_neg q] at h; cases h
  obtain ⟨t, ht⟩ : ∃ t, t = tlF s := ⟨_, rfl⟩
  obtain ⟨k, hk⟩ : ∃ k, k = kF s := ⟨_, rfl⟩
  have hkt : k = t.length - 3 := by rw [hk, ht]; rfl
  have hpok : pOk s = (decide (4 ≤ t.length) && (decide (t[k]? = some 46) && (digsF (t.take k) && (digsF (t.drop (k + 1)) && (!(decide (1 < k) && decide (t[0]? = some 48)) && !decide (s = [45, 48, 46, 48, 48])))))) := by rw [ht, hk]; rfl
  have hds : dsF s = t.take k ++ t.drop (k + 1) := by rw [ht, hk]; rfl
  rw [← ht] at e5 htl hst
  obtain ⟨sg, hsg⟩ : ∃ sg, sg = sgF s := ⟨_, rfl⟩
  have hsg2 : sg = 1 ∨ sg = -1 := by rw [hsg]; unfold sgF; split <;> simp
  have hmp : mparF s = if pOk s = true then (if dval (dsF s) ≤ 1099511627776 then (sg * (dval (dsF s) : Nat), 0) else (0, 11)) else (0, 3) := by rw [hsg]; rfl
  have hns : s = [45, 48, 46, 48, 48] → sg = -1 := fun h => by rw [hsg, h]; rfl
  have hnt : s = [45, 48, 46, 48, 48] → t = [48, 46, 48, 48] := fun h => by rw [ht, h]; rfl
  rw [← hsg] at e4 hst
  have bad : pOk s = false → mparF s = (0, 3) := fun h => by rw [hmp, h, if_neg (by decide)]
  refine stageA (fun E S' => (E.get 4 = .int .i64 sg ∧ E.get 5 = .str t) ∧ (4 ≤ t.length ∧ t[k]? = some 46 ∧ ¬ (1 < k ∧ t[0]? = some 48)) ∧ S' = S) ?_ ?_
  · intro K hK
    by_cases c1 : ((t.length : Nat) : Int) < 4
    · rw [bad (by rw [hpok, dF (show ¬ 4 ≤ t.length by omega), Bool.false_and])]
      simp (disch := first | omega | (simp only [lenT]; omega)) only [e4, e5, dT c1, evSt, ↓evPre, ↓evPreW, evPost, evPostW, evR, evU, seval]
    have h4 : 4 ≤ t.length := by omega
    have ek : ((t.length : Nat) : Int) - 3 = (k : Nat) := by omega
    obtain ⟨c, hc⟩ : ∃ c, t[k]? = some c := ⟨_, List.getElem?_eq_getElem (by omega)⟩
    rw [dT h4, hc, Bool.true_and] at hpok
    by_cases c2 : (c.toNat : Int) = 46
    case neg =>
      have c2' : ¬ (some c = some (46 : UInt8)) := fun h => c2 (by cases h; rfl)
      rw [bad (by rw [hpok, dF c2', Bool.false_and])]
      simp (disch := first | omega | (simp only [lenT]; omega)) only [e4, e5, hc, dF c1, dF c2, wrap_i64, ek, evSt, ↓evPre, ↓evPreW, evPost, evPostW, evR, evU, seval]
    have c2' : some c = some (46 : UInt8) := by rw [UInt8.toNat_inj.1 (show c.toNat = (46 : UInt8).toNat by show c.toNat = 46; omega)]
    obtain ⟨c0, hc0⟩ : ∃ c, t[0]? = some c := ⟨_, List.getElem?_eq_getElem (by omega)⟩
    rw [hc0] at hpok
    by_cases c3 : (4 : Int) < (t.length : Nat)
    · by_cases c4 : (c0.toNat : Int) = 48
      · have c4' : some c0 = some (48 : UInt8) := by rw [UInt8.toNat_inj.1 (show c0.toNat = (48 : UInt8).toNat by show c0.toNat = 48; omega)]
        rw [bad (by rw [hpok, dT c4', dT (show 1 < k by omega)]; simp)]
        simp (disch := first | omega | (simp only [lenT]; omega)) only [e4, e5, hc, hc0, dF c1, c2, dT c3, dT c4, wrap_i64, ek, evSt, ↓evPre, ↓evPreW, evPost, evPostW, evR, evU, seval]
      have c4' : ¬ (some c0 = some (48 : UInt8)) := fun h => c4 (by cases h; rfl)
      simp (disch := first | omega | (simp only [lenT]; omega)) only [e4, e5, hc, hc0, dF c1, c2, dT c3, dF c4, wrap_i64, ek, evSt, ↓evPre, ↓evPreW, evPost, evPostW, evR, evU, seval]
      exact hK _ _ ⟨⟨e4, e5⟩, ⟨h4, hc.trans c2', fun h => c4' (hc0.symm.trans h.2)⟩, rfl⟩
    · simp (disch := first | omega | (simp only [lenT]; omega)) only [e4, e5, hc, dF c1, c2, dF c3, wrap_i64, ek, evSt, ↓evPre, ↓evPreW, evPost, evPostW, evR, evU, seval]
      exact hK _ _ ⟨⟨e4, e5⟩, ⟨h4, hc.trans c2', fun h => by omega⟩, rfl⟩
  clear e4 e5
  rintro E S2 ⟨⟨e4, e5⟩, ⟨h4, hdot, hz⟩, hS2⟩
  rw [hS2]
  clear hS2 S2
  rw [dT h4, dT hdot, Bool.true_and, Bool.true_and] at hpok
  refine stageA (fun E S' => (E.get 4 = .int .i64 sg ∧ E.get 5 = .str t ∧ E.get 6 = .int .i64 0) ∧ S' = S) ?_ ?_
  · intro K hK
    simp (disch := first | omega | (simp only [lenT]; omega)) only [evSt, ↓evPre, ↓evPreW, evPost, evPostW, evR, evU, seval]
    exact hK _ _ ⟨⟨e4, e5, rfl⟩, rfl⟩
  clear e4 e5
  rintro E S2 ⟨⟨e4, e5, e6⟩, hS2⟩
  rw [hS2]
  clear hS2 S2
  have ek : ((t.length : Nat) : Int) - 3 = (k : Nat) := by omega
  refine stageA (fun E S' => (E.get 4 = .int .i64 sg ∧ E.get 6 = .int .i64 ((min (dval (dsF s)) 1099511627777 : Nat) : Int)) ∧ ((dsF s).all dig = true ∧ digsF (t.take k) = true ∧ digsF (t.drop (k + 1)) = true) ∧ S' = S) ?_ ?_
  · intro K hK
    simp (disch := first | omega | (simp only [lenT]; omega)) only [e5, evSt, ↓evPre, ↓evPreW, evPost, evPostW, evR, evU, seval]
    refine loopA (ι := Nat) (fun j => [(4, .int .i64 sg), (5, .str t), (6, .int .i64 ((min (dval (preD t k j)) 1099511627777 : Nat) : Int)), (7, .int .i64 (j : Nat))]) (fun _ => S) (fun j => j ≤ t.length ∧ (preD t k j).all dig = true) (fun j => t.length - j) 0 ⟨Nat.zero_le _, rfl⟩ ?_ rfl ?_
    · simp only [e4, e5, e6, ↓evPre, ↓evPreW, evPost, evPostW, evR, evU, seval]
      first | rfl | exact ⟨rfl, rfl⟩ | exact ⟨rfl, rfl, rfl⟩ | exact ⟨rfl, rfl, rfl, rfl⟩
    rintro j ⟨hj, hall⟩
    cases hc : t[j]? with
    | none =>
      have hge : t.length ≤ j := List.getElem?_eq_none_iff.1 hc
      have hlt : ¬ ((j : Int) < t.length) := by omega
      have hpd : preD t k j = dsF s := by
        rw [hds]
        unfold preD
        rw [if_neg (by omega)]
        congr 1
        exact List.take_of_length_le (by rw [List.length_drop]; omega)
      rw [hpd] at hall ⊢
      simp (disch := first | omega | (simp only [lenT]; omega)) only [dF hlt, evSt, ↓evPre, ↓evPreW, evPost, evPostW, evR, evU, seval]
      refine hK _ _ ⟨⟨rfl, rfl⟩, ⟨hall, ?_⟩, rfl⟩
      rw [hds, List.all_append, Bool.and_eq_true] at hall
      unfold digsF
      rw [hall.1, hall.2, Bool.and_true, Bool.and_true]
      have n1 : (t.take k).length = k := by rw [List.length_take]; omega
      have n2 : (t.drop (k + 1)).length = t.length - (k + 1) := by rw [List.length_drop]
      exact ⟨decide_eq_true (fun e => by rw [e, List.length_nil] at n1; omega), decide_eq_true (fun e => by rw [e, List.length_nil] at n2; omega)⟩
    | some c =>
      have hlt' := (List.getElem?_eq_some_iff.1 hc).1
      have hlt : (j : Int) < t.length := by omega
      have hj1 : (j : Int) + 1 = ((j + 1 : Nat) : Int) := by omega
      by_cases hjk : j = k
      · have hjk' : (j : Int) = (k : Nat) := by omega
        have hpd : preD t k (j + 1) = preD t k j := by rw [hjk]; exact preD_dot
        simp (disch := first | omega | (simp only [lenT]; omega)) only [dT hlt, wrap_i64, ek, dT hjk', hj1, evSt, ↓evPre, ↓evPreW, evPost, evPostW, evR, evU, seval]
        refine ⟨j + 1, ⟨by omega, by rw [hpd]; exact hall⟩, by omega, ?_⟩
        rw [hpd]
        first | rfl | exact ⟨rfl, rfl⟩ | exact ⟨rfl, rfl, rfl⟩
      have hjk' : ¬ (j : Int) = (k : Nat) := by omega
      have nodig : dig c = false → pOk s = false := fun h => by
        rw [hpok]
        by_cases q : j < k
        · have : digsF (t.take k) = false := by
            unfold digsF
            rw [all_bad (show (t.take k)[j]? = some c by rw [List.getElem?_take_of_lt q]; exact hc) h, Bool.and_false]
          rw [this, Bool.false_and]
        · have : digsF (t.drop (k + 1)) = false := by
            unfold digsF
            rw [all_bad (k := j - (k + 1)) (show (t.drop (k + 1))[j - (k + 1)]? = some c by rw [List.getElem?_drop, show k + 1 + (j - (k + 1)) = j by omega]; exact hc) h, Bool.and_false]
          rw [this, Bool.false_and, Bool.and_false]
      by_cases q1 : (c.toNat : Int) < 48
      · rw [bad (nodig (by unfold dig; exact dF (by omega)))]
        simp (disch := first | omega | (simp only [lenT]; omega)) only [dT hlt, wrap_i64, ek, dF hjk', hc, dT q1, evSt, ↓evPre, ↓evPreW, evPost, evPostW, evR, evU, seval]
      by_cases q2 : 57 < (c.toNat : Int)
      · rw [bad (nodig (by unfold dig; exact dF (by omega)))]
        simp (disch := first | omega | (simp only [lenT]; omega)) only [dT hlt, wrap_i64, ek, dF hjk', hc, dF q1, dT q2, evSt, ↓evPre, ↓evPreW, evPost, evPostW, evR, evU, seval]
      have hdg : dig c = true := by unfold dig; exact dT (by omega)
      have hst := preD_dval hc hjk
      have hnx := preD_next hc hjk
      have hm1 : (10 : Int) * ((min (dval (preD t k j)) 1099511627777 : Nat) : Int) + ((c.toNat : Int) - 48) = ((10 * min (dval (preD t k j)) 1099511627777 + (c.toNat - 48) : Nat) : Int) := by omega
      have hm2 : min ((10 * min (dval (preD t k j)) 1099511627777 + (c.toNat - 48) : Nat) : Int) 1099511627777 = ((min (dval (preD t k (j + 1))) 1099511627777 : Nat) : Int) := by rw [hst]; omega
      simp (disch := first | omega | (simp only [lenT]; omega)) only [dT hlt, wrap_i64, wrap_u8, ek, dF hjk', hc, dF q1, dF q2, hj1, evSt, ↓evPre, ↓evPreW, evPost, evPostW, evR, evU, seval]
      refine ⟨j + 1, ⟨by omega, by rw [hnx, List.all_append, hall]; simp [hdg]⟩, by omega, by rw [hm1]; exact hm2, rfl⟩
  clear e4 e5 e6
  rintro E S2 ⟨⟨e4, e6⟩, ⟨hall, hg1, hg2⟩, hS2⟩
  rw [hS2]
  clear hS2 S2
  rw [hg1, hg2, Bool.true_and, Bool.true_and] at hpok
  have hpk : pOk s = !decide (s = [45, 48, 46, 48, 48]) := by
    rw [hpok]
    by_cases q : 1 < k
    · rw [dF (show ¬ t[0]? = some 48 from fun h => hz ⟨q, h⟩), Bool.and_false]
      rfl
    · rw [dF q, Bool.false_and]
      rfl
  obtain ⟨D, hD⟩ : ∃ D, D = dval (dsF s) := ⟨_, rfl⟩
  rw [← hD] at e6 hmp
  by_cases hm : D = 0 ∧ sg = -1
  · have hs5 : s = [45, 48, 46, 48, 48] := by
      have h48 := dval_zero (hD.symm.trans hm.1) hall
      rw [hds] at h48
      have hk1 : 1 ≤ k := by omega
      have ht0 : t[0]? = some 48 := by
        obtain ⟨a, ha⟩ : ∃ a, t[0]? = some a := ⟨_, List.getElem?_eq_getElem (by omega)⟩
        have h1 : (t.take k)[0]? = some a := by rw [List.getElem?_take_of_lt (by omega)]; exact ha
        rw [ha, h48 a (List.mem_append_left _ (List.mem_of_getElem? h1))]
      have hk' : k = 1 := by
        by_cases q : 1 < k
        · exact absurd ⟨q, ht0⟩ hz
        · omega
      rw [hst hm.2]
      have hlen : t.length = 4 := by omega
      rw [hk'] at h48 hdot
      match t, hlen with
      | [a, b, c, d], _ =>
        have hb : b = 46 := by simpa using hdot
        rw [hb, h48 a (by simp), h48 c (by simp), h48 d (by simp)]
    rw [bad (by rw [hpk, dT hs5]; rfl)]
    have z1 : ((min D 1099511627777 : Nat) : Int) = 0 := by omega
    simp (disch := first | omega | (simp only [lenT]; omega)) only [e4, e6, hm.2, z1, evSt, ↓evPre, ↓evPreW, evPost, evPostW, evR, evU, seval]
  · have hs5 : ¬ s = [45, 48, 46, 48, 48] := fun h => hm ⟨by
      have hkk : k = 1 := by rw [hkt, hnt h]; rfl
      rw [hD, hds, hnt h, hkk]
      rfl, hns h⟩
    rw [hmp, hpk, dF hs5, Bool.not_false, if_pos rfl]
    have hM : ∀ z : Int, z = ((min D 1099511627777 : Nat) : Int) → z ≤ 1099511627777 ∧ 0 ≤ z := fun z h => by omega
    by_cases hov : D ≤ 1099511627776
    · have hmin : min D 1099511627777 = D := by omega
      rw [hmin] at e6
      have c2 : ¬ (1099511627776 : Int) < ((D : Nat) : Int) := by omega
      rw [if_pos hov]
      by_cases z1 : ((D : Nat) : Int) = 0
      · have hs1 : sg = 1 := by
          rcases hsg2 with h | h
          · exact h
          · exact absurd ⟨by omega, h⟩ hm
        rw [hs1] at e4 ⊢
        simp (disch := first | omega | (simp only [lenT]; omega)) only [e4, e6, z1, wrap_i64, evSt, ↓evPre, ↓evPreW, evPost, evPostW, evR, evU, seval]
        try rfl
      · rcases hsg2 with h | h <;> rw [h] at e4 ⊢ <;> simp (disch := first | omega | (simp only [lenT]; omega)) only [e4, e6, dF z1, dF c2, wrap_i64, evSt, ↓evPre, ↓evPreW, evPost, evPostW, evR, evU, seval]
    · have hmin : min D 1099511627777 = 1099511627777 := by omega
      rw [hmin] at e6
      rw [if_neg hov]
      rcases hsg2 with h | h <;> rw [h] at e4 <;> simp (disch := first | omega | (simp only [lenT]; omega)) only [e4, e6, wrap_i64, evSt, ↓evPre, ↓evPreW, evPost, evPostW, evR, evU, seval] <;> try rfl
end Go.Proofs.YtkdbghhdklfoiaaDoor
