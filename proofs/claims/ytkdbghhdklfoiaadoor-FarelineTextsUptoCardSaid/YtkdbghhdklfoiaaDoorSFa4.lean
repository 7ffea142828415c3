/- Amounts: what is read. -/
import Derived.Test.YtkdbghhdklfoiaaDoorSFa2
namespace Go.Proofs.YtkdbghhdklfoiaaDoor
open Go Go.AL
set_option linter.unusedSectionVars false
variable [Go.AL.Mode] [Go.AL.LooseM]
set_option linter.unusedSimpArgs false
set_option linter.unusedVariables false
def digsF (s : Txt) : Bool := decide (s ≠ []) && s.all dig
theorem mdigits_A (s : Txt) (hs : s.length ≤ 9223372036854775807) (S : Store) : CallA Tryd.prog 92 [.str s] S fun r S' => r = .bool (digsF s) ∧ S' = S := by
  refine CallA.keep Tryd.func92 c10092 (Nat.le_of_ble_eq_true rfl) fun σ hσ => ?_
  simp (disch := first | omega | (simp only [lenT]; omega)) only [a10092, evSt, ↓evPre, ↓evPreW, evPost, evPostW, evR, evU, seval]
  refine loopA (ι := Nat) (fun k => [(0, .str s), (5, .int .i64 s.length), (6, .int .i64 (k : Nat))]) (fun _ => S) (fun k => k ≤ s.length ∧ s.all dig = (s.drop k).all dig) (fun k => s.length - k) 0 ⟨Nat.zero_le _, rfl⟩ ?_ rfl ?_
  · simp only [↓evPre, ↓evPreW, evPost, evPostW, evR, evU, seval]
  rintro k ⟨hk, he⟩
  cases hc : s[k]? with
  | none =>
    have hge : s.length ≤ k := List.getElem?_eq_none_iff.1 hc
    have hlt : ¬ ((k : Int) < s.length) := by omega
    rw [List.drop_eq_nil_of_le hge] at he
    unfold digsF
    by_cases h1 : s = []
    · have h1' : ¬ s ≠ [] := fun h => h h1
      simp (disch := first | omega | (simp only [lenT]; omega)) only [dF hlt, dT h1, dF h1', Bool.false_and, Bool.not_true, evSt, ↓evPre, ↓evPreW, evPost, evPostW, evR, evU, seval]
    · simp (disch := first | omega | (simp only [lenT]; omega)) only [dF hlt, dF h1, decide_eq_true (show s ≠ [] from h1), he, List.all_nil, Bool.and_self, Bool.not_false, evSt, ↓evPre, ↓evPreW, evPost, evPostW, evR, evU, seval]
  | some c =>
    have hlt' := (List.getElem?_eq_some_iff.1 hc).1
    have hlt : (k : Int) < s.length := by omega
    have hk1 : (k : Int) + 1 = ((k + 1 : Nat) : Int) := by omega
    have hne : s ≠ [] := fun h => by rw [h] at hlt'; simp at hlt'
    rw [all_at hc] at he
    unfold digsF
    by_cases h1 : (c.toNat : Int) < 48
    · have hd : dig c = false := dF (by omega)
      rw [hd, Bool.false_and] at he
      simp (disch := first | omega | (simp only [lenT]; omega)) only [dT hlt, hc, dT h1, he, Bool.and_false, evSt, ↓evPre, ↓evPreW, evPost, evPostW, evR, evU, seval]
    by_cases h2 : (57 : Int) < c.toNat
    · have hd : dig c = false := dF (by omega)
      rw [hd, Bool.false_and] at he
      simp (disch := first | omega | (simp only [lenT]; omega)) only [dT hlt, hc, dF h1, dT h2, he, Bool.and_false, evSt, ↓evPre, ↓evPreW, evPost, evPostW, evR, evU, seval]
    have hd : dig c = true := dT (by omega)
    rw [hd, Bool.true_and] at he
    simp (disch := first | omega | (simp only [lenT]; omega)) only [dT hlt, hc, dF h1, dF h2, wrap_i64, hk1, evSt, ↓evPre, ↓evPreW, evPost, evPostW, evR, evU, seval]
    exact ⟨k + 1, ⟨by omega, he⟩, by omega, by first | rfl | exact ⟨rfl, rfl⟩ | exact ⟨rfl, rfl, rfl⟩⟩
def dval (l : Txt) : Nat := l.foldl (fun a c => 10 * a + (c.toNat - 48)) 0
def tlF (s : Txt) : Txt := if s.head? = some 45 then s.drop 1 else s
def sgF (s : Txt) : Int := if s.head? = some 45 then -1 else 1
def kF (s : Txt) : Nat := (tlF s).length - 3
def pOk (s : Txt) : Bool := decide (4 ≤ (tlF s).length) && (decide ((tlF s)[kF s]? = some 46) && (digsF ((tlF s).take (kF s)) && (digsF ((tlF s).drop (kF s + 1)) && (!(decide (1 < kF s) && decide ((tlF s)[0]? = some 48)) && !decide (s = [45, 48, 46, 48, 48])))))
def dsF (s : Txt) : Txt := (tlF s).take (kF s) ++ (tlF s).drop (kF s + 1)
def mparF (s : Txt) : Int × Int := if pOk s = true then (if dval (dsF s) ≤ 1099511627776 then (sgF s * (dval (dsF s) : Nat), 0) else (0, 11)) else (0, 3)
theorem dval_app (l m : Txt) : dval (l ++ m) = m.foldl (fun a c => 10 * a + (c.toNat - 48)) (dval l) := by unfold dval; rw [List.foldl_append]
theorem dfold_ge (m : Txt) : ∀ a : Nat, a ≤ m.foldl (fun a c => 10 * a + (c.toNat - 48)) a := by
  induction m with
  | nil => intro a; exact Nat.le_refl _
  | cons c m ih => intro a; rw [List.foldl_cons]; exact Nat.le_trans (by omega) (ih _)
theorem dval_take (l : Txt) (k : Nat) : dval (l.take k) ≤ dval l := by
  have := dfold_ge (l.drop k) (dval (l.take k))
  rw [← dval_app, List.take_append_drop] at this
  exact this
theorem dval_step {l : Txt} {k : Nat} {c : UInt8} (h : l[k]? = some c) : dval (l.take (k + 1)) = 10 * dval (l.take k) + (c.toNat - 48) := by
  rw [List.take_add_one, h, Option.toList_some, dval_app]
  rfl
set_option maxHeartbeats 2000000 in
theorem mparse0_A (s : Txt) (hs : s.length ≤ 1000000000) (S : Store) : CallA Tryd.prog 63 [.str s] S fun r S' => r = .tup [.int .i64 (mparF s).1, .int .i64 (mparF s).2] ∧ S' = S := by
  refine CallA.keep Tryd.func63 c10063 (Nat.le_of_ble_eq_true rfl) fun σ hσ => ?_
  simp only [a10063]
  refine stageA (fun E S' => E.get 0 = .str s ∧ S' = S) ?_ ?_
  · intro K hK
    simp (disch := first | omega | (simp only [lenT]; omega)) only [evSt, ↓evPre, ↓evPreW, evPost, evPostW, evR, evU, seval]
    exact hK _ _ ⟨rfl, rfl⟩
  rintro E S2 ⟨e0, hS2⟩
  rw [hS2]
  clear hS2 S2
  refine stageA (fun E S' => (E.get 0 = .str s ∧ E.get 4 = .int .i64 1 ∧ E.get 5 = .str s) ∧ S' = S) ?_ ?_
  · intro K hK
    simp (disch := first | omega | (simp only [lenT]; omega)) only [e0, evSt, ↓evPre, ↓evPreW, evPost, evPostW, evR, evU, seval]
    exact hK _ _ ⟨⟨e0, rfl, rfl⟩, rfl⟩
  clear e0
  rintro E S2 ⟨⟨e0, e4, e5⟩, hS2⟩
  rw [hS2]
  clear hS2 S2
  refine stageA (fun E S' => (E.get 0 = .str s ∧ E.get 4 = .int .i64 (sgF s) ∧ E.get 5 = .str (tlF s)) ∧ S' = S) ?_ ?_
  · intro K hK
    cases s with
    | nil =>
      simp (disch := first | omega | (simp only [lenT]; omega)) only [e0, e4, e5, evSt, ↓evPre, ↓evPreW, evPost, evPostW, evR, evU, seval]
      exact hK _ _ ⟨⟨e0, e4, e5⟩, rfl⟩
    | cons c s =>
      by_cases h1 : (c.toNat : Int) = 45
      · have hc : c = 45 := UInt8.toNat_inj.1 (by show c.toNat = 45; omega)
        have e1 : sgF (c :: s) = -1 := by simp [sgF, hc]
        have e2 : tlF (c :: s) = s := by simp [tlF, hc]
        simp (disch := first | omega | (simp only [lenT]; omega)) only [e0, e4, e5, dT h1, Bool.not_false, evSt, ↓evPre, ↓evPreW, evPost, evPostW, evR, evU, seval]
        rw [if_pos ⟨by omega, by omega⟩, List.take_of_length_le (Nat.le_refl _)]
        simp (disch := first | omega | (simp only [lenT]; omega)) only [evSt, ↓evPre, ↓evPreW, evPost, evPostW, evR, evU, seval]
        exact hK _ _ ⟨⟨e0, by rw [e1]; rfl, by rw [e2]; rfl⟩, rfl⟩
      · have hc : c ≠ 45 := fun h => h1 (by rw [h]; rfl)
        have e1 : sgF (c :: s) = 1 := by simp [sgF, hc]
        have e2 : tlF (c :: s) = c :: s := by simp [tlF, hc]
        simp (disch := first | omega | (simp only [lenT]; omega)) only [e0, e4, e5, dF h1, Bool.not_false, evSt, ↓evPre, ↓evPreW, evPost, evPostW, evR, evU, seval]
        exact hK _ _ ⟨⟨e0, e4.trans (by rw [e1]), e5.trans (by rw [e2])⟩, rfl⟩
  clear e0 e4 e5
  rintro E S2 ⟨⟨e0, e4, e5⟩, hS2⟩
  rw [hS2]
  clear hS2 S2
  have htl : (tlF s).length ≤ s.length := by unfold tlF; split <;> simp
  obtain ⟨t, ht⟩ : ∃ t, t = tlF s := ⟨_, rfl⟩
  obtain ⟨k, hk⟩ : ∃ k, k = kF s := ⟨_, rfl⟩
  have hkt : k = t.length - 3 := by rw [hk, ht]; rfl
  have hpok : pOk s = (decide (4 ≤ t.length) && (decide (t[k]? = some 46) && (digsF (t.take k) && (digsF (t.drop (k + 1)) && (!(decide (1 < k) && decide (t[0]? = some 48)) && !decide (s = [45, 48, 46, 48, 48])))))) := by rw [ht, hk]; rfl
  have hds : dsF s = t.take k ++ t.drop (k + 1) := by rw [ht, hk]; rfl
  rw [← ht] at e5 htl
  obtain ⟨sg, hsg⟩ : ∃ sg, sg = sgF s := ⟨_, rfl⟩
  have hsg2 : sg = 1 ∨ sg = -1 := by rw [hsg]; unfold sgF; split <;> simp
  have hmp : mparF s = if pOk s = true then (if dval (dsF s) ≤ 1099511627776 then (sg * (dval (dsF s) : Nat), 0) else (0, 11)) else (0, 3) := by rw [hsg]; rfl
  rw [← hsg] at e4
  refine stageA (fun E S' => (E.get 0 = .str s ∧ E.get 4 = .int .i64 sg ∧ E.get 5 = .str t ∧ E.get 6 = .int .i64 ((t.length : Nat) - 3)) ∧ S' = S) ?_ ?_
  · intro K hK
    simp (disch := first | omega | (simp only [lenT]; omega)) only [e0, e4, e5, wrap_i64, evSt, ↓evPre, ↓evPreW, evPost, evPostW, evR, evU, seval]
    exact hK _ _ ⟨⟨e0, e4, e5, rfl⟩, rfl⟩
  clear e0 e4 e5
  rintro E S2 ⟨⟨e0, e4, e5, e6⟩, hS2⟩
  rw [hS2]
  clear hS2 S2
  refine stageA (fun E S' => (E.get 4 = .int .i64 sg ∧ E.get 5 = .str t ∧ E.get 6 = .int .i64 (k : Nat)) ∧ (pOk s = true ∧ 4 ≤ t.length) ∧ S' = S) ?_ ?_
  · intro K hK
    have bad : pOk s = false → mparF s = (0, 3) := fun h => by rw [hmp, h, if_neg (by decide)]
    by_cases c1 : ((t.length : Nat) : Int) - 3 < 1
    · rw [bad (by rw [hpok, dF (show ¬ 4 ≤ t.length by omega), Bool.false_and])]
      simp (disch := first | omega | (simp only [lenT]; omega)) only [e0, e4, e5, e6, dT c1, evSt, ↓evPre, ↓evPreW, evPost, evPostW, evR, evU, seval]
    have h4 : 4 ≤ t.length := by omega
    have ek : ((t.length : Nat) : Int) - 3 = (k : Nat) := by omega
    rw [ek] at e6
    have c1 : ¬ ((k : Nat) : Int) < 1 := by omega
    obtain ⟨c, hc⟩ : ∃ c, t[k]? = some c := ⟨_, List.getElem?_eq_getElem (by omega)⟩
    rw [dT h4, hc, Bool.true_and] at hpok
    by_cases c2 : (c.toNat : Int) = 46
    case neg =>
      have c2' : ¬ (some c = some (46 : UInt8)) := fun h => c2 (by cases h; rfl)
      rw [bad (by rw [hpok, dF c2', Bool.false_and])]
      simp (disch := first | omega | (simp only [lenT]; omega)) only [e0, e4, e5, e6, hc, dF c1, dF c2, Bool.not_false, evSt, ↓evPre, ↓evPreW, evPost, evPostW, evR, evU, seval]
    have c2' : some c = some (46 : UInt8) := by rw [UInt8.toNat_inj.1 (show c.toNat = (46 : UInt8).toNat by show c.toNat = 46; omega)]
    rw [dT c2', Bool.true_and] at hpok
    have hcut1 : ((0 : Int) ≤ ((k : Nat) : Int) ∧ ((k : Nat) : Int) ≤ ((t.length : Nat) : Int)) := by omega
    have hd1 := fun S => mdigits_A (t.take k) (by rw [List.length_take]; omega) S
    have hd2 := fun S => mdigits_A (t.drop (k + 1)) (by rw [List.length_drop]; omega) S
    simp (disch := first | omega | (simp only [lenT]; omega)) only [e0, e4, e5, e6, hc, dF c1, dT c2, Bool.not_true, evSt, ↓evPre, ↓evPreW, evPost, evPostW, evR, evU, seval]
    rw [if_pos (by omega)]
    have hk1 : ((k : Nat) : Int) + 1 = ((k + 1 : Nat) : Int) := by omega
    simp (disch := first | omega | (simp only [lenT]; omega)) only [evSt, ↓evPre, ↓evPreW, evPost, evPostW, evR, evU, seval]
    refine (hd1 S).then ?_
    cases q1 : digsF (t.take k)
    · rw [bad (by rw [hpok, q1, Bool.false_and])]
      simp (disch := first | omega | (simp only [lenT]; omega)) only [Bool.not_false, evSt, ↓evPre, ↓evPreW, evPost, evPostW, evR, evU, seval]
    rw [q1, Bool.true_and] at hpok
    simp (disch := first | omega | (simp only [lenT]; omega)) only [e5, e6, wrap_i64, hk1, Bool.not_true, evSt, ↓evPre, ↓evPreW, evPost, evPostW, evR, evU, seval]
    rw [if_pos ⟨by omega, by omega⟩, List.take_of_length_le (by rw [List.length_drop]; omega)]
    simp (disch := first | omega | (simp only [lenT]; omega)) only [evSt, ↓evPre, ↓evPreW, evPost, evPostW, evR, evU, seval]
    refine (hd2 S).then ?_
    cases q2 : digsF (t.drop (k + 1))
    · rw [bad (by rw [hpok, q2, Bool.false_and])]
      simp (disch := first | omega | (simp only [lenT]; omega)) only [Bool.not_false, evSt, ↓evPre, ↓evPreW, evPost, evPostW, evR, evU, seval]
    rw [q2, Bool.true_and] at hpok
    have good : pOk s = true → K = K := fun _ => rfl
    obtain ⟨c0, hc0⟩ : ∃ c, t[0]? = some c := ⟨_, List.getElem?_eq_getElem (by omega)⟩
    rw [hc0] at hpok
    by_cases c3 : (1 : Int) < (k : Nat)
    · rw [dT (show 1 < k by omega), Bool.true_and] at hpok
      by_cases c4 : (c0.toNat : Int) = 48
      · have c4' : some c0 = some (48 : UInt8) := by rw [UInt8.toNat_inj.1 (show c0.toNat = (48 : UInt8).toNat by show c0.toNat = 48; omega)]
        rw [bad (by rw [hpok, dT c4']; rfl)]
        simp (disch := first | omega | (simp only [lenT]; omega)) only [e0, e5, e6, hc0, dT c3, dT c4, Bool.not_true, evSt, ↓evPre, ↓evPreW, evPost, evPostW, evR, evU, seval]
      have c4' : ¬ (some c0 = some (48 : UInt8)) := fun h => c4 (by cases h; rfl)
      rw [dF c4', Bool.not_false, Bool.true_and] at hpok
      by_cases c5 : s = [45, 48, 46, 48, 48]
      · rw [bad (by rw [hpok, dT c5]; rfl)]
        simp (disch := first | omega | (simp only [lenT]; omega)) only [e0, e5, e6, hc0, dT c3, dF c4, dT c5, Bool.not_true, evSt, ↓evPre, ↓evPreW, evPost, evPostW, evR, evU, seval]
      · rw [dF c5, Bool.not_false] at hpok
        simp (disch := first | omega | (simp only [lenT]; omega)) only [e0, e5, e6, hc0, dT c3, dF c4, dF c5, Bool.not_true, evSt, ↓evPre, ↓evPreW, evPost, evPostW, evR, evU, seval]
        exact hK _ _ ⟨⟨e4, e5, e6⟩, ⟨hpok, h4⟩, rfl⟩
    · rw [dF (show ¬ 1 < k by omega), Bool.false_and, Bool.not_false, Bool.true_and] at hpok
      by_cases c5 : s = [45, 48, 46, 48, 48]
      · rw [bad (by rw [hpok, dT c5]; rfl)]
        simp (disch := first | omega | (simp only [lenT]; omega)) only [e0, e5, e6, hc0, dF c3, dT c5, Bool.not_true, evSt, ↓evPre, ↓evPreW, evPost, evPostW, evR, evU, seval]
      · rw [dF c5, Bool.not_false] at hpok
        simp (disch := first | omega | (simp only [lenT]; omega)) only [e0, e5, e6, hc0, dF c3, dF c5, Bool.not_true, evSt, ↓evPre, ↓evPreW, evPost, evPostW, evR, evU, seval]
        exact hK _ _ ⟨⟨e4, e5, e6⟩, ⟨hpok, h4⟩, rfl⟩
  clear e0 e4 e5 e6
  rintro E S2 ⟨⟨e4, e5, e6⟩, ⟨hp, h4⟩, hS2⟩
  rw [hS2]
  clear hS2 S2
  have hall : (dsF s).all dig = true := by
    have hp2 := hp
    rw [hpok] at hp2
    simp only [Bool.and_eq_true, digsF] at hp2
    rw [hds, List.all_append, hp2.2.2.1.2, hp2.2.2.2.1.2]
    rfl
  rw [hp, if_pos rfl] at hmp
  obtain ⟨ds, hdd⟩ : ∃ ds, ds = dsF s := ⟨_, rfl⟩
  rw [← hdd] at hall hmp hds
  have hdl : ds.length ≤ 1000000000 := by rw [hds, List.length_append, List.length_take, List.length_drop]; omega
  refine stageA (fun E S' => (E.get 4 = .int .i64 sg ∧ E.get 5 = .str t ∧ E.get 6 = .int .i64 (k : Nat) ∧ E.get 7 = .int .i64 0) ∧ S' = S) ?_ ?_
  · intro K hK
    simp (disch := first | omega | (simp only [lenT]; omega)) only [evSt, ↓evPre, ↓evPreW, evPost, evPostW, evR, evU, seval]
    exact hK _ _ ⟨⟨e4, e5, e6, rfl⟩, rfl⟩
  clear e4 e5 e6
  rintro E S2 ⟨⟨e4, e5, e6, e7⟩, hS2⟩
  rw [hS2]
  clear hS2 S2
  have hk1 : ((k : Nat) : Int) + 1 = ((k + 1 : Nat) : Int) := by omega
  have hadd : binV .add (.str (t.take k)) (.str (t.drop (k + 1))) = some (.str ds) := by rw [hds]; exact bs_add (by rw [List.length_take, List.length_drop]; unfold maxLen; omega)
  refine stageA (fun E S' => (E.get 4 = .int .i64 sg ∧ E.get 7 = .int .i64 (dval ds : Nat)) ∧ dval ds ≤ 1099511627776 ∧ S' = S) ?_ ?_
  · intro K hK
    simp (disch := first | omega | (simp only [lenT]; omega)) only [e5, e6, wrap_i64, hk1, evSt, ↓evPre, ↓evPreW, evPost, evPostW, evR, evU, seval]
    rw [if_pos (by omega)]
    simp (disch := first | omega | (simp only [lenT]; omega)) only [e5, e6, wrap_i64, hk1, evSt, ↓evPre, ↓evPreW, evPost, evPostW, evR, evU, seval]
    rw [if_pos ⟨by omega, by omega⟩, List.take_of_length_le (by rw [List.length_drop]; omega)]
    simp (disch := first | omega | (simp only [lenT]; omega)) only [hadd, evSt, ↓evPre, ↓evPreW, evPost, evPostW, evR, evU, seval]
    refine loopA (ι := Nat) (fun j => [(4, .int .i64 sg), (7, .int .i64 (dval (ds.take j) : Nat)), (67, .sl 1 (ds.map fun b => [V.int .u8 (b.toNat : Nat)])), (68, .int .i64 ds.length), (69, .int .i64 (j : Nat))]) (fun _ => S) (fun j => j ≤ ds.length ∧ dval (ds.take j) ≤ 1099511627776) (fun j => ds.length - j) 0 ⟨Nat.zero_le _, by simp [dval]⟩ ?_ rfl ?_
    · simp only [e4, e7, ↓evPre, ↓evPreW, evPost, evPostW, evR, evU, seval]
      first | rfl | exact ⟨rfl, rfl⟩ | simp [dval]
    rintro j ⟨hj, hm⟩
    cases hc : ds[j]? with
    | none =>
      have hge : ds.length ≤ j := List.getElem?_eq_none_iff.1 hc
      have hlt : ¬ ((j : Int) < ds.length) := by omega
      rw [List.take_of_length_le hge] at hm ⊢
      simp (disch := first | omega | (simp only [lenT]; omega)) only [dF hlt, evSt, ↓evPre, ↓evPreW, evPost, evPostW, evR, evU, seval]
      exact hK _ _ ⟨⟨rfl, rfl⟩, hm, rfl⟩
    | some c =>
      have hlt' := (List.getElem?_eq_some_iff.1 hc).1
      have hlt : (j : Int) < ds.length := by omega
      have hj1 : (j : Int) + 1 = ((j + 1 : Nat) : Int) := by omega
      have hcd := List.all_eq_true.1 hall c (List.mem_of_getElem? hc)
      have hcd2 : 48 ≤ c.toNat ∧ c.toNat ≤ 57 := by unfold dig at hcd; exact of_decide_eq_true hcd
      have hst := dval_step hc
      have hnx : (10 : Int) * (dval (ds.take j) : Nat) + ((c.toNat : Int) - 48) = ((dval (ds.take (j + 1)) : Nat) : Int) := by rw [hst]; omega
      have hbd : dval (ds.take (j + 1)) ≤ 20000000000000 := by rw [hst]; omega
      by_cases hov : (1099511627776 : Int) < ((dval (ds.take (j + 1)) : Nat) : Int)
      · have hdt := dval_take ds (j + 1)
        rw [hmp, if_neg (by omega)]
        simp (disch := first | omega | (simp only [lenT]; omega)) only [dT hlt, hc, wrap_u8, wrap_i64, hnx, dT hov, evSt, ↓evPre, ↓evPreW, evPost, evPostW, evR, evU, seval]
      · simp (disch := first | omega | (simp only [lenT]; omega)) only [dT hlt, hc, wrap_u8, wrap_i64, hnx, dF hov, hj1, evSt, ↓evPre, ↓evPreW, evPost, evPostW, evR, evU, seval]
        exact ⟨j + 1, ⟨by omega, by omega⟩, by omega, by first | rfl | exact ⟨rfl, rfl⟩ | exact ⟨rfl, rfl, rfl⟩⟩
  clear e4 e5 e6 e7
  rintro E S2 ⟨⟨e4, e7⟩, hm, hS2⟩
  rw [hS2]
  clear hS2 S2
  rw [hmp, if_pos hm]
  rcases hsg2 with h | h <;> rw [h] at e4 ⊢ <;> simp (disch := first | omega | (simp only [lenT]; omega)) only [e4, e7, wrap_i64, evSt, ↓evPre, ↓evPreW, evPost, evPostW, evR, evU, seval]
theorem mparse_A (s : Txt) (hs : s.length ≤ 1000000000) (S : Store) : CallA Tryd.prog 63 [.str s] S fun r S' => r = .tup [.int .i64 (mparF s).1, .int .i64 (mparF s).2] ∧ S' = S := mparse0_A s hs S
end Go.Proofs.YtkdbghhdklfoiaaDoor
/- Amounts: what was written is read. -/
namespace Go.Proofs.YtkdbghhdklfoiaaDoor
open Go Go.AL
set_option linter.unusedSectionVars false
variable [Go.AL.Mode] [Go.AL.LooseM]
set_option linter.unusedSimpArgs false
set_option linter.unusedVariables false
theorem dig_iff {c : UInt8} : dig c = true ↔ 48 ≤ c.toNat ∧ c.toNat ≤ 57 := by simp [dig]
theorem ofNat_dig {k : Nat} (h : k < 10) : (UInt8.ofNat (48 + k)).toNat = 48 + k := by
  rw [UInt8.toNat_ofNat']
  omega
theorem dval_snoc (l : Txt) (c : UInt8) : dval (l ++ [c]) = 10 * dval l + (c.toNat - 48) := by rw [dval_app]; rfl
theorem dec_spec : ∀ (n u : Nat), u < n → (Lib.decDigits u).all dig = true ∧ dval (Lib.decDigits u) = u ∧ Lib.decDigits u ≠ [] ∧ ((Lib.decDigits u).head? = some 48 → u = 0)
  | 0, u, h => by omega
  | n + 1, u, h => by
    rw [Lib.decDigits]
    split
    · rename_i h10
      refine ⟨?_, ?_, by simp, fun e => ?_⟩
      · rw [List.all_cons, List.all_nil, Bool.and_true, dig_iff, ofNat_dig h10]
        omega
      · show 10 * 0 + _ = _
        rw [ofNat_dig h10]
        omega
      · simp only [List.head?_cons, Option.some.injEq] at e
        have := congrArg UInt8.toNat e
        rw [ofNat_dig h10] at this
        have h48 : (48 : UInt8).toNat = 48 := rfl
        omega
    · rename_i h10
      obtain ⟨h1, h2, h3, h4⟩ := dec_spec n (u / 10) (by omega)
      have hm : u % 10 < 10 := by omega
      refine ⟨?_, ?_, by simp, fun e => ?_⟩
      · rw [List.all_append, h1, List.all_cons, List.all_nil, Bool.and_true, Bool.true_and, dig_iff, ofNat_dig hm]
        omega
      · rw [dval_snoc, h2, ofNat_dig hm]
        omega
      · have hh : (Lib.decDigits (u / 10) ++ [UInt8.ofNat (48 + u % 10)]).head? = (Lib.decDigits (u / 10)).head? := by
          cases hd : Lib.decDigits (u / 10) with
          | nil => exact absurd hd h3
          | cons a l => rfl
        rw [hh] at e
        have := h4 e
        omega
def twoF (m : Nat) : Txt := [UInt8.ofNat (48 + m / 10), UInt8.ofNat (48 + m % 10)]
theorem two_eq (m : Nat) (h : m < 100) : (if m < 10 then [48] else []) ++ Lib.decDigits m = twoF m := by
  by_cases h1 : m < 10
  · rw [if_pos h1, Lib.decDigits, dif_pos h1]
    unfold twoF
    rw [show m / 10 = 0 by omega, show m % 10 = m by omega]
    rfl
  · rw [if_neg h1, Lib.decDigits, dif_neg h1, Lib.decDigits, dif_pos (show m / 10 < 10 by omega)]
    unfold twoF
    rfl
theorem amt_eq (n : Nat) : amtF n = Lib.decDigits (n / 100) ++ (46 :: twoF (n % 100)) := by
  unfold amtF
  rw [two_eq _ (by omega)]
  simp
theorem two_dig (m : Nat) (h : m < 100) : (twoF m).all dig = true ∧ ∀ l, dval (l ++ twoF m) = 100 * dval l + m := by
  have h1 := ofNat_dig (show m / 10 < 10 by omega)
  have h2 := ofNat_dig (show m % 10 < 10 by omega)
  refine ⟨?_, fun l => ?_⟩
  · simp only [twoF, List.all_cons, List.all_nil, Bool.and_true, Bool.and_eq_true, dig_iff, h1, h2]
    omega
  · unfold twoF
    rw [show l ++ [UInt8.ofNat (48 + m / 10), UInt8.ofNat (48 + m % 10)] = (l ++ [UInt8.ofNat (48 + m / 10)]) ++ [UInt8.ofNat (48 + m % 10)] by simp, dval_snoc, dval_snoc, h1, h2]
    omega
theorem amt_head {u : Nat} {r : Txt} : ∃ c, (Lib.decDigits u ++ r).head? = some c ∧ dig c = true := by
  obtain ⟨d1, _, d3, _⟩ := dec_spec (u + 1) u (by omega)
  cases hd : Lib.decDigits u with
  | nil => exact absurd hd d3
  | cons a l =>
    rw [hd, List.all_cons, Bool.and_eq_true] at d1
    exact ⟨a, rfl, d1.1⟩
theorem mpar_amt (n : Nat) (h : n ≤ 1099511627776) : mparF (amtF n) = (((n : Nat) : Int), 0) := by
  obtain ⟨d1, d2, d3, d4⟩ := dec_spec (n / 100 + 1) (n / 100) (by omega)
  obtain ⟨t1, t2⟩ := two_dig (n % 100) (by omega)
  obtain ⟨c, hc, hcd⟩ := amt_head (u := n / 100) (r := 46 :: twoF (n % 100))
  have hcn : c ≠ 45 := fun e => by rw [e] at hcd; revert hcd; decide
  rw [← amt_eq] at hc
  have hh : ¬ (amtF n).head? = some 45 := fun e => by rw [hc] at e; exact hcn (Option.some.inj e)
  have htl : tlF (amtF n) = amtF n := by unfold tlF; rw [if_neg hh]
  have hsg : sgF (amtF n) = 1 := by unfold sgF; rw [if_neg hh]
  have hln : (amtF n).length = (Lib.decDigits (n / 100)).length + 3 := by rw [amt_eq]; simp [twoF]
  have hlp : 1 ≤ (Lib.decDigits (n / 100)).length := by
    have := List.length_pos_iff.2 d3
    omega
  have hk : kF (amtF n) = (Lib.decDigits (n / 100)).length := by unfold kF; rw [htl]; omega
  have e1 : (amtF n)[(Lib.decDigits (n / 100)).length]? = some 46 := by rw [amt_eq, List.getElem?_append_right (Nat.le_refl _), Nat.sub_self]; rfl
  have e2 : (amtF n).take (Lib.decDigits (n / 100)).length = Lib.decDigits (n / 100) := by rw [amt_eq, List.take_append_of_le_length (Nat.le_refl _), List.take_of_length_le (Nat.le_refl _)]
  have e3 : (amtF n).drop ((Lib.decDigits (n / 100)).length + 1) = twoF (n % 100) := by
    rw [amt_eq, List.drop_append, List.drop_of_length_le (by omega), Nat.add_sub_cancel_left]
    rfl
  have e4 : ¬ (1 < (Lib.decDigits (n / 100)).length ∧ (amtF n)[0]? = some 48) := by
    rintro ⟨g1, g2⟩
    rw [← List.head?_eq_getElem?, amt_eq] at g2
    have g3 : (Lib.decDigits (n / 100)).head? = some 48 := by
      cases hd : Lib.decDigits (n / 100) with
      | nil => exact absurd hd d3
      | cons a l => rw [hd] at g2; exact g2
    have g4 := d4 g3
    rw [g4, Lib.decDigits, dif_pos (by decide)] at g1
    simp at g1
  have e5 : amtF n ≠ [45, 48, 46, 48, 48] := fun e => hh (by rw [e]; rfl)
  have hp : pOk (amtF n) = true := by
    unfold pOk
    rw [htl, hk, e2, e3, dT (show 4 ≤ (amtF n).length by omega), dT e1, dF e5]
    unfold digsF
    rw [decide_eq_true (show Lib.decDigits (n / 100) ≠ [] from d3), d1, t1, decide_eq_true (show twoF (n % 100) ≠ [] by unfold twoF; simp)]
    by_cases g1 : 1 < (Lib.decDigits (n / 100)).length
    · have g2 : ¬ (amtF n)[0]? = some 48 := fun g => e4 ⟨g1, g⟩
      rw [dT g1, dF g2]; rfl
    · rw [dF g1]; rfl
  have hds : dsF (amtF n) = Lib.decDigits (n / 100) ++ twoF (n % 100) := by unfold dsF; rw [htl, hk, e2, e3]
  unfold mparF
  rw [if_pos hp, hds, t2, d2, hsg, if_pos (by omega)]
  congr 1
  omega
theorem dig_plain {c : UInt8} (h : dig c = true) : plainC c = true := by
  have := dig_iff.1 h
  unfold plainC
  exact dT ⟨by omega, by omega, by omega⟩
theorem up_plain {c : UInt8} (h : up c = true) : plainC c = true := by
  have : 65 ≤ c.toNat ∧ c.toNat ≤ 90 := of_decide_eq_true h
  unfold plainC
  exact dT ⟨by omega, by omega, by omega⟩
theorem amt_plain (n : Nat) : (amtF n).all plainC = true ∧ 4 ≤ (amtF n).length := by
  obtain ⟨d1, d2, d3, d4⟩ := dec_spec (n / 100 + 1) (n / 100) (by omega)
  obtain ⟨t1, t2⟩ := two_dig (n % 100) (by omega)
  have hlp : 1 ≤ (Lib.decDigits (n / 100)).length := by
    have := List.length_pos_iff.2 d3
    omega
  refine ⟨?_, by rw [amt_eq]; simp [twoF]; omega⟩
  rw [amt_eq, List.all_append, List.all_cons]
  have a1 : (Lib.decDigits (n / 100)).all plainC = true := List.all_eq_true.2 fun c hc => dig_plain (List.all_eq_true.1 d1 c hc)
  have a2 : (twoF (n % 100)).all plainC = true := List.all_eq_true.2 fun c hc => dig_plain (List.all_eq_true.1 t1 c hc)
  rw [a1, a2]
  decide
theorem amt_len (n : Nat) (h : n ≤ 1099511627776) : (amtF n).length ≤ 30 := by
  have := dec_len (n / 100) (by omega)
  rw [amt_eq]
  simp [twoF]
  omega
end Go.Proofs.YtkdbghhdklfoiaaDoor
