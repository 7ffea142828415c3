/- Two periods: whether they have a day in common (the reference's way). -/
import Derived.Test.YtiihkfjbllpiaaaGreatDoorQSchF
import Derived.Test.YtiihkfjbllpiaaaGreatDoorQSchI
namespace Go.Proofs.YtiihkfjbllpiaaaGreatDoor
open Go Go.AL
set_option linter.unusedSectionVars false
variable [Go.AL.Mode] [Go.AL.LooseM]
set_option linter.unusedSimpArgs false
set_option linter.unusedVariables false

set_option maxHeartbeats 4000000 in
theorem of_A (L : List Int) (hL : L.length ≤ 100000) (x : AL.Obj) (S : Store) : CallA Tryz.prog 146 [accV (S.length + 1) (L.map inR)] (S ++ x :: accT 3 1 (L.map inR)) fun r S' => ∃ a b c : Int, r = .tup [.agg [.int .i64 a, .int .i64 b, .int .i64 c], .bool (decide (L ≠ []))] ∧ S' = S ++ x :: accT 3 1 (L.map inR) := by
  refine CallA.withNeat Tryz.func146 c646 fun hn => ?_
  refine CallA.fin Tryz.func146 c646 (Nat.le_of_ble_eq_true rfl) fun σ hσ => ?_
  cases L with
  | nil =>
    simp only [List.map_nil, accV, accT] at hn hσ ⊢
    simp (disch := first | omega | (simp only [lenT]; omega)) only [a646, evSt, ↓evPre, ↓evPreW, evPost, evPostW, evR, evU, seval]
    refine ⟨_, S ++ [x], by have := hn.fgt [⟨0, some (.arr 38 3 [[.int .i64 0, .int .i64 0, .int .i64 0]])⟩]; rw [List.append_assoc] at this; exact this, .imm rfl, by simp, 0, 0, 0, by simp, rfl⟩
  | cons a L =>
    simp only [List.map_cons, accV, accT] at hn hσ ⊢
    simp only [List.length_cons] at hL
    obtain ⟨b, hb⟩ : ∃ b, (a :: L)[L.length]? = some b := ⟨_, List.getElem?_eq_getElem (by simp)⟩
    have hat : ∀ (k : Nat) (y : Int), (a :: L)[k]? = some y → ([.int .i64 a] :: L.map inR)[k]? = some [.int .i64 y] := fun k y h => by
      show ((a :: L).map inR)[k]? = _
      rw [List.getElem?_map, h]
      rfl
    have hb' := hat _ _ hb
    have hc1 : ((L.length + 1 : Nat) : Int) - 1 = (L.length : Nat) := by omega
    have hz : decide (((L.length + 1 : Nat) : Int) = 0) = false := decide_eq_false (by omega)
    simp (disch := first | omega | (simp only [lenT]; omega)) only [a646, hz, hc1, hb', inR, wrap_i64, List.length_cons, evSt, ↓evPre, ↓evPreW, evPost, evPostW, evR, evU, seval]
    have hfg : ∀ T, Fgt (S ++ ([x, ⟨L.length, some (.arr 3 1 ([.int .i64 a] :: L.map inR))⟩] ++ T)) (S ++ [x, ⟨L.length, some (.arr 3 1 ([.int .i64 a] :: L.map inR))⟩]) := fun T => by
      have := hn.fgt T
      rw [List.append_assoc] at this
      simpa [inR] using this
    refine loopA (ι := Nat × Int) (fun i => [(0, .msl (S.length + 1) L.length 0 (L.length + 1)), (2, .ptr (S.length + 2) 0 0 0), (4, .ptr (S.length + 3) 0 0 0), (5, .int .i64 (i.1 : Nat))])
      (fun i => S ++ [x, ⟨L.length, some (.arr 3 1 ([.int .i64 a] :: L.map inR))⟩, ⟨0, some (.arr 38 3 [[.int .i64 0, .int .i64 0, .int .i64 0]])⟩, ⟨0, some (.arr 38 3 [[.int .i64 a, .int .i64 b, .int .i64 i.2]])⟩]) (fun i => i.1 ≤ L.length + 1 ∧ 0 ≤ i.2 ∧ i.2 ≤ 128 * i.1) (fun i => L.length + 1 - i.1) (0, 0) ⟨Nat.zero_le _, by simp, by simp⟩ ?_ rfl ?_
    · simp only [↓evPre, ↓evPreW, evPost, evPostW, evR, evU, seval]
      try rfl
    rintro ⟨k, dv⟩ ⟨hk, hd0, hd1⟩
    simp only at hk hd0 hd1 ⊢
    cases hck : (a :: L)[k]? with
    | none =>
      have hge := List.getElem?_eq_none_iff.1 hck
      simp only [List.length_cons] at hge
      have hlt : ¬ ((k : Int) < ((L.length + 1 : Nat) : Int)) := by omega
      simp (disch := first | omega | (simp only [lenT]; omega)) only [dF hlt, evSt, ↓evPre, ↓evPreW, evPost, evPostW, evR, evU, seval]
      exact ⟨_, _, hfg [_, _], .imm rfl, by simp, a, b, dv, by simp, by simp [inR]⟩
    | some y =>
      have hlt' := (List.getElem?_eq_some_iff.1 hck).1
      simp only [List.length_cons] at hlt'
      have hlt : ((k : Int) < ((L.length + 1 : Nat) : Int)) := by omega
      have hk1 : (k : Int) + 1 = ((k + 1 : Nat) : Int) := by omega
      have hky := hat _ _ hck
      have hp := pow2_small (k := wday y) (Nat.le_of_lt (wday_lt y))
      have hne : ((2 : Int) ^ wday y) ≠ 0 := by omega
      have hq : 0 ≤ dv.tdiv (2 ^ wday y) ∧ dv.tdiv (2 ^ wday y) ≤ dv := by
        rw [Int.tdiv_eq_ediv_of_nonneg hd0]
        exact ⟨Int.ediv_nonneg hd0 (by omega), Int.ediv_le_self _ hd0⟩
      simp (disch := first | omega | (simp only [lenT]; omega)) only [dT hlt, hky, evSt, ↓evPre, ↓evPreW, evPost, evPostW, evR, evU, seval]
      refine exD.intro (bit_A y _) ?_
      cases hz2 : decide ((dv.tdiv (2 ^ wday y)).tmod 2 = 0)
      all_goals simp (disch := first | omega | (simp only [lenT]; omega)) only [hne, hz2, hky, ne_eq, not_false_eq_true, wrap_i64, hk1, evSt, ↓evPre, ↓evPreW, evPost, evPostW, evR, evU, seval]
      · exact ⟨(k + 1, dv), ⟨by simp only; omega, hd0, by simp only; omega⟩, by simp only; omega, rfl, rfl⟩
      · refine exD.intro (bit_A y _) ?_
        simp (disch := first | omega | (simp only [lenT]; omega)) only [wrap_i64, hk1, evSt, ↓evPre, ↓evPreW, evPost, evPostW, evR, evU, seval]
        exact ⟨(k + 1, dv + 2 ^ wday y), ⟨by simp only; omega, by simp only; omega, by simp only; omega⟩, by simp only; omega, rfl, rfl⟩

theorem meet_filter (a b : Pd) : meetF a b = decide ((daysF a).filter (hasF b) ≠ []) := by
  unfold meetF
  cases h : (daysF a).any (hasF b) with
  | true =>
    obtain ⟨d, h1, h2⟩ := List.any_eq_true.1 h
    exact (decide_eq_true (List.ne_nil_of_mem (List.mem_filter.2 ⟨h1, h2⟩))).symm
  | false =>
    rw [List.any_eq_false] at h
    refine (decide_eq_false fun g => g ?_).symm
    rw [List.filter_eq_nil_iff]
    exact h
theorem daysF_len (p : Pd) : (daysF p).length ≤ 800 := by
  by_cases hok : pdF p = 0
  · rw [daysF_eq hok]
    have := daysTo_len p (p.t - p.f + 1).toNat
    have := pd_ok hok
    omega
  · unfold daysF; rw [if_neg hok]; simp
theorem rmeet_A (p q : Pd) (S : Store) : CallA Tryz.prog 105 [.agg (pdR p), .agg (pdR q)] S fun r S' => ∃ a b c : Int, r = .tup [.agg [.int .i64 a, .int .i64 b, .int .i64 c], .bool (meetF p q)] ∧ S' = S := by
  refine CallA.withNeat Tryz.func105 c605 fun hn => ?_
  refine CallA.fin Tryz.func105 c605 (Nat.le_of_ble_eq_true rfl) fun σ hσ => ?_
  have hdy := fun S => rdays_A p S
  have hhs := fun d S => rhas_A q d S
  simp only [pdR] at hdy hhs
  have hdl := daysF_len p
  rw [meet_filter]
  simp (disch := first | omega | (simp only [lenT]; omega)) only [a605, pdR, evSt, ↓evPre, ↓evPreW, evPost, evPostW, evR, evU, seval]
  refine (hdy _).then ?_
  simp (disch := first | omega | (simp only [lenT]; omega)) only [evSt, ↓evPre, ↓evPreW, evPost, evPostW, evR, evU, seval]
  refine loopA (ι := Nat) (fun k => [(3, .cptr [.int .i64 q.f, .int .i64 q.t, .int .i64 q.d]), (4, .ptr S.length 0 0 0), (6, .sl 1 ((daysF p).map inR)), (7, accV (S.length + 1) ((((daysF p).take k).filter (hasF q)).map inR)), (8, .int .i64 (k : Nat))])
    (fun k => S ++ ⟨0, some (.arr 38 3 [[.int .i64 0, .int .i64 0, .int .i64 0]])⟩ :: accT 3 1 ((((daysF p).take k).filter (hasF q)).map inR)) (fun k => k ≤ (daysF p).length) (fun k => (daysF p).length - k) 0 (Nat.zero_le _) ?_ rfl ?_
  · simp only [↓evPre, ↓evPreW, evPost, evPostW, evR, evU, seval]
    try rfl
  intro k hk
  cases hc : (daysF p)[k]? with
  | none =>
    have hge := List.getElem?_eq_none_iff.1 hc
    have hlt : ¬ ((k : Int) < (daysF p).length) := by omega
    rw [List.take_of_length_le hge]
    have hfl : ((daysF p).filter (hasF q)).length ≤ 100000 := by have := List.length_filter_le (hasF q) (daysF p); omega
    simp (disch := first | omega | (simp only [lenT]; omega)) only [dF hlt, evSt, ↓evPre, ↓evPreW, evPost, evPostW, evR, evU, seval]
    refine (of_A ((daysF p).filter (hasF q)) hfl _ S).mono ?_
    rintro _ _ ⟨a, b, c, rfl, rfl⟩
    simp (disch := first | omega | (simp only [lenT]; omega)) only [evSt, ↓evPre, ↓evPreW, evPost, evPostW, evR, evU, seval]
    exact ⟨_, S, hn.fgt _, .imm rfl, Nat.le_refl _, a, b, c, rfl, rfl⟩
  | some d =>
    have hlt' := (List.getElem?_eq_some_iff.1 hc).1
    have hlt : ((k : Int) < (daysF p).length) := by omega
    have hk1 : (k : Int) + 1 = ((k + 1 : Nat) : Int) := by omega
    have hb0 : ((((daysF p).take k).filter (hasF q)).map inR).length < 100000000 := by
      have := List.length_filter_le (hasF q) ((daysF p).take k)
      simp only [List.length_map]
      simp only [List.length_take] at this
      omega
    have hst : ((daysF p).take (k + 1)).filter (hasF q) = ((daysF p).take k).filter (hasF q) ++ if hasF q d then [d] else [] := by
      rw [take_at hc, List.filter_append]
      congr 1
      simp only [List.filter_cons, List.filter_nil]
    simp (disch := first | omega | (simp only [lenT]; omega)) only [dT hlt, hc, inR, evSt, ↓evPre, ↓evPreW, evPost, evPostW, evR, evU, seval]
    refine (hhs d _).then ?_
    cases hb : hasF q d with
    | true =>
      rw [hb, if_pos rfl] at hst
      simp (disch := first | omega | (simp only [lenT]; omega)) only [hc, inR, app_acc1 rfl hb0, wrap_i64, hk1, evSt, ↓evPre, ↓evPreW, evPost, evPostW, evR, evU, seval]
      exact ⟨k + 1, by omega, by omega, ⟨by rw [hst, List.map_append]; rfl, rfl⟩, by rw [hst, List.map_append]; rfl⟩
    | false =>
      rw [hb] at hst
      simp only [Bool.false_eq_true, if_false, List.append_nil] at hst
      simp (disch := first | omega | (simp only [lenT]; omega)) only [hc, inR, wrap_i64, hk1, evSt, ↓evPre, ↓evPreW, evPost, evPostW, evR, evU, seval]
      exact ⟨k + 1, by omega, by omega, ⟨by rw [hst], rfl⟩, by rw [hst]⟩
/-- Two flights with one number and a day in common. -/
def meetsF (x y : Fl) : Bool := decide (x.c = y.c) && (decide (x.n = y.n) && meetF x.p y.p)
theorem rmeets_A (x y : Fl) (S : Store) : CallA Tryz.prog 52 [.agg (flR x), .agg (flR y)] S fun r S' => r = .bool (meetsF x y) ∧ S' = S := by
  refine CallA.withNeat Tryz.func52 c552 fun hn => ?_
  refine CallA.fin Tryz.func52 c552 (Nat.le_of_ble_eq_true rfl) fun σ hσ => ?_
  have hm := fun S => rmeet_A x.p y.p S
  simp only [pdR] at hm
  simp (disch := first | omega | (simp only [lenT]; omega)) only [a552, flR, evSt, ↓evPre, ↓evPreW, evPost, evPostW, evR, evU, seval]
  refine (hm _).mono ?_
  rintro _ S2 ⟨a, b, c, rfl, hS2⟩
  rw [hS2]
  unfold meetsF
  generalize meetF x.p y.p = m
  cases h1 : decide (x.c = y.c) <;> cases h2 : decide (x.n = y.n) <;> simp (disch := first | omega | (simp only [lenT]; omega)) only [h1, h2, flR, Bool.true_and, Bool.false_and, evSt, ↓evPre, ↓evPreW, evPost, evPostW, evR, evU, seval]
  all_goals exact ⟨_, S, hn.fgt _, .imm rfl, Nat.le_refl _, rfl, rfl⟩

/-! ### The timetable -/
def txFl : Txt := [102, 108, 105, 103, 104, 116, 32]
def ttErrs (p : Pls) (l : List Fl) (T : Int → Txt) : Nat → List Ft
  | 0 => []
  | k + 1 => ttErrs p l T k ++ match l[k]? with
    | some x => (flErr p x T).map (fun f => ⟨f.err, txFl ++ decB k ++ [32] ++ f.at_⟩) ++ if (l.take k).any (fun y => meetsF y x) then [⟨6, txFl ++ decB k⟩] else []
    | none => []
theorem dayErr_len (p : Pls) (x : Fl) (T : Int → Txt) : (dayErr p x T).length ≤ 1 := by
  unfold dayErr
  split <;> simp
theorem flErr_len (p : Pls) (x : Fl) (T : Int → Txt) : (flErr p x T).length ≤ 30 := by
  unfold flErr
  have h1 := hdErr_len x
  have h2 := legsErr_len p x.legs x.legs.length
  have h3 := dayErr_len p x T
  split
  · simp only [List.length_append, List.length_cons, List.length_nil]; omega
  · split
    · omega
    · simp only [List.length_append]; omega
theorem flErr_at (p : Pls) (x : Fl) {T : Int → Txt} (hT : ∀ d, (T d).length ≤ 100) : ∀ f ∈ flErr p x T, f.at_.length ≤ 200 := by
  have g1 : ∀ f ∈ hdErr x, f.at_.length ≤ 200 := fun f hf => by
    unfold hdErr hd2 hd1 at hf
    simp only [List.mem_append] at hf
    rcases hf with (hf | hf) | hf
    · split at hf
      · cases hf
      · rw [List.mem_singleton] at hf; subst hf; decide
    · split at hf
      · rw [List.mem_singleton] at hf; subst hf; decide
      · cases hf
    · split at hf
      · rw [List.mem_singleton] at hf; subst hf; exact Nat.le_of_ble_eq_true rfl
      · cases hf
  have g2 : ∀ k, ∀ f ∈ legsErr p x.legs k, f.at_.length ≤ 200 := by
    intro k
    induction k with
    | zero => intro f hf; cases hf
    | succ k ih =>
      intro f hf
      rw [legsErr, List.mem_append] at hf
      rcases hf with hf | hf
      · exact ih f hf
      · split at hf
        · obtain ⟨e, _, rfl⟩ := List.mem_map.1 hf
          have := decB_len k
          have h5 : txLeg.length = 4 := rfl
          simp only [List.length_append]
          omega
        · cases hf
  intro f hf
  unfold flErr at hf
  split at hf
  · rw [List.mem_append] at hf
    rcases hf with hf | hf
    · exact g1 f hf
    · rw [List.mem_singleton] at hf; subst hf; decide
  · split at hf
    · unfold dayErr at hf
      split at hf
      · rename_i d _
        rw [List.mem_singleton] at hf
        subst hf
        have := hT d
        have h5 : txDay.length = 4 := rfl
        simp only [List.length_append]
        omega
      · cases hf
    · rw [List.mem_append] at hf
      rcases hf with hf | hf
      · exact g1 f hf
      · exact g2 _ f hf
theorem ttErrs_len (p : Pls) (l : List Fl) (T : Int → Txt) : ∀ k, (ttErrs p l T k).length ≤ 31 * k
  | 0 => by simp [ttErrs]
  | k + 1 => by
    have h := ttErrs_len p l T k
    rw [ttErrs, List.length_append]
    cases hc : l[k]? with
    | none => simp only [List.length_nil]; omega
    | some x =>
      have := flErr_len p x T
      simp only [List.length_append, List.length_map]
      split <;> simp <;> omega
theorem ttErrs_ok {p : Pls} {l : List Fl} {T : Int → Txt} (h : ttErrs p l T l.length = []) : TtOk p l := by
  have all : ∀ k, k ≤ l.length → ttErrs p l T k = [] → ∀ i x, i < k → l[i]? = some x → flErr p x T = [] ∧ (l.take i).any (fun y => meetsF y x) = false := by
    intro k
    induction k with
    | zero => intro _ _ i x hi; omega
    | succ k ih =>
      intro hk he i x hi hx
      rw [ttErrs] at he
      obtain ⟨e1, e2⟩ := List.append_eq_nil_iff.1 he
      by_cases hik : i = k
      · subst hik
        rw [hx] at e2
        obtain ⟨e3, e4⟩ := List.append_eq_nil_iff.1 e2
        refine ⟨List.map_eq_nil_iff.1 e3, ?_⟩
        cases ha : (l.take i).any (fun y => meetsF y x) with
        | false => rfl
        | true => rw [ha] at e4; simp at e4
      · exact ih (by omega) e1 i x (by omega) hx
  have key := all l.length (Nat.le_refl _) h
  refine ⟨fun x hx => ?_, fun i j x y hij hx hy hc hn => ?_⟩
  · obtain ⟨i, hi⟩ := List.getElem?_of_mem hx
    exact flOk (key i x (List.getElem?_eq_some_iff.1 hi).1 hi).1
  · have h1 := (key j y (List.getElem?_eq_some_iff.1 hy).1 hy).2
    rw [List.any_eq_false] at h1
    have h2 := h1 x (List.mem_of_getElem? (i := i) (by rw [List.getElem?_take, if_pos hij]; exact hx))
    cases hm : meetF x.p y.p with
    | false => rfl
    | true => exact absurd (by unfold meetsF; rw [dT hc, dT hn, hm]; rfl) h2
end Go.Proofs.YtiihkfjbllpiaaaGreatDoor
