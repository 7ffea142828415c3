/- Schedule: numbers and texts compared, the order of a day's legs. -/
import Derived.Test.YtiihkfjbllpiaaaDoorSch6
import Derived.Test.YtiihkfjbllpiaaaDoorSSt4
import Derived.Test.YtiihkfjbllpiaaaDoorSm4
namespace Go.Proofs.YtiihkfjbllpiaaaDoor
open Go Go.AL
set_option linter.unusedSectionVars false
variable [Go.AL.Mode] [Go.AL.LooseM]
set_option linter.unusedSimpArgs false
set_option linter.unusedVariables false

theorem isNaN_A (n : Int) (S : Store) : CallA Tryd.prog 54 [.int .i64 n] S fun r S' => r = .bool false ∧ S' = S := by
  refine CallA.keep Tryd.func54 c609 (Nat.le_of_ble_eq_true rfl) fun σ hσ => ?_
  simp only [a609, ↓evPre, ↓evPreW, evPost, evPostW, evR, evU, seval]
theorem isNaNs_A (n : Txt) (S : Store) : CallA Tryd.prog 55 [.str n] S fun r S' => r = .bool false ∧ S' = S := by
  refine CallA.keep Tryd.func55 c610 (Nat.le_of_ble_eq_true rfl) fun σ hσ => ?_
  simp only [a610, ↓evPre, ↓evPreW, evPost, evPostW, evR, evU, seval]
def cmpF (a b : Int) : Int := if a < b then -1 else if b < a then 1 else 0
theorem compare_A (a b : Int) (S : Store) : CallA Tryd.prog 37 [.int .i64 a, .int .i64 b] S fun r S' => r = .int .i64 (cmpF a b) ∧ S' = S := by
  refine CallA.keep Tryd.func37 c560 (Nat.le_of_ble_eq_true rfl) fun σ hσ => ?_
  simp only [a560, ↓evPre, ↓evPreW, evPost, evPostW, evR, evU, seval]
  refine (isNaN_A a S).then ?_
  simp only [↓evPre, ↓evPreW, evPost, evPostW, evR, evU, seval]
  refine (isNaN_A b S).then ?_
  by_cases h1 : a < b
  · simp only [cmpF, h1, if_true, ↓evPre, ↓evPreW, evPost, evPostW, evR, evU, seval]
  by_cases h2 : b < a
  · simp only [cmpF, h1, h2, if_true, if_false, ↓evPre, ↓evPreW, evPost, evPostW, evR, evU, seval]
  simp only [cmpF, h1, h2, if_false, ↓evPre, ↓evPreW, evPost, evPostW, evR, evU, seval]

/-! ### Texts in order -/
theorem bl_irr : ∀ a : Txt, Op.bytesLess a a = false
  | [] => rfl
  | a :: x => by
    have := bl_irr x
    simp [Op.bytesLess, this]
theorem bl_asymm : ∀ a b : Txt, Op.bytesLess a b = true → Op.bytesLess b a = false
  | [], [] => fun h => by cases h
  | [], _ :: _ => fun _ => rfl
  | _ :: _, [] => fun h => by cases h
  | a :: x, b :: y => fun h => by
    have ih := bl_asymm x y
    simp only [Op.bytesLess, Bool.or_eq_true, decide_eq_true_eq, Bool.and_eq_true, beq_iff_eq] at h
    simp only [Op.bytesLess, Bool.or_eq_false_iff, decide_eq_false_iff_not, Bool.and_eq_false_iff]
    rcases h with h | ⟨rfl, h⟩
    · exact ⟨UInt8.not_lt.2 (UInt8.le_of_lt h), .inl (beq_false_of_ne (fun e => UInt8.lt_irrefl a (e ▸ h)))⟩
    · exact ⟨UInt8.lt_irrefl a, .inr (ih h)⟩
theorem bl_tri : ∀ a b : Txt, Op.bytesLess a b = false → Op.bytesLess b a = false → a = b
  | [], [] => fun _ _ => rfl
  | [], _ :: _ => fun h => by cases h
  | _ :: _, [] => fun _ h => by cases h
  | a :: x, b :: y => fun h1 h2 => by
    have ih := bl_tri x y
    simp only [Op.bytesLess, Bool.or_eq_false_iff, decide_eq_false_iff_not, Bool.and_eq_false_iff, UInt8.not_lt] at h1 h2
    obtain ⟨p1, p2⟩ := h1
    obtain ⟨q1, q2⟩ := h2
    have hab : a = b := UInt8.le_antisymm q1 p1
    subst hab
    rw [ih (by simpa using p2) (by simpa using q2)]
theorem bl_trans : ∀ a b c : Txt, Op.bytesLess a b = true → Op.bytesLess b c = true → Op.bytesLess a c = true
  | [], [], _ => fun h => by cases h
  | _ :: _, [], _ => fun h => by cases h
  | _, _ :: _, [] => fun _ h => by cases h
  | [], _ :: _, _ :: _ => fun _ _ => rfl
  | a :: x, b :: y, c :: z => fun h1 h2 => by
    have ih := bl_trans x y z
    simp only [Op.bytesLess, Bool.or_eq_true, decide_eq_true_eq, Bool.and_eq_true, beq_iff_eq] at h1 h2 ⊢
    rcases h1 with h1 | ⟨rfl, h1⟩
    · rcases h2 with h2 | ⟨rfl, h2⟩
      · exact .inl (UInt8.lt_trans h1 h2)
      · exact .inl h1
    · rcases h2 with h2 | ⟨rfl, h2⟩
      · exact .inl h2
      · exact .inr ⟨rfl, ih h1 h2⟩
def cmpS (a b : Txt) : Int := if Op.bytesLess a b = true then -1 else if Op.bytesLess b a = true then 1 else 0
theorem compareS_A (a b : Txt) (S : Store) : CallA Tryd.prog 38 [.str a, .str b] S fun r S' => r = .int .i64 (cmpS a b) ∧ S' = S := by
  refine CallA.keep Tryd.func38 c561 (Nat.le_of_ble_eq_true rfl) fun σ hσ => ?_
  simp only [a561, ↓evPre, ↓evPreW, evPost, evPostW, evR, evU, seval]
  refine (isNaNs_A a S).then ?_
  simp only [↓evPre, ↓evPreW, evPost, evPostW, evR, evU, seval]
  refine (isNaNs_A b S).then ?_
  cases h1 : Op.bytesLess a b with
  | true => simp only [cmpS, h1, if_true, ↓evPre, ↓evPreW, evPost, evPostW, evR, evU, seval]
  | false =>
    cases h2 : Op.bytesLess b a with
    | true =>
      have h3 : decide (a = b) = false := decide_eq_false (fun h => by rw [h, bl_irr] at h2; cases h2)
      simp only [cmpS, h1, h2, h3, if_true, Bool.false_eq_true, if_false, Bool.or_self, ↓evPre, ↓evPreW, evPost, evPostW, evR, evU, seval]
    | false =>
      have h3 : decide (a = b) = true := decide_eq_true (bl_tri a b h1 h2)
      simp only [cmpS, h1, h2, h3, Bool.false_eq_true, if_false, Bool.or_true, ↓evPre, ↓evPreW, evPost, evPostW, evR, evU, seval]
theorem or3_A (a b c : Int) (S : Store) : CallA Tryd.prog 36 [.sl 1 [[.int .i64 a], [.int .i64 b], [.int .i64 c]]] S fun r S' => r = .int .i64 (if a ≠ 0 then a else if b ≠ 0 then b else c) ∧ S' = S := by
  refine CallA.keep Tryd.func36 c559 (Nat.le_of_ble_eq_true rfl) fun σ hσ => ?_
  simp only [a559, ↓evPre, ↓evPreW, evPost, evPostW, evR, evU, seval]
  refine loopA (ι := Nat) (fun k => [(3, .int .i64 0), (6, .sl 1 [[.int .i64 a], [.int .i64 b], [.int .i64 c]]), (7, .int .i64 3), (8, .int .i64 k)]) (fun _ => S) (fun k => k ≤ 3 ∧ (0 < k → a = 0) ∧ (1 < k → b = 0) ∧ (2 < k → c = 0)) (fun k => 3 - k) 0 ⟨by omega, fun h => by omega, fun h => by omega, fun h => by omega⟩ ?_ rfl ?_
  · simp only [↓evPre, ↓evPreW, evPost, evPostW, evR, evU, seval]
    try rfl
  · rintro k ⟨hk, h1, h2, h3⟩
    match k, hk, h1, h2, h3 with
    | 0, hk, h1, h2, h3 =>
      simp (disch := first | omega | (simp only [lenT]; omega)) only [wrap_i64, ↓evPre, ↓evPreW, evPost, evPostW, evR, evU, seval]
      exact ⟨fun h => by rw [if_pos h], fun h => ⟨1, ⟨by omega, fun _ => Decidable.not_not.1 h, fun h => by omega, fun h => by omega⟩, by omega, rfl⟩⟩
    | 1, hk, h1, h2, h3 =>
      simp (disch := first | omega | (simp only [lenT]; omega)) only [wrap_i64, ↓evPre, ↓evPreW, evPost, evPostW, evR, evU, seval]
      have h0 : ¬ a ≠ 0 := fun h => h (h1 (by omega))
      exact ⟨fun h => by rw [if_neg h0, if_pos h], fun h => ⟨2, ⟨by omega, fun _ => h1 (by omega), fun _ => Decidable.not_not.1 h, fun h => by omega⟩, by omega, rfl⟩⟩
    | 2, hk, h1, h2, h3 =>
      simp (disch := first | omega | (simp only [lenT]; omega)) only [wrap_i64, ↓evPre, ↓evPreW, evPost, evPostW, evR, evU, seval]
      have h0 : ¬ a ≠ 0 := fun h => h (h1 (by omega))
      have h00 : ¬ b ≠ 0 := fun h => h (h2 (by omega))
      exact ⟨fun h => by rw [if_neg h0, if_neg h00], fun h => ⟨3, ⟨by omega, fun _ => h1 (by omega), fun _ => h2 (by omega), fun _ => Decidable.not_not.1 h⟩, by omega, rfl⟩⟩
    | 3, hk, h1, h2, h3 =>
      have h33 : ¬ ((3 : Nat) : Int) < 3 := by omega
      have h0 : ¬ a ≠ 0 := fun h => h (h1 (by omega))
      have h00 : ¬ b ≠ 0 := fun h => h (h2 (by omega))
      simp (disch := first | omega | (simp only [lenT]; omega)) only [wrap_i64, h33, decide_false, ↓evPre, ↓evPreW, evPost, evPostW, evR, evU, seval]
      rw [if_neg h0, if_neg h00, h3 (by omega)]
/-- One leg before another one. -/
def ltD (a b : Dt) : Bool := if a.dep = b.dep then (if a.c = b.c then decide (a.n < b.n) else Op.bytesLess a.c b.c) else decide (a.dep < b.dep)
theorem ltD_asymm {a b : Dt} (h : ltD a b = true) : ltD b a = false := by
  unfold ltD at *
  by_cases h1 : a.dep = b.dep
  · rw [if_pos h1] at h
    rw [if_pos h1.symm]
    by_cases h2 : a.c = b.c
    · rw [if_pos h2] at h
      rw [if_pos h2.symm]
      have := of_decide_eq_true h
      exact decide_eq_false (by omega)
    · rw [if_neg h2] at h
      rw [if_neg (fun h => h2 h.symm)]
      exact bl_asymm _ _ h
  · rw [if_neg h1] at h
    rw [if_neg (fun h => h1 h.symm)]
    have := of_decide_eq_true h
    exact decide_eq_false (by omega)
theorem ltD_tri {a b : Dt} (h1 : ltD a b = false) (h2 : ltD b a = false) : a.dep = b.dep ∧ a.c = b.c ∧ a.n = b.n := by
  unfold ltD at *
  by_cases e1 : a.dep = b.dep
  · rw [if_pos e1] at h1
    rw [if_pos e1.symm] at h2
    by_cases e2 : a.c = b.c
    · rw [if_pos e2] at h1
      rw [if_pos e2.symm] at h2
      have g1 := of_decide_eq_false h1
      have g2 := of_decide_eq_false h2
      exact ⟨e1, e2, by omega⟩
    · rw [if_neg e2] at h1
      rw [if_neg (fun h => e2 h.symm)] at h2
      exact absurd (bl_tri _ _ h1 h2) e2
  · rw [if_neg e1] at h1
    rw [if_neg (fun h => e1 h.symm)] at h2
    have g1 := of_decide_eq_false h1
    have g2 := of_decide_eq_false h2
    omega
theorem ltD_lt {a b c : Dt} (h1 : ltD a b = true) (h2 : ltD b c = true) : ltD a c = true := by
  unfold ltD at *
  by_cases e1 : a.dep = b.dep
  · rw [if_pos e1] at h1
    by_cases e2 : b.dep = c.dep
    · rw [if_pos e2] at h2
      rw [if_pos (e1.trans e2)]
      by_cases e3 : a.c = b.c
      · rw [if_pos e3] at h1
        have g1 := of_decide_eq_true h1
        by_cases e4 : b.c = c.c
        · rw [if_pos e4] at h2
          rw [if_pos (e3.trans e4)]
          have g2 := of_decide_eq_true h2
          exact decide_eq_true (by omega)
        · rw [if_neg e4] at h2
          rw [if_neg (fun h => e4 (e3.symm.trans h)), e3]
          exact h2
      · rw [if_neg e3] at h1
        by_cases e4 : b.c = c.c
        · rw [if_pos e4] at h2
          rw [if_neg (fun h => e3 (h.trans e4.symm)), ← e4]
          exact h1
        · rw [if_neg e4] at h2
          have g := bl_trans _ _ _ h1 h2
          rw [if_neg (fun h => by rw [h, bl_irr] at g; cases g)]
          exact g
    · rw [if_neg e2] at h2
      rw [if_neg (fun h => e2 (e1.symm.trans h)), e1]
      exact h2
  · rw [if_neg e1] at h1
    have g1 := of_decide_eq_true h1
    by_cases e2 : b.dep = c.dep
    · rw [if_neg (fun h => e1 (h.trans e2.symm)), ← e2]
      exact h1
    · rw [if_neg e2] at h2
      have g2 := of_decide_eq_true h2
      rw [if_neg (by omega)]
      exact decide_eq_true (by omega)
theorem ltD_trans {x y z : Dt} (h1 : ltD y x = false) (h2 : ltD z y = false) : ltD z x = false := by
  cases h : ltD z x with
  | false => rfl
  | true =>
    cases g : ltD y z with
    | true => rw [ltD_lt g h] at h1; cases h1
    | false =>
      obtain ⟨e1, e2, e3⟩ := ltD_tri g h2
      have : ltD y x = ltD z x := by unfold ltD; rw [e1, e2, e3]
      rw [this, h] at h1
      cases h1
def hdS (v : Option V) : Txt := match v with
  | some (.str s) => s
  | _ => []
def hdI (v : Option V) : Int := match v with
  | some (.int _ n) => n
  | _ => 0
def dtO (r : List V) : Dt := ⟨hdS r[0]?, hdI r[1]?, hdI r[2]?, hdS r[3]?, hdS r[4]?, hdI r[5]?, hdI r[6]?, hdS r[7]?⟩
theorem dtO_R (x : Dt) : dtO (dtR x) = x := rfl
def okD (r : List V) : Prop := ∃ x : Dt, r = dtR x
def ltRow (x y : List V) : Bool := ltD (dtO x) (dtO y)
theorem dayCmp_A (x y : Dt) (S : Store) : CallA Tryd.prog 35 [.agg (dtR x), .agg (dtR y)] S fun r S' => (∃ n : Int, r = .int .i64 n ∧ (n < 0 ↔ ltD x y = true)) ∧ S' = S := by
  refine CallA.withNeat Tryd.func35 c558 fun hn => ?_
  refine CallA.fin Tryd.func35 c558 (Nat.le_of_ble_eq_true rfl) fun σ hσ => ?_
  simp (disch := first | omega | (simp only [lenT]; omega)) only [a558, dtR, evSt, ↓evPre, ↓evPreW, evPost, evPostW, evR, evU, seval]
  refine exD.intro (compare_A x.dep y.dep _) ?_
  simp (disch := first | omega | (simp only [lenT]; omega)) only [evSt, ↓evPre, ↓evPreW, evPost, evPostW, evR, evU, seval]
  refine exD.intro (compareS_A x.c y.c _) ?_
  simp (disch := first | omega | (simp only [lenT]; omega)) only [evSt, ↓evPre, ↓evPreW, evPost, evPostW, evR, evU, seval]
  refine (compare_A x.n y.n _).then ?_
  simp (disch := first | omega | (simp only [lenT]; omega)) only [evSt, ↓evPre, ↓evPreW, evPost, evPostW, evR, evU, seval]
  refine (or3_A _ _ _ _).then ?_
  simp (disch := first | omega | (simp only [lenT]; omega)) only [evSt, ↓evPre, ↓evPreW, evPost, evPostW, evR, evU, seval]
  refine ⟨_, S, hn.self, .imm rfl, Nat.le_refl _, ⟨_, rfl, ?_⟩, rfl⟩
  unfold ltD cmpF cmpS
  by_cases h1 : x.dep < y.dep
  · have h2 : ¬ x.dep = y.dep := by omega
    simp [h1, h2]
  by_cases h3 : y.dep < x.dep
  · have h2 : ¬ x.dep = y.dep := by omega
    simp [h1, h2, h3]
  have h2 : x.dep = y.dep := by omega
  by_cases h4 : x.c = y.c
  · have h5 := bl_irr y.c
    by_cases h6 : x.n < y.n
    · simp [h2, h4, h5, h6]
    · by_cases h7 : y.n < x.n
      · simp [h2, h4, h5, h6, h7]
      · simp [h2, h4, h5, h6, h7]
  · cases h5 : Op.bytesLess x.c y.c with
    | true => simp [h2, h4, h5]
    | false =>
      cases h6 : Op.bytesLess y.c x.c with
      | true => simp [h2, h4, h5, h6]
      | false => exact absurd (bl_tri _ _ h5 h6) h4
theorem dayCmps : Cmps 35 [] [] okD ltRow (fun _ _ => True) := by
  rintro _ _ S ⟨x, rfl⟩ ⟨y, rfl⟩ _
  exact dayCmp_A x y S
theorem dayOrds : Ords okD ltRow where
  asymm := by
    rintro _ _ ⟨x, rfl⟩ ⟨y, rfl⟩ h
    exact ltD_asymm h
  trans := by
    rintro _ _ _ ⟨x, rfl⟩ ⟨y, rfl⟩ ⟨z, rfl⟩ h1 h2
    exact ltD_trans h1 h2
def SrtD (L : List Dt) : Prop := L.Pairwise fun a b => ltD b a = false
theorem okD_all {M : List (List V)} (h : ∀ r ∈ M, okD r) : M = (M.map dtO).map dtR := by
  induction M with
  | nil => rfl
  | cons r M ih =>
    obtain ⟨x, rfl⟩ := h r (.head _)
    rw [List.map_cons, List.map_cons, dtO_R, ← ih fun r hr => h r (.tail _ hr)]
theorem sortDt_A (L : List Dt) (S : Store) (v : Nat) (hl : L.length ≤ 1000000) : CallA Tryd.prog 34 [.msl S.length v 0 L.length, .func 35 [] []] (S ++ [⟨v, some (.arr 60 8 (L.map dtR))⟩]) fun r S' => r = .tup [] ∧ ∃ M : List Dt, M.Perm L ∧ SrtD M ∧ S' = S ++ [⟨v, some (.arr 60 8 (M.map dtR))⟩] := by
  refine CallA.keep Tryd.func34 c557 (Nat.le_of_ble_eq_true rfl) fun σ hσ => ?_
  simp (disch := first | omega | (simp only [lenT]; omega)) only [a557, evSt, ↓evPre, ↓evPreW, evPost, evPostW, evR, evU, seval]
  have h1 : ∀ rows' : List (List V), rset (S ++ [⟨v, some (.arr 60 8 (L.map dtR))⟩]) S.length v rows' = S ++ [⟨v, some (.arr 60 8 rows')⟩] := fun rows' => by simp [rset]
  have hokL : ∀ r ∈ L.map dtR, okD r := fun r hr => by obtain ⟨x, _, rfl⟩ := List.mem_map.1 hr; exact ⟨x, rfl⟩
  have := stable_A dayCmps dayOrds (L.map dtR) (S ++ [⟨v, some (.arr 60 8 (L.map dtR))⟩]) S.length v L.length (by simp) (fun r hr => by obtain ⟨x, rfl⟩ := hr; exact ⟨rfl, rfl⟩) hokL (by simp) (by omega) (List.pairwise_of_forall fun _ _ => trivial)
  rw [h1] at this
  refine this.mono ?_
  rintro r S' ⟨rfl, M', h2, h3, rfl⟩
  have hM := okD_all (M := M') fun r hr => hokL r (h2.mem_iff.1 hr)
  have hp : (M'.map dtO).Perm L := by
    have := h2.map dtO
    rwa [List.map_map, show (dtO ∘ dtR) = id from funext dtO_R, List.map_id] at this
  simp only [h1, ↓evPre, ↓evPreW, evPost, evPostW, evR, evU, seval]
  refine ⟨M'.map dtO, hp, List.pairwise_map.2 (h3.imp fun h => h), ?_⟩
  rw [← hM]
end Go.Proofs.YtiihkfjbllpiaaaDoor
/- Schedule: the legs of a day. -/
namespace Go.Proofs.YtiihkfjbllpiaaaDoor
open Go Go.AL
set_option linter.unusedSectionVars false
variable [Go.AL.Mode] [Go.AL.LooseM]
set_option linter.unusedSimpArgs false
set_option linter.unusedVariables false

/-! ### Timetables without violations: legs in order -/
/-- A timetable without violations, whose legs follow each other on each day. -/
structure TtD (p : Pls) (l : List Fl) : Prop where
  ok : TtOk p l
  ord : ∀ x ∈ l, ∀ d, hasF x.p d = true → ordL none (legsF p x d) = true
/-! ### All legs of a day -/
def allL (p : Pls) (l : List Fl) (day : Int) : List Dt := l.flatMap fun x => (legsD p x day).1
def DayS (p : Pls) (l : List Fl) (day : Int) (L : List Dt) : Prop := SrtD L ∧ L.Perm (allL p l day)
theorem allL_step (p : Pls) {l : List Fl} (day : Int) {k : Nat} {x : Fl} (h : l[k]? = some x) : allL p (l.take (k + 1)) day = allL p (l.take k) day ++ (legsD p x day).1 := by
  unfold allL
  rw [take_at h, List.flatMap_append]
  simp
theorem legsD_len (p : Pls) (x : Fl) (day : Int) : (legsD p x day).1.length ≤ x.legs.length := by
  unfold legsD
  split <;> simp [legsF]
theorem allL_len (p : Pls) {l : List Fl} (hl : FOk l) (day : Int) : ∀ k, (allL p (l.take k) day).length ≤ 300 * k
  | 0 => by simp [allL]
  | k + 1 => by
    have ih := allL_len p hl day k
    cases hc : l[k]? with
    | none =>
      rw [List.take_of_length_le (by have := List.getElem?_eq_none_iff.1 hc; omega)]
      rw [List.take_of_length_le (by have := List.getElem?_eq_none_iff.1 hc; omega)] at ih
      omega
    | some x =>
      have h1 := legsD_len p x day
      have h2 := hl.h2 x (List.mem_of_getElem? hc)
      rw [allL_step p day hc, List.length_append]
      omega
/-! ### schedule.Day -/
set_option maxHeartbeats 4000000 in
theorem day_A (p : Pls) (hp : POk p) (l : List Fl) (hl : FOk l) (day : Int) (S : Store) : CallA Tryd.prog 16 [plV p, .sl 6 (l.map flR), .int .i64 day] S fun r S' => ∃ L : List Dt, r = .sl 8 (L.map dtR) ∧ DayS p l day L ∧ S' = S := by
  refine CallA.withNeat Tryd.func16 c517 fun hn => ?_
  refine (CallA.fin Tryd.func16 c517 (R := fun r S' => (∃ L : List Dt, r = .sl 8 (L.map dtR) ∧ DayS p l day L) ∧ S' = S) (Nat.le_of_ble_eq_true rfl) fun σ hσ => ?_).mono fun r S' ⟨⟨L, h1, h2⟩, h3⟩ => ⟨L, h1, h2, h3⟩
  have hl1 := hl.h1
  simp (disch := first | omega | (simp only [lenT]; omega)) only [a517, plV, evSt, ↓evPre, ↓evPreW, evPost, evPostW, evR, evU, seval]
  refine LoopA.ghost 7 0 60 8 rfl ?_
  refine loopF (ι := Nat × Nat) (fun i => [(1, .sl 6 (l.map flR)), (2, .int .i64 day), (3, .cptr [.sl 5 (p.1.map aptR), .sl 3 (p.2.map dstR)]), (7, .msl S.length i.2 0 (allL p (l.take i.1) day).length), (12, .sl 6 (l.map flR)), (13, .int .i64 l.length), (14, .int .i64 (i.1 : Nat))])
    (fun i => S ++ [⟨i.2, some (.arr 60 8 ((allL p (l.take i.1) day).map dtR))⟩]) (fun i => i.1 ≤ l.length) (fun i => l.length - i.1) (fun i hi => by rw [hσ]; simp) (0, 0) (Nat.zero_le _) (.inl ⟨?_, ?_⟩) ?_
  · simp [allL, sub, Env.get]
  · simp [allL]
  rintro ⟨k, v⟩ hk
  simp only at hk ⊢
  have hal := allL_len p hl day k
  cases hc : l[k]? with
  | none =>
    have hge := List.getElem?_eq_none_iff.1 hc
    have hlt : ¬ ((k : Int) < l.length) := by omega
    rw [List.take_of_length_le hge] at hal ⊢
    simp (disch := first | omega | (simp only [lenT]; omega)) only [dF hlt, evSt, ↓evPre, ↓evPreW, evPost, evPostW, evR, evU, seval]
    refine (sortDt_A (allL p l day) S v (by omega)).mono ?_
    rintro _ S2 ⟨rfl, M, hp1, hs1, hS2⟩
    rw [hS2]
    simp (disch := first | omega | (simp only [lenT]; omega)) only [evSt, ↓evPre, ↓evPreW, evPost, evPostW, evR, evU, seval]
    exact ⟨_, S, hn.fgt _, .sl (t := 60) (Nat.le_refl _) (by rw [ob_app0, ob_head]) (by simp [hp1.length_eq]) (dtR_imm M), Nat.le_refl _, ⟨M, rfl, hs1, hp1⟩, rfl⟩
  | some x =>
    have hlt' := (List.getElem?_eq_some_iff.1 hc).1
    have hlt : ((k : Int) < l.length) := by omega
    have hk1 : (k : Int) + 1 = ((k + 1 : Nat) : Int) := by omega
    have hst := allL_step p day hc
    have hxl := hl.h2 x (List.mem_of_getElem? hc)
    have hll := legsD_len p x day
    have hh := fun S => has_A x.p day S
    have hg := fun S => legs_A p hp x day (by omega) S
    have him := dtR_imm (allL p (l.take (k + 1)) day)
    simp only [pdR] at hh
    simp only [plV, flR] at hg
    simp (disch := first | omega | (simp only [lenT]; omega)) only [dT hlt, hc, flR, evSt, ↓evPre, ↓evPreW, evPost, evPostW, evR, evU, seval]
    refine (hh _).then ?_
    cases hd : hasF x.p day with
    | false =>
      have h0 : (legsD p x day).1 = [] := by simp [legsD, hd]
      rw [h0, List.append_nil] at hst
      rw [← hst]
      simp (disch := first | omega | (simp only [lenT]; omega)) only [wrap_i64, hk1, evSt, ↓evPre, ↓evPreW, evPost, evPostW, evR, evU, seval]
      refine ⟨(k + 1, v), by simp only; omega, by simp only; omega, back_under ?_ ?_ (by simp [V.under, V.allUnder])⟩
      · exact hn.fgtL (L := [_, _]) (L1 := [_]) ⟨rfl, ⟨_, rfl, .imm him⟩, trivial⟩
      · simp only [↓evPre, ↓evPreW, evPost, evPostW, evR, evU, seval]
        try rfl
    | true =>
      simp (disch := first | omega | (simp only [lenT]; omega)) only [flR, evSt, ↓evPre, ↓evPreW, evPost, evPostW, evR, evU, seval]
      refine (hg _).then ?_
      have hle : (allL p (l.take k) day).length + (legsD p x day).1.length = (allL p (l.take (k + 1)) day).length := by rw [hst, List.length_append]
      have hap : (allL p (l.take k) day).map dtR ++ (legsD p x day).1.map dtR = (allL p (l.take (k + 1)) day).map dtR := by rw [hst, List.map_append]
      simp (disch := first | omega | (simp only [lenT]; omega)) only [wrap_i64, hk1, hle, hap, evSt, ↓evPre, ↓evPreW, evPost, evPostW, evR, evU, seval]
      refine ⟨by unfold roomA; omega, (k + 1, v + 1), by simp only; omega, by simp only; omega, back_under ?_ ?_ (by simp [V.under, V.allUnder])⟩
      · exact hn.fgtL (L := [_, _]) (L1 := [_]) ⟨rfl, ⟨_, rfl, .imm him⟩, trivial⟩
      · simp only [↓evPre, ↓evPreW, evPost, evPostW, evR, evU, seval]
        try rfl

/-! ### The reference's Day -/
end Go.Proofs.YtiihkfjbllpiaaaDoor
/- Schedule: the reference's day; flights found, found or not. -/
namespace Go.Proofs.YtiihkfjbllpiaaaDoor
open Go Go.AL
set_option linter.unusedSectionVars false
variable [Go.AL.Mode] [Go.AL.LooseM]
set_option linter.unusedSimpArgs false
set_option linter.unusedVariables false

/-- A flight found, or none. -/
def z0 : Fl := ⟨[], 0, ⟨0, 0, 0⟩, []⟩
def onV (o : Option Fl) : V := .tup [.agg (flR (o.getD z0)), .bool o.isSome]
theorem onR_wk (o : Option Fl) : Wk (onR o) (onV o) := by
  cases o with
  | none => exact Wk.tupL ⟨Wk.aggL ⟨.refl _, .refl _, .refl _, .refl _, .refl _, .nil 5, trivial⟩, .refl _, trivial⟩
  | some x => exact .refl _
theorem onW_A (l : List Fl) (c : Txt) (n day : Int) (hl : l.length ≤ 1000000) (S : Store) : CallA Tryd.prog 8 [.sl 6 (l.map flR), .str c, .int .i64 n, .int .i64 day] S fun r S' => r = onV (onL l c n day) ∧ S' = S :=
  (onC_A l c n day hl S).wkR fun r S' ⟨h1, h2⟩ => ⟨_, by rw [h1]; exact onR_wk _, rfl, h2⟩
theorem ronW_A (l : List Fl) (c : Txt) (n day : Int) (hl : l.length ≤ 1000000) (S : Store) : CallA Tryd.prog 9 [.sl 6 (l.map flR), .str c, .int .i64 n, .int .i64 day] S fun r S' => r = onV (onL l c n day) ∧ S' = S :=
  (ron_A l c n day hl S).wkR fun r S' ⟨h1, h2⟩ => ⟨_, by rw [h1]; exact onR_wk _, rfl, h2⟩
theorem onL_legs {l : List Fl} (hl : FOk l) (c : Txt) (n day : Int) : ((onL l c n day).getD z0).legs.length ≤ 300 := by
  cases h : onL l c n day with
  | none => simp [z0]
  | some x => exact hl.h2 x (onL_mem h)
end Go.Proofs.YtiihkfjbllpiaaaDoor
