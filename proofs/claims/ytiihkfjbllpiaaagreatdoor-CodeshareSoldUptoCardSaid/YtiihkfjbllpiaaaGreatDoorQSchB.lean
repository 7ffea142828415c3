/- Shares: what is wrong on the days of a share. -/
import Derived.Test.YtiihkfjbllpiaaaGreatDoorQSchZ
namespace Go.Proofs.YtiihkfjbllpiaaaGreatDoor
open Go Go.AL
set_option linter.unusedSectionVars false
variable [Go.AL.Mode] [Go.AL.LooseM]
set_option linter.unusedSimpArgs false
set_option linter.unusedVariables false

def nD (l : List Fl) (x : Sr) (d : Int) : Bool := (onL l x.oc x.oas d).isNone
def lD (l : List Fl) (x : Sr) (d : Int) : Bool := match onL l x.oc x.oas d with
  | some g => !stopsF g x.f x.t
  | none => false
def eD (x y : Sr) (d : Int) : Bool := decide (y.c = x.c) && (decide (y.n = x.n) && hasF y.p d)
def tD (l : List Fl) (e : List Sr) (x : Sr) (d : Int) : Bool := (onL l x.c x.n d).isSome || e.any fun y => eD x y d
theorem noneF_eq (l : List Fl) (x : Sr) : noneF l x = (daysF x.p).any (nD l x) := rfl
theorem legF_eq (l : List Fl) (x : Sr) : legF l x = (daysF x.p).any (lD l x) := rfl
theorem twiceF_eq (l : List Fl) (e : List Sr) (x : Sr) : twiceF l e x = (daysF x.p).any (tD l e x) := rfl
def dayE (l : List Fl) (e : List Sr) (x : Sr) : List Int := (if noneF l x then [7] else []) ++ ((if legF l x then [15] else []) ++ (if twiceF l e x then [6] else []))
theorem anyT {α : Type} {l : List α} {k : Nat} {x : α} {q : α → Bool} (h : l[k]? = some x) : (l.take (k + 1)).any q = ((l.take k).any q || q x) := by rw [take_at h, List.any_append]; simp
theorem on_form (o : Option Fl) : ∃ c n f t d lv, onR o = .tup [.agg [.str c, .int .i64 n, .int .i64 f, .int .i64 t, .int .i64 d, lv], .bool o.isSome] ∧ lv.isImm = true ∧ lv.cellOk = true ∧ ∀ g, o = some g → flR g = [.str c, .int .i64 n, .int .i64 f, .int .i64 t, .int .i64 d, lv] := by
  cases o with
  | none => exact ⟨[], 0, 0, 0, 0, .nilSl, rfl, rfl, rfl, fun g h => by cases h⟩
  | some g => exact ⟨g.c, g.n, g.p.f, g.p.t, g.p.d, .sl 5 (g.legs.map lgR), rfl, rfl, rfl, fun g' h => by cases h; rfl⟩
theorem day1_A (x y : Sr) (d : Int) (S : Store) : CallA Tryz.prog 119 [.agg (srR y), .cptr (srR x), .cptr [.int .i64 d]] S fun r S' => r = .bool (eD x y d) ∧ S' = S := by
  refine CallA.keep Tryz.func119 c619 (Nat.le_of_ble_eq_true rfl) fun σ hσ => ?_
  have hh := fun S => has_A y.p d S
  simp only [pdR] at hh
  unfold eD
  cases h1 : decide (y.c = x.c) <;> cases h2 : decide (y.n = x.n) <;> simp (disch := first | omega | (simp only [lenT]; omega)) only [a619, srR, h1, h2, Bool.true_and, Bool.false_and, evSt, ↓evPre, ↓evPreW, evPost, evPostW, evR, evU, seval]
  refine (hh _).then ?_
  simp (disch := first | omega | (simp only [lenT]; omega)) only [evSt, ↓evPre, ↓evPreW, evPost, evPostW, evR, evU, seval]
set_option maxHeartbeats 8000000 in
set_option maxRecDepth 10000 in
theorem cdays_A (l : List Fl) (hl : FOk l) (e : List Sr) (he : e.length ≤ 1000) (x : Sr) (S : Store) : CallA Tryz.prog 77 [.sl 6 (l.map flR), .sl 9 (e.map srR), .agg (srR x)] S fun r S' => r = .sl 1 ((dayE l e x).map inR) ∧ S' = S := by
  refine CallA.withNeat Tryz.func77 c577 fun hn => ?_
  refine CallA.fin Tryz.func77 c577 (Nat.le_of_ble_eq_true rfl) fun σ hσ => ?_
  have hdy := fun S => days_A x.p S
  simp only [pdR] at hdy
  have hl1 := hl.h1
  have hdl := daysF_len x.p
  have r1 : (1 ≤ roomA) = True := by simp [roomA]
  have r2 : (2 ≤ roomA) = True := by simp [roomA]
  have r3 : (3 ≤ roomA) = True := by simp [roomA]
  simp (disch := first | omega | (simp only [lenT]; omega)) only [a577, srR, evSt, ↓evPre, ↓evPreW, evPost, evPostW, evR, evU, seval]
  refine (hdy _).then ?_
  simp (disch := first | omega | (simp only [lenT]; omega)) only [evSt, ↓evPre, ↓evPreW, evPost, evPostW, evR, evU, seval]
  refine loopF (ι := Nat) (fun k => [(0, .sl 6 (l.map flR)), (1, .sl 9 (e.map srR)), (5, .cptr (srR x)), (7, .bool (((daysF x.p).take k).any (nD l x))), (8, .bool (((daysF x.p).take k).any (lD l x))), (9, .bool (((daysF x.p).take k).any (tD l e x))), (19, .sl 1 ((daysF x.p).map inR)), (20, .int .i64 (daysF x.p).length), (21, .int .i64 (k : Nat))]) (fun _ => S) (fun k => k ≤ (daysF x.p).length) (fun k => (daysF x.p).length - k) (fun i hi => by rw [hσ]; exact Nat.le_refl _) 0 (Nat.zero_le _) (.inl ⟨?_, rfl⟩) ?_
  · simp only [srR, List.any_nil, ↓evPre, ↓evPreW, evPost, evPostW, evR, evU, seval]
    try rfl
  intro k hk
  cases hc : (daysF x.p)[k]? with
  | none =>
    have hge := List.getElem?_eq_none_iff.1 hc
    have hlt : ¬ ((k : Int) < (daysF x.p).length) := by omega
    rw [List.take_of_length_le hge, ← noneF_eq, ← legF_eq, ← twiceF_eq]
    unfold dayE
    cases b1 : noneF l x <;> cases b2 : legF l x <;> cases b3 : twiceF l e x <;> simp (disch := first | omega | (simp only [lenT]; omega)) only [srR, dF hlt, r1, r2, r3, true_and, evSt, ↓evPre, ↓evPreW, evPost, evPostW, evR, evU, seval]
    all_goals first
      | exact ⟨_, S, hn.self, .nil, Nat.le_refl _, rfl, rfl⟩
      | exact ⟨_, S, hn.fgt _, .sl (t := 34) (Nat.le_refl _) (by rw [ob_app0, ob_head]; rfl) rfl (by simp [inR, V.allImm, V.isImm]), Nat.le_refl _, rfl, rfl⟩
  | some d =>
    have hlt' := (List.getElem?_eq_some_iff.1 hc).1
    have hlt : ((k : Int) < (daysF x.p).length) := by omega
    have hk1 : (k : Int) + 1 = ((k + 1 : Nat) : Int) := by omega
    have n1 := anyT (q := nD l x) hc
    have n2 := anyT (q := lD l x) hc
    have n3 := anyT (q := tD l e x) hc
    have ho1 := fun S => onC_A l x.oc x.oas d (by omega) S
    have ho2 := fun S => onC_A l x.c x.n d (by omega) S
    obtain ⟨c1, m1, f1, t1, w1, v1, e1, i1, k1, g1⟩ := on_form (onL l x.oc x.oas d)
    obtain ⟨c2, m2, f2, t2, w2, v2, e2, i2, k2, g2⟩ := on_form (onL l x.c x.n d)
    rw [e1] at ho1
    rw [e2] at ho2
    have hst : ∀ g, onL l x.oc x.oas d = some g → ∀ S, CallA Tryz.prog 117 [.agg [.str c1, .int .i64 m1, .int .i64 f1, .int .i64 t1, .int .i64 w1, v1], .str x.f, .str x.t] S fun r S' => r = .bool (stopsF g x.f x.t) ∧ S' = S := fun g hg S => by
      rw [← g1 g hg]
      exact stops_A g (hl.h2 g (onL_mem hg)) x.f x.t S
    have hct := fun S => contains9_A e (fun y => eD x y d) 119 [.cptr (srR x), .cptr [.int .i64 d]] (by omega) (fun y S => day1_A x y d S) S
    simp only [srR] at hct
    have dn : nD l x d = !(onL l x.oc x.oas d).isSome := by unfold nD; cases onL l x.oc x.oas d <;> rfl
    have dl : ∀ g, onL l x.oc x.oas d = some g → lD l x d = !stopsF g x.f x.t := fun g hg => by unfold lD; rw [hg]
    have dl0 : onL l x.oc x.oas d = none → lD l x d = false := fun hg => by unfold lD; rw [hg]
    have dt : tD l e x d = ((onL l x.c x.n d).isSome || e.any fun y => eD x y d) := rfl
    rw [dn] at n1
    rw [dt] at n3
    have dl0' : (onL l x.oc x.oas d).isSome = false → lD l x d = false := fun h => dl0 (by simpa using h)
    have dl1' : (onL l x.oc x.oas d).isSome = true → ∃ g, onL l x.oc x.oas d = some g := fun h => Option.isSome_iff_exists.1 h
    generalize (onL l x.oc x.oas d).isSome = ok1 at ho1 n1 dl0' dl1'
    generalize (onL l x.c x.n d).isSome = ok2 at ho2 n3
    obtain ⟨N1, hN1⟩ : ∃ b, b = ((daysF x.p).take (k + 1)).any (nD l x) := ⟨_, rfl⟩
    rw [← hN1] at n1
    obtain ⟨N2, hN2⟩ : ∃ b, b = ((daysF x.p).take (k + 1)).any (lD l x) := ⟨_, rfl⟩
    rw [← hN2] at n2
    obtain ⟨N3, hN3⟩ : ∃ b, b = ((daysF x.p).take (k + 1)).any (tD l e x) := ⟨_, rfl⟩
    rw [← hN3] at n3
    generalize ((daysF x.p).take k).any (nD l x) = b1 at n1 ⊢
    generalize ((daysF x.p).take k).any (lD l x) = b2 at n2 ⊢
    generalize ((daysF x.p).take k).any (tD l e x) = b3 at n3 ⊢
    simp (disch := first | omega | (simp only [lenT]; omega)) only [srR, dT hlt, hc, inR, evSt, ↓evPre, ↓evPreW, evPost, evPostW, evR, evU, seval]
    refine (ho1 _).then ?_
    cases b1 <;> cases b2 <;> cases ok1 <;> simp (disch := first | omega | (simp only [lenT]; omega)) only [srR, i1, k1, evSt, ↓evPre, ↓evPreW, evPost, evPostW, evR, evU, seval]
    case' false.false.true | true.false.true =>
      obtain ⟨g, hg⟩ := dl1' rfl
      have hlD : lD l x d = !stopsF g x.f x.t := dl g hg
      refine (hst g hg _).then ?_
      simp (disch := first | omega | (simp only [lenT]; omega)) only [srR, i1, k1, evSt, ↓evPre, ↓evPreW, evPost, evPostW, evR, evU, seval]
    case' false.false.false | true.false.false => have hlD : lD l x d = false := dl0' rfl
    case' false.true.false | false.true.true | true.true.false | true.true.true => have hlD : lD l x d = lD l x d := rfl
    all_goals
      refine (ho2 _).then ?_
      cases b3 <;> cases ok2 <;> simp (disch := first | omega | (simp only [lenT]; omega)) only [srR, i1, k1, i2, k2, evSt, ↓evPre, ↓evPreW, evPost, evPostW, evR, evU, seval]
    case' false.false.true.false.false | true.false.true.false.false | false.false.false.false.false | true.false.false.false.false | false.true.false.false.false | false.true.true.false.false | true.true.false.false.false | true.true.true.false.false =>
      refine (hct _).then ?_
      simp (disch := first | omega | (simp only [lenT]; omega)) only [srR, evSt, ↓evPre, ↓evPreW, evPost, evPostW, evR, evU, seval]
    all_goals
      refine ⟨k + 1, by omega, by omega, back_under (hn.fgt _) ?_ (by simp [V.under, V.allUnder])⟩
      rw [← hN1, ← hN2, ← hN3]
      simp (disch := first | omega | (simp only [lenT]; omega)) only [wrap_i64, hk1, n1, n2, n3, hlD, Bool.true_or, Bool.false_or, Bool.or_true, Bool.or_false, Bool.not_true, Bool.not_false, srR, ↓evPre, ↓evPreW, evPost, evPostW, evR, evU, seval]
      try rfl
end Go.Proofs.YtiihkfjbllpiaaaGreatDoor
