/- Schedule: the reference's Differ; the law Differs. -/
import Derived.Test.YtiihkfjbllpiaaaDoorSma
import Derived.Test.YtiihkfjbllpiaaaDoorScaC
namespace Go.Proofs.YtiihkfjbllpiaaaDoor
open Go Go.AL
set_option linter.unusedSectionVars false
variable [Go.AL.Mode] [Go.AL.LooseM]
set_option linter.unusedSimpArgs false
set_option linter.unusedVariables false

theorem legsO_eq (o : Option Fl) : legsO o = (o.getD z0).legs := by cases o <;> rfl
theorem difD_eq (a b : List Fl) (c : Txt) (n d : Int) : difD a b c n d = (decide ((onL a c n d).isSome ≠ (onL b c n d).isSome) || decide (¬ ((onL a c n d).getD z0).legs = ((onL b c n d).getD z0).legs)) := by
  unfold difD
  rw [legsO_eq, legsO_eq]
set_option maxHeartbeats 4000000 in
theorem rdiffer_A (a b : List Fl) (ha : FOk a) (hb : FOk b) (c : Txt) (n : Int) (q : Pd) (S : Store) : CallA Tryd.prog 7 [.sl 6 (a.map flR), .sl 6 (b.map flR), .str c, .int .i64 n, .agg (pdR q)] S fun r S' => r = .sl 1 ((difF a b c n q).map inR) ∧ S' = S := by
  refine CallA.withNeat Tryd.func7 c902 fun hn => ?_
  refine CallA.fin Tryd.func7 c902 (Nat.le_of_ble_eq_true rfl) fun σ hσ => ?_
  have hdy := fun S => rdays_A q S
  have hdl := daysF_len q
  have ha1 := ha.h1
  have hb1 := hb.h1
  simp only [pdR] at hdy
  unfold difF
  generalize daysF q = L at hdy hdl
  simp (disch := first | omega | (simp only [lenT]; omega)) only [a902, pdR, evSt, ↓evPre, ↓evPreW, evPost, evPostW, evR, evU, seval]
  refine (hdy _).then ?_
  simp (disch := first | omega | (simp only [lenT]; omega)) only [evSt, ↓evPre, ↓evPreW, evPost, evPostW, evR, evU, seval]
  refine LoopA.ghost 11 0 3 1 rfl ?_
  refine loopF (ι := Nat × Nat) (fun i => [(0, .sl 6 (a.map flR)), (1, .sl 6 (b.map flR)), (2, .str c), (3, .int .i64 n), (11, .msl S.length i.2 0 ((L.take i.1).filter (difD a b c n)).length), (12, .sl 1 (L.map inR)), (13, .int .i64 (i.1 : Nat))])
    (fun i => S ++ [⟨i.2, some (.arr 3 1 (((L.take i.1).filter (difD a b c n)).map inR))⟩]) (fun i => i.1 ≤ L.length) (fun i => L.length - i.1) (fun i hi => by rw [hσ]; simp) (0, 0) (Nat.zero_le _) (.inl ⟨?_, ?_⟩) ?_
  · simp [sub, Env.get]
  · simp
  rintro ⟨k, v⟩ hk
  simp only at hk ⊢
  cases hc : L[k]? with
  | none =>
    have hge := List.getElem?_eq_none_iff.1 hc
    have hlt : ¬ ((k : Int) < L.length) := by omega
    rw [List.take_of_length_le hge]
    simp (disch := first | omega | (simp only [lenT]; omega)) only [dF hlt, evSt, ↓evPre, ↓evPreW, evPost, evPostW, evR, evU, seval]
    exact ⟨_, S, hn.fgt _, in_frz rfl, Nat.le_refl _, rfl, rfl⟩
  | some d =>
    have hlt' := (List.getElem?_eq_some_iff.1 hc).1
    have hlt : ((k : Int) < L.length) := by omega
    have hk1 : (k : Int) + 1 = ((k + 1 : Nat) : Int) := by omega
    have ho1 := fun S => ronW_A a c n d (by omega) S
    have ho2 := fun S => ronW_A b c n d (by omega) S
    have hx1 := onL_legs ha c n d
    have hx2 := onL_legs hb c n d
    have hfl := List.length_filter_le (difD a b c n) (L.take k)
    rw [List.length_take] at hfl
    have him : ∀ r ∈ ((L.take k).filter (difD a b c n)).map inR ++ [d].map inR, r.length = 1 ∧ V.allImm r = true := fun r hr => by rw [← List.map_append] at hr; exact inR_imm _ r hr
    have q1 : ((false == false) : Bool) = true := rfl
    have q2 : ((true == true) : Bool) = true := rfl
    have q3 : ((true == false) : Bool) = false := rfl
    have q4 : ((false == true) : Bool) = false := rfl
    have hst := dif_step (a := a) (b := b) (c := c) (n := n) hc
    have hDe := difD_eq a b c n d
    unfold onV at ho1 ho2
    generalize (onL a c n d).isSome = s1 at ho1 hDe
    generalize (onL b c n d).isSome = s2 at ho2 hDe
    generalize (onL a c n d).getD z0 = x at ho1 hDe hx1
    generalize (onL b c n d).getD z0 = y at ho2 hDe hx2
    have hg := fun S => rsameLg_A x.legs y.legs (by omega) S
    simp only [flR] at ho1 ho2
    simp (disch := first | omega | (simp only [lenT]; omega)) only [dT hlt, hc, inR, evSt, ↓evPre, ↓evPreW, evPost, evPostW, evR, evU, seval]
    refine (ho1 _).then ?_
    simp (disch := first | omega | (simp only [lenT]; omega)) only [hc, inR, evSt, ↓evPre, ↓evPreW, evPost, evPostW, evR, evU, seval]
    refine (ho2 _).then ?_
    cases s1 <;> cases s2 <;> simp (disch := first | omega | (simp only [lenT]; omega)) only [hc, inR, q1, q2, q3, q4, wrap_i64, hk1, evSt, ↓evPre, ↓evPreW, evPost, evPostW, evR, evU, seval]
    case false.true | true.false =>
      have hD : difD a b c n d = true := by rw [hDe]; simp
      have hst2 : (L.take (k + 1)).filter (difD a b c n) = (L.take k).filter (difD a b c n) ++ [d] := by rw [hst, hD]; rfl
      refine ⟨by unfold roomA; omega, (k + 1, v + 1), by simp only; omega, by simp only; omega, back_under ?_ ?_ ?_⟩
      · rw [hst2, List.map_append]
        exact hn.fgtL (L := [_, _, _]) (L1 := [_]) ⟨rfl, ⟨_, rfl, .imm him⟩, trivial⟩
      · rw [hst2, List.length_append]
        simp only [List.length_singleton, ↓evPre, ↓evPreW, evPost, evPostW, evR, evU, seval]
        try rfl
      · simp [V.under, V.allUnder]
    all_goals
      refine (hg _).then ?_
      by_cases hB : x.legs = y.legs
      · have hD : difD a b c n d = false := by rw [hDe]; simp [hB]
        rw [dT hB]
        have hst2 : (L.take (k + 1)).filter (difD a b c n) = (L.take k).filter (difD a b c n) := by rw [hst, hD]; simp
        simp (disch := first | omega | (simp only [lenT]; omega)) only [hc, inR, q1, q2, q3, q4, wrap_i64, hk1, evSt, ↓evPre, ↓evPreW, evPost, evPostW, evR, evU, seval]
        refine ⟨(k + 1, v), by simp only; omega, by simp only; omega, back_under ?_ ?_ ?_⟩
        · rw [hst2]
          exact hn.fgtL (L := [_, _, _]) (L1 := [_]) ⟨rfl, ⟨_, rfl, .imm (inR_imm _)⟩, trivial⟩
        · rw [hst2]
          simp only [↓evPre, ↓evPreW, evPost, evPostW, evR, evU, seval]
          try rfl
        · simp [V.under, V.allUnder]
      · have hD : difD a b c n d = true := by rw [hDe]; simp [hB]
        rw [dF hB]
        have hst2 : (L.take (k + 1)).filter (difD a b c n) = (L.take k).filter (difD a b c n) ++ [d] := by rw [hst, hD]; rfl
        simp (disch := first | omega | (simp only [lenT]; omega)) only [hc, inR, q1, q2, q3, q4, wrap_i64, hk1, evSt, ↓evPre, ↓evPreW, evPost, evPostW, evR, evU, seval]
        refine ⟨by unfold roomA; omega, (k + 1, v + 1), by simp only; omega, by simp only; omega, back_under ?_ ?_ ?_⟩
        · rw [hst2, List.map_append]
          exact hn.fgtL (L := [_, _, _]) (L1 := [_]) ⟨rfl, ⟨_, rfl, .imm him⟩, trivial⟩
        · rw [hst2, List.length_append]
          simp only [List.length_singleton, ↓evPre, ↓evPreW, evPost, evPostW, evR, evU, seval]
          try rfl
        · simp [V.under, V.allUnder]

theorem difF_comm (a b : List Fl) (c : Txt) (n : Int) (q : Pd) : difF a b c n q = difF b a c n q := by
  unfold difF
  congr 1
  funext d
  rw [difD_eq, difD_eq]
  congr 1
  · rw [Bool.eq_iff_iff]; simp only [decide_eq_true_eq]; exact ⟨Ne.symm, Ne.symm⟩
  · rw [Bool.eq_iff_iff]; simp only [decide_eq_true_eq]; exact ⟨fun h e => h e.symm, fun h e => h e.symm⟩
theorem difF_self (a : List Fl) (c : Txt) (n : Int) (q : Pd) : difF a a c n q = [] := by
  unfold difF
  rw [List.filter_eq_nil_iff]
  intro d _
  rw [difD_eq]
  simp
theorem difF_len (a b : List Fl) (c : Txt) (n : Int) (q : Pd) : (difF a b c n q).length ≤ 100000 := by
  have h1 := List.length_filter_le (difD a b c n) (daysF q)
  have h2 := daysF_len q
  unfold difF
  omega
theorem e_psm : PSm ([], []) := ⟨by simp, by simp, fun a ha => by cases ha⟩
theorem big_ok {p : Pls} {l : List Fl} (h : l.length ≤ 12 ∧ ∀ x ∈ l, BigOk p x) : FOk l := ⟨by omega, fun x hx => by have := (h.2 x hx).1; omega⟩
def prR (a b : List Fl) : List V := [.sl 6 (a.map flR), .sl 6 (b.map flR)]
/-- Arguments of a bulk that a machine holds. -/
structure DSm (l : List Fl) : Prop where
  h1 : l.length ≤ 1100000
  h2 : ∀ x ∈ l, x.legs.length ≤ 1100000
theorem bigE_A (l : List Fl) (h : DSm l) (S : Store) : CallA Tryd.prog 4 [.agg [.nilSl, .nilSl], .sl 6 (l.map flR)] S fun r S' => ∃ b, r = .bool b ∧ (b = false → FOk l) ∧ S' = S :=
  ((big_A ([], []) l e_psm h.h1 h.h2 S).wk (args := [.agg [.nilSl, .nilSl], .sl 6 (l.map flR)]) ⟨show Wk (.agg [.nilSl, .nilSl]) (.agg [.sl 5 [], .sl 3 []]) from Wk.aggL ⟨.nil 5, .nil 3, trivial⟩, .refl _, trivial⟩).mono fun r S' ⟨b, h1, h2, h3⟩ => ⟨b, h1, fun h => big_ok (h2 h), h3⟩
set_option maxHeartbeats 4000000 in
theorem sl_differs (a b : List Fl) (k : Ak) (q : Pd) (ha : DSm a) (hb : DSm b) (S : Store) : CallA Tryd.prog 3 [.agg (prR a b), .agg (akR k), .agg (pdR q)] S fun r S' => r = .bool true ∧ S' = S := by
  refine CallA.withNeat Tryd.func3 c901 fun hn => ?_
  refine CallA.fin Tryd.func3 c901 (Nat.le_of_ble_eq_true rfl) fun σ hσ => ?_
  have hkn := fun S => knows8_A S
  have hba := fun S => bigE_A a ha S
  have hbb := fun S => bigE_A b hb S
  simp (disch := first | omega | (simp only [lenT]; omega)) only [a901, prR, akR, pdR, evSt, ↓evPre, ↓evPreW, evPost, evPostW, evR, evU, seval]
  refine (hba _).mono ?_
  rintro _ S2 ⟨w, rfl, hw, hS2⟩
  rw [hS2]
  cases w with
  | true =>
    simp (disch := first | omega | (simp only [lenT]; omega)) only [evSt, ↓evPre, ↓evPreW, evPost, evPostW, evR, evU, seval]
    refine (hkn _).then ?_
    simp (disch := first | omega | (simp only [lenT]; omega)) only [evSt, ↓evPre, ↓evPreW, evPost, evPostW, evR, evU, seval]
    exact ⟨_, S, hn.self, .imm rfl, Nat.le_refl _, rfl, rfl⟩
  | false =>
    have hfa := hw rfl
    simp (disch := first | omega | (simp only [lenT]; omega)) only [evSt, ↓evPre, ↓evPreW, evPost, evPostW, evR, evU, seval]
    refine (hbb _).mono ?_
    rintro _ S2 ⟨w, rfl, hw, hS2⟩
    rw [hS2]
    cases w with
    | true =>
      simp (disch := first | omega | (simp only [lenT]; omega)) only [evSt, ↓evPre, ↓evPreW, evPost, evPostW, evR, evU, seval]
      refine (hkn _).then ?_
      simp (disch := first | omega | (simp only [lenT]; omega)) only [evSt, ↓evPre, ↓evPreW, evPost, evPostW, evR, evU, seval]
      exact ⟨_, S, hn.self, .imm rfl, Nat.le_refl _, rfl, rfl⟩
    | false =>
      have hfb := hw rfl
      have ha1 := hfa.h1
      have g1 := fun S => differ_A a b hfa hfb k.c k.n q S
      have g2 := fun S => rdiffer_A a b hfa hfb k.c k.n q S
      have g3 := fun S => differ_A b a hfb hfa k.c k.n q S
      have g4 := fun S => differ_A a a hfa hfa k.c k.n q S
      rw [difF_comm b a] at g3
      rw [difF_self] at g4
      have hlen := difF_len a b k.c k.n q
      generalize difF a b k.c k.n q = D at g1 g2 g3 hlen
      have o1 := fun S => onW_A a k.c k.n k.day (by omega) S
      have o2 := fun S => ronW_A a k.c k.n k.day (by omega) S
      have hol := onL_legs hfa k.c k.n k.day
      unfold onV at o1 o2
      generalize (onL a k.c k.n k.day).getD z0 = x at o1 o2 hol
      generalize (onL a k.c k.n k.day).isSome = o at o1 o2
      have g8 := fun S => rsame_A x x (by omega) S
      rw [dT rfl] at g8
      simp only [flR] at o1 o2 g8
      simp only [pdR] at g1 g2 g3 g4
      simp (disch := first | omega | (simp only [lenT]; omega)) only [evSt, ↓evPre, ↓evPreW, evPost, evPostW, evR, evU, seval]
      refine (g1 _).then ?_
      simp (disch := first | omega | (simp only [lenT]; omega)) only [evSt, ↓evPre, ↓evPreW, evPost, evPostW, evR, evU, seval]
      refine (g2 _).then ?_
      simp (disch := first | omega | (simp only [lenT]; omega)) only [evSt, ↓evPre, ↓evPreW, evPost, evPostW, evR, evU, seval]
      refine (g3 _).then ?_
      simp (disch := first | omega | (simp only [lenT]; omega)) only [eq_self, decide_true, evSt, ↓evPre, ↓evPreW, evPost, evPostW, evR, evU, seval]
      refine loopA (ι := Nat) (fun i => [(3, .cptr [.sl 6 (a.map flR), .sl 6 (b.map flR)]), (4, .cptr [.str k.c, .int .i64 k.n, .int .i64 k.day, .str k.f, .str k.t]), (5, .cptr [.int .i64 q.f, .int .i64 q.t, .int .i64 q.d]), (7, .sl 1 (D.map inR)), (8, .sl 1 (D.map inR)), (9, .sl 1 (D.map inR)), (10, .int .i64 (i : Nat))]) (fun _ => S) (fun i => i ≤ D.length) (fun i => D.length - i) 0 (Nat.zero_le _) ?_ rfl ?_
      · simp only [↓evPre, ↓evPreW, evPost, evPostW, evR, evU, seval]
        try rfl
      intro i hi
      cases hc : D[i]? with
      | some d =>
        have hlt' := (List.getElem?_eq_some_iff.1 hc).1
        have hlt : ((i : Int) < D.length) := by omega
        have hi1 : (i : Int) + 1 = ((i + 1 : Nat) : Int) := by omega
        simp (disch := first | omega | (simp only [lenT]; omega)) only [dT hlt, hc, inR, eq_self, decide_true, wrap_i64, hi1, evSt, ↓evPre, ↓evPreW, evPost, evPostW, evR, evU, seval]
        exact ⟨i + 1, by omega, by omega, rfl⟩
      | none =>
        have hge := List.getElem?_eq_none_iff.1 hc
        have hlt : ¬ ((i : Int) < D.length) := by omega
        have q5 : ∀ b : Bool, (b == b) = true := fun b => by cases b <;> rfl
        simp (disch := first | omega | (simp only [lenT]; omega)) only [dF hlt, evSt, ↓evPre, ↓evPreW, evPost, evPostW, evR, evU, seval]
        refine (o1 _).then ?_
        simp (disch := first | omega | (simp only [lenT]; omega)) only [evSt, ↓evPre, ↓evPreW, evPost, evPostW, evR, evU, seval]
        refine (o2 _).then ?_
        simp (disch := first | omega | (simp only [lenT]; omega)) only [evSt, ↓evPre, ↓evPreW, evPost, evPostW, evR, evU, seval]
        refine (g8 _).then ?_
        simp (disch := first | omega | (simp only [lenT]; omega)) only [q5, evSt, ↓evPre, ↓evPreW, evPost, evPostW, evR, evU, seval]
        refine (g4 _).then ?_
        simp (disch := first | omega | (simp only [lenT]; omega)) only [List.map_nil, List.length_nil, evSt, ↓evPre, ↓evPreW, evPost, evPostW, evR, evU, seval]
        refine (hkn _).then ?_
        simp (disch := first | omega | (simp only [lenT]; omega)) only [evSt, ↓evPre, ↓evPreW, evPost, evPostW, evR, evU, seval]
        exact ⟨_, S, hn.fgt _, .imm rfl, Nat.le_refl _, rfl, rfl⟩
end Go.Proofs.YtiihkfjbllpiaaaDoor
