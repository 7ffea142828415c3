/- Shares: what is wrong on the days of a share, the reference's way. -/
import Derived.Test.YtiihkfjbllpiaaaGreatDoorQSchB
namespace Go.Proofs.YtiihkfjbllpiaaaGreatDoor
open Go Go.AL
set_option linter.unusedSectionVars false
variable [Go.AL.Mode] [Go.AL.LooseM]
set_option linter.unusedSimpArgs false
set_option linter.unusedVariables false

theorem srR_imm (x : Sr) : ∀ r ∈ [srR x], r.length = 9 ∧ V.allImm r = true := fun r hr => by
  rw [List.mem_singleton] at hr
  subst hr
  exact ⟨rfl, rfl⟩
theorem eD_pd (x y : Sr) (d : Int) : eD x y d = (decide (y.c = x.c) && (decide (y.n = x.n) && (decide (pdF y.p = 0) && hasF y.p d))) := by
  unfold eD
  congr 2
  cases h : hasF y.p d with
  | false => simp
  | true =>
    unfold hasF at h
    rw [Bool.and_eq_true, decide_eq_true_eq] at h
    simp [h.1.1]
set_option maxHeartbeats 8000000 in
set_option maxRecDepth 10000 in
theorem rcdays_A (l : List Fl) (hl : FOk l) (sh : List Sr) (hs : sh.length ≤ 1000) (i : Nat) (x : Sr) (hx : sh[i]? = some x) (S : Store) : CallA Tryz.prog 121 [.sl 6 (l.map flR), .sl 9 (sh.map srR), .int .i64 (i : Nat)] S fun r S' => r = .sl 1 ((dayE l (sh.take i) x).map inR) ∧ S' = S := by
  refine CallA.withNeat Tryz.func121 c621 fun hn => ?_
  refine CallA.fin Tryz.func121 c621 (Nat.le_of_ble_eq_true rfl) fun σ hσ => ?_
  have hil := (List.getElem?_eq_some_iff.1 hx).1
  have hdy := fun S => rdays_A x.p S
  simp only [pdR] at hdy
  have hl1 := hl.h1
  have hdl := daysF_len x.p
  have r1 : (1 ≤ roomA) = True := by simp [roomA]
  have r2 : (2 ≤ roomA) = True := by simp [roomA]
  have r3 : (3 ≤ roomA) = True := by simp [roomA]
  have himx := srR_imm x
  simp (disch := first | omega | (simp only [lenT]; omega)) only [a621, hx, srR, evSt, ↓evPre, ↓evPreW, evPost, evPostW, evR, evU, seval]
  refine (hdy _).then ?_
  simp (disch := first | omega | (simp only [lenT]; omega)) only [evSt, ↓evPre, ↓evPreW, evPost, evPostW, evR, evU, seval]
  refine loopF (ι := Nat) (fun k => [(0, .sl 6 (l.map flR)), (1, .sl 9 (sh.map srR)), (2, .int .i64 (i : Nat)), (7, .nilSl), (8, .ptr S.length 0 0 0), (9, .bool (((daysF x.p).take k).any (nD l x))), (10, .bool (((daysF x.p).take k).any (lD l x))), (11, .bool (((daysF x.p).take k).any (tD l (sh.take i) x))), (12, .sl 1 ((daysF x.p).map inR)), (13, .int .i64 (k : Nat))]) (fun _ => S ++ [⟨0, some (.arr 108 9 [srR x])⟩]) (fun k => k ≤ (daysF x.p).length) (fun k => (daysF x.p).length - k) (fun i hi => by rw [hσ]; simp) 0 (Nat.zero_le _) (.inl ⟨?_, rfl⟩) ?_
  · simp only [srR, List.any_nil, ↓evPre, ↓evPreW, evPost, evPostW, evR, evU, seval]
    try rfl
  intro k hk
  cases hc : (daysF x.p)[k]? with
  | none =>
    have hge := List.getElem?_eq_none_iff.1 hc
    have hlt : ¬ ((k : Int) < (daysF x.p).length) := by omega
    rw [List.take_of_length_le hge, ← noneF_eq, ← legF_eq, ← twiceF_eq]
    unfold dayE
    cases b1 : noneF l x <;> cases b2 : legF l x <;> cases b3 : twiceF l (sh.take i) x <;> simp (disch := first | omega | (simp only [lenT]; omega)) only [srR, dF hlt, r1, r2, r3, true_and, evSt, ↓evPre, ↓evPreW, evPost, evPostW, evR, evU, seval]
    all_goals first
      | exact ⟨_, S, hn.fgt _, .nil, Nat.le_refl _, rfl, rfl⟩
      | exact ⟨_, S, hn.fgt _, .sl (t := 34) (by omega) (by rw [ob_app, ob_cons, ob_head]; rfl) rfl (by simp [inR, V.allImm, V.isImm]), Nat.le_refl _, rfl, rfl⟩
  | some d =>
    have hlt' := (List.getElem?_eq_some_iff.1 hc).1
    have hlt : ((k : Int) < (daysF x.p).length) := by omega
    have hk1 : (k : Int) + 1 = ((k + 1 : Nat) : Int) := by omega
    have n1 := anyT (q := nD l x) hc
    have n2 := anyT (q := lD l x) hc
    have n3 := anyT (q := tD l (sh.take i) x) hc
    have ho1 := fun S => ron_A l x.oc x.oas d (by omega) S
    have ho2 := fun S => ron_A l x.c x.n d (by omega) S
    obtain ⟨c1, m1, f1, t1, w1, v1, e1, i1, k1, g1⟩ := on_form (onL l x.oc x.oas d)
    obtain ⟨c2, m2, f2, t2, w2, v2, e2, i2, k2, g2⟩ := on_form (onL l x.c x.n d)
    rw [e1] at ho1
    rw [e2] at ho2
    have hst : ∀ g, onL l x.oc x.oas d = some g → ∀ S, CallA Tryz.prog 157 [.agg [.str c1, .int .i64 m1, .int .i64 f1, .int .i64 t1, .int .i64 w1, v1], .str x.f, .str x.t] S fun r S' => r = .bool (stopsF g x.f x.t) ∧ S' = S := fun g hg S => by
      rw [← g1 g hg]
      exact leads_A g (hl.h2 g (onL_mem hg)) x.f x.t S
    have dn : nD l x d = !(onL l x.oc x.oas d).isSome := by unfold nD; cases onL l x.oc x.oas d <;> rfl
    have dl : ∀ g, onL l x.oc x.oas d = some g → lD l x d = !stopsF g x.f x.t := fun g hg => by unfold lD; rw [hg]
    have dl0 : onL l x.oc x.oas d = none → lD l x d = false := fun hg => by unfold lD; rw [hg]
    have dt : tD l (sh.take i) x d = ((onL l x.c x.n d).isSome || (sh.take i).any fun y => eD x y d) := rfl
    rw [dn] at n1
    rw [dt] at n3
    have dl0' : (onL l x.oc x.oas d).isSome = false → lD l x d = false := fun h => dl0 (by simpa using h)
    have dl1' : (onL l x.oc x.oas d).isSome = true → ∃ g, onL l x.oc x.oas d = some g := fun h => Option.isSome_iff_exists.1 h
    generalize (onL l x.oc x.oas d).isSome = ok1 at ho1 n1 dl0' dl1'
    generalize (onL l x.c x.n d).isSome = ok2 at ho2 n3
    obtain ⟨N1, hN1⟩ : ∃ b, b = ((daysF x.p).take (k + 1)).any (nD l x) := ⟨_, rfl⟩
    rw [← hN1] at n1
    obtain ⟨N2, hN2⟩ : ∃ b, b = ((daysF x.p).take (k + 1)).any (lD l x) := ⟨_, rfl⟩
    rw [← hN2] at n2
    obtain ⟨N3, hN3⟩ : ∃ b, b = ((daysF x.p).take (k + 1)).any (tD l (sh.take i) x) := ⟨_, rfl⟩
    rw [← hN3] at n3
    generalize ((daysF x.p).take k).any (nD l x) = b1 at n1 ⊢
    generalize ((daysF x.p).take k).any (lD l x) = b2 at n2 ⊢
    generalize ((daysF x.p).take k).any (tD l (sh.take i) x) = b3 at n3 ⊢
    apply share_if (P := Tryz.prog) (N := 135) (σ := σ) True [(0, .sl 6 (l.map flR)), (1, .sl 9 (sh.map srR)), (2, .int .i64 (i : Nat)), (7, .nilSl), (8, .ptr S.length 0 0 0), (9, .bool N1), (10, .bool N2), (11, .bool (b3 || ok2)), (12, .sl 1 ((daysF x.p).map inR)), (13, .int .i64 (k : Nat)), (18, .int .i64 0)]
      (S ++ [⟨0, some (.arr 108 9 [srR x])⟩, ⟨0, some (.arr 41 6 [[.str c1, .int .i64 m1, .int .i64 f1, .int .i64 t1, .int .i64 w1, v1]])⟩, ⟨0, some (.arr 41 6 [[.str c2, .int .i64 m2, .int .i64 f2, .int .i64 t2, .int .i64 w2, v2]])⟩])
    · intro key
      simp (disch := first | omega | (simp only [lenT]; omega)) only [srR, dT hlt, hc, inR, i1, k1, i2, k2, evSt, ↓evPre, ↓evPreW, evPost, evPostW, evR, evU, seval]
      refine ⟨?_, ?_⟩
      all_goals
        refine (ho1 _).then ?_
        cases b1 <;> cases b2 <;> cases ok1 <;> simp (disch := first | omega | (simp only [lenT]; omega)) only [srR, hc, inR, i1, k1, i2, k2, evSt, ↓evPre, ↓evPreW, evPost, evPostW, evR, evU, seval]
        case' false.false.true | true.false.true =>
          obtain ⟨g, hg⟩ := dl1' rfl
          have hlD : lD l x d = !stopsF g x.f x.t := dl g hg
          refine (hst g hg _).then ?_
          simp (disch := first | omega | (simp only [lenT]; omega)) only [srR, hc, inR, i1, k1, i2, k2, evSt, ↓evPre, ↓evPreW, evPost, evPostW, evR, evU, seval]
        case' false.false.false | true.false.false => have hlD : lD l x d = false := dl0' rfl
        case' false.true.false | false.true.true | true.true.false | true.true.true => have hlD : lD l x d = lD l x d := rfl
        all_goals
          refine ⟨?_, ?_⟩
          all_goals
            refine (ho2 _).then ?_
            cases b3 <;> simp (disch := first | omega | (simp only [lenT]; omega)) only [srR, i1, k1, i2, k2, evSt, ↓evPre, ↓evPreW, evPost, evPostW, evR, evU, seval]
            all_goals exact (key trivial).sub (by simp only [n1, n2, hlD, Bool.true_or, Bool.false_or, Bool.or_true, Bool.or_false, Bool.not_true, Bool.not_false, srR, ↓evPre, ↓evPreW, evPost, evPostW, evR, evU, seval])
    · intro _
      have him1 : ∀ r ∈ [[.str c1, .int .i64 m1, .int .i64 f1, .int .i64 t1, .int .i64 w1, v1]], r.length = 6 ∧ V.allImm r = true := fun r hr => by rw [List.mem_singleton] at hr; subst hr; exact ⟨rfl, by simp [V.allImm, V.isImm, i1]⟩
      have him2 : ∀ r ∈ [[.str c2, .int .i64 m2, .int .i64 f2, .int .i64 t2, .int .i64 w2, v2]], r.length = 6 ∧ V.allImm r = true := fun r hr => by rw [List.mem_singleton] at hr; subst hr; exact ⟨rfl, by simp [V.allImm, V.isImm, i2]⟩
      refine loopF (ι := Nat) (fun j => [(0, .sl 6 (l.map flR)), (1, .sl 9 (sh.map srR)), (2, .int .i64 (i : Nat)), (7, .nilSl), (8, .ptr S.length 0 0 0), (9, .bool N1), (10, .bool N2), (11, .bool ((b3 || ok2) || (sh.take j).any fun y => eD x y d)), (12, .sl 1 ((daysF x.p).map inR)), (13, .int .i64 (k : Nat)), (18, .int .i64 (j : Nat))])
        (fun _ => S ++ [⟨0, some (.arr 108 9 [srR x])⟩, ⟨0, some (.arr 41 6 [[.str c1, .int .i64 m1, .int .i64 f1, .int .i64 t1, .int .i64 w1, v1]])⟩, ⟨0, some (.arr 41 6 [[.str c2, .int .i64 m2, .int .i64 f2, .int .i64 t2, .int .i64 w2, v2]])⟩]) (fun j => j ≤ i) (fun j => i - j) (fun i hi => by rw [hσ]; simp) 0 (Nat.zero_le _) (.inl ⟨?_, rfl⟩) ?_
      · simp only [List.any_nil, Bool.or_false, ↓evPre, ↓evPreW, evPost, evPostW, evR, evU, seval]
        try rfl
      intro j hj
      by_cases hji : j < i
      case neg =>
        have hltj : ¬ ((j : Int) < i) := by omega
        have hjj : j = i := by omega
        subst hjj
        rw [Bool.or_assoc, ← n3]
        simp (disch := first | omega | (simp only [lenT]; omega)) only [dF hltj, evSt, ↓evPre, ↓evPreW, evPost, evPostW, evR, evU, seval]
        refine ⟨k + 1, by omega, by omega, back_under ?_ ?_ (by simp [V.under, V.allUnder])⟩
        · exact hn.fgtL (L := [_, _, _]) (L1 := [_]) ⟨rfl, ⟨_, rfl, .imm himx⟩, trivial⟩
        · rw [← hN1, ← hN2, ← hN3]
          simp (disch := first | omega | (simp only [lenT]; omega)) only [wrap_i64, hk1, ↓evPre, ↓evPreW, evPost, evPostW, evR, evU, seval]
          try rfl
      case pos =>
        have hltj : ((j : Int) < i) := by omega
        have hj1 : (j : Int) + 1 = ((j + 1 : Nat) : Int) := by omega
        obtain ⟨y, hy⟩ : ∃ y, sh[j]? = some y := ⟨_, List.getElem?_eq_getElem (by omega)⟩
        have hny := anyT (q := fun y => eD x y d) hy
        rw [eD_pd] at hny
        have hck := fun S => rcheck_A y.p S
        have hhs := fun S => rhas_A y.p d S
        simp only [pdR] at hck hhs
        obtain ⟨B, hB⟩ : ∃ b, b = ((b3 || ok2) || (sh.take (j + 1)).any fun y => eD x y d) := ⟨_, rfl⟩
        have hB2 : B = (((b3 || ok2) || (sh.take j).any fun y => eD x y d) || (decide (y.c = x.c) && (decide (y.n = x.n) && (decide (pdF y.p = 0) && hasF y.p d)))) := by rw [hB, hny, Bool.or_assoc]; simp only [Bool.or_assoc]
        generalize ((b3 || ok2) || (sh.take j).any fun y => eD x y d) = b4 at hB2 ⊢
        cases b4 <;> cases h1 : decide (y.c = x.c) <;> cases h2 : decide (y.n = x.n) <;> simp only [h1, h2, Bool.true_or, Bool.false_or, Bool.true_and, Bool.false_and, Bool.or_false] at hB2 <;> simp (disch := first | omega | (simp only [lenT]; omega)) only [srR, dT hltj, hy, hc, h1, h2, inR, evSt, ↓evPre, ↓evPreW, evPost, evPostW, evR, evU, seval]
        case' false.true.true | true.true.true =>
          refine (hck _).then ?_
          cases h3 : decide (pdF y.p = 0) <;> (try simp only [h3, Bool.true_and, Bool.false_and] at hB2) <;> simp (disch := first | omega | (simp only [lenT]; omega)) only [srR, hc, h3, inR, evSt, ↓evPre, ↓evPreW, evPost, evPostW, evR, evU, seval]
        case' false.true.true.true =>
          refine (hhs _).then ?_
          simp (disch := first | omega | (simp only [lenT]; omega)) only [srR, hc, inR, evSt, ↓evPre, ↓evPreW, evPost, evPostW, evR, evU, seval]
        all_goals
          refine ⟨j + 1, by omega, by omega, back_under ?_ ?_ (by simp [V.under, V.allUnder])⟩
          · exact hn.fgtL (L := [_, _, _, _]) (L1 := [_, _, _]) ⟨rfl, ⟨_, rfl, .imm himx⟩, rfl, ⟨_, rfl, .imm him1⟩, rfl, ⟨_, rfl, .imm him2⟩, trivial⟩
          · rw [← hB]
            simp (disch := first | omega | (simp only [lenT]; omega)) only [wrap_i64, hj1, hB2, ↓evPre, ↓evPreW, evPost, evPostW, evR, evU, seval]
            try rfl
end Go.Proofs.YtiihkfjbllpiaaaGreatDoor
