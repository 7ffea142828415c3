/- Places, cities, what is too big: taken over from component's texts by takecmp.py. -/
import Derived.Test.YtkdbghhdklfoiaaDoorRFc1
namespace Go.Proofs.YtkdbghhdklfoiaaDoor.Cm
open Go Go.AL
set_option linter.unusedSectionVars false
variable [Go.AL.Mode] [Go.AL.LooseM]
set_option linter.unusedSimpArgs false
set_option linter.unusedVariables false
def ShIn (l : List (Int × Int)) : Prop := ShOrd l ∧ ∀ s ∈ l, 0 ≤ s.1 ∧ s.1 < 52596000
def ZnOk (l : List (Int × Int)) : Prop := l.length ≤ 256 ∧ ShOrd l
theorem shIn_next {l : List (Int × Int)} {k : Nat} {s : Int × Int} (h : ShIn (l.take k)) (hc : l[k]? = some s) (h1 : decide (s.1 < 0) = false) (h2 : decide (52596000 ≤ s.1) = false)
    (h3 : decide ((0 : Int) < (k : Nat)) = false ∨ ∃ s0, l[k - 1]? = some s0 ∧ decide (IntKind.i64.wrap (s.1 - s0.1) < 2880) = false) : ShIn (l.take (k + 1)) := by
  have g1 := of_decide_eq_false h1
  have g2 := of_decide_eq_false h2
  rw [take_at hc]
  refine ⟨?_, fun x hx => ?_⟩
  · unfold ShOrd
    rw [List.pairwise_append]
    refine ⟨h.1, List.pairwise_singleton _ _, fun a ha b hb => ?_⟩
    rw [List.mem_singleton] at hb
    subst hb
    obtain ⟨j, hj⟩ := List.getElem?_of_mem ha
    have hjl := (List.getElem?_eq_some_iff.1 hj).1
    rw [List.length_take] at hjl
    rcases h3 with h3 | ⟨s0, hs0, h3⟩
    · have := of_decide_eq_false h3
      omega
    · have hm : (l.take k)[k - 1]? = some s0 := by rw [List.getElem?_take, if_pos (by omega)]; exact hs0
      have hs0m := h.2 s0 (List.mem_of_getElem? hm)
      have h4 := of_decide_eq_false h3
      rw [wrap_i64 (by omega) (by omega)] at h4
      by_cases e : j = k - 1
      · subst e
        rw [hm] at hj
        cases hj
        omega
      · obtain ⟨p1, rfl⟩ := List.getElem?_eq_some_iff.1 hj
        obtain ⟨p2, rfl⟩ := List.getElem?_eq_some_iff.1 hm
        have := List.pairwise_iff_getElem.1 h.1 j (k - 1) p1 p2 (by omega)
        omega
  · rcases List.mem_append.1 hx with hx | hx
    · exact h.2 x hx
    · rw [List.mem_singleton] at hx
      subst hx
      omega
set_option maxHeartbeats 4000000 in
theorem rzone2_A (off : Int) (sh : List (Int × Int)) (S : Store) : CallA Tryd.prog 78 [.agg [.int .i64 off, .sl 2 (sh.map shR)]] S fun r S' => ∃ e : Int, r = .int .i64 e ∧ (e = 0 → ZnOk sh) ∧ S' = S := by
  refine CallA.withNeat Tryd.func78 c628 fun hn => ?_
  refine CallA.fin Tryd.func78 c628 (Nat.le_of_ble_eq_true rfl) fun σ hσ => ?_
  have hofs := fun n S => roffset_A n S
  by_cases h1 : 256 < sh.length
  · have h1' : (256 : Int) < sh.length := by omega
    simp (disch := first | omega | (simp only [lenT]; omega)) only [a628, dT h1', evSt, ↓evPre, ↓evPreW, evPost, evPostW, evR, evU, seval]
    exact ⟨_, S, hn.self, .imm rfl, Nat.le_refl _, 4, rfl, fun h => by omega, rfl⟩
  have h1' : ¬ (256 : Int) < sh.length := by omega
  simp (disch := first | omega | (simp only [lenT]; omega)) only [a628, dF h1', evSt, ↓evPre, ↓evPreW, evPost, evPostW, evR, evU, seval]
  refine (hofs _ _).then ?_
  cases h2 : offF off with
  | false =>
    simp (disch := first | omega | (simp only [lenT]; omega)) only [evSt, ↓evPre, ↓evPreW, evPost, evPostW, evR, evU, seval]
    exact ⟨_, S, hn.self, .imm rfl, Nat.le_refl _, 2, rfl, fun h => by omega, rfl⟩
  | true =>
    simp (disch := first | omega | (simp only [lenT]; omega)) only [evSt, ↓evPre, ↓evPreW, evPost, evPostW, evR, evU, seval]
    refine loopF (ι := Nat) (fun k => [(1, .cptr [.int .i64 off, .sl 2 (sh.map shR)]), (3, .int .i64 (k : Nat))]) (fun _ => S) (fun k => k ≤ sh.length ∧ ShIn (sh.take k)) (fun k => sh.length - k) (fun i hi => by rw [hσ]; exact Nat.le_refl _) 0 ⟨Nat.zero_le _, by simp [ShIn, ShOrd]⟩ (.inl ⟨?_, rfl⟩) ?_
    · simp only [↓evPre, ↓evPreW, evPost, evPostW, evR, evU, seval]
    rintro k ⟨hk, hin⟩
    cases hc : sh[k]? with
    | none =>
      have hge : sh.length ≤ k := List.getElem?_eq_none_iff.1 hc
      have hlt : ¬ ((k : Int) < sh.length) := by omega
      simp (disch := first | omega | (simp only [lenT]; omega)) only [dF hlt, evSt, ↓evPre, ↓evPreW, evPost, evPostW, evR, evU, seval]
      rw [List.take_of_length_le hge] at hin
      exact ⟨_, S, hn.self, .imm rfl, Nat.le_refl _, 0, rfl, fun h => ⟨by omega, hin.1⟩, rfl⟩
    | some s =>
      have hlt' := (List.getElem?_eq_some_iff.1 hc).1
      have hlt : (k : Int) < sh.length := by omega
      have hk1 : (k : Int) + 1 = ((k + 1 : Nat) : Int) := by omega
      have e1 : IntKind.i64.wrap ((k : Int) - 1) = ((k - 1 : Nat) : Int) ∨ k = 0 := by
        rcases Nat.eq_zero_or_pos k with h | h
        · exact .inr h
        · exact .inl (by rw [wrap_i64 (by omega) (by omega)]; omega)
      rcases e1 with e1 | e1
      case' inl =>
        by_cases hk0 : 0 < k
        case' pos =>
          have hs0 : sh[k - 1]? = some (sh[k - 1]'(by omega)) := List.getElem?_eq_getElem _
          generalize sh[k - 1]'(by omega) = s0 at hs0
          have hd3 : decide ((0 : Int) < (k : Nat)) = true := decide_eq_true (by omega)
          cases hd4 : decide (IntKind.i64.wrap (s.1 - s0.1) < 2880)
        case' neg =>
          have hs0 : sh[k]? = some s := hc
          have hd3 : decide ((0 : Int) < (k : Nat)) = false := decide_eq_false (by omega)
          have hd4 : True := trivial
      case' inr =>
        have hs0 : sh[k]? = some s := hc
        have hd3 : decide ((0 : Int) < (k : Nat)) = false := decide_eq_false (by omega)
        clear e1
        have e1 : True := trivial
        have hd4 : True := trivial
      all_goals
        cases hd1 : decide (s.1 < 0) <;> cases hd2 : decide (52596000 ≤ s.1) <;> simp (disch := first | omega | (simp only [lenT]; omega)) only [dT hlt, hc, hs0, hd1, hd2, hd3, hd4, e1, shR, evSt, ↓evPre, ↓evPreW, evPost, evPostW, evR, evU, seval]
      all_goals first
        | exact ⟨_, S, hn.fgt _, .imm rfl, Nat.le_refl _, 13, rfl, fun h => by omega, rfl⟩
        | (refine (hofs _ _).then ?_
           cases h5 : offF s.2 <;> simp (disch := first | omega | (simp only [lenT]; omega)) only [wrap_i64, hk1, evSt, ↓evPre, ↓evPreW, evPost, evPostW, evR, evU, seval]
           · exact ⟨_, S, hn.fgt _, .imm rfl, Nat.le_refl _, 2, rfl, fun h => by omega, rfl⟩
           · exact ⟨k + 1, ⟨by omega, shIn_next hin hc hd1 hd2 (by first | exact .inl hd3 | exact .inr ⟨_, hs0, hd4⟩)⟩, by omega, back_under (hn.fgt _) (by simp only [↓evPre, ↓evPreW, evPost, evPostW, evR, evU, seval]; try rfl) (by simp [V.under, V.allUnder])⟩)
set_option maxHeartbeats 4000000 in
set_option maxRecDepth 10000 in
theorem rapt2_A (p : Pls) (hp : p.1.length ≤ 2000000) (i : Nat) (a : Apt) (ha : p.1[i]? = some a) (S : Store) : CallA Tryd.prog 47 [plV p, .int .i64 (i : Nat)] S fun r S' => ∃ es : List Int, r = .sl 1 (es.map inR) ∧ (es = [] → ZnOk a.sh) ∧ es.length ≤ 4 ∧ S' = S := by
  refine CallA.withNeat Tryd.func47 c585 fun hn => ?_
  refine CallA.fin Tryd.func47 c585 (Nat.le_of_ble_eq_true rfl) fun σ hσ => ?_
  have hil := (List.getElem?_eq_some_iff.1 ha).1
  have c1 := fun S => rairport_A a.code S
  have c2 := fun S => rairport_A a.city S
  have c3 := fun S => rcountry_A a.cty S
  have cz := fun S => rzone2_A a.off a.sh S
  simp (disch := first | omega | (simp only [lenT]; omega)) only [a585, plV, ha, aptR, evSt, ↓evPre, ↓evPreW, evPost, evPostW, evR, evU, seval]
  have r1 : (1 ≤ roomA) = True := by simp [roomA]
  apply share_ix (P := Tryd.prog) (N := 93) (σ := σ) (fun es : List Int => es.length ≤ 1) (fun es => [(2, .cptr [.sl 5 (p.1.map aptR), .sl 3 (p.2.map dstR)]), (1, .int .i64 (i : Nat)), (5, accV (S.length + 1) (es.map inR)), (6, .ptr S.length 0 0 0), (7, .bool false), (8, .bool false), (9, .int .i64 0)]) (fun es => S ++ ⟨0, some (.arr 130 5 [aptR a])⟩ :: accT 52 1 (es.map inR))
  · intro key
    refine (c1 _).then ?_
    cases b1 : letF a.code 3 <;> simp (disch := first | omega | (simp only [lenT]; omega)) only [r1, true_and, evSt, ↓evPre, ↓evPreW, evPost, evPostW, evR, evU, seval]
    case' true => refine (c2 _).then ?_
    case' true => cases b2 : letF a.city 3 <;> simp (disch := first | omega | (simp only [lenT]; omega)) only [r1, true_and, evSt, ↓evPre, ↓evPreW, evPost, evPostW, evR, evU, seval]
    case' true.true => refine (c3 _).then ?_
    case' true.true => cases b3 : letF a.cty 2 <;> simp (disch := first | omega | (simp only [lenT]; omega)) only [r1, true_and, evSt, ↓evPre, ↓evPreW, evPost, evPostW, evR, evU, seval]
    case' true.true.true => exact (key [] (by simp)).sub (by simp only [List.map_nil, accV_nil, ↓evPre, ↓evPreW, evPost, evPostW, evR, evU, seval])
    all_goals exact (key [5] (by simp)).sub (by simp only [List.map_cons, List.map_nil, inR, accV, List.length_nil, ↓evPre, ↓evPreW, evPost, evPostW, evR, evU, seval])
  · intro es hes
    refine loopA (ι := Nat × Bool × Bool) (fun k => [(2, .cptr [.sl 5 (p.1.map aptR), .sl 3 (p.2.map dstR)]), (1, .int .i64 (i : Nat)), (5, accV (S.length + 1) (es.map inR)), (6, .ptr S.length 0 0 0), (7, .bool k.2.1), (8, .bool k.2.2), (9, .int .i64 (k.1 : Nat))]) (fun _ => S ++ ⟨0, some (.arr 130 5 [aptR a])⟩ :: accT 52 1 (es.map inR)) (fun k => k.1 ≤ i) (fun k => i - k.1) (0, false, false) (Nat.zero_le _) ?_ rfl ?_
    · simp only [↓evPre, ↓evPreW, evPost, evPostW, evR, evU, seval]
      try rfl
    rintro ⟨k, tw, mv⟩ hk
    simp only at hk ⊢
    by_cases hki : k < i
    · have hlt : (k : Int) < i := by omega
      have hk1 : (k : Int) + 1 = ((k + 1 : Nat) : Int) := by omega
      obtain ⟨q, hq⟩ : ∃ q, p.1[k]? = some q := ⟨_, List.getElem?_eq_getElem (by omega)⟩
      cases tw <;> cases mv <;> cases d1 : decide (q.code = a.code) <;> cases d2 : decide (q.city = a.city) <;> cases d3 : decide (q.cty = a.cty) <;> simp (disch := first | omega | (simp only [lenT]; omega)) only [dT hlt, hq, d1, d2, d3, aptR, wrap_i64, hk1, evSt, ↓evPre, ↓evPreW, evPost, evPostW, evR, evU, seval]
      all_goals exact ⟨(k + 1, _, _), by simp only; omega, by simp only; omega, rfl, rfl, rfl⟩
    · have hlt : ¬ (k : Int) < i := by omega
      have b0 : (es.map inR).length < 100000000 := by simp; omega
      have b1 : (es.map inR ++ [[V.int .i64 6]]).length < 100000000 := by simp; omega
      have b2 : (es.map inR ++ [[V.int .i64 8]]).length < 100000000 := by simp; omega
      have b3 : (es.map inR ++ [[V.int .i64 6]] ++ [[V.int .i64 8]]).length < 100000000 := by simp; omega
      obtain ⟨tw0, ht1⟩ : ∃ t, t = tw := ⟨_, rfl⟩
      obtain ⟨mv0, hm1⟩ : ∃ t, t = mv := ⟨_, rfl⟩
      cases tw <;> cases mv <;> simp (disch := first | omega | (simp only [lenT]; omega)) only [dF hlt, app_acc1 rfl b0, app_acc1 rfl b1, app_acc1 rfl b2, app_acc1 rfl b3, aptR, evSt, ↓evPre, ↓evPreW, evPost, evPostW, evR, evU, seval]
      all_goals
        refine (cz _).mono ?_
        rintro _ _ ⟨e, rfl, he, rfl⟩
        by_cases h0 : e = 0
        case' pos =>
          have hz : aptEs es tw0 mv0 e = aptEs es tw0 mv0 0 := by rw [h0]
          simp (disch := first | omega | (simp only [lenT]; omega)) only [dT h0, evSt, ↓evPre, ↓evPreW, evPost, evPostW, evR, evU, seval]
        case' neg =>
          have hz : aptEs es tw0 mv0 e = aptEs es tw0 mv0 0 ++ [e] := by unfold aptEs; rw [if_neg h0]; simp
          simp (disch := first | omega | (simp only [lenT]; omega)) only [dF h0, app_acc1 rfl b0, app_acc1 rfl b1, app_acc1 rfl b2, app_acc1 rfl b3, evSt, ↓evPre, ↓evPreW, evPost, evPostW, evR, evU, seval]
      all_goals
        have hin := inR_imm (aptEs es tw0 mv0 e)
        have hle : (aptEs es tw0 mv0 e).length ≤ 4 := by have := aptEs_len es tw0 mv0 e; omega
        have hzn : aptEs es tw0 mv0 e = [] → e = 0 := fun h => by
          unfold aptEs at h
          have h := (List.append_eq_nil_iff.1 h).2
          by_cases g : e = 0
          · exact g
          · rw [if_neg g] at h; cases h
        refine ⟨.sl 1 ((aptEs es tw0 mv0 e).map inR), S, hn.fgt _, ?_, Nat.le_refl _, _, rfl, fun h => he (hzn h), hle, rfl⟩
        rw [hz] at hin ⊢
        simp only [aptEs, ht1, hm1, if_true, if_false, Bool.false_eq_true, List.append_nil, List.map_append, List.map_cons, List.map_nil, inR] at hin ⊢
        exact frz_acc1 hin
set_option maxHeartbeats 4000000 in
theorem rplaces2_A (p : Pls) (hp1 : p.1.length ≤ 1000) (hp2 : p.2.length ≤ 1000) (S : Store) : CallA Tryd.prog 21 [plV p] S fun r S' => ∃ l : List Ft, r = .sl 2 (l.map ftR) ∧ (l = [] → ∀ a ∈ p.1, ZnOk a.sh) ∧ S' = S := by
  refine CallA.withNeat Tryd.func21 c544 fun hn => ?_
  refine CallA.fin Tryd.func21 c544 (Nat.le_of_ble_eq_true rfl) fun σ hσ => ?_
  simp (disch := first | omega | (simp only [lenT]; omega)) only [a544, plV, evSt, ↓evPre, ↓evPreW, evPost, evPostW, evR, evU, seval]
  refine loopA (ι := Nat × List Ft) (fun i => [(1, .cptr [.sl 5 (p.1.map aptR), .sl 3 (p.2.map dstR)]), (3, accV S.length (i.2.map ftR)), (4, .int .i64 (i.1 : Nat))]) (fun i => S ++ accT 107 2 (i.2.map ftR))
    (fun i => i.1 ≤ p.1.length ∧ i.2.length ≤ 4 * i.1 ∧ (i.2 = [] → ∀ (j : Nat) (a : Apt), j < i.1 → p.1[j]? = some a → ZnOk a.sh)) (fun i => p.1.length - i.1) (0, []) ⟨Nat.zero_le _, by simp, fun _ j a hj => by simp at hj⟩ ?_ (by simp [accT]) ?_
  · simp only [List.map_nil, accV_nil, ↓evPre, ↓evPreW, evPost, evPostW, evR, evU, seval]
    try rfl
  rintro ⟨i, fs⟩ ⟨hi, hfl, hfz⟩
  simp only at hi hfl hfz ⊢
  cases hc : p.1[i]? with
  | none =>
    have hge := List.getElem?_eq_none_iff.1 hc
    have hlt : ¬ ((i : Int) < p.1.length) := by omega
    simp (disch := first | omega | (simp only [lenT]; omega)) only [dF hlt, evSt, ↓evPre, ↓evPreW, evPost, evPostW, evR, evU, seval]
    have hz : fs = [] → ∀ a ∈ p.1, ZnOk a.sh := fun h a ha => by
      obtain ⟨j, hj⟩ := List.getElem?_of_mem ha
      have := (List.getElem?_eq_some_iff.1 hj).1
      exact hfz h j a (by omega) hj
    refine loopA (ι := Nat × List Ft) (fun i => [(1, .cptr [.sl 5 (p.1.map aptR), .sl 3 (p.2.map dstR)]), (3, accV S.length (i.2.map ftR)), (7, .int .i64 (i.1 : Nat))]) (fun i => S ++ accT 107 2 (i.2.map ftR))
      (fun i => i.1 ≤ p.2.length ∧ i.2.length ≤ 4400000 + 4 * i.1 ∧ (i.2 = [] → ∀ a ∈ p.1, ZnOk a.sh)) (fun i => p.2.length - i.1) (0, fs) ⟨Nat.zero_le _, by simp only; omega, hz⟩ ?_ rfl ?_
    · simp only [↓evPre, ↓evPreW, evPost, evPostW, evR, evU, seval]
      try rfl
    rintro ⟨i, gs⟩ ⟨hi, hgl, hgz⟩
    simp only at hi hgl hgz ⊢
    cases hcd : p.2[i]? with
    | none =>
      have hge := List.getElem?_eq_none_iff.1 hcd
      have hlt : ¬ ((i : Int) < p.2.length) := by omega
      simp (disch := first | omega | (simp only [lenT]; omega)) only [dF hlt, evSt, ↓evPre, ↓evPreW, evPost, evPostW, evR, evU, seval]
      exact ⟨_, S, hn.fgt _, frz_acc (ftR_imm gs), Nat.le_refl _, gs, rfl, hgz, rfl⟩
    | some d =>
      have hlt' := (List.getElem?_eq_some_iff.1 hcd).1
      have hlt : ((i : Int) < p.2.length) := by omega
      have hi1 : (i : Int) + 1 = ((i + 1 : Nat) : Int) := by omega
      have hg := fun S => rdst_A p (by omega) (by omega) i d hcd S
      simp only [plV] at hg
      have hadd : binV .add (.str [100, 105, 115, 116, 97, 110, 99, 101, 32]) (.str (decX i)) = some (.str (txDst ++ decX i)) := bs_add (by have := decX_len i; simp only [List.length_cons, List.length_nil]; unfold maxLen; omega)
      simp (disch := first | omega | (simp only [lenT]; omega)) only [dT hlt, evSt, ↓evPre, ↓evPreW, evPost, evPostW, evR, evU, seval]
      refine (hg _).mono ?_
      rintro _ _ ⟨es, rfl, hle, rfl⟩
      simp (disch := first | omega | (simp only [lenT]; omega)) only [evSt, ↓evPre, ↓evPreW, evPost, evPostW, evR, evU, seval]
      refine loopA (ι := Nat) (fun k => [(1, .cptr [.sl 5 (p.1.map aptR), .sl 3 (p.2.map dstR)]), (3, accV S.length ((gs ++ (es.take k).map fun e => (⟨e, txDst ++ decX i⟩ : Ft)).map ftR)), (7, .int .i64 (i : Nat)), (8, .sl 1 (es.map inR)), (9, .int .i64 (k : Nat))]) (fun k => S ++ accT 107 2 ((gs ++ (es.take k).map fun e => (⟨e, txDst ++ decX i⟩ : Ft)).map ftR))
        (fun k => k ≤ es.length) (fun k => es.length - k) 0 (Nat.zero_le _) ?_ (by simp) ?_
      · simp only [List.map_nil, List.append_nil, ↓evPre, ↓evPreW, evPost, evPostW, evR, evU, seval]
        try rfl
      intro k hk
      cases hce : es[k]? with
      | none =>
        have hge := List.getElem?_eq_none_iff.1 hce
        have hltk : ¬ ((k : Int) < es.length) := by omega
        simp (disch := first | omega | (simp only [lenT]; omega)) only [dF hltk, wrap_i64, hi1, evSt, ↓evPre, ↓evPreW, evPost, evPostW, evR, evU, seval]
        refine ⟨(i + 1, gs ++ (es.take k).map fun e => (⟨e, txDst ++ decX i⟩ : Ft)), ⟨by simp only; omega, ?_, fun h => hgz (List.append_eq_nil_iff.1 h).1⟩, by simp only; omega, ⟨rfl, rfl⟩, rfl⟩
        simp only [List.length_append, List.length_map, List.length_take]
        omega
      | some e =>
        have hltk' := (List.getElem?_eq_some_iff.1 hce).1
        have hltk : ((k : Int) < es.length) := by omega
        have hk1 : (k : Int) + 1 = ((k + 1 : Nat) : Int) := by omega
        have hst : (gs ++ (es.take (k + 1)).map fun e => (⟨e, txDst ++ decX i⟩ : Ft)).map ftR = (gs ++ (es.take k).map fun e => (⟨e, txDst ++ decX i⟩ : Ft)).map ftR ++ [[.int .i64 e, .str (txDst ++ decX i)]] := by rw [take_at hce]; simp [ftR]
        have hb0 : ((gs ++ (es.take k).map fun e => (⟨e, txDst ++ decX i⟩ : Ft)).map ftR).length < 100000000 := by simp only [List.length_map, List.length_append, List.length_take]; omega
        simp (disch := first | omega | (simp only [lenT]; omega)) only [dT hltk, hce, inR, evSt, ↓evPre, ↓evPreW, evPost, evPostW, evR, evU, seval]
        refine exD.intro (decX_A i (by omega) _) ?_
        simp (disch := first | omega | (simp only [lenT]; omega)) only [hadd, app_accL rfl hb0, wrap_i64, hk1, evSt, ↓evPre, ↓evPreW, evPost, evPostW, evR, evU, seval]
        exact ⟨k + 1, by omega, by omega, by rw [hst]; exact ⟨rfl, rfl⟩, by rw [hst]⟩
  | some a =>
    have hlt' := (List.getElem?_eq_some_iff.1 hc).1
    have hlt : ((i : Int) < p.1.length) := by omega
    have hi1 : (i : Int) + 1 = ((i + 1 : Nat) : Int) := by omega
    have hg := fun S => rapt2_A p (by omega) i a hc S
    simp only [plV] at hg
    have hadd : binV .add (.str [97, 105, 114, 112, 111, 114, 116, 32]) (.str (decX i)) = some (.str (txApt ++ decX i)) := bs_add (by have := decX_len i; simp only [List.length_cons, List.length_nil]; unfold maxLen; omega)
    simp (disch := first | omega | (simp only [lenT]; omega)) only [dT hlt, evSt, ↓evPre, ↓evPreW, evPost, evPostW, evR, evU, seval]
    refine (hg _).mono ?_
    rintro _ _ ⟨es, rfl, hz, hle, rfl⟩
    simp (disch := first | omega | (simp only [lenT]; omega)) only [evSt, ↓evPre, ↓evPreW, evPost, evPostW, evR, evU, seval]
    refine loopA (ι := Nat) (fun k => [(1, .cptr [.sl 5 (p.1.map aptR), .sl 3 (p.2.map dstR)]), (3, accV S.length ((fs ++ (es.take k).map fun e => (⟨e, txApt ++ decX i⟩ : Ft)).map ftR)), (4, .int .i64 (i : Nat)), (5, .sl 1 (es.map inR)), (6, .int .i64 (k : Nat))]) (fun k => S ++ accT 107 2 ((fs ++ (es.take k).map fun e => (⟨e, txApt ++ decX i⟩ : Ft)).map ftR))
      (fun k => k ≤ es.length) (fun k => es.length - k) 0 (Nat.zero_le _) ?_ (by simp) ?_
    · simp only [List.map_nil, List.append_nil, ↓evPre, ↓evPreW, evPost, evPostW, evR, evU, seval]
      try rfl
    intro k hk
    cases hce : es[k]? with
    | none =>
      have hge := List.getElem?_eq_none_iff.1 hce
      have hltk : ¬ ((k : Int) < es.length) := by omega
      simp (disch := first | omega | (simp only [lenT]; omega)) only [dF hltk, wrap_i64, hi1, evSt, ↓evPre, ↓evPreW, evPost, evPostW, evR, evU, seval]
      refine ⟨(i + 1, fs ++ (es.take k).map fun e => (⟨e, txApt ++ decX i⟩ : Ft)), ⟨by simp only; omega, ?_, fun h j b hj hb => ?_⟩, by simp only; omega, ⟨rfl, rfl⟩, rfl⟩
      · simp only [List.length_append, List.length_map, List.length_take]
        omega
      · obtain ⟨h1, h2⟩ := List.append_eq_nil_iff.1 h
        simp only at hj
        by_cases hji : j = i
        · subst hji
          rw [hc] at hb
          cases hb
          rw [List.take_of_length_le hge] at h2
          exact hz (List.map_eq_nil_iff.1 h2)
        · exact hfz h1 j b (by omega) hb
    | some e =>
      have hltk' := (List.getElem?_eq_some_iff.1 hce).1
      have hltk : ((k : Int) < es.length) := by omega
      have hk1 : (k : Int) + 1 = ((k + 1 : Nat) : Int) := by omega
      have hst : (fs ++ (es.take (k + 1)).map fun e => (⟨e, txApt ++ decX i⟩ : Ft)).map ftR = (fs ++ (es.take k).map fun e => (⟨e, txApt ++ decX i⟩ : Ft)).map ftR ++ [[.int .i64 e, .str (txApt ++ decX i)]] := by rw [take_at hce]; simp [ftR]
      have hb0 : ((fs ++ (es.take k).map fun e => (⟨e, txApt ++ decX i⟩ : Ft)).map ftR).length < 100000000 := by simp only [List.length_map, List.length_append, List.length_take]; omega
      simp (disch := first | omega | (simp only [lenT]; omega)) only [dT hltk, hce, inR, evSt, ↓evPre, ↓evPreW, evPost, evPostW, evR, evU, seval]
      refine exD.intro (decX_A i (by omega) _) ?_
      simp (disch := first | omega | (simp only [lenT]; omega)) only [hadd, app_accL rfl hb0, wrap_i64, hk1, evSt, ↓evPre, ↓evPreW, evPost, evPostW, evR, evU, seval]
      exact ⟨k + 1, by omega, by omega, by rw [hst]; exact ⟨rfl, rfl⟩, by rw [hst]⟩
end Go.Proofs.YtkdbghhdklfoiaaDoor.Cm
