/- Shares: what is wrong with one, the reference's way; Check, both ways. Shares: Check, both ways. -/
import Derived.Test.YtiihkfjbllpiaaaGreatDoorQSh1
import Derived.Test.YtiihkfjbllpiaaaGreatDoorQSh2
namespace Go.Proofs.YtiihkfjbllpiaaaGreatDoor
open Go Go.AL
set_option linter.unusedSectionVars false
variable [Go.AL.Mode] [Go.AL.LooseM]
set_option linter.unusedSimpArgs false
set_option linter.unusedVariables false

set_option maxHeartbeats 16000000 in
set_option maxRecDepth 10000 in
theorem share_A (l : List Fl) (hl : FOk l) (sh : List Sr) (hs : sh.length ≤ 1000) (i : Nat) (x : Sr) (hx : sh[i]? = some x) (S : Store) : CallA Tryz.prog 79 [.sl 6 (l.map flR), .sl 9 (sh.map srR), .int .i64 (i : Nat)] S fun r S' => r = .sl 1 ((shErr l (sh.take i) x).map inR) ∧ S' = S := by
  refine CallA.withNeat Tryz.func79 c579 fun hn => ?_
  refine CallA.fin Tryz.func79 c579 (Nat.le_of_ble_eq_true rfl) fun σ hσ => ?_
  have hil := (List.getElem?_eq_some_iff.1 hx).1
  have hdy := fun S => rcdays_A l hl sh hs i x hx S
  have hdl : (dayE l (sh.take i) x).length ≤ 3 := by unfold dayE; simp only [List.length_append]; split <;> split <;> split <;> simp
  have hc1 := fun S => rcarrierT_A x.c S
  have hc2 := fun S => rcarrierT_A x.oc S
  have hck := fun S => rcheck_A x.p S
  simp only [pdR] at hck
  have r1 : (1 ≤ roomA) = True := by simp [roomA]
  have r2 : (2 ≤ roomA) = True := by simp [roomA]
  have r3 : (3 ≤ roomA) = True := by simp [roomA]
  have r4 : (4 ≤ roomA) = True := by simp [roomA]
  simp (disch := first | omega | (simp only [lenT]; omega)) only [a579, hx, srR, evSt, ↓evPre, ↓evPreW, evPost, evPostW, evR, evU, seval]
  refine (hc1 _).then ?_
  rcases arg_cases x with ⟨d1, d2, d3, d4⟩ | ⟨d1, d2, d3, d4⟩ | ⟨d1, d2, d3, d4⟩ | ⟨d1, d2, d3, d4⟩ | ⟨d1, d2, d3, d4⟩ <;> cases h1 : carF x.c <;> cases h3 : decide (x.c = x.oc) <;> simp (disch := first | omega | (simp only [lenT]; omega)) only [srR, d1, d2, d3, d4, h3, r1, r2, r3, r4, true_and, evSt, ↓evPre, ↓evPreW, evPost, evPostW, evR, evU, seval]
  all_goals try
    (refine (hc2 _).then ?_
     cases h2 : carF x.oc <;> simp (disch := first | omega | (simp only [lenT]; omega)) only [srR, d1, d2, d3, d4, h3, r1, r2, r3, r4, true_and, evSt, ↓evPre, ↓evPreW, evPost, evPostW, evR, evU, seval])
  all_goals refine (hck _).then ?_
  all_goals (cases h4 : decide (pdF x.p = 0) <;> simp (disch := first | omega | (simp only [lenT]; omega)) only [srR, d1, d2, d3, d4, h3, h4, r1, r2, r3, r4, true_and, evSt, ↓evPre, ↓evPreW, evPost, evPostW, evR, evU, seval])
  all_goals
    have hF := formF_eq x
    have hS := shErr_eq l (sh.take i) x
    clear hc1 hc2 hck
    simp only [*, Bool.true_and, Bool.false_and, Bool.and_false, Bool.and_true, Bool.true_or, Bool.false_or, Bool.or_true, Bool.or_false, Bool.false_eq_true, if_true, if_false, List.nil_append, List.append_nil, List.cons_append, List.singleton_append] at hF
    rw [hF] at hS
  all_goals first
    | (have hp : pdF x.p = 0 := of_decide_eq_true h4
       rw [if_pos hp] at hS
       refine (hdy _).then ?_
       simp (disch := first | omega | (simp only [lenT]; omega)) only [r1, r2, r3, r4, true_and, evSt, ↓evPre, ↓evPreW, evPost, evPostW, evR, evU, seval]
       rw [hS]
       refine ⟨by unfold roomA; omega, _, S, hn.fgt _, .sl (t := 34) (by omega) (by rw [ob_app, ob_cons, ob_head]; rfl) (by simp; try omega) (inR_imm _), Nat.le_refl _, rfl, rfl⟩)
    | (have hp : ¬ pdF x.p = 0 := of_decide_eq_false h4
       rw [if_neg hp, List.append_nil] at hS
       rw [hS]
       exact ⟨_, S, hn.fgt _, .sl (t := 34) (by omega) (by rw [ob_app, ob_cons, ob_head]; rfl) rfl (inR_imm _), Nat.le_refl _, rfl, rfl⟩)
def txSh : Txt := [115, 104, 97, 114, 101, 32]
def chkErrs (l : List Fl) (sh : List Sr) : Nat → List Ft
  | 0 => []
  | k + 1 => chkErrs l sh k ++ match sh[k]? with
    | some x => (shErr l (sh.take k) x).map fun e => ⟨e, txSh ++ decB k⟩
    | none => []
def chkF (l : List Fl) (sh : List Sr) : List Ft := chkErrs l sh sh.length
theorem shErr_len (l : List Fl) (e : List Sr) (x : Sr) : (shErr l e x).length ≤ 10 := by
  have h1 := formF_len x
  have h2 : (dayE l e x).length ≤ 3 := by unfold dayE; simp only [List.length_append]; split <;> split <;> split <;> simp
  rw [shErr_eq, List.length_append]
  split
  · omega
  · simp; omega
theorem chkErrs_len (l : List Fl) (sh : List Sr) : ∀ k, (chkErrs l sh k).length ≤ 10 * k
  | 0 => by simp [chkErrs]
  | k + 1 => by
    have h := chkErrs_len l sh k
    rw [chkErrs, List.length_append]
    cases hc : sh[k]? with
    | none => simp only [List.length_nil]; omega
    | some x => have := shErr_len l (sh.take k) x; simp only [List.length_map]; omega
theorem chk_ok {l : List Fl} {sh : List Sr} (h : chkF l sh = []) : ShOk l sh := by
  have all : ∀ k, k ≤ sh.length → chkErrs l sh k = [] → ∀ i x, i < k → sh[i]? = some x → shErr l (sh.take i) x = [] := by
    intro k
    induction k with
    | zero => intro _ _ i x hi; omega
    | succ k ih =>
      intro hk he i x hi hx
      rw [chkErrs] at he
      obtain ⟨e1, e2⟩ := List.append_eq_nil_iff.1 he
      by_cases hik : i = k
      · subst hik
        rw [hx] at e2
        exact List.map_eq_nil_iff.1 e2
      · exact ih (by omega) e1 i x (by omega) hx
  intro i x hx
  exact all sh.length (Nat.le_refl _) h i x (List.getElem?_eq_some_iff.1 hx).1 hx
theorem rcheckS_A (p : Pls) (l : List Fl) (hl : FOk l) (sh : List Sr) (hs : sh.length ≤ 90) (S : Store) : CallA Tryz.prog 32 [plV p, .sl 6 (l.map flR), .sl 9 (sh.map srR)] S fun r S' => r = .sl 2 ((chkF l sh).map ftR) ∧ S' = S := by
  refine CallA.withNeat Tryz.func32 c532 fun hn => ?_
  refine CallA.fin Tryz.func32 c532 (Nat.le_of_ble_eq_true rfl) fun σ hσ => ?_
  simp (disch := first | omega | (simp only [lenT]; omega)) only [a532, plV, evSt, ↓evPre, ↓evPreW, evPost, evPostW, evR, evU, seval]
  refine loopA (ι := Nat) (fun i => [(1, .sl 6 (l.map flR)), (2, .sl 9 (sh.map srR)), (7, accV S.length ((chkErrs l sh i).map ftR)), (8, .int .i64 (i : Nat))]) (fun i => S ++ accT 78 2 ((chkErrs l sh i).map ftR)) (fun i => i ≤ sh.length) (fun i => sh.length - i) 0 (Nat.zero_le _) ?_ (by simp [chkErrs, accT]) ?_
  · simp only [chkErrs, List.map_nil, accV_nil, ↓evPre, ↓evPreW, evPost, evPostW, evR, evU, seval]
    try rfl
  intro i hi
  have htl := chkErrs_len l sh i
  cases hc : sh[i]? with
  | none =>
    have hge := List.getElem?_eq_none_iff.1 hc
    have hlt : ¬ ((i : Int) < sh.length) := by omega
    have hil : i = sh.length := by omega
    simp (disch := first | omega | (simp only [lenT]; omega)) only [dF hlt, evSt, ↓evPre, ↓evPreW, evPost, evPostW, evR, evU, seval]
    refine ⟨_, S, hn.fgt _, frz_acc (ftR_imm _), Nat.le_refl _, ?_, rfl⟩
    rw [hil]
    rfl
  | some x =>
    have hlt' := (List.getElem?_eq_some_iff.1 hc).1
    have hlt : ((i : Int) < sh.length) := by omega
    have hi1 : (i : Int) + 1 = ((i + 1 : Nat) : Int) := by omega
    have hg := fun S => share_A l hl sh (by omega) i x hc S
    have hel := shErr_len l (sh.take i) x
    have hdl := decB_len i
    have hst : chkErrs l sh (i + 1) = chkErrs l sh i ++ (shErr l (sh.take i) x).map fun e => (⟨e, txSh ++ decB i⟩ : Ft) := by rw [chkErrs, hc]
    generalize shErr l (sh.take i) x = es at hg hel hst
    have hadd : binV .add (.str [115, 104, 97, 114, 101, 32]) (.str (decB i)) = some (.str (txSh ++ decB i)) := bs_add (by simp only [List.length_cons, List.length_nil]; unfold maxLen; omega)
    simp (disch := first | omega | (simp only [lenT]; omega)) only [dT hlt, evSt, ↓evPre, ↓evPreW, evPost, evPostW, evR, evU, seval]
    refine (hg _).then ?_
    simp (disch := first | omega | (simp only [lenT]; omega)) only [evSt, ↓evPre, ↓evPreW, evPost, evPostW, evR, evU, seval]
    refine loopA (ι := Nat) (fun k => [(1, .sl 6 (l.map flR)), (2, .sl 9 (sh.map srR)), (7, accV S.length ((chkErrs l sh i ++ (es.take k).map fun e => (⟨e, txSh ++ decB i⟩ : Ft)).map ftR)), (8, .int .i64 (i : Nat)), (9, .sl 1 (es.map inR)), (10, .int .i64 (k : Nat))])
      (fun k => S ++ accT 78 2 ((chkErrs l sh i ++ (es.take k).map fun e => (⟨e, txSh ++ decB i⟩ : Ft)).map ftR)) (fun k => k ≤ es.length) (fun k => es.length - k) 0 (Nat.zero_le _) ?_ (by simp) ?_
    · simp only [List.map_nil, List.append_nil, ↓evPre, ↓evPreW, evPost, evPostW, evR, evU, seval]
      try rfl
    intro k hk
    cases hce : es[k]? with
    | some f =>
      have hltk' := (List.getElem?_eq_some_iff.1 hce).1
      have hltk : ((k : Int) < es.length) := by omega
      have hk1 : (k : Int) + 1 = ((k + 1 : Nat) : Int) := by omega
      have hs2 : (chkErrs l sh i ++ (es.take (k + 1)).map fun e => (⟨e, txSh ++ decB i⟩ : Ft)).map ftR = (chkErrs l sh i ++ (es.take k).map fun e => (⟨e, txSh ++ decB i⟩ : Ft)).map ftR ++ [[.int .i64 f, .str (txSh ++ decB i)]] := by rw [take_at hce]; simp [ftR]
      have hb0 : ((chkErrs l sh i ++ (es.take k).map fun e => (⟨e, txSh ++ decB i⟩ : Ft)).map ftR).length < 100000000 := by simp only [List.length_map, List.length_append, List.length_take]; omega
      simp (disch := first | omega | (simp only [lenT]; omega)) only [dT hltk, hce, inR, evSt, ↓evPre, ↓evPreW, evPost, evPostW, evR, evU, seval]
      refine exD.intro (decimal_A i _ (by omega)) ?_
      simp (disch := first | omega | (simp only [lenT]; omega)) only [hadd, app_accL rfl hb0, wrap_i64, hk1, evSt, ↓evPre, ↓evPreW, evPost, evPostW, evR, evU, seval]
      exact ⟨k + 1, by omega, by omega, by rw [hs2]; exact ⟨rfl, rfl⟩, by rw [hs2]⟩
    | none =>
      have hge := List.getElem?_eq_none_iff.1 hce
      have hltk : ¬ ((k : Int) < es.length) := by omega
      rw [List.take_of_length_le hge]
      simp (disch := first | omega | (simp only [lenT]; omega)) only [dF hltk, wrap_i64, hi1, evSt, ↓evPre, ↓evPreW, evPost, evPostW, evR, evU, seval]
      exact ⟨i + 1, by omega, by omega, by rw [hst]; exact ⟨rfl, rfl⟩, by rw [hst]⟩

theorem form_G (x : Sr) (S : Store) : CallA Tryz.prog 75 [.agg (srR x)] S fun r S' => ∃ v, r = .msl S.length v 0 (formF x).length ∧ S' = S ++ [⟨v, some (.arr 34 1 ((formF x).map inR))⟩] := by
  refine (form_A x S).ghost ?_
  rintro _ _ ⟨rfl, rfl⟩
  cases formF x with
  | nil => exact .inr ⟨rfl, 0, 34, 1, 0, by simp [accT], by simp [accT]⟩
  | cons a l => exact .inl ⟨l.length, by simp [accV], by simp [accT]⟩
set_option maxHeartbeats 4000000 in
theorem checkS_A (p : Pls) (l : List Fl) (hl : FOk l) (sh : List Sr) (hs : sh.length ≤ 90) (S : Store) : CallA Tryz.prog 31 [plV p, .sl 6 (l.map flR), .sl 9 (sh.map srR)] S fun r S' => r = .sl 2 ((chkF l sh).map ftR) ∧ S' = S := by
  refine CallA.withNeat Tryz.func31 c531 fun hn => ?_
  refine CallA.fin Tryz.func31 c531 (Nat.le_of_ble_eq_true rfl) fun σ hσ => ?_
  simp (disch := first | omega | (simp only [lenT]; omega)) only [a531, plV, evSt, ↓evPre, ↓evPreW, evPost, evPostW, evR, evU, seval]
  refine LoopA.ghost 7 0 78 2 rfl ?_
  refine loopF (ι := Nat × Nat) (fun i => [(1, .sl 6 (l.map flR)), (2, .sl 9 (sh.map srR)), (7, .msl S.length i.2 0 (chkErrs l sh i.1).length), (13, .sl 9 (sh.map srR)), (14, .int .i64 sh.length), (15, .int .i64 (i.1 : Nat))]) (fun i => S ++ [⟨i.2, some (.arr 78 2 ((chkErrs l sh i.1).map ftR))⟩]) (fun i => i.1 ≤ sh.length) (fun i => sh.length - i.1) (fun i hi => by rw [hσ]; simp) (0, 0) (Nat.zero_le _) (.inl ⟨?_, ?_⟩) ?_
  · simp [chkErrs, sub, Env.get]
  · simp [chkErrs]
  rintro ⟨i, v⟩ hi
  simp only at hi ⊢
  have htl := chkErrs_len l sh i
  cases hc : sh[i]? with
  | none =>
    have hge := List.getElem?_eq_none_iff.1 hc
    have hlt : ¬ ((i : Int) < sh.length) := by omega
    have hil : i = sh.length := by omega
    subst hil
    simp (disch := first | omega | (simp only [lenT]; omega)) only [dF hlt, evSt, ↓evPre, ↓evPreW, evPost, evPostW, evR, evU, seval]
    exact ⟨_, S, hn.fgt _, ft_frz rfl, Nat.le_refl _, rfl, rfl⟩
  | some x =>
    have hlt' := (List.getElem?_eq_some_iff.1 hc).1
    have hlt : ((i : Int) < sh.length) := by omega
    have hi1 : (i : Int) + 1 = ((i + 1 : Nat) : Int) := by omega
    have hel := shErr_len l (sh.take i) x
    have hdl := decB_len i
    have hst : chkErrs l sh (i + 1) = chkErrs l sh i ++ (shErr l (sh.take i) x).map fun e => (⟨e, txSh ++ decB i⟩ : Ft) := by rw [chkErrs, hc]
    have hse := shErr_eq l (sh.take i) x
    have hfm := fun S => form_G x S
    have hck := fun S => check_A x.p S
    have hdy := fun S => cdays_A l hl (sh.take i) (by simp; omega) x S
    simp only [srR, pdR] at hfm hck hdy
    have hadd : binV .add (.str [115, 104, 97, 114, 101, 32]) (.str (decB i)) = some (.str (txSh ++ decB i)) := bs_add (by simp only [List.length_cons, List.length_nil]; unfold maxLen; omega)
    have hffl := formF_len x
    have himm := ftR_imm (chkErrs l sh (i + 1))
    generalize hes : shErr l (sh.take i) x = es at hel hst hse
    generalize hrs : chkErrs l sh i = rs at htl hst ⊢
    apply share_ix (P := Tryz.prog) (N := 51) (σ := σ) (ι := Nat) (fun _ => True) (fun w => [(1, .sl 6 (l.map flR)), (2, .sl 9 (sh.map srR)), (7, .msl S.length v 0 rs.length), (13, .sl 9 (sh.map srR)), (14, .int .i64 sh.length), (15, .int .i64 (i : Nat)), (8, .int .i64 (i : Nat)), (34, .msl (S.length + 2) w 0 es.length), (35, .int .i64 es.length), (36, .int .i64 0)])
      (fun w => S ++ [⟨v, some (.arr 78 2 (rs.map ftR))⟩, ⟨0, some (.arr 108 9 [srR x])⟩, ⟨w, some (.arr 34 1 (es.map inR))⟩])
    · intro key
      simp (disch := first | omega | (simp only [lenT]; omega)) only [srR, dT hlt, hc, evSt, ↓evPre, ↓evPreW, evPost, evPostW, evR, evU, seval]
      refine (hfm _).mono ?_
      rintro _ _ ⟨w, rfl, rfl⟩
      simp (disch := first | omega | (simp only [lenT]; omega)) only [srR, evSt, ↓evPre, ↓evPreW, evPost, evPostW, evR, evU, seval]
      refine (hck _).then ?_
      by_cases h0 : pdF x.p = 0
      · rw [if_pos h0] at hse
        have htk : (sh.map srR).take i = (sh.take i).map srR := by rw [List.map_take]
        have hcd : (((i : Nat) : Int) ≤ (sh.length : Nat)) = True := eq_true (by omega)
        simp (disch := first | omega | (simp only [lenT]; omega)) only [srR, dT h0, htk, hcd, if_true, evSt, ↓evPre, ↓evPreW, evPost, evPostW, evR, evU, seval]
        have hle : (formF x).length + (dayE l (sh.take i) x).length = es.length := by rw [hse, List.length_append]
        have hap : (formF x).map inR ++ (dayE l (sh.take i) x).map inR = es.map inR := by rw [hse, List.map_append]
        refine (hdy _).then ?_
        simp (disch := first | omega | (simp only [lenT]; omega)) only [srR, hle, hap, evSt, ↓evPre, ↓evPreW, evPost, evPostW, evR, evU, seval]
        exact ⟨by unfold roomA; omega, (key (w + 1) trivial).sub (by simp only [srR, ↓evPre, ↓evPreW, evPost, evPostW, evR, evU, seval])⟩
      · rw [if_neg h0, List.append_nil] at hse
        rw [← hse]
        simp (disch := first | omega | (simp only [lenT]; omega)) only [srR, dF h0, evSt, ↓evPre, ↓evPreW, evPost, evPostW, evR, evU, seval]
        exact (key w trivial).sub (by simp only [srR, ↓evPre, ↓evPreW, evPost, evPostW, evR, evU, seval])
    · intro w _
      refine loopA (ι := Nat) (fun j => [(1, .sl 6 (l.map flR)), (2, .sl 9 (sh.map srR)), (7, .msl S.length (v + j) 0 (rs.length + j)), (13, .sl 9 (sh.map srR)), (14, .int .i64 sh.length), (15, .int .i64 (i : Nat)), (8, .int .i64 (i : Nat)), (34, .msl (S.length + 2) w 0 es.length), (35, .int .i64 es.length), (36, .int .i64 (j : Nat))])
        (fun j => S ++ [⟨v + j, some (.arr 78 2 ((rs ++ (es.take j).map fun e => (⟨e, txSh ++ decB i⟩ : Ft)).map ftR))⟩, ⟨0, some (.arr 108 9 [srR x])⟩, ⟨w, some (.arr 34 1 (es.map inR))⟩]) (fun j => j ≤ es.length) (fun j => es.length - j) 0 (Nat.zero_le _) ?_ (by simp) ?_
      · simp only [Nat.add_zero, ↓evPre, ↓evPreW, evPost, evPostW, evR, evU, seval]
        try rfl
      intro j hj
      cases hce : es[j]? with
      | none =>
        have hge := List.getElem?_eq_none_iff.1 hce
        have hltk : ¬ ((j : Int) < es.length) := by omega
        have hje : j = es.length := by omega
        rw [List.take_of_length_le hge, ← hst]
        simp (disch := first | omega | (simp only [lenT]; omega)) only [dF hltk, wrap_i64, hi1, evSt, ↓evPre, ↓evPreW, evPost, evPostW, evR, evU, seval]
        refine ⟨(i + 1, v + j), by simp only; omega, by simp only; omega, back_under ?_ ?_ (by simp [V.under, V.allUnder])⟩
        · show Fgt _ (S ++ [⟨v + j, some (.arr 78 2 ((chkErrs l sh (i + 1)).map ftR))⟩])
          exact hn.fgtL (L := [_, _, _]) (L1 := [_]) ⟨rfl, ⟨_, rfl, .imm himm⟩, trivial⟩
        · have hll : (chkErrs l sh (i + 1)).length = rs.length + j := by rw [hst, hje]; simp
          simp only [hll, ↓evPre, ↓evPreW, evPost, evPostW, evR, evU, seval]
      | some e =>
        have hltk' := (List.getElem?_eq_some_iff.1 hce).1
        have hltk : ((j : Int) < es.length) := by omega
        have hj1 : (j : Int) + 1 = ((j + 1 : Nat) : Int) := by omega
        have hs2 : (rs ++ (es.take j).map fun e => (⟨e, txSh ++ decB i⟩ : Ft)).map ftR ++ [[.int .i64 e, .str (txSh ++ decB i)]] = (rs ++ (es.take (j + 1)).map fun e => (⟨e, txSh ++ decB i⟩ : Ft)).map ftR := by rw [take_at hce]; simp [ftR]
        have hl2 : ((rs ++ (es.take j).map fun e => (⟨e, txSh ++ decB i⟩ : Ft)).map ftR).length = rs.length + j := by simp; omega
        simp (disch := first | omega | (simp only [lenT]; omega)) only [dT hltk, hce, inR, evSt, ↓evPre, ↓evPreW, evPost, evPostW, evR, evU, seval]
        refine (tdecimal_A i _ (by omega)).then ?_
        simp (disch := first | omega | (simp only [lenT]; omega)) only [hadd, hs2, wrap_i64, hj1, evSt, ↓evPre, ↓evPreW, evPost, evPostW, evR, evU, seval]
        refine ⟨by simpa using hl2, by unfold roomA; omega, j + 1, by omega, by omega, ?_, rfl⟩
        simp only [Nat.add_assoc, ↓evPre, ↓evPreW, evPost, evPostW, evR, evU, seval]
        try rfl
end Go.Proofs.YtiihkfjbllpiaaaGreatDoor
