/- flight.Check: what is wrong with a flight. -/
import Derived.Test.YtiihkfjbllpiaaaDoorSchP
namespace Go.Proofs.YtiihkfjbllpiaaaDoor
open Go Go.AL
set_option linter.unusedSectionVars false
variable [Go.AL.Mode] [Go.AL.LooseM]
set_option linter.unusedSimpArgs false
set_option linter.unusedVariables false

/-- A list behind a box that holds it. -/
def addS (S : Store) (rows : List (List V)) : Store := S ++ ⟨0, some (.arr 47 1 [[accV (S.length + 1) rows]])⟩ :: accT 55 2 rows
theorem addS_nil (S : Store) : S ++ [⟨0, some (.arr 47 1 [[.nilSl]])⟩] = addS S [] := rfl
theorem addS_obj (S : Store) (rows : List (List V)) : (addS S rows).obj? S.length 0 = some (47, 1, [[accV (S.length + 1) rows]]) := by rw [addS, ob_app0, ob_head]
theorem add_A (e : Int) (t : Txt) (rows : List (List V)) (hr : rows.length < 1000000) (S : Store) : CallA Tryd.prog 45 [.int .i64 e, .str t, .ptr S.length 0 0 0] (addS S rows) fun r S' => r = .tup [] ∧ S' = addS S (rows ++ [[.int .i64 e, .str t]]) := by
  refine CallA.keep Tryd.func45 c588 (Nat.le_of_ble_eq_true rfl) fun σ hσ => ?_
  cases rows with
  | nil =>
    simp (disch := first | omega | (simp only [lenT]; omega)) only [addS, accV, accT, a588, List.nil_append, List.length_nil, evSt, ↓evPre, ↓evPreW, evPost, evPostW, evR, evU, seval]
    simp [roomA]
  | cons r rs =>
    simp only [List.length_cons] at hr
    simp (disch := first | omega | (simp only [lenT]; omega)) only [addS, accV, accT, a588, List.cons_append, evSt, ↓evPre, ↓evPreW, evPost, evPostW, evR, evU, seval]
    exact ⟨by unfold roomA; omega, by simp⟩

theorem share_if {P : Program} {N : Nat} {σ : Base} {G : Prop} (H : Prop) (E0 : Env) (S0 : Store) (b : ACode) (Q : Exit → Env → Store → Prop) (k2 : (H → LoopA P N σ b Q E0 S0) → G) (k1 : H → LoopA P N σ b Q E0 S0) : G := k2 k1
theorem len_acc (S : Store) (n : Nat) (rows : List (List V)) : lenAV S (accV n rows) = some (.int .i64 (rows.length : Nat)) := by
  cases rows <;> rfl
def txC : Txt := [99, 97, 114, 114, 105, 101, 114]
def txN : Txt := [110, 117, 109, 98, 101, 114]
def txP : Txt := [112, 101, 114, 105, 111, 100]
def txL : Txt := [108, 101, 103, 115]
def txLeg : Txt := [108, 101, 103, 32]
def txDay : Txt := [100, 97, 121, 32]
def hd1 (x : Fl) : List Ft := if carF x.c then [] else [⟨5, txC⟩]
def hd2 (x : Fl) : List Ft := hd1 x ++ if x.n < 1 ∨ 9999 < x.n then [⟨2, txN⟩] else []
def hdErr (x : Fl) : List Ft := hd2 x ++ if pdF x.p ≠ 0 then [⟨pdF x.p, txP⟩] else []
def legsErr (p : Pls) (L : List Lg) : Nat → List Ft
  | 0 => []
  | k + 1 => legsErr p L k ++ match L[k]? with
    | some l => (legErr p L k l).map fun e => ⟨e, txLeg ++ decB k⟩
    | none => []
theorem legErr_len (p : Pls) (L : List Lg) (i : Nat) (l : Lg) : (legErr p L i l).length ≤ 4 := by
  unfold legErr
  simp only [List.length_append]
  split <;> split <;> split <;> split <;> simp
theorem legsErr_len (p : Pls) (L : List Lg) : ∀ k, (legsErr p L k).length ≤ 4 * k
  | 0 => by simp [legsErr]
  | k + 1 => by
    have h := legsErr_len p L k
    rw [legsErr, List.length_append]
    cases hc : L[k]? with
    | none => simp only [List.length_nil]; omega
    | some l => have := legErr_len p L k l; simp only [List.length_map]; omega
theorem hd1_len (x : Fl) : (hd1 x).length ≤ 1 := by unfold hd1; split <;> simp
theorem hd2_len (x : Fl) : (hd2 x).length ≤ 2 := by have := hd1_len x; unfold hd2; rw [List.length_append]; split <;> simp <;> omega
theorem hdErr_len (x : Fl) : (hdErr x).length ≤ 3 := by have := hd2_len x; unfold hdErr; rw [List.length_append]; split <;> simp <;> omega
def badDay (p : Pls) (x : Fl) (d : Int) : Bool := !ordL none (legsF p x d)
def dayErr (p : Pls) (x : Fl) (T : Int → Txt) : List Ft := match (daysF x.p).find? (badDay p x) with
  | some d => [⟨13, txDay ++ T d⟩]
  | none => []
def flErr (p : Pls) (x : Fl) (T : Int → Txt) : List Ft :=
  if x.legs.length = 0 ∨ 6 < x.legs.length then hdErr x ++ [⟨4, txL⟩] else if hdErr x ++ legsErr p x.legs x.legs.length = [] then dayErr p x T else hdErr x ++ legsErr p x.legs x.legs.length

theorem ftR_imm (l : List Ft) : ∀ r ∈ l.map ftR, r.length = 2 ∧ V.allImm r = true := fun r hr => by
  obtain ⟨x, _, rfl⟩ := List.mem_map.1 hr
  exact ⟨rfl, rfl⟩
theorem addS_frz (S : Store) (rows : List (List V)) (hr : ∀ r ∈ rows, r.length = 2 ∧ V.allImm r = true) : Frz (addS S rows) S (accV (S.length + 1) rows) (.sl 2 rows) := by
  cases rows with
  | nil => exact .nil
  | cons x rows => exact .sl (t := 55) (by omega) (by rw [addS, ob_app, ob_cons, accT, ob_head]) (by simp) hr
set_option maxHeartbeats 4000000 in
theorem flight_A (p : Pls) (hp : POk p) (x : Fl) (hl : x.legs.length ≤ 1100000) (T : Int → Txt) (hP : ∀ d ∈ daysF x.p, badDay p x d = true → ∀ S, CallA Tryd.prog 50 [.int .i64 d] S fun r S' => r = .str (T d) ∧ S' = S) (hT : ∀ d, (T d).length ≤ 100) (S : Store) :
    CallA Tryd.prog 27 [plV p, .agg (flR x)] S fun r S' => r = .sl 2 ((flErr p x T).map ftR) ∧ S' = S := by
  refine CallA.withNeat Tryd.func27 c546 fun hn => ?_
  refine CallA.fin Tryd.func27 c546 (Nat.le_of_ble_eq_true rfl) fun σ hσ => ?_
  have hcar := fun S => carrierT_A x.c S
  have hck := fun S => check_A x.p S
  simp only [pdR] at hck
  simp (disch := first | omega | (simp only [lenT]; omega)) only [a546, plV, flR, addS_nil, evSt, ↓evPre, ↓evPreW, evPost, evPostW, evR, evU, seval]
  have a1 : carF x.c = true → addS S [] = addS S ((hd1 x).map ftR) := fun h => by simp [hd1, h]
  have a2 : carF x.c = false → addS S ([] ++ [[.int .i64 5, .str txC]]) = addS S ((hd1 x).map ftR) := fun h => by simp [hd1, h, ftR]
  have a3 : ¬ (x.n < 1 ∨ 9999 < x.n) → addS S ((hd1 x).map ftR) = addS S ((hd2 x).map ftR) := fun h => by simp [hd2, h]
  have a4 : x.n < 1 ∨ 9999 < x.n → addS S ((hd1 x).map ftR ++ [[.int .i64 2, .str txN]]) = addS S ((hd2 x).map ftR) := fun h => by simp [hd2, h, ftR]
  have a5 : pdF x.p = 0 → addS S ((hd2 x).map ftR) = addS S ((hdErr x).map ftR) := fun h => by simp [hdErr, h]
  have a6 : pdF x.p ≠ 0 → addS S ((hd2 x).map ftR ++ [[.int .i64 (pdF x.p), .str txP]]) = addS S ((hdErr x).map ftR) := fun h => by simp [hdErr, h, ftR]
  have l1 : ((hd1 x).map ftR).length < 1000000 := by have := hd1_len x; simp; omega
  have l2 : ((hd2 x).map ftR).length < 1000000 := by have := hd2_len x; simp; omega
  have l3 : ((hdErr x).map ftR).length < 1000000 := by have := hdErr_len x; simp; omega
  apply share_if (P := Tryd.prog) (N := 100) (σ := σ) (¬ (x.legs.length = 0 ∨ 6 < x.legs.length)) [(2, .cptr [.sl 5 (p.1.map aptR), .sl 3 (p.2.map dstR)]), (3, .cptr (flR x)), (5, .ptr S.length 0 0 0), (6, .func 45 [] [.ptr S.length 0 0 0]), (53, .int .i64 x.legs.length), (54, .int .i64 0)] (addS S ((hdErr x).map ftR))
  · intro key
    refine (hcar _).then ?_
    cases hb1 : carF x.c
    case' true => rw [a1 hb1]
    case' false =>
      simp (disch := first | omega | (simp only [lenT]; omega)) only [flR, addS_obj, evSt, ↓evPre, ↓evPreW, evPost, evPostW, evR, evU, seval]
      refine (add_A 5 txC [] (by simp) S).mono ?_
      rintro _ _ ⟨rfl, rfl⟩
      rw [a2 hb1]
    all_goals
      by_cases h1 : x.n < 1
      case' pos =>
        simp (disch := first | omega | (simp only [lenT]; omega)) only [flR, addS_obj, dT h1, evSt, ↓evPre, ↓evPreW, evPost, evPostW, evR, evU, seval]
        refine (add_A 2 txN _ l1 S).mono ?_
        rintro _ _ ⟨rfl, rfl⟩
        rw [a4 (.inl h1)]
        simp (disch := first | omega | (simp only [lenT]; omega)) only [flR, addS_obj, evSt, ↓evPre, ↓evPreW, evPost, evPostW, evR, evU, seval]
      case' neg =>
        by_cases h2 : 9999 < x.n
        case' pos =>
          simp (disch := first | omega | (simp only [lenT]; omega)) only [flR, addS_obj, dF h1, dT h2, evSt, ↓evPre, ↓evPreW, evPost, evPostW, evR, evU, seval]
          refine (add_A 2 txN _ l1 S).mono ?_
          rintro _ _ ⟨rfl, rfl⟩
          rw [a4 (.inr h2)]
          simp (disch := first | omega | (simp only [lenT]; omega)) only [flR, addS_obj, evSt, ↓evPre, ↓evPreW, evPost, evPostW, evR, evU, seval]
        case' neg =>
          rw [a3 (fun h => h.elim h1 h2)]
          simp (disch := first | omega | (simp only [lenT]; omega)) only [flR, addS_obj, dF h1, dF h2, evSt, ↓evPre, ↓evPreW, evPost, evPostW, evR, evU, seval]
    all_goals
      refine (hck _).then ?_
      by_cases hb3 : pdF x.p = 0
      case' pos =>
        rw [a5 hb3]
        have hd3 := dT hb3
      case' neg =>
        have hd3 := dF hb3
        simp (disch := first | omega | (simp only [lenT]; omega)) only [flR, addS_obj, hd3, evSt, ↓evPre, ↓evPreW, evPost, evPostW, evR, evU, seval]
        refine (add_A (pdF x.p) txP _ l2 S).mono ?_
        rintro _ _ ⟨rfl, rfl⟩
        rw [a6 hb3]
    all_goals
      by_cases hL : x.legs.length = 0 ∨ 6 < x.legs.length
      case' pos =>
        have hR : (flErr p x T).map ftR = (hdErr x).map ftR ++ [[.int .i64 4, .str txL]] := by unfold flErr; rw [if_pos hL, List.map_append]; rfl
        have himm := ftR_imm (flErr p x T)
        rw [hR] at himm ⊢
        rcases Nat.eq_zero_or_pos x.legs.length with h6 | h6
        case' inl => have h7 : decide ((x.legs.length : Int) = 0) = true := decide_eq_true (by omega)
        case' inr =>
          have h7 : decide ((x.legs.length : Int) = 0) = false := decide_eq_false (by omega)
          have h8 : decide (6 < (x.legs.length : Int)) = true := decide_eq_true (by omega)
        case' inl => simp (disch := first | omega | (simp only [lenT]; omega)) only [flR, addS_obj, hd3, h7, evSt, ↓evPre, ↓evPreW, evPost, evPostW, evR, evU, seval]
        case' inr => simp (disch := first | omega | (simp only [lenT]; omega)) only [flR, addS_obj, hd3, h7, h8, evSt, ↓evPre, ↓evPreW, evPost, evPostW, evR, evU, seval]
        all_goals
          refine (add_A 4 txL _ l3 S).mono ?_
          rintro _ _ ⟨rfl, rfl⟩
          simp (disch := first | omega | (simp only [lenT]; omega)) only [flR, addS_obj, evSt, ↓evPre, ↓evPreW, evPost, evPostW, evR, evU, seval]
          exact ⟨_, S, hn.fgt _, addS_frz _ _ himm, Nat.le_refl _, rfl, rfl⟩
    all_goals
      have h7 : decide ((x.legs.length : Int) = 0) = false := decide_eq_false (by omega)
      have h8 : decide (6 < (x.legs.length : Int)) = false := decide_eq_false (by omega)
      simp (disch := first | omega | (simp only [lenT]; omega)) only [flR, addS_obj, hd3, h7, h8, evSt, ↓evPre, ↓evPreW, evPost, evPostW, evR, evU, seval]
      exact (key hL).sub (by simp only [flR, ↓evPre, ↓evPreW, evPost, evPostW, evR, evU, seval])
  · intro hL
    have hg := fun (i : Nat) (l : Lg) (hc : x.legs[i]? = some l) S => leg_A p hp x.legs i l (by omega) hc S
    simp only [plV] at hg
    refine loopA (ι := Nat) (fun k => [(2, .cptr [.sl 5 (p.1.map aptR), .sl 3 (p.2.map dstR)]), (3, .cptr (flR x)), (5, .ptr S.length 0 0 0), (6, .func 45 [] [.ptr S.length 0 0 0]), (53, .int .i64 x.legs.length), (54, .int .i64 (k : Nat))]) (fun k => addS S ((hdErr x ++ legsErr p x.legs k).map ftR)) (fun k => k ≤ x.legs.length) (fun k => x.legs.length - k) 0 (Nat.zero_le _) ?_ (by simp [legsErr]) ?_
    · simp only [↓evPre, ↓evPreW, evPost, evPostW, evR, evU, seval]
      try rfl
    intro k hk
    have hle := legsErr_len p x.legs k
    have hhe := hdErr_len x
    cases hc : x.legs[k]? with
    | none =>
      have hge : x.legs.length ≤ k := List.getElem?_eq_none_iff.1 hc
      have hlt : ¬ ((k : Int) < x.legs.length) := by omega
      have hkl : k = x.legs.length := by omega
      subst hkl
      simp (disch := first | omega | (simp only [lenT]; omega)) only [flR, addS_obj, len_acc, dF hlt, evSt, ↓evPre, ↓evPreW, evPost, evPostW, evR, evU, seval]
      refine ⟨fun h => ?_, fun h => ?_⟩
      · have hF : flErr p x T = hdErr x ++ legsErr p x.legs x.legs.length := by
          unfold flErr
          rw [if_neg hL, if_neg (fun h0 => by rw [h0] at h; simp at h)]
        exact ⟨_, S, hn.fgt _, addS_frz _ _ (ftR_imm _), Nat.le_refl _, by rw [hF], rfl⟩
      · have hnil : hdErr x ++ legsErr p x.legs x.legs.length = [] := List.eq_nil_of_length_eq_zero (by omega)
        have hF : flErr p x T = dayErr p x T := by
          unfold flErr
          rw [if_neg hL, if_pos hnil]
        rw [hF, hnil]
        have hdy := fun S => days_A x.p S
        have hor := fun d S => ordered_A p hp x d (by omega) S
        simp only [pdR, plV] at hdy hor
        refine (hdy _).then ?_
        simp (disch := first | omega | (simp only [lenT]; omega)) only [flR, addS_obj, List.map_nil, evSt, ↓evPre, ↓evPreW, evPost, evPostW, evR, evU, seval]
        have hdl : (daysF x.p).length ≤ 800 := by
          by_cases hok : pdF x.p = 0
          · rw [daysF_eq hok]
            have := daysTo_len x.p (x.p.t - x.p.f + 1).toNat
            have := pd_ok hok
            omega
          · unfold daysF; rw [if_neg hok]; simp
        refine loopA (ι := Nat) (fun j => [(2, .cptr [.sl 5 (p.1.map aptR), .sl 3 (p.2.map dstR)]), (3, .cptr (flR x)), (5, .ptr S.length 0 0 0), (6, .func 45 [] [.ptr S.length 0 0 0]), (81, .sl 1 ((daysF x.p).map inR)), (82, .int .i64 (daysF x.p).length), (83, .int .i64 (j : Nat))]) (fun _ => addS S []) (fun j => j ≤ (daysF x.p).length ∧ (daysF x.p).find? (badDay p x) = ((daysF x.p).drop j).find? (badDay p x)) (fun j => (daysF x.p).length - j) 0 ⟨Nat.zero_le _, rfl⟩ ?_ rfl ?_
        · simp only [flR, ↓evPre, ↓evPreW, evPost, evPostW, evR, evU, seval]
          try rfl
        rintro j ⟨hj, hinv⟩
        cases hcj : (daysF x.p)[j]? with
        | none =>
          have hgej : (daysF x.p).length ≤ j := List.getElem?_eq_none_iff.1 hcj
          have hltj : ¬ ((j : Int) < (daysF x.p).length) := by omega
          have hf := find_end hinv hcj
          have hD : dayErr p x T = [] := by unfold dayErr; rw [hf]
          simp (disch := first | omega | (simp only [lenT]; omega)) only [flR, addS_obj, dF hltj, hD, evSt, ↓evPre, ↓evPreW, evPost, evPostW, evR, evU, seval]
          exact ⟨_, S, hn.fgt _, addS_frz _ _ (ftR_imm []), Nat.le_refl _, rfl, rfl⟩
        | some d =>
          have hltj' := (List.getElem?_eq_some_iff.1 hcj).1
          have hltj : (j : Int) < (daysF x.p).length := by omega
          have hj1 : (j : Int) + 1 = ((j + 1 : Nat) : Int) := by omega
          simp (disch := first | omega | (simp only [lenT]; omega)) only [flR, addS_obj, dT hltj, hcj, inR, evSt, ↓evPre, ↓evPreW, evPost, evPostW, evR, evU, seval]
          refine (hor d _).then ?_
          cases ho : ordL none (legsF p x d) with
          | true =>
            simp (disch := first | omega | (simp only [lenT]; omega)) only [flR, addS_obj, wrap_i64, hj1, evSt, ↓evPre, ↓evPreW, evPost, evPostW, evR, evU, seval]
            exact ⟨j + 1, ⟨by omega, find_next hinv hcj (by simp [badDay, ho])⟩, by omega, rfl⟩
          | false =>
            have hb : badDay p x d = true := by simp [badDay, ho]
            have hf := find_hit hinv hcj hb
            have hD : dayErr p x T = [⟨13, txDay ++ T d⟩] := by unfold dayErr; rw [hf]
            have hadd : binV .add (.str [100, 97, 121, 32]) (.str (T d)) = some (.str (txDay ++ T d)) := bs_add (by have := hT d; simp only [List.length_cons, List.length_nil]; unfold maxLen; omega)
            simp (disch := first | omega | (simp only [lenT]; omega)) only [flR, addS_obj, evSt, ↓evPre, ↓evPreW, evPost, evPostW, evR, evU, seval]
            refine (hP d (List.mem_of_getElem? hcj) hb _).then ?_
            simp (disch := first | omega | (simp only [lenT]; omega)) only [flR, addS_obj, hadd, evSt, ↓evPre, ↓evPreW, evPost, evPostW, evR, evU, seval]
            refine (add_A 13 (txDay ++ T d) [] (by simp) S).mono ?_
            rintro _ _ ⟨rfl, rfl⟩
            simp (disch := first | omega | (simp only [lenT]; omega)) only [flR, addS_obj, hD, evSt, ↓evPre, ↓evPreW, evPost, evPostW, evR, evU, seval]
            exact ⟨_, S, hn.fgt _, addS_frz _ _ (ftR_imm [⟨13, txDay ++ T d⟩]), Nat.le_refl _, rfl, rfl⟩
    | some l =>
      have hlt' := (List.getElem?_eq_some_iff.1 hc).1
      have hlt : (k : Int) < x.legs.length := by omega
      simp (disch := first | omega | (simp only [lenT]; omega)) only [flR, addS_obj, dT hlt, hc, evSt, ↓evPre, ↓evPreW, evPost, evPostW, evR, evU, seval]
      refine (hg k l hc _).then ?_
      have hel := legErr_len p x.legs k l
      generalize hes : legErr p x.legs k l = es at hel
      simp (disch := first | omega | (simp only [lenT]; omega)) only [flR, addS_obj, evSt, ↓evPre, ↓evPreW, evPost, evPostW, evR, evU, seval]
      have hst : legsErr p x.legs (k + 1) = legsErr p x.legs k ++ es.map fun e => ⟨e, txLeg ++ decB k⟩ := by rw [legsErr, hc, ← hes]
      have hadd : binV .add (.str [108, 101, 103, 32]) (.str (decB k)) = some (.str (txLeg ++ decB k)) := bs_add (by have := decB_len k; simp only [List.length_cons, List.length_nil]; unfold maxLen; omega)
      refine loopA (ι := Nat) (fun j => [(2, .cptr [.sl 5 (p.1.map aptR), .sl 3 (p.2.map dstR)]), (3, .cptr (flR x)), (5, .ptr S.length 0 0 0), (6, .func 45 [] [.ptr S.length 0 0 0]), (53, .int .i64 x.legs.length), (54, .int .i64 (k : Nat)), (8, .int .i64 (k : Nat)), (61, .sl 1 (es.map inR)), (62, .int .i64 es.length), (63, .int .i64 (j : Nat))]) (fun j => addS S ((hdErr x ++ legsErr p x.legs k).map ftR ++ (es.take j).map fun e => [.int .i64 e, .str (txLeg ++ decB k)])) (fun j => j ≤ es.length) (fun j => es.length - j) 0 (Nat.zero_le _) ?_ (by simp) ?_
      · simp only [flR, ↓evPre, ↓evPreW, evPost, evPostW, evR, evU, seval]
        try rfl
      intro j hj
      cases hcj : es[j]? with
      | none =>
        have hgej : es.length ≤ j := List.getElem?_eq_none_iff.1 hcj
        have hltj : ¬ ((j : Int) < es.length) := by omega
        have hk1 : (k : Int) + 1 = ((k + 1 : Nat) : Int) := by omega
        simp (disch := first | omega | (simp only [lenT]; omega)) only [flR, addS_obj, dF hltj, wrap_i64, hk1, evSt, ↓evPre, ↓evPreW, evPost, evPostW, evR, evU, seval]
        refine ⟨k + 1, by omega, by omega, rfl, ?_⟩
        rw [List.take_of_length_le hgej, hst]
        simp only [List.map_append, List.map_map, List.append_assoc]
        rfl
      | some e =>
        have hltj' := (List.getElem?_eq_some_iff.1 hcj).1
        have hltj : (j : Int) < es.length := by omega
        have hj1 : (j : Int) + 1 = ((j + 1 : Nat) : Int) := by omega
        simp (disch := first | omega | (simp only [lenT]; omega)) only [flR, addS_obj, dT hltj, hcj, inR, evSt, ↓evPre, ↓evPreW, evPost, evPostW, evR, evU, seval]
        refine (tdecimal_A k _ (by omega)).then ?_
        simp (disch := first | omega | (simp only [lenT]; omega)) only [flR, addS_obj, hadd, evSt, ↓evPre, ↓evPreW, evPost, evPostW, evR, evU, seval]
        refine (add_A e (txLeg ++ decB k) _ (by simp; omega) S).mono ?_
        rintro _ _ ⟨rfl, rfl⟩
        simp (disch := first | omega | (simp only [lenT]; omega)) only [flR, addS_obj, wrap_i64, hj1, evSt, ↓evPre, ↓evPreW, evPost, evPostW, evR, evU, seval]
        exact ⟨j + 1, by omega, by omega, rfl, by rw [take_at hcj]; simp⟩
end Go.Proofs.YtiihkfjbllpiaaaDoor
/- The reference's look at a flight. -/
namespace Go.Proofs.YtiihkfjbllpiaaaDoor
open Go Go.AL
set_option linter.unusedSimpArgs false
set_option linter.unusedVariables false

end Go.Proofs.YtiihkfjbllpiaaaDoor
/- Timetables without violations, plainly. Shares without violations, plainly. -/
namespace Go.Proofs.YtiihkfjbllpiaaaDoor
open Go Go.AL
set_option linter.unusedSimpArgs false
set_option linter.unusedVariables false

/-! ### Legs that go on -/
def Goes (L : List Lg) : Prop := ∀ (i : Nat) (l : Lg), L[i]? = some l → folF L i l = true
/-! ### A flight without violations -/
structure FlOk (p : Pls) (x : Fl) : Prop where
  car : carF x.c = true
  pd : pdF x.p = 0
  few : x.legs.length ≤ 6
  some_ : 0 < x.legs.length
  goes : Goes x.legs
/-- A timetable without violations. -/
structure TtOk (p : Pls) (l : List Fl) : Prop where
  fl : ∀ x ∈ l, FlOk p x
  tw : ∀ (i j : Nat) (x y : Fl), i < j → l[i]? = some x → l[j]? = some y → x.c = y.c → x.n = y.n → meetF x.p y.p = false
theorem has_days {q : Pd} {d : Int} (h : hasF q d = true) : d ∈ daysF q := by
  unfold hasF at h
  rw [Bool.and_eq_true, decide_eq_true_eq] at h
  obtain ⟨⟨h1, h2, h3⟩, h4⟩ := h
  unfold daysF
  rw [if_pos h1, List.mem_filter]
  refine ⟨List.mem_map.2 ⟨(d - q.f).toNat, List.mem_range.2 (by omega), by omega⟩, h4⟩
theorem days_has {q : Pd} {d : Int} (h : d ∈ daysF q) : hasF q d = true := by
  unfold daysF at h
  split at h
  · rename_i h1
    rw [List.mem_filter] at h
    obtain ⟨h2, h3⟩ := h
    obtain ⟨k, h4, rfl⟩ := List.mem_map.1 h2
    rw [List.mem_range] at h4
    unfold hasF
    rw [h3, Bool.and_true, decide_eq_true_eq]
    exact ⟨h1, by omega, by omega⟩
  · cases h
/-! ### Segments of such a flight -/
/-- Operated, for a segment that is found, or is not. -/
def oprtd (p : Pls) (l : List Fl) (s : Sg) : Bool := decide ((segF p l s.c s.n s.day s.f s.t).2 = 0) && decide ((segF p l s.c s.n s.day s.f s.t).1 = s)
/-! ### Shares -/
/-! ### What is found -/
end Go.Proofs.YtiihkfjbllpiaaaDoor
