/- The reference's look at a flight, whole. -/
import Derived.Test.YtiihkfjbllpiaaaGreatDoorQSchR
namespace Go.Proofs.YtiihkfjbllpiaaaGreatDoor
open Go Go.AL
set_option linter.unusedSectionVars false
variable [Go.AL.Mode] [Go.AL.LooseM]
set_option linter.unusedSimpArgs false
set_option linter.unusedVariables false

theorem headF_bad {p : Pls} {x : Fl} {T : Int → Txt} (h : x.legs.length = 0 ∨ 6 < x.legs.length) : headF x = flErr p x T := by
  unfold headF flErr
  rw [if_pos h, if_pos (by omega)]
theorem headF_good {x : Fl} (h : ¬ (x.legs.length = 0 ∨ 6 < x.legs.length)) : headF x = hdErr x := by
  unfold headF
  rw [if_neg (by omega), List.append_nil]
theorem head_G (x : Fl) (hl : x.legs.length ≤ 1100000) (S : Store) : CallA Tryz.prog 96 [.agg (flR x)] S fun r S' => ∃ v, r = .msl S.length v 0 (headF x).length ∧ S' = S ++ [⟨v, some (.arr 78 2 ((headF x).map ftR))⟩] := by
  refine (head_A x hl S).ghost ?_
  rintro _ _ ⟨rfl, rfl⟩
  cases headF x with
  | nil => exact .inr ⟨rfl, 0, 78, 2, 0, by simp [accT], by simp [accT]⟩
  | cons a l => exact .inl ⟨l.length, by simp [accV], by simp [accT]⟩
theorem ft_frz {S : Store} {L : Store} {v n : Nat} {l : List Ft} (hn : n = l.length) : Frz (S ++ ⟨v, some (.arr 78 2 (l.map ftR))⟩ :: L) S (.msl S.length v 0 n) (.sl 2 (l.map ftR)) :=
  .sl (t := 78) (Nat.le_refl _) (by rw [ob_app0, ob_head]) (by simp [hn]) (ftR_imm l)
def rowL (k : Nat) (e : Int) : List V := [.int .i64 e, .str (txLeg ++ decB k)]
def rowsK (p : Pls) (x : Fl) (k : Nat) : List (List V) := (hdErr x ++ legsErr p x.legs k).map ftR
theorem rowsK_succ {p : Pls} {x : Fl} {k : Nat} {l : Lg} (h : x.legs[k]? = some l) : rowsK p x (k + 1) = rowsK p x k ++ (legErr p x.legs k l).map (rowL k) := by
  unfold rowsK
  rw [legsErr, h]
  simp only [List.map_append, List.map_map, List.append_assoc]
  rfl
theorem rowsK_imm (p : Pls) (x : Fl) (k : Nat) : ∀ r ∈ rowsK p x k, r.length = 2 ∧ V.allImm r = true := ftR_imm _
theorem rowsK_len (p : Pls) (x : Fl) (k : Nat) : (rowsK p x k).length ≤ 4 * k + 3 := by
  have := legsErr_len p x.legs k
  have := hdErr_len x
  unfold rowsK
  simp only [List.length_map, List.length_append]
  omega
set_option maxHeartbeats 4000000 in
theorem rflight_A (p : Pls) (hp : POk p) (x : Fl) (hl : x.legs.length ≤ 1100000) (T : Int → Txt) (hP : ∀ d ∈ daysF x.p, badDay p x d = true → ∀ S, CallA Tryz.prog 104 [.int .i64 d] S fun r S' => r = .str (T d) ∧ S' = S) (hT : ∀ d, (T d).length ≤ 100) (S : Store) :
    CallA Tryz.prog 51 [plV p, .agg (flR x)] S fun r S' => r = .sl 2 ((flErr p x T).map ftR) ∧ S' = S := by
  refine CallA.withNeat Tryz.func51 c551 fun hn => ?_
  refine CallA.fin Tryz.func51 c551 (Nat.le_of_ble_eq_true rfl) fun σ hσ => ?_
  have hh := fun S => head_G x hl S
  simp only [flR] at hh
  simp (disch := first | omega | (simp only [lenT]; omega)) only [a551, plV, flR, evSt, ↓evPre, ↓evPreW, evPost, evPostW, evR, evU, seval]
  refine (hh _).mono ?_
  rintro _ _ ⟨v, rfl, rfl⟩
  by_cases hL : x.legs.length = 0 ∨ 6 < x.legs.length
  · rcases Nat.eq_zero_or_pos x.legs.length with h6 | h6
    case' inl => have h7 : decide ((x.legs.length : Int) < 1) = true := decide_eq_true (by omega)
    case' inr =>
      have h7 : decide ((x.legs.length : Int) < 1) = false := decide_eq_false (by omega)
      have h8 : decide (6 < (x.legs.length : Int)) = true := decide_eq_true (by omega)
    case' inl => simp (disch := first | omega | (simp only [lenT]; omega)) only [flR, h7, evSt, ↓evPre, ↓evPreW, evPost, evPostW, evR, evU, seval]
    case' inr => simp (disch := first | omega | (simp only [lenT]; omega)) only [flR, h7, h8, evSt, ↓evPre, ↓evPreW, evPost, evPostW, evR, evU, seval]
    all_goals
      rw [headF_bad (p := p) (T := T) hL]
      exact ⟨_, S, hn.fgt _, ft_frz rfl, Nat.le_refl _, rfl, rfl⟩
  rw [headF_good hL]
  have h7 : decide ((x.legs.length : Int) < 1) = false := decide_eq_false (by omega)
  have h8 : decide (6 < (x.legs.length : Int)) = false := decide_eq_false (by omega)
  simp (disch := first | omega | (simp only [lenT]; omega)) only [flR, h7, h8, evSt, ↓evPre, ↓evPreW, evPost, evPostW, evR, evU, seval]
  refine loopF (ι := Nat × Nat) (fun i => [(2, .cptr [.sl 5 (p.1.map aptR), .sl 3 (p.2.map dstR)]), (3, .cptr (flR x)), (5, .msl S.length i.2 0 (rowsK p x i.1).length), (6, .int .i64 (i.1 : Nat))]) (fun i => S ++ [⟨i.2, some (.arr 78 2 (rowsK p x i.1))⟩]) (fun i => i.1 ≤ x.legs.length) (fun i => x.legs.length - i.1) (fun i hi => by rw [hσ]; simp) (0, v) (Nat.zero_le _) (.inl ⟨?_, ?_⟩) ?_
  · simp [rowsK, legsErr, flR, sub, Env.get]
  · simp [rowsK, legsErr]
  rintro ⟨k, v⟩ hk
  simp only at hk
  have hrl := rowsK_len p x k
  cases hc : x.legs[k]? with
  | none =>
    have hge : x.legs.length ≤ k := List.getElem?_eq_none_iff.1 hc
    have hlt : ¬ ((k : Int) < x.legs.length) := by omega
    have hkl : k = x.legs.length := by omega
    subst hkl
    have hdy := fun S => rdays_A x.p S
    have hlg := fun d S => rlegs0_A p hp x d (by omega) S
    have hor := fun d S => rordered_A (legsF p x d) (by simp [legsF]; omega) S
    simp only [pdR] at hdy
    simp only [plV, flR] at hlg
    simp (disch := first | omega | (simp only [lenT]; omega)) only [flR, dF hlt, evSt, ↓evPre, ↓evPreW, evPost, evPostW, evR, evU, seval]
    refine (hdy _).then ?_
    simp (disch := first | omega | (simp only [lenT]; omega)) only [flR, dF hlt, evSt, ↓evPre, ↓evPreW, evPost, evPostW, evR, evU, seval]
    have hdl : (daysF x.p).length ≤ 800 := by
      by_cases hok : pdF x.p = 0
      · rw [daysF_eq hok]
        have := daysTo_len x.p (x.p.t - x.p.f + 1).toNat
        have := pd_ok hok
        omega
      · unfold daysF; rw [if_neg hok]; simp
    have hrk : rowsK p x x.legs.length = (hdErr x ++ legsErr p x.legs x.legs.length).map ftR := rfl
    have hF : flErr p x T = if hdErr x ++ legsErr p x.legs x.legs.length = [] then dayErr p x T else hdErr x ++ legsErr p x.legs x.legs.length := by
      unfold flErr
      rw [if_neg hL]
    rw [hrk, List.length_map]
    generalize hdErr x ++ legsErr p x.legs x.legs.length = fs at hF
    have hfl := congrArg List.length hrk
    refine loopF (ι := Nat × Nat × List Ft) (fun i => [(2, .cptr [.sl 5 (p.1.map aptR), .sl 3 (p.2.map dstR)]), (3, .cptr (flR x)), (5, .msl S.length i.2.1 0 i.2.2.length), (13, .sl 1 ((daysF x.p).map inR)), (14, .int .i64 (i.1 : Nat))]) (fun i => S ++ [⟨i.2.1, some (.arr 78 2 (i.2.2.map ftR))⟩])
      (fun i => i.1 ≤ (daysF x.p).length ∧ ((i.2.2 ≠ [] ∧ i.2.2 = flErr p x T) ∨ (i.2.2 = [] ∧ flErr p x T = dayErr p x T ∧ (daysF x.p).find? (badDay p x) = ((daysF x.p).drop i.1).find? (badDay p x)))) (fun i => (daysF x.p).length - i.1) (fun i hi => by rw [hσ]; simp) (0, v, fs) ⟨Nat.zero_le _, ?_⟩ (.inl ⟨?_, rfl⟩) ?_
    · by_cases hfs : fs = []
      · rw [if_pos hfs] at hF
        exact .inr ⟨hfs, hF, rfl⟩
      · rw [if_neg hfs] at hF
        exact .inl ⟨hfs, hF.symm⟩
    · simp only [flR, ↓evPre, ↓evPreW, evPost, evPostW, evR, evU, seval]
      try rfl
    rintro ⟨j, v, gs⟩ ⟨hj, hinv⟩
    simp only at hj hinv ⊢
    rcases hinv with ⟨g1, g2⟩ | ⟨rfl, g2, g3⟩
    · have hz : decide ((gs.length : Int) = 0) = false := decide_eq_false (fun h => g1 (List.eq_nil_of_length_eq_zero (by omega)))
      simp (disch := first | omega | (simp only [lenT]; omega)) only [flR, hz, evSt, ↓evPre, ↓evPreW, evPost, evPostW, evR, evU, seval]
      exact ⟨_, S, hn.fgt _, ft_frz rfl, Nat.le_refl _, by rw [g2], rfl⟩
    cases hcj : (daysF x.p)[j]? with
    | none =>
      have hgej : (daysF x.p).length ≤ j := List.getElem?_eq_none_iff.1 hcj
      have hltj : ¬ ((j : Int) < (daysF x.p).length) := by omega
      have hf := find_end g3 hcj
      have hD : flErr p x T = [] := by rw [g2]; unfold dayErr; rw [hf]
      simp (disch := first | omega | (simp only [lenT]; omega)) only [flR, dF hltj, List.length_nil, List.map_nil, evSt, ↓evPre, ↓evPreW, evPost, evPostW, evR, evU, seval]
      exact ⟨_, S, hn.fgt _, ft_frz (l := []) rfl, Nat.le_refl _, by rw [hD], rfl⟩
    | some d =>
      have hltj' := (List.getElem?_eq_some_iff.1 hcj).1
      have hltj : (j : Int) < (daysF x.p).length := by omega
      have hj1 : (j : Int) + 1 = ((j + 1 : Nat) : Int) := by omega
      simp (disch := first | omega | (simp only [lenT]; omega)) only [flR, dT hltj, hcj, inR, List.length_nil, List.map_nil, evSt, ↓evPre, ↓evPreW, evPost, evPostW, evR, evU, seval]
      refine (hlg d _).then ?_
      simp (disch := first | omega | (simp only [lenT]; omega)) only [flR, evSt, ↓evPre, ↓evPreW, evPost, evPostW, evR, evU, seval]
      refine (hor d _).then ?_
      cases ho : ordL none (legsF p x d) with
      | true =>
        simp (disch := first | omega | (simp only [lenT]; omega)) only [flR, wrap_i64, hj1, evSt, ↓evPre, ↓evPreW, evPost, evPostW, evR, evU, seval]
        refine ⟨(j + 1, v, []), ⟨by simp only; omega, .inr ⟨rfl, g2, find_next g3 hcj (by simp [badDay, ho])⟩⟩, by simp only; omega, .inl ⟨?_, rfl⟩⟩
        simp only [flR, List.length_nil, ↓evPre, ↓evPreW, evPost, evPostW, evR, evU, seval]
        try rfl
      | false =>
        have hb : badDay p x d = true := by simp [badDay, ho]
        have hf := find_hit g3 hcj hb
        have hD : flErr p x T = [⟨13, txDay ++ T d⟩] := by rw [g2]; unfold dayErr; rw [hf]
        have hadd : binV .add (.str [100, 97, 121, 32]) (.str (T d)) = some (.str (txDay ++ T d)) := bs_add (by have := hT d; simp only [List.length_cons, List.length_nil]; unfold maxLen; omega)
        simp (disch := first | omega | (simp only [lenT]; omega)) only [flR, hcj, inR, evSt, ↓evPre, ↓evPreW, evPost, evPostW, evR, evU, seval]
        refine (hP d (List.mem_of_getElem? hcj) hb _).then ?_
        simp (disch := first | omega | (simp only [lenT]; omega)) only [flR, hadd, wrap_i64, hj1, evSt, ↓evPre, ↓evPreW, evPost, evPostW, evR, evU, seval]
        refine ⟨by unfold roomA; omega, (j + 1, v + 1, [⟨13, txDay ++ T d⟩]), ⟨by simp only; omega, .inl ⟨by simp, hD.symm⟩⟩, by simp only; omega, .inl ⟨?_, rfl⟩⟩
        simp only [flR, List.length_cons, List.length_nil, ↓evPre, ↓evPreW, evPost, evPostW, evR, evU, seval]
        try rfl
  | some l =>
    have hlt' := (List.getElem?_eq_some_iff.1 hc).1
    have hlt : (k : Int) < x.legs.length := by omega
    obtain ⟨c1, c2, c3, o1, v1, e1, i1, k1, _, _⟩ := find_zone p hp l.f
    obtain ⟨c4, c5, c6, o2, v2, e2, i2, k2, _, _⟩ := find_zone p hp l.t
    have f1 := fun S => rfind_A p l.f S hp.h1
    have f2 := fun S => rfind_A p l.t S hp.h1
    simp only [plV, e1] at f1
    simp only [plV, e2] at f2
    have hcode := fun S => rcodeT_A l.eq 3 3 S
    have hdec := fun S => decimal_A k S (by omega)
    have hbr := fun S => broken_A x.legs k l (by omega) hc S
    have hm1 := fun S => out_A l.dep S
    have hm2 := fun S => out_A l.arr S
    have hadd : binV .add (.str [108, 101, 103, 32]) (.str (decB k)) = some (.str (txLeg ++ decB k)) := bs_add (by have := decB_len k; simp only [List.length_cons, List.length_nil]; unfold maxLen; omega)
    have hst := rowsK_succ (p := p) hc
    have himm := rowsK_imm p x (k + 1)
    simp only [legErr] at hst
    have hX : ∃ X, X = rowsK p x (k + 1) := ⟨_, rfl⟩
    obtain ⟨X, hX⟩ := hX
    have hk1 : (k : Int) + 1 = ((k + 1 : Nat) : Int) := by omega
    rw [← hX] at himm hst
    generalize rowsK p x k = R at hrl hst
    simp (disch := first | omega | (simp only [lenT]; omega)) only [flR, dT hlt, hc, hadd, lgR, evSt, ↓evPre, ↓evPreW, evPost, evPostW, evR, evU, seval]
    have hR1 : R.length + 0 ≤ 4294967290 := by omega
    generalize hRn : R.length = n at hR1 hrl
    refine (hdec _).then ?_
    simp (disch := first | omega | (simp only [lenT]; omega)) only [flR, hadd, lgR, evSt, ↓evPre, ↓evPreW, evPost, evPostW, evR, evU, seval]
    refine (hcode _).then ?_
    generalize codeF l.eq 3 3 = b1 at hst ⊢
    generalize (findF p l.f).isSome = b2 at hst f1 ⊢
    generalize (findF p l.t).isSome = b3 at hst f2 ⊢
    generalize folF x.legs k l = b4 at hst hbr ⊢
    generalize minF l.dep = b5 at hst hm1 ⊢
    generalize minF l.arr = b6 at hst hm2 ⊢
    have room : ∀ m, m ≤ 10 → (n + m ≤ roomA) = True := fun m hm => by simp only [eq_iff_iff, iff_true]; unfold roomA; omega
    have r1 := room 1 (by omega)
    have r2 := room 2 (by omega)
    have r3 := room 3 (by omega)
    have r4 := room 4 (by omega)
    cases b1 <;> simp (disch := first | omega | (simp only [lenT]; omega)) only [hRn, r1, r2, r3, r4, List.length_append, List.length_cons, List.length_nil, Nat.zero_add, true_and, flR, hadd, lgR, evSt, ↓evPre, ↓evPreW, evPost, evPostW, evR, evU, seval]
    all_goals refine (f1 _).then ?_
    all_goals simp (disch := first | omega | (simp only [lenT]; omega)) only [hRn, r1, r2, r3, r4, List.length_append, List.length_cons, List.length_nil, Nat.zero_add, true_and, i1, k1, i2, k2, flR, hadd, lgR, evSt, ↓evPre, ↓evPreW, evPost, evPostW, evR, evU, seval]
    all_goals refine (f2 _).then ?_
    all_goals (cases b2 <;> cases b3 <;> simp (disch := first | omega | (simp only [lenT]; omega)) only [hRn, r1, r2, r3, r4, List.length_append, List.length_cons, List.length_nil, Nat.zero_add, true_and, i1, k1, i2, k2, flR, hadd, lgR, evSt, ↓evPre, ↓evPreW, evPost, evPostW, evR, evU, seval])
    all_goals refine (hbr _).then ?_
    all_goals (cases b4 <;> simp (disch := first | omega | (simp only [lenT]; omega)) only [hRn, r1, r2, r3, r4, List.length_append, List.length_cons, List.length_nil, Nat.zero_add, true_and, i1, k1, i2, k2, flR, hadd, lgR, evSt, ↓evPre, ↓evPreW, evPost, evPostW, evR, evU, seval])
    all_goals refine (hm1 _).then ?_
    all_goals (cases b5 <;> simp (disch := first | omega | (simp only [lenT]; omega)) only [hRn, r1, r2, r3, r4, List.length_append, List.length_cons, List.length_nil, Nat.zero_add, true_and, i1, k1, i2, k2, flR, hadd, lgR, evSt, ↓evPre, ↓evPreW, evPost, evPostW, evR, evU, seval])
    all_goals try (refine (hm2 _).then ?_)
    all_goals try (cases b6 <;> simp (disch := first | omega | (simp only [lenT]; omega)) only [hRn, r1, r2, r3, r4, List.length_append, List.length_cons, List.length_nil, Nat.zero_add, true_and, i1, k1, i2, k2, flR, hadd, lgR, evSt, ↓evPre, ↓evPreW, evPost, evPostW, evR, evU, seval])
    all_goals
      try simp only [List.append_assoc, List.cons_append, List.nil_append]
      simp only [Bool.true_and, Bool.and_true, Bool.and_self, Bool.false_and, Bool.and_false, if_true, if_false, reduceCtorEq, List.map_cons, List.map_nil, List.nil_append, List.append_nil, List.cons_append, rowL] at hst
      have hln := congrArg List.length hst
      simp only [List.length_append, List.length_cons, List.length_nil, Nat.zero_add, hRn] at hln
      rw [← hst]
      refine ⟨(k + 1, v + (X.length - n)), by simp only; omega, by simp only; omega, ?_⟩
      simp only [← hX]
      refine back_under ?_ ?_ (by simp [V.under, flR, V.allUnder])
      · show Fgt _ (S ++ [⟨v + (X.length - n), some (.arr 78 2 X)⟩])
        exact hn.fgtL (L := [_, _, _, _]) (L1 := [_]) ⟨by simp only; omega, ⟨_, rfl, .imm himm⟩, trivial⟩
      · simp (disch := first | omega | (simp only [lenT]; omega)) only [wrap_i64, hk1, hln, flR, ↓evPre, ↓evPreW, evPost, evPostW, evR, evU, seval]
        try (congr 1 <;> omega)
end Go.Proofs.YtiihkfjbllpiaaaGreatDoor
