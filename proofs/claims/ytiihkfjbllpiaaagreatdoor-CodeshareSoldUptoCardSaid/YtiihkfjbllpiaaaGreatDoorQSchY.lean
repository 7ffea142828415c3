/- The segments that are sold on a day. The legs that a segment covers. Lists compared. -/
import Derived.Test.YtiihkfjbllpiaaaGreatDoorQSchK
namespace Go.Proofs.YtiihkfjbllpiaaaGreatDoor
open Go Go.AL
set_option linter.unusedSectionVars false
variable [Go.AL.Mode] [Go.AL.LooseM]
set_option linter.unusedSimpArgs false
set_option linter.unusedVariables false

def flS (p : Pls) (day : Int) (x : Fl) : List Sg := if hasF x.p day then segsL (legsF p x day) else []
def shS (p : Pls) (l : List Fl) (sh : List Sr) (day : Int) (x : Sr) : List Sg := if hasF x.p day then (if (fndF p l sh x.c x.n day x.f x.t).2 = 0 then [(fndF p l sh x.c x.n day x.f x.t).1] else []) else []
def sold1 (p : Pls) (l : List Fl) (day : Int) (k : Nat) : List Sg := (l.take k).flatMap (flS p day)
def sold2 (p : Pls) (l : List Fl) (sh : List Sr) (day : Int) (k : Nat) : List Sg := sold1 p l day l.length ++ (sh.take k).flatMap (shS p l sh day)
theorem sold_eq (p : Pls) (l : List Fl) (sh : List Sr) (day : Int) : soldF p l sh day = sold2 p l sh day sh.length := by
  unfold soldF sold2 sold1
  rw [List.take_length, List.take_length]
  rfl
theorem sold1_succ {p : Pls} {l : List Fl} {day : Int} {k : Nat} {x : Fl} (h : l[k]? = some x) : sold1 p l day (k + 1) = sold1 p l day k ++ flS p day x := by
  unfold sold1
  rw [take_at h]
  simp
theorem sold2_succ {p : Pls} {l : List Fl} {sh : List Sr} {day : Int} {k : Nat} {x : Sr} (h : sh[k]? = some x) : sold2 p l sh day (k + 1) = sold2 p l sh day k ++ shS p l sh day x := by
  unfold sold2
  rw [take_at h]
  simp
theorem flS_len {p : Pls} {day : Int} {x : Fl} (h : x.legs.length ≤ 300) : (flS p day x).length ≤ 90000 := by
  have := segsD_len p x day h
  unfold flS
  unfold segsD at this
  split
  · rename_i hh
    rw [if_pos hh] at this
    exact this
  · simp
theorem sold1_len {p : Pls} {l : List Fl} {day : Int} (hl : FOk l) : ∀ k, (sold1 p l day k).length ≤ 90000 * k
  | 0 => by simp [sold1]
  | k + 1 => by
    have h := sold1_len (p := p) (day := day) hl k
    cases hc : l[k]? with
    | none =>
      have hge := List.getElem?_eq_none_iff.1 hc
      unfold sold1 at h ⊢
      rw [List.take_of_length_le (by omega)] at h ⊢
      omega
    | some x =>
      rw [sold1_succ hc, List.length_append]
      have := flS_len (p := p) (day := day) (hl.h2 x (List.mem_of_getElem? hc))
      omega
theorem shS_len (p : Pls) (l : List Fl) (sh : List Sr) (day : Int) (x : Sr) : (shS p l sh day x).length ≤ 1 := by
  unfold shS
  split
  · split <;> simp
  · simp
theorem sold2_len {p : Pls} {l : List Fl} {sh : List Sr} {day : Int} (hl : FOk l) : ∀ k, (sold2 p l sh day k).length ≤ 90000 * l.length + k
  | 0 => by have := sold1_len (p := p) (day := day) hl l.length; simp [sold2]; omega
  | k + 1 => by
    have h := sold2_len (p := p) (sh := sh) (day := day) hl k
    cases hc : sh[k]? with
    | none =>
      have hge := List.getElem?_eq_none_iff.1 hc
      unfold sold2 at h ⊢
      rw [List.take_of_length_le (by omega)] at h ⊢
      omega
    | some x =>
      rw [sold2_succ hc, List.length_append]
      have := shS_len p l sh day x
      omega
theorem segsD_flS (p : Pls) (x : Fl) (day : Int) : segsD p x day = (flS p day x, if hasF x.p day then 0 else 12) := by
  unfold segsD flS
  split <;> rfl
set_option maxHeartbeats 4000000 in
theorem sold_A (p : Pls) (hp : POk p) (l : List Fl) (hl : FOk l) (sh : List Sr) (hs : sh.length ≤ 1000) (day : Int) (S : Store) :
    CallA Tryz.prog 40 [plV p, .sl 6 (l.map flR), .sl 9 (sh.map srR), .int .i64 day] S fun r S' => r = .sl 7 ((soldF p l sh day).map sgR) ∧ S' = S := by
  refine CallA.withNeat Tryz.func40 c540 fun hn => ?_
  refine CallA.fin Tryz.func40 c540 (Nat.le_of_ble_eq_true rfl) fun σ hσ => ?_
  rw [sold_eq]
  have hl1 := hl.h1
  simp (disch := first | omega | (simp only [lenT]; omega)) only [a540, plV, evSt, ↓evPre, ↓evPreW, evPost, evPostW, evR, evU, seval]
  refine LoopA.ghost 9 0 50 7 rfl ?_
  refine loopF (ι := Nat × Nat) (fun i => [(4, .cptr [.sl 5 (p.1.map aptR), .sl 3 (p.2.map dstR)]), (1, .sl 6 (l.map flR)), (2, .sl 9 (sh.map srR)), (3, .int .i64 day), (9, .msl S.length i.2 0 (sold1 p l day i.1).length), (18, .sl 6 (l.map flR)), (19, .int .i64 l.length), (20, .int .i64 (i.1 : Nat))]) (fun i => S ++ [⟨i.2, some (.arr 50 7 ((sold1 p l day i.1).map sgR))⟩]) (fun i => i.1 ≤ l.length) (fun i => l.length - i.1) (fun i hi => by rw [hσ]; simp) (0, 0) (Nat.zero_le _) (.inl ⟨?_, ?_⟩) ?_
  · simp [sold1, sub, Env.get]
  · simp [sold1]
  rintro ⟨k, v⟩ hk
  simp only at hk ⊢
  have hln := sold1_len (p := p) (day := day) hl k
  cases hc : l[k]? with
  | none =>
    have hge := List.getElem?_eq_none_iff.1 hc
    have hlt : ¬ ((k : Int) < l.length) := by omega
    have hkl : k = l.length := by omega
    subst hkl
    have hz : sold1 p l day l.length = sold2 p l sh day 0 := by simp [sold2]
    simp (disch := first | omega | (simp only [lenT]; omega)) only [dF hlt, evSt, ↓evPre, ↓evPreW, evPost, evPostW, evR, evU, seval]
    refine loopF (ι := Nat × Nat) (fun i => [(4, .cptr [.sl 5 (p.1.map aptR), .sl 3 (p.2.map dstR)]), (1, .sl 6 (l.map flR)), (2, .sl 9 (sh.map srR)), (3, .int .i64 day), (9, .msl S.length i.2 0 (sold2 p l sh day i.1).length), (37, .sl 9 (sh.map srR)), (38, .int .i64 sh.length), (39, .int .i64 (i.1 : Nat))]) (fun i => S ++ [⟨i.2, some (.arr 50 7 ((sold2 p l sh day i.1).map sgR))⟩]) (fun i => i.1 ≤ sh.length) (fun i => sh.length - i.1) (fun i hi => by rw [hσ]; simp) (0, v) (Nat.zero_le _) (.inl ⟨?_, by rw [hz]⟩) ?_
    · simp only [hz, ↓evPre, ↓evPreW, evPost, evPostW, evR, evU, seval]
      try rfl
    rintro ⟨k, v⟩ hk
    simp only at hk ⊢
    have hln := sold2_len (p := p) (sh := sh) (day := day) hl k
    cases hc : sh[k]? with
    | none =>
      have hge := List.getElem?_eq_none_iff.1 hc
      have hlt : ¬ ((k : Int) < sh.length) := by omega
      have hkl : k = sh.length := by omega
      subst hkl
      simp (disch := first | omega | (simp only [lenT]; omega)) only [dF hlt, evSt, ↓evPre, ↓evPreW, evPost, evPostW, evR, evU, seval]
      exact ⟨_, S, hn.fgt _, .sl (t := 50) (Nat.le_refl _) (by rw [ob_app0, ob_head]) (by simp) (sgR_imm _), Nat.le_refl _, rfl, rfl⟩
    | some x =>
      have hlt' := (List.getElem?_eq_some_iff.1 hc).1
      have hlt : ((k : Int) < sh.length) := by omega
      have hk1 : (k : Int) + 1 = ((k + 1 : Nat) : Int) := by omega
      have hhs := fun S => has_A x.p day S
      have hfn := fun S => fnd_A p hp l hl sh (by omega) x.c x.n day x.f x.t S
      simp only [plV, pdR, sgR] at hfn hhs
      have hst := sold2_succ (p := p) (l := l) (day := day) hc
      obtain ⟨X, hX⟩ : ∃ X, X = sold2 p l sh day (k + 1) := ⟨_, rfl⟩
      rw [← hX] at hst
      have himm := sgR_imm X
      generalize sold2 p l sh day k = R at hst hln
      simp (disch := first | omega | (simp only [lenT]; omega)) only [dT hlt, hc, srR, evSt, ↓evPre, ↓evPreW, evPost, evPostW, evR, evU, seval]
      refine (hhs _).then ?_
      cases hh : hasF x.p day with
      | false =>
        have hY : shS p l sh day x = [] := by unfold shS; rw [hh]; rfl
        rw [hY, List.append_nil] at hst
        have hXl : X.length = R.length := by rw [hst]
        simp (disch := first | omega | (simp only [lenT]; omega)) only [wrap_i64, hk1, srR, evSt, ↓evPre, ↓evPreW, evPost, evPostW, evR, evU, seval]
        refine ⟨(k + 1, v), by simp only; omega, by simp only; omega, ?_⟩
        simp only [← hX]
        refine back_under ?_ ?_ (by simp [V.under, V.allUnder])
        · rw [← hst]
          show Fgt _ (S ++ [⟨v, some (.arr 50 7 (X.map sgR))⟩])
          exact hn.fgtL (L := [_, _]) (L1 := [_]) ⟨rfl, ⟨_, rfl, .imm himm⟩, trivial⟩
        · simp only [hXl, ↓evPre, ↓evPreW, evPost, evPostW, evR, evU, seval]
      | true =>
        simp (disch := first | omega | (simp only [lenT]; omega)) only [wrap_i64, hk1, srR, evSt, ↓evPre, ↓evPreW, evPost, evPostW, evR, evU, seval]
        refine (hfn _).then ?_
        by_cases h0 : (fndF p l sh x.c x.n day x.f x.t).2 = 0
        · have hY : shS p l sh day x = [(fndF p l sh x.c x.n day x.f x.t).1] := by unfold shS; rw [hh, if_pos rfl, if_pos h0]
          rw [hY] at hst
          have hXl : X.length = R.length + 1 := by rw [hst]; simp
          simp (disch := first | omega | (simp only [lenT]; omega)) only [dT h0, wrap_i64, hk1, List.length_cons, List.length_nil, evSt, ↓evPre, ↓evPreW, evPost, evPostW, evR, evU, seval]
          refine ⟨by unfold roomA; omega, (k + 1, v + 1), by simp only; omega, by simp only; omega, ?_⟩
          simp only [← hX]
          refine back_under ?_ ?_ (by simp [V.under, V.allUnder])
          · rw [show R.map sgR ++ [[.str (fndF p l sh x.c x.n day x.f x.t).1.c, .int .i64 (fndF p l sh x.c x.n day x.f x.t).1.n, .int .i64 (fndF p l sh x.c x.n day x.f x.t).1.day, .str (fndF p l sh x.c x.n day x.f x.t).1.f, .str (fndF p l sh x.c x.n day x.f x.t).1.t, .int .i64 (fndF p l sh x.c x.n day x.f x.t).1.dep, .int .i64 (fndF p l sh x.c x.n day x.f x.t).1.arr]] = X.map sgR by rw [hst, List.map_append]; rfl]
            show Fgt _ (S ++ [⟨v + 1, some (.arr 50 7 (X.map sgR))⟩])
            exact hn.fgtL (L := [_, _, _]) (L1 := [_]) ⟨rfl, ⟨_, rfl, .imm himm⟩, trivial⟩
          · simp only [hXl, ↓evPre, ↓evPreW, evPost, evPostW, evR, evU, seval]
        · have hY : shS p l sh day x = [] := by unfold shS; rw [hh, if_pos rfl, if_neg h0]
          rw [hY, List.append_nil] at hst
          have hXl : X.length = R.length := by rw [hst]
          simp (disch := first | omega | (simp only [lenT]; omega)) only [dF h0, wrap_i64, hk1, evSt, ↓evPre, ↓evPreW, evPost, evPostW, evR, evU, seval]
          refine ⟨(k + 1, v), by simp only; omega, by simp only; omega, ?_⟩
          simp only [← hX]
          refine back_under ?_ ?_ (by simp [V.under, V.allUnder])
          · rw [← hst]
            show Fgt _ (S ++ [⟨v, some (.arr 50 7 (X.map sgR))⟩])
            exact hn.fgtL (L := [_, _, _]) (L1 := [_]) ⟨rfl, ⟨_, rfl, .imm himm⟩, trivial⟩
          · simp only [hXl, ↓evPre, ↓evPreW, evPost, evPostW, evR, evU, seval]
  | some x =>
    have hlt' := (List.getElem?_eq_some_iff.1 hc).1
    have hlt : ((k : Int) < l.length) := by omega
    have hk1 : (k : Int) + 1 = ((k + 1 : Nat) : Int) := by omega
    have hx := hl.h2 x (List.mem_of_getElem? hc)
    have hg := fun S => segs_A p hp x day hx S
    have hhs := fun S => rhas_A x.p day S
    rw [segsD_flS] at hg
    simp only [plV, flR, pdR] at hg hhs
    have hst := sold1_succ (p := p) (day := day) hc
    have hfl := flS_len (p := p) (day := day) hx
    obtain ⟨X, hX⟩ : ∃ X, X = sold1 p l day (k + 1) := ⟨_, rfl⟩
    rw [← hX] at hst
    have himm := sgR_imm X
    simp (disch := first | omega | (simp only [lenT]; omega)) only [dT hlt, hc, flR, evSt, ↓evPre, ↓evPreW, evPost, evPostW, evR, evU, seval]
    refine (hg _).then ?_
    cases hh : hasF x.p day with
    | true =>
      have hXl : X.length = (sold1 p l day k).length + (flS p day x).length := by rw [hst]; simp
      simp (disch := first | omega | (simp only [lenT]; omega)) only [wrap_i64, hk1, evSt, ↓evPre, ↓evPreW, evPost, evPostW, evR, evU, seval]
      refine ⟨by unfold roomA; omega, (k + 1, v + 1), by simp only; omega, by simp only; omega, ?_⟩
      simp only [← hX]
      refine back_under ?_ ?_ (by simp [V.under, V.allUnder])
      · rw [show List.map sgR (sold1 p l day k) ++ List.map sgR (flS p day x) = X.map sgR by rw [hst, List.map_append]]
        show Fgt _ (S ++ [⟨v + 1, some (.arr 50 7 (X.map sgR))⟩])
        exact hn.fgtL (L := [_, _]) (L1 := [_]) ⟨rfl, ⟨_, rfl, .imm himm⟩, trivial⟩
      · simp only [hXl, ↓evPre, ↓evPreW, evPost, evPostW, evR, evU, seval]
    | false =>
      have hY : flS p day x = [] := by unfold flS; rw [hh]; rfl
      rw [hY, List.append_nil] at hst
      have hXl : X.length = (sold1 p l day k).length := by rw [hst]
      simp (disch := first | omega | (simp only [lenT]; omega)) only [wrap_i64, hk1, evSt, ↓evPre, ↓evPreW, evPost, evPostW, evR, evU, seval]
      refine ⟨(k + 1, v), by simp only; omega, by simp only; omega, ?_⟩
      simp only [← hX]
      refine back_under ?_ ?_ (by simp [V.under, V.allUnder])
      · rw [← hst]
        show Fgt _ (S ++ [⟨v, some (.arr 50 7 (X.map sgR))⟩])
        exact hn.fgtL (L := [_, _]) (L1 := [_]) ⟨rfl, ⟨_, rfl, .imm himm⟩, trivial⟩
      · simp only [hXl, ↓evPre, ↓evPreW, evPost, evPostW, evR, evU, seval]
set_option maxHeartbeats 4000000 in
theorem rsold_A (p : Pls) (hp : POk p) (l : List Fl) (hl : FOk l) (sh : List Sr) (hs : sh.length ≤ 1000) (day : Int) (S : Store) :
    CallA Tryz.prog 42 [plV p, .sl 6 (l.map flR), .sl 9 (sh.map srR), .int .i64 day] S fun r S' => r = .sl 7 ((soldF p l sh day).map sgR) ∧ S' = S := by
  refine CallA.withNeat Tryz.func42 c542 fun hn => ?_
  refine CallA.fin Tryz.func42 c542 (Nat.le_of_ble_eq_true rfl) fun σ hσ => ?_
  rw [sold_eq]
  have hl1 := hl.h1
  simp (disch := first | omega | (simp only [lenT]; omega)) only [a542, plV, evSt, ↓evPre, ↓evPreW, evPost, evPostW, evR, evU, seval]
  refine LoopA.ghost 9 0 50 7 rfl ?_
  refine loopF (ι := Nat × Nat) (fun i => [(4, .cptr [.sl 5 (p.1.map aptR), .sl 3 (p.2.map dstR)]), (1, .sl 6 (l.map flR)), (2, .sl 9 (sh.map srR)), (3, .int .i64 day), (9, .msl S.length i.2 0 (sold1 p l day i.1).length), (10, .int .i64 (i.1 : Nat))]) (fun i => S ++ [⟨i.2, some (.arr 50 7 ((sold1 p l day i.1).map sgR))⟩]) (fun i => i.1 ≤ l.length) (fun i => l.length - i.1) (fun i hi => by rw [hσ]; simp) (0, 0) (Nat.zero_le _) (.inl ⟨?_, ?_⟩) ?_
  · simp [sold1, sub, Env.get]
  · simp [sold1]
  rintro ⟨k, v⟩ hk
  simp only at hk ⊢
  have hln := sold1_len (p := p) (day := day) hl k
  cases hc : l[k]? with
  | none =>
    have hge := List.getElem?_eq_none_iff.1 hc
    have hlt : ¬ ((k : Int) < l.length) := by omega
    have hkl : k = l.length := by omega
    subst hkl
    have hz : sold1 p l day l.length = sold2 p l sh day 0 := by simp [sold2]
    simp (disch := first | omega | (simp only [lenT]; omega)) only [dF hlt, evSt, ↓evPre, ↓evPreW, evPost, evPostW, evR, evU, seval]
    refine loopF (ι := Nat × Nat) (fun i => [(4, .cptr [.sl 5 (p.1.map aptR), .sl 3 (p.2.map dstR)]), (1, .sl 6 (l.map flR)), (2, .sl 9 (sh.map srR)), (3, .int .i64 day), (9, .msl S.length i.2 0 (sold2 p l sh day i.1).length), (13, .int .i64 (i.1 : Nat))]) (fun i => S ++ [⟨i.2, some (.arr 50 7 ((sold2 p l sh day i.1).map sgR))⟩]) (fun i => i.1 ≤ sh.length) (fun i => sh.length - i.1) (fun i hi => by rw [hσ]; simp) (0, v) (Nat.zero_le _) (.inl ⟨?_, by rw [hz]⟩) ?_
    · simp only [hz, ↓evPre, ↓evPreW, evPost, evPostW, evR, evU, seval]
      try rfl
    rintro ⟨k, v⟩ hk
    simp only at hk ⊢
    have hln := sold2_len (p := p) (sh := sh) (day := day) hl k
    cases hc : sh[k]? with
    | none =>
      have hge := List.getElem?_eq_none_iff.1 hc
      have hlt : ¬ ((k : Int) < sh.length) := by omega
      have hkl : k = sh.length := by omega
      subst hkl
      simp (disch := first | omega | (simp only [lenT]; omega)) only [dF hlt, evSt, ↓evPre, ↓evPreW, evPost, evPostW, evR, evU, seval]
      exact ⟨_, S, hn.fgt _, .sl (t := 50) (Nat.le_refl _) (by rw [ob_app0, ob_head]) (by simp) (sgR_imm _), Nat.le_refl _, rfl, rfl⟩
    | some x =>
      have hlt' := (List.getElem?_eq_some_iff.1 hc).1
      have hlt : ((k : Int) < sh.length) := by omega
      have hk1 : (k : Int) + 1 = ((k + 1 : Nat) : Int) := by omega
      have hhs := fun S => rhas_A x.p day S
      have hfn := fun S => rfnd_A p hp l hl sh (by omega) x.c x.n day x.f x.t S
      simp only [plV, pdR, sgR] at hfn hhs
      have hst := sold2_succ (p := p) (l := l) (day := day) hc
      obtain ⟨X, hX⟩ : ∃ X, X = sold2 p l sh day (k + 1) := ⟨_, rfl⟩
      rw [← hX] at hst
      have himm := sgR_imm X
      generalize sold2 p l sh day k = R at hst hln
      simp (disch := first | omega | (simp only [lenT]; omega)) only [dT hlt, hc, srR, evSt, ↓evPre, ↓evPreW, evPost, evPostW, evR, evU, seval]
      refine (hhs _).then ?_
      cases hh : hasF x.p day with
      | false =>
        have hY : shS p l sh day x = [] := by unfold shS; rw [hh]; rfl
        rw [hY, List.append_nil] at hst
        have hXl : X.length = R.length := by rw [hst]
        simp (disch := first | omega | (simp only [lenT]; omega)) only [wrap_i64, hk1, srR, evSt, ↓evPre, ↓evPreW, evPost, evPostW, evR, evU, seval]
        refine ⟨(k + 1, v), by simp only; omega, by simp only; omega, ?_⟩
        simp only [← hX]
        refine back_under ?_ ?_ (by simp [V.under, V.allUnder])
        · rw [← hst]
          show Fgt _ (S ++ [⟨v, some (.arr 50 7 (X.map sgR))⟩])
          exact hn.fgtL (L := [_, _]) (L1 := [_]) ⟨rfl, ⟨_, rfl, .imm himm⟩, trivial⟩
        · simp only [hXl, ↓evPre, ↓evPreW, evPost, evPostW, evR, evU, seval]
      | true =>
        simp (disch := first | omega | (simp only [lenT]; omega)) only [wrap_i64, hk1, srR, evSt, ↓evPre, ↓evPreW, evPost, evPostW, evR, evU, seval]
        refine (hfn _).then ?_
        by_cases h0 : (fndF p l sh x.c x.n day x.f x.t).2 = 0
        · have hY : shS p l sh day x = [(fndF p l sh x.c x.n day x.f x.t).1] := by unfold shS; rw [hh, if_pos rfl, if_pos h0]
          rw [hY] at hst
          have hXl : X.length = R.length + 1 := by rw [hst]; simp
          simp (disch := first | omega | (simp only [lenT]; omega)) only [dT h0, wrap_i64, hk1, List.length_cons, List.length_nil, evSt, ↓evPre, ↓evPreW, evPost, evPostW, evR, evU, seval]
          refine ⟨by unfold roomA; omega, (k + 1, v + 1), by simp only; omega, by simp only; omega, ?_⟩
          simp only [← hX]
          refine back_under ?_ ?_ (by simp [V.under, V.allUnder])
          · rw [show R.map sgR ++ [[.str (fndF p l sh x.c x.n day x.f x.t).1.c, .int .i64 (fndF p l sh x.c x.n day x.f x.t).1.n, .int .i64 (fndF p l sh x.c x.n day x.f x.t).1.day, .str (fndF p l sh x.c x.n day x.f x.t).1.f, .str (fndF p l sh x.c x.n day x.f x.t).1.t, .int .i64 (fndF p l sh x.c x.n day x.f x.t).1.dep, .int .i64 (fndF p l sh x.c x.n day x.f x.t).1.arr]] = X.map sgR by rw [hst, List.map_append]; rfl]
            show Fgt _ (S ++ [⟨v + 1, some (.arr 50 7 (X.map sgR))⟩])
            exact hn.fgtL (L := [_, _, _]) (L1 := [_]) ⟨rfl, ⟨_, rfl, .imm himm⟩, trivial⟩
          · simp only [hXl, ↓evPre, ↓evPreW, evPost, evPostW, evR, evU, seval]
        · have hY : shS p l sh day x = [] := by unfold shS; rw [hh, if_pos rfl, if_neg h0]
          rw [hY, List.append_nil] at hst
          have hXl : X.length = R.length := by rw [hst]
          simp (disch := first | omega | (simp only [lenT]; omega)) only [dF h0, wrap_i64, hk1, evSt, ↓evPre, ↓evPreW, evPost, evPostW, evR, evU, seval]
          refine ⟨(k + 1, v), by simp only; omega, by simp only; omega, ?_⟩
          simp only [← hX]
          refine back_under ?_ ?_ (by simp [V.under, V.allUnder])
          · rw [← hst]
            show Fgt _ (S ++ [⟨v, some (.arr 50 7 (X.map sgR))⟩])
            exact hn.fgtL (L := [_, _, _]) (L1 := [_]) ⟨rfl, ⟨_, rfl, .imm himm⟩, trivial⟩
          · simp only [hXl, ↓evPre, ↓evPreW, evPost, evPostW, evR, evU, seval]
  | some x =>
    have hlt' := (List.getElem?_eq_some_iff.1 hc).1
    have hlt : ((k : Int) < l.length) := by omega
    have hk1 : (k : Int) + 1 = ((k + 1 : Nat) : Int) := by omega
    have hx := hl.h2 x (List.mem_of_getElem? hc)
    have hg := fun S => rsegs_A p hp x day hx S
    have hhs := fun S => rhas_A x.p day S
    rw [segsD_flS] at hg
    simp only [plV, flR, pdR] at hg hhs
    have hst := sold1_succ (p := p) (day := day) hc
    have hfl := flS_len (p := p) (day := day) hx
    obtain ⟨X, hX⟩ : ∃ X, X = sold1 p l day (k + 1) := ⟨_, rfl⟩
    rw [← hX] at hst
    have himm := sgR_imm X
    simp (disch := first | omega | (simp only [lenT]; omega)) only [dT hlt, hc, flR, evSt, ↓evPre, ↓evPreW, evPost, evPostW, evR, evU, seval]
    refine (hhs _).then ?_
    cases hh : hasF x.p day with
    | true =>
      have hXl : X.length = (sold1 p l day k).length + (flS p day x).length := by rw [hst]; simp
      simp (disch := first | omega | (simp only [lenT]; omega)) only [wrap_i64, hk1, hc, flR, evSt, ↓evPre, ↓evPreW, evPost, evPostW, evR, evU, seval]
      refine (hg _).then ?_
      simp (disch := first | omega | (simp only [lenT]; omega)) only [wrap_i64, hk1, evSt, ↓evPre, ↓evPreW, evPost, evPostW, evR, evU, seval]
      refine ⟨by unfold roomA; omega, (k + 1, v + 1), by simp only; omega, by simp only; omega, ?_⟩
      simp only [← hX]
      refine back_under ?_ ?_ (by simp [V.under, V.allUnder])
      · rw [show List.map sgR (sold1 p l day k) ++ List.map sgR (flS p day x) = X.map sgR by rw [hst, List.map_append]]
        show Fgt _ (S ++ [⟨v + 1, some (.arr 50 7 (X.map sgR))⟩])
        exact hn.fgtL (L := [_]) (L1 := [_]) ⟨rfl, ⟨_, rfl, .imm himm⟩, trivial⟩
      · simp only [hXl, ↓evPre, ↓evPreW, evPost, evPostW, evR, evU, seval]
    | false =>
      have hY : flS p day x = [] := by unfold flS; rw [hh]; rfl
      rw [hY, List.append_nil] at hst
      have hXl : X.length = (sold1 p l day k).length := by rw [hst]
      simp (disch := first | omega | (simp only [lenT]; omega)) only [wrap_i64, hk1, evSt, ↓evPre, ↓evPreW, evPost, evPostW, evR, evU, seval]
      refine ⟨(k + 1, v), by simp only; omega, by simp only; omega, ?_⟩
      simp only [← hX]
      refine back_under ?_ ?_ (by simp [V.under, V.allUnder])
      · rw [← hst]
        show Fgt _ (S ++ [⟨v, some (.arr 50 7 (X.map sgR))⟩])
        exact hn.fgtL (L := [_]) (L1 := [_]) ⟨rfl, ⟨_, rfl, .imm himm⟩, trivial⟩
      · simp only [hXl, ↓evPre, ↓evPreW, evPost, evPostW, evR, evU, seval]
theorem index8_A (l : List Dt) (q : Dt → Bool) (g : FuncId) (caps : List V) (hl : l.length ≤ 1000000) (hq : ∀ x S, CallA Tryz.prog g (.agg (dtR x) :: caps) S fun r S' => r = .bool (q x) ∧ S' = S) (S : Store) :
    CallA Tryz.prog 122 [.sl 8 (l.map dtR), .func g [] caps] S fun r S' => r = .int .i64 (ixF q l 0) ∧ S' = S := by
  refine CallA.keep Tryz.func122 c622 (Nat.le_of_ble_eq_true rfl) fun σ hσ => ?_
  simp only [dtR] at hq
  simp (disch := first | omega | (simp only [lenT]; omega)) only [a622, evSt, ↓evPre, ↓evPreW, evPost, evPostW, evR, evU, seval]
  refine loopA (ι := Nat) (fun k => [(0, .sl 8 (l.map dtR)), (1, .func g [] caps), (7, .int .i64 l.length), (8, .int .i64 (k : Nat))]) (fun _ => S) (fun k => k ≤ l.length ∧ ixF q l 0 = ixF q (l.drop k) k) (fun k => l.length - k) 0 ⟨Nat.zero_le _, rfl⟩ ?_ rfl ?_
  · simp only [↓evPre, ↓evPreW, evPost, evPostW, evR, evU, seval]
  rintro k ⟨hk, he⟩
  cases hc : l[k]? with
  | none =>
    have hge : l.length ≤ k := List.getElem?_eq_none_iff.1 hc
    have hlt : ¬ ((k : Int) < l.length) := by omega
    rw [List.drop_eq_nil_of_le hge] at he
    simp (disch := first | omega | (simp only [lenT]; omega)) only [dF hlt, he, ixF, evSt, ↓evPre, ↓evPreW, evPost, evPostW, evR, evU, seval]
  | some y =>
    have hlt' := (List.getElem?_eq_some_iff.1 hc).1
    have hlt : (k : Int) < l.length := by omega
    have hk1 : (k : Int) + 1 = ((k + 1 : Nat) : Int) := by omega
    rw [drop_at hc, ixF] at he
    simp (disch := first | omega | (simp only [lenT]; omega)) only [dT hlt, hc, dtR, evSt, ↓evPre, ↓evPreW, evPost, evPostW, evR, evU, seval]
    refine (hq y S).then ?_
    cases hy : q y with
    | true =>
      rw [if_pos hy] at he
      simp (disch := first | omega | (simp only [lenT]; omega)) only [he, evSt, ↓evPre, ↓evPreW, evPost, evPostW, evR, evU, seval]
    | false =>
      rw [if_neg (by simp [hy])] at he
      simp (disch := first | omega | (simp only [lenT]; omega)) only [wrap_i64, hk1, evSt, ↓evPre, ↓evPreW, evPost, evPostW, evR, evU, seval]
      exact ⟨k + 1, ⟨by omega, he⟩, by omega, rfl⟩
theorem index9_A (l : List Sr) (q : Sr → Bool) (g : FuncId) (caps : List V) (hl : l.length ≤ 1000000) (hq : ∀ x S, CallA Tryz.prog g (.agg (srR x) :: caps) S fun r S' => r = .bool (q x) ∧ S' = S) (S : Store) :
    CallA Tryz.prog 156 [.sl 9 (l.map srR), .func g [] caps] S fun r S' => r = .int .i64 (ixF q l 0) ∧ S' = S := by
  refine CallA.keep Tryz.func156 c656 (Nat.le_of_ble_eq_true rfl) fun σ hσ => ?_
  simp only [srR] at hq
  simp (disch := first | omega | (simp only [lenT]; omega)) only [a656, evSt, ↓evPre, ↓evPreW, evPost, evPostW, evR, evU, seval]
  refine loopA (ι := Nat) (fun k => [(0, .sl 9 (l.map srR)), (1, .func g [] caps), (7, .int .i64 l.length), (8, .int .i64 (k : Nat))]) (fun _ => S) (fun k => k ≤ l.length ∧ ixF q l 0 = ixF q (l.drop k) k) (fun k => l.length - k) 0 ⟨Nat.zero_le _, rfl⟩ ?_ rfl ?_
  · simp only [↓evPre, ↓evPreW, evPost, evPostW, evR, evU, seval]
  rintro k ⟨hk, he⟩
  cases hc : l[k]? with
  | none =>
    have hge : l.length ≤ k := List.getElem?_eq_none_iff.1 hc
    have hlt : ¬ ((k : Int) < l.length) := by omega
    rw [List.drop_eq_nil_of_le hge] at he
    simp (disch := first | omega | (simp only [lenT]; omega)) only [dF hlt, he, ixF, evSt, ↓evPre, ↓evPreW, evPost, evPostW, evR, evU, seval]
  | some y =>
    have hlt' := (List.getElem?_eq_some_iff.1 hc).1
    have hlt : (k : Int) < l.length := by omega
    have hk1 : (k : Int) + 1 = ((k + 1 : Nat) : Int) := by omega
    rw [drop_at hc, ixF] at he
    simp (disch := first | omega | (simp only [lenT]; omega)) only [dT hlt, hc, srR, evSt, ↓evPre, ↓evPreW, evPost, evPostW, evR, evU, seval]
    refine (hq y S).then ?_
    cases hy : q y with
    | true =>
      rw [if_pos hy] at he
      simp (disch := first | omega | (simp only [lenT]; omega)) only [he, evSt, ↓evPre, ↓evPreW, evPost, evPostW, evR, evU, seval]
    | false =>
      rw [if_neg (by simp [hy])] at he
      simp (disch := first | omega | (simp only [lenT]; omega)) only [wrap_i64, hk1, evSt, ↓evPre, ↓evPreW, evPost, evPostW, evR, evU, seval]
      exact ⟨k + 1, ⟨by omega, he⟩, by omega, rfl⟩
theorem contains9_A (l : List Sr) (q : Sr → Bool) (g : FuncId) (caps : List V) (hl : l.length ≤ 1000000) (hq : ∀ x S, CallA Tryz.prog g (.agg (srR x) :: caps) S fun r S' => r = .bool (q x) ∧ S' = S) (S : Store) :
    CallA Tryz.prog 118 [.sl 9 (l.map srR), .func g [] caps] S fun r S' => r = .bool (l.any q) ∧ S' = S := by
  refine CallA.keep Tryz.func118 c618 (Nat.le_of_ble_eq_true rfl) fun σ hσ => ?_
  simp (disch := first | omega | (simp only [lenT]; omega)) only [a618, evSt, ↓evPre, ↓evPreW, evPost, evPostW, evR, evU, seval]
  refine (index9_A l q g caps hl hq S).then ?_
  simp (disch := first | omega | (simp only [lenT]; omega)) only [ix_any, evSt, ↓evPre, ↓evPreW, evPost, evPostW, evR, evU, seval]


theorem path1_A (d : Dt) (s : Sg) (S : Store) : CallA Tryz.prog 123 [.agg (dtR d), .cptr (sgR s)] S fun r S' => r = .bool (decide (d.f = s.f)) ∧ S' = S := by
  refine CallA.keep Tryz.func123 c623 (Nat.le_of_ble_eq_true rfl) fun σ hσ => ?_
  simp (disch := first | omega | (simp only [lenT]; omega)) only [a623, dtR, sgR, evSt, ↓evPre, ↓evPreW, evPost, evPostW, evR, evU, seval]
theorem path2_A (d : Dt) (s : Sg) (S : Store) : CallA Tryz.prog 124 [.agg (dtR d), .cptr (sgR s)] S fun r S' => r = .bool (decide (d.t = s.t)) ∧ S' = S := by
  refine CallA.keep Tryz.func124 c624 (Nat.le_of_ble_eq_true rfl) fun σ hσ => ?_
  simp (disch := first | omega | (simp only [lenT]; omega)) only [a624, dtR, sgR, evSt, ↓evPre, ↓evPreW, evPost, evPostW, evR, evU, seval]

/-! ### The cut, by places -/
theorem ix_shift {α : Type} (q : α → Bool) : ∀ (l : List α) (k : Nat), ixF q l k = if l.any q then ((k + l.findIdx q : Nat) : Int) else -1
  | [], k => by simp [ixF]
  | y :: l, k => by
    rw [ixF]
    by_cases h : q y = true
    · simp [h, List.findIdx_cons]
    · rw [if_neg h, ix_shift q l (k + 1)]
      have h' : q y = false := by simpa using h
      simp only [List.any_cons, h', Bool.false_or, List.findIdx_cons, cond_false]
      split
      · congr 1; omega
      · rfl
theorem cut_no {f t : Txt} : ∀ {L : List Dt}, L.any (fun d => decide (d.f = f)) = false → cutF f t L = none
  | [], _ => rfl
  | a :: L, h => by
    simp only [List.any_cons, Bool.or_eq_false_iff, decide_eq_false_iff_not] at h
    rw [cutF, if_neg h.1]
    exact cut_no h.2
theorem cut_ix {f t : Txt} : ∀ {L : List Dt}, L.any (fun d => decide (d.f = f)) = true → cutF f t L =
    if (L.drop (L.findIdx fun d => decide (d.f = f))).any (fun d => decide (d.t = t)) then some ((L.drop (L.findIdx fun d => decide (d.f = f))).take ((L.drop (L.findIdx fun d => decide (d.f = f))).findIdx (fun d => decide (d.t = t)) + 1)) else none
  | [], h => by simp at h
  | a :: L, h => by
    by_cases ha : a.f = f
    · rw [cutF, if_pos ha]
      simp only [List.findIdx_cons, ha, decide_true, cond_true, List.drop_zero]
    · rw [cutF, if_neg ha]
      simp only [List.any_cons, ha, decide_false, Bool.false_or] at h
      simp only [List.findIdx_cons, ha, decide_false, cond_false, List.drop_succ_cons]
      exact cut_ix h
theorem path_c {p : Pls} {x : Fl} {s : Sg} (h : ¬ (s.c = x.c ∧ s.n = x.n)) : pathF p x s = ([], 7) := by unfold pathF; rw [if_pos h]
theorem path_d {p : Pls} {x : Fl} {s : Sg} (h : s.c = x.c ∧ s.n = x.n) (hd : hasF x.p s.day = false) : pathF p x s = ([], 12) := by unfold pathF; rw [if_neg (by simp [h]), if_pos hd]
theorem path_n {p : Pls} {x : Fl} {s : Sg} (h : s.c = x.c ∧ s.n = x.n) (hd : hasF x.p s.day = true) (hc : cutF s.f s.t (legsF p x s.day) = none) : pathF p x s = ([], 14) := by unfold pathF; rw [if_neg (by simp [h]), if_neg (by simp [hd]), hc]
theorem path_s {p : Pls} {x : Fl} {s : Sg} {m : List Dt} {a b : Dt} (h : s.c = x.c ∧ s.n = x.n) (hd : hasF x.p s.day = true) (hc : cutF s.f s.t (legsF p x s.day) = some m) (ha : m.head? = some a) (hb : m.getLast? = some b) :
    pathF p x s = if a.dep = s.dep ∧ b.arr = s.arr then (m.map idOf, 0) else ([], 13) := by
  unfold pathF
  rw [if_neg (by simp [h]), if_neg (by simp [hd]), hc]
  simp only [ha, hb, Option.map_some, Option.some.injEq]
theorem idR_imm (l : List Id) : ∀ r ∈ l.map idR, r.length = 4 ∧ V.allImm r = true := fun r hr => by
  obtain ⟨x, _, rfl⟩ := List.mem_map.1 hr
  exact ⟨rfl, rfl⟩
theorem path_D (p : Pls) (hp : POk p) (x : Fl) (hx : x.legs.length ≤ 300) (s : Sg) (S : Store) : CallA Tryz.prog 80 [plV p, .agg (flR x), .agg (sgR s)] S fun r S' => r = .tup [.sl 4 ((pathF p x s).1.map idR), .int .i64 (pathF p x s).2] ∧ S' = S := by
  refine CallA.withNeat Tryz.func80 c580 fun hn => ?_
  refine CallA.fin Tryz.func80 c580 (Nat.le_of_ble_eq_true rfl) fun σ hσ => ?_
  have hg := fun S => legs_A p hp x s.day (by omega) S
  simp only [plV, flR] at hg
  have hlen : (legsF p x s.day).length = x.legs.length := by simp [legsF]
  by_cases h1 : s.c = x.c
  case neg =>
    rw [path_c (fun h => h1 h.1)]
    have d1 : decide (s.c = x.c) = false := dF h1
    simp (disch := first | omega | (simp only [lenT]; omega)) only [a580, plV, flR, sgR, d1, evSt, ↓evPre, ↓evPreW, evPost, evPostW, evR, evU, seval]
    exact ⟨_, S, hn.self, .tup2 .nil (.imm rfl), Nat.le_refl _, rfl, rfl⟩
  by_cases h2 : s.n = x.n
  case neg =>
    rw [path_c (fun h => h2 h.2)]
    simp (disch := first | omega | (simp only [lenT]; omega)) only [a580, plV, flR, sgR, dT h1, dF h2, evSt, ↓evPre, ↓evPreW, evPost, evPostW, evR, evU, seval]
    exact ⟨_, S, hn.self, .tup2 .nil (.imm rfl), Nat.le_refl _, rfl, rfl⟩
  simp (disch := first | omega | (simp only [lenT]; omega)) only [a580, plV, flR, sgR, dT h1, dT h2, evSt, ↓evPre, ↓evPreW, evPost, evPostW, evR, evU, seval]
  refine (hg _).then ?_
  unfold legsD
  cases hd : hasF x.p s.day with
  | false =>
    rw [path_d ⟨h1, h2⟩ hd]
    simp (disch := first | omega | (simp only [lenT]; omega)) only [evSt, ↓evPre, ↓evPreW, evPost, evPostW, evR, evU, seval]
    exact ⟨_, S, hn.self, .tup2 .nil (.imm rfl), Nat.le_refl _, rfl, rfl⟩
  | true =>
    simp (disch := first | omega | (simp only [lenT]; omega)) only [if_true, evSt, ↓evPre, ↓evPreW, evPost, evPostW, evR, evU, seval]
    have hi := fun S => index8_A (legsF p x s.day) (fun d => decide (d.f = s.f)) 123 [.cptr (sgR s)] (by omega) (fun d S => path1_A d s S) S
    have hj := fun M (hM : M.length ≤ 300) S => index8_A M (fun d => decide (d.t = s.t)) 124 [.cptr (sgR s)] (by omega) (fun d S => path2_A d s S) S
    simp only [sgR] at hi hj
    refine (hi _).then ?_
    rw [ix_shift]
    have hcn := cut_no (f := s.f) (t := s.t) (L := legsF p x s.day)
    have hci := cut_ix (f := s.f) (t := s.t) (L := legsF p x s.day)
    have hle : (legsF p x s.day).findIdx (fun d => decide (d.f = s.f)) ≤ (legsF p x s.day).length := List.findIdx_le_length
    cases ha : (legsF p x s.day).any (fun d => decide (d.f = s.f)) with
    | false =>
      rw [path_n ⟨h1, h2⟩ hd (hcn ha)]
      simp (disch := first | omega | (simp only [lenT]; omega)) only [if_false, Bool.false_eq_true, evSt, ↓evPre, ↓evPreW, evPost, evPostW, evR, evU, seval]
      exact ⟨_, S, hn.self, .tup2 .nil (.imm rfl), Nat.le_refl _, rfl, rfl⟩
    | true =>
      have hci := hci ha
      obtain ⟨i0, hi0⟩ : ∃ i0, i0 = (legsF p x s.day).findIdx (fun d => decide (d.f = s.f)) := ⟨_, rfl⟩
      rw [← hi0] at hci hle
      rw [if_pos rfl, ← hi0, Nat.zero_add]
      have hneg : ¬ ((i0 : Int) < 0) := by omega
      have hdr : ((legsF p x s.day).map dtR).drop i0 = ((legsF p x s.day).drop i0).map dtR := by rw [List.map_drop]
      have hML : ((legsF p x s.day).drop i0).length ≤ 300 := by simp; omega
      have hMl : ((legsF p x s.day).drop i0).length = (legsF p x s.day).length - i0 := by simp
      have hmem : ∀ d ∈ (legsF p x s.day).drop i0, d.c = x.c ∧ d.n = x.n ∧ d.day = s.day := fun d hd2 => by
        obtain ⟨j, hj⟩ := List.getElem?_of_mem (List.mem_of_mem_drop hd2)
        obtain ⟨le, _, rfl⟩ := legs_at hj
        exact ⟨rfl, rfl, rfl⟩
      generalize (legsF p x s.day).drop i0 = M at hci hdr hML hMl hmem
      have hcd : ((i0 : Int) ≤ ((legsF p x s.day).length : Nat) ∧ (((legsF p x s.day).length : Nat) : Int) ≤ ((legsF p x s.day).length : Nat)) = True := eq_true ⟨by omega, Int.le_refl _⟩
      have htk : List.take ((legsF p x s.day).length - i0) M = M := List.take_of_length_le (by omega)
      simp (disch := first | omega | (simp only [lenT]; omega)) only [dF hneg, hdr, hcd, htk, if_true, evSt, ↓evPre, ↓evPreW, evPost, evPostW, evR, evU, seval]
      refine (hj M hML _).then ?_
      rw [ix_shift]
      cases hb : M.any (fun d => decide (d.t = s.t)) with
      | false =>
        rw [hb] at hci
        rw [path_n ⟨h1, h2⟩ hd (by rw [hci]; rfl)]
        simp (disch := first | omega | (simp only [lenT]; omega)) only [if_false, Bool.false_eq_true, evSt, ↓evPre, ↓evPreW, evPost, evPostW, evR, evU, seval]
        exact ⟨_, S, hn.self, .tup2 .nil (.imm rfl), Nat.le_refl _, rfl, rfl⟩
      | true =>
        rw [hb, if_pos rfl] at hci
        have hnl : M.findIdx (fun d => decide (d.t = s.t)) < M.length := List.findIdx_lt_length.2 (List.any_eq_true.1 hb)
        generalize M.findIdx (fun d => decide (d.t = s.t)) = n0 at hci hnl ⊢
        rw [if_pos rfl, Nat.zero_add]
        obtain ⟨a, ha0⟩ : ∃ a, M[0]? = some a := ⟨_, List.getElem?_eq_getElem (by omega)⟩
        obtain ⟨b, hb0⟩ : ∃ b, M[n0]? = some b := ⟨_, List.getElem?_eq_getElem hnl⟩
        have hhd : (M.take (n0 + 1)).head? = some a := by rw [List.head?_take, if_neg (by omega), List.head?_eq_getElem?]; exact ha0
        have hlt2 : (M.take (n0 + 1)).length = n0 + 1 := by simp; omega
        have hls : (M.take (n0 + 1)).getLast? = some b := by rw [List.getLast?_eq_getElem?, hlt2, List.getElem?_take, if_pos (by omega)]; simpa using hb0
        have hpath := path_s ⟨h1, h2⟩ hd hci hhd hls
        have hneg2 : ¬ ((n0 : Int) < 0) := by omega
        have hn1 : (n0 : Int) + 1 = ((n0 + 1 : Nat) : Int) := by omega
        have hcd2 : ((0 : Int) ≤ ((n0 + 1 : Nat) : Int) ∧ ((n0 + 1 : Nat) : Int) ≤ (M.length : Nat)) = True := eq_true ⟨by omega, by omega⟩
        rw [hpath]
        cases hd1 : decide (a.dep = s.dep)
        case false =>
          rw [if_neg (fun h => by simp [h.1] at hd1)]
          simp (disch := first | omega | (simp only [lenT]; omega)) only [dF hneg2, ha0, hb0, hd1, dtR, evSt, ↓evPre, ↓evPreW, evPost, evPostW, evR, evU, seval]
          exact ⟨_, S, hn.self, .tup2 .nil (.imm rfl), Nat.le_refl _, rfl, rfl⟩
        cases hd2 : decide (b.arr = s.arr)
        case false =>
          rw [if_neg (fun h => by simp [h.2] at hd2)]
          simp (disch := first | omega | (simp only [lenT]; omega)) only [dF hneg2, ha0, hb0, hd1, hd2, dtR, evSt, ↓evPre, ↓evPreW, evPost, evPostW, evR, evU, seval]
          exact ⟨_, S, hn.self, .tup2 .nil (.imm rfl), Nat.le_refl _, rfl, rfl⟩
        rw [if_pos ⟨of_decide_eq_true hd1, of_decide_eq_true hd2⟩]
        have hmem2 : ∀ d ∈ M.take (n0 + 1), d.c = x.c ∧ d.n = x.n ∧ d.day = s.day := fun d h => hmem d (List.mem_of_mem_take h)
        have hrm : (((n0 + 1 : Nat) : Int) ≤ (roomA : Int)) = True := eq_true (by unfold roomA; omega)
        have hcd3 : (((n0 + 1 : Nat) : Int) ≤ (M.length : Nat)) = True := eq_true (by omega)
        simp (disch := first | omega | (simp only [lenT]; omega)) only [dF hneg2, ha0, hb0, hd1, hd2, hn1, hrm, hcd3, true_and, if_true, dtR, wrap_i64, evSt, ↓evPre, ↓evPreW, evPost, evPostW, evR, evU, seval]
        generalize M.take (n0 + 1) = Q at hmem2 hlt2
        rw [hlt2]
        refine loopF (ι := Nat) (fun k => [(4, .cptr (flR x)), (5, .cptr (sgR s)), (12, .msl S.length k 0 k), (76, .sl 8 (Q.map dtR)), (77, .int .i64 (n0 + 1 : Nat)), (78, .int .i64 (k : Nat))]) (fun k => S ++ [⟨k, some (.arr 73 4 (((Q.take k).map idOf).map idR))⟩]) (fun k => k ≤ n0 + 1) (fun k => n0 + 1 - k) (fun i hi => by rw [hσ]; simp) 0 (Nat.zero_le _) (.inl ⟨?_, rfl⟩) ?_
        · simp only [flR, sgR, ↓evPre, ↓evPreW, evPost, evPostW, evR, evU, seval]
          try rfl
        intro k hk
        cases hc : Q[k]? with
        | none =>
          have hge := List.getElem?_eq_none_iff.1 hc
          have hlt : ¬ ((k : Int) < ((n0 + 1 : Nat) : Int)) := by omega
          have hkn : k = n0 + 1 := by omega
          rw [List.take_of_length_le hge]
          simp (disch := first | omega | (simp only [lenT]; omega)) only [flR, sgR, dF hlt, evSt, ↓evPre, ↓evPreW, evPost, evPostW, evR, evU, seval]
          exact ⟨_, S, hn.fgt _, .tup2 (.sl (t := 73) (Nat.le_refl _) (by rw [ob_app0, ob_head]) (by simp; omega) (idR_imm _)) (.imm rfl), Nat.le_refl _, rfl, rfl⟩
        | some y =>
          have hlt' := (List.getElem?_eq_some_iff.1 hc).1
          have hlt : ((k : Int) < ((n0 + 1 : Nat) : Int)) := by omega
          have hk1 : (k : Int) + 1 = ((k + 1 : Nat) : Int) := by omega
          obtain ⟨y1, y2, y3⟩ := hmem2 y (List.mem_of_getElem? hc)
          have hkq : (((Q.take k).map idOf).map idR).length = k := by simp; omega
          have hr1 : (k + 1 ≤ roomA) = True := eq_true (by unfold roomA; omega)
          have hrow : ((Q.take k).map idOf).map idR ++ [[.str x.c, .int .i64 x.n, .int .i64 s.day, .str y.f]] = ((Q.take (k + 1)).map idOf).map idR := by rw [take_at hc]; simp [idOf, idR, y1, y2, y3]
          have himm := idR_imm ((Q.take (k + 1)).map idOf)
          simp (disch := first | omega | (simp only [lenT]; omega)) only [flR, sgR, dtR, dT hlt, hc, wrap_i64, hk1, evSt, ↓evPre, ↓evPreW, evPost, evPostW, evR, evU, seval]
          refine ⟨by simp; omega, by unfold roomA; omega, k + 1, by omega, by omega, back_under ?_ (by simp only [flR, sgR, ↓evPre, ↓evPreW, evPost, evPostW, evR, evU, seval]; try rfl) (by simp [V.under, V.allUnder, flR, sgR])⟩
          rw [hrow]
          show Fgt _ (S ++ [⟨k + 1, some (.arr 73 4 (((Q.take (k + 1)).map idOf).map idR))⟩])
          exact hn.fgtL (L := [_, _]) (L1 := [_]) ⟨rfl, ⟨_, rfl, .imm himm⟩, trivial⟩

/-! ### The reference's way -/
theorem ids_A (L : List Dt) (hl : L.length ≤ 1000000) (S : Store) : CallA Tryz.prog 125 [.sl 8 (L.map dtR)] S fun r S' => r = .sl 4 ((L.map idOf).map idR) ∧ S' = S := by
  refine CallA.withNeat Tryz.func125 c625 fun hn => ?_
  refine CallA.fin Tryz.func125 c625 (Nat.le_of_ble_eq_true rfl) fun σ hσ => ?_
  simp (disch := first | omega | (simp only [lenT]; omega)) only [a625, evSt, ↓evPre, ↓evPreW, evPost, evPostW, evR, evU, seval]
  refine loopA (ι := Nat) (fun k => [(0, .sl 8 (L.map dtR)), (3, accV S.length (((L.take k).map idOf).map idR)), (4, .int .i64 (k : Nat))]) (fun k => S ++ accT 73 4 (((L.take k).map idOf).map idR)) (fun k => k ≤ L.length) (fun k => L.length - k) 0 (Nat.zero_le _) ?_ (by simp [accT]) ?_
  · simp only [List.map_nil, accV_nil, ↓evPre, ↓evPreW, evPost, evPostW, evR, evU, seval]
    try rfl
  intro k hk
  cases hc : L[k]? with
  | none =>
    have hge := List.getElem?_eq_none_iff.1 hc
    have hlt : ¬ ((k : Int) < L.length) := by omega
    rw [List.take_of_length_le hge]
    simp (disch := first | omega | (simp only [lenT]; omega)) only [dF hlt, evSt, ↓evPre, ↓evPreW, evPost, evPostW, evR, evU, seval]
    exact ⟨_, S, hn.fgt _, frz_acc (idR_imm _), Nat.le_refl _, rfl, rfl⟩
  | some y =>
    have hlt' := (List.getElem?_eq_some_iff.1 hc).1
    have hlt : ((k : Int) < L.length) := by omega
    have hk1 : (k : Int) + 1 = ((k + 1 : Nat) : Int) := by omega
    have hb0 : (((L.take k).map idOf).map idR).length < 100000000 := by simp; omega
    have hst : ((L.take (k + 1)).map idOf).map idR = ((L.take k).map idOf).map idR ++ [[.str y.c, .int .i64 y.n, .int .i64 y.day, .str y.f]] := by rw [take_at hc]; simp [idOf, idR]
    simp (disch := first | omega | (simp only [lenT]; omega)) only [dT hlt, hc, dtR, app_accL rfl hb0, wrap_i64, hk1, evSt, ↓evPre, ↓evPreW, evPost, evPostW, evR, evU, seval]
    exact ⟨k + 1, by omega, by omega, by rw [hst]; exact ⟨rfl, rfl⟩, by rw [hst]⟩
/-- How far the reference has looked: what is left decides, or nothing is left to be found. -/
def cutI (f t : Txt) (L : List Dt) (i : Nat) : Prop := cutF f t L = cutF f t (L.drop i) ∨ (cutF f t L = none ∧ (L.drop i).any (fun d => decide (d.t = t)) = false)
theorem cutI_hit {f t : Txt} {L : List Dt} {i k : Nat} {a b : Dt} (h : cutI f t L i) (ha : L[i]? = some a) (hb : L[k]? = some b) (hik : i ≤ k) (hf : a.f = f) (ht : b.t = t) (hno : ((L.drop i).take (k - i)).any (fun d => decide (d.t = t)) = false) : cutF f t L = some ((L.drop i).take (k - i + 1)) := by
  have hbk : (L.drop i)[k - i]? = some b := by rw [List.getElem?_drop, show i + (k - i) = k by omega]; exact hb
  rcases h with h | ⟨_, h⟩
  · rw [h]
    rw [drop_at ha] at hbk hno ⊢
    refine cut_any hf hbk ht fun j y hj hy hyt => ?_
    rw [List.any_eq_false] at hno
    exact hno y (List.mem_of_getElem? (i := j) (by rw [List.getElem?_take, if_pos hj]; exact hy)) (by simp [hyt])
  · rw [List.any_eq_false] at h
    exact absurd (by simp [ht]) (h b (List.mem_of_getElem? hbk))
theorem cutI_next {f t : Txt} {L : List Dt} {i : Nat} {a : Dt} (h : cutI f t L i) (ha : L[i]? = some a) (hno : a.f = f → (L.drop i).any (fun d => decide (d.t = t)) = false) : cutI f t L (i + 1) := by
  have hsub : (L.drop i).any (fun d => decide (d.t = t)) = false → (L.drop (i + 1)).any (fun d => decide (d.t = t)) = false := fun g => by
    rw [drop_at ha, List.any_cons, Bool.or_eq_false_iff] at g
    exact g.2
  rcases h with h | ⟨h1, h2⟩
  · by_cases hf : a.f = f
    · have hn := hno hf
      refine .inr ⟨?_, hsub hn⟩
      rw [h]
      rw [drop_at ha] at hn ⊢
      rw [cutF, if_pos hf, hn]
      rfl
    · refine .inl ?_
      rw [h, drop_at ha, cutF, if_neg hf]
  · exact .inr ⟨h1, hsub h2⟩
theorem cutI_end {f t : Txt} {L : List Dt} {i : Nat} (h : cutI f t L i) (hi : L.length ≤ i) : cutF f t L = none := by
  rcases h with h | ⟨h1, _⟩
  · rw [h, List.drop_eq_nil_of_le hi]
    rfl
  · exact h1
set_option maxHeartbeats 4000000 in
theorem rpath_D (p : Pls) (hp : POk p) (x : Fl) (hx : x.legs.length ≤ 300) (s : Sg) (S : Store) : CallA Tryz.prog 81 [plV p, .agg (flR x), .agg (sgR s)] S fun r S' => r = .tup [.sl 4 ((pathF p x s).1.map idR), .int .i64 (pathF p x s).2] ∧ S' = S := by
  refine CallA.withNeat Tryz.func81 c581 fun hn => ?_
  refine CallA.fin Tryz.func81 c581 (Nat.le_of_ble_eq_true rfl) fun σ hσ => ?_
  have hg := fun S => rlegs_A p hp x s.day (by omega) S
  simp only [plV, flR] at hg
  have hlen : (legsF p x s.day).length = x.legs.length := by simp [legsF]
  by_cases h1 : s.c = x.c
  case neg =>
    rw [path_c (fun h => h1 h.1)]
    have d1 : decide (s.c = x.c) = false := dF h1
    simp (disch := first | omega | (simp only [lenT]; omega)) only [a581, plV, flR, sgR, d1, evSt, ↓evPre, ↓evPreW, evPost, evPostW, evR, evU, seval]
    exact ⟨_, S, hn.self, .tup2 .nil (.imm rfl), Nat.le_refl _, rfl, rfl⟩
  by_cases h2 : s.n = x.n
  case neg =>
    rw [path_c (fun h => h2 h.2)]
    simp (disch := first | omega | (simp only [lenT]; omega)) only [a581, plV, flR, sgR, dT h1, dF h2, evSt, ↓evPre, ↓evPreW, evPost, evPostW, evR, evU, seval]
    exact ⟨_, S, hn.self, .tup2 .nil (.imm rfl), Nat.le_refl _, rfl, rfl⟩
  simp (disch := first | omega | (simp only [lenT]; omega)) only [a581, plV, flR, sgR, dT h1, dT h2, evSt, ↓evPre, ↓evPreW, evPost, evPostW, evR, evU, seval]
  refine (hg _).then ?_
  unfold legsD
  cases hd : hasF x.p s.day with
  | false =>
    rw [path_d ⟨h1, h2⟩ hd]
    simp (disch := first | omega | (simp only [lenT]; omega)) only [evSt, ↓evPre, ↓evPreW, evPost, evPostW, evR, evU, seval]
    exact ⟨_, S, hn.self, .tup2 .nil (.imm rfl), Nat.le_refl _, rfl, rfl⟩
  | true =>
    have hmem : ∀ d ∈ legsF p x s.day, d.c = x.c ∧ d.n = x.n ∧ d.day = s.day := fun d hd2 => by
      obtain ⟨j, hj⟩ := List.getElem?_of_mem hd2
      obtain ⟨le, _, rfl⟩ := legs_at hj
      exact ⟨rfl, rfl, rfl⟩
    have hpn := path_n (p := p) (x := x) (s := s) ⟨h1, h2⟩ hd
    have hps := fun m a b => path_s (p := p) (x := x) (s := s) (m := m) (a := a) (b := b) ⟨h1, h2⟩ hd
    generalize pathF p x s = PR at hpn hps ⊢
    generalize legsF p x s.day = L at hlen hmem hpn hps ⊢
    simp (disch := first | omega | (simp only [lenT]; omega)) only [if_true, evSt, ↓evPre, ↓evPreW, evPost, evPostW, evR, evU, seval]
    refine loopA (ι := Nat) (fun i => [(5, .cptr (sgR s)), (8, .sl 8 (L.map dtR)), (10, .int .i64 (i : Nat))]) (fun _ => S) (fun i => i ≤ L.length ∧ cutI s.f s.t L i) (fun i => L.length - i) 0 ⟨Nat.zero_le _, .inl (by simp)⟩ ?_ rfl ?_
    · simp only [sgR, ↓evPre, ↓evPreW, evPost, evPostW, evR, evU, seval]
      try rfl
    rintro i ⟨hi, hci⟩
    cases hc : L[i]? with
    | none =>
      have hge := List.getElem?_eq_none_iff.1 hc
      have hlt : ¬ ((i : Int) < L.length) := by omega
      rw [hpn (cutI_end hci hge)]
      simp (disch := first | omega | (simp only [lenT]; omega)) only [dF hlt, evSt, ↓evPre, ↓evPreW, evPost, evPostW, evR, evU, seval]
      exact ⟨_, S, hn.self, .tup2 .nil (.imm rfl), Nat.le_refl _, rfl, rfl⟩
    | some a =>
      have hlt' := (List.getElem?_eq_some_iff.1 hc).1
      have hlt : ((i : Int) < L.length) := by omega
      have hi1 : (i : Int) + 1 = ((i + 1 : Nat) : Int) := by omega
      obtain ⟨m1, m2, m3⟩ := hmem a (List.mem_of_getElem? hc)
      simp (disch := first | omega | (simp only [lenT]; omega)) only [dT hlt, evSt, ↓evPre, ↓evPreW, evPost, evPostW, evR, evU, seval]
      refine loopA (ι := Nat) (fun k => [(5, .cptr (sgR s)), (8, .sl 8 (L.map dtR)), (10, .int .i64 (i : Nat)), (11, .int .i64 (k : Nat))]) (fun _ => S) (fun k => i ≤ k ∧ k ≤ L.length ∧ (a.f = s.f → ((L.drop i).take (k - i)).any (fun d => decide (d.t = s.t)) = false)) (fun k => L.length - k) i ⟨Nat.le_refl _, hi, fun _ => by simp⟩ ?_ rfl ?_
      · simp only [↓evPre, ↓evPreW, evPost, evPostW, evR, evU, seval]
        try rfl
      rintro k ⟨hik, hk, hno⟩
      cases hck : L[k]? with
      | none =>
        have hge := List.getElem?_eq_none_iff.1 hck
        have hltk : ¬ ((k : Int) < L.length) := by omega
        simp (disch := first | omega | (simp only [lenT]; omega)) only [dF hltk, wrap_i64, hi1, evSt, ↓evPre, ↓evPreW, evPost, evPostW, evR, evU, seval]
        refine ⟨i + 1, ⟨by omega, cutI_next hci hc fun hf => ?_⟩, by omega, rfl⟩
        have := hno hf
        rwa [List.take_of_length_le (by simp; omega)] at this
      | some b =>
        have hltk' := (List.getElem?_eq_some_iff.1 hck).1
        have hltk : ((k : Int) < L.length) := by omega
        have hk1 : (k : Int) + 1 = ((k + 1 : Nat) : Int) := by omega
        have hbk : (L.drop i)[k - i]? = some b := by rw [List.getElem?_drop, show i + (k - i) = k by omega]; exact hck
        have hnx : ((L.drop i).take (k + 1 - i)).any (fun d => decide (d.t = s.t)) = (((L.drop i).take (k - i)).any (fun d => decide (d.t = s.t)) || decide (b.t = s.t)) := by
          rw [show k + 1 - i = k - i + 1 by omega, take_at hbk, List.any_append]
          simp
        cases d1 : decide (a.f = s.f)
        case false =>
          simp (disch := first | omega | (simp only [lenT]; omega)) only [dT hltk, hc, hck, d1, dtR, sgR, wrap_i64, hk1, evSt, ↓evPre, ↓evPreW, evPost, evPostW, evR, evU, seval]
          exact ⟨k + 1, ⟨by omega, by omega, fun hf => by simp [hf] at d1⟩, by omega, rfl⟩
        have hf : a.f = s.f := of_decide_eq_true d1
        cases d2 : decide (b.t = s.t)
        case false =>
          simp (disch := first | omega | (simp only [lenT]; omega)) only [dT hltk, hc, hck, d1, d2, dtR, sgR, wrap_i64, hk1, evSt, ↓evPre, ↓evPreW, evPost, evPostW, evR, evU, seval]
          exact ⟨k + 1, ⟨by omega, by omega, fun hf => by rw [hnx, hno hf, d2]; rfl⟩, by omega, rfl⟩
        have ht : b.t = s.t := of_decide_eq_true d2
        have hcut := cutI_hit hci hc hck hik hf ht (hno hf)
        have hhd : ((L.drop i).take (k - i + 1)).head? = some a := by rw [List.head?_take, if_neg (by omega), List.head?_drop]; exact hc
        have hls : ((L.drop i).take (k - i + 1)).getLast? = some b := by
          rw [List.getLast?_eq_getElem?, List.length_take, List.length_drop, List.getElem?_take, if_pos (by omega), show min (k - i + 1) (L.length - i) - 1 = k - i by omega]
          exact hbk
        have hres := hps _ _ _ hcut hhd hls
        have hcd : ((i : Int) ≤ ((k + 1 : Nat) : Int) ∧ ((k + 1 : Nat) : Int) ≤ (L.length : Nat)) = True := eq_true ⟨by omega, by omega⟩
        have hsg := fun S => rseg_A L i k a b hc hck (by omega) S
        have q1 : decide (a.c = s.c) = true := decide_eq_true (by rw [m1, h1])
        have q2 : decide (a.n = s.n) = true := decide_eq_true (by rw [m2, h2])
        have q3 : decide (a.day = s.day) = true := decide_eq_true m3
        simp (disch := first | omega | (simp only [lenT]; omega)) only [dT hltk, hc, hck, d1, d2, dtR, sgR, wrap_i64, hk1, evSt, ↓evPre, ↓evPreW, evPost, evPostW, evR, evU, seval]
        refine exD.intro (hsg _) ?_
        cases d3 : decide (a.dep = s.dep) <;> cases d4 : decide (b.arr = s.arr) <;> simp (disch := first | omega | (simp only [lenT]; omega)) only [segOf, sgR, q1, q2, q3, d1, d2, d3, d4, Bool.true_and, Bool.and_true, Bool.and_self, Bool.and_false, Bool.not_true, Bool.not_false, wrap_i64, hk1, evSt, ↓evPre, ↓evPreW, evPost, evPostW, evR, evU, seval]
        all_goals first
          | (rw [if_neg (fun h => Bool.false_ne_true (d3.symm.trans (dT h.1)))] at hres
             rw [hres]
             exact ⟨_, S, hn.self, .tup2 .nil (.imm rfl), Nat.le_refl _, rfl, rfl⟩)
          | (rw [if_neg (fun h => Bool.false_ne_true (d4.symm.trans (dT h.2)))] at hres
             rw [hres]
             exact ⟨_, S, hn.self, .tup2 .nil (.imm rfl), Nat.le_refl _, rfl, rfl⟩)
          | skip
        have e3 : a.dep = s.dep := of_decide_eq_true d3
        have e4 : b.arr = s.arr := of_decide_eq_true d4
        rw [if_pos ⟨e3, e4⟩] at hres
        rw [hres]
        simp (disch := first | omega | (simp only [lenT]; omega)) only [hcd, if_true, evSt, ↓evPre, ↓evPreW, evPost, evPostW, evR, evU, seval]
        rw [show k + 1 - i = k - i + 1 by omega]
        refine (ids_A _ (by simp; omega) _).then ?_
        simp (disch := first | omega | (simp only [lenT]; omega)) only [evSt, ↓evPre, ↓evPreW, evPost, evPostW, evR, evU, seval]
        exact ⟨_, S, hn.self, .imm rfl, Nat.le_refl _, rfl, rfl⟩
theorem take_ne {α : Type} {a b : List α} {k : Nat} {x y : α} (hx : a[k]? = some x) (hy : b[k]? = some y) (h : x ≠ y) : a ≠ b := fun he => by
  subst he
  rw [hx] at hy
  cases hy
  exact h rfl
theorem take_all {α : Type} {a b : List α} (hl : a.length = b.length) (h : a.take a.length = b.take a.length) : a = b := by
  rwa [List.take_length, hl, List.take_length] at h
theorem sameFt_A (a b : List Ft) (ha : a.length ≤ 100000000) (S : Store) : CallA Tryz.prog 30 [.sl 2 (a.map ftR), .sl 2 (b.map ftR)] S fun r S' => r = .bool (decide (a = b)) ∧ S' = S := by
  refine CallA.keep Tryz.func30 c530 (Nat.le_of_ble_eq_true rfl) fun σ hσ => ?_
  by_cases hl : a.length = b.length
  case neg =>
    have hl' : decide ((a.length : Int) = b.length) = false := decide_eq_false (by omega)
    have hn : decide (a = b) = false := decide_eq_false (fun h => hl (by rw [h]))
    simp (disch := first | omega | (simp only [lenT]; omega)) only [a530, hl', hn, evSt, ↓evPre, ↓evPreW, evPost, evPostW, evR, evU, seval]
  have hl' : decide ((a.length : Int) = b.length) = true := decide_eq_true (by omega)
  simp (disch := first | omega | (simp only [lenT]; omega)) only [a530, hl', evSt, ↓evPre, ↓evPreW, evPost, evPostW, evR, evU, seval]
  refine loopA (ι := Nat) (fun k => [(0, .sl 2 (a.map ftR)), (1, .sl 2 (b.map ftR)), (5, .int .i64 (k : Nat))]) (fun _ => S) (fun k => k ≤ a.length ∧ a.take k = b.take k) (fun k => a.length - k) 0 ⟨Nat.zero_le _, rfl⟩ ?_ rfl ?_
  · simp only [↓evPre, ↓evPreW, evPost, evPostW, evR, evU, seval]
  rintro k ⟨hk, he⟩
  cases hc : a[k]? with
  | none =>
    have hge := List.getElem?_eq_none_iff.1 hc
    have hlt : ¬ ((k : Int) < a.length) := by omega
    have hkl : k = a.length := by omega
    subst hkl
    have hab : decide (a = b) = true := decide_eq_true (take_all hl he)
    simp (disch := first | omega | (simp only [lenT]; omega)) only [dF hlt, hab, evSt, ↓evPre, ↓evPreW, evPost, evPostW, evR, evU, seval]
  | some x =>
    have hlt' := (List.getElem?_eq_some_iff.1 hc).1
    have hlt : ((k : Int) < a.length) := by omega
    have hk1 : (k : Int) + 1 = ((k + 1 : Nat) : Int) := by omega
    obtain ⟨y, hy⟩ : ∃ y, b[k]? = some y := ⟨_, List.getElem?_eq_getElem (by omega)⟩
    by_cases hxy : x = y
    · subst hxy
      simp (disch := first | omega | (simp only [lenT]; omega)) only [dT hlt, hc, hy, ftR, eq_self, decide_true, Bool.and_self, wrap_i64, hk1, evSt, ↓evPre, ↓evPreW, evPost, evPostW, evR, evU, seval]
      exact ⟨k + 1, ⟨by omega, by rw [take_at hc, take_at hy, he]⟩, by omega, rfl⟩
    · have hn : decide (a = b) = false := decide_eq_false (take_ne hc hy hxy)
      have hB : (decide (x.err = y.err) && (decide (x.at_ = y.at_))) = false := by
        cases x
        cases y
        simp only [Ft.mk.injEq] at hxy
        simp only [Bool.eq_false_iff, ne_eq, Bool.and_eq_true, decide_eq_true_eq]
        intro h
        exact hxy (by simp [*])
      simp (disch := first | omega | (simp only [lenT]; omega)) only [dT hlt, hc, hy, hn, ftR, evSt, ↓evPre, ↓evPreW, evPost, evPostW, evR, evU, seval]
      simp only [hB, ↓evPre, ↓evPreW, evPost, evPostW, evR, evU, seval]
theorem sameSg_A (a b : List Sg) (ha : a.length ≤ 100000000) (S : Store) : CallA Tryz.prog 41 [.sl 7 (a.map sgR), .sl 7 (b.map sgR)] S fun r S' => r = .bool (decide (a = b)) ∧ S' = S := by
  refine CallA.keep Tryz.func41 c541 (Nat.le_of_ble_eq_true rfl) fun σ hσ => ?_
  by_cases hl : a.length = b.length
  case neg =>
    have hl' : decide ((a.length : Int) = b.length) = false := decide_eq_false (by omega)
    have hn : decide (a = b) = false := decide_eq_false (fun h => hl (by rw [h]))
    simp (disch := first | omega | (simp only [lenT]; omega)) only [a541, hl', hn, evSt, ↓evPre, ↓evPreW, evPost, evPostW, evR, evU, seval]
  have hl' : decide ((a.length : Int) = b.length) = true := decide_eq_true (by omega)
  simp (disch := first | omega | (simp only [lenT]; omega)) only [a541, hl', evSt, ↓evPre, ↓evPreW, evPost, evPostW, evR, evU, seval]
  refine loopA (ι := Nat) (fun k => [(0, .sl 7 (a.map sgR)), (1, .sl 7 (b.map sgR)), (5, .int .i64 (k : Nat))]) (fun _ => S) (fun k => k ≤ a.length ∧ a.take k = b.take k) (fun k => a.length - k) 0 ⟨Nat.zero_le _, rfl⟩ ?_ rfl ?_
  · simp only [↓evPre, ↓evPreW, evPost, evPostW, evR, evU, seval]
  rintro k ⟨hk, he⟩
  cases hc : a[k]? with
  | none =>
    have hge := List.getElem?_eq_none_iff.1 hc
    have hlt : ¬ ((k : Int) < a.length) := by omega
    have hkl : k = a.length := by omega
    subst hkl
    have hab : decide (a = b) = true := decide_eq_true (take_all hl he)
    simp (disch := first | omega | (simp only [lenT]; omega)) only [dF hlt, hab, evSt, ↓evPre, ↓evPreW, evPost, evPostW, evR, evU, seval]
  | some x =>
    have hlt' := (List.getElem?_eq_some_iff.1 hc).1
    have hlt : ((k : Int) < a.length) := by omega
    have hk1 : (k : Int) + 1 = ((k + 1 : Nat) : Int) := by omega
    obtain ⟨y, hy⟩ : ∃ y, b[k]? = some y := ⟨_, List.getElem?_eq_getElem (by omega)⟩
    by_cases hxy : x = y
    · subst hxy
      simp (disch := first | omega | (simp only [lenT]; omega)) only [dT hlt, hc, hy, sgR, eq_self, decide_true, Bool.and_self, wrap_i64, hk1, evSt, ↓evPre, ↓evPreW, evPost, evPostW, evR, evU, seval]
      exact ⟨k + 1, ⟨by omega, by rw [take_at hc, take_at hy, he]⟩, by omega, rfl⟩
    · have hn : decide (a = b) = false := decide_eq_false (take_ne hc hy hxy)
      have hB : (decide (x.c = y.c) && (decide (x.n = y.n) && (decide (x.day = y.day) && (decide (x.f = y.f) && (decide (x.t = y.t) && (decide (x.dep = y.dep) && (decide (x.arr = y.arr)))))))) = false := by
        cases x
        cases y
        simp only [Sg.mk.injEq] at hxy
        simp only [Bool.eq_false_iff, ne_eq, Bool.and_eq_true, decide_eq_true_eq]
        intro h
        exact hxy (by simp [*])
      simp (disch := first | omega | (simp only [lenT]; omega)) only [dT hlt, hc, hy, hn, sgR, evSt, ↓evPre, ↓evPreW, evPost, evPostW, evR, evU, seval]
      simp only [hB, ↓evPre, ↓evPreW, evPost, evPostW, evR, evU, seval]
theorem sameId_A (a b : List Id) (ha : a.length ≤ 100000000) (S : Store) : CallA Tryz.prog 37 [.sl 4 (a.map idR), .sl 4 (b.map idR)] S fun r S' => r = .bool (decide (a = b)) ∧ S' = S := by
  refine CallA.keep Tryz.func37 c537 (Nat.le_of_ble_eq_true rfl) fun σ hσ => ?_
  by_cases hl : a.length = b.length
  case neg =>
    have hl' : decide ((a.length : Int) = b.length) = false := decide_eq_false (by omega)
    have hn : decide (a = b) = false := decide_eq_false (fun h => hl (by rw [h]))
    simp (disch := first | omega | (simp only [lenT]; omega)) only [a537, hl', hn, evSt, ↓evPre, ↓evPreW, evPost, evPostW, evR, evU, seval]
  have hl' : decide ((a.length : Int) = b.length) = true := decide_eq_true (by omega)
  simp (disch := first | omega | (simp only [lenT]; omega)) only [a537, hl', evSt, ↓evPre, ↓evPreW, evPost, evPostW, evR, evU, seval]
  refine loopA (ι := Nat) (fun k => [(0, .sl 4 (a.map idR)), (1, .sl 4 (b.map idR)), (5, .int .i64 (k : Nat))]) (fun _ => S) (fun k => k ≤ a.length ∧ a.take k = b.take k) (fun k => a.length - k) 0 ⟨Nat.zero_le _, rfl⟩ ?_ rfl ?_
  · simp only [↓evPre, ↓evPreW, evPost, evPostW, evR, evU, seval]
  rintro k ⟨hk, he⟩
  cases hc : a[k]? with
  | none =>
    have hge := List.getElem?_eq_none_iff.1 hc
    have hlt : ¬ ((k : Int) < a.length) := by omega
    have hkl : k = a.length := by omega
    subst hkl
    have hab : decide (a = b) = true := decide_eq_true (take_all hl he)
    simp (disch := first | omega | (simp only [lenT]; omega)) only [dF hlt, hab, evSt, ↓evPre, ↓evPreW, evPost, evPostW, evR, evU, seval]
  | some x =>
    have hlt' := (List.getElem?_eq_some_iff.1 hc).1
    have hlt : ((k : Int) < a.length) := by omega
    have hk1 : (k : Int) + 1 = ((k + 1 : Nat) : Int) := by omega
    obtain ⟨y, hy⟩ : ∃ y, b[k]? = some y := ⟨_, List.getElem?_eq_getElem (by omega)⟩
    by_cases hxy : x = y
    · subst hxy
      simp (disch := first | omega | (simp only [lenT]; omega)) only [dT hlt, hc, hy, idR, eq_self, decide_true, Bool.and_self, wrap_i64, hk1, evSt, ↓evPre, ↓evPreW, evPost, evPostW, evR, evU, seval]
      exact ⟨k + 1, ⟨by omega, by rw [take_at hc, take_at hy, he]⟩, by omega, rfl⟩
    · have hn : decide (a = b) = false := decide_eq_false (take_ne hc hy hxy)
      have hB : (decide (x.c = y.c) && (decide (x.n = y.n) && (decide (x.day = y.day) && (decide (x.f = y.f))))) = false := by
        cases x
        cases y
        simp only [Id.mk.injEq] at hxy
        simp only [Bool.eq_false_iff, ne_eq, Bool.and_eq_true, decide_eq_true_eq]
        intro h
        exact hxy (by simp [*])
      simp (disch := first | omega | (simp only [lenT]; omega)) only [dT hlt, hc, hy, hn, idR, evSt, ↓evPre, ↓evPreW, evPost, evPostW, evR, evU, seval]
      simp only [hB, ↓evPre, ↓evPreW, evPost, evPostW, evR, evU, seval]
end Go.Proofs.YtiihkfjbllpiaaaGreatDoor
