/- Seats are assigned: the walk. -/
import Derived.Test.YtjjdfkkfhbndiaaDoorQStSeat3
namespace Go.Proofs.YtjjdfkkfhbndiaaDoor.St
open Go Go.AL
set_option linter.unusedSectionVars false
variable [Go.AL.Mode] [Go.AL.LooseM]
set_option linter.unusedSimpArgs false
set_option linter.unusedVariables false
def freshT (L : Nat) (s : St) : St := { s with tried := List.replicate L false }
def goF (se : List Sea) (cl : List Clm) (s : St) (c : Nat) : St := (placeF (fitF se cl) se.length (se.length + 1) c (freshT se.length s)).2
def initF (se : List Sea) (cl : List Clm) : St := ⟨List.replicate cl.length (-1), List.replicate se.length (-1), []⟩
def assignS (se : List Sea) (cl : List Clm) : St := (orderF cl).foldl (goF se cl) (initF se cl)
def assignF (se : List Sea) (cl : List Clm) : List Int := (assignS se cl).seat
def Wf2 (C L : Nat) (s : St) : Prop := s.seat.length = C ∧ s.claim.length = L ∧ ∀ x ∈ s.claim, -1 ≤ x ∧ x < C
theorem fresh_wf {C L : Nat} {s : St} (h : Wf2 C L s) : Wf C L (freshT L s) := ⟨h.1, h.2.1, by simp [freshT], h.2.2⟩
theorem free_fresh {L : Nat} {s : St} : free (freshT L s) < L + 1 := by
  unfold free freshT
  have := List.length_filter_le (fun b => !b) (List.replicate L false)
  rw [List.length_replicate] at this
  simp only
  omega
theorem go_wf {se : List Sea} {cl : List Clm} {s : St} {c : Nat} (hc : c < cl.length) (h : Wf2 cl.length se.length s) : Wf2 cl.length se.length (goF se cl s c) := by
  have := (place_kept (fits := fitF se cl) (se.length + 1) c (freshT se.length s) (by omega) (by omega) (fresh_wf h)).1
  exact ⟨this.1, this.2.1, this.2.2.2⟩
theorem init_wf (se : List Sea) (cl : List Clm) : Wf2 cl.length se.length (initF se cl) := ⟨by simp [initF], by simp [initF], fun x hx => by
  simp only [initF] at hx
  obtain ⟨_, rfl⟩ := List.mem_replicate.1 hx
  omega⟩
def bsS (S : Store) (se : List Sea) (cl : List Clm) (s : St) (T : Store) : Store :=
  S ++ ⟨0, some (.arr 3 1 (s.seat.map iR))⟩ :: ⟨0, some (.arr 3 1 (s.claim.map iR))⟩ :: ⟨0, some (.arr 74 4 [planR se cl S.length])⟩ :: T
theorem fold_snoc {se : List Sea} {cl : List Clm} {s0 : St} {l : List Nat} {k o : Nat} (h : l[k]? = some o) : (l.take (k + 1)).foldl (goF se cl) s0 = goF se cl ((l.take k).foldl (goF se cl) s0) o := by
  rw [List.take_add_one, h, List.foldl_append]; rfl
theorem fold_wf {se : List Sea} {cl : List Clm} : ∀ (l : List Nat) (s : St), (∀ o ∈ l, o < cl.length) → Wf2 cl.length se.length s → Wf2 cl.length se.length (l.foldl (goF se cl) s)
  | [], _, _, h => h
  | o :: l, s, ho, h => fold_wf l _ (fun x hx => ho x (List.mem_cons_of_mem _ hx)) (go_wf (ho o (List.mem_cons_self ..)) h)
theorem assign_A (se : List Sea) (cl : List Clm) (S : Store) (hL : se.length ≤ 1000000) (hC : cl.length ≤ 1000) : CallA Tryd.prog 7 [seSl se, clSl cl] S fun r S' => r = iSl (assignF se cl) ∧ S' = S := by
  refine CallA.withNeat Tryd.func7 c3010 fun hn => ?_
  refine CallA.fin Tryd.func7 c3010 (Nat.le_of_ble_eq_true rfl) fun σ hσ => ?_
  simp (disch := first | omega | (simp only [lenT]; omega)) only [a3010, seSl, clSl, evSt, ↓evPre, ↓evPreW, evPost, evPostW, evR, evU, seval]
  refine (none_A cl.length S (by omega)).mono ?_
  rintro _ _ ⟨rfl, rfl⟩
  simp (disch := first | omega | (simp only [lenT]; omega)) only [seSl, clSl, List.append_assoc, List.cons_append, List.nil_append, evSt, ↓evPre, ↓evPreW, evPost, evPostW, evR, evU, seval]
  have h2 := none_A se.length (S ++ [⟨0, some (.arr 3 1 ((List.replicate cl.length (-1 : Int)).map iR))⟩]) (by omega)
  simp only [List.length_append, List.length_cons, List.length_nil, List.append_assoc, List.cons_append, List.nil_append, Nat.zero_add] at h2
  refine h2.mono ?_
  rintro _ _ ⟨rfl, rfl⟩
  simp (disch := first | omega | (simp only [lenT]; omega)) only [seSl, clSl, Int.toNat_natCast, List.append_assoc, List.cons_append, List.nil_append, evSt, ↓evPre, ↓evPreW, evPost, evPostW, evR, evU, seval]
  refine ⟨Int.le_refl _, by unfold roomA; omega, ?_⟩
  refine loopA (ι := Nat) (fun k => [(0, seSl se), (3, .cptr [clSl cl]), (5, .ptr (S.length + 2) 0 0 0), (6, .msl (S.length + 3) 0 0 cl.length), (24, .int .i64 cl.length), (25, .int .i64 k)]) (fun k => bsS S se cl (initF se cl) [⟨0, some (.arr 3 1 (fillK k cl.length))⟩]) (fun k => k ≤ cl.length) (fun k => cl.length - k) 0 (Nat.zero_le _) ?_ ?_ ?_
  · simp only [seSl, clSl, ↓evPre, ↓evPreW, evPost, evPostW, evR, evU, seval]
  · simp [fillK, zrows, bsS, initF, planR, seSl, clSl]
  · intro k hk
    by_cases h : k < cl.length
    · have hlt : (k : Int) < cl.length := by omega
      simp (disch := first | omega | (simp only [lenT]; omega)) only [bsS, planR, seSl, clSl, hlt, fillK_get h, fillK_set h, wrap_i64, decide_true, Nat.zero_add, evSt, ↓evPre, ↓evPreW, evPost, evPostW, evR, evU, seval]
      exact ⟨k + 1, by omega, by omega, rfl, rfl⟩
    · have hlt : ¬ (k : Int) < cl.length := by omega
      have e : k = cl.length := by omega
      subst e
      rw [fillK_end]
      have hst := sort_A cl (bsS S se cl (initF se cl) []) (by omega)
      simp only [bsS, planR, seSl, clSl, List.length_append, List.length_cons, List.length_nil, List.append_assoc, List.cons_append, List.nil_append, Nat.zero_add, Nat.add_assoc, Nat.reduceAdd] at hst
      simp (disch := first | omega | (simp only [lenT]; omega)) only [bsS, planR, seSl, clSl, hlt, wrap_i64, decide_false, evSt, ↓evPre, ↓evPreW, evPost, evPostW, evR, evU, seval]
      refine hst.mono ?_
      rintro _ _ ⟨rfl, rfl⟩
      have hol : (orderF cl).length = cl.length := by have := (orderF_spec cl).1.length_eq; simpa using this
      have hom : ∀ o ∈ orderF cl, o < cl.length := fun o ho => List.mem_range.1 ((orderF_spec cl).1.mem_iff.1 ho)
      simp (disch := first | omega | (simp only [lenT]; omega)) only [seSl, clSl, List.append_assoc, List.cons_append, List.nil_append, evSt, ↓evPre, ↓evPreW, evPost, evPostW, evR, evU, seval]
      refine loopF (ι := Nat) (fun k => [(0, seSl se), (5, .ptr (S.length + 2) 0 0 0), (36, .msl (S.length + 3) 0 0 cl.length), (37, .int .i64 cl.length), (38, .int .i64 k)]) (fun k => bsS S se cl (((orderF cl).take k).foldl (goF se cl) (initF se cl)) [⟨0, some (.arr 3 1 ((orderF cl).map nR))⟩]) (fun k => k ≤ cl.length) (fun k => cl.length - k)
        (fun i hi => by rw [hσ]; simp [bsS]) 0 (Nat.zero_le _) (.inl ⟨?_, ?_⟩) ?_
      · simp only [seSl, ↓evPre, ↓evPreW, evPost, evPostW, evR, evU, seval]
      · rfl
      · intro k hk
        have hwk := fold_wf ((orderF cl).take k) (initF se cl) (fun o ho => hom o (List.mem_of_mem_take ho)) (init_wf se cl)
        cases hok : (orderF cl)[k]? with
        | none =>
          have hge := List.getElem?_eq_none_iff.1 hok
          have hlt : ¬ (k : Int) < cl.length := by omega
          rw [List.take_of_length_le hge] at hwk ⊢
          simp (disch := first | omega | (simp only [lenT]; omega)) only [bsS, planR, hlt, decide_false, evSt, ↓evPre, ↓evPreW, evPost, evPostW, evR, evU, seval]
          exact ⟨iSl (assignF se cl), S, hn.fgt _, .sl (t := 3) (Nat.le_refl _) (by rw [ob_app0, ob_head]; rfl) (by rw [List.length_map]; exact hwk.1) (imm_iR _), Nat.le_refl _, rfl, rfl⟩
        | some o =>
          have hkl := (List.getElem?_eq_some_iff.1 hok).1
          have hlt : (k : Int) < cl.length := by omega
          have hoc := hom o (List.mem_of_getElem? hok)
          have hstep := fold_snoc (se := se) (cl := cl) (s0 := initF se cl) hok
          generalize ((orderF cl).take k).foldl (goF se cl) (initF se cl) = s1 at hwk hstep
          have hpl := place_A se cl ⟨0, some (.arr 3 1 ((orderF cl).map nR))⟩ 0 S hL (se.length + 1) o (freshT se.length s1) [] hoc (fresh_wf hwk) free_fresh
          have hzr : zrows [V.bool false] se.length = (List.replicate se.length false).map bR := by simp [zrows, bR]
          simp (disch := first | omega | (simp only [lenT]; omega)) only [bsS, planR, seSl, clSl, nR, hlt, hok, hzr, wrap_i64, Int.toNat_natCast, decide_true, Nat.zero_add, List.append_assoc, List.cons_append, List.nil_append, evSt, ↓evPre, ↓evPreW, evPost, evPostW, evR, evU, seval]
          refine ⟨Int.le_refl _, by unfold roomA; omega, ?_⟩
          refine hpl.mono ?_
          rintro _ _ ⟨rfl, rfl⟩
          have hgo : (placeF (fitF se cl) se.length (se.length + 1) o (freshT se.length s1)).2 = goF se cl s1 o := rfl
          rw [hgo]
          simp (disch := first | omega | (simp only [lenT]; omega)) only [wrap_i64, ↓evPre, ↓evPreW, evPost, evPostW, evR, evU, seval]
          refine ⟨k + 1, by omega, by omega, ?_⟩
          rw [hstep]
          refine back_under ?_ ⟨rfl, rfl, rfl, rfl, rfl, trivial⟩ (by simp [bsS, V.under, seSl])
          exact hn.fgtL (L := [_, _, _, _, _]) (L1 := [_, _, _, _]) ⟨rfl, ⟨_, rfl, .imm (imm_iR _)⟩, rfl, ⟨_, rfl, .imm (imm_iR _)⟩, rfl, ⟨_, rfl, .under (fun r hr => by simp only [List.mem_singleton] at hr; subst hr; exact ⟨rfl, by simp [planR, V.allUnder, V.under, seSl, clSl]⟩)⟩, rfl, ⟨_, rfl, .imm (fun r hr => by obtain ⟨_, _, rfl⟩ := List.mem_map.1 hr; exact ⟨rfl, rfl⟩)⟩, trivial⟩
end Go.Proofs.YtjjdfkkfhbndiaaDoor.St
/- Valid assignments; how many are served. -/
namespace Go.Proofs.YtjjdfkkfhbndiaaDoor.St
open Go Go.AL
set_option linter.unusedSectionVars false
variable [Go.AL.Mode] [Go.AL.LooseM]
set_option linter.unusedSimpArgs false
set_option linter.unusedVariables false
def cntF (l : List Int) : Nat := (l.filter fun x => decide (0 ≤ x)).length
theorem cnt_take {l : List Int} {k : Nat} {x : Int} (h : l[k]? = some x) : cntF (l.take (k + 1)) = cntF (l.take k) + if 0 ≤ x then 1 else 0 := by
  unfold cntF
  rw [List.take_add_one, h, List.filter_append]
  by_cases hx : 0 ≤ x
  · simp [hx]
  · simp [hx]
theorem assign_len (se : List Sea) (cl : List Clm) : (assignF se cl).length = cl.length :=
  (fold_wf (orderF cl) (initF se cl) (fun o ho => List.mem_range.1 ((orderF_spec cl).1.mem_iff.1 ho)) (init_wf se cl)).1
theorem most_A (se : List Sea) (cl : List Clm) (S : Store) (hL : se.length ≤ 1000000) (hC : cl.length ≤ 1000) : CallA Tryd.prog 9 [seSl se, clSl cl] S fun r S' => r = .int .i64 (cntF (assignF se cl) : Nat) ∧ S' = S := by
  refine CallA.keep Tryd.func9 c3016 (Nat.le_of_ble_eq_true rfl) fun σ hσ => ?_
  simp only [a3016, ↓evPre, ↓evPreW, evPost, evPostW, evR, evU, seval]
  refine (assign_A se cl S hL hC).then ?_
  have hl := assign_len se cl
  generalize assignF se cl = l at hl
  simp only [iSl, ↓evPre, ↓evPreW, evPost, evPostW, evR, evU, seval]
  refine loopA (ι := Nat) (fun k => [(5, .int .i64 (cntF (l.take k) : Nat)), (10, iSl l), (11, .int .i64 l.length), (12, .int .i64 k)]) (fun _ => S) (fun k => k ≤ l.length) (fun k => l.length - k) 0 (Nat.zero_le _) ?_ rfl ?_
  · simp only [iSl, cntF, List.filter_nil, List.length_nil, ↓evPre, ↓evPreW, evPost, evPostW, evR, evU, seval]
  · intro k hk
    cases hc : l[k]? with
    | none =>
      have hge := List.getElem?_eq_none_iff.1 hc
      have hlt : ¬ (k : Int) < l.length := by omega
      rw [List.take_of_length_le hge]
      simp (disch := first | omega | (simp only [lenT]; omega)) only [iSl, hlt, decide_false, ↓evPre, ↓evPreW, evPost, evPostW, evR, evU, seval]
    | some x =>
      have hlt' := (List.getElem?_eq_some_iff.1 hc).1
      have hlt : (k : Int) < l.length := by omega
      have hst := cnt_take hc
      have hcl : cntF (l.take k) ≤ k := by
        unfold cntF
        refine Nat.le_trans (List.length_filter_le _ _) ?_
        simp
        omega
      by_cases hx : 0 ≤ x
      · rw [if_pos hx] at hst
        simp (disch := first | omega | (simp only [lenT]; omega)) only [iSl, hlt, hc, hx, wrap_i64, decide_true, ↓evPre, ↓evPreW, evPost, evPostW, evR, evU, seval]
        exact ⟨k + 1, by omega, by omega, by rw [hst]; omega, rfl⟩
      · rw [if_neg hx] at hst
        simp (disch := first | omega | (simp only [lenT]; omega)) only [iSl, hlt, hc, hx, wrap_i64, decide_true, decide_false, ↓evPre, ↓evPreW, evPost, evPostW, evR, evU, seval]
        exact ⟨k + 1, by omega, by omega, by rw [hst]; rfl, rfl⟩
end Go.Proofs.YtjjdfkkfhbndiaaDoor.St
/- Valid assignments. -/
namespace Go.Proofs.YtjjdfkkfhbndiaaDoor.St
open Go Go.AL
set_option linter.unusedSectionVars false
variable [Go.AL.Mode] [Go.AL.LooseM]
set_option linter.unusedSimpArgs false
set_option linter.unusedVariables false
theorem contains_A (l : List Int) (x : Int) (S : Store) (hl : l.length ≤ 1099511627776) : CallA Tryd.prog 32 [iSl l, .int .i64 x] S fun r S' => r = .bool (l.contains x) ∧ S' = S := by
  refine CallA.keep Tryd.func32 c3035 (Nat.le_of_ble_eq_true rfl) fun σ hσ => ?_
  simp only [a3035, ↓evPre, ↓evPreW, evPost, evPostW, evR, evU, seval]
  have key : CallA Tryd.prog 49 [iSl l, .int .i64 x] S fun r S' => (∃ n : Int, r = .int .i64 n ∧ (0 ≤ n ↔ l.contains x = true)) ∧ S' = S := by
    refine CallA.keep Tryd.func49 c3042 (Nat.le_of_ble_eq_true rfl) fun σ hσ => ?_
    simp only [a3042, iSl, ↓evPre, ↓evPreW, evPost, evPostW, evR, evU, seval]
    refine loopA (ι := Nat) (fun k => [(0, iSl l), (1, .int .i64 x), (6, iSl l), (7, .int .i64 l.length), (8, .int .i64 k)]) (fun _ => S) (fun k => k ≤ l.length ∧ (l.take k).contains x = false) (fun k => l.length - k) 0 ⟨Nat.zero_le _, rfl⟩ ?_ rfl ?_
    · simp only [iSl, ↓evPre, ↓evPreW, evPost, evPostW, evR, evU, seval]
    · rintro k ⟨hk, hinv⟩
      cases hc : l[k]? with
      | none =>
        have hlt : ¬ ((k : Int) < l.length) := by rw [List.getElem?_eq_none_iff] at hc; omega
        rw [List.take_of_length_le (by rw [List.getElem?_eq_none_iff] at hc; omega)] at hinv
        simp (disch := omega) only [iSl, wrap_i64, hc, hlt, ↓evPre, ↓evPreW, evPost, evPostW, evR, evU, seval]
        exact ⟨_, rfl, by rw [hinv]; simp⟩
      | some c =>
        have hlt' := (List.getElem?_eq_some_iff.1 hc).1
        have hlt : (k : Int) < l.length := by omega
        by_cases hx : x = c
        · subst hx
          have hm : l.contains x = true := List.contains_iff_mem.2 (List.mem_of_getElem? hc)
          simp (disch := omega) only [iSl, wrap_i64, hc, hlt, decide_true, ↓evPre, ↓evPreW, evPost, evPostW, evR, evU, seval]
          exact ⟨_, rfl, by rw [hm]; simp⟩
        · simp (disch := omega) only [iSl, wrap_i64, hc, hlt, hx, decide_true, decide_false, ↓evPre, ↓evPreW, evPost, evPostW, evR, evU, seval]
          refine ⟨k + 1, ⟨by omega, by rw [List.take_add_one, hc]; simp_all⟩, by omega, rfl⟩
  refine key.mono ?_
  rintro r S' ⟨⟨n, rfl, hn⟩, rfl⟩
  have e : decide (0 ≤ n) = l.contains x := by
    rw [Bool.eq_iff_iff, decide_eq_true_eq]
    exact hn
  simp only [e, ↓evPre, ↓evPreW, evPost, evPostW, evR, evU, seval]
def okAtF (se : List Sea) (cl : List Clm) (seat : List Int) (i : Nat) : Bool := match seat[i]? with
  | some s => if s = -1 then true else decide (0 ≤ s) && decide (s < se.length) && fitF se cl s.toNat i && !(seat.take i).contains s
  | none => true
def allTo (se : List Sea) (cl : List Clm) (seat : List Int) : Nat → Bool
  | 0 => true
  | k + 1 => allTo se cl seat k && okAtF se cl seat k
def validF (se : List Sea) (cl : List Clm) (seat : List Int) : Bool := decide (seat.length = cl.length) && allTo se cl seat seat.length
theorem allTo_le {se : List Sea} {cl : List Clm} {seat : List Int} {j k : Nat} (h : j ≤ k) (hk : allTo se cl seat k = true) : allTo se cl seat j = true := by
  induction k with
  | zero => have : j = 0 := by omega
            rw [this]; rfl
  | succ k ih =>
    rw [allTo, Bool.and_eq_true] at hk
    by_cases e : j = k + 1
    · rw [e, allTo, Bool.and_eq_true]; exact hk
    · exact ih (by omega) hk.1
theorem valid_no {se : List Sea} {cl : List Clm} {seat : List Int} {k : Nat} (hk : k < seat.length) (h : okAtF se cl seat k = false) : validF se cl seat = false := by
  rw [validF, Bool.and_eq_false_iff]
  right
  cases hb : allTo se cl seat seat.length with
  | false => rfl
  | true =>
    have := allTo_le (j := k + 1) hk hb
    rw [allTo, h, Bool.and_false] at this
    cases this
theorem valid_A (se : List Sea) (cl : List Clm) (seat : List Int) (S : Store) (hse : se.length ≤ 1099511627776) (hl : seat.length ≤ 1099511627776) : CallA Tryd.prog 8 [seSl se, clSl cl, iSl seat] S fun r S' => r = .bool (validF se cl seat) ∧ S' = S := by
  refine CallA.withNeat Tryd.func8 c3018 fun hn => ?_
  refine CallA.keep Tryd.func8 c3018 (Nat.le_of_ble_eq_true rfl) fun σ hσ => ?_
  by_cases hlen : seat.length = cl.length
  · have hlen' : (seat.length : Int) = cl.length := by omega
    have hv : validF se cl seat = allTo se cl seat seat.length := by rw [validF, decide_eq_true hlen, Bool.true_and]
    simp (disch := first | omega | (simp only [lenT]; omega)) only [a3018, seSl, clSl, iSl, hlen', decide_true, ↓evPre, ↓evPreW, evPost, evPostW, evR, evU, seval]
    refine loopA (ι := Nat) (fun k => [(0, seSl se), (1, clSl cl), (2, iSl seat), (14, iSl seat), (15, .int .i64 seat.length), (16, .int .i64 k)]) (fun _ => S) (fun k => k ≤ seat.length ∧ allTo se cl seat k = true) (fun k => seat.length - k) 0 ⟨Nat.zero_le _, rfl⟩ ?_ rfl ?_
    · simp only [seSl, clSl, iSl, hlen', ↓evPre, ↓evPreW, evPost, evPostW, evR, evU, seval]
    · rintro k ⟨hk, hall⟩
      cases hc : seat[k]? with
      | none =>
        have hge := List.getElem?_eq_none_iff.1 hc
        have hlt : ¬ (k : Int) < seat.length := by omega
        have e : k = seat.length := by omega
        rw [e] at hall
        rw [hv, hall]
        simp (disch := first | omega | (simp only [lenT]; omega)) only [iSl, hlt, decide_false, ↓evPre, ↓evPreW, evPost, evPostW, evR, evU, seval]
      | some s =>
        have hkl := (List.getElem?_eq_some_iff.1 hc).1
        have hlt : (k : Int) < seat.length := by omega
        have cont : okAtF se cl seat k = true → ∃ i', (i' ≤ seat.length ∧ allTo se cl seat i' = true) ∧ seat.length - i' < seat.length - k ∧ (k : Int) + 1 = (i' : Nat) := fun ho => ⟨k + 1, ⟨by omega, by rw [allTo, hall, ho]; rfl⟩, by omega, rfl⟩
        have hkc : k < cl.length := by omega
        have hm : cl[k]? = some cl[k] := List.getElem?_eq_getElem hkc
        generalize cl[k] = m at hm
        by_cases h1 : s = -1
        · have ho : okAtF se cl seat k = true := by simp only [okAtF, hc, h1, if_true]
          simp (disch := first | omega | (simp only [lenT]; omega)) only [seSl, clSl, iSl, hlt, hc, h1, wrap_i64, decide_true, ↓evPre, ↓evPreW, evPost, evPostW, evR, evU, seval]
          exact cont ho
        · have ho : okAtF se cl seat k = (decide (0 ≤ s) && decide (s < se.length) && fitF se cl s.toNat k && !(seat.take k).contains s) := by simp only [okAtF, hc, h1, if_false]
          by_cases h2 : s < 0
          · rw [valid_no hkl (by rw [ho]; have : ¬ 0 ≤ s := by omega
                                 simp [this])]
            simp (disch := first | omega | (simp only [lenT]; omega)) only [seSl, clSl, iSl, hlt, hc, h1, h2, wrap_i64, decide_true, decide_false, ↓evPre, ↓evPreW, evPost, evPostW, evR, evU, seval]
          · by_cases h3 : (se.length : Int) ≤ s
            · rw [valid_no hkl (by rw [ho]; have : ¬ s < se.length := by omega
                                   simp [this])]
              simp (disch := first | omega | (simp only [lenT]; omega)) only [seSl, clSl, iSl, hlt, hc, h1, h2, h3, wrap_i64, decide_true, decide_false, ↓evPre, ↓evPreW, evPost, evPostW, evR, evU, seval]
            · obtain ⟨sn, rfl⟩ : ∃ n : Nat, s = n := ⟨s.toNat, by omega⟩
              have hx : se[sn]? = some se[sn] := List.getElem?_eq_getElem (by omega)
              generalize se[sn] = x at hx
              have hfit : fitF se cl (sn : Int).toNat k = fitsF x m := by simp only [fitF, Int.toNat_natCast, hx, hm]
              have h4 : (0 : Int) ≤ sn := by omega
              have h5 : (sn : Int) < se.length := by omega
              rw [hfit] at ho
              simp (disch := first | omega | (simp only [lenT]; omega)) only [seSl, clSl, iSl, seaR, clmR, hlt, hc, hx, hm, h1, h2, h3, wrap_i64, decide_true, decide_false, ↓evPre, ↓evPreW, evPost, evPostW, evR, evU, seval]
              refine (fits_A x m S).then ?_
              cases hfx : fitsF x m with
              | false =>
                rw [valid_no hkl (by rw [ho, hfx]; simp)]
                simp (disch := first | omega | (simp only [lenT]; omega)) only [↓evPre, ↓evPreW, evPost, evPostW, evR, evU, seval]
              | true =>
                have hkle : (k : Int) ≤ seat.length := by omega
                simp (disch := first | omega | (simp only [lenT]; omega)) only [seSl, clSl, iSl, hlt, hkle, hc, wrap_i64, if_true, ← List.map_take, ← List.map_drop, Int.toNat_natCast, decide_true, decide_false, ↓evPre, ↓evPreW, evPost, evPostW, evR, evU, seval]
                refine (contains_A (seat.take k) sn S (by simp; omega)).then ?_
                cases hco : (seat.take k).contains (sn : Int) with
                | true =>
                  rw [valid_no hkl (by rw [ho, hfx, hco]; simp)]
                  simp (disch := first | omega | (simp only [lenT]; omega)) only [↓evPre, ↓evPreW, evPost, evPostW, evR, evU, seval]
                | false =>
                  simp (disch := first | omega | (simp only [lenT]; omega)) only [seSl, clSl, iSl, wrap_i64, ↓evPre, ↓evPreW, evPost, evPostW, evR, evU, seval]
                  exact cont (by rw [ho, hfx, hco]; simp [h4, h5])
  · have hlen' : ¬ (seat.length : Int) = cl.length := by omega
    have hv : validF se cl seat = false := by rw [validF, decide_eq_false hlen, Bool.false_and]
    rw [hv]
    simp (disch := first | omega | (simp only [lenT]; omega)) only [a3018, seSl, clSl, iSl, hlen', decide_false, ↓evPre, ↓evPreW, evPost, evPostW, evR, evU, seval]
end Go.Proofs.YtjjdfkkfhbndiaaDoor.St
