/- Seats are assigned: the walk. -/
import Derived.Test.YteeenlgoildmiaaDoorSeat3
namespace Go.Proofs.YteeenlgoildmiaaDoor
open Go Go.AL
set_option linter.unusedSimpArgs false
set_option linter.unusedVariables false

def freshT (L : Nat) (s : St) : St := { s with tried := List.replicate L false }
def goF (se : List Sea) (cl : List Clm) (s : St) (c : Nat) : St := (placeF (fitF se cl) se.length (se.length + 1) c (freshT se.length s)).2
def initF (se : List Sea) (cl : List Clm) : St := ⟨List.replicate cl.length (-1), List.replicate se.length (-1), []⟩
def assignS (se : List Sea) (cl : List Clm) : St := (orderF cl).foldl (goF se cl) (initF se cl)
def assignF (se : List Sea) (cl : List Clm) : List Int := (assignS se cl).seat

/-- What is known of the lists, the tried ones left out. -/
def Wf2 (C L : Nat) (s : St) : Prop := s.seat.length = C ∧ s.claim.length = L ∧ ∀ x ∈ s.claim, -1 ≤ x ∧ x < C
theorem fresh_wf {C L : Nat} {s : St} (h : Wf2 C L s) : Wf C L (freshT L s) := ⟨h.1, h.2.1, by simp [freshT], h.2.2⟩
theorem free_fresh {L : Nat} {s : St} : free (freshT L s) < L + 1 := by
  unfold free freshT
  have := List.length_filter_le (fun b => !b) (List.replicate L false)
  rw [List.length_replicate] at this
  simp only
  omega
theorem go_wf {se : List Sea} {cl : List Clm} {s : St} {c : Nat} (hc : c < cl.length) (h : Wf2 cl.length se.length s) : Wf2 cl.length se.length (goF se cl s c) := by
  have := (place_kept (fits := fitF se cl) (se.length + 1) c (freshT se.length s) (by omega) (by omega) (fresh_wf h)).1
  exact ⟨this.1, this.2.1, this.2.2.2⟩
theorem init_wf (se : List Sea) (cl : List Clm) : Wf2 cl.length se.length (initF se cl) := ⟨by simp [initF], by simp [initF], fun x hx => by
  simp only [initF] at hx
  obtain ⟨_, rfl⟩ := List.mem_replicate.1 hx
  omega⟩

def bsS (S : Store) (se : List Sea) (cl : List Clm) (s : St) (T : Store) : Store :=
  S ++ ⟨0, some (.arr 3 1 (s.seat.map iR))⟩ :: ⟨0, some (.arr 3 1 (s.claim.map iR))⟩ :: ⟨0, some (.arr 50 4 [planR se cl S.length])⟩ :: T
theorem fold_snoc {se : List Sea} {cl : List Clm} {s0 : St} {l : List Nat} {k o : Nat} (h : l[k]? = some o) : (l.take (k + 1)).foldl (goF se cl) s0 = goF se cl ((l.take k).foldl (goF se cl) s0) o := by
  rw [List.take_add_one, h, List.foldl_append]; rfl
theorem fold_wf {se : List Sea} {cl : List Clm} : ∀ (l : List Nat) (s : St), (∀ o ∈ l, o < cl.length) → Wf2 cl.length se.length s → Wf2 cl.length se.length (l.foldl (goF se cl) s)
  | [], _, _, h => h
  | o :: l, s, ho, h => fold_wf l _ (fun x hx => ho x (List.mem_cons_of_mem _ hx)) (go_wf (ho o (List.mem_cons_self ..)) h)

theorem assign_A (se : List Sea) (cl : List Clm) (S : Store) (hL : se.length ≤ 1000000) (hC : cl.length ≤ 1000) : CallA Tryd.prog 10 [seSl se, clSl cl] S fun r S' => r = iSl (assignF se cl) ∧ S' = S := by
  refine CallA.withNeat Tryd.func10 c10 fun hn => ?_
  refine CallA.fin Tryd.func10 c10 (Nat.le_of_ble_eq_true rfl) fun σ hσ => ?_
  simp (disch := first | omega | (simp only [List.length_cons, List.length_nil, List.length_map, List.length_drop]; omega)) only [a10, seSl, clSl, List.length_map, evSt, ↓evPre, ↓evPreW, evPost, evPostW, ← List.map_take, ← List.map_drop, ↓reduceIte, reduceCtorEq, Nat.reduceEqDiff, forall_const, implies_true, Nat.reduceAdd, Nat.reduceSub, Nat.reduceMul, Nat.reduceLT, Nat.reduceLeDiff, Int.reduceToNat, Int.reduceAdd, Int.reduceSub, Int.reduceNeg, Int.reduceMul, Int.reduceLT, Int.reduceLE, Int.reduceEq]
  refine (none_A cl.length S (by omega)).mono ?_
  rintro _ _ ⟨rfl, rfl⟩
  simp (disch := first | omega | (simp only [List.length_cons, List.length_nil, List.length_map, List.length_drop]; omega)) only [seSl, clSl, List.length_map, List.append_assoc, List.cons_append, List.nil_append, evSt, ↓evPre, ↓evPreW, evPost, evPostW, ← List.map_take, ← List.map_drop, ↓reduceIte, reduceCtorEq, Nat.reduceEqDiff, forall_const, implies_true, Nat.reduceAdd, Nat.reduceSub, Nat.reduceMul, Nat.reduceLT, Nat.reduceLeDiff, Int.reduceToNat, Int.reduceAdd, Int.reduceSub, Int.reduceNeg, Int.reduceMul, Int.reduceLT, Int.reduceLE, Int.reduceEq]
  have h2 := none_A se.length (S ++ [⟨0, some (.arr 3 1 ((List.replicate cl.length (-1 : Int)).map iR))⟩]) (by omega)
  simp only [List.length_append, List.length_cons, List.length_nil, List.append_assoc, List.cons_append, List.nil_append, Nat.zero_add] at h2
  refine h2.mono ?_
  rintro _ _ ⟨rfl, rfl⟩
  simp (disch := first | omega | (simp only [List.length_cons, List.length_nil, List.length_map, List.length_drop]; omega)) only [seSl, clSl, List.length_map, Int.toNat_natCast, List.append_assoc, List.cons_append, List.nil_append, List.take_succ_cons, List.take_zero, evSt, ↓evPre, ↓evPreW, evPost, evPostW, ← List.map_take, ← List.map_drop, ↓reduceIte, reduceCtorEq, Nat.reduceEqDiff, forall_const, implies_true, Nat.reduceAdd, Nat.reduceSub, Nat.reduceMul, Nat.reduceLT, Nat.reduceLeDiff, Int.reduceToNat, Int.reduceAdd, Int.reduceSub, Int.reduceNeg, Int.reduceMul, Int.reduceLT, Int.reduceLE, Int.reduceEq]
  refine ⟨Int.le_refl _, by unfold roomA; omega, ?_⟩
  refine loopA (ι := Nat) (fun k => [(0, seSl se), (3, .cptr [clSl cl]), (5, .ptr (S.length + 2) 0 0 0), (6, .msl (S.length + 3) 0 0 cl.length), (24, .int .i64 cl.length), (25, .int .i64 k)]) (fun k => bsS S se cl (initF se cl) [⟨0, some (.arr 3 1 (fillK k cl.length))⟩]) (fun k => k ≤ cl.length) (fun k => cl.length - k) 0 (Nat.zero_le _) ?_ ?_ ?_
  · simp only [seSl, clSl, ↓evPre, ↓evPreW, evPost, evPostW, ← List.map_take, ← List.map_drop, ↓reduceIte, reduceCtorEq, Nat.reduceEqDiff, forall_const, implies_true, Nat.reduceAdd, Nat.reduceSub, Nat.reduceMul, Nat.reduceLT, Nat.reduceLeDiff, Int.reduceToNat, Int.reduceAdd, Int.reduceSub, Int.reduceNeg, Int.reduceMul, Int.reduceLT, Int.reduceLE, Int.reduceEq]
  · simp [fillK, zrows, bsS, initF, planR, seSl, clSl]
  · intro k hk
    by_cases h : k < cl.length
    · have hlt : (k : Int) < cl.length := by omega
      simp (disch := first | omega | (simp only [List.length_cons, List.length_nil, List.length_map, List.length_drop]; omega)) only [bsS, planR, seSl, clSl, hlt, fillK_get h, fillK_set h, wrap_i64, decide_true, Nat.zero_add, evSt, ↓evPre, ↓evPreW, evPost, evPostW, ← List.map_take, ← List.map_drop, ↓reduceIte, reduceCtorEq, Nat.reduceEqDiff, forall_const, implies_true, Nat.reduceAdd, Nat.reduceSub, Nat.reduceMul, Nat.reduceLT, Nat.reduceLeDiff, Int.reduceToNat, Int.reduceAdd, Int.reduceSub, Int.reduceNeg, Int.reduceMul, Int.reduceLT, Int.reduceLE, Int.reduceEq]
      exact ⟨k + 1, by omega, by omega, rfl, rfl⟩
    · have hlt : ¬ (k : Int) < cl.length := by omega
      have e : k = cl.length := by omega
      subst e
      rw [fillK_end]
      have hst := sort_A cl (bsS S se cl (initF se cl) []) (by omega)
      simp only [bsS, planR, seSl, clSl, List.length_append, List.length_cons, List.length_nil, List.append_assoc, List.cons_append, List.nil_append, Nat.zero_add, Nat.add_assoc, Nat.reduceAdd] at hst
      simp (disch := first | omega | (simp only [List.length_cons, List.length_nil, List.length_map, List.length_drop]; omega)) only [bsS, planR, seSl, clSl, hlt, wrap_i64, decide_false, evSt, ↓evPre, ↓evPreW, evPost, evPostW, ← List.map_take, ← List.map_drop, ↓reduceIte, reduceCtorEq, Nat.reduceEqDiff, forall_const, implies_true, Nat.reduceAdd, Nat.reduceSub, Nat.reduceMul, Nat.reduceLT, Nat.reduceLeDiff, Int.reduceToNat, Int.reduceAdd, Int.reduceSub, Int.reduceNeg, Int.reduceMul, Int.reduceLT, Int.reduceLE, Int.reduceEq]
      refine hst.mono ?_
      rintro _ _ ⟨rfl, rfl⟩
      have hol : (orderF cl).length = cl.length := by have := (orderF_spec cl).1.length_eq; simpa using this
      have hom : ∀ o ∈ orderF cl, o < cl.length := fun o ho => List.mem_range.1 ((orderF_spec cl).1.mem_iff.1 ho)
      simp (disch := first | omega | (simp only [List.length_cons, List.length_nil, List.length_map, List.length_drop]; omega)) only [seSl, clSl, List.append_assoc, List.cons_append, List.nil_append, evSt, ↓evPre, ↓evPreW, evPost, evPostW, ← List.map_take, ← List.map_drop, ↓reduceIte, reduceCtorEq, Nat.reduceEqDiff, forall_const, implies_true, Nat.reduceAdd, Nat.reduceSub, Nat.reduceMul, Nat.reduceLT, Nat.reduceLeDiff, Int.reduceToNat, Int.reduceAdd, Int.reduceSub, Int.reduceNeg, Int.reduceMul, Int.reduceLT, Int.reduceLE, Int.reduceEq]
      refine loopF (ι := Nat) (fun k => [(0, seSl se), (5, .ptr (S.length + 2) 0 0 0), (36, .msl (S.length + 3) 0 0 cl.length), (37, .int .i64 cl.length), (38, .int .i64 k)]) (fun k => bsS S se cl (((orderF cl).take k).foldl (goF se cl) (initF se cl)) [⟨0, some (.arr 3 1 ((orderF cl).map nR))⟩]) (fun k => k ≤ cl.length) (fun k => cl.length - k)
        (fun i hi => by rw [hσ]; simp [bsS]) 0 (Nat.zero_le _) (.inl ⟨?_, ?_⟩) ?_
      · simp only [seSl, ↓evPre, ↓evPreW, evPost, evPostW, ← List.map_take, ← List.map_drop, ↓reduceIte, reduceCtorEq, Nat.reduceEqDiff, forall_const, implies_true, Nat.reduceAdd, Nat.reduceSub, Nat.reduceMul, Nat.reduceLT, Nat.reduceLeDiff, Int.reduceToNat, Int.reduceAdd, Int.reduceSub, Int.reduceNeg, Int.reduceMul, Int.reduceLT, Int.reduceLE, Int.reduceEq]
      · rfl
      · intro k hk
        have hwk := fold_wf ((orderF cl).take k) (initF se cl) (fun o ho => hom o (List.mem_of_mem_take ho)) (init_wf se cl)
        cases hok : (orderF cl)[k]? with
        | none =>
          have hge := List.getElem?_eq_none_iff.1 hok
          have hlt : ¬ (k : Int) < cl.length := by omega
          rw [List.take_of_length_le hge] at hwk ⊢
          simp (disch := first | omega | (simp only [List.length_cons, List.length_nil, List.length_map, List.length_drop]; omega)) only [bsS, planR, hlt, decide_false, evSt, ↓evPre, ↓evPreW, evPost, evPostW, ← List.map_take, ← List.map_drop, ↓reduceIte, reduceCtorEq, Nat.reduceEqDiff, forall_const, implies_true, Nat.reduceAdd, Nat.reduceSub, Nat.reduceMul, Nat.reduceLT, Nat.reduceLeDiff, Int.reduceToNat, Int.reduceAdd, Int.reduceSub, Int.reduceNeg, Int.reduceMul, Int.reduceLT, Int.reduceLE, Int.reduceEq]
          exact ⟨iSl (assignF se cl), S, hn.fgt _, .sl (t := 3) (Nat.le_refl _) (by rw [ob_app0, ob_head]; rfl) (by rw [List.length_map]; exact hwk.1) (imm_iR _), Nat.le_refl _, rfl, rfl⟩
        | some o =>
          have hkl := (List.getElem?_eq_some_iff.1 hok).1
          have hlt : (k : Int) < cl.length := by omega
          have hoc := hom o (List.mem_of_getElem? hok)
          have hstep := fold_snoc (se := se) (cl := cl) (s0 := initF se cl) hok
          generalize ((orderF cl).take k).foldl (goF se cl) (initF se cl) = s1 at hwk hstep
          have hpl := place_A se cl ⟨0, some (.arr 3 1 ((orderF cl).map nR))⟩ 0 S hL (se.length + 1) o (freshT se.length s1) [] hoc (fresh_wf hwk) free_fresh
          have hzr : zrows [V.bool false] se.length = (List.replicate se.length false).map bR := by simp [zrows, bR]
          simp (disch := first | omega | (simp only [List.length_cons, List.length_nil, List.length_map, List.length_drop]; omega)) only [bsS, planR, seSl, clSl, nR, hlt, hok, hzr, wrap_i64, List.length_map, Int.toNat_natCast, decide_true, Nat.zero_add, List.getElem?_map, Option.map_some, List.append_assoc, List.cons_append, List.nil_append, evSt, ↓evPre, ↓evPreW, evPost, evPostW, ← List.map_take, ← List.map_drop, ↓reduceIte, reduceCtorEq, Nat.reduceEqDiff, forall_const, implies_true, Nat.reduceAdd, Nat.reduceSub, Nat.reduceMul, Nat.reduceLT, Nat.reduceLeDiff, Int.reduceToNat, Int.reduceAdd, Int.reduceSub, Int.reduceNeg, Int.reduceMul, Int.reduceLT, Int.reduceLE, Int.reduceEq]
          refine ⟨Int.le_refl _, by unfold roomA; omega, ?_⟩
          refine hpl.mono ?_
          rintro _ _ ⟨rfl, rfl⟩
          have hgo : (placeF (fitF se cl) se.length (se.length + 1) o (freshT se.length s1)).2 = goF se cl s1 o := rfl
          rw [hgo]
          simp (disch := first | omega | (simp only [List.length_cons, List.length_nil, List.length_map, List.length_drop]; omega)) only [wrap_i64, ↓evPre, ↓evPreW, evPost, evPostW, ← List.map_take, ← List.map_drop, ↓reduceIte, reduceCtorEq, Nat.reduceEqDiff, forall_const, implies_true, Nat.reduceAdd, Nat.reduceSub, Nat.reduceMul, Nat.reduceLT, Nat.reduceLeDiff, Int.reduceToNat, Int.reduceAdd, Int.reduceSub, Int.reduceNeg, Int.reduceMul, Int.reduceLT, Int.reduceLE, Int.reduceEq]
          refine ⟨k + 1, by omega, by omega, ?_⟩
          rw [hstep]
          refine back_under ?_ ⟨rfl, rfl, rfl, rfl, rfl, trivial⟩ (by simp [bsS, V.under, seSl])
          exact hn.fgtL (L := [_, _, _, _, _]) (L1 := [_, _, _, _]) ⟨rfl, ⟨_, rfl, .imm (imm_iR _)⟩, rfl, ⟨_, rfl, .imm (imm_iR _)⟩, rfl, ⟨_, rfl, .under (fun r hr => by simp only [List.mem_singleton] at hr; subst hr; exact ⟨rfl, by simp [planR, V.allUnder, V.under, seSl, clSl]⟩)⟩, rfl, ⟨_, rfl, .imm (fun r hr => by obtain ⟨_, _, rfl⟩ := List.mem_map.1 hr; exact ⟨rfl, rfl⟩)⟩, trivial⟩
end Go.Proofs.YteeenlgoildmiaaDoor
