/- The law on claims of lesser rank: the walk. -/
import Derived.Test.YteeenlgoildmiaaDoorSeat18
namespace Go.Proofs.YteeenlgoildmiaaDoor
open Go Go.AL
set_option linter.unusedSimpArgs false
set_option linter.unusedVariables false

def hiS (S : Store) (cl : List Clm) (rank : Int) (k : Nat) : Store :=
  S ++ [⟨(hiTo cl rank k).length, some (.arr 38 4 (((hiTo cl rank k).map (gk cl)).map clmR))⟩, ⟨(hiTo cl rank k).length, some (.arr 3 1 ((hiTo cl rank k).map nR))⟩]
theorem law_less (se : List Sea) (cl : List Clm) (rank : Int) (S : Store) (h1 : se.length ≤ 1048576) (h2 : cl.length ≤ 1048576) : CallA Tryd.prog 5 [seSl se, clSl cl, .int .i64 rank] S fun r S' => r = .bool true ∧ S' = S := by
  refine CallA.back Tryd.func5 c5 (Nat.le_of_ble_eq_true rfl) fun σ hσ hn => ?_
  have fin : ∀ T : Store, ∃ r1, (∃ T', S ++ T = S ++ T') ∧ Frz (S ++ T) S (.bool true) r1 ∧ r1 = .bool true := fun T => ⟨_, ⟨T, rfl⟩, .imm rfl, rfl⟩
  have fin0 : ∃ r1, (∃ T', S = S ++ T') ∧ Frz S S (.bool true) r1 ∧ r1 = .bool true := ⟨_, ⟨[], by simp⟩, .imm rfl, rfl⟩
  by_cases g1 : 60 < se.length
  · have g1' : (60 : Int) < se.length := by omega
    simp (disch := first | omega | (simp only [List.length_cons, List.length_nil, List.length_map, List.length_drop]; omega)) only [a5, seSl, clSl, seaR, g1', List.length_map, decide_true, decide_false, ↓evPre, ↓evPreW, evPost, evPostW, ← List.map_take, ← List.map_drop, ↓reduceIte, reduceCtorEq, Nat.reduceEqDiff, forall_const, implies_true, Nat.reduceAdd, Nat.reduceSub, Nat.reduceMul, Nat.reduceLT, Nat.reduceLeDiff, Int.reduceToNat, Int.reduceAdd, Int.reduceSub, Int.reduceNeg, Int.reduceMul, Int.reduceLT, Int.reduceLE, Int.reduceEq]
    refine (knows_A S).then ?_
    simp only [↓evPre, ↓evPreW, evPost, evPostW, ← List.map_take, ← List.map_drop, ↓reduceIte, reduceCtorEq, Nat.reduceEqDiff, forall_const, implies_true, Nat.reduceAdd, Nat.reduceSub, Nat.reduceMul, Nat.reduceLT, Nat.reduceLeDiff, Int.reduceToNat, Int.reduceAdd, Int.reduceSub, Int.reduceNeg, Int.reduceMul, Int.reduceLT, Int.reduceLE, Int.reduceEq]
    exact fin0
  have g1' : ¬ (60 : Int) < se.length := by omega
  by_cases g2 : 60 < cl.length
  · have g2' : (60 : Int) < cl.length := by omega
    simp (disch := first | omega | (simp only [List.length_cons, List.length_nil, List.length_map, List.length_drop]; omega)) only [a5, seSl, clSl, seaR, g1', g2', List.length_map, decide_true, decide_false, ↓evPre, ↓evPreW, evPost, evPostW, ← List.map_take, ← List.map_drop, ↓reduceIte, reduceCtorEq, Nat.reduceEqDiff, forall_const, implies_true, Nat.reduceAdd, Nat.reduceSub, Nat.reduceMul, Nat.reduceLT, Nat.reduceLeDiff, Int.reduceToNat, Int.reduceAdd, Int.reduceSub, Int.reduceNeg, Int.reduceMul, Int.reduceLT, Int.reduceLE, Int.reduceEq]
    refine (knows_A S).then ?_
    simp only [↓evPre, ↓evPreW, evPost, evPostW, ← List.map_take, ← List.map_drop, ↓reduceIte, reduceCtorEq, Nat.reduceEqDiff, forall_const, implies_true, Nat.reduceAdd, Nat.reduceSub, Nat.reduceMul, Nat.reduceLT, Nat.reduceLeDiff, Int.reduceToNat, Int.reduceAdd, Int.reduceSub, Int.reduceNeg, Int.reduceMul, Int.reduceLT, Int.reduceLE, Int.reduceEq]
    exact fin0
  have g2' : ¬ (60 : Int) < cl.length := by omega
  simp (disch := first | omega | (simp only [List.length_cons, List.length_nil, List.length_map, List.length_drop]; omega)) only [a5, seSl, clSl, seaR, g1', g2', List.length_map, decide_true, decide_false, ↓evPre, ↓evPreW, evPost, evPostW, ← List.map_take, ← List.map_drop, ↓reduceIte, reduceCtorEq, Nat.reduceEqDiff, forall_const, implies_true, Nat.reduceAdd, Nat.reduceSub, Nat.reduceMul, Nat.reduceLT, Nat.reduceLeDiff, Int.reduceToNat, Int.reduceAdd, Int.reduceSub, Int.reduceNeg, Int.reduceMul, Int.reduceLT, Int.reduceLE, Int.reduceEq]
  refine LoopA.ghost 7 0 38 4 (by simp only [↓evPre, ↓evPreW, evPost, evPostW, ← List.map_take, ← List.map_drop, ↓reduceIte, reduceCtorEq, Nat.reduceEqDiff, forall_const, implies_true, Nat.reduceAdd, Nat.reduceSub, Nat.reduceMul, Nat.reduceLT, Nat.reduceLeDiff, Int.reduceToNat, Int.reduceAdd, Int.reduceSub, Int.reduceNeg, Int.reduceMul, Int.reduceLT, Int.reduceLE, Int.reduceEq]) ?_
  refine LoopA.ghost 8 0 3 1 (by simp only [↓evPre, ↓evPreW, evPost, evPostW, ← List.map_take, ← List.map_drop, ↓reduceIte, reduceCtorEq, Nat.reduceEqDiff, forall_const, implies_true, Nat.reduceAdd, Nat.reduceSub, Nat.reduceMul, Nat.reduceLT, Nat.reduceLeDiff, Int.reduceToNat, Int.reduceAdd, Int.reduceSub, Int.reduceNeg, Int.reduceMul, Int.reduceLT, Int.reduceLE, Int.reduceEq]) ?_
  refine loopA (ι := Nat) (fun k => [(0, seSl se), (1, clSl cl), (2, .int .i64 rank), (7, .msl S.length (hiTo cl rank k).length 0 (hiTo cl rank k).length), (8, .msl (S.length + 1) (hiTo cl rank k).length 0 (hiTo cl rank k).length), (9, .int .i64 k)]) (fun k => hiS S cl rank k) (fun k => k ≤ cl.length) (fun k => cl.length - k) 0 (Nat.zero_le _) ?_ ?_ ?_
  · simp only [seSl, clSl, hiTo, List.range_zero, List.filter_nil, List.length_nil, List.length_append, List.length_cons, ↓evPre, ↓evPreW, evPost, evPostW, ← List.map_take, ← List.map_drop, ↓reduceIte, reduceCtorEq, Nat.reduceEqDiff, forall_const, implies_true, Nat.reduceAdd, Nat.reduceSub, Nat.reduceMul, Nat.reduceLT, Nat.reduceLeDiff, Int.reduceToNat, Int.reduceAdd, Int.reduceSub, Int.reduceNeg, Int.reduceMul, Int.reduceLT, Int.reduceLE, Int.reduceEq]
  · simp [hiS, hiTo]
  · intro k hk
    have hhl := hiTo_len cl rank k
    by_cases hkl : k < cl.length
    · have hlt : (k : Int) < cl.length := by omega
      have hc : cl[k]? = some cl[k] := List.getElem?_eq_getElem hkl
      have hg := gk_get hc
      have hsucc := hiTo_succ (cl := cl) (rank := rank) (k := k)
      unfold isHi at hsucc
      rw [hg] at hsucc
      generalize cl[k] = c at hc hg hsucc
      by_cases hr : rank ≤ c.rank
      · have e : hiTo cl rank (k + 1) = hiTo cl rank k ++ [k] := by rw [hsucc, decide_eq_true hr]; rfl
        simp (disch := first | omega | (simp only [List.length_cons, List.length_nil, List.length_map, List.length_drop]; omega)) only [hiS, seSl, clSl, clmR, hlt, hc, hr, wrap_i64, List.length_map, decide_true, List.getElem?_map, Option.map_some, List.take_succ_cons, List.take_zero, List.append_assoc, List.cons_append, List.nil_append, evSt, ↓evPre, ↓evPreW, evPost, evPostW, ← List.map_take, ← List.map_drop, ↓reduceIte, reduceCtorEq, Nat.reduceEqDiff, forall_const, implies_true, Nat.reduceAdd, Nat.reduceSub, Nat.reduceMul, Nat.reduceLT, Nat.reduceLeDiff, Int.reduceToNat, Int.reduceAdd, Int.reduceSub, Int.reduceNeg, Int.reduceMul, Int.reduceLT, Int.reduceLE, Int.reduceEq]
        refine ⟨by unfold roomA; omega, by unfold roomA; omega, k + 1, by omega, by omega, ?_⟩
        rw [e]
        simp [seSl, clSl, clmR, nR, hg]
      · have e : hiTo cl rank (k + 1) = hiTo cl rank k := by rw [hsucc, decide_eq_false hr]; exact List.append_nil _
        simp (disch := first | omega | (simp only [List.length_cons, List.length_nil, List.length_map, List.length_drop]; omega)) only [hiS, seSl, clSl, clmR, hlt, hc, hr, wrap_i64, List.length_map, decide_true, decide_false, List.getElem?_map, Option.map_some, List.take_succ_cons, List.take_zero, evSt, ↓evPre, ↓evPreW, evPost, evPostW, ← List.map_take, ← List.map_drop, ↓reduceIte, reduceCtorEq, Nat.reduceEqDiff, forall_const, implies_true, Nat.reduceAdd, Nat.reduceSub, Nat.reduceMul, Nat.reduceLT, Nat.reduceLeDiff, Int.reduceToNat, Int.reduceAdd, Int.reduceSub, Int.reduceNeg, Int.reduceMul, Int.reduceLT, Int.reduceLE, Int.reduceEq]
        refine ⟨k + 1, by omega, by omega, ?_⟩
        rw [e]
        simp
    · have hlt : ¬ (k : Int) < cl.length := by omega
      have e : k = cl.length := by omega
      subst e
      have hl : (hiTo cl rank cl.length).length = (hiIx cl rank).length := rfl
      simp (disch := first | omega | (simp only [List.length_cons, List.length_nil, List.length_map, List.length_drop]; omega)) only [hiS, hl, seSl, clSl, hlt, List.length_map, decide_false, evSt, ↓evPre, ↓evPreW, evPost, evPostW, ← List.map_take, ← List.map_drop, ↓reduceIte, reduceCtorEq, Nat.reduceEqDiff, forall_const, implies_true, Nat.reduceAdd, Nat.reduceSub, Nat.reduceMul, Nat.reduceLT, Nat.reduceLeDiff, Int.reduceToNat, Int.reduceAdd, Int.reduceSub, Int.reduceNeg, Int.reduceMul, Int.reduceLT, Int.reduceLE, Int.reduceEq]
      refine CallA.then (assign_A se cl _ (by omega) (by omega)) ?_
      simp (disch := first | omega | (simp only [List.length_cons, List.length_nil, List.length_map, List.length_drop]; omega)) only [seSl, clSl, List.length_map, evSt, ↓evPre, ↓evPreW, evPost, evPostW, ← List.map_take, ← List.map_drop, ↓reduceIte, reduceCtorEq, Nat.reduceEqDiff, forall_const, implies_true, Nat.reduceAdd, Nat.reduceSub, Nat.reduceMul, Nat.reduceLT, Nat.reduceLeDiff, Int.reduceToNat, Int.reduceAdd, Int.reduceSub, Int.reduceNeg, Int.reduceMul, Int.reduceLT, Int.reduceLE, Int.reduceEq]
      have hix : hiTo cl rank cl.length = hiIx cl rank := rfl
      have hhc : (hiIx cl rank).map (gk cl) = hiCl cl rank := rfl
      rw [hix, hhc]
      have hil : (hiIx cl rank).length ≤ cl.length := by rw [← hix]; exact hiTo_len _ _ _
      have hk2 := assign_A se (hiCl cl rank) (S ++ [⟨(hiIx cl rank).length, none⟩, ⟨(hiIx cl rank).length, some (.arr 3 1 ((hiIx cl rank).map nR))⟩]) (by omega) (by rw [hiCl_len]; omega)
      have hf : Fgt (S ++ [⟨(hiIx cl rank).length, some (.arr 38 4 ((hiCl cl rank).map clmR))⟩, ⟨(hiIx cl rank).length, some (.arr 3 1 ((hiIx cl rank).map nR))⟩]) (S ++ [⟨(hiIx cl rank).length, none⟩, ⟨(hiIx cl rank).length, some (.arr 3 1 ((hiIx cl rank).map nR))⟩]) :=
        hn.fgtL (L := [⟨(hiIx cl rank).length, some (.arr 38 4 ((hiCl cl rank).map clmR))⟩, ⟨(hiIx cl rank).length, some (.arr 3 1 ((hiIx cl rank).map nR))⟩]) (L1 := [⟨(hiIx cl rank).length, none⟩, ⟨(hiIx cl rank).length, some (.arr 3 1 ((hiIx cl rank).map nR))⟩])
          ⟨rfl, trivial, rfl, ⟨_, rfl, .imm (fun r hr => by obtain ⟨x, _, rfl⟩ := List.mem_map.1 hr; exact ⟨rfl, rfl⟩)⟩, trivial⟩
      refine CallA.froze (args1 := [seSl se, clSl (hiCl cl rank)]) (hk2.then2 ?_) hf (by simp) rfl (fun j v1 v hj hv => ?_)
      · have hlx := assign_len se cl
        have hly := assign_len se (hiCl cl rank)
        rw [hiCl_len] at hly
        have hxi : ∀ i, i < cl.length → (assignF se cl)[i]? = some ((assignS se cl).sm i) := fun i hi => by
          unfold assignF St.sm
          rw [List.getD_eq_getElem?_getD, List.getElem?_eq_getElem (by rw [(assign_run se cl).mat.slen]; exact hi)]; rfl
        have hyi : ∀ i, i < (hiIx cl rank).length → (assignF se (hiCl cl rank))[i]? = some ((assignS se (hiCl cl rank)).sm i) := fun i hi => by
          unfold assignF St.sm
          rw [List.getD_eq_getElem?_getD, List.getElem?_eq_getElem (by rw [(assign_run se (hiCl cl rank)).mat.slen, hiCl_len]; exact hi)]; rfl
        have hless := less_is se cl rank
        have hat := fun (j : Nat) => at_get (cl := cl) (rank := rank) (j := j)
        have hatm := fun (j : Nat) (h : j < (hiIx cl rank).length) => (at_mem h).1
        generalize assignF se (hiCl cl rank) = Y at hly hyi
        generalize assignF se cl = X at hlx hxi
        generalize (assignS se (hiCl cl rank)).sm = ym at hyi hless
        generalize (assignS se cl).sm = xm at hxi hless
        generalize atF cl rank = af at hat hatm hless
        obtain ⟨hx, hhx⟩ : ∃ hx, hiIx cl rank = hx := ⟨_, rfl⟩
        rw [hhx] at hly hyi hless hat hatm hil
        rw [hhx]
        simp (disch := first | omega | (simp only [List.length_cons, List.length_nil, List.length_map, List.length_drop]; omega)) only [seSl, clSl, iSl, hlx, hly, List.length_map, decide_true, decide_false, Bool.not_true, evSt, ↓evPre, ↓evPreW, evPost, evPostW, ← List.map_take, ← List.map_drop, ↓reduceIte, reduceCtorEq, Nat.reduceEqDiff, forall_const, implies_true, Nat.reduceAdd, Nat.reduceSub, Nat.reduceMul, Nat.reduceLT, Nat.reduceLeDiff, Int.reduceToNat, Int.reduceAdd, Int.reduceSub, Int.reduceNeg, Int.reduceMul, Int.reduceLT, Int.reduceLE, Int.reduceEq]
        refine loopA (ι := Nat) (fun i => [(7, .msl S.length hx.length 0 hx.length), (8, .msl (S.length + 1) hx.length 0 hx.length), (10, iSl X), (11, iSl Y), (12, .int .i64 i)]) (fun _ => S ++ [⟨hx.length, none⟩, ⟨hx.length, some (.arr 3 1 (hx.map nR))⟩]) (fun i => i ≤ hx.length) (fun i => hx.length - i) 0 (Nat.zero_le _) ?_ rfl ?_
        · simp only [iSl, ↓evPre, ↓evPreW, evPost, evPostW, ← List.map_take, ← List.map_drop, ↓reduceIte, reduceCtorEq, Nat.reduceEqDiff, forall_const, implies_true, Nat.reduceAdd, Nat.reduceSub, Nat.reduceMul, Nat.reduceLT, Nat.reduceLeDiff, Int.reduceToNat, Int.reduceAdd, Int.reduceSub, Int.reduceNeg, Int.reduceMul, Int.reduceLT, Int.reduceLE, Int.reduceEq]
        · intro i hi
          by_cases hl2 : i < hx.length
          · have hlt2 : (i : Int) < hx.length := by omega
            have q1 := hat i hl2
            have q2 := hyi i hl2
            have q3 := hxi (af i) (hatm i hl2)
            have q4 := hless i hl2
            have q5 : decide (0 ≤ ym i) = decide (0 ≤ xm (af i)) := by rw [decide_eq_decide]; exact q4
            simp (disch := first | omega | (simp only [List.length_cons, List.length_nil, List.length_map, List.length_drop]; omega)) only [iSl, nR, hlt2, q1, q2, q3, q5, wrap_i64, eq_self, List.length_map, Int.toNat_natCast, beq_self_eq_true, decide_true, decide_false, Bool.not_true, Nat.zero_add, List.getElem?_map, Option.map_some, evSt, ↓evPre, ↓evPreW, evPost, evPostW, ← List.map_take, ← List.map_drop, ↓reduceIte, reduceCtorEq, Nat.reduceEqDiff, forall_const, implies_true, Nat.reduceAdd, Nat.reduceSub, Nat.reduceMul, Nat.reduceLT, Nat.reduceLeDiff, Int.reduceToNat, Int.reduceAdd, Int.reduceSub, Int.reduceNeg, Int.reduceMul, Int.reduceLT, Int.reduceLE, Int.reduceEq]
            exact ⟨i + 1, by omega, by omega, rfl⟩
          · have hlt2 : ¬ (i : Int) < hx.length := by omega
            simp (disch := first | omega | (simp only [List.length_cons, List.length_nil, List.length_map, List.length_drop]; omega)) only [iSl, hlt2, List.length_map, decide_false, evSt, ↓evPre, ↓evPreW, evPost, evPostW, ← List.map_take, ← List.map_drop, ↓reduceIte, reduceCtorEq, Nat.reduceEqDiff, forall_const, implies_true, Nat.reduceAdd, Nat.reduceSub, Nat.reduceMul, Nat.reduceLT, Nat.reduceLeDiff, Int.reduceToNat, Int.reduceAdd, Int.reduceSub, Int.reduceNeg, Int.reduceMul, Int.reduceLT, Int.reduceLE, Int.reduceEq]
            refine (knows_A _).then ?_
            simp only [↓evPre, ↓evPreW, evPost, evPostW, ← List.map_take, ← List.map_drop, ↓reduceIte, reduceCtorEq, Nat.reduceEqDiff, forall_const, implies_true, Nat.reduceAdd, Nat.reduceSub, Nat.reduceMul, Nat.reduceLT, Nat.reduceLeDiff, Int.reduceToNat, Int.reduceAdd, Int.reduceSub, Int.reduceNeg, Int.reduceMul, Int.reduceLT, Int.reduceLE, Int.reduceEq]
            exact fin _
      · match j with
        | 0 => simp at hj hv; subst hj hv; exact .imm rfl
        | 1 =>
          simp at hj hv
          subst hj hv
          exact .dead (t := 38) (fun o ho => by rw [List.getElem?_append_right (Nat.le_refl _)] at ho; simp at ho; subst ho; rfl) (by rw [ob_app0, ob_head]) (by rw [List.length_map, hiCl_len]) (fun r hr => by obtain ⟨x, _, rfl⟩ := List.mem_map.1 hr; exact ⟨rfl, rfl⟩)
        | j + 2 => simp at hj
end Go.Proofs.YteeenlgoildmiaaDoor
