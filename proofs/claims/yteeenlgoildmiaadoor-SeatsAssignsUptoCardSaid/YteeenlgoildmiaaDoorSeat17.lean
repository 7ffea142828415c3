/- The law on the order of claims. -/
import Derived.Test.YteeenlgoildmiaaDoorSeat15
namespace Go.Proofs.YteeenlgoildmiaaDoor
open Go Go.AL
set_option linter.unusedSimpArgs false
set_option linter.unusedVariables false

theorem has_take {x : List Int} {j : Nat} {v k : Int} (h : x[j]? = some v) : (x.take (j + 1)).contains k = ((x.take j).contains k || decide (v = k)) := by
  rw [List.take_add_one, h, Option.toList_some, List.contains_eq_any_beq, List.any_append, ← List.contains_eq_any_beq]
  congr 1
  simp only [List.any_cons, List.any_nil, Bool.or_false]
  by_cases e : v = k
  · subst e; simp
  · have : ¬ k = v := fun e' => e e'.symm
    simp [e, this]

theorem spare_A (se : List Sea) (x : List Int) (c : Clm) (S : Store) (hse : se.length ≤ 1000000) (hx : x.length ≤ 1000000) (h : ∀ k, k < se.length → fitsI se k c = true → (k : Int) ∈ x) : CallA Tryd.prog 19 [seSl se, iSl x, .agg (clmR c)] S fun r S' => r = .bool false ∧ S' = S := by
  refine CallA.keep Tryd.func19 c19 (Nat.le_of_ble_eq_true rfl) fun σ hσ => ?_
  simp only [a19, seSl, iSl, clmR, ↓evPre, ↓evPreW, evPost, evPostW, ← List.map_take, ← List.map_drop, ↓reduceIte, reduceCtorEq, Nat.reduceEqDiff, forall_const, implies_true, Nat.reduceAdd, Nat.reduceSub, Nat.reduceMul, Nat.reduceLT, Nat.reduceLeDiff, Int.reduceToNat, Int.reduceAdd, Int.reduceSub, Int.reduceNeg, Int.reduceMul, Int.reduceLT, Int.reduceLE, Int.reduceEq]
  refine loopA (ι := Nat) (fun k => [(0, seSl se), (1, iSl x), (5, .cptr (clmR c)), (7, .int .i64 k)]) (fun _ => S) (fun k => k ≤ se.length) (fun k => se.length - k) 0 (Nat.zero_le _) ?_ rfl ?_
  · simp only [seSl, iSl, clmR, ↓evPre, ↓evPreW, evPost, evPostW, ← List.map_take, ← List.map_drop, ↓reduceIte, reduceCtorEq, Nat.reduceEqDiff, forall_const, implies_true, Nat.reduceAdd, Nat.reduceSub, Nat.reduceMul, Nat.reduceLT, Nat.reduceLeDiff, Int.reduceToNat, Int.reduceAdd, Int.reduceSub, Int.reduceNeg, Int.reduceMul, Int.reduceLT, Int.reduceLE, Int.reduceEq]
  · intro k hk
    by_cases hkl : k < se.length
    · have hlt : (k : Int) < se.length := by omega
      have hs : se[k]? = some se[k] := List.getElem?_eq_getElem hkl
      have hfi : fitsI se k c = fitsF se[k] c := by rw [fitsI, hs]
      have hin := h k hkl
      rw [hfi] at hin
      generalize se[k] = s at hs hfi hin
      simp (disch := first | omega | (simp only [List.length_cons, List.length_nil, List.length_map, List.length_drop]; omega)) only [seSl, iSl, clmR, hlt, List.length_map, decide_true, ↓evPre, ↓evPreW, evPost, evPostW, ← List.map_take, ← List.map_drop, ↓reduceIte, reduceCtorEq, Nat.reduceEqDiff, forall_const, implies_true, Nat.reduceAdd, Nat.reduceSub, Nat.reduceMul, Nat.reduceLT, Nat.reduceLeDiff, Int.reduceToNat, Int.reduceAdd, Int.reduceSub, Int.reduceNeg, Int.reduceMul, Int.reduceLT, Int.reduceLE, Int.reduceEq]
      refine loopA (ι := Nat) (fun j => [(0, seSl se), (1, iSl x), (5, .cptr (clmR c)), (7, .int .i64 k), (8, .bool ((x.take j).contains (k : Int))), (9, .int .i64 j)]) (fun _ => S) (fun j => j ≤ x.length) (fun j => x.length - j) 0 (Nat.zero_le _) ?_ rfl ?_
      · simp only [seSl, iSl, clmR, List.take_zero, List.contains_nil, ↓evPre, ↓evPreW, evPost, evPostW, ← List.map_take, ← List.map_drop, ↓reduceIte, reduceCtorEq, Nat.reduceEqDiff, forall_const, implies_true, Nat.reduceAdd, Nat.reduceSub, Nat.reduceMul, Nat.reduceLT, Nat.reduceLeDiff, Int.reduceToNat, Int.reduceAdd, Int.reduceSub, Int.reduceNeg, Int.reduceMul, Int.reduceLT, Int.reduceLE, Int.reduceEq]
      · intro j hj
        cases hv : x[j]? with
        | some v =>
          have hjl := (List.getElem?_eq_some_iff.1 hv).1
          have hjlt : (j : Int) < x.length := by omega
          have ht := has_take (k := (k : Int)) hv
          cases hb : (x.take j).contains (k : Int) with
          | true =>
            rw [hb, Bool.true_or] at ht
            simp (disch := first | omega | (simp only [List.length_cons, List.length_nil, List.length_map, List.length_drop]; omega)) only [seSl, iSl, clmR, hjlt, hv, wrap_i64, List.length_map, decide_true, List.getElem?_map, Option.map_some, ↓evPre, ↓evPreW, evPost, evPostW, ← List.map_take, ← List.map_drop, ↓reduceIte, reduceCtorEq, Nat.reduceEqDiff, forall_const, implies_true, Nat.reduceAdd, Nat.reduceSub, Nat.reduceMul, Nat.reduceLT, Nat.reduceLeDiff, Int.reduceToNat, Int.reduceAdd, Int.reduceSub, Int.reduceNeg, Int.reduceMul, Int.reduceLT, Int.reduceLE, Int.reduceEq]
            exact ⟨j + 1, by omega, by omega, ht.symm, rfl⟩
          | false =>
            rw [hb, Bool.false_or] at ht
            simp (disch := first | omega | (simp only [List.length_cons, List.length_nil, List.length_map, List.length_drop]; omega)) only [seSl, iSl, clmR, hjlt, hv, wrap_i64, List.length_map, decide_true, List.getElem?_map, Option.map_some, ↓evPre, ↓evPreW, evPost, evPostW, ← List.map_take, ← List.map_drop, ↓reduceIte, reduceCtorEq, Nat.reduceEqDiff, forall_const, implies_true, Nat.reduceAdd, Nat.reduceSub, Nat.reduceMul, Nat.reduceLT, Nat.reduceLeDiff, Int.reduceToNat, Int.reduceAdd, Int.reduceSub, Int.reduceNeg, Int.reduceMul, Int.reduceLT, Int.reduceLE, Int.reduceEq]
            exact ⟨j + 1, by omega, by omega, ht.symm, rfl⟩
        | none =>
          have hge := List.getElem?_eq_none_iff.1 hv
          have hjlt : ¬ (j : Int) < x.length := by omega
          rw [List.take_of_length_le hge]
          cases hb : x.contains (k : Int) with
          | true =>
            simp (disch := first | omega | (simp only [List.length_cons, List.length_nil, List.length_map, List.length_drop]; omega)) only [seSl, iSl, clmR, seaR, hlt, hjlt, hs, wrap_i64, List.length_map, decide_true, decide_false, List.getElem?_map, Option.map_some, ↓evPre, ↓evPreW, evPost, evPostW, ← List.map_take, ← List.map_drop, ↓reduceIte, reduceCtorEq, Nat.reduceEqDiff, forall_const, implies_true, Nat.reduceAdd, Nat.reduceSub, Nat.reduceMul, Nat.reduceLT, Nat.reduceLeDiff, Int.reduceToNat, Int.reduceAdd, Int.reduceSub, Int.reduceNeg, Int.reduceMul, Int.reduceLT, Int.reduceLE, Int.reduceEq]
            exact ⟨k + 1, by omega, by omega, rfl⟩
          | false =>
            have hnf : fitsF s c = false := by
              cases hf : fitsF s c with
              | false => rfl
              | true =>
                have := List.contains_iff_mem.2 (hin hf)
                rw [hb] at this; cases this
            by_cases g1 : landF s.has c.need = c.need
            · have g2 : ¬ landF s.has c.avoid = 0 := fun g2 => by
                unfold fitsF at hnf
                simp [g1, g2] at hnf
              unfold landF at g1 g2
              simp (disch := first | omega | (simp only [List.length_cons, List.length_nil, List.length_map, List.length_drop]; omega)) only [seSl, iSl, clmR, seaR, hlt, hjlt, hs, g1, g2, wrap_i64, List.length_map, decide_true, decide_false, List.getElem?_map, Option.map_some, ↓evPre, ↓evPreW, evPost, evPostW, ← List.map_take, ← List.map_drop, ↓reduceIte, reduceCtorEq, Nat.reduceEqDiff, forall_const, implies_true, Nat.reduceAdd, Nat.reduceSub, Nat.reduceMul, Nat.reduceLT, Nat.reduceLeDiff, Int.reduceToNat, Int.reduceAdd, Int.reduceSub, Int.reduceNeg, Int.reduceMul, Int.reduceLT, Int.reduceLE, Int.reduceEq]
              exact ⟨k + 1, by omega, by omega, rfl⟩
            · unfold landF at g1
              simp (disch := first | omega | (simp only [List.length_cons, List.length_nil, List.length_map, List.length_drop]; omega)) only [seSl, iSl, clmR, seaR, hlt, hjlt, hs, g1, wrap_i64, List.length_map, decide_true, decide_false, List.getElem?_map, Option.map_some, ↓evPre, ↓evPreW, evPost, evPostW, ← List.map_take, ← List.map_drop, ↓reduceIte, reduceCtorEq, Nat.reduceEqDiff, forall_const, implies_true, Nat.reduceAdd, Nat.reduceSub, Nat.reduceMul, Nat.reduceLT, Nat.reduceLeDiff, Int.reduceToNat, Int.reduceAdd, Int.reduceSub, Int.reduceNeg, Int.reduceMul, Int.reduceLT, Int.reduceLE, Int.reduceEq]
              exact ⟨k + 1, by omega, by omega, rfl⟩
    · have hlt : ¬ (k : Int) < se.length := by omega
      simp (disch := first | omega | (simp only [List.length_cons, List.length_nil, List.length_map, List.length_drop]; omega)) only [seSl, iSl, clmR, hlt, List.length_map, decide_false, ↓evPre, ↓evPreW, evPost, evPostW, ← List.map_take, ← List.map_drop, ↓reduceIte, reduceCtorEq, Nat.reduceEqDiff, forall_const, implies_true, Nat.reduceAdd, Nat.reduceSub, Nat.reduceMul, Nat.reduceLT, Nat.reduceLeDiff, Int.reduceToNat, Int.reduceAdd, Int.reduceSub, Int.reduceNeg, Int.reduceMul, Int.reduceLT, Int.reduceLE, Int.reduceEq]

theorem law_orders (se : List Sea) (cl : List Clm) (m : Sea) (S : Store) (h1 : se.length ≤ 1048576) (h2 : cl.length ≤ 1048576) : CallA Tryd.prog 7 [seSl se, clSl cl, .agg (seaR m)] S fun r S' => r = .bool true ∧ S' = S := by
  refine CallA.back Tryd.func7 c7 (Nat.le_of_ble_eq_true rfl) fun σ hσ hn => ?_
  have fin : ∀ T : Store, ∃ r1, (∃ T', S ++ T = S ++ T') ∧ Frz (S ++ T) S (.bool true) r1 ∧ r1 = .bool true := fun T => ⟨_, ⟨T, rfl⟩, .imm rfl, rfl⟩
  have fin0 : ∃ r1, (∃ T', S = S ++ T') ∧ Frz S S (.bool true) r1 ∧ r1 = .bool true := ⟨_, ⟨[], by simp⟩, .imm rfl, rfl⟩
  by_cases g1 : 60 < se.length
  · have g1' : (60 : Int) < se.length := by omega
    simp (disch := first | omega | (simp only [List.length_cons, List.length_nil, List.length_map, List.length_drop]; omega)) only [a7, seSl, clSl, seaR, g1', List.length_map, decide_true, decide_false, ↓evPre, ↓evPreW, evPost, evPostW, ← List.map_take, ← List.map_drop, ↓reduceIte, reduceCtorEq, Nat.reduceEqDiff, forall_const, implies_true, Nat.reduceAdd, Nat.reduceSub, Nat.reduceMul, Nat.reduceLT, Nat.reduceLeDiff, Int.reduceToNat, Int.reduceAdd, Int.reduceSub, Int.reduceNeg, Int.reduceMul, Int.reduceLT, Int.reduceLE, Int.reduceEq]
    refine (knows_A S).then ?_
    simp only [↓evPre, ↓evPreW, evPost, evPostW, ← List.map_take, ← List.map_drop, ↓reduceIte, reduceCtorEq, Nat.reduceEqDiff, forall_const, implies_true, Nat.reduceAdd, Nat.reduceSub, Nat.reduceMul, Nat.reduceLT, Nat.reduceLeDiff, Int.reduceToNat, Int.reduceAdd, Int.reduceSub, Int.reduceNeg, Int.reduceMul, Int.reduceLT, Int.reduceLE, Int.reduceEq]
    exact fin0
  have g1' : ¬ (60 : Int) < se.length := by omega
  by_cases g2 : 60 < cl.length
  · have g2' : (60 : Int) < cl.length := by omega
    simp (disch := first | omega | (simp only [List.length_cons, List.length_nil, List.length_map, List.length_drop]; omega)) only [a7, seSl, clSl, seaR, g1', g2', List.length_map, decide_true, decide_false, ↓evPre, ↓evPreW, evPost, evPostW, ← List.map_take, ← List.map_drop, ↓reduceIte, reduceCtorEq, Nat.reduceEqDiff, forall_const, implies_true, Nat.reduceAdd, Nat.reduceSub, Nat.reduceMul, Nat.reduceLT, Nat.reduceLeDiff, Int.reduceToNat, Int.reduceAdd, Int.reduceSub, Int.reduceNeg, Int.reduceMul, Int.reduceLT, Int.reduceLE, Int.reduceEq]
    refine (knows_A S).then ?_
    simp only [↓evPre, ↓evPreW, evPost, evPostW, ← List.map_take, ← List.map_drop, ↓reduceIte, reduceCtorEq, Nat.reduceEqDiff, forall_const, implies_true, Nat.reduceAdd, Nat.reduceSub, Nat.reduceMul, Nat.reduceLT, Nat.reduceLeDiff, Int.reduceToNat, Int.reduceAdd, Int.reduceSub, Int.reduceNeg, Int.reduceMul, Int.reduceLT, Int.reduceLE, Int.reduceEq]
    exact fin0
  have g2' : ¬ (60 : Int) < cl.length := by omega
  simp (disch := first | omega | (simp only [List.length_cons, List.length_nil, List.length_map, List.length_drop]; omega)) only [a7, seSl, clSl, seaR, g1', g2', List.length_map, decide_true, decide_false, ↓evPre, ↓evPreW, evPost, evPostW, ← List.map_take, ← List.map_drop, ↓reduceIte, reduceCtorEq, Nat.reduceEqDiff, forall_const, implies_true, Nat.reduceAdd, Nat.reduceSub, Nat.reduceMul, Nat.reduceLT, Nat.reduceLeDiff, Int.reduceToNat, Int.reduceAdd, Int.reduceSub, Int.reduceNeg, Int.reduceMul, Int.reduceLT, Int.reduceLE, Int.reduceEq]
  refine CallA.then (assign_A se cl S (by omega) (by omega)) ?_
  simp (disch := first | omega | (simp only [List.length_cons, List.length_nil, List.length_map, List.length_drop]; omega)) only [seSl, clSl, seaR, List.length_map, List.take_succ_cons, List.take_zero, List.nil_append, List.append_assoc, List.cons_append, evSt, ↓evPre, ↓evPreW, evPost, evPostW, ← List.map_take, ← List.map_drop, ↓reduceIte, reduceCtorEq, Nat.reduceEqDiff, forall_const, implies_true, Nat.reduceAdd, Nat.reduceSub, Nat.reduceMul, Nat.reduceLT, Nat.reduceLeDiff, Int.reduceToNat, Int.reduceAdd, Int.reduceSub, Int.reduceNeg, Int.reduceMul, Int.reduceLT, Int.reduceLE, Int.reduceEq]
  have hk := assign_A (se ++ [m]) cl (S ++ kill [⟨2, some (.arr 32 3 ((se ++ [m]).map seaR))⟩]) (by simp; omega) (by omega)
  have em : List.map seaR se ++ [[V.int .i64 m.row, V.str m.letter, V.int .i64 m.has]] = (se ++ [m]).map seaR := by simp [seaR]
  rw [em]
  refine ⟨by unfold roomA; omega, by unfold roomA; omega, ?_⟩
  refine CallA.killedL hn (args1 := [seSl (se ++ [m]), clSl cl]) (hk.then2 ?_) ⟨.dead (t := 32) (dead_kill (Nat.le_refl _)) (by rw [ob_app0, ob_head]) (by simp) (fun r hr => by obtain ⟨x, _, rfl⟩ := List.mem_map.1 hr; exact ⟨rfl, rfl⟩), .imm rfl, trivial⟩
  obtain ⟨T, hT⟩ : ∃ T : Store, kill [⟨2, some (.arr 32 3 ((se ++ [m]).map seaR))⟩] = T := ⟨_, rfl⟩
  rw [hT]
  have hrun := assign_run se cl
  have hlx := assign_len se cl
  have hly := assign_len (se ++ [m]) cl
  have hxi : ∀ i, i < cl.length → (assignF se cl)[i]? = some ((assignS se cl).sm i) := fun i hi => by
    unfold assignF St.sm
    rw [List.getD_eq_getElem?_getD, List.getElem?_eq_getElem (by rw [hrun.mat.slen]; exact hi)]; rfl
  have hyi : ∀ i, i < cl.length → (assignF (se ++ [m]) cl)[i]? = some ((assignS (se ++ [m]) cl).sm i) := fun i hi => by
    unfold assignF St.sm
    rw [List.getD_eq_getElem?_getD, List.getElem?_eq_getElem (by rw [(assign_run (se ++ [m]) cl).mat.slen]; exact hi)]; rfl
  have hmore := assign_more se m cl
  have hspare := fun (x k : Nat) => no_spare se cl (x := x) (k := k)
  have hva := valid_A se cl (assignF se cl) (S ++ T) (by omega) (by omega)
  rw [assign_valid] at hva
  have hmo := most_A se cl (S ++ T) (by omega) (by omega)
  generalize assignF (se ++ [m]) cl = Y at hly hyi
  generalize assignF se cl = X at hlx hxi hva hmo hspare
  generalize (assignS (se ++ [m]) cl).sm = ym at hyi hmore
  generalize (assignS se cl).sm = xm at hxi hmore hspare
  simp (disch := first | omega | (simp only [List.length_cons, List.length_nil, List.length_map, List.length_drop]; omega)) only [seSl, clSl, List.length_map, decide_true, decide_false, evSt, ↓evPre, ↓evPreW, evPost, evPostW, ← List.map_take, ← List.map_drop, ↓reduceIte, reduceCtorEq, Nat.reduceEqDiff, forall_const, implies_true, Nat.reduceAdd, Nat.reduceSub, Nat.reduceMul, Nat.reduceLT, Nat.reduceLeDiff, Int.reduceToNat, Int.reduceAdd, Int.reduceSub, Int.reduceNeg, Int.reduceMul, Int.reduceLT, Int.reduceLE, Int.reduceEq]
  refine CallA.then hva ?_
  simp (disch := first | omega | (simp only [List.length_cons, List.length_nil, List.length_map, List.length_drop]; omega)) only [seSl, clSl, iSl, hlx, hly, eq_self, List.length_map, decide_true, decide_false, Bool.not_true, ↓evPre, ↓evPreW, evPost, evPostW, ← List.map_take, ← List.map_drop, ↓reduceIte, reduceCtorEq, Nat.reduceEqDiff, forall_const, implies_true, Nat.reduceAdd, Nat.reduceSub, Nat.reduceMul, Nat.reduceLT, Nat.reduceLeDiff, Int.reduceToNat, Int.reduceAdd, Int.reduceSub, Int.reduceNeg, Int.reduceMul, Int.reduceLT, Int.reduceLE, Int.reduceEq]
  refine loopA (ι := Nat) (fun i => [(0, seSl se), (1, clSl cl), (7, iSl X), (8, iSl Y), (9, .int .i64 (cntF (X.take i) : Nat)), (10, .int .i64 i)]) (fun _ => S ++ T) (fun i => i ≤ cl.length) (fun i => cl.length - i) 0 (Nat.zero_le _) ?_ rfl ?_
  · simp only [seSl, clSl, iSl, cntF, List.take_zero, List.filter_nil, List.length_nil, ↓evPre, ↓evPreW, evPost, evPostW, ← List.map_take, ← List.map_drop, ↓reduceIte, reduceCtorEq, Nat.reduceEqDiff, forall_const, implies_true, Nat.reduceAdd, Nat.reduceSub, Nat.reduceMul, Nat.reduceLT, Nat.reduceLeDiff, Int.reduceToNat, Int.reduceAdd, Int.reduceSub, Int.reduceNeg, Int.reduceMul, Int.reduceLT, Int.reduceLE, Int.reduceEq]
  · intro i hi
    by_cases hil : i < cl.length
    · have hlt : (i : Int) < cl.length := by omega
      have hx := hxi i hil
      have hy := hyi i hil
      have hst := cnt_take hx
      have hcl : cntF (X.take i) ≤ i := by
        unfold cntF
        refine Nat.le_trans (List.length_filter_le _ _) ?_
        simp
        omega
      have hc : cl[i]? = some cl[i] := List.getElem?_eq_getElem hil
      by_cases h0 : 0 ≤ xm i
      · have h3 : ¬ ym i < 0 := by have := hmore i hil h0; omega
        have h4 : ¬ xm i < 0 := by omega
        rw [if_pos h0] at hst
        simp (disch := first | omega | (simp only [List.length_cons, List.length_nil, List.length_map, List.length_drop]; omega)) only [seSl, clSl, iSl, hlt, hx, hy, h0, h3, h4, wrap_i64, decide_true, decide_false, List.length_map, List.getElem?_map, Option.map_some, ↓evPre, ↓evPreW, evPost, evPostW, ← List.map_take, ← List.map_drop, ↓reduceIte, reduceCtorEq, Nat.reduceEqDiff, forall_const, implies_true, Nat.reduceAdd, Nat.reduceSub, Nat.reduceMul, Nat.reduceLT, Nat.reduceLeDiff, Int.reduceToNat, Int.reduceAdd, Int.reduceSub, Int.reduceNeg, Int.reduceMul, Int.reduceLT, Int.reduceLE, Int.reduceEq]
        exact ⟨i + 1, by omega, by omega, by omega, rfl⟩
      · have h4 : xm i < 0 := by omega
        rw [if_neg h0] at hst
        have hsp := spare_A se X cl[i] (S ++ T) (by omega) (by omega) (fun k hk hf => hspare i k hil h0 hk (by rw [fitF_I hc]; exact hf))
        generalize cl[i] = c at hc hsp
        simp (disch := first | omega | (simp only [List.length_cons, List.length_nil, List.length_map, List.length_drop]; omega)) only [seSl, clSl, iSl, clmR, hlt, hx, hy, hc, h0, h4, wrap_i64, decide_true, decide_false, List.length_map, List.getElem?_map, Option.map_some, List.take_succ_cons, List.take_zero, ↓evPre, ↓evPreW, evPost, evPostW, ← List.map_take, ← List.map_drop, ↓reduceIte, reduceCtorEq, Nat.reduceEqDiff, forall_const, implies_true, Nat.reduceAdd, Nat.reduceSub, Nat.reduceMul, Nat.reduceLT, Nat.reduceLeDiff, Int.reduceToNat, Int.reduceAdd, Int.reduceSub, Int.reduceNeg, Int.reduceMul, Int.reduceLT, Int.reduceLE, Int.reduceEq]
        refine CallA.then hsp ?_
        simp (disch := first | omega | (simp only [List.length_cons, List.length_nil, List.length_map, List.length_drop]; omega)) only [seSl, clSl, iSl, wrap_i64, decide_true, decide_false, ↓evPre, ↓evPreW, evPost, evPostW, ← List.map_take, ← List.map_drop, ↓reduceIte, reduceCtorEq, Nat.reduceEqDiff, forall_const, implies_true, Nat.reduceAdd, Nat.reduceSub, Nat.reduceMul, Nat.reduceLT, Nat.reduceLeDiff, Int.reduceToNat, Int.reduceAdd, Int.reduceSub, Int.reduceNeg, Int.reduceMul, Int.reduceLT, Int.reduceLE, Int.reduceEq]
        exact ⟨i + 1, by omega, by omega, by omega, rfl⟩
    · have hlt : ¬ (i : Int) < cl.length := by omega
      rw [List.take_of_length_le (by omega)]
      simp (disch := first | omega | (simp only [List.length_cons, List.length_nil, List.length_map, List.length_drop]; omega)) only [seSl, clSl, iSl, hlt, List.length_map, decide_false, ↓evPre, ↓evPreW, evPost, evPostW, ← List.map_take, ← List.map_drop, ↓reduceIte, reduceCtorEq, Nat.reduceEqDiff, forall_const, implies_true, Nat.reduceAdd, Nat.reduceSub, Nat.reduceMul, Nat.reduceLT, Nat.reduceLeDiff, Int.reduceToNat, Int.reduceAdd, Int.reduceSub, Int.reduceNeg, Int.reduceMul, Int.reduceLT, Int.reduceLE, Int.reduceEq]
      refine CallA.then hmo ?_
      simp (disch := first | omega | (simp only [List.length_cons, List.length_nil, List.length_map, List.length_drop]; omega)) only [eq_self, decide_true, ↓evPre, ↓evPreW, evPost, evPostW, ← List.map_take, ← List.map_drop, ↓reduceIte, reduceCtorEq, Nat.reduceEqDiff, forall_const, implies_true, Nat.reduceAdd, Nat.reduceSub, Nat.reduceMul, Nat.reduceLT, Nat.reduceLeDiff, Int.reduceToNat, Int.reduceAdd, Int.reduceSub, Int.reduceNeg, Int.reduceMul, Int.reduceLT, Int.reduceLE, Int.reduceEq]
      refine (knows_A _).then ?_
      simp only [↓evPre, ↓evPreW, evPost, evPostW, ← List.map_take, ← List.map_drop, ↓reduceIte, reduceCtorEq, Nat.reduceEqDiff, forall_const, implies_true, Nat.reduceAdd, Nat.reduceSub, Nat.reduceMul, Nat.reduceLT, Nat.reduceLeDiff, Int.reduceToNat, Int.reduceAdd, Int.reduceSub, Int.reduceNeg, Int.reduceMul, Int.reduceLT, Int.reduceLE, Int.reduceEq]
      exact fin _
end Go.Proofs.YteeenlgoildmiaaDoor
