/- Who is served: the reference's loop, and the law. -/
import Derived.Test.YteeenlgoildmiaaDoorSeat21
namespace Go.Proofs.YteeenlgoildmiaaDoor
open Go Go.AL
set_option linter.unusedSimpArgs false
set_option linter.unusedVariables false

def svS (S : Store) (se : List Sea) (cl : List Clm) (k : Nat) : Store :=
  S ++ [⟨0, some (.arr 4 1 ((doneL cl.length ((orderF cl).take k)).map bR))⟩, ⟨0, some (.arr 4 1 ((svL cl.length (runS se cl k)).map bR))⟩]
theorem done0 (n : Nat) : doneL n [] = List.replicate n false := by
  unfold doneL
  refine List.ext_getElem (by simp) fun i h1 h2 => by simp
theorem sv0 (se : List Sea) (cl : List Clm) : svL cl.length (runS se cl 0) = List.replicate cl.length false := by
  have h := (init_run se cl).new
  refine List.ext_getElem (by simp [svL]) fun i h1 h2 => ?_
  rw [svL_len] at h1
  have := svL_get (s := runS se cl 0) h1
  rw [List.getElem?_eq_getElem (by rw [svL_len]; exact h1), Option.some.injEq] at this
  rw [this]
  have h3 := h i h1 (by simp)
  unfold srvd
  have e : runS se cl 0 = initF se cl := by simp [runS]
  rw [e, h3]
  simp
theorem fgtL_nil {S S1 T : Store} : FgtL S S1 T [] := by cases T <;> trivial
theorem fgt2 {S : Store} (hn : Neat S) (a b : List Bool) (T : Store) : Fgt (S ++ ⟨0, some (.arr 4 1 (a.map bR))⟩ :: ⟨0, some (.arr 4 1 (b.map bR))⟩ :: T) (S ++ [⟨0, some (.arr 4 1 (a.map bR))⟩, ⟨0, some (.arr 4 1 (b.map bR))⟩]) :=
  hn.fgtL (L := ⟨0, some (.arr 4 1 (a.map bR))⟩ :: ⟨0, some (.arr 4 1 (b.map bR))⟩ :: T) (L1 := [⟨0, some (.arr 4 1 (a.map bR))⟩, ⟨0, some (.arr 4 1 (b.map bR))⟩])
    ⟨rfl, ⟨_, rfl, .imm (imm_bR _)⟩, rfl, ⟨_, rfl, .imm (imm_bR _)⟩, fgtL_nil⟩

theorem served_A (se : List Sea) (cl : List Clm) (S : Store) (hL : se.length ≤ 1000000) (hC : cl.length ≤ 900) : CallA Tryd.prog 11 [seSl se, clSl cl] S fun r S' => r = .sl 1 ((svL cl.length (assignS se cl)).map bR) ∧ S' = S := by
  refine CallA.withNeat Tryd.func11 c11 fun hn => ?_
  refine CallA.fin Tryd.func11 c11 (Nat.le_of_ble_eq_true rfl) fun σ hσ => ?_
  have hzr : ∀ n, zrows [V.bool false] n = (List.replicate n false).map bR := fun n => by simp [zrows, bR]
  have hol := order_len cl
  simp (disch := first | omega | (simp only [List.length_cons, List.length_nil, List.length_map, List.length_drop]; omega)) only [a11, seSl, clSl, hzr, List.length_map, Int.toNat_natCast, List.append_assoc, List.cons_append, List.nil_append, evSt, ↓evPre, ↓evPreW, evPost, evPostW, ← List.map_take, ← List.map_drop, ↓reduceIte, reduceCtorEq, Nat.reduceEqDiff, forall_const, implies_true, Nat.reduceAdd, Nat.reduceSub, Nat.reduceMul, Nat.reduceLT, Nat.reduceLeDiff, Int.reduceToNat, Int.reduceAdd, Int.reduceSub, Int.reduceNeg, Int.reduceMul, Int.reduceLT, Int.reduceLE, Int.reduceEq]
  refine ⟨Int.le_refl _, by unfold roomA; omega, Int.le_refl _, by unfold roomA; omega, ?_⟩
  have f0 := first_A cl (doneL cl.length ((orderF cl).take 0)) S [⟨0, some (.arr 4 1 ((List.replicate cl.length false).map bR))⟩] (by omega) (doneL_len _ _)
  rw [best_order, List.take_zero, done0] at f0
  refine f0.mono ?_
  rintro _ _ ⟨rfl, rfl⟩
  simp (disch := first | omega | (simp only [List.length_cons, List.length_nil, List.length_map, List.length_drop]; omega)) only [seSl, clSl, evSt, ↓evPre, ↓evPreW, evPost, evPostW, ← List.map_take, ← List.map_drop, ↓reduceIte, reduceCtorEq, Nat.reduceEqDiff, forall_const, implies_true, Nat.reduceAdd, Nat.reduceSub, Nat.reduceMul, Nat.reduceLT, Nat.reduceLeDiff, Int.reduceToNat, Int.reduceAdd, Int.reduceSub, Int.reduceNeg, Int.reduceMul, Int.reduceLT, Int.reduceLE, Int.reduceEq]
  refine loopF (ι := Nat) (fun k => [(0, seSl se), (1, clSl cl), (5, .msl S.length 0 0 cl.length), (6, .msl (S.length + 1) 0 0 cl.length), (7, clSl (allL se cl k)), (8, .int .i64 (atI (orderF cl)[k]?))]) (fun k => svS S se cl k) (fun k => k ≤ cl.length) (fun k => cl.length - k)
    (fun i hi => by rw [hσ]; simp [svS]) 0 (Nat.zero_le _) (.inr ⟨?_, ?_⟩) ?_
  · unfold svS
    rw [List.take_zero, done0, sv0]
    exact fgt2 hn _ _ []
  · refine ⟨.imm rfl, .imm rfl, .same (.inl ?_), .same (.inl ?_), ?_, .imm rfl, trivial⟩
    · show V.under _ (.msl S.length 0 0 cl.length) = true
      simp [V.under, svS]
    · show V.under _ (.msl (S.length + 1) 0 0 cl.length) = true
      simp [V.under, svS]
    · have : clSl (allL se cl 0) = .sl 4 [] := by simp [allL, clSl]
      rw [this]
      exact .nil
  · intro k hk
    cases hc : (orderF cl)[k]? with
    | none =>
      have hge := List.getElem?_eq_none_iff.1 hc
      have hm : ¬ (0 : Int) ≤ -1 := by omega
      have e : runS se cl k = assignS se cl := by unfold runS assignS; rw [List.take_of_length_le hge]
      simp (disch := first | omega | (simp only [List.length_cons, List.length_nil, List.length_map, List.length_drop]; omega)) only [svS, e, atI, hm, seSl, clSl, decide_false, evSt, ↓evPre, ↓evPreW, evPost, evPostW, ← List.map_take, ← List.map_drop, ↓reduceIte, reduceCtorEq, Nat.reduceEqDiff, forall_const, implies_true, Nat.reduceAdd, Nat.reduceSub, Nat.reduceMul, Nat.reduceLT, Nat.reduceLeDiff, Int.reduceToNat, Int.reduceAdd, Int.reduceSub, Int.reduceNeg, Int.reduceMul, Int.reduceLT, Int.reduceLE, Int.reduceEq]
      exact ⟨_, S, hn.fgt _, .sl (t := 4) (by omega) (by simp only [evSt]) (by rw [List.length_map, svL_len]) (imm_bR _), Nat.le_refl _, rfl, rfl⟩
    | some c =>
      have hkl := (List.getElem?_eq_some_iff.1 hc).1
      have hcC : c < cl.length := (order_mem cl).1 (List.mem_of_getElem? hc)
      have h0 : (0 : Int) ≤ c := by omega
      have hget : cl[c]? = some (gk cl c) := by have := List.getElem?_eq_getElem hcC; rw [gk_get this]; exact this
      have hdone := doneL_get (n := cl.length) (p := (orderF cl).take k) hcC
      have htk : (orderF cl).take (k + 1) = (orderF cl).take k ++ [c] := by rw [List.take_add_one, hc]; rfl
      have hset := doneL_set (n := cl.length) (p := (orderF cl).take k) (c := c)
      rw [← htk] at hset
      have hsv := svL_get (s := runS se cl k) hcC
      have hal := allL_len se cl k
      obtain ⟨n1, n2, n3⟩ := run_next (se := se) hc
      have fk := fun (sv : List Bool) (T : Store) => first_A cl (doneL cl.length ((orderF cl).take (k + 1))) S (⟨0, some (.arr 4 1 (sv.map bR))⟩ :: T) (by omega) (doneL_len _ _)
      rw [best_order] at fk
      have htg := fun (dn sv : List Bool) => together_A se (allL se cl k ++ [gk cl c]) (S ++ [⟨0, some (.arr 4 1 (dn.map bR))⟩, ⟨0, some (.arr 4 1 (sv.map bR))⟩, ⟨2, some (.arr 38 4 ((allL se cl k ++ [gk cl c]).map clmR))⟩]) (S.length + 2) 2
        (fun L => by simp only [List.append_assoc, List.cons_append, List.nil_append, evSt]) hL (by simp; omega) (allL se cl k ++ [gk cl c]) 0 (List.replicate se.length false) rfl (Nat.zero_le _) (by simp)
      have em : List.map clmR (allL se cl k) ++ [[V.int .i64 (gk cl c).tic, V.int .i64 (gk cl c).need, V.int .i64 (gk cl c).avoid, V.int .i64 (gk cl c).rank]] = (allL se cl k ++ [gk cl c]).map clmR := by simp [clmR]
      rw [n1] at htg
      simp only [tkS, List.length_append, List.length_cons, List.length_nil, List.append_assoc, List.cons_append, List.nil_append, Nat.zero_add, Nat.reduceAdd] at htg
      have hat : atI (some c) = (c : Int) := rfl
      simp (disch := first | omega | (simp only [List.length_cons, List.length_nil, List.length_map, List.length_drop]; omega)) only [svS, hat, bR, seSl, clSl, clmR, h0, hget, hdone, set_bR, hset, hzr, em, List.length_map, Int.toNat_natCast, decide_true, Nat.zero_add, List.getElem?_map, Option.map_some, List.append_assoc, List.cons_append, List.nil_append, List.take_succ_cons, List.take_zero, Nat.add_assoc, evSt, ↓evPre, ↓evPreW, evPost, evPostW, ← List.map_take, ← List.map_drop, ↓reduceIte, reduceCtorEq, Nat.reduceEqDiff, forall_const, implies_true, Nat.reduceAdd, Nat.reduceSub, Nat.reduceMul, Nat.reduceLT, Nat.reduceLeDiff, Int.reduceToNat, Int.reduceAdd, Int.reduceSub, Int.reduceNeg, Int.reduceMul, Int.reduceLT, Int.reduceLE, Int.reduceEq]
      refine ⟨by unfold roomA; omega, by unfold roomA; omega, Int.le_refl _, by unfold roomA; omega, ?_⟩
      refine (htg _ _).mono ?_
      rintro _ _ ⟨rfl, rfl⟩
      cases hok : srvd (runS se cl (k + 1)) c with
      | true =>
        obtain ⟨m1, m2⟩ := n2 hok
        simp (disch := first | omega | (simp only [List.length_cons, List.length_nil, List.length_map, List.length_drop]; omega)) only [seSl, clSl, bR, hsv, set_bR, ← m2, List.length_map, Int.toNat_natCast, decide_true, Nat.zero_add, List.getElem?_map, Option.map_some, List.append_assoc, List.cons_append, List.nil_append, evSt, ↓evPre, ↓evPreW, evPost, evPostW, ← List.map_take, ← List.map_drop, ↓reduceIte, reduceCtorEq, Nat.reduceEqDiff, forall_const, implies_true, Nat.reduceAdd, Nat.reduceSub, Nat.reduceMul, Nat.reduceLT, Nat.reduceLeDiff, Int.reduceToNat, Int.reduceAdd, Int.reduceSub, Int.reduceNeg, Int.reduceMul, Int.reduceLT, Int.reduceLE, Int.reduceEq]
        refine (fk _ _).mono ?_
        rintro _ _ ⟨rfl, rfl⟩
        simp (disch := first | omega | (simp only [List.length_cons, List.length_nil, List.length_map, List.length_drop]; omega)) only [↓evPre, ↓evPreW, evPost, evPostW, ← List.map_take, ← List.map_drop, ↓reduceIte, reduceCtorEq, Nat.reduceEqDiff, forall_const, implies_true, Nat.reduceAdd, Nat.reduceSub, Nat.reduceMul, Nat.reduceLT, Nat.reduceLeDiff, Int.reduceToNat, Int.reduceAdd, Int.reduceSub, Int.reduceNeg, Int.reduceMul, Int.reduceLT, Int.reduceLE, Int.reduceEq]
        refine ⟨k + 1, by omega, by omega, .inr ⟨?_, ?_⟩⟩
        · exact fgt2 hn _ _ _
        · rw [m1]
          refine ⟨.imm rfl, .imm rfl, .same (.inl (show V.under _ (.msl S.length 0 0 cl.length) = true by simp [V.under, svS])), .same (.inl (show V.under _ (.msl (S.length + 1) 0 0 cl.length) = true by simp [V.under, svS])), ?_, .imm rfl, trivial⟩
          refine .dead (t := 38) (fun o ho => ?_) (by simp only [evSt]) (by simp) (fun r hr => by obtain ⟨x, _, rfl⟩ := List.mem_map.1 hr; exact ⟨rfl, rfl⟩)
          have := (List.getElem?_eq_some_iff.1 ho).1
          simp [svS] at this
      | false =>
        obtain ⟨m1, m2⟩ := n3 hok
        simp (disch := first | omega | (simp only [List.length_cons, List.length_nil, List.length_map, List.length_drop]; omega)) only [seSl, clSl, bR, hsv, set_bR, List.length_map, Int.toNat_natCast, decide_true, Nat.zero_add, List.getElem?_map, Option.map_some, List.append_assoc, List.cons_append, List.nil_append, evSt, ↓evPre, ↓evPreW, evPost, evPostW, ← List.map_take, ← List.map_drop, ↓reduceIte, reduceCtorEq, Nat.reduceEqDiff, forall_const, implies_true, Nat.reduceAdd, Nat.reduceSub, Nat.reduceMul, Nat.reduceLT, Nat.reduceLeDiff, Int.reduceToNat, Int.reduceAdd, Int.reduceSub, Int.reduceNeg, Int.reduceMul, Int.reduceLT, Int.reduceLE, Int.reduceEq]
        refine (fk _ _).mono ?_
        rintro _ _ ⟨rfl, rfl⟩
        simp (disch := first | omega | (simp only [List.length_cons, List.length_nil, List.length_map, List.length_drop]; omega)) only [↓evPre, ↓evPreW, evPost, evPostW, ← List.map_take, ← List.map_drop, ↓reduceIte, reduceCtorEq, Nat.reduceEqDiff, forall_const, implies_true, Nat.reduceAdd, Nat.reduceSub, Nat.reduceMul, Nat.reduceLT, Nat.reduceLeDiff, Int.reduceToNat, Int.reduceAdd, Int.reduceSub, Int.reduceNeg, Int.reduceMul, Int.reduceLT, Int.reduceLE, Int.reduceEq]
        refine ⟨k + 1, by omega, by omega, .inr ⟨?_, ?_⟩⟩
        · rw [m2]
          exact fgt2 hn _ _ _
        · rw [m1]
          exact ⟨.imm rfl, .imm rfl, .same (.inl (show V.under _ (.msl S.length 0 0 cl.length) = true by simp [V.under, svS])), .same (.inl (show V.under _ (.msl (S.length + 1) 0 0 cl.length) = true by simp [V.under, svS])), .imm rfl, .imm rfl, trivial⟩

theorem law_assigns (se : List Sea) (cl : List Clm) (S : Store) (h1 : se.length ≤ 1048576) (h2 : cl.length ≤ 1048576) : CallA Tryd.prog 3 [seSl se, clSl cl] S fun r S' => r = .bool true ∧ S' = S := by
  refine CallA.keep Tryd.func3 c3 (Nat.le_of_ble_eq_true rfl) fun σ hσ => ?_
  by_cases g1 : 8 < se.length
  · have g1' : (8 : Int) < se.length := by omega
    simp (disch := first | omega | (simp only [List.length_cons, List.length_nil, List.length_map, List.length_drop]; omega)) only [a3, seSl, clSl, g1', List.length_map, decide_true, decide_false, ↓evPre, ↓evPreW, evPost, evPostW, ← List.map_take, ← List.map_drop, ↓reduceIte, reduceCtorEq, Nat.reduceEqDiff, forall_const, implies_true, Nat.reduceAdd, Nat.reduceSub, Nat.reduceMul, Nat.reduceLT, Nat.reduceLeDiff, Int.reduceToNat, Int.reduceAdd, Int.reduceSub, Int.reduceNeg, Int.reduceMul, Int.reduceLT, Int.reduceLE, Int.reduceEq]
    refine (knows_A S).then ?_
    simp only [↓evPre, ↓evPreW, evPost, evPostW, ← List.map_take, ← List.map_drop, ↓reduceIte, reduceCtorEq, Nat.reduceEqDiff, forall_const, implies_true, Nat.reduceAdd, Nat.reduceSub, Nat.reduceMul, Nat.reduceLT, Nat.reduceLeDiff, Int.reduceToNat, Int.reduceAdd, Int.reduceSub, Int.reduceNeg, Int.reduceMul, Int.reduceLT, Int.reduceLE, Int.reduceEq]
  have g1' : ¬ (8 : Int) < se.length := by omega
  by_cases g2 : 6 < cl.length
  · have g2' : (6 : Int) < cl.length := by omega
    simp (disch := first | omega | (simp only [List.length_cons, List.length_nil, List.length_map, List.length_drop]; omega)) only [a3, seSl, clSl, g1', g2', List.length_map, decide_true, decide_false, ↓evPre, ↓evPreW, evPost, evPostW, ← List.map_take, ← List.map_drop, ↓reduceIte, reduceCtorEq, Nat.reduceEqDiff, forall_const, implies_true, Nat.reduceAdd, Nat.reduceSub, Nat.reduceMul, Nat.reduceLT, Nat.reduceLeDiff, Int.reduceToNat, Int.reduceAdd, Int.reduceSub, Int.reduceNeg, Int.reduceMul, Int.reduceLT, Int.reduceLE, Int.reduceEq]
    refine (knows_A S).then ?_
    simp only [↓evPre, ↓evPreW, evPost, evPostW, ← List.map_take, ← List.map_drop, ↓reduceIte, reduceCtorEq, Nat.reduceEqDiff, forall_const, implies_true, Nat.reduceAdd, Nat.reduceSub, Nat.reduceMul, Nat.reduceLT, Nat.reduceLeDiff, Int.reduceToNat, Int.reduceAdd, Int.reduceSub, Int.reduceNeg, Int.reduceMul, Int.reduceLT, Int.reduceLE, Int.reduceEq]
  have g2' : ¬ (6 : Int) < cl.length := by omega
  simp (disch := first | omega | (simp only [List.length_cons, List.length_nil, List.length_map, List.length_drop]; omega)) only [a3, seSl, clSl, g1', g2', List.length_map, decide_true, decide_false, ↓evPre, ↓evPreW, evPost, evPostW, ← List.map_take, ← List.map_drop, ↓reduceIte, reduceCtorEq, Nat.reduceEqDiff, forall_const, implies_true, Nat.reduceAdd, Nat.reduceSub, Nat.reduceMul, Nat.reduceLT, Nat.reduceLeDiff, Int.reduceToNat, Int.reduceAdd, Int.reduceSub, Int.reduceNeg, Int.reduceMul, Int.reduceLT, Int.reduceLE, Int.reduceEq]
  refine CallA.then (assign_A se cl S (by omega) (by omega)) ?_
  simp (disch := first | omega | (simp only [List.length_cons, List.length_nil, List.length_map, List.length_drop]; omega)) only [seSl, clSl, List.length_map, ↓evPre, ↓evPreW, evPost, evPostW, ← List.map_take, ← List.map_drop, ↓reduceIte, reduceCtorEq, Nat.reduceEqDiff, forall_const, implies_true, Nat.reduceAdd, Nat.reduceSub, Nat.reduceMul, Nat.reduceLT, Nat.reduceLeDiff, Int.reduceToNat, Int.reduceAdd, Int.reduceSub, Int.reduceNeg, Int.reduceMul, Int.reduceLT, Int.reduceLE, Int.reduceEq]
  refine CallA.then (served_A se cl S (by omega) (by omega)) ?_
  have hlx := assign_len se cl
  have hxi : ∀ i, i < cl.length → (assignF se cl)[i]? = some ((assignS se cl).sm i) := fun i hi => by
    unfold assignF St.sm
    rw [List.getD_eq_getElem?_getD, List.getElem?_eq_getElem (by rw [(assign_run se cl).mat.slen]; exact hi)]; rfl
  have hva := refvalid_A se cl (assignF se cl) S (by omega) (by omega)
  rw [assign_valid] at hva
  simp (disch := first | omega | (simp only [List.length_cons, List.length_nil, List.length_map, List.length_drop]; omega)) only [seSl, clSl, iSl, hlx, List.length_map, decide_true, decide_false, ↓evPre, ↓evPreW, evPost, evPostW, ← List.map_take, ← List.map_drop, ↓reduceIte, reduceCtorEq, Nat.reduceEqDiff, forall_const, implies_true, Nat.reduceAdd, Nat.reduceSub, Nat.reduceMul, Nat.reduceLT, Nat.reduceLeDiff, Int.reduceToNat, Int.reduceAdd, Int.reduceSub, Int.reduceNeg, Int.reduceMul, Int.reduceLT, Int.reduceLE, Int.reduceEq]
  refine CallA.then hva ?_
  simp (disch := first | omega | (simp only [List.length_cons, List.length_nil, List.length_map, List.length_drop]; omega)) only [seSl, clSl, iSl, Bool.not_true, List.length_map, decide_true, decide_false, ↓evPre, ↓evPreW, evPost, evPostW, ← List.map_take, ← List.map_drop, ↓reduceIte, reduceCtorEq, Nat.reduceEqDiff, forall_const, implies_true, Nat.reduceAdd, Nat.reduceSub, Nat.reduceMul, Nat.reduceLT, Nat.reduceLeDiff, Int.reduceToNat, Int.reduceAdd, Int.reduceSub, Int.reduceNeg, Int.reduceMul, Int.reduceLT, Int.reduceLE, Int.reduceEq]
  refine loopA (ι := Nat) (fun i => [(1, clSl cl), (5, iSl (assignF se cl)), (6, .sl 1 ((svL cl.length (assignS se cl)).map bR)), (7, .int .i64 i)]) (fun _ => S) (fun i => i ≤ cl.length) (fun i => cl.length - i) 0 (Nat.zero_le _) ?_ rfl ?_
  · simp only [clSl, iSl, ↓evPre, ↓evPreW, evPost, evPostW, ← List.map_take, ← List.map_drop, ↓reduceIte, reduceCtorEq, Nat.reduceEqDiff, forall_const, implies_true, Nat.reduceAdd, Nat.reduceSub, Nat.reduceMul, Nat.reduceLT, Nat.reduceLeDiff, Int.reduceToNat, Int.reduceAdd, Int.reduceSub, Int.reduceNeg, Int.reduceMul, Int.reduceLT, Int.reduceLE, Int.reduceEq]
  · intro i hi
    by_cases hil : i < cl.length
    · have hlt : (i : Int) < cl.length := by omega
      have q1 := hxi i hil
      have q2 := svL_get (s := assignS se cl) hil
      have q3 : srvd (assignS se cl) i = decide (0 ≤ (assignS se cl).sm i) := rfl
      rw [q3] at q2
      simp (disch := first | omega | (simp only [List.length_cons, List.length_nil, List.length_map, List.length_drop]; omega)) only [clSl, iSl, bR, hlt, q1, q2, wrap_i64, eq_self, List.length_map, beq_self_eq_true, decide_true, decide_false, Bool.not_true, List.getElem?_map, Option.map_some, ↓evPre, ↓evPreW, evPost, evPostW, ← List.map_take, ← List.map_drop, ↓reduceIte, reduceCtorEq, Nat.reduceEqDiff, forall_const, implies_true, Nat.reduceAdd, Nat.reduceSub, Nat.reduceMul, Nat.reduceLT, Nat.reduceLeDiff, Int.reduceToNat, Int.reduceAdd, Int.reduceSub, Int.reduceNeg, Int.reduceMul, Int.reduceLT, Int.reduceLE, Int.reduceEq]
      exact ⟨i + 1, by omega, by omega, rfl⟩
    · have hlt : ¬ (i : Int) < cl.length := by omega
      simp (disch := first | omega | (simp only [List.length_cons, List.length_nil, List.length_map, List.length_drop]; omega)) only [clSl, iSl, hlt, List.length_map, decide_false, ↓evPre, ↓evPreW, evPost, evPostW, ← List.map_take, ← List.map_drop, ↓reduceIte, reduceCtorEq, Nat.reduceEqDiff, forall_const, implies_true, Nat.reduceAdd, Nat.reduceSub, Nat.reduceMul, Nat.reduceLT, Nat.reduceLeDiff, Int.reduceToNat, Int.reduceAdd, Int.reduceSub, Int.reduceNeg, Int.reduceMul, Int.reduceLT, Int.reduceLE, Int.reduceEq]
      refine (knows_A _).then ?_
      simp only [↓evPre, ↓evPreW, evPost, evPostW, ← List.map_take, ← List.map_drop, ↓reduceIte, reduceCtorEq, Nat.reduceEqDiff, forall_const, implies_true, Nat.reduceAdd, Nat.reduceSub, Nat.reduceMul, Nat.reduceLT, Nat.reduceLeDiff, Int.reduceToNat, Int.reduceAdd, Int.reduceSub, Int.reduceNeg, Int.reduceMul, Int.reduceLT, Int.reduceLE, Int.reduceEq]
end Go.Proofs.YteeenlgoildmiaaDoor
