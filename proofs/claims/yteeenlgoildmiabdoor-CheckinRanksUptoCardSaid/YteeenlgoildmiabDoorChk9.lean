/- The law on who is accepted. -/
import Derived.Test.YteeenlgoildmiabDoorChk8
namespace Go.Proofs.YteeenlgoildmiabDoor
open Go Go.AL
set_option linter.unusedSimpArgs false
set_option linter.unusedVariables false

def bR (b : Bool) : List V := [.bool b]
theorem imm_bR (l : List Bool) : ∀ r ∈ l.map bR, r.length = 1 ∧ V.allImm r = true := fun r hr => by
  obtain ⟨_, _, rfl⟩ := List.mem_map.1 hr
  exact ⟨rfl, rfl⟩
theorem set_bR {l : List Bool} {k : Nat} {b : Bool} : (l.map bR).set k [.bool b] = (l.set k b).map bR := by rw [List.map_set]; rfl
def doneL (n : Nat) (p : List Nat) : List Bool := (List.range n).map fun x => decide (x ∈ p)
theorem doneL_get {n : Nat} {p : List Nat} {x : Nat} (h : x < n) : (doneL n p)[x]? = some (decide (x ∈ p)) := by
  unfold doneL
  rw [List.getElem?_map, List.getElem?_range h]; rfl
theorem doneL_len (n : Nat) (p : List Nat) : (doneL n p).length = n := by simp [doneL]
theorem doneL_set {n : Nat} {p : List Nat} {c : Nat} : (doneL n p).set c true = doneL n (p ++ [c]) := by
  refine List.ext_getElem? fun x => ?_
  rw [List.getElem?_set]
  by_cases hx : x < n
  · rw [doneL_get hx, doneL_get hx, doneL_len]
    by_cases e : c = x
    · subst e; simp [hx]
    · have : ¬ x = c := fun h => e h.symm
      simp [e, this]
  · have h1 : (doneL n p)[x]? = none := List.getElem?_eq_none (by rw [doneL_len]; omega)
    have h2 : (doneL n (p ++ [c]))[x]? = none := List.getElem?_eq_none (by rw [doneL_len]; omega)
    rw [h1, h2, doneL_len]
    split
    · rw [if_neg (by omega)]
    · rfl
theorem done0 (n : Nat) : doneL n [] = List.replicate n false := by
  unfold doneL
  refine List.ext_getElem (by simp) fun i h1 h2 => by simp

def rkS (S : Store) (d : List Bool) (o : List Nat) : Store := S ++ [⟨0, some (.arr 4 1 (d.map bR))⟩, ⟨2, some (.arr 3 1 (o.map nR))⟩]
theorem fgt2 {S : Store} (hn : Neat S) (a : List Bool) (b : List Nat) (T : Store) : Fgt (S ++ ⟨0, some (.arr 4 1 (a.map bR))⟩ :: ⟨2, some (.arr 3 1 (b.map nR))⟩ :: T) (S ++ [⟨0, some (.arr 4 1 (a.map bR))⟩, ⟨2, some (.arr 3 1 (b.map nR))⟩]) :=
  hn.fgtL (L := ⟨0, some (.arr 4 1 (a.map bR))⟩ :: ⟨2, some (.arr 3 1 (b.map nR))⟩ :: T) (L1 := [⟨0, some (.arr 4 1 (a.map bR))⟩, ⟨2, some (.arr 3 1 (b.map nR))⟩])
    ⟨rfl, ⟨_, rfl, .imm (imm_bR _)⟩, rfl, ⟨_, rfl, .imm (imm_nR _)⟩, by cases T <;> trivial⟩

theorem law_ranks (l : List Gst) (seats : Int) (S : Store) (hl : l.length ≤ 1048576) : CallA Tryd.prog 5 [gSl l, .int .i64 seats] S fun r S' => r = .bool true ∧ S' = S := by
  refine CallA.withNeat Tryd.func5 c5 fun hn => ?_
  refine CallA.fin Tryd.func5 c5 (Nat.le_of_ble_eq_true rfl) fun σ hσ => ?_
  have fin : ∀ T : Store, ∃ r1 S1, Fgt (S ++ T) S1 ∧ Frz (S ++ T) S1 (.bool true) r1 ∧ S.length ≤ S1.length ∧ r1 = .bool true ∧ S1 = S := fun T => ⟨_, S, hn.fgt _, .imm rfl, Nat.le_refl _, rfl, rfl⟩
  have fin0 : ∃ r1 S1, Fgt S S1 ∧ Frz S S1 (.bool true) r1 ∧ S.length ≤ S1.length ∧ r1 = .bool true ∧ S1 = S := ⟨_, S, hn.self, .imm rfl, Nat.le_refl _, rfl, rfl⟩
  by_cases g1 : 60 < l.length
  · have g1' : (60 : Int) < l.length := by omega
    simp (disch := first | omega | (simp only [List.length_cons, List.length_nil, List.length_map, List.length_drop]; omega)) only [a5, gSl, g1', List.length_map, decide_true, ↓evPre, ↓evPreW, evPost, evPostW, ← List.map_take, ← List.map_drop, ↓reduceIte, reduceCtorEq, Nat.reduceEqDiff, forall_const, implies_true, Nat.reduceAdd, Nat.reduceSub, Nat.reduceMul, Nat.reduceLT, Nat.reduceLeDiff, Int.reduceToNat, Int.reduceAdd, Int.reduceSub, Int.reduceNeg, Int.reduceMul, Int.reduceLT, Int.reduceLE, Int.reduceEq]
    refine (awake_A S).then ?_
    simp only [↓evPre, ↓evPreW, evPost, evPostW, ← List.map_take, ← List.map_drop, ↓reduceIte, reduceCtorEq, Nat.reduceEqDiff, forall_const, implies_true, Nat.reduceAdd, Nat.reduceSub, Nat.reduceMul, Nat.reduceLT, Nat.reduceLeDiff, Int.reduceToNat, Int.reduceAdd, Int.reduceSub, Int.reduceNeg, Int.reduceMul, Int.reduceLT, Int.reduceLE, Int.reduceEq]
    exact fin0
  have g1' : ¬ (60 : Int) < l.length := by omega
  have hlen : (orderF l).length = l.length := by have := (orderF_spec l).1.length_eq; simpa using this
  have hns : min (max seats 0) (l.length : Int) = (nSeats l seats : Nat) := by rw [nSeats]; omega
  have hsort := (orderF_spec l).2
  have hnd : (orderF l).Nodup := (orderF_spec l).1.nodup_iff.2 List.nodup_range
  have hmem : ∀ {x : Nat}, x ∈ orderF l → x < l.length := fun {x} h => List.mem_range.1 ((orderF_spec l).1.mem_iff.1 h)
  have hacc := accept_A l seats S (by omega)
  have hle : nSeats l seats ≤ (orderF l).length := by omega
  generalize nSeats l seats = n at hns hle hacc
  simp (disch := first | omega | (simp only [List.length_cons, List.length_nil, List.length_map, List.length_drop]; omega)) only [a5, gSl, g1', List.length_map, decide_false, ↓evPre, ↓evPreW, evPost, evPostW, ← List.map_take, ← List.map_drop, ↓reduceIte, reduceCtorEq, Nat.reduceEqDiff, forall_const, implies_true, Nat.reduceAdd, Nat.reduceSub, Nat.reduceMul, Nat.reduceLT, Nat.reduceLeDiff, Int.reduceToNat, Int.reduceAdd, Int.reduceSub, Int.reduceNeg, Int.reduceMul, Int.reduceLT, Int.reduceLE, Int.reduceEq]
  refine CallA.then hacc ?_
  have la : ((orderF l).take n).length = n := by rw [List.length_take]; omega
  have lb : ((orderF l).drop n).length = l.length - n := by rw [List.length_drop]; omega
  have hadd : ((n : Int) + ((l.length - n : Nat) : Int)) = l.length := by omega
  have hzr : ∀ n, zrows [V.bool false] n = (List.replicate n false).map bR := fun n => by simp [zrows, bR]
  have hab : List.map nR ((orderF l).take n) ++ List.map nR ((orderF l).drop n) = (orderF l).map nR := by rw [← List.map_append, List.take_append_drop]
  have hnl : n + (l.length - n) = l.length := by omega
  obtain ⟨O, hO⟩ : ∃ O, orderF l = O := ⟨_, rfl⟩
  obtain ⟨A, hA⟩ : ∃ A, O.take n = A := ⟨_, rfl⟩
  obtain ⟨B, hB⟩ : ∃ B, O.drop n = B := ⟨_, rfl⟩
  rw [hO, hA] at la
  rw [hO, hB] at lb
  rw [hO, hA, hB] at hab
  rw [hO] at hlen hsort hnd hle hmem
  rw [hO, hA, hB]
  simp (disch := first | omega | (simp only [List.length_cons, List.length_nil, List.length_map, List.length_drop]; omega)) only [oSl, gSl, la, lb, hadd, hns, hzr, eq_self, wrap_i64, List.length_map, Int.toNat_natCast, decide_true, decide_false, Bool.not_true, List.append_assoc, List.cons_append, List.nil_append, evSt, ↓evPre, ↓evPreW, evPost, evPostW, ← List.map_take, ← List.map_drop, ↓reduceIte, reduceCtorEq, Nat.reduceEqDiff, forall_const, implies_true, Nat.reduceAdd, Nat.reduceSub, Nat.reduceMul, Nat.reduceLT, Nat.reduceLeDiff, Int.reduceToNat, Int.reduceAdd, Int.reduceSub, Int.reduceNeg, Int.reduceMul, Int.reduceLT, Int.reduceLE, Int.reduceEq]
  refine ⟨Int.le_refl _, by unfold roomA; omega, by unfold roomA; omega, by unfold roomA; omega, ?_⟩
  simp only [hab, hnl]
  refine loopA (ι := Nat) (fun i => [(0, gSl l), (5, oSl A), (6, oSl B), (7, .msl S.length 0 0 l.length), (8, .msl (S.length + 1) 2 0 l.length), (9, .int .i64 i)]) (fun i => rkS S (doneL l.length (O.take i)) O) (fun i => i ≤ l.length) (fun i => l.length - i) 0 (Nat.zero_le _) ?_ ?_ ?_
  · simp only [gSl, oSl, ↓evPre, ↓evPreW, evPost, evPostW, ← List.map_take, ← List.map_drop, ↓reduceIte, reduceCtorEq, Nat.reduceEqDiff, forall_const, implies_true, Nat.reduceAdd, Nat.reduceSub, Nat.reduceMul, Nat.reduceLT, Nat.reduceLeDiff, Int.reduceToNat, Int.reduceAdd, Int.reduceSub, Int.reduceNeg, Int.reduceMul, Int.reduceLT, Int.reduceLE, Int.reduceEq]
  · rw [List.take_zero, done0]; rfl
  · intro i hi
    by_cases hil : i < l.length
    · have hlt : (i : Int) < l.length := by omega
      have hoi : O[i]? = some O[i] := List.getElem?_eq_getElem (by omega)
      have hom := hmem (List.mem_of_getElem? hoi)
      have htk : O.take (i + 1) = O.take i ++ [O[i]] := by rw [List.take_add_one, hoi]; rfl
      have hon : O[i] ∉ O.take i := fun hm => by
        have h1 : (O.take (i + 1)).Nodup := (List.take_sublist (i + 1) _).nodup hnd
        rw [htk, List.nodup_append] at h1
        exact h1.2.2 _ hm _ (List.mem_singleton.2 rfl) rfl
      have hd := doneL_get (n := l.length) (p := O.take i) hom
      rw [decide_eq_false hon] at hd
      have hset := doneL_set (n := l.length) (p := O.take i) (c := O[i])
      rw [← htk] at hset
      generalize O[i] = o at hoi hom hd hset
      have h0 : ¬ (o : Int) < 0 := by omega
      have h1 : ¬ (l.length : Int) ≤ o := by omega
      simp (disch := first | omega | (simp only [List.length_cons, List.length_nil, List.length_map, List.length_drop]; omega)) only [rkS, gSl, oSl, nR, bR, hlt, hoi, hd, hset, h0, h1, set_bR, wrap_i64, List.length_map, Int.toNat_natCast, decide_true, decide_false, Nat.zero_add, List.getElem?_map, Option.map_some, evSt, ↓evPre, ↓evPreW, evPost, evPostW, ← List.map_take, ← List.map_drop, ↓reduceIte, reduceCtorEq, Nat.reduceEqDiff, forall_const, implies_true, Nat.reduceAdd, Nat.reduceSub, Nat.reduceMul, Nat.reduceLT, Nat.reduceLeDiff, Int.reduceToNat, Int.reduceAdd, Int.reduceSub, Int.reduceNeg, Int.reduceMul, Int.reduceLT, Int.reduceLE, Int.reduceEq]
      exact ⟨i + 1, by omega, by omega, by omega, rfl⟩
    · have hlt : ¬ (i : Int) < l.length := by omega
      have e : i = l.length := by omega
      subst e
      rw [List.take_of_length_le (show O.length ≤ l.length by omega)]
      simp (disch := first | omega | (simp only [List.length_cons, List.length_nil, List.length_map, List.length_drop]; omega)) only [gSl, oSl, hlt, List.length_map, decide_false, evSt, ↓evPre, ↓evPreW, evPost, evPostW, ← List.map_take, ← List.map_drop, ↓reduceIte, reduceCtorEq, Nat.reduceEqDiff, forall_const, implies_true, Nat.reduceAdd, Nat.reduceSub, Nat.reduceMul, Nat.reduceLT, Nat.reduceLeDiff, Int.reduceToNat, Int.reduceAdd, Int.reduceSub, Int.reduceNeg, Int.reduceMul, Int.reduceLT, Int.reduceLE, Int.reduceEq]
      refine loopA (ι := Nat) (fun i => [(0, gSl l), (5, oSl A), (6, oSl B), (10, .int .i64 i)]) (fun _ => rkS S (doneL l.length O) O) (fun i => i ≤ n) (fun i => n - i) 0 (Nat.zero_le _) ?_ rfl ?_
      · simp only [gSl, oSl, ↓evPre, ↓evPreW, evPost, evPostW, ← List.map_take, ← List.map_drop, ↓reduceIte, reduceCtorEq, Nat.reduceEqDiff, forall_const, implies_true, Nat.reduceAdd, Nat.reduceSub, Nat.reduceMul, Nat.reduceLT, Nat.reduceLeDiff, Int.reduceToNat, Int.reduceAdd, Int.reduceSub, Int.reduceNeg, Int.reduceMul, Int.reduceLT, Int.reduceLE, Int.reduceEq]
      · intro i hi2
        by_cases hin : i < n
        · have hlt2 : (i : Int) < n := by omega
          have hai : A[i]? = some A[i] := List.getElem?_eq_getElem (by omega)
          have haO : O[i]? = A[i]? := by rw [← hA, List.getElem?_take, if_pos hin]
          have hal := hmem (List.mem_of_getElem? (haO.trans hai))
          rw [hai] at haO
          simp (disch := first | omega | (simp only [List.length_cons, List.length_nil, List.length_map, List.length_drop]; omega)) only [gSl, oSl, la, lb, hlt2, List.length_map, decide_true, evSt, ↓evPre, ↓evPreW, evPost, evPostW, ← List.map_take, ← List.map_drop, ↓reduceIte, reduceCtorEq, Nat.reduceEqDiff, forall_const, implies_true, Nat.reduceAdd, Nat.reduceSub, Nat.reduceMul, Nat.reduceLT, Nat.reduceLeDiff, Int.reduceToNat, Int.reduceAdd, Int.reduceSub, Int.reduceNeg, Int.reduceMul, Int.reduceLT, Int.reduceLE, Int.reduceEq]
          refine loopF (ι := Nat) (fun k => [(0, gSl l), (5, oSl A), (6, oSl B), (10, .int .i64 i), (11, .int .i64 k)]) (fun _ => rkS S (doneL l.length O) O) (fun k => k ≤ l.length - n) (fun k => l.length - n - k) (fun i hi => by rw [hσ]; simp [rkS]) 0 (Nat.zero_le _) (.inl ⟨?_, rfl⟩) ?_
          · simp only [gSl, oSl, ↓evPre, ↓evPreW, evPost, evPostW, ← List.map_take, ← List.map_drop, ↓reduceIte, reduceCtorEq, Nat.reduceEqDiff, forall_const, implies_true, Nat.reduceAdd, Nat.reduceSub, Nat.reduceMul, Nat.reduceLT, Nat.reduceLeDiff, Int.reduceToNat, Int.reduceAdd, Int.reduceSub, Int.reduceNeg, Int.reduceMul, Int.reduceLT, Int.reduceLE, Int.reduceEq]
          · intro k hk
            by_cases hkn : k < l.length - n
            · have hlt3 : (k : Int) < ((l.length - n : Nat) : Int) := by omega
              have hbi : B[k]? = some B[k] := List.getElem?_eq_getElem (by omega)
              have hbO : O[n + k]? = B[k]? := by rw [← hB, List.getElem?_drop]
              have hbl := hmem (List.mem_of_getElem? (hbO.trans hbi))
              rw [hbi] at hbO
              obtain ⟨o1, o2⟩ := List.getElem?_eq_some_iff.1 haO
              obtain ⟨o3, o4⟩ := List.getElem?_eq_some_iff.1 hbO
              have hs := List.pairwise_iff_getElem.1 hsort i (n + k) o1 o3 (by omega)
              rw [o2, o4] at hs
              generalize A[i] = a at hai hal hs haO
              generalize B[k] = b at hbi hbl hs hbO
              have hca : l[a]? = some (gk l a) := by have := List.getElem?_eq_getElem hal; rw [gk_get this]; exact this
              have hcb : l[b]? = some (gk l b) := by have := List.getElem?_eq_getElem hbl; rw [gk_get this]; exact this
              simp only [ltG, decide_eq_false_iff_not] at hs
              generalize gk l a = x at hca hs
              generalize gk l b = y at hcb hs
              have q1 : ¬ x.rank < y.rank := by omega
              by_cases q2 : y.rank = x.rank
              · have q3 : ¬ y.since < x.since := by omega
                have q1' : ¬ x.rank < x.rank := by omega
                simp (disch := first | omega | (simp only [List.length_cons, List.length_nil, List.length_map, List.length_drop]; omega)) only [rkS, gSl, oSl, gstR, nR, la, lb, hlt2, hlt3, hai, hbi, hca, hcb, q1, q1', q2, q3, swap2_cons, Nat.add_assoc, wrap_i64, List.length_map, Int.toNat_natCast, decide_true, decide_false, Nat.zero_add, List.getElem?_map, Option.map_some, List.append_assoc, List.cons_append, List.nil_append, List.take_succ_cons, List.take_zero, evSt, ↓evPre, ↓evPreW, evPost, evPostW, ← List.map_take, ← List.map_drop, ↓reduceIte, reduceCtorEq, Nat.reduceEqDiff, forall_const, implies_true, Nat.reduceAdd, Nat.reduceSub, Nat.reduceMul, Nat.reduceLT, Nat.reduceLeDiff, Int.reduceToNat, Int.reduceAdd, Int.reduceSub, Int.reduceNeg, Int.reduceMul, Int.reduceLT, Int.reduceLE, Int.reduceEq]
                exact ⟨⟨k + 1, by omega, by omega, back_under (fgt2 hn _ _ _) ⟨rfl, rfl, rfl, rfl, rfl, trivial⟩ (by simp [V.under, gSl, oSl])⟩, ⟨k + 1, by omega, by omega, back_under (fgt2 hn _ _ _) ⟨rfl, rfl, rfl, rfl, rfl, trivial⟩ (by simp [V.under, gSl, oSl])⟩⟩
              · simp (disch := first | omega | (simp only [List.length_cons, List.length_nil, List.length_map, List.length_drop]; omega)) only [rkS, gSl, oSl, gstR, nR, la, lb, hlt2, hlt3, hai, hbi, hca, hcb, q1, q2, swap2_cons, Nat.add_assoc, wrap_i64, List.length_map, Int.toNat_natCast, decide_true, decide_false, Nat.zero_add, List.getElem?_map, Option.map_some, List.append_assoc, List.cons_append, List.nil_append, List.take_succ_cons, List.take_zero, evSt, ↓evPre, ↓evPreW, evPost, evPostW, ← List.map_take, ← List.map_drop, ↓reduceIte, reduceCtorEq, Nat.reduceEqDiff, forall_const, implies_true, Nat.reduceAdd, Nat.reduceSub, Nat.reduceMul, Nat.reduceLT, Nat.reduceLeDiff, Int.reduceToNat, Int.reduceAdd, Int.reduceSub, Int.reduceNeg, Int.reduceMul, Int.reduceLT, Int.reduceLE, Int.reduceEq]
                exact ⟨⟨k + 1, by omega, by omega, back_under (fgt2 hn _ _ _) ⟨rfl, rfl, rfl, rfl, rfl, trivial⟩ (by simp [V.under, gSl, oSl])⟩, ⟨k + 1, by omega, by omega, back_under (fgt2 hn _ _ _) ⟨rfl, rfl, rfl, rfl, rfl, trivial⟩ (by simp [V.under, gSl, oSl])⟩⟩
            · have hlt3 : ¬ (k : Int) < ((l.length - n : Nat) : Int) := by omega
              simp (disch := first | omega | (simp only [List.length_cons, List.length_nil, List.length_map, List.length_drop]; omega)) only [gSl, oSl, la, lb, hlt3, wrap_i64, List.length_map, decide_false, evSt, ↓evPre, ↓evPreW, evPost, evPostW, ← List.map_take, ← List.map_drop, ↓reduceIte, reduceCtorEq, Nat.reduceEqDiff, forall_const, implies_true, Nat.reduceAdd, Nat.reduceSub, Nat.reduceMul, Nat.reduceLT, Nat.reduceLeDiff, Int.reduceToNat, Int.reduceAdd, Int.reduceSub, Int.reduceNeg, Int.reduceMul, Int.reduceLT, Int.reduceLE, Int.reduceEq]
              exact ⟨i + 1, by omega, by omega, by omega⟩
        · have hlt2 : ¬ (i : Int) < n := by omega
          simp (disch := first | omega | (simp only [List.length_cons, List.length_nil, List.length_map, List.length_drop]; omega)) only [gSl, oSl, la, hlt2, List.length_map, decide_false, evSt, ↓evPre, ↓evPreW, evPost, evPostW, ← List.map_take, ← List.map_drop, ↓reduceIte, reduceCtorEq, Nat.reduceEqDiff, forall_const, implies_true, Nat.reduceAdd, Nat.reduceSub, Nat.reduceMul, Nat.reduceLT, Nat.reduceLeDiff, Int.reduceToNat, Int.reduceAdd, Int.reduceSub, Int.reduceNeg, Int.reduceMul, Int.reduceLT, Int.reduceLE, Int.reduceEq]
          refine (awake_A _).then ?_
          simp only [↓evPre, ↓evPreW, evPost, evPostW, ← List.map_take, ← List.map_drop, ↓reduceIte, reduceCtorEq, Nat.reduceEqDiff, forall_const, implies_true, Nat.reduceAdd, Nat.reduceSub, Nat.reduceMul, Nat.reduceLT, Nat.reduceLeDiff, Int.reduceToNat, Int.reduceAdd, Int.reduceSub, Int.reduceNeg, Int.reduceMul, Int.reduceLT, Int.reduceLE, Int.reduceEq]
          exact fin _
end Go.Proofs.YteeenlgoildmiabDoor
