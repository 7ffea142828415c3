/- The reference's merged states; short lists; the example; the law of lists. -/
import Derived.Test.YtdkcicbpcagonabRec8
namespace Go.Proofs.Ytdkcicbpcagonab
open Go Go.AL
set_option linter.unusedSimpArgs false
set_option linter.unusedVariables false

theorem LoopA.forget {P : Program} {N : Nat} {σ : Base} {b : ACode} {Q : Exit → Env → Store → Prop} {E E1 : Env} {S S1 : Store} (h : LoopA P N σ b Q E1 S1) (hf : Fgt S S1) (hs : subF S S1 E1 E) (hl : σ.S.length ≤ S1.length) : LoopA P N σ b Q E S :=
  fun c own hc ρ a w hx hr => h c own hc ρ a w (hx.forget hf hl) (hr.forget hf hs)

def pickR (a b : List St) (z : St) : St := match a.find? (sameS z), b.find? (sameS z) with
  | some p, some q => mrgR p q
  | _, _ => z
theorem pickR_same (a b : List St) (z : St) : sameS z (pickR a b z) = true := by
  unfold pickR
  split
  · rename_i p q hp hq
    have h1 := find_same hp
    have h2 := find_same hq
    have h3 : sameS p q = true := same_tr (by rw [same_sym]; exact h1) h2
    rw [← mrg_eq p q h3]
    exact same_tr h2 (mrg_same p q (by rw [same_sym]; exact h3))
  · exact same_self z
theorem map_asc {f : St → St} (hf : ∀ z, sameS z (f z) = true) : ∀ {l : List St}, Asc l → Asc (l.map f)
  | [], _ => .nil
  | x :: l, h => by
    unfold Asc at h ⊢
    rw [List.pairwise_cons] at h
    rw [List.map_cons, List.pairwise_cons]
    refine ⟨fun y hy => ?_, map_asc hf h.2⟩
    obtain ⟨z, hz, rfl⟩ := List.mem_map.1 hy
    have h1 := h.1 z hz
    have h2 := hf x
    have h3 := hf z
    simp only [sameS, ltS, decide_eq_true_eq] at *
    omega
theorem map_find {f : St → St} (hf : ∀ z, sameS z (f z) = true) (w : St) : ∀ (l : List St), (l.map f).find? (sameS w) = (l.find? (sameS w)).map f
  | [] => rfl
  | x :: l => by
    rw [List.map_cons, List.find?_cons, List.find?_cons, map_find hf w l]
    have : sameS w (f x) = sameS w x := by
      rw [same_sym w (f x), same_sym w x]
      exact (same_same w (hf x)).symm
    rw [this]
    cases sameS w x <;> rfl

theorem merged_spec (a b : List St) (w : St) : ((coup (coup a ++ coup b)).map (pickR a b)).find? (sameS w) = mF a b w := by
  rw [map_find (pickR_same a b), coup_find, List.find?_append, coup_find, coup_find]
  unfold mF
  cases ha : a.find? (sameS w) with
  | some p =>
    have h1 := find_same ha
    have e1 : a.find? (sameS p) = some p := by rw [← ha]; congr 1; funext z; exact (same_same z h1).symm
    have e2 : b.find? (sameS p) = b.find? (sameS w) := by congr 1; funext z; exact (same_same z h1).symm
    simp only [Option.some_or, Option.map_some, pickR, e1, e2]
    cases hb : b.find? (sameS w) with
    | none => rfl
    | some q =>
      have h2 := find_same hb
      simp only [joinF]
      rw [mrg_eq p q (same_tr (by rw [same_sym]; exact h1) h2)]
  | none =>
    simp only [Option.none_or]
    cases hb : b.find? (sameS w) with
    | none => rfl
    | some q =>
      have h2 := find_same hb
      have e1 : a.find? (sameS q) = none := by rw [← ha]; congr 1; funext z; exact (same_same z h2).symm
      simp only [Option.map_some, pickR, e1, joinF]

theorem mergeR_A (a b : List St) (S : Store) (ha : a.length ≤ 1000) (hb : b.length ≤ 1000) (va : vOk 4611686018427387904 a) : CallA Try.prog 31 [stSl a, stSl b] S fun r S' => (∃ d, Asc d ∧ (∀ w, d.find? (sameS w) = mF a b w) ∧ r = stSl d) ∧ S' = S := by
  refine CallA.withNeat Try.func31 c31 fun hn => ?_
  refine CallA.fin Try.func31 c31 (Nat.le_of_ble_eq_true rfl) fun σ hσ => ?_
  simp (disch := first | omega | (simp only [List.length_cons, List.length_nil, List.length_map, List.length_drop]; omega)) only [a31, evSt, ↓evPre, ↓evPreW, evPost, evPostW, ← List.map_take, ← List.map_drop, ↓reduceIte, reduceCtorEq, Nat.reduceEqDiff, forall_const, implies_true, Nat.reduceAdd, Nat.reduceSub, Nat.reduceMul, Nat.reduceLT, Nat.reduceLeDiff, Int.reduceToNat, Int.reduceAdd, Int.reduceSub, Int.reduceNeg, Int.reduceMul, Int.reduceLT, Int.reduceLE, Int.reduceEq]
  refine (coupons_A a S (by omega)).then ?_
  simp (disch := first | omega | (simp only [List.length_cons, List.length_nil, List.length_map, List.length_drop]; omega)) only [evSt, ↓evPre, ↓evPreW, evPost, evPostW, ← List.map_take, ← List.map_drop, ↓reduceIte, reduceCtorEq, Nat.reduceEqDiff, forall_const, implies_true, Nat.reduceAdd, Nat.reduceSub, Nat.reduceMul, Nat.reduceLT, Nat.reduceLeDiff, Int.reduceToNat, Int.reduceAdd, Int.reduceSub, Int.reduceNeg, Int.reduceMul, Int.reduceLT, Int.reduceLE, Int.reduceEq]
  refine (coupons_A b S (by omega)).then ?_
  have hspec := merged_spec a b
  have hca := coup_len a
  have hcb := coup_len b
  have hcc := coup_len (coup a ++ coup b)
  have hasc := coup_asc (coup a ++ coup b)
  have hfa := coup_find a
  have hfb := coup_find b
  simp only [List.length_append] at hcc
  simp (disch := first | omega | (simp only [List.length_cons, List.length_nil, List.length_map, List.length_drop]; omega)) only [stSl, List.length_map, evSt, ↓evPre, ↓evPreW, evPost, evPostW, ← List.map_take, ← List.map_drop, ↓reduceIte, reduceCtorEq, Nat.reduceEqDiff, forall_const, implies_true, Nat.reduceAdd, Nat.reduceSub, Nat.reduceMul, Nat.reduceLT, Nat.reduceLeDiff, Int.reduceToNat, Int.reduceAdd, Int.reduceSub, Int.reduceNeg, Int.reduceMul, Int.reduceLT, Int.reduceLE, Int.reduceEq]
  generalize coup a = ca at *
  generalize coup b = cb at *
  refine ⟨by unfold roomA; omega, by unfold roomA; omega, ?_⟩
  have hboth : List.map stR ca ++ List.map stR cb = (ca ++ cb).map stR := by simp
  rw [hboth]
  refine CallA.then2 (CallA.killedL (T := [⟨1, some (.arr 27 4 ((ca ++ cb).map stR))⟩]) hn (coupons_A (ca ++ cb) _ (by simp only [List.length_append]; omega)) ⟨.dead (t := 27) (dead_kill (Nat.le_refl _)) (by simp (disch := first | omega | (simp only [List.length_cons, List.length_nil, List.length_map, List.length_drop]; omega)) only [evSt, ↓evPre, ↓evPreW, evPost, evPostW, ← List.map_take, ← List.map_drop, ↓reduceIte, reduceCtorEq, Nat.reduceEqDiff, forall_const, implies_true, Nat.reduceAdd, Nat.reduceSub, Nat.reduceMul, Nat.reduceLT, Nat.reduceLeDiff, Int.reduceToNat, Int.reduceAdd, Int.reduceSub, Int.reduceNeg, Int.reduceMul, Int.reduceLT, Int.reduceLE, Int.reduceEq]) (by simp) (stR_imm _), trivial⟩) ?_
  generalize coup (ca ++ cb) = c at *
  simp (disch := first | omega | (simp only [List.length_cons, List.length_nil, List.length_map, List.length_drop]; omega)) only [kill, evSt, ↓evPre, ↓evPreW, evPost, evPostW, ← List.map_take, ← List.map_drop, ↓reduceIte, reduceCtorEq, Nat.reduceEqDiff, forall_const, implies_true, Nat.reduceAdd, Nat.reduceSub, Nat.reduceMul, Nat.reduceLT, Nat.reduceLeDiff, Int.reduceToNat, Int.reduceAdd, Int.reduceSub, Int.reduceNeg, Int.reduceMul, Int.reduceLT, Int.reduceLE, Int.reduceEq]
  refine LoopA.forget (E1 := [(5, stSl ca), (6, stSl cb), (8, stSl c), (9, .nilSl), (10, .int .i64 0)]) (S1 := S) ?_ (hn.fgt _) ?_ (by rw [hσ]; exact Nat.le_refl _)
  case refine_2 =>
    refine ⟨?_, ?_, ?_, ?_, ?_, trivial⟩ <;> (simp only [stSl, ↓evPre, ↓evPreW, evPost, evPostW, ← List.map_take, ← List.map_drop, ↓reduceIte, reduceCtorEq, Nat.reduceEqDiff, forall_const, implies_true, Nat.reduceAdd, Nat.reduceSub, Nat.reduceMul, Nat.reduceLT, Nat.reduceLeDiff, Int.reduceToNat, Int.reduceAdd, Int.reduceSub, Int.reduceNeg, Int.reduceMul, Int.reduceLT, Int.reduceLE, Int.reduceEq]; exact .imm rfl)
  refine LoopA.ghost 9 0 27 4 (by simp only [↓evPre, ↓evPreW, evPost, evPostW, ← List.map_take, ← List.map_drop, ↓reduceIte, reduceCtorEq, Nat.reduceEqDiff, forall_const, implies_true, Nat.reduceAdd, Nat.reduceSub, Nat.reduceMul, Nat.reduceLT, Nat.reduceLeDiff, Int.reduceToNat, Int.reduceAdd, Int.reduceSub, Int.reduceNeg, Int.reduceMul, Int.reduceLT, Int.reduceLE, Int.reduceEq]) ?_
  refine loopF (ι := Nat × Nat) (fun p => [(5, stSl ca), (6, stSl cb), (8, stSl c), (10, .int .i64 p.1), (9, .msl S.length p.2 0 (c.take p.1).length)]) (fun p => liStore S ((c.take p.1).map (pickR a b)) p.2) (fun p => p.1 ≤ c.length) (fun p => c.length - p.1) (fun p _ => by rw [hσ]; simp [liStore])
    (0, 0) (Nat.zero_le _) (.inl ⟨?_, ?_⟩) ?_
  · simp (disch := first | omega | (simp only [List.length_cons, List.length_nil, List.length_map, List.length_drop]; omega)) only [evSt, ↓evPre, ↓evPreW, evPost, evPostW, ← List.map_take, ← List.map_drop, ↓reduceIte, reduceCtorEq, Nat.reduceEqDiff, forall_const, implies_true, Nat.reduceAdd, Nat.reduceSub, Nat.reduceMul, Nat.reduceLT, Nat.reduceLeDiff, Int.reduceToNat, Int.reduceAdd, Int.reduceSub, Int.reduceNeg, Int.reduceMul, Int.reduceLT, Int.reduceLE, Int.reduceEq]
  · rfl
  rintro ⟨k, v⟩ hk
  simp only at hk ⊢
  have hol : ((c.take k).map (pickR a b)).length ≤ 2000 := by simp only [List.length_map, List.length_take]; omega
  cases hc : c[k]? with
  | none =>
    have hge : c.length ≤ k := List.getElem?_eq_none_iff.1 hc
    have hlt : ¬ ((k : Int) < c.length) := by omega
    rw [List.take_of_length_le hge] at hol ⊢
    simp (disch := first | omega | (simp only [List.length_cons, List.length_nil, List.length_map, List.length_drop]; omega)) only [stSl, liStore, List.length_map, hlt, decide_false, evSt, ↓evPre, ↓evPreW, evPost, evPostW, ← List.map_take, ← List.map_drop, ↓reduceIte, reduceCtorEq, Nat.reduceEqDiff, forall_const, implies_true, Nat.reduceAdd, Nat.reduceSub, Nat.reduceMul, Nat.reduceLT, Nat.reduceLeDiff, Int.reduceToNat, Int.reduceAdd, Int.reduceSub, Int.reduceNeg, Int.reduceMul, Int.reduceLT, Int.reduceLE, Int.reduceEq]
    exact li_fin hn (by simp) ⟨⟨_, map_asc (pickR_same a b) hasc, hspec, rfl⟩, rfl⟩
  | some z =>
    have hlt' := (List.getElem?_eq_some_iff.1 hc).1
    have hlt : (k : Int) < c.length := by omega
    have hnx : (c.take (k + 1)).map (pickR a b) = (c.take k).map (pickR a b) ++ [pickR a b z] := by
      rw [List.take_add_one, hc, Option.toList_some, List.map_append]
      rfl
    have hl1 : (c.take k).length = ((c.take k).map (pickR a b)).length := by simp
    have hl2 : (c.take (k + 1)).length = ((c.take k).map (pickR a b)).length + 1 := by simp only [List.length_take, List.length_map]; omega
    rw [hl1]
    generalize ho : (c.take k).map (pickR a b) = out at hol hnx hl2 ⊢
    have hadd : ∀ (p : St), p = pickR a b z → ∀ (E : Env) (T : Store), sub [(5, stSl ca), (6, stSl cb), (8, stSl c), (10, .int .i64 ((k + 1 : Nat) : Int)), (9, .msl S.length (v + 1) 0 (out.length + 1))] E → ∃ p' : Nat × Nat, p'.1 ≤ c.length ∧ c.length - p'.1 < c.length - k ∧
        Back [(5, stSl ca), (6, stSl cb), (8, stSl c), (10, .int .i64 (p'.1 : Nat)), (9, .msl S.length p'.2 0 (c.take p'.1).length)] (liStore S ((c.take p'.1).map (pickR a b)) p'.2) E (S ++ ⟨v + 1, some (.arr 27 4 (out.map stR ++ [[.int .i64 p.t, .int .i64 p.c, .int .i64 p.v, .int .i64 p.s]]))⟩ :: T) := by
      rintro p rfl E T hE
      refine ⟨(k + 1, v + 1), by simp only; omega, by simp only; omega, ?_⟩
      simp only [hnx, hl2]
      exact li_back hn hE (by simp [V.under, stSl]) (by simp [stR])
    simp (disch := first | omega | (simp only [List.length_cons, List.length_nil, List.length_map, List.length_drop]; omega)) only [stSl, liStore, stR, List.length_map, List.getElem?_map, Option.map_some, hc, hlt, decide_true, evSt, ↓evPre, ↓evPreW, evPost, evPostW, ← List.map_take, ← List.map_drop, ↓reduceIte, reduceCtorEq, Nat.reduceEqDiff, forall_const, implies_true, Nat.reduceAdd, Nat.reduceSub, Nat.reduceMul, Nat.reduceLT, Nat.reduceLeDiff, Int.reduceToNat, Int.reduceAdd, Int.reduceSub, Int.reduceNeg, Int.reduceMul, Int.reduceLT, Int.reduceLE, Int.reduceEq]
    refine (find_A ca z _ (by omega)).then ?_
    rw [hfa]
    cases hg : a.find? (sameS z) with
    | none =>
      have hpk : z = pickR a b z := by unfold pickR; rw [hg]
      simp (disch := first | omega | (simp only [List.length_cons, List.length_nil, List.length_map, List.length_drop]; omega)) only [stSl, stV, stR, wrap_i64, List.length_map, List.getElem?_map, Option.map_some, Option.getD_none, Option.isSome_none, hc, hlt, decide_true, evSt, ↓evPre, ↓evPreW, evPost, evPostW, ← List.map_take, ← List.map_drop, ↓reduceIte, reduceCtorEq, Nat.reduceEqDiff, forall_const, implies_true, Nat.reduceAdd, Nat.reduceSub, Nat.reduceMul, Nat.reduceLT, Nat.reduceLeDiff, Int.reduceToNat, Int.reduceAdd, Int.reduceSub, Int.reduceNeg, Int.reduceMul, Int.reduceLT, Int.reduceLE, Int.reduceEq]
      refine (find_A cb z _ (by omega)).then ?_
      simp (disch := first | omega | (simp only [List.length_cons, List.length_nil, List.length_map, List.length_drop]; omega)) only [stSl, stV, stR, wrap_i64, List.length_map, List.getElem?_map, Option.map_some, Option.getD_none, Option.isSome_none, hc, hlt, decide_true, evSt, ↓evPre, ↓evPreW, evPost, evPostW, ← List.map_take, ← List.map_drop, ↓reduceIte, reduceCtorEq, Nat.reduceEqDiff, forall_const, implies_true, Nat.reduceAdd, Nat.reduceSub, Nat.reduceMul, Nat.reduceLT, Nat.reduceLeDiff, Int.reduceToNat, Int.reduceAdd, Int.reduceSub, Int.reduceNeg, Int.reduceMul, Int.reduceLT, Int.reduceLE, Int.reduceEq]
      exact ⟨by unfold roomA; omega, hadd z hpk _ _ ⟨rfl, rfl, rfl, rfl, rfl, trivial⟩⟩
    | some p =>
      have hpv := va p (List.mem_of_find?_eq_some hg)
      simp (disch := first | omega | (simp only [List.length_cons, List.length_nil, List.length_map, List.length_drop]; omega)) only [stSl, stV, stR, wrap_i64, List.length_map, List.getElem?_map, Option.map_some, Option.getD_some, Option.isSome_some, hc, hlt, decide_true, evSt, ↓evPre, ↓evPreW, evPost, evPostW, ← List.map_take, ← List.map_drop, ↓reduceIte, reduceCtorEq, Nat.reduceEqDiff, forall_const, implies_true, Nat.reduceAdd, Nat.reduceSub, Nat.reduceMul, Nat.reduceLT, Nat.reduceLeDiff, Int.reduceToNat, Int.reduceAdd, Int.reduceSub, Int.reduceNeg, Int.reduceMul, Int.reduceLT, Int.reduceLE, Int.reduceEq]
      refine (find_A cb z _ (by omega)).then ?_
      rw [hfb]
      cases hq : b.find? (sameS z) with
      | none =>
        have hpk : z = pickR a b z := by unfold pickR; rw [hg, hq]
        simp (disch := first | omega | (simp only [List.length_cons, List.length_nil, List.length_map, List.length_drop]; omega)) only [stSl, stV, stR, wrap_i64, List.length_map, List.getElem?_map, Option.map_some, Option.getD_none, Option.isSome_none, hc, hlt, decide_true, evSt, ↓evPre, ↓evPreW, evPost, evPostW, ← List.map_take, ← List.map_drop, ↓reduceIte, reduceCtorEq, Nat.reduceEqDiff, forall_const, implies_true, Nat.reduceAdd, Nat.reduceSub, Nat.reduceMul, Nat.reduceLT, Nat.reduceLeDiff, Int.reduceToNat, Int.reduceAdd, Int.reduceSub, Int.reduceNeg, Int.reduceMul, Int.reduceLT, Int.reduceLE, Int.reduceEq]
        exact ⟨by unfold roomA; omega, hadd z hpk _ _ ⟨rfl, rfl, rfl, rfl, rfl, trivial⟩⟩
      | some q =>
        have hpk : mrgR p q = pickR a b z := by unfold pickR; rw [hg, hq]
        simp (disch := first | omega | (simp only [List.length_cons, List.length_nil, List.length_map, List.length_drop]; omega)) only [stSl, stV, stR, wrap_i64, List.length_map, List.getElem?_map, Option.map_some, Option.getD_some, Option.isSome_some, hc, hlt, decide_true, evSt, ↓evPre, ↓evPreW, evPost, evPostW, ← List.map_take, ← List.map_drop, ↓reduceIte, reduceCtorEq, Nat.reduceEqDiff, forall_const, implies_true, Nat.reduceAdd, Nat.reduceSub, Nat.reduceMul, Nat.reduceLT, Nat.reduceLeDiff, Int.reduceToNat, Int.reduceAdd, Int.reduceSub, Int.reduceNeg, Int.reduceMul, Int.reduceLT, Int.reduceLE, Int.reduceEq]
        refine (mergedR_A p q _ ⟨by omega, hpv.1⟩).then ?_
        simp (disch := first | omega | (simp only [List.length_cons, List.length_nil, List.length_map, List.length_drop]; omega)) only [stSl, stV, stR, wrap_i64, List.length_map, List.getElem?_map, Option.map_some, hc, hlt, decide_true, evSt, ↓evPre, ↓evPreW, evPost, evPostW, ← List.map_take, ← List.map_drop, ↓reduceIte, reduceCtorEq, Nat.reduceEqDiff, forall_const, implies_true, Nat.reduceAdd, Nat.reduceSub, Nat.reduceMul, Nat.reduceLT, Nat.reduceLeDiff, Int.reduceToNat, Int.reduceAdd, Int.reduceSub, Int.reduceNeg, Int.reduceMul, Int.reduceLT, Int.reduceLE, Int.reduceEq]
        exact ⟨by unfold roomA; omega, hadd _ hpk _ _ ⟨rfl, rfl, rfl, rfl, rfl, trivial⟩⟩
end Go.Proofs.Ytdkcicbpcagonab
