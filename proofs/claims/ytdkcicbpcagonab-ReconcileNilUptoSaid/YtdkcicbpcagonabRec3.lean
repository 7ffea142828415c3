/- The differences of two lists. -/
import Derived.Test.YtdkcicbpcagonabRecO
namespace Go.Proofs.Ytdkcicbpcagonab
open Go Go.AL
set_option linter.unusedSimpArgs false
set_option linter.unusedVariables false

/-- Does the other list tell otherwise? -/
def diffs (b : List St) (x : St) : Bool := match (firsts b).find? (sameS x) with
  | some y => decide (y ≠ x)
  | none => false

theorem it_key (l : List St) : KeysK (fun p : Int × Int => V.agg [.int .i64 p.1, .int .i64 p.2]) (l.map ent) := mpS_keys l

theorem firsts_len (l : List St) : (firsts l).length ≤ l.length := by
  have key : ∀ (l acc : List St), (l.foldl addF acc).length ≤ acc.length + l.length := by
    intro l
    induction l with
    | nil => intro acc; simp
    | cons x l ih =>
      intro acc
      have h1 := ih (addF acc x)
      have h2 : (addF acc x).length ≤ acc.length + 1 := by unfold addF; split <;> simp
      simp only [List.foldl_cons, List.length_cons]
      omega
  simpa [firsts] using key l []

theorem find_same {l : List St} {x y : St} (h : l.find? (sameS x) = some y) : sameS x y = true := List.find?_some h
theorem firsts_apart (l : List St) : Apart (firsts l) := by
  have key : ∀ (l acc : List St), Apart acc → Apart (l.foldl addF acc) := by
    intro l
    induction l with
    | nil => exact fun acc h => h
    | cons x l ih =>
      intro acc h
      refine ih _ ?_
      unfold addF
      split
      · exact h
      · rename_i hs
        unfold Apart
        rw [List.pairwise_append]
        refine ⟨h, List.pairwise_singleton .., fun a ha b hb => ?_⟩
        simp only [List.mem_singleton] at hb
        subst hb
        cases hab : sameS a b
        · rfl
        · exfalso
          apply hs
          rw [List.find?_isSome]
          exact ⟨a, ha, by rw [same_sym]; exact hab⟩
  exact key l [] .nil
theorem Apart.filter {l : List St} (h : Apart l) (p : St → Bool) : Apart (l.filter p) := h.sublist List.filter_sublist

/-- The store at the loop's head. -/
def dfStore (S : Store) (a b rest out : List St) (v : Nat) : Store :=
  S ++ [mpS (firsts b), ⟨0, some (.mp ⟨.st [.int .i64, .int .i64], (firsts a).map ent, .held (S.length + 2)⟩)⟩, ⟨0, some (.mp ⟨.st [.int .i64, .int .i64], rest.map ent, .iter (some (S.length + 1, 0)) none⟩)⟩, ⟨v, some (.arr 27 4 (out.map stR))⟩]
def dfEnv (S : Store) (out : List St) (v : Nat) : Env := [(5, .mapv S.length 0), (15, .mapv (S.length + 2) 0), (6, .msl (S.length + 3) v 0 out.length)]

theorem df_back {S : Store} (hn : Neat S) {a b rest out : List St} {v : Nat} {c : Option (V × V)} {E : Env} {T : Store} {R : List (List V)} (hE : sub (dfEnv S out v) E) (hR : R = out.map stR) :
    Back (dfEnv S out v) (dfStore S a b rest out v) E (S ++ mpS (firsts b) :: ⟨0, some (.mp ⟨.st [.int .i64, .int .i64], (firsts a).map ent, .held (S.length + 2)⟩)⟩ :: ⟨0, some (.mp ⟨.st [.int .i64, .int .i64], rest.map ent, .iter (some (S.length + 1, 0)) c⟩)⟩ :: ⟨v, some (.arr 27 4 R)⟩ :: T) := by
  subst hR
  exact back_under (hn.fgtL (L1 := [mpS (firsts b), ⟨0, some (.mp ⟨.st [.int .i64, .int .i64], (firsts a).map ent, .held (S.length + 2)⟩)⟩, ⟨0, some (.mp ⟨.st [.int .i64, .int .i64], rest.map ent, .iter (some (S.length + 1, 0)) none⟩)⟩, ⟨v, some (.arr 27 4 (out.map stR))⟩])
    (L := mpS (firsts b) :: ⟨0, some (.mp ⟨.st [.int .i64, .int .i64], (firsts a).map ent, .held (S.length + 2)⟩)⟩ :: ⟨0, some (.mp ⟨.st [.int .i64, .int .i64], rest.map ent, .iter (some (S.length + 1, 0)) c⟩)⟩ :: ⟨v, some (.arr 27 4 (out.map stR))⟩ :: T) ⟨rfl, objF_mpS rfl, rfl, objF_mpS rfl, rfl, objF_it rfl (mpS_keys _) (fun a => rfl), rfl, ⟨_, rfl, .imm (stR_imm _)⟩, fgtL_nil⟩) hE (by simp [dfEnv, dfStore, V.under])

theorem differ_A (a b : List St) (S : Store) (ha : a.length ≤ 1000) (hb : b.length ≤ 1000) :
    CallA Try.prog 10 [stSl a, stSl b] S fun r S' => (∃ d, Asc d ∧ d.Perm ((firsts a).filter (diffs b)) ∧ r = stSl d) ∧ S' = S := by
  refine CallA.withNeat Try.func10 c28 fun hn => ?_
  refine CallA.fin Try.func10 c28 (Nat.le_of_ble_eq_true rfl) fun σ hσ => ?_
  simp (disch := first | omega | (simp only [List.length_cons, List.length_nil, List.length_map, List.length_drop]; omega)) only [a28, evSt, ↓evPre, ↓evPreW, evPost, evPostW, ← List.map_take, ← List.map_drop, ↓reduceIte, reduceCtorEq, Nat.reduceEqDiff, forall_const, implies_true, Nat.reduceAdd, Nat.reduceSub, Nat.reduceMul, Nat.reduceLT, Nat.reduceLeDiff, Int.reduceToNat, Int.reduceAdd, Int.reduceSub, Int.reduceNeg, Int.reduceMul, Int.reduceLT, Int.reduceLE, Int.reduceEq]
  refine (of_A b S (by omega)).then2 ?_
  simp (disch := first | omega | (simp only [List.length_cons, List.length_nil, List.length_map, List.length_drop]; omega)) only [evSt, ↓evPre, ↓evPreW, evPost, evPostW, ← List.map_take, ← List.map_drop, ↓reduceIte, reduceCtorEq, Nat.reduceEqDiff, forall_const, implies_true, Nat.reduceAdd, Nat.reduceSub, Nat.reduceMul, Nat.reduceLT, Nat.reduceLeDiff, Int.reduceToNat, Int.reduceAdd, Int.reduceSub, Int.reduceNeg, Int.reduceMul, Int.reduceLT, Int.reduceLE, Int.reduceEq]
  refine (of_A a _ (by omega)).then2 ?_
  simp (disch := first | omega | (simp only [List.length_cons, List.length_nil, List.length_map, List.length_drop]; omega)) only [mpS, evSt, ↓evPre, ↓evPreW, evPost, evPostW, ← List.map_take, ← List.map_drop, ↓reduceIte, reduceCtorEq, Nat.reduceEqDiff, forall_const, implies_true, Nat.reduceAdd, Nat.reduceSub, Nat.reduceMul, Nat.reduceLT, Nat.reduceLeDiff, Int.reduceToNat, Int.reduceAdd, Int.reduceSub, Int.reduceNeg, Int.reduceMul, Int.reduceLT, Int.reduceLE, Int.reduceEq]
  refine LoopA.ghost 6 0 27 4 (by simp only [↓evPre, ↓evPreW, evPost, evPostW, ← List.map_take, ← List.map_drop, ↓reduceIte, reduceCtorEq, Nat.reduceEqDiff, forall_const, implies_true, Nat.reduceAdd, Nat.reduceSub, Nat.reduceMul, Nat.reduceLT, Nat.reduceLeDiff, Int.reduceToNat, Int.reduceAdd, Int.reduceSub, Int.reduceNeg, Int.reduceMul, Int.reduceLT, Int.reduceLE, Int.reduceEq]) ?_
  refine loopF (ι := List St × List St × Nat) (fun p => dfEnv S (p.2.1.filter (diffs b)) p.2.2) (fun p => dfStore S a b p.1 (p.2.1.filter (diffs b)) p.2.2) (fun p => (p.2.1 ++ p.1).Perm (firsts a)) (fun p => p.1.length) (fun p _ => by rw [hσ]; simp [dfStore])
    (firsts a, [], 0) (.refl _) (.inl ⟨?_, ?_⟩) ?_
  · simp (disch := first | omega | (simp only [List.length_cons, List.length_nil, List.length_map, List.length_drop]; omega)) only [dfEnv, List.filter_nil, evSt, ↓evPre, ↓evPreW, evPost, evPostW, ← List.map_take, ← List.map_drop, ↓reduceIte, reduceCtorEq, Nat.reduceEqDiff, forall_const, implies_true, Nat.reduceAdd, Nat.reduceSub, Nat.reduceMul, Nat.reduceLT, Nat.reduceLeDiff, Int.reduceToNat, Int.reduceAdd, Int.reduceSub, Int.reduceNeg, Int.reduceMul, Int.reduceLT, Int.reduceLE, Int.reduceEq]
  · simp (disch := first | omega | (simp only [List.length_cons, List.length_nil, List.length_map, List.length_drop]; omega)) only [dfStore, mpS, List.filter_nil, evSt, ↓evPre, ↓evPreW, evPost, evPostW, ← List.map_take, ← List.map_drop, ↓reduceIte, reduceCtorEq, Nat.reduceEqDiff, forall_const, implies_true, Nat.reduceAdd, Nat.reduceSub, Nat.reduceMul, Nat.reduceLT, Nat.reduceLeDiff, Int.reduceToNat, Int.reduceAdd, Int.reduceSub, Int.reduceNeg, Int.reduceMul, Int.reduceLT, Int.reduceLE, Int.reduceEq]
  rintro ⟨rest, done, v⟩ hp
  simp only at hp ⊢
  have hlen : (done.filter (diffs b)).length ≤ 1000 := by
    have h1 := List.length_filter_le (diffs b) done
    have h2 := hp.length_eq
    have h3 := firsts_len a
    simp only [List.length_append] at h2
    omega
  generalize ho : done.filter (diffs b) = out at hlen ⊢
  simp (disch := first | omega | (simp only [List.length_cons, List.length_nil, List.length_map, List.length_drop]; omega)) only [dfEnv, dfStore, mpS, evSt, ↓evPre, ↓evPreW, evPost, evPostW, ← List.map_take, ← List.map_drop, ↓reduceIte, reduceCtorEq, Nat.reduceEqDiff, forall_const, implies_true, Nat.reduceAdd, Nat.reduceSub, Nat.reduceMul, Nat.reduceLT, Nat.reduceLeDiff, Int.reduceToNat, Int.reduceAdd, Int.reduceSub, Int.reduceNeg, Int.reduceMul, Int.reduceLT, Int.reduceLE, Int.reduceEq]
  refine next_ents (fun h0 => ?_) (fun x rest' hx => ?_)
  · subst h0
    simp (disch := first | omega | (simp only [List.length_cons, List.length_nil, List.length_map, List.length_drop]; omega)) only [evSt, ↓evPre, ↓evPreW, evPost, evPostW, ← List.map_take, ← List.map_drop, ↓reduceIte, reduceCtorEq, Nat.reduceEqDiff, forall_const, implies_true, Nat.reduceAdd, Nat.reduceSub, Nat.reduceMul, Nat.reduceLT, Nat.reduceLeDiff, Int.reduceToNat, Int.reduceAdd, Int.reduceSub, Int.reduceNeg, Int.reduceMul, Int.reduceLT, Int.reduceLE, Int.reduceEq]
    refine (sorted_A out _ _ _ (by omega) (by simp (disch := first | omega | (simp only [List.length_cons, List.length_nil, List.length_map, List.length_drop]; omega)) only [evSt, ↓evPre, ↓evPreW, evPost, evPostW, ← List.map_take, ← List.map_drop, ↓reduceIte, reduceCtorEq, Nat.reduceEqDiff, forall_const, implies_true, Nat.reduceAdd, Nat.reduceSub, Nat.reduceMul, Nat.reduceLT, Nat.reduceLeDiff, Int.reduceToNat, Int.reduceAdd, Int.reduceSub, Int.reduceNeg, Int.reduceMul, Int.reduceLT, Int.reduceLE, Int.reduceEq])).mono ?_
    rintro r S' ⟨rfl, l', h1, h2, rfl⟩
    simp (disch := first | omega | (simp only [List.length_cons, List.length_nil, List.length_map, List.length_drop]; omega)) only [evSt, ↓evPre, ↓evPreW, evPost, evPostW, ← List.map_take, ← List.map_drop, ↓reduceIte, reduceCtorEq, Nat.reduceEqDiff, forall_const, implies_true, Nat.reduceAdd, Nat.reduceSub, Nat.reduceMul, Nat.reduceLT, Nat.reduceLeDiff, Int.reduceToNat, Int.reduceAdd, Int.reduceSub, Int.reduceNeg, Int.reduceMul, Int.reduceLT, Int.reduceLE, Int.reduceEq]
    have hl' := h1.length_eq
    have hperm : l'.Perm ((firsts a).filter (diffs b)) := by
      rw [List.append_nil] at hp
      rw [← ho] at h1
      exact h1.trans (hp.filter _)
    refine ⟨stSl l', S, hn.fgt _, ?_, Nat.le_refl _, ⟨l', ?_, hperm, rfl⟩, rfl⟩
    · rw [← hl']
      exact .sl (t := 27) (by omega) (by simp (disch := first | omega | (simp only [List.length_cons, List.length_nil, List.length_map, List.length_drop]; omega)) only [evSt, ↓evPre, ↓evPreW, evPost, evPostW, ← List.map_take, ← List.map_drop, ↓reduceIte, reduceCtorEq, Nat.reduceEqDiff, forall_const, implies_true, Nat.reduceAdd, Nat.reduceSub, Nat.reduceMul, Nat.reduceLT, Nat.reduceLeDiff, Int.reduceToNat, Int.reduceAdd, Int.reduceSub, Int.reduceNeg, Int.reduceMul, Int.reduceLT, Int.reduceLE, Int.reduceEq]) (by simp) (stR_imm _)
    · exact Srt.asc h2 (((firsts_apart a).filter _).perm hperm.symm)
  · have hf := find_ents x (firsts b)
    unfold keyV at hf
    have hx2 : ((done ++ [x]) ++ rest').Perm (firsts a) := by
      rw [List.append_assoc]
      exact (List.Perm.append_left done hx.symm).trans hp
    have hlt : rest'.length < rest.length := by have := hx.length_eq; simp at this; omega
    have hfl : ∀ {d : Bool}, diffs b x = d → (done ++ [x]).filter (diffs b) = out ++ if d then [x] else [] := by
      rintro d rfl
      rw [List.filter_append, ho]
      congr 1
      cases hd : diffs b x <;> simp [hd]
    cases hg : (firsts b).find? (sameS x) with
    | none =>
      rw [hg] at hf
      have hfl' := hfl (show diffs b x = false by rw [diffs, hg])
      simp (disch := first | omega | (simp only [List.length_cons, List.length_nil, List.length_map, List.length_drop]; omega)) only [ent, keyV, stV, stR, hf, Option.map_none, Option.getD_none, Option.isSome_none, evSt, ↓evPre, ↓evPreW, evPost, evPostW, ← List.map_take, ← List.map_drop, ↓reduceIte, reduceCtorEq, Nat.reduceEqDiff, forall_const, implies_true, Nat.reduceAdd, Nat.reduceSub, Nat.reduceMul, Nat.reduceLT, Nat.reduceLeDiff, Int.reduceToNat, Int.reduceAdd, Int.reduceSub, Int.reduceNeg, Int.reduceMul, Int.reduceLT, Int.reduceLE, Int.reduceEq]
      refine ⟨(rest', done ++ [x], v), hx2, hlt, ?_⟩
      simp only [hfl', Bool.false_eq_true, if_false, List.append_nil]
      exact df_back hn ⟨rfl, rfl, rfl, trivial⟩ rfl
    | some y =>
      rw [hg] at hf
      by_cases hxy : y = x
      · have hfl' := hfl (show diffs b x = false by rw [diffs, hg]; simp [hxy])
        simp (disch := first | omega | (simp only [List.length_cons, List.length_nil, List.length_map, List.length_drop]; omega)) only [ent, keyV, stV, stR, hf, eqd_st, dT hxy, Option.map_some, Option.getD_some, Option.isSome_some, evSt, ↓evPre, ↓evPreW, evPost, evPostW, ← List.map_take, ← List.map_drop, ↓reduceIte, reduceCtorEq, Nat.reduceEqDiff, forall_const, implies_true, Nat.reduceAdd, Nat.reduceSub, Nat.reduceMul, Nat.reduceLT, Nat.reduceLeDiff, Int.reduceToNat, Int.reduceAdd, Int.reduceSub, Int.reduceNeg, Int.reduceMul, Int.reduceLT, Int.reduceLE, Int.reduceEq]
        refine ⟨(rest', done ++ [x], v), hx2, hlt, ?_⟩
        simp only [hfl', Bool.false_eq_true, if_false, List.append_nil]
        exact df_back hn ⟨rfl, rfl, rfl, trivial⟩ rfl
      · have hfl' := hfl (show diffs b x = true by rw [diffs, hg]; simp [hxy])
        simp (disch := first | omega | (simp only [List.length_cons, List.length_nil, List.length_map, List.length_drop]; omega)) only [ent, keyV, stV, stR, hf, eqd_st, dF hxy, Option.map_some, Option.getD_some, Option.isSome_some, evSt, ↓evPre, ↓evPreW, evPost, evPostW, ← List.map_take, ← List.map_drop, ↓reduceIte, reduceCtorEq, Nat.reduceEqDiff, forall_const, implies_true, Nat.reduceAdd, Nat.reduceSub, Nat.reduceMul, Nat.reduceLT, Nat.reduceLeDiff, Int.reduceToNat, Int.reduceAdd, Int.reduceSub, Int.reduceNeg, Int.reduceMul, Int.reduceLT, Int.reduceLE, Int.reduceEq]
        refine ⟨by unfold roomA; omega, (rest', done ++ [x], v + 1), hx2, hlt, ?_⟩
        simp only [hfl', if_true]
        exact df_back hn ⟨rfl, rfl, by simp (disch := first | omega | (simp only [List.length_cons, List.length_nil, List.length_map, List.length_drop]; omega)) only [List.length_append, ↓evPre, ↓evPreW, evPost, evPostW, ← List.map_take, ← List.map_drop, ↓reduceIte, reduceCtorEq, Nat.reduceEqDiff, forall_const, implies_true, Nat.reduceAdd, Nat.reduceSub, Nat.reduceMul, Nat.reduceLT, Nat.reduceLeDiff, Int.reduceToNat, Int.reduceAdd, Int.reduceSub, Int.reduceNeg, Int.reduceMul, Int.reduceLT, Int.reduceLE, Int.reduceEq], trivial⟩ (by simp [stR])
end Go.Proofs.Ytdkcicbpcagonab
