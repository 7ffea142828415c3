/- The reference: what is reached. -/
import Derived.Test.YtbbjjnhcbfdhlaaMil5
namespace Go.Proofs.Ytbbjjnhcbfdhlaa
open Go Go.AL
set_option linter.unusedSimpArgs false
set_option linter.unusedVariables false

theorem usable_A (d : Dst) (S : Store) : CallA Try.prog 29 [.agg (dstR d)] S fun r S' => r = .bool (usableF d) ∧ S' = S := by
  refine CallA.keep Try.func29 c29 (Nat.le_of_ble_eq_true rfl) fun σ hσ => ?_
  by_cases h : 1 ≤ d.mi
  · have e : usableF d = decide (d.mi ≤ 20000) := by simp [usableF, h]
    rw [e]
    simp (disch := first | omega | (simp only [List.length_cons, List.length_nil, List.length_map, List.length_drop]; omega)) only [a29, dstR, h, decide_true, List.take_succ_cons, List.take_zero, evSt, ↓evPre, ↓evPreW, evPost, evPostW, ← List.map_take, ← List.map_drop, ↓reduceIte, reduceCtorEq, Nat.reduceEqDiff, forall_const, implies_true, Nat.reduceAdd, Nat.reduceSub, Nat.reduceMul, Nat.reduceLT, Nat.reduceLeDiff, Int.reduceToNat, Int.reduceAdd, Int.reduceSub, Int.reduceNeg, Int.reduceMul, Int.reduceLT, Int.reduceLE, Int.reduceEq]
  · have e : usableF d = false := by simp [usableF, h]
    rw [e]
    simp (disch := first | omega | (simp only [List.length_cons, List.length_nil, List.length_map, List.length_drop]; omega)) only [a29, dstR, h, decide_false, List.take_succ_cons, List.take_zero, evSt, ↓evPre, ↓evPreW, evPost, evPostW, ← List.map_take, ← List.map_drop, ↓reduceIte, reduceCtorEq, Nat.reduceEqDiff, forall_const, implies_true, Nat.reduceAdd, Nat.reduceSub, Nat.reduceMul, Nat.reduceLT, Nat.reduceLeDiff, Int.reduceToNat, Int.reduceAdd, Int.reduceSub, Int.reduceNeg, Int.reduceMul, Int.reduceLT, Int.reduceLE, Int.reduceEq]
theorem rusable_A (d : Dst) (S : Store) : CallA Try.prog 31 [.agg (dstR d)] S fun r S' => r = .bool (usableF d) ∧ S' = S := by
  refine CallA.keep Try.func31 c31 (Nat.le_of_ble_eq_true rfl) fun σ hσ => ?_
  by_cases h : 1 ≤ d.mi
  · have e : usableF d = decide (d.mi ≤ 20000) := by simp [usableF, h]
    rw [e]
    simp (disch := first | omega | (simp only [List.length_cons, List.length_nil, List.length_map, List.length_drop]; omega)) only [a31, dstR, h, decide_true, List.take_succ_cons, List.take_zero, evSt, ↓evPre, ↓evPreW, evPost, evPostW, ← List.map_take, ← List.map_drop, ↓reduceIte, reduceCtorEq, Nat.reduceEqDiff, forall_const, implies_true, Nat.reduceAdd, Nat.reduceSub, Nat.reduceMul, Nat.reduceLT, Nat.reduceLeDiff, Int.reduceToNat, Int.reduceAdd, Int.reduceSub, Int.reduceNeg, Int.reduceMul, Int.reduceLT, Int.reduceLE, Int.reduceEq]
  · have e : usableF d = false := by simp [usableF, h]
    rw [e]
    simp (disch := first | omega | (simp only [List.length_cons, List.length_nil, List.length_map, List.length_drop]; omega)) only [a31, dstR, h, decide_false, List.take_succ_cons, List.take_zero, evSt, ↓evPre, ↓evPreW, evPost, evPostW, ← List.map_take, ← List.map_drop, ↓reduceIte, reduceCtorEq, Nat.reduceEqDiff, forall_const, implies_true, Nat.reduceAdd, Nat.reduceSub, Nat.reduceMul, Nat.reduceLT, Nat.reduceLeDiff, Int.reduceToNat, Int.reduceAdd, Int.reduceSub, Int.reduceNeg, Int.reduceMul, Int.reduceLT, Int.reduceLE, Int.reduceEq]

def spR (p : Txt × Int) : List V := [.str p.1, .int .i64 p.2]
def lookI (l : Spots) (c : Txt) : Int := match look l c with
  | some v => v
  | none => -1
theorem look_at {l : Spots} {k : Nat} {c : Txt} {p : Txt × Int} (h : look l c = look (l.drop k) c) (hp : l[k]? = some p) : look l c = if p.1 = c then some p.2 else look (l.drop (k + 1)) c := by
  have e : l.drop k = p :: l.drop (k + 1) := by
    obtain ⟨hlt, rfl⟩ := List.getElem?_eq_some_iff.1 hp
    exact List.drop_eq_getElem_cons hlt
  rw [h, e, look]
theorem look_end {l : Spots} {k : Nat} {c : Txt} (h : look l c = look (l.drop k) c) (hp : l[k]? = none) : look l c = none := by
  rw [h, List.drop_eq_nil_of_le (List.getElem?_eq_none_iff.1 hp)]
  rfl

/-- The list is in memory, an object of its own. -/
theorem reached_A (l : Spots) (c : Txt) (S T : Store) (w : Nat) (hl : l.length ≤ 1000000) :
    CallA Try.prog 32 [.msl S.length w 0 l.length, .str c] (S ++ ⟨w, some (.arr 59 2 (l.map spR))⟩ :: T) fun r S' => r = .int .i64 (lookI l c) ∧ S' = S ++ ⟨w, some (.arr 59 2 (l.map spR))⟩ :: T := by
  refine CallA.keep Try.func32 c32 (Nat.le_of_ble_eq_true rfl) fun σ hσ => ?_
  simp (disch := first | omega | (simp only [List.length_cons, List.length_nil, List.length_map, List.length_drop]; omega)) only [a32, evSt, ↓evPre, ↓evPreW, evPost, evPostW, ← List.map_take, ← List.map_drop, ↓reduceIte, reduceCtorEq, Nat.reduceEqDiff, forall_const, implies_true, Nat.reduceAdd, Nat.reduceSub, Nat.reduceMul, Nat.reduceLT, Nat.reduceLeDiff, Int.reduceToNat, Int.reduceAdd, Int.reduceSub, Int.reduceNeg, Int.reduceMul, Int.reduceLT, Int.reduceLE, Int.reduceEq]
  refine loopA (ι := Nat) (fun k => [(0, .msl S.length w 0 l.length), (1, .str c), (5, .int .i64 k)]) (fun _ => S ++ ⟨w, some (.arr 59 2 (l.map spR))⟩ :: T) (fun k => k ≤ l.length ∧ look l c = look (l.drop k) c) (fun k => l.length - k) 0 ⟨Nat.zero_le _, rfl⟩ ?_ rfl ?_
  · simp only [↓evPre, ↓evPreW, evPost, evPostW, ← List.map_take, ← List.map_drop, ↓reduceIte, reduceCtorEq, Nat.reduceEqDiff, forall_const, implies_true, Nat.reduceAdd, Nat.reduceSub, Nat.reduceMul, Nat.reduceLT, Nat.reduceLeDiff, Int.reduceToNat, Int.reduceAdd, Int.reduceSub, Int.reduceNeg, Int.reduceMul, Int.reduceLT, Int.reduceLE, Int.reduceEq]
  · rintro k ⟨hk, hinv⟩
    cases hc : l[k]? with
    | none =>
      have hlt : ¬ ((k : Int) < l.length) := by rw [List.getElem?_eq_none_iff] at hc; omega
      have e : lookI l c = -1 := by rw [lookI, look_end hinv hc]
      simp (disch := first | omega | (simp only [List.length_cons, List.length_nil, List.length_map, List.length_drop]; omega)) only [hlt, e, decide_false, evSt, ↓evPre, ↓evPreW, evPost, evPostW, ← List.map_take, ← List.map_drop, ↓reduceIte, reduceCtorEq, Nat.reduceEqDiff, forall_const, implies_true, Nat.reduceAdd, Nat.reduceSub, Nat.reduceMul, Nat.reduceLT, Nat.reduceLeDiff, Int.reduceToNat, Int.reduceAdd, Int.reduceSub, Int.reduceNeg, Int.reduceMul, Int.reduceLT, Int.reduceLE, Int.reduceEq]
    | some p =>
      have hlt' := (List.getElem?_eq_some_iff.1 hc).1
      have hlt : (k : Int) < l.length := by omega
      have hs := look_at hinv hc
      by_cases h : p.1 = c
      · rw [if_pos h] at hs
        have e : lookI l c = p.2 := by rw [lookI, hs]
        have he : decide (p.1 = c) = true := by simp [h]
        simp (disch := first | omega | (simp only [List.length_cons, List.length_nil, List.length_map, List.length_drop]; omega)) only [spR, hlt, hc, he, e, decide_true, Nat.zero_add, List.getElem?_map, Option.map_some, List.take_succ_cons, List.take_zero, evSt, ↓evPre, ↓evPreW, evPost, evPostW, ← List.map_take, ← List.map_drop, ↓reduceIte, reduceCtorEq, Nat.reduceEqDiff, forall_const, implies_true, Nat.reduceAdd, Nat.reduceSub, Nat.reduceMul, Nat.reduceLT, Nat.reduceLeDiff, Int.reduceToNat, Int.reduceAdd, Int.reduceSub, Int.reduceNeg, Int.reduceMul, Int.reduceLT, Int.reduceLE, Int.reduceEq]
      · rw [if_neg h] at hs
        simp (disch := first | omega | (simp only [List.length_cons, List.length_nil, List.length_map, List.length_drop]; omega)) only [spR, hlt, hc, h, wrap_i64, decide_true, decide_false, Nat.zero_add, List.getElem?_map, Option.map_some, List.take_succ_cons, List.take_zero, evSt, ↓evPre, ↓evPreW, evPost, evPostW, ← List.map_take, ← List.map_drop, ↓reduceIte, reduceCtorEq, Nat.reduceEqDiff, forall_const, implies_true, Nat.reduceAdd, Nat.reduceSub, Nat.reduceMul, Nat.reduceLT, Nat.reduceLeDiff, Int.reduceToNat, Int.reduceAdd, Int.reduceSub, Int.reduceNeg, Int.reduceMul, Int.reduceLT, Int.reduceLE, Int.reduceEq]
        exact ⟨k + 1, ⟨by omega, hs⟩, by omega, rfl⟩

theorem put_at {l : Spots} {c : Txt} {m : Int} : ∀ {k : Nat} {p : Txt × Int}, l[k]? = some p → p.1 = c → (∀ j q, j < k → l[j]? = some q → ¬ q.1 = c) → putL l c m = l.set k (p.1, m) := by
  induction l with
  | nil => intro k p h; simp at h
  | cons x l ih =>
    intro k p hk hp hno
    cases k with
    | zero =>
      simp at hk
      subst hk
      simp [putL, hp]
    | succ k =>
      have h0 := hno 0 x (by omega) rfl
      rw [putL, if_neg h0, List.set_cons_succ]
      congr 1
      exact ih (by simpa using hk) hp fun j q hj hq => hno (j + 1) q (by omega) (by simpa using hq)
theorem put_end {l : Spots} {c : Txt} {m : Int} (h : look l c = none) : putL l c m = l ++ [(c, m)] := by
  induction l with
  | nil => rfl
  | cons x l ih =>
    rw [look] at h
    split at h
    · cases h
    · rename_i e
      rw [putL, if_neg e, ih h]; rfl

theorem reach_A (l : Spots) (c : Txt) (m : Int) (S T : Store) (w : Nat) (hl : l.length ≤ 1000000) :
    CallA Try.prog 33 [.msl S.length w 0 l.length, .str c, .int .i64 m] (S ++ ⟨w, some (.arr 59 2 (l.map spR))⟩ :: T) fun r S' => ∃ w', r = .tup [.msl S.length w' 0 (reachF l c m).1.length, .bool (reachF l c m).2] ∧ S' = S ++ ⟨w', some (.arr 59 2 ((reachF l c m).1.map spR))⟩ :: T := by
  refine CallA.keep Try.func33 c33 (Nat.le_of_ble_eq_true rfl) fun σ hσ => ?_
  simp (disch := first | omega | (simp only [List.length_cons, List.length_nil, List.length_map, List.length_drop]; omega)) only [a33, evSt, ↓evPre, ↓evPreW, evPost, evPostW, ← List.map_take, ← List.map_drop, ↓reduceIte, reduceCtorEq, Nat.reduceEqDiff, forall_const, implies_true, Nat.reduceAdd, Nat.reduceSub, Nat.reduceMul, Nat.reduceLT, Nat.reduceLeDiff, Int.reduceToNat, Int.reduceAdd, Int.reduceSub, Int.reduceNeg, Int.reduceMul, Int.reduceLT, Int.reduceLE, Int.reduceEq]
  refine loopA (ι := Nat) (fun k => [(0, .msl S.length w 0 l.length), (1, .str c), (2, .int .i64 m), (8, .int .i64 k)]) (fun _ => S ++ ⟨w, some (.arr 59 2 (l.map spR))⟩ :: T) (fun k => k ≤ l.length ∧ look l c = look (l.drop k) c ∧ ∀ j q, j < k → l[j]? = some q → ¬ q.1 = c) (fun k => l.length - k) 0 ⟨Nat.zero_le _, rfl, fun j q h => by omega⟩ ?_ rfl ?_
  · simp only [↓evPre, ↓evPreW, evPost, evPostW, ← List.map_take, ← List.map_drop, ↓reduceIte, reduceCtorEq, Nat.reduceEqDiff, forall_const, implies_true, Nat.reduceAdd, Nat.reduceSub, Nat.reduceMul, Nat.reduceLT, Nat.reduceLeDiff, Int.reduceToNat, Int.reduceAdd, Int.reduceSub, Int.reduceNeg, Int.reduceMul, Int.reduceLT, Int.reduceLE, Int.reduceEq]
  · rintro k ⟨hk, hinv, hno⟩
    cases hc : l[k]? with
    | none =>
      have hlt : ¬ ((k : Int) < l.length) := by rw [List.getElem?_eq_none_iff] at hc; omega
      have hlook := look_end hinv hc
      have e : reachF l c m = (l ++ [(c, m)], true) := by simp only [reachF, hlook, put_end hlook]
      simp (disch := first | omega | (simp only [List.length_cons, List.length_nil, List.length_map, List.length_drop]; omega)) only [hlt, e, decide_false, List.take_succ_cons, List.take_zero, evSt, ↓evPre, ↓evPreW, evPost, evPostW, ← List.map_take, ← List.map_drop, ↓reduceIte, reduceCtorEq, Nat.reduceEqDiff, forall_const, implies_true, Nat.reduceAdd, Nat.reduceSub, Nat.reduceMul, Nat.reduceLT, Nat.reduceLeDiff, Int.reduceToNat, Int.reduceAdd, Int.reduceSub, Int.reduceNeg, Int.reduceMul, Int.reduceLT, Int.reduceLE, Int.reduceEq]
      exact ⟨by unfold roomA; omega, w + 1, by simp, by simp [spR]⟩
    | some p =>
      have hlt' := (List.getElem?_eq_some_iff.1 hc).1
      have hlt : (k : Int) < l.length := by omega
      have hs := look_at hinv hc
      by_cases h : p.1 = c
      · rw [if_pos h] at hs
        have he : decide (p.1 = c) = true := by simp [h]
        by_cases hv : p.2 ≤ m
        · have e : reachF l c m = (l, false) := by simp only [reachF, hs, hv, if_true]
          simp (disch := first | omega | (simp only [List.length_cons, List.length_nil, List.length_map, List.length_drop]; omega)) only [spR, hlt, hc, he, hv, e, decide_true, Nat.zero_add, List.getElem?_map, Option.map_some, List.take_succ_cons, List.take_zero, evSt, ↓evPre, ↓evPreW, evPost, evPostW, ← List.map_take, ← List.map_drop, ↓reduceIte, reduceCtorEq, Nat.reduceEqDiff, forall_const, implies_true, Nat.reduceAdd, Nat.reduceSub, Nat.reduceMul, Nat.reduceLT, Nat.reduceLeDiff, Int.reduceToNat, Int.reduceAdd, Int.reduceSub, Int.reduceNeg, Int.reduceMul, Int.reduceLT, Int.reduceLE, Int.reduceEq]
          exact ⟨w, rfl, rfl⟩
        · have e : reachF l c m = (l.set k (p.1, m), true) := by simp only [reachF, hs, hv, if_false, put_at hc h hno]
          simp (disch := first | omega | (simp only [List.length_cons, List.length_nil, List.length_map, List.length_drop]; omega)) only [spR, hlt, hc, he, hv, e, decide_true, decide_false, Nat.zero_add, List.getElem?_map, Option.map_some, List.take_succ_cons, List.take_zero, evSt, ↓evPre, ↓evPreW, evPost, evPostW, ← List.map_take, ← List.map_drop, ↓reduceIte, reduceCtorEq, Nat.reduceEqDiff, forall_const, implies_true, Nat.reduceAdd, Nat.reduceSub, Nat.reduceMul, Nat.reduceLT, Nat.reduceLeDiff, Int.reduceToNat, Int.reduceAdd, Int.reduceSub, Int.reduceNeg, Int.reduceMul, Int.reduceLT, Int.reduceLE, Int.reduceEq]
          exact ⟨w, by simp, by simp [List.map_set, spR]⟩
      · rw [if_neg h] at hs
        simp (disch := first | omega | (simp only [List.length_cons, List.length_nil, List.length_map, List.length_drop]; omega)) only [spR, hlt, hc, h, wrap_i64, decide_true, decide_false, Nat.zero_add, List.getElem?_map, Option.map_some, List.take_succ_cons, List.take_zero, evSt, ↓evPre, ↓evPreW, evPost, evPostW, ← List.map_take, ← List.map_drop, ↓reduceIte, reduceCtorEq, Nat.reduceEqDiff, forall_const, implies_true, Nat.reduceAdd, Nat.reduceSub, Nat.reduceMul, Nat.reduceLT, Nat.reduceLeDiff, Int.reduceToNat, Int.reduceAdd, Int.reduceSub, Int.reduceNeg, Int.reduceMul, Int.reduceLT, Int.reduceLE, Int.reduceEq]
        refine ⟨k + 1, ⟨by omega, hs, fun j q hj hq => ?_⟩, by omega, rfl⟩
        by_cases hjk : j < k
        · exact hno j q hjk hq
        · obtain rfl : j = k := by omega
          rw [hc] at hq
          cases hq
          exact h
end Go.Proofs.Ytbbjjnhcbfdhlaa
