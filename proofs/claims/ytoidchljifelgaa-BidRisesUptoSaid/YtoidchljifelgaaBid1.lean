/- Contracts of the small functions of 'bid' and its reference. -/
import Derived.Test.YtoidchljifelgaaBidC
namespace Go.Proofs.Ytoidchljifelgaa
open Go Go.AL
set_option linter.unusedSimpArgs false

def iSl (l : List Int) : V := .sl 1 (l.map fun n => [.int .i64 n])

theorem drop_get {α : Type} {l : List α} {k : Nat} {x : α} (h : l[k]? = some x) : l.drop k = x :: l.drop (k + 1) := by
  obtain ⟨hlt, rfl⟩ := List.getElem?_eq_some_iff.1 h
  exact List.drop_eq_getElem_cons hlt

def priceF (l : List Int) (left : Int) : Int := if left < 1 then -1 else if (l.length : Int) < left then 0 else l.getD (left - 1).toNat 0

theorem price_get {l : List Int} {left : Int} (h1 : ¬ left < 1) (h2 : ¬ (l.length : Int) < left) : l[(left - 1).toNat]? = some (priceF l left) := by
  have hlt : (left - 1).toNat < l.length := by omega
  rw [priceF, if_neg h1, if_neg h2, List.getD_eq_getElem?_getD, List.getElem?_eq_getElem hlt]
  rfl

theorem price_A (l : List Int) (left : Int) (S : Store) (hl : l.length ≤ 1099511627776) : CallA Try.prog 13 [iSl l, .int .i64 left] S fun r S' => r = .int .i64 (priceF l left) ∧ S' = S := by
  refine CallA.keep Try.func13 c13 (Nat.le_of_ble_eq_true rfl) fun σ hσ => ?_
  simp only [a13, iSl, ↓evPre, ↓evPreV, evPost, evPostV, ← List.map_take, ← List.map_drop, ↓reduceIte, reduceCtorEq, Nat.reduceEqDiff, forall_const, implies_true, Nat.reduceAdd, Nat.reduceSub, Nat.reduceMul, Nat.reduceLT, Nat.reduceLeDiff, Int.reduceToNat, Int.reduceAdd, Int.reduceSub, Int.reduceNeg, Int.reduceMul, Int.reduceLT, Int.reduceLE, Int.reduceEq]
  refine ⟨fun h1 => by simp [priceF, h1], fun h1 => ⟨fun h2 => by simp [priceF, h2]; omega, fun h2 => ?_⟩⟩
  have hx := price_get (l := l) (left := left) (by omega) (by omega)
  simp (disch := omega) only [wrap_i64, idxA_int, hx, ↓evPre, ↓evPreV, evPost, evPostV, ← List.map_take, ← List.map_drop, ↓reduceIte, reduceCtorEq, Nat.reduceEqDiff, forall_const, implies_true, Nat.reduceAdd, Nat.reduceSub, Nat.reduceMul, Nat.reduceLT, Nat.reduceLeDiff, Int.reduceToNat, Int.reduceAdd, Int.reduceSub, Int.reduceNeg, Int.reduceMul, Int.reduceLT, Int.reduceLE, Int.reduceEq]

theorem refprice_A (l : List Int) (left : Int) (S : Store) (hl : l.length ≤ 1099511627776) : CallA Try.prog 14 [iSl l, .int .i64 left] S fun r S' => r = .int .i64 (priceF l left) ∧ S' = S := by
  refine CallA.keep Try.func14 c14 (Nat.le_of_ble_eq_true rfl) fun σ hσ => ?_
  simp only [a14, iSl, ↓evPre, ↓evPreV, evPost, evPostV, ← List.map_take, ← List.map_drop, ↓reduceIte, reduceCtorEq, Nat.reduceEqDiff, forall_const, implies_true, Nat.reduceAdd, Nat.reduceSub, Nat.reduceMul, Nat.reduceLT, Nat.reduceLeDiff, Int.reduceToNat, Int.reduceAdd, Int.reduceSub, Int.reduceNeg, Int.reduceMul, Int.reduceLT, Int.reduceLE, Int.reduceEq]
  refine ⟨fun h1 => by simp [priceF, h1], fun h1 => ⟨fun h2 => by simp [priceF, h2]; omega, fun h2 => ?_⟩⟩
  have hx := price_get (l := l) (left := left) (by omega) (by omega)
  simp (disch := omega) only [wrap_i64, idxA_int, hx, ↓evPre, ↓evPreV, evPost, evPostV, ← List.map_take, ← List.map_drop, ↓reduceIte, reduceCtorEq, Nat.reduceEqDiff, forall_const, implies_true, Nat.reduceAdd, Nat.reduceSub, Nat.reduceMul, Nat.reduceLT, Nat.reduceLeDiff, Int.reduceToNat, Int.reduceAdd, Int.reduceSub, Int.reduceNeg, Int.reduceMul, Int.reduceLT, Int.reduceLE, Int.reduceEq]

def rightGo : Int → List Int → Bool
  | _, [] => true
  | last, n :: r => !decide (n < 0) && !decide (last < n) && rightGo n r
def rightF (l : List Int) : Bool := decide (l.length ≤ 999) && rightGo 1099511627776 l

theorem right_A (l : List Int) (S : Store) (hl : l.length ≤ 1099511627776) : CallA Try.prog 12 [iSl l] S fun r S' => r = .bool (rightF l) ∧ S' = S := by
  refine CallA.keep Try.func12 c12 (Nat.le_of_ble_eq_true rfl) fun σ hσ => ?_
  simp only [a12, iSl, ↓evPre, ↓evPreV, evPost, evPostV, ← List.map_take, ← List.map_drop, ↓reduceIte, reduceCtorEq, Nat.reduceEqDiff, forall_const, implies_true, Nat.reduceAdd, Nat.reduceSub, Nat.reduceMul, Nat.reduceLT, Nat.reduceLeDiff, Int.reduceToNat, Int.reduceAdd, Int.reduceSub, Int.reduceNeg, Int.reduceMul, Int.reduceLT, Int.reduceLE, Int.reduceEq]
  refine ⟨fun h => ?_, fun h => ?_⟩
  · simp [rightF]; omega
  · refine loopA (ι := Nat × Int) (fun i => [(9, iSl l), (10, .int .i64 l.length), (11, .int .i64 i.1), (3, .int .i64 i.2)]) (fun _ => S) (fun i => i.1 ≤ l.length ∧ rightGo i.2 (l.drop i.1) = rightF l) (fun i => l.length - i.1) (0, 1099511627776) ⟨Nat.zero_le _, ?_⟩ ?_ rfl ?_
    · simp [rightF]; omega
    · simp only [iSl, ↓evPre, ↓evPreV, evPost, evPostV, ← List.map_take, ← List.map_drop, ↓reduceIte, reduceCtorEq, Nat.reduceEqDiff, forall_const, implies_true, Nat.reduceAdd, Nat.reduceSub, Nat.reduceMul, Nat.reduceLT, Nat.reduceLeDiff, Int.reduceToNat, Int.reduceAdd, Int.reduceSub, Int.reduceNeg, Int.reduceMul, Int.reduceLT, Int.reduceLE, Int.reduceEq]
    · rintro ⟨k, last⟩ ⟨hk, hinv⟩
      simp only at hk hinv
      cases hc : l[k]? with
      | none =>
        have hlt : ¬ ((k : Int) < l.length) := by rw [List.getElem?_eq_none_iff] at hc; omega
        rw [List.drop_eq_nil_of_le (by omega)] at hinv
        simp (disch := omega) only [iSl, wrap_i64, hc, hlt, ← hinv, rightGo, decide_false, ↓evPre, ↓evPreV, evPost, evPostV, ← List.map_take, ← List.map_drop, ↓reduceIte, reduceCtorEq, Nat.reduceEqDiff, forall_const, implies_true, Nat.reduceAdd, Nat.reduceSub, Nat.reduceMul, Nat.reduceLT, Nat.reduceLeDiff, Int.reduceToNat, Int.reduceAdd, Int.reduceSub, Int.reduceNeg, Int.reduceMul, Int.reduceLT, Int.reduceLE, Int.reduceEq]
      | some c =>
        have hlt : (k : Int) < l.length := by have := (List.getElem?_eq_some_iff.1 hc).1; omega
        rw [drop_get hc] at hinv
        simp (disch := omega) only [iSl, wrap_i64, hc, hlt, decide_true, ↓evPre, ↓evPreV, evPost, evPostV, ← List.map_take, ← List.map_drop, ↓reduceIte, reduceCtorEq, Nat.reduceEqDiff, forall_const, implies_true, Nat.reduceAdd, Nat.reduceSub, Nat.reduceMul, Nat.reduceLT, Nat.reduceLeDiff, Int.reduceToNat, Int.reduceAdd, Int.reduceSub, Int.reduceNeg, Int.reduceMul, Int.reduceLT, Int.reduceLE, Int.reduceEq]
        simp only [rightGo, Bool.and_eq_true] at hinv
        refine ⟨fun h0 => ⟨fun h1 => ?_, fun h1 => ⟨(k + 1, c), ⟨by simp only; omega, ?_⟩, by simp only; omega, by simp, rfl⟩⟩, fun h0 => ?_⟩
        · rw [← hinv]; simp [h1]
        · rw [← hinv]; simp [h0, h1]
        · rw [← hinv]; simp [h0]

def maxAt (l : List Int) (k : Nat) : Bool := match l[k]? with
  | none => true
  | some c => !decide (c < 0) && !decide (1099511627776 < c) && (k == 0 || !decide (l.getD (k - 1) 0 < c))

/-- From k on, each element is one that does not rise. -/
def refGo (l : List Int) : Nat → Nat → Bool
  | 0, _ => true
  | n + 1, k => maxAt l k && refGo l n (k + 1)

theorem rightGo_ref (l : List Int) : ∀ (n k : Nat) (last : Int), k + n = l.length → (if k = 0 then last = 1099511627776 else l[k - 1]? = some last ∧ last ≤ 1099511627776) → rightGo last (l.drop k) = refGo l n k
  | 0, k, last, hn, hlast => by
    rw [List.drop_eq_nil_of_le (by omega)]; rfl
  | n + 1, k, last, hn, hlast => by
    have hlt : k < l.length := by omega
    have hc : l[k]? = some l[k] := List.getElem?_eq_getElem hlt
    rw [drop_get hc, rightGo, refGo]
    have hd : (!decide (l[k] < 0) && !decide (last < l[k])) = maxAt l k := by
      rw [maxAt, hc]
      simp only
      by_cases hk : k = 0
      · subst hk
        rw [if_pos rfl] at hlast
        subst hlast
        simp
      · rw [if_neg hk] at hlast
        have hb : (k == 0) = false := by simpa using hk
        have hg : l.getD (k - 1) 0 = last := by rw [List.getD_eq_getElem?_getD, hlast.1]; rfl
        rw [hb, hg, Bool.false_or]
        have := hlast.2
        by_cases h1 : last < l[k]
        · simp [h1]
        · have h2 : ¬ (1099511627776 < l[k]) := by omega
          simp [h1, h2]
    rw [hd]
    by_cases hm : maxAt l k = true
    · rw [hm, Bool.true_and, Bool.true_and]
      refine rightGo_ref l n (k + 1) l[k] (by omega) ?_
      rw [if_neg (by omega)]
      refine ⟨by simp, ?_⟩
      rw [maxAt, hc] at hm
      simp at hm
      omega
    · have : maxAt l k = false := by simpa using hm
      rw [this]; rfl

theorem refright_A (l : List Int) (S : Store) (hl : l.length ≤ 1099511627776) : CallA Try.prog 15 [iSl l] S fun r S' => r = .bool (rightF l) ∧ S' = S := by
  have hF : rightF l = (refGo l l.length 0 && decide (l.length ≤ 999)) := by
    have := rightGo_ref l l.length 0 1099511627776 (by omega) (by simp)
    rw [List.drop_zero] at this
    rw [rightF, this, Bool.and_comm]
  refine CallA.keep Try.func15 c15 (Nat.le_of_ble_eq_true rfl) fun σ hσ => ?_
  simp only [a15, iSl, ↓evPre, ↓evPreV, evPost, evPostV, ← List.map_take, ← List.map_drop, ↓reduceIte, reduceCtorEq, Nat.reduceEqDiff, forall_const, implies_true, Nat.reduceAdd, Nat.reduceSub, Nat.reduceMul, Nat.reduceLT, Nat.reduceLeDiff, Int.reduceToNat, Int.reduceAdd, Int.reduceSub, Int.reduceNeg, Int.reduceMul, Int.reduceLT, Int.reduceLE, Int.reduceEq]
  refine loopA (ι := Nat) (fun k => [(0, iSl l), (3, .int .i64 k)]) (fun _ => S) (fun k => k ≤ l.length ∧ (refGo l (l.length - k) k && decide (l.length ≤ 999)) = rightF l) (fun k => l.length - k) 0 ⟨Nat.zero_le _, hF.symm⟩ ?_ rfl ?_
  · simp only [iSl, ↓evPre, ↓evPreV, evPost, evPostV, ← List.map_take, ← List.map_drop, ↓reduceIte, reduceCtorEq, Nat.reduceEqDiff, forall_const, implies_true, Nat.reduceAdd, Nat.reduceSub, Nat.reduceMul, Nat.reduceLT, Nat.reduceLeDiff, Int.reduceToNat, Int.reduceAdd, Int.reduceSub, Int.reduceNeg, Int.reduceMul, Int.reduceLT, Int.reduceLE, Int.reduceEq]
  · rintro k ⟨hk, hinv⟩
    cases hc : l[k]? with
    | none =>
      have hlt : ¬ ((k : Int) < l.length) := by rw [List.getElem?_eq_none_iff] at hc; omega
      have h0 : l.length - k = 0 := by omega
      rw [h0] at hinv
      simp (config := { maxSteps := 2000000 }) (disch := omega) only [iSl, wrap_i64, hc, hlt, ← hinv, refGo, decide_false, ↓evPre, ↓evPreV, evPost, evPostV, ← List.map_take, ← List.map_drop, ↓reduceIte, reduceCtorEq, Nat.reduceEqDiff, forall_const, implies_true, Nat.reduceAdd, Nat.reduceSub, Nat.reduceMul, Nat.reduceLT, Nat.reduceLeDiff, Int.reduceToNat, Int.reduceAdd, Int.reduceSub, Int.reduceNeg, Int.reduceMul, Int.reduceLT, Int.reduceLE, Int.reduceEq]
      congr 1
      exact propext ⟨fun h => by omega, fun h => by omega⟩
    | some c =>
      have hlt : (k : Int) < l.length := by have := (List.getElem?_eq_some_iff.1 hc).1; omega
      have hn : l.length - k = (l.length - (k + 1)) + 1 := by omega
      rw [hn, refGo, maxAt, hc] at hinv
      cases hp : l[k - 1]? with
      | none => rw [List.getElem?_eq_none_iff] at hp; omega
      | some p =>
        have hp' : l.getD (k - 1) 0 = p := by rw [List.getD_eq_getElem?_getD, hp]; rfl
        rw [hp'] at hinv
        by_cases hk0 : k = 0
        · subst hk0
          have hlt0 : (0 : Int) < l.length := by omega
          simp (config := { maxSteps := 2000000 }) (disch := omega) only [iSl, wrap_i64, hc, hlt0, decide_true, ↓evPre, ↓evPreV, evPost, evPostV, ← List.map_take, ← List.map_drop, ↓reduceIte, reduceCtorEq, Nat.reduceEqDiff, forall_const, implies_true, Nat.reduceAdd, Nat.reduceSub, Nat.reduceMul, Nat.reduceLT, Nat.reduceLeDiff, Int.reduceToNat, Int.reduceAdd, Int.reduceSub, Int.reduceNeg, Int.reduceMul, Int.reduceLT, Int.reduceLE, Int.reduceEq]
          simp only at hinv
          refine ⟨fun h0 => ⟨fun h1 => ⟨1, ⟨by omega, ?_⟩, by omega, by simp⟩, fun h1 => ?_⟩, fun h0 => ?_⟩
          · rw [← hinv]; simp [Int.not_lt.2 h0, Int.not_lt.2 h1]
          · rw [← hinv]; simp [h1]
          · rw [← hinv]; simp [h0]
        · have e : ((k : Int) - 1).toNat = k - 1 := by omega
          have hkp : (0 : Int) < k := by omega
          simp (config := { maxSteps := 2000000 }) (disch := omega) only [iSl, wrap_i64, idxA_int, hc, hlt, e, hp, hkp, decide_true, ↓evPre, ↓evPreV, evPost, evPostV, ← List.map_take, ← List.map_drop, ↓reduceIte, reduceCtorEq, Nat.reduceEqDiff, forall_const, implies_true, Nat.reduceAdd, Nat.reduceSub, Nat.reduceMul, Nat.reduceLT, Nat.reduceLeDiff, Int.reduceToNat, Int.reduceAdd, Int.reduceSub, Int.reduceNeg, Int.reduceMul, Int.reduceLT, Int.reduceLE, Int.reduceEq]
          have hkb : (k == 0) = false := by simpa using hk0
          simp only [hkb] at hinv
          refine ⟨fun h0 => ⟨fun h1 => ⟨fun h2 => ?_, fun h2 => ⟨k + 1, ⟨by omega, ?_⟩, by omega, by simp⟩⟩, fun h1 => ?_⟩, fun h0 => ?_⟩
          · rw [← hinv]; simp [h2]
          · rw [← hinv]; simp [Int.not_lt.2 h0, Int.not_lt.2 h1, Int.not_lt.2 h2]
          · rw [← hinv]; simp [h1]
          · rw [← hinv]; simp [h0]

def worthF (l : List Int) (left : Int) : Int := (l.take left.toNat).sum

theorem sum_bound : ∀ (l : List Int), (∀ x ∈ l, 0 ≤ x ∧ x ≤ 1099511627776) → 0 ≤ l.sum ∧ l.sum ≤ 1099511627776 * l.length
  | [], _ => by simp
  | x :: r, h => by
    have h1 := h x (List.mem_cons_self ..)
    have h2 := sum_bound r fun y hy => h y (List.mem_cons_of_mem _ hy)
    simp only [List.sum_cons, List.length_cons]
    omega

theorem sum_take {l : List Int} {k : Nat} {c : Int} (h : l[k]? = some c) : (l.take (k + 1)).sum = (l.take k).sum + c := by
  rw [List.take_add_one, h, Option.toList_some, List.sum_append, List.sum_singleton]

theorem worth_A (l : List Int) (left : Int) (S : Store) (hl : l.length ≤ 1048576) (hb : ∀ x ∈ l, 0 ≤ x ∧ x ≤ 1099511627776) : CallA Try.prog 16 [iSl l, .int .i64 left] S fun r S' => r = .int .i64 (worthF l left) ∧ S' = S := by
  refine CallA.keep Try.func16 c16 (Nat.le_of_ble_eq_true rfl) fun σ hσ => ?_
  obtain ⟨m, hm, hml, hmt⟩ : ∃ m : Nat, min (max left 0) (l.length : Int) = (m : Int) ∧ m ≤ l.length ∧ l.take left.toNat = l.take m := by
    refine ⟨min left.toNat l.length, by omega, by omega, ?_⟩
    rw [List.take_eq_take_min]
  have hml' : (m : Int) ≤ l.length := by omega
  have hlen : (l.take m).length = m := by simp; omega
  have hbt : ∀ k, ∀ x ∈ (l.take m).take k, 0 ≤ x ∧ x ≤ 1099511627776 := fun k x hx => hb x (List.mem_of_mem_take (List.mem_of_mem_take hx))
  simp only [a16, iSl, hm, hml', hlen, ↓evPre, ↓evPreV, evPost, evPostV, ← List.map_take, ← List.map_drop, ↓reduceIte, reduceCtorEq, Nat.reduceEqDiff, forall_const, implies_true, Nat.reduceAdd, Nat.reduceSub, Nat.reduceMul, Nat.reduceLT, Nat.reduceLeDiff, Int.reduceToNat, Int.reduceAdd, Int.reduceSub, Int.reduceNeg, Int.reduceMul, Int.reduceLT, Int.reduceLE, Int.reduceEq]
  refine loopA (ι := Nat) (fun k => [(14, iSl (l.take m)), (15, .int .i64 m), (16, .int .i64 k), (5, .int .i64 ((l.take m).take k).sum)]) (fun _ => S) (fun k => k ≤ m) (fun k => m - k) 0 (Nat.zero_le _) ?_ rfl ?_
  · simp only [iSl, List.sum_nil, ↓evPre, ↓evPreV, evPost, evPostV, ← List.map_take, ← List.map_drop, ↓reduceIte, reduceCtorEq, Nat.reduceEqDiff, forall_const, implies_true, Nat.reduceAdd, Nat.reduceSub, Nat.reduceMul, Nat.reduceLT, Nat.reduceLeDiff, Int.reduceToNat, Int.reduceAdd, Int.reduceSub, Int.reduceNeg, Int.reduceMul, Int.reduceLT, Int.reduceLE, Int.reduceEq]
  · rintro k hk
    have hs := sum_bound ((l.take m).take k) (hbt k)
    have hkl : ((l.take m).take k).length = k := by simp; omega
    rw [hkl] at hs
    cases hc : (l.take m)[k]? with
    | none =>
      have hlt : ¬ ((k : Int) < m) := by rw [List.getElem?_eq_none_iff] at hc; omega
      have hkm : k = m := by omega
      subst hkm
      simp (disch := omega) only [iSl, wrap_i64, hc, hlt, decide_false, worthF, hmt, List.take_take, Nat.min_self, ↓evPre, ↓evPreV, evPost, evPostV, ← List.map_take, ← List.map_drop, ↓reduceIte, reduceCtorEq, Nat.reduceEqDiff, forall_const, implies_true, Nat.reduceAdd, Nat.reduceSub, Nat.reduceMul, Nat.reduceLT, Nat.reduceLeDiff, Int.reduceToNat, Int.reduceAdd, Int.reduceSub, Int.reduceNeg, Int.reduceMul, Int.reduceLT, Int.reduceLE, Int.reduceEq]
    | some c =>
      have hlt : (k : Int) < m := by have := (List.getElem?_eq_some_iff.1 hc).1; omega
      have hcb := hbt m c (by rw [List.take_take, Nat.min_self]; exact List.mem_of_getElem? hc)
      simp (disch := omega) only [iSl, wrap_i64, hc, hlt, decide_true, ↓evPre, ↓evPreV, evPost, evPostV, ← List.map_take, ← List.map_drop, ↓reduceIte, reduceCtorEq, Nat.reduceEqDiff, forall_const, implies_true, Nat.reduceAdd, Nat.reduceSub, Nat.reduceMul, Nat.reduceLT, Nat.reduceLeDiff, Int.reduceToNat, Int.reduceAdd, Int.reduceSub, Int.reduceNeg, Int.reduceMul, Int.reduceLT, Int.reduceLE, Int.reduceEq]
      exact ⟨k + 1, by omega, by omega, by omega, (sum_take hc).symm⟩

theorem refworth_A (l : List Int) (left : Int) (S : Store) (hl : l.length ≤ 1048576) (hb : ∀ x ∈ l, 0 ≤ x ∧ x ≤ 1099511627776) : CallA Try.prog 17 [iSl l, .int .i64 left] S fun r S' => r = .int .i64 (worthF l left) ∧ S' = S := by
  refine CallA.keep Try.func17 c17 (Nat.le_of_ble_eq_true rfl) fun σ hσ => ?_
  have hbt : ∀ k, ∀ x ∈ l.take k, 0 ≤ x ∧ x ≤ 1099511627776 := fun k x hx => hb x (List.mem_of_mem_take hx)
  simp only [a17, iSl, ↓evPre, ↓evPreV, evPost, evPostV, ← List.map_take, ← List.map_drop, ↓reduceIte, reduceCtorEq, Nat.reduceEqDiff, forall_const, implies_true, Nat.reduceAdd, Nat.reduceSub, Nat.reduceMul, Nat.reduceLT, Nat.reduceLeDiff, Int.reduceToNat, Int.reduceAdd, Int.reduceSub, Int.reduceNeg, Int.reduceMul, Int.reduceLT, Int.reduceLE, Int.reduceEq]
  refine loopA (ι := Nat) (fun k => [(0, iSl l), (1, .int .i64 left), (6, .int .i64 k), (5, .int .i64 (l.take k).sum)]) (fun _ => S) (fun k => k ≤ l.length ∧ (k : Int) ≤ max left 0) (fun k => l.length - k) 0 ⟨Nat.zero_le _, by omega⟩ ?_ rfl ?_
  · simp only [iSl, List.sum_nil, ↓evPre, ↓evPreV, evPost, evPostV, ← List.map_take, ← List.map_drop, ↓reduceIte, reduceCtorEq, Nat.reduceEqDiff, forall_const, implies_true, Nat.reduceAdd, Nat.reduceSub, Nat.reduceMul, Nat.reduceLT, Nat.reduceLeDiff, Int.reduceToNat, Int.reduceAdd, Int.reduceSub, Int.reduceNeg, Int.reduceMul, Int.reduceLT, Int.reduceLE, Int.reduceEq]
  · rintro k ⟨hk, hk'⟩
    have hs := sum_bound (l.take k) (hbt k)
    have hkl : (l.take k).length = k := by simp; omega
    rw [hkl] at hs
    cases hc : l[k]? with
    | none =>
      have hlt : ¬ ((k : Int) < l.length) := by rw [List.getElem?_eq_none_iff] at hc; omega
      have hw : worthF l left = (l.take k).sum := by
        have : l.take left.toNat = l.take k := by rw [List.take_of_length_le (by omega), List.take_of_length_le (by omega)]
        rw [worthF, this]
      simp (disch := omega) only [iSl, wrap_i64, hc, hlt, hw, decide_false, ↓evPre, ↓evPreV, evPost, evPostV, ← List.map_take, ← List.map_drop, ↓reduceIte, reduceCtorEq, Nat.reduceEqDiff, forall_const, implies_true, Nat.reduceAdd, Nat.reduceSub, Nat.reduceMul, Nat.reduceLT, Nat.reduceLeDiff, Int.reduceToNat, Int.reduceAdd, Int.reduceSub, Int.reduceNeg, Int.reduceMul, Int.reduceLT, Int.reduceLE, Int.reduceEq]
    | some c =>
      have hlt : (k : Int) < l.length := by have := (List.getElem?_eq_some_iff.1 hc).1; omega
      have hcb := hb c (List.mem_of_getElem? hc)
      by_cases h2 : (k : Int) < left
      · simp (disch := omega) only [iSl, wrap_i64, hc, hlt, h2, decide_true, ↓evPre, ↓evPreV, evPost, evPostV, ← List.map_take, ← List.map_drop, ↓reduceIte, reduceCtorEq, Nat.reduceEqDiff, forall_const, implies_true, Nat.reduceAdd, Nat.reduceSub, Nat.reduceMul, Nat.reduceLT, Nat.reduceLeDiff, Int.reduceToNat, Int.reduceAdd, Int.reduceSub, Int.reduceNeg, Int.reduceMul, Int.reduceLT, Int.reduceLE, Int.reduceEq]
        exact ⟨k + 1, ⟨by omega, by omega⟩, by omega, by omega, (sum_take hc).symm⟩
      · have hw : worthF l left = (l.take k).sum := by
          have : left.toNat = k := by omega
          rw [worthF, this]
        simp (disch := omega) only [iSl, wrap_i64, hc, hlt, h2, hw, decide_true, decide_false, ↓evPre, ↓evPreV, evPost, evPostV, ← List.map_take, ← List.map_drop, ↓reduceIte, reduceCtorEq, Nat.reduceEqDiff, forall_const, implies_true, Nat.reduceAdd, Nat.reduceSub, Nat.reduceMul, Nat.reduceLT, Nat.reduceLeDiff, Int.reduceToNat, Int.reduceAdd, Int.reduceSub, Int.reduceNeg, Int.reduceMul, Int.reduceLT, Int.reduceLE, Int.reduceEq]

theorem same_A (l m : List Int) (S : Store) (hl : l.length ≤ 1099511627776) : CallA Try.prog 11 [iSl l, iSl m] S fun r S' => r = .bool (decide (l = m)) ∧ S' = S := by
  refine CallA.keep Try.func11 c11 (Nat.le_of_ble_eq_true rfl) fun σ hσ => ?_
  simp only [a11, iSl, ↓evPre, ↓evPreV, evPost, evPostV, ← List.map_take, ← List.map_drop, ↓reduceIte, reduceCtorEq, Nat.reduceEqDiff, forall_const, implies_true, Nat.reduceAdd, Nat.reduceSub, Nat.reduceMul, Nat.reduceLT, Nat.reduceLeDiff, Int.reduceToNat, Int.reduceAdd, Int.reduceSub, Int.reduceNeg, Int.reduceMul, Int.reduceLT, Int.reduceLE, Int.reduceEq]
  by_cases hlen : (l.length : Int) = m.length
  · simp only [hlen, ↓evPre, ↓evPreV, evPost, evPostV, ← List.map_take, ← List.map_drop, ↓reduceIte, reduceCtorEq, Nat.reduceEqDiff, forall_const, implies_true, Nat.reduceAdd, Nat.reduceSub, Nat.reduceMul, Nat.reduceLT, Nat.reduceLeDiff, Int.reduceToNat, Int.reduceAdd, Int.reduceSub, Int.reduceNeg, Int.reduceMul, Int.reduceLT, Int.reduceLE, Int.reduceEq]
    refine loopA (ι := Nat) (fun k => [(0, iSl l), (1, iSl m), (5, .int .i64 k)]) (fun _ => S) (fun k => k ≤ l.length ∧ l.take k = m.take k) (fun k => l.length - k) 0 ⟨Nat.zero_le _, rfl⟩ ?_ rfl ?_
    · simp only [iSl, ↓evPre, ↓evPreV, evPost, evPostV, ← List.map_take, ← List.map_drop, ↓reduceIte, reduceCtorEq, Nat.reduceEqDiff, forall_const, implies_true, Nat.reduceAdd, Nat.reduceSub, Nat.reduceMul, Nat.reduceLT, Nat.reduceLeDiff, Int.reduceToNat, Int.reduceAdd, Int.reduceSub, Int.reduceNeg, Int.reduceMul, Int.reduceLT, Int.reduceLE, Int.reduceEq]
    · rintro k ⟨hk, hk'⟩
      cases hc : l[k]? with
      | none =>
        have hlt : ¬ ((k : Int) < l.length) := by rw [List.getElem?_eq_none_iff] at hc; omega
        have he : l = m := by
          have h1 : l.take k = l := List.take_of_length_le (by omega)
          have h2 : m.take k = m := List.take_of_length_le (by omega)
          rw [← h1, hk', h2]
        simp (disch := omega) only [iSl, wrap_i64, hc, hlt, ← he, decide_true, decide_false, ↓evPre, ↓evPreV, evPost, evPostV, ← List.map_take, ← List.map_drop, ↓reduceIte, reduceCtorEq, Nat.reduceEqDiff, forall_const, implies_true, Nat.reduceAdd, Nat.reduceSub, Nat.reduceMul, Nat.reduceLT, Nat.reduceLeDiff, Int.reduceToNat, Int.reduceAdd, Int.reduceSub, Int.reduceNeg, Int.reduceMul, Int.reduceLT, Int.reduceLE, Int.reduceEq]
      | some c =>
        have hlt : (k : Int) < l.length := by have := (List.getElem?_eq_some_iff.1 hc).1; omega
        cases hd : m[k]? with
        | none => rw [List.getElem?_eq_none_iff] at hd; omega
        | some d =>
          simp (disch := omega) only [iSl, wrap_i64, hc, hd, hlt, decide_true, ↓evPre, ↓evPreV, evPost, evPostV, ← List.map_take, ← List.map_drop, ↓reduceIte, reduceCtorEq, Nat.reduceEqDiff, forall_const, implies_true, Nat.reduceAdd, Nat.reduceSub, Nat.reduceMul, Nat.reduceLT, Nat.reduceLeDiff, Int.reduceToNat, Int.reduceAdd, Int.reduceSub, Int.reduceNeg, Int.reduceMul, Int.reduceLT, Int.reduceLE, Int.reduceEq]
          by_cases hcd : c = d
          · subst hcd
            simp only [↓evPre, ↓evPreV, evPost, evPostV, ← List.map_take, ← List.map_drop, ↓reduceIte, reduceCtorEq, Nat.reduceEqDiff, forall_const, implies_true, Nat.reduceAdd, Nat.reduceSub, Nat.reduceMul, Nat.reduceLT, Nat.reduceLeDiff, Int.reduceToNat, Int.reduceAdd, Int.reduceSub, Int.reduceNeg, Int.reduceMul, Int.reduceLT, Int.reduceLE, Int.reduceEq]
            exact ⟨k + 1, ⟨by omega, by rw [List.take_add_one, List.take_add_one, hk', hc, hd]⟩, by omega, by omega⟩
          · have : l ≠ m := fun h => by subst h; rw [hc] at hd; cases hd; exact hcd rfl
            simp only [hcd, this, decide_false, ↓evPre, ↓evPreV, evPost, evPostV, ← List.map_take, ← List.map_drop, ↓reduceIte, reduceCtorEq, Nat.reduceEqDiff, forall_const, implies_true, Nat.reduceAdd, Nat.reduceSub, Nat.reduceMul, Nat.reduceLT, Nat.reduceLeDiff, Int.reduceToNat, Int.reduceAdd, Int.reduceSub, Int.reduceNeg, Int.reduceMul, Int.reduceLT, Int.reduceLE, Int.reduceEq]
  · have : l ≠ m := fun h => hlen (by rw [h])
    simp only [hlen, this, decide_false, ↓evPre, ↓evPreV, evPost, evPostV, ← List.map_take, ← List.map_drop, ↓reduceIte, reduceCtorEq, Nat.reduceEqDiff, forall_const, implies_true, Nat.reduceAdd, Nat.reduceSub, Nat.reduceMul, Nat.reduceLT, Nat.reduceLeDiff, Int.reduceToNat, Int.reduceAdd, Int.reduceSub, Int.reduceNeg, Int.reduceMul, Int.reduceLT, Int.reduceLE, Int.reduceEq]

def cSl (cs : List (List Int)) : V := .sl 1 (cs.map fun l => [iSl l])
def expF (cs : List (List Int)) : Bool := cs.all rightF && decide (cs.length ≤ 36)

theorem expected_A (cs : List (List Int)) (left : List Int) (S : Store) (hl : cs.length ≤ 1099511627776) (hb : ∀ l ∈ cs, l.length ≤ 1099511627776) : CallA Try.prog 18 [.agg [cSl cs, iSl left]] S fun r S' => r = .bool (expF cs) ∧ S' = S := by
  refine CallA.keep Try.func18 c18 (Nat.le_of_ble_eq_true rfl) fun σ hσ => ?_
  simp only [a18, cSl, iSl, ↓evPre, ↓evPreV, evPost, evPostV, ← List.map_take, ← List.map_drop, ↓reduceIte, reduceCtorEq, Nat.reduceEqDiff, forall_const, implies_true, Nat.reduceAdd, Nat.reduceSub, Nat.reduceMul, Nat.reduceLT, Nat.reduceLeDiff, Int.reduceToNat, Int.reduceAdd, Int.reduceSub, Int.reduceNeg, Int.reduceMul, Int.reduceLT, Int.reduceLE, Int.reduceEq]
  refine loopA (ι := Nat) (fun k => [(1, .cptr [cSl cs, iSl left]), (3, .int .i64 k)]) (fun _ => S) (fun k => k ≤ cs.length ∧ (cs.take k).all rightF = true) (fun k => cs.length - k) 0 ⟨Nat.zero_le _, rfl⟩ ?_ rfl ?_
  · simp only [iSl, cSl, ↓evPre, ↓evPreV, evPost, evPostV, ← List.map_take, ← List.map_drop, ↓reduceIte, reduceCtorEq, Nat.reduceEqDiff, forall_const, implies_true, Nat.reduceAdd, Nat.reduceSub, Nat.reduceMul, Nat.reduceLT, Nat.reduceLeDiff, Int.reduceToNat, Int.reduceAdd, Int.reduceSub, Int.reduceNeg, Int.reduceMul, Int.reduceLT, Int.reduceLE, Int.reduceEq]
  · rintro k ⟨hk, hk'⟩
    cases hc : cs[k]? with
    | none =>
      have hlt : ¬ ((k : Int) < cs.length) := by rw [List.getElem?_eq_none_iff] at hc; omega
      have h1 : cs.all rightF = true := by rw [← hk', List.take_of_length_le (by omega)]
      simp (disch := omega) only [iSl, cSl, wrap_i64, hc, hlt, expF, h1, ↓evPre, ↓evPreV, evPost, evPostV, ← List.map_take, ← List.map_drop, ↓reduceIte, reduceCtorEq, Nat.reduceEqDiff, forall_const, implies_true, Nat.reduceAdd, Nat.reduceSub, Nat.reduceMul, Nat.reduceLT, Nat.reduceLeDiff, Int.reduceToNat, Int.reduceAdd, Int.reduceSub, Int.reduceNeg, Int.reduceMul, Int.reduceLT, Int.reduceLE, Int.reduceEq]
      congr 1
      exact propext ⟨fun h => by omega, fun h => by omega⟩
    | some c =>
      have hlt : (k : Int) < cs.length := by have := (List.getElem?_eq_some_iff.1 hc).1; omega
      have hcm := List.mem_of_getElem? hc
      simp (disch := omega) only [iSl, cSl, wrap_i64, hc, hlt, ↓evPre, ↓evPreV, evPost, evPostV, ← List.map_take, ← List.map_drop, ↓reduceIte, reduceCtorEq, Nat.reduceEqDiff, forall_const, implies_true, Nat.reduceAdd, Nat.reduceSub, Nat.reduceMul, Nat.reduceLT, Nat.reduceLeDiff, Int.reduceToNat, Int.reduceAdd, Int.reduceSub, Int.reduceNeg, Int.reduceMul, Int.reduceLT, Int.reduceLE, Int.reduceEq]
      refine (refright_A c S (hb c hcm)).mono ?_
      rintro r S' ⟨rfl, rfl⟩
      cases h : rightF c
      · have : cs.all rightF = false := by rw [Bool.eq_false_iff]; intro h'; rw [List.all_eq_true.1 h' c hcm] at h; cases h
        simp (disch := omega) only [iSl, cSl, wrap_i64, expF, this, Bool.false_and, ↓evPre, ↓evPreV, evPost, evPostV, ← List.map_take, ← List.map_drop, ↓reduceIte, reduceCtorEq, Nat.reduceEqDiff, forall_const, implies_true, Nat.reduceAdd, Nat.reduceSub, Nat.reduceMul, Nat.reduceLT, Nat.reduceLeDiff, Int.reduceToNat, Int.reduceAdd, Int.reduceSub, Int.reduceNeg, Int.reduceMul, Int.reduceLT, Int.reduceLE, Int.reduceEq]
      · simp (disch := omega) only [iSl, cSl, wrap_i64, ↓evPre, ↓evPreV, evPost, evPostV, ← List.map_take, ← List.map_drop, ↓reduceIte, reduceCtorEq, Nat.reduceEqDiff, forall_const, implies_true, Nat.reduceAdd, Nat.reduceSub, Nat.reduceMul, Nat.reduceLT, Nat.reduceLeDiff, Int.reduceToNat, Int.reduceAdd, Int.reduceSub, Int.reduceNeg, Int.reduceMul, Int.reduceLT, Int.reduceLE, Int.reduceEq]
        exact ⟨k + 1, ⟨by omega, by rw [List.take_add_one, hc, List.all_append, hk', Option.toList_some, List.all_cons, h]; rfl⟩, by omega, by omega⟩
end Go.Proofs.Ytoidchljifelgaa
