/- Airports and cities. -/
import Derived.Test.YtbbjjnhcbfdhlaaMil4
namespace Go.Proofs.Ytbbjjnhcbfdhlaa
open Go Go.AL
set_option linter.unusedSimpArgs false
set_option linter.unusedVariables false

structure Apt where
  code : Txt
  city : Txt
  cty : Txt
  off : Int
  sh : List (Int × Int)
def shV (l : List (Int × Int)) : V := .sl 2 (l.map fun p => [.int .i64 p.1, .int .i64 p.2])
def aptR (a : Apt) : List V := [.str a.code, .str a.city, .str a.cty, .int .i64 a.off, shV a.sh]
def aSl (l : List Apt) : V := .sl 5 (l.map aptR)
def dstR (d : Dst) : List V := [.str d.fr, .str d.to, .int .i64 d.mi]
def dSl (l : List Dst) : V := .sl 3 (l.map dstR)
def plV (p : List Apt × List Dst) : V := .agg [aSl p.1, dSl p.2]
def noApt : List V := [.str [], .str [], .str [], .int .i64 0, .nilSl]

def findR (l : List Apt) (q : Apt → Bool) : V := match l.find? q with
  | some a => .tup [.agg (aptR a), .bool true]
  | none => .tup [.agg noApt, .bool false]
theorem find_at {l : List Apt} {q : Apt → Bool} {k : Nat} {a : Apt} (h : l.find? q = (l.drop k).find? q) (ha : l[k]? = some a) (hq : q a = true) : findR l q = .tup [.agg (aptR a), .bool true] := by
  have e : l.drop k = a :: l.drop (k + 1) := by
    obtain ⟨hlt, rfl⟩ := List.getElem?_eq_some_iff.1 ha
    exact List.drop_eq_getElem_cons hlt
  rw [findR, h, e, List.find?_cons_of_pos hq]
theorem find_next {l : List Apt} {q : Apt → Bool} {k : Nat} {a : Apt} (h : l.find? q = (l.drop k).find? q) (ha : l[k]? = some a) (hq : q a = false) : l.find? q = (l.drop (k + 1)).find? q := by
  have e : l.drop k = a :: l.drop (k + 1) := by
    obtain ⟨hlt, rfl⟩ := List.getElem?_eq_some_iff.1 ha
    exact List.drop_eq_getElem_cons hlt
  rw [h, e, List.find?_cons_of_neg (by simp [hq])]
theorem find_end {l : List Apt} {q : Apt → Bool} {k : Nat} (h : l.find? q = (l.drop k).find? q) (ha : l[k]? = none) : findR l q = .tup [.agg noApt, .bool false] := by
  rw [findR, h, List.drop_eq_nil_of_le (List.getElem?_eq_none_iff.1 ha)]
  rfl

theorem find_A (p : List Apt × List Dst) (c : Txt) (S : Store) (hl : p.1.length ≤ 1048576) : CallA Try.prog 36 [plV p, .str c] S fun r S' => r = findR p.1 (fun a => decide (a.code = c)) ∧ S' = S := by
  refine CallA.withNeat Try.func36 c36 fun hn => ?_
  refine CallA.fin Try.func36 c36 (Nat.le_of_ble_eq_true rfl) fun σ hσ => ?_
  simp (disch := first | omega | (simp only [List.length_cons, List.length_nil, List.length_map, List.length_drop]; omega)) only [a36, plV, aSl, dSl, List.length_map, List.take_succ_cons, List.take_zero, evSt, ↓evPre, ↓evPreW, evPost, evPostW, ← List.map_take, ← List.map_drop, ↓reduceIte, reduceCtorEq, Nat.reduceEqDiff, forall_const, implies_true, Nat.reduceAdd, Nat.reduceSub, Nat.reduceMul, Nat.reduceLT, Nat.reduceLeDiff, Int.reduceToNat, Int.reduceAdd, Int.reduceSub, Int.reduceNeg, Int.reduceMul, Int.reduceLT, Int.reduceLE, Int.reduceEq]
  refine loopF (ι := Nat) (fun k => [(1, .str c), (4, .ptr S.length 0 0 0), (9, aSl p.1), (10, .int .i64 p.1.length), (11, .int .i64 k)]) (fun _ => S ++ [⟨0, some (.arr 41 5 [noApt])⟩]) (fun k => k ≤ p.1.length ∧ p.1.find? (fun a => decide (a.code = c)) = (p.1.drop k).find? (fun a => decide (a.code = c))) (fun k => p.1.length - k) (fun i hi => by rw [hσ]; simp) 0 ⟨Nat.zero_le _, rfl⟩ (.inl ⟨?_, rfl⟩) ?_
  · simp only [aSl, dSl, ↓evPre, ↓evPreW, evPost, evPostW, ← List.map_take, ← List.map_drop, ↓reduceIte, reduceCtorEq, Nat.reduceEqDiff, forall_const, implies_true, Nat.reduceAdd, Nat.reduceSub, Nat.reduceMul, Nat.reduceLT, Nat.reduceLeDiff, Int.reduceToNat, Int.reduceAdd, Int.reduceSub, Int.reduceNeg, Int.reduceMul, Int.reduceLT, Int.reduceLE, Int.reduceEq]
  · rintro k ⟨hk, hinv⟩
    cases hc : p.1[k]? with
    | none =>
      have hlt : ¬ ((k : Int) < p.1.length) := by rw [List.getElem?_eq_none_iff] at hc; omega
      rw [find_end hinv hc]
      simp (disch := first | omega | (simp only [List.length_cons, List.length_nil, List.length_map, List.length_drop]; omega)) only [aSl, dSl, noApt, List.length_map, hlt, decide_false, List.take_succ_cons, List.take_zero, evSt, ↓evPre, ↓evPreW, evPost, evPostW, ← List.map_take, ← List.map_drop, ↓reduceIte, reduceCtorEq, Nat.reduceEqDiff, forall_const, implies_true, Nat.reduceAdd, Nat.reduceSub, Nat.reduceMul, Nat.reduceLT, Nat.reduceLeDiff, Int.reduceToNat, Int.reduceAdd, Int.reduceSub, Int.reduceNeg, Int.reduceMul, Int.reduceLT, Int.reduceLE, Int.reduceEq]
      exact ⟨_, S, hn.fgt _, .imm rfl, Nat.le_refl _, rfl, rfl⟩
    | some a =>
      have hlt' := (List.getElem?_eq_some_iff.1 hc).1
      have hlt : (k : Int) < p.1.length := by omega
      by_cases h : a.code = c
      · have he : decide (a.code = c) = true := by simp [h]
        rw [find_at hinv hc he]
        simp (disch := first | omega | (simp only [List.length_cons, List.length_nil, List.length_map, List.length_drop]; omega)) only [aSl, dSl, aptR, shV, noApt, List.length_map, hc, hlt, he, decide_true, List.getElem?_map, Option.map_some, List.take_succ_cons, List.take_zero, evSt, ↓evPre, ↓evPreW, evPost, evPostW, ← List.map_take, ← List.map_drop, ↓reduceIte, reduceCtorEq, Nat.reduceEqDiff, forall_const, implies_true, Nat.reduceAdd, Nat.reduceSub, Nat.reduceMul, Nat.reduceLT, Nat.reduceLeDiff, Int.reduceToNat, Int.reduceAdd, Int.reduceSub, Int.reduceNeg, Int.reduceMul, Int.reduceLT, Int.reduceLE, Int.reduceEq]
        exact ⟨_, S, hn.fgt _, .imm rfl, Nat.le_refl _, rfl, rfl⟩
      · simp (disch := first | omega | (simp only [List.length_cons, List.length_nil, List.length_map, List.length_drop]; omega)) only [aSl, dSl, aptR, shV, noApt, List.length_map, wrap_i64, hc, hlt, h, decide_true, decide_false, List.getElem?_map, Option.map_some, List.take_succ_cons, List.take_zero, evSt, ↓evPre, ↓evPreW, evPost, evPostW, ← List.map_take, ← List.map_drop, ↓reduceIte, reduceCtorEq, Nat.reduceEqDiff, forall_const, implies_true, Nat.reduceAdd, Nat.reduceSub, Nat.reduceMul, Nat.reduceLT, Nat.reduceLeDiff, Int.reduceToNat, Int.reduceAdd, Int.reduceSub, Int.reduceNeg, Int.reduceMul, Int.reduceLT, Int.reduceLE, Int.reduceEq]
        refine ⟨k + 1, ⟨by omega, find_next hinv hc (by simp [h])⟩, by omega, back_under ?_ (by simp only [aSl, dSl, ↓evPre, ↓evPreW, evPost, evPostW, ← List.map_take, ← List.map_drop, ↓reduceIte, reduceCtorEq, Nat.reduceEqDiff, forall_const, implies_true, Nat.reduceAdd, Nat.reduceSub, Nat.reduceMul, Nat.reduceLT, Nat.reduceLeDiff, Int.reduceToNat, Int.reduceAdd, Int.reduceSub, Int.reduceNeg, Int.reduceMul, Int.reduceLT, Int.reduceLE, Int.reduceEq]; rfl) (by simp [V.under, aSl])⟩
        exact hn.fgtL (L := [_, _]) (L1 := [_]) ⟨rfl, ⟨_, rfl, .imm (fun r hr => by simp only [noApt, List.mem_singleton] at hr; subst hr; exact ⟨rfl, rfl⟩)⟩, trivial⟩

theorem town_A (p : List Apt × List Dst) (c : Txt) (S : Store) (hl : p.1.length ≤ 1048576) : CallA Try.prog 37 [plV p, .str c] S fun r S' => r = findR p.1 (fun a => decide (a.city = c)) ∧ S' = S := by
  refine CallA.withNeat Try.func37 c37 fun hn => ?_
  refine CallA.fin Try.func37 c37 (Nat.le_of_ble_eq_true rfl) fun σ hσ => ?_
  simp (disch := first | omega | (simp only [List.length_cons, List.length_nil, List.length_map, List.length_drop]; omega)) only [a37, plV, aSl, dSl, List.length_map, List.take_succ_cons, List.take_zero, evSt, ↓evPre, ↓evPreW, evPost, evPostW, ← List.map_take, ← List.map_drop, ↓reduceIte, reduceCtorEq, Nat.reduceEqDiff, forall_const, implies_true, Nat.reduceAdd, Nat.reduceSub, Nat.reduceMul, Nat.reduceLT, Nat.reduceLeDiff, Int.reduceToNat, Int.reduceAdd, Int.reduceSub, Int.reduceNeg, Int.reduceMul, Int.reduceLT, Int.reduceLE, Int.reduceEq]
  refine loopF (ι := Nat) (fun k => [(1, .str c), (4, .ptr S.length 0 0 0), (9, aSl p.1), (10, .int .i64 p.1.length), (11, .int .i64 k)]) (fun _ => S ++ [⟨0, some (.arr 41 5 [noApt])⟩]) (fun k => k ≤ p.1.length ∧ p.1.find? (fun a => decide (a.city = c)) = (p.1.drop k).find? (fun a => decide (a.city = c))) (fun k => p.1.length - k) (fun i hi => by rw [hσ]; simp) 0 ⟨Nat.zero_le _, rfl⟩ (.inl ⟨?_, rfl⟩) ?_
  · simp only [aSl, dSl, ↓evPre, ↓evPreW, evPost, evPostW, ← List.map_take, ← List.map_drop, ↓reduceIte, reduceCtorEq, Nat.reduceEqDiff, forall_const, implies_true, Nat.reduceAdd, Nat.reduceSub, Nat.reduceMul, Nat.reduceLT, Nat.reduceLeDiff, Int.reduceToNat, Int.reduceAdd, Int.reduceSub, Int.reduceNeg, Int.reduceMul, Int.reduceLT, Int.reduceLE, Int.reduceEq]
  · rintro k ⟨hk, hinv⟩
    cases hc : p.1[k]? with
    | none =>
      have hlt : ¬ ((k : Int) < p.1.length) := by rw [List.getElem?_eq_none_iff] at hc; omega
      rw [find_end hinv hc]
      simp (disch := first | omega | (simp only [List.length_cons, List.length_nil, List.length_map, List.length_drop]; omega)) only [aSl, dSl, noApt, List.length_map, hlt, decide_false, List.take_succ_cons, List.take_zero, evSt, ↓evPre, ↓evPreW, evPost, evPostW, ← List.map_take, ← List.map_drop, ↓reduceIte, reduceCtorEq, Nat.reduceEqDiff, forall_const, implies_true, Nat.reduceAdd, Nat.reduceSub, Nat.reduceMul, Nat.reduceLT, Nat.reduceLeDiff, Int.reduceToNat, Int.reduceAdd, Int.reduceSub, Int.reduceNeg, Int.reduceMul, Int.reduceLT, Int.reduceLE, Int.reduceEq]
      exact ⟨_, S, hn.fgt _, .imm rfl, Nat.le_refl _, rfl, rfl⟩
    | some a =>
      have hlt' := (List.getElem?_eq_some_iff.1 hc).1
      have hlt : (k : Int) < p.1.length := by omega
      by_cases h : a.city = c
      · have he : decide (a.city = c) = true := by simp [h]
        rw [find_at hinv hc he]
        simp (disch := first | omega | (simp only [List.length_cons, List.length_nil, List.length_map, List.length_drop]; omega)) only [aSl, dSl, aptR, shV, noApt, List.length_map, hc, hlt, he, decide_true, List.getElem?_map, Option.map_some, List.take_succ_cons, List.take_zero, evSt, ↓evPre, ↓evPreW, evPost, evPostW, ← List.map_take, ← List.map_drop, ↓reduceIte, reduceCtorEq, Nat.reduceEqDiff, forall_const, implies_true, Nat.reduceAdd, Nat.reduceSub, Nat.reduceMul, Nat.reduceLT, Nat.reduceLeDiff, Int.reduceToNat, Int.reduceAdd, Int.reduceSub, Int.reduceNeg, Int.reduceMul, Int.reduceLT, Int.reduceLE, Int.reduceEq]
        exact ⟨_, S, hn.fgt _, .imm rfl, Nat.le_refl _, rfl, rfl⟩
      · simp (disch := first | omega | (simp only [List.length_cons, List.length_nil, List.length_map, List.length_drop]; omega)) only [aSl, dSl, aptR, shV, noApt, List.length_map, wrap_i64, hc, hlt, h, decide_true, decide_false, List.getElem?_map, Option.map_some, List.take_succ_cons, List.take_zero, evSt, ↓evPre, ↓evPreW, evPost, evPostW, ← List.map_take, ← List.map_drop, ↓reduceIte, reduceCtorEq, Nat.reduceEqDiff, forall_const, implies_true, Nat.reduceAdd, Nat.reduceSub, Nat.reduceMul, Nat.reduceLT, Nat.reduceLeDiff, Int.reduceToNat, Int.reduceAdd, Int.reduceSub, Int.reduceNeg, Int.reduceMul, Int.reduceLT, Int.reduceLE, Int.reduceEq]
        refine ⟨k + 1, ⟨by omega, find_next hinv hc (by simp [h])⟩, by omega, back_under ?_ (by simp only [aSl, dSl, ↓evPre, ↓evPreW, evPost, evPostW, ← List.map_take, ← List.map_drop, ↓reduceIte, reduceCtorEq, Nat.reduceEqDiff, forall_const, implies_true, Nat.reduceAdd, Nat.reduceSub, Nat.reduceMul, Nat.reduceLT, Nat.reduceLeDiff, Int.reduceToNat, Int.reduceAdd, Int.reduceSub, Int.reduceNeg, Int.reduceMul, Int.reduceLT, Int.reduceLE, Int.reduceEq]; rfl) (by simp [V.under, aSl])⟩
        exact hn.fgtL (L := [_, _]) (L1 := [_]) ⟨rfl, ⟨_, rfl, .imm (fun r hr => by simp only [noApt, List.mem_singleton] at hr; subst hr; exact ⟨rfl, rfl⟩)⟩, trivial⟩

theorem rfind_A (p : List Apt × List Dst) (c : Txt) (S : Store) (hl : p.1.length ≤ 1048576) : CallA Try.prog 38 [plV p, .str c] S fun r S' => r = findR p.1 (fun a => decide (a.code = c)) ∧ S' = S := by
  refine CallA.withNeat Try.func38 c38 fun hn => ?_
  refine CallA.fin Try.func38 c38 (Nat.le_of_ble_eq_true rfl) fun σ hσ => ?_
  simp (disch := first | omega | (simp only [List.length_cons, List.length_nil, List.length_map, List.length_drop]; omega)) only [a38, plV, aSl, dSl, List.length_map, List.take_succ_cons, List.take_zero, evSt, ↓evPre, ↓evPreW, evPost, evPostW, ← List.map_take, ← List.map_drop, ↓reduceIte, reduceCtorEq, Nat.reduceEqDiff, forall_const, implies_true, Nat.reduceAdd, Nat.reduceSub, Nat.reduceMul, Nat.reduceLT, Nat.reduceLeDiff, Int.reduceToNat, Int.reduceAdd, Int.reduceSub, Int.reduceNeg, Int.reduceMul, Int.reduceLT, Int.reduceLE, Int.reduceEq]
  refine loopF (ι := Nat) (fun k => [(1, .str c), (2, .cptr [aSl p.1, dSl p.2]), (4, .ptr S.length 0 0 0), (6, .int .i64 k)]) (fun _ => S ++ [⟨0, some (.arr 41 5 [noApt])⟩]) (fun k => k ≤ p.1.length ∧ p.1.find? (fun a => decide (a.code = c)) = (p.1.drop k).find? (fun a => decide (a.code = c))) (fun k => p.1.length - k) (fun i hi => by rw [hσ]; simp) 0 ⟨Nat.zero_le _, rfl⟩ (.inl ⟨?_, rfl⟩) ?_
  · simp only [aSl, dSl, ↓evPre, ↓evPreW, evPost, evPostW, ← List.map_take, ← List.map_drop, ↓reduceIte, reduceCtorEq, Nat.reduceEqDiff, forall_const, implies_true, Nat.reduceAdd, Nat.reduceSub, Nat.reduceMul, Nat.reduceLT, Nat.reduceLeDiff, Int.reduceToNat, Int.reduceAdd, Int.reduceSub, Int.reduceNeg, Int.reduceMul, Int.reduceLT, Int.reduceLE, Int.reduceEq]
  · rintro k ⟨hk, hinv⟩
    cases hc : p.1[k]? with
    | none =>
      have hlt : ¬ ((k : Int) < p.1.length) := by rw [List.getElem?_eq_none_iff] at hc; omega
      rw [find_end hinv hc]
      simp (disch := first | omega | (simp only [List.length_cons, List.length_nil, List.length_map, List.length_drop]; omega)) only [aSl, dSl, noApt, List.length_map, hlt, decide_false, List.take_succ_cons, List.take_zero, evSt, ↓evPre, ↓evPreW, evPost, evPostW, ← List.map_take, ← List.map_drop, ↓reduceIte, reduceCtorEq, Nat.reduceEqDiff, forall_const, implies_true, Nat.reduceAdd, Nat.reduceSub, Nat.reduceMul, Nat.reduceLT, Nat.reduceLeDiff, Int.reduceToNat, Int.reduceAdd, Int.reduceSub, Int.reduceNeg, Int.reduceMul, Int.reduceLT, Int.reduceLE, Int.reduceEq]
      exact ⟨_, S, hn.fgt _, .imm rfl, Nat.le_refl _, rfl, rfl⟩
    | some a =>
      have hlt' := (List.getElem?_eq_some_iff.1 hc).1
      have hlt : (k : Int) < p.1.length := by omega
      by_cases h : a.code = c
      · have he : decide (a.code = c) = true := by simp [h]
        rw [find_at hinv hc he]
        simp (disch := first | omega | (simp only [List.length_cons, List.length_nil, List.length_map, List.length_drop]; omega)) only [aSl, dSl, aptR, shV, noApt, List.length_map, hc, hlt, he, decide_true, List.getElem?_map, Option.map_some, List.take_succ_cons, List.take_zero, evSt, ↓evPre, ↓evPreW, evPost, evPostW, ← List.map_take, ← List.map_drop, ↓reduceIte, reduceCtorEq, Nat.reduceEqDiff, forall_const, implies_true, Nat.reduceAdd, Nat.reduceSub, Nat.reduceMul, Nat.reduceLT, Nat.reduceLeDiff, Int.reduceToNat, Int.reduceAdd, Int.reduceSub, Int.reduceNeg, Int.reduceMul, Int.reduceLT, Int.reduceLE, Int.reduceEq]
        exact ⟨_, S, hn.fgt _, .imm rfl, Nat.le_refl _, rfl, rfl⟩
      · simp (disch := first | omega | (simp only [List.length_cons, List.length_nil, List.length_map, List.length_drop]; omega)) only [aSl, dSl, aptR, shV, noApt, List.length_map, wrap_i64, hc, hlt, h, decide_true, decide_false, List.getElem?_map, Option.map_some, List.take_succ_cons, List.take_zero, evSt, ↓evPre, ↓evPreW, evPost, evPostW, ← List.map_take, ← List.map_drop, ↓reduceIte, reduceCtorEq, Nat.reduceEqDiff, forall_const, implies_true, Nat.reduceAdd, Nat.reduceSub, Nat.reduceMul, Nat.reduceLT, Nat.reduceLeDiff, Int.reduceToNat, Int.reduceAdd, Int.reduceSub, Int.reduceNeg, Int.reduceMul, Int.reduceLT, Int.reduceLE, Int.reduceEq]
        exact ⟨k + 1, ⟨by omega, find_next hinv hc (by simp [h])⟩, by omega, .inl ⟨by simp only [aSl, dSl, ↓evPre, ↓evPreW, evPost, evPostW, ← List.map_take, ← List.map_drop, ↓reduceIte, reduceCtorEq, Nat.reduceEqDiff, forall_const, implies_true, Nat.reduceAdd, Nat.reduceSub, Nat.reduceMul, Nat.reduceLT, Nat.reduceLeDiff, Int.reduceToNat, Int.reduceAdd, Int.reduceSub, Int.reduceNeg, Int.reduceMul, Int.reduceLT, Int.reduceLE, Int.reduceEq]; rfl, rfl⟩⟩

theorem rtown_A (p : List Apt × List Dst) (c : Txt) (S : Store) (hl : p.1.length ≤ 1048576) : CallA Try.prog 39 [plV p, .str c] S fun r S' => r = findR p.1 (fun a => decide (a.city = c)) ∧ S' = S := by
  refine CallA.withNeat Try.func39 c39 fun hn => ?_
  refine CallA.fin Try.func39 c39 (Nat.le_of_ble_eq_true rfl) fun σ hσ => ?_
  simp (disch := first | omega | (simp only [List.length_cons, List.length_nil, List.length_map, List.length_drop]; omega)) only [a39, plV, aSl, dSl, List.length_map, List.take_succ_cons, List.take_zero, evSt, ↓evPre, ↓evPreW, evPost, evPostW, ← List.map_take, ← List.map_drop, ↓reduceIte, reduceCtorEq, Nat.reduceEqDiff, forall_const, implies_true, Nat.reduceAdd, Nat.reduceSub, Nat.reduceMul, Nat.reduceLT, Nat.reduceLeDiff, Int.reduceToNat, Int.reduceAdd, Int.reduceSub, Int.reduceNeg, Int.reduceMul, Int.reduceLT, Int.reduceLE, Int.reduceEq]
  refine loopF (ι := Nat) (fun k => [(1, .str c), (2, .cptr [aSl p.1, dSl p.2]), (4, .ptr S.length 0 0 0), (6, .int .i64 k)]) (fun _ => S ++ [⟨0, some (.arr 41 5 [noApt])⟩]) (fun k => k ≤ p.1.length ∧ p.1.find? (fun a => decide (a.city = c)) = (p.1.drop k).find? (fun a => decide (a.city = c))) (fun k => p.1.length - k) (fun i hi => by rw [hσ]; simp) 0 ⟨Nat.zero_le _, rfl⟩ (.inl ⟨?_, rfl⟩) ?_
  · simp only [aSl, dSl, ↓evPre, ↓evPreW, evPost, evPostW, ← List.map_take, ← List.map_drop, ↓reduceIte, reduceCtorEq, Nat.reduceEqDiff, forall_const, implies_true, Nat.reduceAdd, Nat.reduceSub, Nat.reduceMul, Nat.reduceLT, Nat.reduceLeDiff, Int.reduceToNat, Int.reduceAdd, Int.reduceSub, Int.reduceNeg, Int.reduceMul, Int.reduceLT, Int.reduceLE, Int.reduceEq]
  · rintro k ⟨hk, hinv⟩
    cases hc : p.1[k]? with
    | none =>
      have hlt : ¬ ((k : Int) < p.1.length) := by rw [List.getElem?_eq_none_iff] at hc; omega
      rw [find_end hinv hc]
      simp (disch := first | omega | (simp only [List.length_cons, List.length_nil, List.length_map, List.length_drop]; omega)) only [aSl, dSl, noApt, List.length_map, hlt, decide_false, List.take_succ_cons, List.take_zero, evSt, ↓evPre, ↓evPreW, evPost, evPostW, ← List.map_take, ← List.map_drop, ↓reduceIte, reduceCtorEq, Nat.reduceEqDiff, forall_const, implies_true, Nat.reduceAdd, Nat.reduceSub, Nat.reduceMul, Nat.reduceLT, Nat.reduceLeDiff, Int.reduceToNat, Int.reduceAdd, Int.reduceSub, Int.reduceNeg, Int.reduceMul, Int.reduceLT, Int.reduceLE, Int.reduceEq]
      exact ⟨_, S, hn.fgt _, .imm rfl, Nat.le_refl _, rfl, rfl⟩
    | some a =>
      have hlt' := (List.getElem?_eq_some_iff.1 hc).1
      have hlt : (k : Int) < p.1.length := by omega
      by_cases h : a.city = c
      · have he : decide (a.city = c) = true := by simp [h]
        rw [find_at hinv hc he]
        simp (disch := first | omega | (simp only [List.length_cons, List.length_nil, List.length_map, List.length_drop]; omega)) only [aSl, dSl, aptR, shV, noApt, List.length_map, hc, hlt, he, decide_true, List.getElem?_map, Option.map_some, List.take_succ_cons, List.take_zero, evSt, ↓evPre, ↓evPreW, evPost, evPostW, ← List.map_take, ← List.map_drop, ↓reduceIte, reduceCtorEq, Nat.reduceEqDiff, forall_const, implies_true, Nat.reduceAdd, Nat.reduceSub, Nat.reduceMul, Nat.reduceLT, Nat.reduceLeDiff, Int.reduceToNat, Int.reduceAdd, Int.reduceSub, Int.reduceNeg, Int.reduceMul, Int.reduceLT, Int.reduceLE, Int.reduceEq]
        exact ⟨_, S, hn.fgt _, .imm rfl, Nat.le_refl _, rfl, rfl⟩
      · simp (disch := first | omega | (simp only [List.length_cons, List.length_nil, List.length_map, List.length_drop]; omega)) only [aSl, dSl, aptR, shV, noApt, List.length_map, wrap_i64, hc, hlt, h, decide_true, decide_false, List.getElem?_map, Option.map_some, List.take_succ_cons, List.take_zero, evSt, ↓evPre, ↓evPreW, evPost, evPostW, ← List.map_take, ← List.map_drop, ↓reduceIte, reduceCtorEq, Nat.reduceEqDiff, forall_const, implies_true, Nat.reduceAdd, Nat.reduceSub, Nat.reduceMul, Nat.reduceLT, Nat.reduceLeDiff, Int.reduceToNat, Int.reduceAdd, Int.reduceSub, Int.reduceNeg, Int.reduceMul, Int.reduceLT, Int.reduceLE, Int.reduceEq]
        exact ⟨k + 1, ⟨by omega, find_next hinv hc (by simp [h])⟩, by omega, .inl ⟨by simp only [aSl, dSl, ↓evPre, ↓evPreW, evPost, evPostW, ← List.map_take, ← List.map_drop, ↓reduceIte, reduceCtorEq, Nat.reduceEqDiff, forall_const, implies_true, Nat.reduceAdd, Nat.reduceSub, Nat.reduceMul, Nat.reduceLT, Nat.reduceLeDiff, Int.reduceToNat, Int.reduceAdd, Int.reduceSub, Int.reduceNeg, Int.reduceMul, Int.reduceLT, Int.reduceLE, Int.reduceEq]; rfl, rfl⟩⟩

/-- The city of a code. -/
def cityF (l : List Apt) (c : Txt) : Txt := match l.find? fun a => decide (a.code = c) with
  | some a => a.city
  | none => if (l.find? fun a => decide (a.city = c)).isSome then c else []

theorem city_A (p : List Apt × List Dst) (c : Txt) (S : Store) (hl : p.1.length ≤ 1048576) : CallA Try.prog 27 [plV p, .str c] S fun r S' => r = .str (cityF p.1 c) ∧ S' = S := by
  refine CallA.withNeat Try.func27 c27 fun hn => ?_
  refine CallA.fin Try.func27 c27 (Nat.le_of_ble_eq_true rfl) fun σ hσ => ?_
  simp (disch := first | omega | (simp only [List.length_cons, List.length_nil, List.length_map, List.length_drop]; omega)) only [a27, plV, aSl, dSl, List.take_succ_cons, List.take_zero, evSt, ↓evPre, ↓evPreW, evPost, evPostW, ← List.map_take, ← List.map_drop, ↓reduceIte, reduceCtorEq, Nat.reduceEqDiff, forall_const, implies_true, Nat.reduceAdd, Nat.reduceSub, Nat.reduceMul, Nat.reduceLT, Nat.reduceLeDiff, Int.reduceToNat, Int.reduceAdd, Int.reduceSub, Int.reduceNeg, Int.reduceMul, Int.reduceLT, Int.reduceLE, Int.reduceEq]
  refine (find_A p c S hl).then ?_
  unfold findR cityF
  cases h1 : p.1.find? fun a => decide (a.code = c) with
  | some a =>
    simp (disch := first | omega | (simp only [List.length_cons, List.length_nil, List.length_map, List.length_drop]; omega)) only [aptR, shV, List.take_succ_cons, List.take_zero, evSt, ↓evPre, ↓evPreW, evPost, evPostW, ← List.map_take, ← List.map_drop, ↓reduceIte, reduceCtorEq, Nat.reduceEqDiff, forall_const, implies_true, Nat.reduceAdd, Nat.reduceSub, Nat.reduceMul, Nat.reduceLT, Nat.reduceLeDiff, Int.reduceToNat, Int.reduceAdd, Int.reduceSub, Int.reduceNeg, Int.reduceMul, Int.reduceLT, Int.reduceLE, Int.reduceEq]
    exact ⟨_, S, hn.fgt _, .imm rfl, Nat.le_refl _, rfl, rfl⟩
  | none =>
    simp (disch := first | omega | (simp only [List.length_cons, List.length_nil, List.length_map, List.length_drop]; omega)) only [noApt, List.take_succ_cons, List.take_zero, evSt, ↓evPre, ↓evPreW, evPost, evPostW, ← List.map_take, ← List.map_drop, ↓reduceIte, reduceCtorEq, Nat.reduceEqDiff, forall_const, implies_true, Nat.reduceAdd, Nat.reduceSub, Nat.reduceMul, Nat.reduceLT, Nat.reduceLeDiff, Int.reduceToNat, Int.reduceAdd, Int.reduceSub, Int.reduceNeg, Int.reduceMul, Int.reduceLT, Int.reduceLE, Int.reduceEq]
    refine (town_A p c _ hl).then ?_
    unfold findR
    cases h2 : p.1.find? fun a => decide (a.city = c) with
    | some a =>
      simp (disch := first | omega | (simp only [List.length_cons, List.length_nil, List.length_map, List.length_drop]; omega)) only [aptR, shV, Option.isSome_some, if_true, List.take_succ_cons, List.take_zero, evSt, ↓evPre, ↓evPreW, evPost, evPostW, ← List.map_take, ← List.map_drop, ↓reduceIte, reduceCtorEq, Nat.reduceEqDiff, forall_const, implies_true, Nat.reduceAdd, Nat.reduceSub, Nat.reduceMul, Nat.reduceLT, Nat.reduceLeDiff, Int.reduceToNat, Int.reduceAdd, Int.reduceSub, Int.reduceNeg, Int.reduceMul, Int.reduceLT, Int.reduceLE, Int.reduceEq]
      exact ⟨_, S, hn.fgt _, .imm rfl, Nat.le_refl _, rfl, rfl⟩
    | none =>
      simp (disch := first | omega | (simp only [List.length_cons, List.length_nil, List.length_map, List.length_drop]; omega)) only [noApt, Option.isSome_none, Bool.false_eq_true, if_false, List.take_succ_cons, List.take_zero, evSt, ↓evPre, ↓evPreW, evPost, evPostW, ← List.map_take, ← List.map_drop, ↓reduceIte, reduceCtorEq, Nat.reduceEqDiff, forall_const, implies_true, Nat.reduceAdd, Nat.reduceSub, Nat.reduceMul, Nat.reduceLT, Nat.reduceLeDiff, Int.reduceToNat, Int.reduceAdd, Int.reduceSub, Int.reduceNeg, Int.reduceMul, Int.reduceLT, Int.reduceLE, Int.reduceEq]
      exact ⟨_, S, hn.fgt _, .imm rfl, Nat.le_refl _, rfl, rfl⟩

theorem rcity_A (p : List Apt × List Dst) (c : Txt) (S : Store) (hl : p.1.length ≤ 1048576) : CallA Try.prog 30 [plV p, .str c] S fun r S' => r = .str (cityF p.1 c) ∧ S' = S := by
  refine CallA.withNeat Try.func30 c30 fun hn => ?_
  refine CallA.fin Try.func30 c30 (Nat.le_of_ble_eq_true rfl) fun σ hσ => ?_
  simp (disch := first | omega | (simp only [List.length_cons, List.length_nil, List.length_map, List.length_drop]; omega)) only [a30, plV, aSl, dSl, List.take_succ_cons, List.take_zero, evSt, ↓evPre, ↓evPreW, evPost, evPostW, ← List.map_take, ← List.map_drop, ↓reduceIte, reduceCtorEq, Nat.reduceEqDiff, forall_const, implies_true, Nat.reduceAdd, Nat.reduceSub, Nat.reduceMul, Nat.reduceLT, Nat.reduceLeDiff, Int.reduceToNat, Int.reduceAdd, Int.reduceSub, Int.reduceNeg, Int.reduceMul, Int.reduceLT, Int.reduceLE, Int.reduceEq]
  refine (rfind_A p c S hl).then ?_
  unfold findR cityF
  cases h1 : p.1.find? fun a => decide (a.code = c) with
  | some a =>
    simp (disch := first | omega | (simp only [List.length_cons, List.length_nil, List.length_map, List.length_drop]; omega)) only [aptR, shV, List.take_succ_cons, List.take_zero, evSt, ↓evPre, ↓evPreW, evPost, evPostW, ← List.map_take, ← List.map_drop, ↓reduceIte, reduceCtorEq, Nat.reduceEqDiff, forall_const, implies_true, Nat.reduceAdd, Nat.reduceSub, Nat.reduceMul, Nat.reduceLT, Nat.reduceLeDiff, Int.reduceToNat, Int.reduceAdd, Int.reduceSub, Int.reduceNeg, Int.reduceMul, Int.reduceLT, Int.reduceLE, Int.reduceEq]
    exact ⟨_, S, hn.fgt _, .imm rfl, Nat.le_refl _, rfl, rfl⟩
  | none =>
    simp (disch := first | omega | (simp only [List.length_cons, List.length_nil, List.length_map, List.length_drop]; omega)) only [noApt, List.take_succ_cons, List.take_zero, evSt, ↓evPre, ↓evPreW, evPost, evPostW, ← List.map_take, ← List.map_drop, ↓reduceIte, reduceCtorEq, Nat.reduceEqDiff, forall_const, implies_true, Nat.reduceAdd, Nat.reduceSub, Nat.reduceMul, Nat.reduceLT, Nat.reduceLeDiff, Int.reduceToNat, Int.reduceAdd, Int.reduceSub, Int.reduceNeg, Int.reduceMul, Int.reduceLT, Int.reduceLE, Int.reduceEq]
    refine (rtown_A p c _ hl).then ?_
    unfold findR
    cases h2 : p.1.find? fun a => decide (a.city = c) with
    | some a =>
      simp (disch := first | omega | (simp only [List.length_cons, List.length_nil, List.length_map, List.length_drop]; omega)) only [aptR, shV, Option.isSome_some, if_true, List.take_succ_cons, List.take_zero, evSt, ↓evPre, ↓evPreW, evPost, evPostW, ← List.map_take, ← List.map_drop, ↓reduceIte, reduceCtorEq, Nat.reduceEqDiff, forall_const, implies_true, Nat.reduceAdd, Nat.reduceSub, Nat.reduceMul, Nat.reduceLT, Nat.reduceLeDiff, Int.reduceToNat, Int.reduceAdd, Int.reduceSub, Int.reduceNeg, Int.reduceMul, Int.reduceLT, Int.reduceLE, Int.reduceEq]
      exact ⟨_, S, hn.fgt _, .imm rfl, Nat.le_refl _, rfl, rfl⟩
    | none =>
      simp (disch := first | omega | (simp only [List.length_cons, List.length_nil, List.length_map, List.length_drop]; omega)) only [noApt, Option.isSome_none, Bool.false_eq_true, if_false, List.take_succ_cons, List.take_zero, evSt, ↓evPre, ↓evPreW, evPost, evPostW, ← List.map_take, ← List.map_drop, ↓reduceIte, reduceCtorEq, Nat.reduceEqDiff, forall_const, implies_true, Nat.reduceAdd, Nat.reduceSub, Nat.reduceMul, Nat.reduceLT, Nat.reduceLeDiff, Int.reduceToNat, Int.reduceAdd, Int.reduceSub, Int.reduceNeg, Int.reduceMul, Int.reduceLT, Int.reduceLE, Int.reduceEq]
      exact ⟨_, S, hn.fgt _, .imm rfl, Nat.le_refl _, rfl, rfl⟩
end Go.Proofs.Ytbbjjnhcbfdhlaa
