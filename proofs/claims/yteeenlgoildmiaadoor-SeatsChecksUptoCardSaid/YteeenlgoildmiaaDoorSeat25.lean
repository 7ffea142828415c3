/- The reference's Check, walked: it finds faultsTo, too. -/
import Derived.Test.YteeenlgoildmiaaDoorSeat24
namespace Go.Proofs.YteeenlgoildmiaaDoor
open Go Go.AL
set_option linter.unusedSimpArgs false
set_option linter.unusedVariables false
set_option maxRecDepth 20000

/-! ### The class's name -/
def upC (c : UInt8) : Bool := decide (65 ≤ c.toNat) && decide (c.toNat ≤ 90)
theorem upper_A (c : UInt8) (S : Store) : CallA Tryd.prog 46 [.int .u8 c.toNat] S fun r S' => r = .bool (upC c) ∧ S' = S := by
  refine CallA.keep Tryd.func46 c46 (Nat.le_of_ble_eq_true rfl) fun σ hσ => ?_
  simp only [a46, ↓evPre, ↓evPreW, evPost, evPostW, ← List.map_take, ← List.map_drop, ↓reduceIte, reduceCtorEq, Nat.reduceEqDiff, forall_const, implies_true, Nat.reduceAdd, Nat.reduceSub, Nat.reduceMul, Nat.reduceLT, Nat.reduceLeDiff, Int.reduceToNat, Int.reduceAdd, Int.reduceSub, Int.reduceNeg, Int.reduceMul, Int.reduceLT, Int.reduceLE, Int.reduceEq]
  by_cases h1 : 65 ≤ (c.toNat : Int)
  · have hs : upC c = decide ((c.toNat : Int) ≤ 90) := by
      have e : decide ((c.toNat : Int) ≤ 90) = decide (c.toNat ≤ 90) := by rw [decide_eq_decide]; omega
      have : 65 ≤ c.toNat := by omega
      rw [e]
      simp [upC, this]
    simp only [h1, hs, decide_true, ↓evPre, ↓evPreW, evPost, evPostW, ← List.map_take, ← List.map_drop, ↓reduceIte, reduceCtorEq, Nat.reduceEqDiff, forall_const, implies_true, Nat.reduceAdd, Nat.reduceSub, Nat.reduceMul, Nat.reduceLT, Nat.reduceLeDiff, Int.reduceToNat, Int.reduceAdd, Int.reduceSub, Int.reduceNeg, Int.reduceMul, Int.reduceLT, Int.reduceLE, Int.reduceEq]
    intro h
    omega
  · have hs : upC c = false := by
      have : ¬ 65 ≤ c.toNat := by omega
      simp [upC, this]
    simp only [h1, hs, decide_false, ↓evPre, ↓evPreW, evPost, evPostW, ← List.map_take, ← List.map_drop, ↓reduceIte, reduceCtorEq, Nat.reduceEqDiff, forall_const, implies_true, Nat.reduceAdd, Nat.reduceSub, Nat.reduceMul, Nat.reduceLT, Nat.reduceLeDiff, Int.reduceToNat, Int.reduceAdd, Int.reduceSub, Int.reduceNeg, Int.reduceMul, Int.reduceLT, Int.reduceLE, Int.reduceEq]

def clsOk (l : Txt) : Bool := !l.any (fun c => !upC c) && decide (l.length = 1)
theorem clsOk_iff (l : Txt) : clsOk l = true ↔ nameGood l := by
  unfold clsOk nameGood
  constructor
  · intro h
    simp only [Bool.and_eq_true, Bool.not_eq_true', decide_eq_true_eq] at h
    obtain ⟨h1, h2⟩ := h
    match l, h2 with
    | [c], _ =>
      simp only [List.any_cons, List.any_nil, Bool.or_false, Bool.not_eq_false', upC, Bool.and_eq_true, decide_eq_true_eq] at h1
      exact ⟨c, rfl, h1.1, h1.2⟩
  · rintro ⟨c, rfl, h1, h2⟩
    simp [upC, h1, h2]

theorem any_take_succ {α : Type} {p : α → Bool} {l : List α} {k : Nat} {c : α} (hc : l[k]? = some c) (h : (l.take k).any p = false) (hn : p c = false) : (l.take (k + 1)).any p = false := by
  rw [List.take_add_one, hc]; simp [h, hn]
theorem any_of_get {α : Type} {p : α → Bool} {l : List α} {k : Nat} {c : α} (hc : l[k]? = some c) (h : p c = true) : l.any p = true :=
  List.any_eq_true.2 ⟨c, List.mem_of_getElem? hc, h⟩

theorem letters_A (l : Txt) (S : Store) (hl : l.length ≤ 1048576) : CallA Tryd.prog 41 [.str l, .int .i64 1] S fun r S' => r = .bool (clsOk l) ∧ S' = S := by
  refine CallA.keep Tryd.func41 c41 (Nat.le_of_ble_eq_true rfl) fun σ hσ => ?_
  simp only [a41, ↓evPre, ↓evPreW, evPost, evPostW, ← List.map_take, ← List.map_drop, ↓reduceIte, reduceCtorEq, Nat.reduceEqDiff, forall_const, implies_true, Nat.reduceAdd, Nat.reduceSub, Nat.reduceMul, Nat.reduceLT, Nat.reduceLeDiff, Int.reduceToNat, Int.reduceAdd, Int.reduceSub, Int.reduceNeg, Int.reduceMul, Int.reduceLT, Int.reduceLE, Int.reduceEq]
  refine loopA (ι := Nat) (fun k => [(0, .str l), (1, .int .i64 1), (5, .int .i64 k)]) (fun _ => S) (fun k => k ≤ l.length ∧ (l.take k).any (fun c => !upC c) = false) (fun k => l.length - k) 0 ⟨Nat.zero_le _, by simp⟩ ?_ rfl ?_
  · simp only [↓evPre, ↓evPreW, evPost, evPostW, ← List.map_take, ← List.map_drop, ↓reduceIte, reduceCtorEq, Nat.reduceEqDiff, forall_const, implies_true, Nat.reduceAdd, Nat.reduceSub, Nat.reduceMul, Nat.reduceLT, Nat.reduceLeDiff, Int.reduceToNat, Int.reduceAdd, Int.reduceSub, Int.reduceNeg, Int.reduceMul, Int.reduceLT, Int.reduceLE, Int.reduceEq]
  · rintro k ⟨hk, hall⟩
    cases hc : l[k]? with
    | none =>
      have hkl : k = l.length := by have := List.getElem?_eq_none_iff.1 hc; omega
      have hlt : ¬ ((k : Int) < l.length) := by omega
      rw [hkl, List.take_length] at hall
      simp (disch := first | omega | (simp only [List.length_cons, List.length_nil, List.length_map, List.length_drop]; omega)) only [hlt, wrap_i64, clsOk, hall, ↓evPre, ↓evPreW, evPost, evPostW, ← List.map_take, ← List.map_drop, ↓reduceIte, reduceCtorEq, Nat.reduceEqDiff, forall_const, implies_true, Nat.reduceAdd, Nat.reduceSub, Nat.reduceMul, Nat.reduceLT, Nat.reduceLeDiff, Int.reduceToNat, Int.reduceAdd, Int.reduceSub, Int.reduceNeg, Int.reduceMul, Int.reduceLT, Int.reduceLE, Int.reduceEq]
      have e : decide ((l.length : Int) = 1) = decide (l.length = 1) := by rw [decide_eq_decide]; omega
      simp [e]
    | some c =>
      have hlt : ((k : Int) < l.length) := by have := (List.getElem?_eq_some_iff.1 hc).1; omega
      simp (disch := first | omega | (simp only [List.length_cons, List.length_nil, List.length_map, List.length_drop]; omega)) only [hlt, hc, wrap_i64, ↓evPre, ↓evPreW, evPost, evPostW, ← List.map_take, ← List.map_drop, ↓reduceIte, reduceCtorEq, Nat.reduceEqDiff, forall_const, implies_true, Nat.reduceAdd, Nat.reduceSub, Nat.reduceMul, Nat.reduceLT, Nat.reduceLeDiff, Int.reduceToNat, Int.reduceAdd, Int.reduceSub, Int.reduceNeg, Int.reduceMul, Int.reduceLT, Int.reduceLE, Int.reduceEq]
      refine (upper_A c S).then ?_
      cases hu : upC c
      · have : l.any (fun c => !upC c) = true := any_of_get hc (by simp [hu])
        simp (disch := first | omega | (simp only [List.length_cons, List.length_nil, List.length_map, List.length_drop]; omega)) only [hlt, hc, hu, wrap_i64, clsOk, this, ↓evPre, ↓evPreW, evPost, evPostW, ← List.map_take, ← List.map_drop, ↓reduceIte, reduceCtorEq, Nat.reduceEqDiff, forall_const, implies_true, Nat.reduceAdd, Nat.reduceSub, Nat.reduceMul, Nat.reduceLT, Nat.reduceLeDiff, Int.reduceToNat, Int.reduceAdd, Int.reduceSub, Int.reduceNeg, Int.reduceMul, Int.reduceLT, Int.reduceLE, Int.reduceEq]
        rfl
      · simp (disch := first | omega | (simp only [List.length_cons, List.length_nil, List.length_map, List.length_drop]; omega)) only [hlt, hc, hu, wrap_i64, ↓evPre, ↓evPreW, evPost, evPostW, ← List.map_take, ← List.map_drop, ↓reduceIte, reduceCtorEq, Nat.reduceEqDiff, forall_const, implies_true, Nat.reduceAdd, Nat.reduceSub, Nat.reduceMul, Nat.reduceLT, Nat.reduceLeDiff, Int.reduceToNat, Int.reduceAdd, Int.reduceSub, Int.reduceNeg, Int.reduceMul, Int.reduceLT, Int.reduceLE, Int.reduceEq]
        exact ⟨k + 1, ⟨by omega, any_take_succ hc hall (by simp [hu])⟩, by omega, by omega⟩

theorem class_A (l : Txt) (S : Store) (hl : l.length ≤ 1048576) : CallA Tryd.prog 33 [.str l] S fun r S' => r = .bool (clsOk l) ∧ S' = S := by
  refine CallA.keep Tryd.func33 c33 (Nat.le_of_ble_eq_true rfl) fun σ hσ => ?_
  simp only [a33, ↓evPre, ↓evPreW, evPost, evPostW, ← List.map_take, ← List.map_drop, ↓reduceIte, reduceCtorEq, Nat.reduceEqDiff, forall_const, implies_true, Nat.reduceAdd, Nat.reduceSub, Nat.reduceMul, Nat.reduceLT, Nat.reduceLeDiff, Int.reduceToNat, Int.reduceAdd, Int.reduceSub, Int.reduceNeg, Int.reduceMul, Int.reduceLT, Int.reduceLE, Int.reduceEq]
  refine (letters_A l S hl).then ?_
  simp only [↓evPre, ↓evPreW, evPost, evPostW, ← List.map_take, ← List.map_drop, ↓reduceIte, reduceCtorEq, Nat.reduceEqDiff, forall_const, implies_true, Nat.reduceAdd, Nat.reduceSub, Nat.reduceMul, Nat.reduceLT, Nat.reduceLeDiff, Int.reduceToNat, Int.reduceAdd, Int.reduceSub, Int.reduceNeg, Int.reduceMul, Int.reduceLT, Int.reduceLE, Int.reduceEq]

set_option maxHeartbeats 4000000 in
theorem refcheck_A (l : List Sea) (S : Store) (hl : l.length ≤ 999) (hb : ∀ s ∈ l, s.letter.length ≤ 1048576) : CallA Tryd.prog 15 [seSl l] S fun r S' => r = fltSl (faultsTo l l.length) ∧ S' = S := by
  refine CallA.withNeat Tryd.func15 c15 fun hn => ?_
  refine CallA.fin Tryd.func15 c15 (Nat.le_of_ble_eq_true rfl) fun σ hσ => ?_
  have n99 : ¬ (999 : Int) < l.length := by omega
  simp (disch := first | omega | (simp only [List.length_cons, List.length_nil, List.length_map, List.length_drop]; omega)) only [a15, seSl, List.length_map, n99, decide_false, evSt, ↓evPre, ↓evPreW, evPost, evPostW, ← List.map_take, ← List.map_drop, ↓reduceIte, reduceCtorEq, Nat.reduceEqDiff, forall_const, implies_true, Nat.reduceAdd, Nat.reduceSub, Nat.reduceMul, Nat.reduceLT, Nat.reduceLeDiff, Int.reduceToNat, Int.reduceAdd, Int.reduceSub, Int.reduceNeg, Int.reduceMul, Int.reduceLT, Int.reduceLE, Int.reduceEq]
  refine loopF (ι := Nat × V × Store) (fun i => [(0, seSl l), (3, i.2.1), (4, .int .i64 i.1)]) (fun i => S ++ i.2.2) (fun i => i.1 ≤ l.length ∧ Out0 S (faultsTo l i.1) i.2.1 i.2.2) (fun i => l.length - i.1) (fun i hi => by rw [hσ]; simp) (0, .nilSl, []) ⟨Nat.zero_le _, .inl ⟨rfl, rfl, rfl⟩⟩ (.inl ⟨?_, (List.append_nil S).symm⟩) ?_
  · simp only [seSl, ↓evPre, ↓evPreW, evPost, evPostW, ← List.map_take, ← List.map_drop, ↓reduceIte, reduceCtorEq, Nat.reduceEqDiff, forall_const, implies_true, Nat.reduceAdd, Nat.reduceSub, Nat.reduceMul, Nat.reduceLT, Nat.reduceLeDiff, Int.reduceToNat, Int.reduceAdd, Int.reduceSub, Int.reduceNeg, Int.reduceMul, Int.reduceLT, Int.reduceLE, Int.reduceEq]
    try rfl
  rintro ⟨k, cell, T⟩ ⟨hk, ho⟩
  simp only at hk ho ⊢
  cases hc : l[k]? with
  | none =>
    have hge : l.length ≤ k := List.getElem?_eq_none_iff.1 hc
    have hlt : ¬ ((k : Int) < l.length) := by omega
    have e : k = l.length := by omega
    rw [e] at ho
    simp (disch := first | omega | (simp only [List.length_cons, List.length_nil, List.length_map, List.length_drop]; omega)) only [seSl, List.length_map, hlt, decide_false, evSt, ↓evPre, ↓evPreW, evPost, evPostW, ← List.map_take, ← List.map_drop, ↓reduceIte, reduceCtorEq, Nat.reduceEqDiff, forall_const, implies_true, Nat.reduceAdd, Nat.reduceSub, Nat.reduceMul, Nat.reduceLT, Nat.reduceLeDiff, Int.reduceToNat, Int.reduceAdd, Int.reduceSub, Int.reduceNeg, Int.reduceMul, Int.reduceLT, Int.reduceLE, Int.reduceEq]
    exact ⟨_, S, (out0_end hn ho).1, (out0_end hn ho).2, Nat.le_refl _, rfl, rfl⟩
  | some s =>
    have hlt' := (List.getElem?_eq_some_iff.1 hc).1
    have hlt : (k : Int) < l.length := by omega
    have hfl := faultsTo_len l k
    have hstep : faultsTo l (k + 1) = faultsTo l k ++ faultsAt l k s := by rw [faultsTo, hc]
    have hkl : (k : Int) ≤ l.length := by omega
    have hk1 : (k : Int) + 1 = ((k + 1 : Nat) : Int) := by omega
    have hadd := seatAt_add (i := k) (by omega)
    have hbs := hb s (List.mem_of_getElem? hc)
    have mid : Mid S s (S ++ T).length (faultsTo l k) cell (T ++ [⟨0, some (.arr 32 3 [[.int .i64 s.row, .str s.letter, .int .i64 s.has]])⟩]) := ho.mid s
    generalize hS1 : S ++ T = S1 at mid ⊢
    simp (disch := first | omega | (simp only [List.length_cons, List.length_nil, List.length_map, List.length_drop]; omega)) only [seSl, seaR, hlt, wrap_i64, decide_true, List.length_map, List.getElem?_map, hc, Option.map_some, evSt, ↓evPre, ↓evPreW, evPost, evPostW, ← List.map_take, ← List.map_drop, ↓reduceIte, reduceCtorEq, Nat.reduceEqDiff, forall_const, implies_true, Nat.reduceAdd, Nat.reduceSub, Nat.reduceMul, Nat.reduceLT, Nat.reduceLeDiff, Int.reduceToNat, Int.reduceAdd, Int.reduceSub, Int.reduceNeg, Int.reduceMul, Int.reduceLT, Int.reduceLE, Int.reduceEq]
    refine (decimalG_A k _ (by omega)).then ?_
    rw [show S1 ++ [(⟨0, some (.arr 32 3 [[.int .i64 s.row, .str s.letter, .int .i64 s.has]])⟩ : AL.Obj)] = S ++ (T ++ [⟨0, some (.arr 32 3 [[.int .i64 s.row, .str s.letter, .int .i64 s.has]])⟩]) by rw [← hS1, List.append_assoc]]
    generalize T ++ [(⟨0, some (.arr 32 3 [[.int .i64 s.row, .str s.letter, .int .i64 s.has]])⟩ : AL.Obj)] = U at mid ⊢
    generalize S1.length = pid at mid ⊢
    have hob0 := mid.obj
    rw [seaR] at hob0
    have fin : ∀ (cell' : V) (U' : Store), Mid S s pid (faultsTo l (k + 1)) cell' U' → ∃ T', Out0 S (faultsTo l (k + 1)) cell' T' ∧ Fgt (S ++ U') (S ++ T') ∧ cell'.under (S.length + T'.length) = true := fun cell' U' h => by
      obtain ⟨T', a, b, c⟩ := mid_end hn h
      exact ⟨T', a, b, by rw [← List.length_append]; exact c⟩
    have twi : ∀ j, j < k → ∀ d, l[j]? = some d → (l.take (j + 1)).any (sameS s) = ((l.take j).any (sameS s) || (decide (d.row = s.row) && decide (d.letter = s.letter))) := fun j _ d hd => by
      rw [List.take_add_one, hd]
      simp [sameS]
    generalize hF1 : faultsTo l (k + 1) = F1 at *
    generalize faultsTo l k = F0 at *
    by_cases b1 : s.row < 1
    · have hA : argBad s := by unfold argBad; omega
      cases hN : clsOk s.letter with
      | true =>
        have hN2 := (clsOk_iff s.letter).1 hN
        simp (disch := first | omega | (simp only [List.length_cons, List.length_nil, List.length_map, List.length_drop]; omega)) only [hadd, seSl, hlt, hkl, if_true, hk1, wrap_i64, decide_true, decide_false, List.length_map, List.take_succ_cons, List.take_zero, hob0, b1, evSt, ↓evPre, ↓evPreW, evPost, evPostW, ← List.map_take, ← List.map_drop, ↓reduceIte, reduceCtorEq, Nat.reduceEqDiff, forall_const, implies_true, Nat.reduceAdd, Nat.reduceSub, Nat.reduceMul, Nat.reduceLT, Nat.reduceLeDiff, Int.reduceToNat, Int.reduceAdd, Int.reduceSub, Int.reduceNeg, Int.reduceMul, Int.reduceLT, Int.reduceLE, Int.reduceEq]
        refine mid_app (f := ⟨2, seatAt k⟩) mid (by (try simp only [List.length_append, List.length_cons, List.length_nil]); omega) fun c1 U1 g1 => ?_
        have hob1 := g1.obj
        rw [seaR] at hob1
        simp (disch := first | omega | (simp only [List.length_cons, List.length_nil, List.length_map, List.length_drop]; omega)) only [hadd, seSl, hlt, hkl, if_true, hk1, wrap_i64, decide_true, decide_false, List.length_map, List.take_succ_cons, List.take_zero, hob1, b1, evSt, ↓evPre, ↓evPreW, evPost, evPostW, ← List.map_take, ← List.map_drop, ↓reduceIte, reduceCtorEq, Nat.reduceEqDiff, forall_const, implies_true, Nat.reduceAdd, Nat.reduceSub, Nat.reduceMul, Nat.reduceLT, Nat.reduceLeDiff, Int.reduceToNat, Int.reduceAdd, Int.reduceSub, Int.reduceNeg, Int.reduceMul, Int.reduceLT, Int.reduceLE, Int.reduceEq]
        refine (class_A s.letter _ hbs).then ?_
        simp (disch := first | omega | (simp only [List.length_cons, List.length_nil, List.length_map, List.length_drop]; omega)) only [hadd, seSl, hlt, hkl, if_true, hk1, wrap_i64, decide_true, decide_false, List.length_map, List.take_succ_cons, List.take_zero, hN, hob1, b1, evSt, ↓evPre, ↓evPreW, evPost, evPostW, ← List.map_take, ← List.map_drop, ↓reduceIte, reduceCtorEq, Nat.reduceEqDiff, forall_const, implies_true, Nat.reduceAdd, Nat.reduceSub, Nat.reduceMul, Nat.reduceLT, Nat.reduceLeDiff, Int.reduceToNat, Int.reduceAdd, Int.reduceSub, Int.reduceNeg, Int.reduceMul, Int.reduceLT, Int.reduceLE, Int.reduceEq]
        refine loopA (ι := Nat) (fun j => [(0, seSl l), (3, c1), (4, .int .i64 k), (5, .ptr pid 0 0 0), (6, .str (seatAt k)), (7, .bool ((l.take j).any (sameS s))), (8, .int .i64 j)]) (fun _ => S ++ U1) (fun j => j ≤ k) (fun j => k - j) 0 (Nat.zero_le _) ?_ rfl ?_
        · simp only [seSl, List.take_zero, List.any_nil, ↓evPre, ↓evPreW, evPost, evPostW, ← List.map_take, ← List.map_drop, ↓reduceIte, reduceCtorEq, Nat.reduceEqDiff, forall_const, implies_true, Nat.reduceAdd, Nat.reduceSub, Nat.reduceMul, Nat.reduceLT, Nat.reduceLeDiff, Int.reduceToNat, Int.reduceAdd, Int.reduceSub, Int.reduceNeg, Int.reduceMul, Int.reduceLT, Int.reduceLE, Int.reduceEq]
        · intro j hj
          by_cases hjk : j < k
          · have hlt2 : (j : Int) < k := by omega
            have hd : l[j]? = some l[j] := List.getElem?_eq_getElem (by omega)
            generalize l[j] = d at hd
            have hs := twi j hjk d hd
            cases ht : (l.take j).any (sameS s) with
            | true =>
              rw [ht, Bool.true_or] at hs
              simp (disch := first | omega | (simp only [List.length_cons, List.length_nil, List.length_map, List.length_drop]; omega)) only [hob1, seSl, seaR, List.length_map, wrap_i64, hc, hd, hlt2, decide_true, List.getElem?_map, Option.map_some, evSt, ↓evPre, ↓evPreW, evPost, evPostW, ← List.map_take, ← List.map_drop, ↓reduceIte, reduceCtorEq, Nat.reduceEqDiff, forall_const, implies_true, Nat.reduceAdd, Nat.reduceSub, Nat.reduceMul, Nat.reduceLT, Nat.reduceLeDiff, Int.reduceToNat, Int.reduceAdd, Int.reduceSub, Int.reduceNeg, Int.reduceMul, Int.reduceLT, Int.reduceLE, Int.reduceEq]
              exact ⟨j + 1, by omega, by omega, by simp [hs, seSl], rfl⟩
            | false =>
              rw [ht, Bool.false_or] at hs
              by_cases hr : d.row = s.row
              · rw [decide_eq_true hr, Bool.true_and] at hs
                simp (disch := first | omega | (simp only [List.length_cons, List.length_nil, List.length_map, List.length_drop]; omega)) only [hob1, hr, seSl, seaR, List.length_map, wrap_i64, hc, hd, hlt2, decide_true, List.getElem?_map, Option.map_some, evSt, ↓evPre, ↓evPreW, evPost, evPostW, ← List.map_take, ← List.map_drop, ↓reduceIte, reduceCtorEq, Nat.reduceEqDiff, forall_const, implies_true, Nat.reduceAdd, Nat.reduceSub, Nat.reduceMul, Nat.reduceLT, Nat.reduceLeDiff, Int.reduceToNat, Int.reduceAdd, Int.reduceSub, Int.reduceNeg, Int.reduceMul, Int.reduceLT, Int.reduceLE, Int.reduceEq]
                exact ⟨j + 1, by omega, by omega, by simp [hs, seSl], rfl⟩
              · rw [decide_eq_false hr, Bool.false_and] at hs
                simp (disch := first | omega | (simp only [List.length_cons, List.length_nil, List.length_map, List.length_drop]; omega)) only [hob1, hr, seSl, seaR, List.length_map, wrap_i64, hc, hd, hlt2, decide_true, decide_false, List.getElem?_map, Option.map_some, evSt, ↓evPre, ↓evPreW, evPost, evPostW, ← List.map_take, ← List.map_drop, ↓reduceIte, reduceCtorEq, Nat.reduceEqDiff, forall_const, implies_true, Nat.reduceAdd, Nat.reduceSub, Nat.reduceMul, Nat.reduceLT, Nat.reduceLeDiff, Int.reduceToNat, Int.reduceAdd, Int.reduceSub, Int.reduceNeg, Int.reduceMul, Int.reduceLT, Int.reduceLE, Int.reduceEq]
                exact ⟨j + 1, by omega, by omega, by simp [hs, seSl], rfl⟩
          have e : j = k := by omega
          subst e
          have hlt3 : ¬ ((j : Int) < j) := by omega
          cases hT : (l.take j).any (sameS s) with
          | true =>
            have hF : F1 = F0 ++ [⟨2, seatAt j⟩] ++ [⟨6, seatAt j⟩] := by
              rw [hstep, faultsAt, if_pos hA, if_pos hN2, if_pos hT]
              simp only [List.append_assoc, List.nil_append, List.append_nil, List.cons_append]
            simp (disch := first | omega | (simp only [List.length_cons, List.length_nil, List.length_map, List.length_drop]; omega)) only [hlt3, hT, hk1, seSl, wrap_i64, decide_true, decide_false, List.take_succ_cons, List.take_zero, evSt, ↓evPre, ↓evPreW, evPost, evPostW, ← List.map_take, ← List.map_drop, ↓reduceIte, reduceCtorEq, Nat.reduceEqDiff, forall_const, implies_true, Nat.reduceAdd, Nat.reduceSub, Nat.reduceMul, Nat.reduceLT, Nat.reduceLeDiff, Int.reduceToNat, Int.reduceAdd, Int.reduceSub, Int.reduceNeg, Int.reduceMul, Int.reduceLT, Int.reduceLE, Int.reduceEq]
            refine mid_app (f := ⟨6, seatAt j⟩) g1 (by (try simp only [List.length_append, List.length_cons, List.length_nil]); omega) fun c9 U9 g9 => ?_
            simp (disch := first | omega | (simp only [List.length_cons, List.length_nil, List.length_map, List.length_drop]; omega)) only [hlt3, hT, hk1, seSl, wrap_i64, decide_true, decide_false, List.take_succ_cons, List.take_zero, evSt, ↓evPre, ↓evPreW, evPost, evPostW, ← List.map_take, ← List.map_drop, ↓reduceIte, reduceCtorEq, Nat.reduceEqDiff, forall_const, implies_true, Nat.reduceAdd, Nat.reduceSub, Nat.reduceMul, Nat.reduceLT, Nat.reduceLeDiff, Int.reduceToNat, Int.reduceAdd, Int.reduceSub, Int.reduceNeg, Int.reduceMul, Int.reduceLT, Int.reduceLE, Int.reduceEq]
            rw [← hF] at g9
            obtain ⟨T2, o1, o2, o3⟩ := fin _ _ g9
            exact ⟨(j + 1, _, T2), ⟨by simp only; omega, by rw [hF1]; exact o1⟩, by simp only; omega, back_under o2 ⟨rfl, rfl, rfl, trivial⟩ (by simp [V.under, seSl, o3])⟩
          | false =>
            have hF : F1 = F0 ++ [⟨2, seatAt j⟩] := by
              rw [hstep, faultsAt, if_pos hA, if_pos hN2, if_neg (by rw [hT]; exact Bool.noConfusion)]
              simp only [List.append_assoc, List.nil_append, List.append_nil, List.cons_append]
            simp (disch := first | omega | (simp only [List.length_cons, List.length_nil, List.length_map, List.length_drop]; omega)) only [hlt3, hT, hk1, seSl, wrap_i64, decide_true, decide_false, List.take_succ_cons, List.take_zero, evSt, ↓evPre, ↓evPreW, evPost, evPostW, ← List.map_take, ← List.map_drop, ↓reduceIte, reduceCtorEq, Nat.reduceEqDiff, forall_const, implies_true, Nat.reduceAdd, Nat.reduceSub, Nat.reduceMul, Nat.reduceLT, Nat.reduceLeDiff, Int.reduceToNat, Int.reduceAdd, Int.reduceSub, Int.reduceNeg, Int.reduceMul, Int.reduceLT, Int.reduceLE, Int.reduceEq]
            have g9 := g1
            rw [← hF] at g9
            obtain ⟨T2, o1, o2, o3⟩ := fin _ _ g9
            exact ⟨(j + 1, _, T2), ⟨by simp only; omega, by rw [hF1]; exact o1⟩, by simp only; omega, back_under o2 ⟨rfl, rfl, rfl, trivial⟩ (by simp [V.under, seSl, o3])⟩
      | false =>
        have hN2 : ¬ nameGood s.letter := fun h => by rw [(clsOk_iff s.letter).2 h] at hN; cases hN
        simp (disch := first | omega | (simp only [List.length_cons, List.length_nil, List.length_map, List.length_drop]; omega)) only [hadd, seSl, hlt, hkl, if_true, hk1, wrap_i64, decide_true, decide_false, List.length_map, List.take_succ_cons, List.take_zero, hob0, b1, evSt, ↓evPre, ↓evPreW, evPost, evPostW, ← List.map_take, ← List.map_drop, ↓reduceIte, reduceCtorEq, Nat.reduceEqDiff, forall_const, implies_true, Nat.reduceAdd, Nat.reduceSub, Nat.reduceMul, Nat.reduceLT, Nat.reduceLeDiff, Int.reduceToNat, Int.reduceAdd, Int.reduceSub, Int.reduceNeg, Int.reduceMul, Int.reduceLT, Int.reduceLE, Int.reduceEq]
        refine mid_app (f := ⟨2, seatAt k⟩) mid (by (try simp only [List.length_append, List.length_cons, List.length_nil]); omega) fun c1 U1 g1 => ?_
        have hob1 := g1.obj
        rw [seaR] at hob1
        simp (disch := first | omega | (simp only [List.length_cons, List.length_nil, List.length_map, List.length_drop]; omega)) only [hadd, seSl, hlt, hkl, if_true, hk1, wrap_i64, decide_true, decide_false, List.length_map, List.take_succ_cons, List.take_zero, hob1, b1, evSt, ↓evPre, ↓evPreW, evPost, evPostW, ← List.map_take, ← List.map_drop, ↓reduceIte, reduceCtorEq, Nat.reduceEqDiff, forall_const, implies_true, Nat.reduceAdd, Nat.reduceSub, Nat.reduceMul, Nat.reduceLT, Nat.reduceLeDiff, Int.reduceToNat, Int.reduceAdd, Int.reduceSub, Int.reduceNeg, Int.reduceMul, Int.reduceLT, Int.reduceLE, Int.reduceEq]
        refine (class_A s.letter _ hbs).then ?_
        simp (disch := first | omega | (simp only [List.length_cons, List.length_nil, List.length_map, List.length_drop]; omega)) only [hadd, seSl, hlt, hkl, if_true, hk1, wrap_i64, decide_true, decide_false, List.length_map, List.take_succ_cons, List.take_zero, hN, hob1, b1, evSt, ↓evPre, ↓evPreW, evPost, evPostW, ← List.map_take, ← List.map_drop, ↓reduceIte, reduceCtorEq, Nat.reduceEqDiff, forall_const, implies_true, Nat.reduceAdd, Nat.reduceSub, Nat.reduceMul, Nat.reduceLT, Nat.reduceLeDiff, Int.reduceToNat, Int.reduceAdd, Int.reduceSub, Int.reduceNeg, Int.reduceMul, Int.reduceLT, Int.reduceLE, Int.reduceEq]
        refine mid_app (f := ⟨5, seatAt k⟩) g1 (by (try simp only [List.length_append, List.length_cons, List.length_nil]); omega) fun c2 U2 g2 => ?_
        have hob2 := g2.obj
        rw [seaR] at hob2
        simp (disch := first | omega | (simp only [List.length_cons, List.length_nil, List.length_map, List.length_drop]; omega)) only [hadd, seSl, hlt, hkl, if_true, hk1, wrap_i64, decide_true, decide_false, List.length_map, List.take_succ_cons, List.take_zero, hob2, b1, evSt, ↓evPre, ↓evPreW, evPost, evPostW, ← List.map_take, ← List.map_drop, ↓reduceIte, reduceCtorEq, Nat.reduceEqDiff, forall_const, implies_true, Nat.reduceAdd, Nat.reduceSub, Nat.reduceMul, Nat.reduceLT, Nat.reduceLeDiff, Int.reduceToNat, Int.reduceAdd, Int.reduceSub, Int.reduceNeg, Int.reduceMul, Int.reduceLT, Int.reduceLE, Int.reduceEq]
        refine loopA (ι := Nat) (fun j => [(0, seSl l), (3, c2), (4, .int .i64 k), (5, .ptr pid 0 0 0), (6, .str (seatAt k)), (7, .bool ((l.take j).any (sameS s))), (8, .int .i64 j)]) (fun _ => S ++ U2) (fun j => j ≤ k) (fun j => k - j) 0 (Nat.zero_le _) ?_ rfl ?_
        · simp only [seSl, List.take_zero, List.any_nil, ↓evPre, ↓evPreW, evPost, evPostW, ← List.map_take, ← List.map_drop, ↓reduceIte, reduceCtorEq, Nat.reduceEqDiff, forall_const, implies_true, Nat.reduceAdd, Nat.reduceSub, Nat.reduceMul, Nat.reduceLT, Nat.reduceLeDiff, Int.reduceToNat, Int.reduceAdd, Int.reduceSub, Int.reduceNeg, Int.reduceMul, Int.reduceLT, Int.reduceLE, Int.reduceEq]
        · intro j hj
          by_cases hjk : j < k
          · have hlt2 : (j : Int) < k := by omega
            have hd : l[j]? = some l[j] := List.getElem?_eq_getElem (by omega)
            generalize l[j] = d at hd
            have hs := twi j hjk d hd
            cases ht : (l.take j).any (sameS s) with
            | true =>
              rw [ht, Bool.true_or] at hs
              simp (disch := first | omega | (simp only [List.length_cons, List.length_nil, List.length_map, List.length_drop]; omega)) only [hob2, seSl, seaR, List.length_map, wrap_i64, hc, hd, hlt2, decide_true, List.getElem?_map, Option.map_some, evSt, ↓evPre, ↓evPreW, evPost, evPostW, ← List.map_take, ← List.map_drop, ↓reduceIte, reduceCtorEq, Nat.reduceEqDiff, forall_const, implies_true, Nat.reduceAdd, Nat.reduceSub, Nat.reduceMul, Nat.reduceLT, Nat.reduceLeDiff, Int.reduceToNat, Int.reduceAdd, Int.reduceSub, Int.reduceNeg, Int.reduceMul, Int.reduceLT, Int.reduceLE, Int.reduceEq]
              exact ⟨j + 1, by omega, by omega, by simp [hs, seSl], rfl⟩
            | false =>
              rw [ht, Bool.false_or] at hs
              by_cases hr : d.row = s.row
              · rw [decide_eq_true hr, Bool.true_and] at hs
                simp (disch := first | omega | (simp only [List.length_cons, List.length_nil, List.length_map, List.length_drop]; omega)) only [hob2, hr, seSl, seaR, List.length_map, wrap_i64, hc, hd, hlt2, decide_true, List.getElem?_map, Option.map_some, evSt, ↓evPre, ↓evPreW, evPost, evPostW, ← List.map_take, ← List.map_drop, ↓reduceIte, reduceCtorEq, Nat.reduceEqDiff, forall_const, implies_true, Nat.reduceAdd, Nat.reduceSub, Nat.reduceMul, Nat.reduceLT, Nat.reduceLeDiff, Int.reduceToNat, Int.reduceAdd, Int.reduceSub, Int.reduceNeg, Int.reduceMul, Int.reduceLT, Int.reduceLE, Int.reduceEq]
                exact ⟨j + 1, by omega, by omega, by simp [hs, seSl], rfl⟩
              · rw [decide_eq_false hr, Bool.false_and] at hs
                simp (disch := first | omega | (simp only [List.length_cons, List.length_nil, List.length_map, List.length_drop]; omega)) only [hob2, hr, seSl, seaR, List.length_map, wrap_i64, hc, hd, hlt2, decide_true, decide_false, List.getElem?_map, Option.map_some, evSt, ↓evPre, ↓evPreW, evPost, evPostW, ← List.map_take, ← List.map_drop, ↓reduceIte, reduceCtorEq, Nat.reduceEqDiff, forall_const, implies_true, Nat.reduceAdd, Nat.reduceSub, Nat.reduceMul, Nat.reduceLT, Nat.reduceLeDiff, Int.reduceToNat, Int.reduceAdd, Int.reduceSub, Int.reduceNeg, Int.reduceMul, Int.reduceLT, Int.reduceLE, Int.reduceEq]
                exact ⟨j + 1, by omega, by omega, by simp [hs, seSl], rfl⟩
          have e : j = k := by omega
          subst e
          have hlt3 : ¬ ((j : Int) < j) := by omega
          cases hT : (l.take j).any (sameS s) with
          | true =>
            have hF : F1 = F0 ++ [⟨2, seatAt j⟩] ++ [⟨5, seatAt j⟩] ++ [⟨6, seatAt j⟩] := by
              rw [hstep, faultsAt, if_pos hA, if_neg hN2, if_pos hT]
              simp only [List.append_assoc, List.nil_append, List.append_nil, List.cons_append]
            simp (disch := first | omega | (simp only [List.length_cons, List.length_nil, List.length_map, List.length_drop]; omega)) only [hlt3, hT, hk1, seSl, wrap_i64, decide_true, decide_false, List.take_succ_cons, List.take_zero, evSt, ↓evPre, ↓evPreW, evPost, evPostW, ← List.map_take, ← List.map_drop, ↓reduceIte, reduceCtorEq, Nat.reduceEqDiff, forall_const, implies_true, Nat.reduceAdd, Nat.reduceSub, Nat.reduceMul, Nat.reduceLT, Nat.reduceLeDiff, Int.reduceToNat, Int.reduceAdd, Int.reduceSub, Int.reduceNeg, Int.reduceMul, Int.reduceLT, Int.reduceLE, Int.reduceEq]
            refine mid_app (f := ⟨6, seatAt j⟩) g2 (by (try simp only [List.length_append, List.length_cons, List.length_nil]); omega) fun c9 U9 g9 => ?_
            simp (disch := first | omega | (simp only [List.length_cons, List.length_nil, List.length_map, List.length_drop]; omega)) only [hlt3, hT, hk1, seSl, wrap_i64, decide_true, decide_false, List.take_succ_cons, List.take_zero, evSt, ↓evPre, ↓evPreW, evPost, evPostW, ← List.map_take, ← List.map_drop, ↓reduceIte, reduceCtorEq, Nat.reduceEqDiff, forall_const, implies_true, Nat.reduceAdd, Nat.reduceSub, Nat.reduceMul, Nat.reduceLT, Nat.reduceLeDiff, Int.reduceToNat, Int.reduceAdd, Int.reduceSub, Int.reduceNeg, Int.reduceMul, Int.reduceLT, Int.reduceLE, Int.reduceEq]
            rw [← hF] at g9
            obtain ⟨T2, o1, o2, o3⟩ := fin _ _ g9
            exact ⟨(j + 1, _, T2), ⟨by simp only; omega, by rw [hF1]; exact o1⟩, by simp only; omega, back_under o2 ⟨rfl, rfl, rfl, trivial⟩ (by simp [V.under, seSl, o3])⟩
          | false =>
            have hF : F1 = F0 ++ [⟨2, seatAt j⟩] ++ [⟨5, seatAt j⟩] := by
              rw [hstep, faultsAt, if_pos hA, if_neg hN2, if_neg (by rw [hT]; exact Bool.noConfusion)]
              simp only [List.append_assoc, List.nil_append, List.append_nil, List.cons_append]
            simp (disch := first | omega | (simp only [List.length_cons, List.length_nil, List.length_map, List.length_drop]; omega)) only [hlt3, hT, hk1, seSl, wrap_i64, decide_true, decide_false, List.take_succ_cons, List.take_zero, evSt, ↓evPre, ↓evPreW, evPost, evPostW, ← List.map_take, ← List.map_drop, ↓reduceIte, reduceCtorEq, Nat.reduceEqDiff, forall_const, implies_true, Nat.reduceAdd, Nat.reduceSub, Nat.reduceMul, Nat.reduceLT, Nat.reduceLeDiff, Int.reduceToNat, Int.reduceAdd, Int.reduceSub, Int.reduceNeg, Int.reduceMul, Int.reduceLT, Int.reduceLE, Int.reduceEq]
            have g9 := g2
            rw [← hF] at g9
            obtain ⟨T2, o1, o2, o3⟩ := fin _ _ g9
            exact ⟨(j + 1, _, T2), ⟨by simp only; omega, by rw [hF1]; exact o1⟩, by simp only; omega, back_under o2 ⟨rfl, rfl, rfl, trivial⟩ (by simp [V.under, seSl, o3])⟩
    by_cases b2 : 999 < s.row
    · have hA : argBad s := by unfold argBad; omega
      cases hN : clsOk s.letter with
      | true =>
        have hN2 := (clsOk_iff s.letter).1 hN
        simp (disch := first | omega | (simp only [List.length_cons, List.length_nil, List.length_map, List.length_drop]; omega)) only [hadd, seSl, hlt, hkl, if_true, hk1, wrap_i64, decide_true, decide_false, List.length_map, List.take_succ_cons, List.take_zero, hob0, b1, b2, evSt, ↓evPre, ↓evPreW, evPost, evPostW, ← List.map_take, ← List.map_drop, ↓reduceIte, reduceCtorEq, Nat.reduceEqDiff, forall_const, implies_true, Nat.reduceAdd, Nat.reduceSub, Nat.reduceMul, Nat.reduceLT, Nat.reduceLeDiff, Int.reduceToNat, Int.reduceAdd, Int.reduceSub, Int.reduceNeg, Int.reduceMul, Int.reduceLT, Int.reduceLE, Int.reduceEq]
        refine mid_app (f := ⟨2, seatAt k⟩) mid (by (try simp only [List.length_append, List.length_cons, List.length_nil]); omega) fun c1 U1 g1 => ?_
        have hob1 := g1.obj
        rw [seaR] at hob1
        simp (disch := first | omega | (simp only [List.length_cons, List.length_nil, List.length_map, List.length_drop]; omega)) only [hadd, seSl, hlt, hkl, if_true, hk1, wrap_i64, decide_true, decide_false, List.length_map, List.take_succ_cons, List.take_zero, hob1, b1, b2, evSt, ↓evPre, ↓evPreW, evPost, evPostW, ← List.map_take, ← List.map_drop, ↓reduceIte, reduceCtorEq, Nat.reduceEqDiff, forall_const, implies_true, Nat.reduceAdd, Nat.reduceSub, Nat.reduceMul, Nat.reduceLT, Nat.reduceLeDiff, Int.reduceToNat, Int.reduceAdd, Int.reduceSub, Int.reduceNeg, Int.reduceMul, Int.reduceLT, Int.reduceLE, Int.reduceEq]
        refine (class_A s.letter _ hbs).then ?_
        simp (disch := first | omega | (simp only [List.length_cons, List.length_nil, List.length_map, List.length_drop]; omega)) only [hadd, seSl, hlt, hkl, if_true, hk1, wrap_i64, decide_true, decide_false, List.length_map, List.take_succ_cons, List.take_zero, hN, hob1, b1, b2, evSt, ↓evPre, ↓evPreW, evPost, evPostW, ← List.map_take, ← List.map_drop, ↓reduceIte, reduceCtorEq, Nat.reduceEqDiff, forall_const, implies_true, Nat.reduceAdd, Nat.reduceSub, Nat.reduceMul, Nat.reduceLT, Nat.reduceLeDiff, Int.reduceToNat, Int.reduceAdd, Int.reduceSub, Int.reduceNeg, Int.reduceMul, Int.reduceLT, Int.reduceLE, Int.reduceEq]
        refine loopA (ι := Nat) (fun j => [(0, seSl l), (3, c1), (4, .int .i64 k), (5, .ptr pid 0 0 0), (6, .str (seatAt k)), (7, .bool ((l.take j).any (sameS s))), (8, .int .i64 j)]) (fun _ => S ++ U1) (fun j => j ≤ k) (fun j => k - j) 0 (Nat.zero_le _) ?_ rfl ?_
        · simp only [seSl, List.take_zero, List.any_nil, ↓evPre, ↓evPreW, evPost, evPostW, ← List.map_take, ← List.map_drop, ↓reduceIte, reduceCtorEq, Nat.reduceEqDiff, forall_const, implies_true, Nat.reduceAdd, Nat.reduceSub, Nat.reduceMul, Nat.reduceLT, Nat.reduceLeDiff, Int.reduceToNat, Int.reduceAdd, Int.reduceSub, Int.reduceNeg, Int.reduceMul, Int.reduceLT, Int.reduceLE, Int.reduceEq]
        · intro j hj
          by_cases hjk : j < k
          · have hlt2 : (j : Int) < k := by omega
            have hd : l[j]? = some l[j] := List.getElem?_eq_getElem (by omega)
            generalize l[j] = d at hd
            have hs := twi j hjk d hd
            cases ht : (l.take j).any (sameS s) with
            | true =>
              rw [ht, Bool.true_or] at hs
              simp (disch := first | omega | (simp only [List.length_cons, List.length_nil, List.length_map, List.length_drop]; omega)) only [hob1, seSl, seaR, List.length_map, wrap_i64, hc, hd, hlt2, decide_true, List.getElem?_map, Option.map_some, evSt, ↓evPre, ↓evPreW, evPost, evPostW, ← List.map_take, ← List.map_drop, ↓reduceIte, reduceCtorEq, Nat.reduceEqDiff, forall_const, implies_true, Nat.reduceAdd, Nat.reduceSub, Nat.reduceMul, Nat.reduceLT, Nat.reduceLeDiff, Int.reduceToNat, Int.reduceAdd, Int.reduceSub, Int.reduceNeg, Int.reduceMul, Int.reduceLT, Int.reduceLE, Int.reduceEq]
              exact ⟨j + 1, by omega, by omega, by simp [hs, seSl], rfl⟩
            | false =>
              rw [ht, Bool.false_or] at hs
              by_cases hr : d.row = s.row
              · rw [decide_eq_true hr, Bool.true_and] at hs
                simp (disch := first | omega | (simp only [List.length_cons, List.length_nil, List.length_map, List.length_drop]; omega)) only [hob1, hr, seSl, seaR, List.length_map, wrap_i64, hc, hd, hlt2, decide_true, List.getElem?_map, Option.map_some, evSt, ↓evPre, ↓evPreW, evPost, evPostW, ← List.map_take, ← List.map_drop, ↓reduceIte, reduceCtorEq, Nat.reduceEqDiff, forall_const, implies_true, Nat.reduceAdd, Nat.reduceSub, Nat.reduceMul, Nat.reduceLT, Nat.reduceLeDiff, Int.reduceToNat, Int.reduceAdd, Int.reduceSub, Int.reduceNeg, Int.reduceMul, Int.reduceLT, Int.reduceLE, Int.reduceEq]
                exact ⟨j + 1, by omega, by omega, by simp [hs, seSl], rfl⟩
              · rw [decide_eq_false hr, Bool.false_and] at hs
                simp (disch := first | omega | (simp only [List.length_cons, List.length_nil, List.length_map, List.length_drop]; omega)) only [hob1, hr, seSl, seaR, List.length_map, wrap_i64, hc, hd, hlt2, decide_true, decide_false, List.getElem?_map, Option.map_some, evSt, ↓evPre, ↓evPreW, evPost, evPostW, ← List.map_take, ← List.map_drop, ↓reduceIte, reduceCtorEq, Nat.reduceEqDiff, forall_const, implies_true, Nat.reduceAdd, Nat.reduceSub, Nat.reduceMul, Nat.reduceLT, Nat.reduceLeDiff, Int.reduceToNat, Int.reduceAdd, Int.reduceSub, Int.reduceNeg, Int.reduceMul, Int.reduceLT, Int.reduceLE, Int.reduceEq]
                exact ⟨j + 1, by omega, by omega, by simp [hs, seSl], rfl⟩
          have e : j = k := by omega
          subst e
          have hlt3 : ¬ ((j : Int) < j) := by omega
          cases hT : (l.take j).any (sameS s) with
          | true =>
            have hF : F1 = F0 ++ [⟨2, seatAt j⟩] ++ [⟨6, seatAt j⟩] := by
              rw [hstep, faultsAt, if_pos hA, if_pos hN2, if_pos hT]
              simp only [List.append_assoc, List.nil_append, List.append_nil, List.cons_append]
            simp (disch := first | omega | (simp only [List.length_cons, List.length_nil, List.length_map, List.length_drop]; omega)) only [hlt3, hT, hk1, seSl, wrap_i64, decide_true, decide_false, List.take_succ_cons, List.take_zero, evSt, ↓evPre, ↓evPreW, evPost, evPostW, ← List.map_take, ← List.map_drop, ↓reduceIte, reduceCtorEq, Nat.reduceEqDiff, forall_const, implies_true, Nat.reduceAdd, Nat.reduceSub, Nat.reduceMul, Nat.reduceLT, Nat.reduceLeDiff, Int.reduceToNat, Int.reduceAdd, Int.reduceSub, Int.reduceNeg, Int.reduceMul, Int.reduceLT, Int.reduceLE, Int.reduceEq]
            refine mid_app (f := ⟨6, seatAt j⟩) g1 (by (try simp only [List.length_append, List.length_cons, List.length_nil]); omega) fun c9 U9 g9 => ?_
            simp (disch := first | omega | (simp only [List.length_cons, List.length_nil, List.length_map, List.length_drop]; omega)) only [hlt3, hT, hk1, seSl, wrap_i64, decide_true, decide_false, List.take_succ_cons, List.take_zero, evSt, ↓evPre, ↓evPreW, evPost, evPostW, ← List.map_take, ← List.map_drop, ↓reduceIte, reduceCtorEq, Nat.reduceEqDiff, forall_const, implies_true, Nat.reduceAdd, Nat.reduceSub, Nat.reduceMul, Nat.reduceLT, Nat.reduceLeDiff, Int.reduceToNat, Int.reduceAdd, Int.reduceSub, Int.reduceNeg, Int.reduceMul, Int.reduceLT, Int.reduceLE, Int.reduceEq]
            rw [← hF] at g9
            obtain ⟨T2, o1, o2, o3⟩ := fin _ _ g9
            exact ⟨(j + 1, _, T2), ⟨by simp only; omega, by rw [hF1]; exact o1⟩, by simp only; omega, back_under o2 ⟨rfl, rfl, rfl, trivial⟩ (by simp [V.under, seSl, o3])⟩
          | false =>
            have hF : F1 = F0 ++ [⟨2, seatAt j⟩] := by
              rw [hstep, faultsAt, if_pos hA, if_pos hN2, if_neg (by rw [hT]; exact Bool.noConfusion)]
              simp only [List.append_assoc, List.nil_append, List.append_nil, List.cons_append]
            simp (disch := first | omega | (simp only [List.length_cons, List.length_nil, List.length_map, List.length_drop]; omega)) only [hlt3, hT, hk1, seSl, wrap_i64, decide_true, decide_false, List.take_succ_cons, List.take_zero, evSt, ↓evPre, ↓evPreW, evPost, evPostW, ← List.map_take, ← List.map_drop, ↓reduceIte, reduceCtorEq, Nat.reduceEqDiff, forall_const, implies_true, Nat.reduceAdd, Nat.reduceSub, Nat.reduceMul, Nat.reduceLT, Nat.reduceLeDiff, Int.reduceToNat, Int.reduceAdd, Int.reduceSub, Int.reduceNeg, Int.reduceMul, Int.reduceLT, Int.reduceLE, Int.reduceEq]
            have g9 := g1
            rw [← hF] at g9
            obtain ⟨T2, o1, o2, o3⟩ := fin _ _ g9
            exact ⟨(j + 1, _, T2), ⟨by simp only; omega, by rw [hF1]; exact o1⟩, by simp only; omega, back_under o2 ⟨rfl, rfl, rfl, trivial⟩ (by simp [V.under, seSl, o3])⟩
      | false =>
        have hN2 : ¬ nameGood s.letter := fun h => by rw [(clsOk_iff s.letter).2 h] at hN; cases hN
        simp (disch := first | omega | (simp only [List.length_cons, List.length_nil, List.length_map, List.length_drop]; omega)) only [hadd, seSl, hlt, hkl, if_true, hk1, wrap_i64, decide_true, decide_false, List.length_map, List.take_succ_cons, List.take_zero, hob0, b1, b2, evSt, ↓evPre, ↓evPreW, evPost, evPostW, ← List.map_take, ← List.map_drop, ↓reduceIte, reduceCtorEq, Nat.reduceEqDiff, forall_const, implies_true, Nat.reduceAdd, Nat.reduceSub, Nat.reduceMul, Nat.reduceLT, Nat.reduceLeDiff, Int.reduceToNat, Int.reduceAdd, Int.reduceSub, Int.reduceNeg, Int.reduceMul, Int.reduceLT, Int.reduceLE, Int.reduceEq]
        refine mid_app (f := ⟨2, seatAt k⟩) mid (by (try simp only [List.length_append, List.length_cons, List.length_nil]); omega) fun c1 U1 g1 => ?_
        have hob1 := g1.obj
        rw [seaR] at hob1
        simp (disch := first | omega | (simp only [List.length_cons, List.length_nil, List.length_map, List.length_drop]; omega)) only [hadd, seSl, hlt, hkl, if_true, hk1, wrap_i64, decide_true, decide_false, List.length_map, List.take_succ_cons, List.take_zero, hob1, b1, b2, evSt, ↓evPre, ↓evPreW, evPost, evPostW, ← List.map_take, ← List.map_drop, ↓reduceIte, reduceCtorEq, Nat.reduceEqDiff, forall_const, implies_true, Nat.reduceAdd, Nat.reduceSub, Nat.reduceMul, Nat.reduceLT, Nat.reduceLeDiff, Int.reduceToNat, Int.reduceAdd, Int.reduceSub, Int.reduceNeg, Int.reduceMul, Int.reduceLT, Int.reduceLE, Int.reduceEq]
        refine (class_A s.letter _ hbs).then ?_
        simp (disch := first | omega | (simp only [List.length_cons, List.length_nil, List.length_map, List.length_drop]; omega)) only [hadd, seSl, hlt, hkl, if_true, hk1, wrap_i64, decide_true, decide_false, List.length_map, List.take_succ_cons, List.take_zero, hN, hob1, b1, b2, evSt, ↓evPre, ↓evPreW, evPost, evPostW, ← List.map_take, ← List.map_drop, ↓reduceIte, reduceCtorEq, Nat.reduceEqDiff, forall_const, implies_true, Nat.reduceAdd, Nat.reduceSub, Nat.reduceMul, Nat.reduceLT, Nat.reduceLeDiff, Int.reduceToNat, Int.reduceAdd, Int.reduceSub, Int.reduceNeg, Int.reduceMul, Int.reduceLT, Int.reduceLE, Int.reduceEq]
        refine mid_app (f := ⟨5, seatAt k⟩) g1 (by (try simp only [List.length_append, List.length_cons, List.length_nil]); omega) fun c2 U2 g2 => ?_
        have hob2 := g2.obj
        rw [seaR] at hob2
        simp (disch := first | omega | (simp only [List.length_cons, List.length_nil, List.length_map, List.length_drop]; omega)) only [hadd, seSl, hlt, hkl, if_true, hk1, wrap_i64, decide_true, decide_false, List.length_map, List.take_succ_cons, List.take_zero, hob2, b1, b2, evSt, ↓evPre, ↓evPreW, evPost, evPostW, ← List.map_take, ← List.map_drop, ↓reduceIte, reduceCtorEq, Nat.reduceEqDiff, forall_const, implies_true, Nat.reduceAdd, Nat.reduceSub, Nat.reduceMul, Nat.reduceLT, Nat.reduceLeDiff, Int.reduceToNat, Int.reduceAdd, Int.reduceSub, Int.reduceNeg, Int.reduceMul, Int.reduceLT, Int.reduceLE, Int.reduceEq]
        refine loopA (ι := Nat) (fun j => [(0, seSl l), (3, c2), (4, .int .i64 k), (5, .ptr pid 0 0 0), (6, .str (seatAt k)), (7, .bool ((l.take j).any (sameS s))), (8, .int .i64 j)]) (fun _ => S ++ U2) (fun j => j ≤ k) (fun j => k - j) 0 (Nat.zero_le _) ?_ rfl ?_
        · simp only [seSl, List.take_zero, List.any_nil, ↓evPre, ↓evPreW, evPost, evPostW, ← List.map_take, ← List.map_drop, ↓reduceIte, reduceCtorEq, Nat.reduceEqDiff, forall_const, implies_true, Nat.reduceAdd, Nat.reduceSub, Nat.reduceMul, Nat.reduceLT, Nat.reduceLeDiff, Int.reduceToNat, Int.reduceAdd, Int.reduceSub, Int.reduceNeg, Int.reduceMul, Int.reduceLT, Int.reduceLE, Int.reduceEq]
        · intro j hj
          by_cases hjk : j < k
          · have hlt2 : (j : Int) < k := by omega
            have hd : l[j]? = some l[j] := List.getElem?_eq_getElem (by omega)
            generalize l[j] = d at hd
            have hs := twi j hjk d hd
            cases ht : (l.take j).any (sameS s) with
            | true =>
              rw [ht, Bool.true_or] at hs
              simp (disch := first | omega | (simp only [List.length_cons, List.length_nil, List.length_map, List.length_drop]; omega)) only [hob2, seSl, seaR, List.length_map, wrap_i64, hc, hd, hlt2, decide_true, List.getElem?_map, Option.map_some, evSt, ↓evPre, ↓evPreW, evPost, evPostW, ← List.map_take, ← List.map_drop, ↓reduceIte, reduceCtorEq, Nat.reduceEqDiff, forall_const, implies_true, Nat.reduceAdd, Nat.reduceSub, Nat.reduceMul, Nat.reduceLT, Nat.reduceLeDiff, Int.reduceToNat, Int.reduceAdd, Int.reduceSub, Int.reduceNeg, Int.reduceMul, Int.reduceLT, Int.reduceLE, Int.reduceEq]
              exact ⟨j + 1, by omega, by omega, by simp [hs, seSl], rfl⟩
            | false =>
              rw [ht, Bool.false_or] at hs
              by_cases hr : d.row = s.row
              · rw [decide_eq_true hr, Bool.true_and] at hs
                simp (disch := first | omega | (simp only [List.length_cons, List.length_nil, List.length_map, List.length_drop]; omega)) only [hob2, hr, seSl, seaR, List.length_map, wrap_i64, hc, hd, hlt2, decide_true, List.getElem?_map, Option.map_some, evSt, ↓evPre, ↓evPreW, evPost, evPostW, ← List.map_take, ← List.map_drop, ↓reduceIte, reduceCtorEq, Nat.reduceEqDiff, forall_const, implies_true, Nat.reduceAdd, Nat.reduceSub, Nat.reduceMul, Nat.reduceLT, Nat.reduceLeDiff, Int.reduceToNat, Int.reduceAdd, Int.reduceSub, Int.reduceNeg, Int.reduceMul, Int.reduceLT, Int.reduceLE, Int.reduceEq]
                exact ⟨j + 1, by omega, by omega, by simp [hs, seSl], rfl⟩
              · rw [decide_eq_false hr, Bool.false_and] at hs
                simp (disch := first | omega | (simp only [List.length_cons, List.length_nil, List.length_map, List.length_drop]; omega)) only [hob2, hr, seSl, seaR, List.length_map, wrap_i64, hc, hd, hlt2, decide_true, decide_false, List.getElem?_map, Option.map_some, evSt, ↓evPre, ↓evPreW, evPost, evPostW, ← List.map_take, ← List.map_drop, ↓reduceIte, reduceCtorEq, Nat.reduceEqDiff, forall_const, implies_true, Nat.reduceAdd, Nat.reduceSub, Nat.reduceMul, Nat.reduceLT, Nat.reduceLeDiff, Int.reduceToNat, Int.reduceAdd, Int.reduceSub, Int.reduceNeg, Int.reduceMul, Int.reduceLT, Int.reduceLE, Int.reduceEq]
                exact ⟨j + 1, by omega, by omega, by simp [hs, seSl], rfl⟩
          have e : j = k := by omega
          subst e
          have hlt3 : ¬ ((j : Int) < j) := by omega
          cases hT : (l.take j).any (sameS s) with
          | true =>
            have hF : F1 = F0 ++ [⟨2, seatAt j⟩] ++ [⟨5, seatAt j⟩] ++ [⟨6, seatAt j⟩] := by
              rw [hstep, faultsAt, if_pos hA, if_neg hN2, if_pos hT]
              simp only [List.append_assoc, List.nil_append, List.append_nil, List.cons_append]
            simp (disch := first | omega | (simp only [List.length_cons, List.length_nil, List.length_map, List.length_drop]; omega)) only [hlt3, hT, hk1, seSl, wrap_i64, decide_true, decide_false, List.take_succ_cons, List.take_zero, evSt, ↓evPre, ↓evPreW, evPost, evPostW, ← List.map_take, ← List.map_drop, ↓reduceIte, reduceCtorEq, Nat.reduceEqDiff, forall_const, implies_true, Nat.reduceAdd, Nat.reduceSub, Nat.reduceMul, Nat.reduceLT, Nat.reduceLeDiff, Int.reduceToNat, Int.reduceAdd, Int.reduceSub, Int.reduceNeg, Int.reduceMul, Int.reduceLT, Int.reduceLE, Int.reduceEq]
            refine mid_app (f := ⟨6, seatAt j⟩) g2 (by (try simp only [List.length_append, List.length_cons, List.length_nil]); omega) fun c9 U9 g9 => ?_
            simp (disch := first | omega | (simp only [List.length_cons, List.length_nil, List.length_map, List.length_drop]; omega)) only [hlt3, hT, hk1, seSl, wrap_i64, decide_true, decide_false, List.take_succ_cons, List.take_zero, evSt, ↓evPre, ↓evPreW, evPost, evPostW, ← List.map_take, ← List.map_drop, ↓reduceIte, reduceCtorEq, Nat.reduceEqDiff, forall_const, implies_true, Nat.reduceAdd, Nat.reduceSub, Nat.reduceMul, Nat.reduceLT, Nat.reduceLeDiff, Int.reduceToNat, Int.reduceAdd, Int.reduceSub, Int.reduceNeg, Int.reduceMul, Int.reduceLT, Int.reduceLE, Int.reduceEq]
            rw [← hF] at g9
            obtain ⟨T2, o1, o2, o3⟩ := fin _ _ g9
            exact ⟨(j + 1, _, T2), ⟨by simp only; omega, by rw [hF1]; exact o1⟩, by simp only; omega, back_under o2 ⟨rfl, rfl, rfl, trivial⟩ (by simp [V.under, seSl, o3])⟩
          | false =>
            have hF : F1 = F0 ++ [⟨2, seatAt j⟩] ++ [⟨5, seatAt j⟩] := by
              rw [hstep, faultsAt, if_pos hA, if_neg hN2, if_neg (by rw [hT]; exact Bool.noConfusion)]
              simp only [List.append_assoc, List.nil_append, List.append_nil, List.cons_append]
            simp (disch := first | omega | (simp only [List.length_cons, List.length_nil, List.length_map, List.length_drop]; omega)) only [hlt3, hT, hk1, seSl, wrap_i64, decide_true, decide_false, List.take_succ_cons, List.take_zero, evSt, ↓evPre, ↓evPreW, evPost, evPostW, ← List.map_take, ← List.map_drop, ↓reduceIte, reduceCtorEq, Nat.reduceEqDiff, forall_const, implies_true, Nat.reduceAdd, Nat.reduceSub, Nat.reduceMul, Nat.reduceLT, Nat.reduceLeDiff, Int.reduceToNat, Int.reduceAdd, Int.reduceSub, Int.reduceNeg, Int.reduceMul, Int.reduceLT, Int.reduceLE, Int.reduceEq]
            have g9 := g2
            rw [← hF] at g9
            obtain ⟨T2, o1, o2, o3⟩ := fin _ _ g9
            exact ⟨(j + 1, _, T2), ⟨by simp only; omega, by rw [hF1]; exact o1⟩, by simp only; omega, back_under o2 ⟨rfl, rfl, rfl, trivial⟩ (by simp [V.under, seSl, o3])⟩
    by_cases b3 : s.has < 0
    · have hA : argBad s := by unfold argBad; omega
      cases hN : clsOk s.letter with
      | true =>
        have hN2 := (clsOk_iff s.letter).1 hN
        simp (disch := first | omega | (simp only [List.length_cons, List.length_nil, List.length_map, List.length_drop]; omega)) only [hadd, seSl, hlt, hkl, if_true, hk1, wrap_i64, decide_true, decide_false, List.length_map, List.take_succ_cons, List.take_zero, hob0, b1, b2, b3, evSt, ↓evPre, ↓evPreW, evPost, evPostW, ← List.map_take, ← List.map_drop, ↓reduceIte, reduceCtorEq, Nat.reduceEqDiff, forall_const, implies_true, Nat.reduceAdd, Nat.reduceSub, Nat.reduceMul, Nat.reduceLT, Nat.reduceLeDiff, Int.reduceToNat, Int.reduceAdd, Int.reduceSub, Int.reduceNeg, Int.reduceMul, Int.reduceLT, Int.reduceLE, Int.reduceEq]
        refine mid_app (f := ⟨2, seatAt k⟩) mid (by (try simp only [List.length_append, List.length_cons, List.length_nil]); omega) fun c1 U1 g1 => ?_
        have hob1 := g1.obj
        rw [seaR] at hob1
        simp (disch := first | omega | (simp only [List.length_cons, List.length_nil, List.length_map, List.length_drop]; omega)) only [hadd, seSl, hlt, hkl, if_true, hk1, wrap_i64, decide_true, decide_false, List.length_map, List.take_succ_cons, List.take_zero, hob1, b1, b2, b3, evSt, ↓evPre, ↓evPreW, evPost, evPostW, ← List.map_take, ← List.map_drop, ↓reduceIte, reduceCtorEq, Nat.reduceEqDiff, forall_const, implies_true, Nat.reduceAdd, Nat.reduceSub, Nat.reduceMul, Nat.reduceLT, Nat.reduceLeDiff, Int.reduceToNat, Int.reduceAdd, Int.reduceSub, Int.reduceNeg, Int.reduceMul, Int.reduceLT, Int.reduceLE, Int.reduceEq]
        refine (class_A s.letter _ hbs).then ?_
        simp (disch := first | omega | (simp only [List.length_cons, List.length_nil, List.length_map, List.length_drop]; omega)) only [hadd, seSl, hlt, hkl, if_true, hk1, wrap_i64, decide_true, decide_false, List.length_map, List.take_succ_cons, List.take_zero, hN, hob1, b1, b2, b3, evSt, ↓evPre, ↓evPreW, evPost, evPostW, ← List.map_take, ← List.map_drop, ↓reduceIte, reduceCtorEq, Nat.reduceEqDiff, forall_const, implies_true, Nat.reduceAdd, Nat.reduceSub, Nat.reduceMul, Nat.reduceLT, Nat.reduceLeDiff, Int.reduceToNat, Int.reduceAdd, Int.reduceSub, Int.reduceNeg, Int.reduceMul, Int.reduceLT, Int.reduceLE, Int.reduceEq]
        refine loopA (ι := Nat) (fun j => [(0, seSl l), (3, c1), (4, .int .i64 k), (5, .ptr pid 0 0 0), (6, .str (seatAt k)), (7, .bool ((l.take j).any (sameS s))), (8, .int .i64 j)]) (fun _ => S ++ U1) (fun j => j ≤ k) (fun j => k - j) 0 (Nat.zero_le _) ?_ rfl ?_
        · simp only [seSl, List.take_zero, List.any_nil, ↓evPre, ↓evPreW, evPost, evPostW, ← List.map_take, ← List.map_drop, ↓reduceIte, reduceCtorEq, Nat.reduceEqDiff, forall_const, implies_true, Nat.reduceAdd, Nat.reduceSub, Nat.reduceMul, Nat.reduceLT, Nat.reduceLeDiff, Int.reduceToNat, Int.reduceAdd, Int.reduceSub, Int.reduceNeg, Int.reduceMul, Int.reduceLT, Int.reduceLE, Int.reduceEq]
        · intro j hj
          by_cases hjk : j < k
          · have hlt2 : (j : Int) < k := by omega
            have hd : l[j]? = some l[j] := List.getElem?_eq_getElem (by omega)
            generalize l[j] = d at hd
            have hs := twi j hjk d hd
            cases ht : (l.take j).any (sameS s) with
            | true =>
              rw [ht, Bool.true_or] at hs
              simp (disch := first | omega | (simp only [List.length_cons, List.length_nil, List.length_map, List.length_drop]; omega)) only [hob1, seSl, seaR, List.length_map, wrap_i64, hc, hd, hlt2, decide_true, List.getElem?_map, Option.map_some, evSt, ↓evPre, ↓evPreW, evPost, evPostW, ← List.map_take, ← List.map_drop, ↓reduceIte, reduceCtorEq, Nat.reduceEqDiff, forall_const, implies_true, Nat.reduceAdd, Nat.reduceSub, Nat.reduceMul, Nat.reduceLT, Nat.reduceLeDiff, Int.reduceToNat, Int.reduceAdd, Int.reduceSub, Int.reduceNeg, Int.reduceMul, Int.reduceLT, Int.reduceLE, Int.reduceEq]
              exact ⟨j + 1, by omega, by omega, by simp [hs, seSl], rfl⟩
            | false =>
              rw [ht, Bool.false_or] at hs
              by_cases hr : d.row = s.row
              · rw [decide_eq_true hr, Bool.true_and] at hs
                simp (disch := first | omega | (simp only [List.length_cons, List.length_nil, List.length_map, List.length_drop]; omega)) only [hob1, hr, seSl, seaR, List.length_map, wrap_i64, hc, hd, hlt2, decide_true, List.getElem?_map, Option.map_some, evSt, ↓evPre, ↓evPreW, evPost, evPostW, ← List.map_take, ← List.map_drop, ↓reduceIte, reduceCtorEq, Nat.reduceEqDiff, forall_const, implies_true, Nat.reduceAdd, Nat.reduceSub, Nat.reduceMul, Nat.reduceLT, Nat.reduceLeDiff, Int.reduceToNat, Int.reduceAdd, Int.reduceSub, Int.reduceNeg, Int.reduceMul, Int.reduceLT, Int.reduceLE, Int.reduceEq]
                exact ⟨j + 1, by omega, by omega, by simp [hs, seSl], rfl⟩
              · rw [decide_eq_false hr, Bool.false_and] at hs
                simp (disch := first | omega | (simp only [List.length_cons, List.length_nil, List.length_map, List.length_drop]; omega)) only [hob1, hr, seSl, seaR, List.length_map, wrap_i64, hc, hd, hlt2, decide_true, decide_false, List.getElem?_map, Option.map_some, evSt, ↓evPre, ↓evPreW, evPost, evPostW, ← List.map_take, ← List.map_drop, ↓reduceIte, reduceCtorEq, Nat.reduceEqDiff, forall_const, implies_true, Nat.reduceAdd, Nat.reduceSub, Nat.reduceMul, Nat.reduceLT, Nat.reduceLeDiff, Int.reduceToNat, Int.reduceAdd, Int.reduceSub, Int.reduceNeg, Int.reduceMul, Int.reduceLT, Int.reduceLE, Int.reduceEq]
                exact ⟨j + 1, by omega, by omega, by simp [hs, seSl], rfl⟩
          have e : j = k := by omega
          subst e
          have hlt3 : ¬ ((j : Int) < j) := by omega
          cases hT : (l.take j).any (sameS s) with
          | true =>
            have hF : F1 = F0 ++ [⟨2, seatAt j⟩] ++ [⟨6, seatAt j⟩] := by
              rw [hstep, faultsAt, if_pos hA, if_pos hN2, if_pos hT]
              simp only [List.append_assoc, List.nil_append, List.append_nil, List.cons_append]
            simp (disch := first | omega | (simp only [List.length_cons, List.length_nil, List.length_map, List.length_drop]; omega)) only [hlt3, hT, hk1, seSl, wrap_i64, decide_true, decide_false, List.take_succ_cons, List.take_zero, evSt, ↓evPre, ↓evPreW, evPost, evPostW, ← List.map_take, ← List.map_drop, ↓reduceIte, reduceCtorEq, Nat.reduceEqDiff, forall_const, implies_true, Nat.reduceAdd, Nat.reduceSub, Nat.reduceMul, Nat.reduceLT, Nat.reduceLeDiff, Int.reduceToNat, Int.reduceAdd, Int.reduceSub, Int.reduceNeg, Int.reduceMul, Int.reduceLT, Int.reduceLE, Int.reduceEq]
            refine mid_app (f := ⟨6, seatAt j⟩) g1 (by (try simp only [List.length_append, List.length_cons, List.length_nil]); omega) fun c9 U9 g9 => ?_
            simp (disch := first | omega | (simp only [List.length_cons, List.length_nil, List.length_map, List.length_drop]; omega)) only [hlt3, hT, hk1, seSl, wrap_i64, decide_true, decide_false, List.take_succ_cons, List.take_zero, evSt, ↓evPre, ↓evPreW, evPost, evPostW, ← List.map_take, ← List.map_drop, ↓reduceIte, reduceCtorEq, Nat.reduceEqDiff, forall_const, implies_true, Nat.reduceAdd, Nat.reduceSub, Nat.reduceMul, Nat.reduceLT, Nat.reduceLeDiff, Int.reduceToNat, Int.reduceAdd, Int.reduceSub, Int.reduceNeg, Int.reduceMul, Int.reduceLT, Int.reduceLE, Int.reduceEq]
            rw [← hF] at g9
            obtain ⟨T2, o1, o2, o3⟩ := fin _ _ g9
            exact ⟨(j + 1, _, T2), ⟨by simp only; omega, by rw [hF1]; exact o1⟩, by simp only; omega, back_under o2 ⟨rfl, rfl, rfl, trivial⟩ (by simp [V.under, seSl, o3])⟩
          | false =>
            have hF : F1 = F0 ++ [⟨2, seatAt j⟩] := by
              rw [hstep, faultsAt, if_pos hA, if_pos hN2, if_neg (by rw [hT]; exact Bool.noConfusion)]
              simp only [List.append_assoc, List.nil_append, List.append_nil, List.cons_append]
            simp (disch := first | omega | (simp only [List.length_cons, List.length_nil, List.length_map, List.length_drop]; omega)) only [hlt3, hT, hk1, seSl, wrap_i64, decide_true, decide_false, List.take_succ_cons, List.take_zero, evSt, ↓evPre, ↓evPreW, evPost, evPostW, ← List.map_take, ← List.map_drop, ↓reduceIte, reduceCtorEq, Nat.reduceEqDiff, forall_const, implies_true, Nat.reduceAdd, Nat.reduceSub, Nat.reduceMul, Nat.reduceLT, Nat.reduceLeDiff, Int.reduceToNat, Int.reduceAdd, Int.reduceSub, Int.reduceNeg, Int.reduceMul, Int.reduceLT, Int.reduceLE, Int.reduceEq]
            have g9 := g1
            rw [← hF] at g9
            obtain ⟨T2, o1, o2, o3⟩ := fin _ _ g9
            exact ⟨(j + 1, _, T2), ⟨by simp only; omega, by rw [hF1]; exact o1⟩, by simp only; omega, back_under o2 ⟨rfl, rfl, rfl, trivial⟩ (by simp [V.under, seSl, o3])⟩
      | false =>
        have hN2 : ¬ nameGood s.letter := fun h => by rw [(clsOk_iff s.letter).2 h] at hN; cases hN
        simp (disch := first | omega | (simp only [List.length_cons, List.length_nil, List.length_map, List.length_drop]; omega)) only [hadd, seSl, hlt, hkl, if_true, hk1, wrap_i64, decide_true, decide_false, List.length_map, List.take_succ_cons, List.take_zero, hob0, b1, b2, b3, evSt, ↓evPre, ↓evPreW, evPost, evPostW, ← List.map_take, ← List.map_drop, ↓reduceIte, reduceCtorEq, Nat.reduceEqDiff, forall_const, implies_true, Nat.reduceAdd, Nat.reduceSub, Nat.reduceMul, Nat.reduceLT, Nat.reduceLeDiff, Int.reduceToNat, Int.reduceAdd, Int.reduceSub, Int.reduceNeg, Int.reduceMul, Int.reduceLT, Int.reduceLE, Int.reduceEq]
        refine mid_app (f := ⟨2, seatAt k⟩) mid (by (try simp only [List.length_append, List.length_cons, List.length_nil]); omega) fun c1 U1 g1 => ?_
        have hob1 := g1.obj
        rw [seaR] at hob1
        simp (disch := first | omega | (simp only [List.length_cons, List.length_nil, List.length_map, List.length_drop]; omega)) only [hadd, seSl, hlt, hkl, if_true, hk1, wrap_i64, decide_true, decide_false, List.length_map, List.take_succ_cons, List.take_zero, hob1, b1, b2, b3, evSt, ↓evPre, ↓evPreW, evPost, evPostW, ← List.map_take, ← List.map_drop, ↓reduceIte, reduceCtorEq, Nat.reduceEqDiff, forall_const, implies_true, Nat.reduceAdd, Nat.reduceSub, Nat.reduceMul, Nat.reduceLT, Nat.reduceLeDiff, Int.reduceToNat, Int.reduceAdd, Int.reduceSub, Int.reduceNeg, Int.reduceMul, Int.reduceLT, Int.reduceLE, Int.reduceEq]
        refine (class_A s.letter _ hbs).then ?_
        simp (disch := first | omega | (simp only [List.length_cons, List.length_nil, List.length_map, List.length_drop]; omega)) only [hadd, seSl, hlt, hkl, if_true, hk1, wrap_i64, decide_true, decide_false, List.length_map, List.take_succ_cons, List.take_zero, hN, hob1, b1, b2, b3, evSt, ↓evPre, ↓evPreW, evPost, evPostW, ← List.map_take, ← List.map_drop, ↓reduceIte, reduceCtorEq, Nat.reduceEqDiff, forall_const, implies_true, Nat.reduceAdd, Nat.reduceSub, Nat.reduceMul, Nat.reduceLT, Nat.reduceLeDiff, Int.reduceToNat, Int.reduceAdd, Int.reduceSub, Int.reduceNeg, Int.reduceMul, Int.reduceLT, Int.reduceLE, Int.reduceEq]
        refine mid_app (f := ⟨5, seatAt k⟩) g1 (by (try simp only [List.length_append, List.length_cons, List.length_nil]); omega) fun c2 U2 g2 => ?_
        have hob2 := g2.obj
        rw [seaR] at hob2
        simp (disch := first | omega | (simp only [List.length_cons, List.length_nil, List.length_map, List.length_drop]; omega)) only [hadd, seSl, hlt, hkl, if_true, hk1, wrap_i64, decide_true, decide_false, List.length_map, List.take_succ_cons, List.take_zero, hob2, b1, b2, b3, evSt, ↓evPre, ↓evPreW, evPost, evPostW, ← List.map_take, ← List.map_drop, ↓reduceIte, reduceCtorEq, Nat.reduceEqDiff, forall_const, implies_true, Nat.reduceAdd, Nat.reduceSub, Nat.reduceMul, Nat.reduceLT, Nat.reduceLeDiff, Int.reduceToNat, Int.reduceAdd, Int.reduceSub, Int.reduceNeg, Int.reduceMul, Int.reduceLT, Int.reduceLE, Int.reduceEq]
        refine loopA (ι := Nat) (fun j => [(0, seSl l), (3, c2), (4, .int .i64 k), (5, .ptr pid 0 0 0), (6, .str (seatAt k)), (7, .bool ((l.take j).any (sameS s))), (8, .int .i64 j)]) (fun _ => S ++ U2) (fun j => j ≤ k) (fun j => k - j) 0 (Nat.zero_le _) ?_ rfl ?_
        · simp only [seSl, List.take_zero, List.any_nil, ↓evPre, ↓evPreW, evPost, evPostW, ← List.map_take, ← List.map_drop, ↓reduceIte, reduceCtorEq, Nat.reduceEqDiff, forall_const, implies_true, Nat.reduceAdd, Nat.reduceSub, Nat.reduceMul, Nat.reduceLT, Nat.reduceLeDiff, Int.reduceToNat, Int.reduceAdd, Int.reduceSub, Int.reduceNeg, Int.reduceMul, Int.reduceLT, Int.reduceLE, Int.reduceEq]
        · intro j hj
          by_cases hjk : j < k
          · have hlt2 : (j : Int) < k := by omega
            have hd : l[j]? = some l[j] := List.getElem?_eq_getElem (by omega)
            generalize l[j] = d at hd
            have hs := twi j hjk d hd
            cases ht : (l.take j).any (sameS s) with
            | true =>
              rw [ht, Bool.true_or] at hs
              simp (disch := first | omega | (simp only [List.length_cons, List.length_nil, List.length_map, List.length_drop]; omega)) only [hob2, seSl, seaR, List.length_map, wrap_i64, hc, hd, hlt2, decide_true, List.getElem?_map, Option.map_some, evSt, ↓evPre, ↓evPreW, evPost, evPostW, ← List.map_take, ← List.map_drop, ↓reduceIte, reduceCtorEq, Nat.reduceEqDiff, forall_const, implies_true, Nat.reduceAdd, Nat.reduceSub, Nat.reduceMul, Nat.reduceLT, Nat.reduceLeDiff, Int.reduceToNat, Int.reduceAdd, Int.reduceSub, Int.reduceNeg, Int.reduceMul, Int.reduceLT, Int.reduceLE, Int.reduceEq]
              exact ⟨j + 1, by omega, by omega, by simp [hs, seSl], rfl⟩
            | false =>
              rw [ht, Bool.false_or] at hs
              by_cases hr : d.row = s.row
              · rw [decide_eq_true hr, Bool.true_and] at hs
                simp (disch := first | omega | (simp only [List.length_cons, List.length_nil, List.length_map, List.length_drop]; omega)) only [hob2, hr, seSl, seaR, List.length_map, wrap_i64, hc, hd, hlt2, decide_true, List.getElem?_map, Option.map_some, evSt, ↓evPre, ↓evPreW, evPost, evPostW, ← List.map_take, ← List.map_drop, ↓reduceIte, reduceCtorEq, Nat.reduceEqDiff, forall_const, implies_true, Nat.reduceAdd, Nat.reduceSub, Nat.reduceMul, Nat.reduceLT, Nat.reduceLeDiff, Int.reduceToNat, Int.reduceAdd, Int.reduceSub, Int.reduceNeg, Int.reduceMul, Int.reduceLT, Int.reduceLE, Int.reduceEq]
                exact ⟨j + 1, by omega, by omega, by simp [hs, seSl], rfl⟩
              · rw [decide_eq_false hr, Bool.false_and] at hs
                simp (disch := first | omega | (simp only [List.length_cons, List.length_nil, List.length_map, List.length_drop]; omega)) only [hob2, hr, seSl, seaR, List.length_map, wrap_i64, hc, hd, hlt2, decide_true, decide_false, List.getElem?_map, Option.map_some, evSt, ↓evPre, ↓evPreW, evPost, evPostW, ← List.map_take, ← List.map_drop, ↓reduceIte, reduceCtorEq, Nat.reduceEqDiff, forall_const, implies_true, Nat.reduceAdd, Nat.reduceSub, Nat.reduceMul, Nat.reduceLT, Nat.reduceLeDiff, Int.reduceToNat, Int.reduceAdd, Int.reduceSub, Int.reduceNeg, Int.reduceMul, Int.reduceLT, Int.reduceLE, Int.reduceEq]
                exact ⟨j + 1, by omega, by omega, by simp [hs, seSl], rfl⟩
          have e : j = k := by omega
          subst e
          have hlt3 : ¬ ((j : Int) < j) := by omega
          cases hT : (l.take j).any (sameS s) with
          | true =>
            have hF : F1 = F0 ++ [⟨2, seatAt j⟩] ++ [⟨5, seatAt j⟩] ++ [⟨6, seatAt j⟩] := by
              rw [hstep, faultsAt, if_pos hA, if_neg hN2, if_pos hT]
              simp only [List.append_assoc, List.nil_append, List.append_nil, List.cons_append]
            simp (disch := first | omega | (simp only [List.length_cons, List.length_nil, List.length_map, List.length_drop]; omega)) only [hlt3, hT, hk1, seSl, wrap_i64, decide_true, decide_false, List.take_succ_cons, List.take_zero, evSt, ↓evPre, ↓evPreW, evPost, evPostW, ← List.map_take, ← List.map_drop, ↓reduceIte, reduceCtorEq, Nat.reduceEqDiff, forall_const, implies_true, Nat.reduceAdd, Nat.reduceSub, Nat.reduceMul, Nat.reduceLT, Nat.reduceLeDiff, Int.reduceToNat, Int.reduceAdd, Int.reduceSub, Int.reduceNeg, Int.reduceMul, Int.reduceLT, Int.reduceLE, Int.reduceEq]
            refine mid_app (f := ⟨6, seatAt j⟩) g2 (by (try simp only [List.length_append, List.length_cons, List.length_nil]); omega) fun c9 U9 g9 => ?_
            simp (disch := first | omega | (simp only [List.length_cons, List.length_nil, List.length_map, List.length_drop]; omega)) only [hlt3, hT, hk1, seSl, wrap_i64, decide_true, decide_false, List.take_succ_cons, List.take_zero, evSt, ↓evPre, ↓evPreW, evPost, evPostW, ← List.map_take, ← List.map_drop, ↓reduceIte, reduceCtorEq, Nat.reduceEqDiff, forall_const, implies_true, Nat.reduceAdd, Nat.reduceSub, Nat.reduceMul, Nat.reduceLT, Nat.reduceLeDiff, Int.reduceToNat, Int.reduceAdd, Int.reduceSub, Int.reduceNeg, Int.reduceMul, Int.reduceLT, Int.reduceLE, Int.reduceEq]
            rw [← hF] at g9
            obtain ⟨T2, o1, o2, o3⟩ := fin _ _ g9
            exact ⟨(j + 1, _, T2), ⟨by simp only; omega, by rw [hF1]; exact o1⟩, by simp only; omega, back_under o2 ⟨rfl, rfl, rfl, trivial⟩ (by simp [V.under, seSl, o3])⟩
          | false =>
            have hF : F1 = F0 ++ [⟨2, seatAt j⟩] ++ [⟨5, seatAt j⟩] := by
              rw [hstep, faultsAt, if_pos hA, if_neg hN2, if_neg (by rw [hT]; exact Bool.noConfusion)]
              simp only [List.append_assoc, List.nil_append, List.append_nil, List.cons_append]
            simp (disch := first | omega | (simp only [List.length_cons, List.length_nil, List.length_map, List.length_drop]; omega)) only [hlt3, hT, hk1, seSl, wrap_i64, decide_true, decide_false, List.take_succ_cons, List.take_zero, evSt, ↓evPre, ↓evPreW, evPost, evPostW, ← List.map_take, ← List.map_drop, ↓reduceIte, reduceCtorEq, Nat.reduceEqDiff, forall_const, implies_true, Nat.reduceAdd, Nat.reduceSub, Nat.reduceMul, Nat.reduceLT, Nat.reduceLeDiff, Int.reduceToNat, Int.reduceAdd, Int.reduceSub, Int.reduceNeg, Int.reduceMul, Int.reduceLT, Int.reduceLE, Int.reduceEq]
            have g9 := g2
            rw [← hF] at g9
            obtain ⟨T2, o1, o2, o3⟩ := fin _ _ g9
            exact ⟨(j + 1, _, T2), ⟨by simp only; omega, by rw [hF1]; exact o1⟩, by simp only; omega, back_under o2 ⟨rfl, rfl, rfl, trivial⟩ (by simp [V.under, seSl, o3])⟩
    by_cases b4 : 15 < s.has
    · have hA : argBad s := by unfold argBad; omega
      cases hN : clsOk s.letter with
      | true =>
        have hN2 := (clsOk_iff s.letter).1 hN
        simp (disch := first | omega | (simp only [List.length_cons, List.length_nil, List.length_map, List.length_drop]; omega)) only [hadd, seSl, hlt, hkl, if_true, hk1, wrap_i64, decide_true, decide_false, List.length_map, List.take_succ_cons, List.take_zero, hob0, b1, b2, b3, b4, evSt, ↓evPre, ↓evPreW, evPost, evPostW, ← List.map_take, ← List.map_drop, ↓reduceIte, reduceCtorEq, Nat.reduceEqDiff, forall_const, implies_true, Nat.reduceAdd, Nat.reduceSub, Nat.reduceMul, Nat.reduceLT, Nat.reduceLeDiff, Int.reduceToNat, Int.reduceAdd, Int.reduceSub, Int.reduceNeg, Int.reduceMul, Int.reduceLT, Int.reduceLE, Int.reduceEq]
        refine mid_app (f := ⟨2, seatAt k⟩) mid (by (try simp only [List.length_append, List.length_cons, List.length_nil]); omega) fun c1 U1 g1 => ?_
        have hob1 := g1.obj
        rw [seaR] at hob1
        simp (disch := first | omega | (simp only [List.length_cons, List.length_nil, List.length_map, List.length_drop]; omega)) only [hadd, seSl, hlt, hkl, if_true, hk1, wrap_i64, decide_true, decide_false, List.length_map, List.take_succ_cons, List.take_zero, hob1, b1, b2, b3, b4, evSt, ↓evPre, ↓evPreW, evPost, evPostW, ← List.map_take, ← List.map_drop, ↓reduceIte, reduceCtorEq, Nat.reduceEqDiff, forall_const, implies_true, Nat.reduceAdd, Nat.reduceSub, Nat.reduceMul, Nat.reduceLT, Nat.reduceLeDiff, Int.reduceToNat, Int.reduceAdd, Int.reduceSub, Int.reduceNeg, Int.reduceMul, Int.reduceLT, Int.reduceLE, Int.reduceEq]
        refine (class_A s.letter _ hbs).then ?_
        simp (disch := first | omega | (simp only [List.length_cons, List.length_nil, List.length_map, List.length_drop]; omega)) only [hadd, seSl, hlt, hkl, if_true, hk1, wrap_i64, decide_true, decide_false, List.length_map, List.take_succ_cons, List.take_zero, hN, hob1, b1, b2, b3, b4, evSt, ↓evPre, ↓evPreW, evPost, evPostW, ← List.map_take, ← List.map_drop, ↓reduceIte, reduceCtorEq, Nat.reduceEqDiff, forall_const, implies_true, Nat.reduceAdd, Nat.reduceSub, Nat.reduceMul, Nat.reduceLT, Nat.reduceLeDiff, Int.reduceToNat, Int.reduceAdd, Int.reduceSub, Int.reduceNeg, Int.reduceMul, Int.reduceLT, Int.reduceLE, Int.reduceEq]
        refine loopA (ι := Nat) (fun j => [(0, seSl l), (3, c1), (4, .int .i64 k), (5, .ptr pid 0 0 0), (6, .str (seatAt k)), (7, .bool ((l.take j).any (sameS s))), (8, .int .i64 j)]) (fun _ => S ++ U1) (fun j => j ≤ k) (fun j => k - j) 0 (Nat.zero_le _) ?_ rfl ?_
        · simp only [seSl, List.take_zero, List.any_nil, ↓evPre, ↓evPreW, evPost, evPostW, ← List.map_take, ← List.map_drop, ↓reduceIte, reduceCtorEq, Nat.reduceEqDiff, forall_const, implies_true, Nat.reduceAdd, Nat.reduceSub, Nat.reduceMul, Nat.reduceLT, Nat.reduceLeDiff, Int.reduceToNat, Int.reduceAdd, Int.reduceSub, Int.reduceNeg, Int.reduceMul, Int.reduceLT, Int.reduceLE, Int.reduceEq]
        · intro j hj
          by_cases hjk : j < k
          · have hlt2 : (j : Int) < k := by omega
            have hd : l[j]? = some l[j] := List.getElem?_eq_getElem (by omega)
            generalize l[j] = d at hd
            have hs := twi j hjk d hd
            cases ht : (l.take j).any (sameS s) with
            | true =>
              rw [ht, Bool.true_or] at hs
              simp (disch := first | omega | (simp only [List.length_cons, List.length_nil, List.length_map, List.length_drop]; omega)) only [hob1, seSl, seaR, List.length_map, wrap_i64, hc, hd, hlt2, decide_true, List.getElem?_map, Option.map_some, evSt, ↓evPre, ↓evPreW, evPost, evPostW, ← List.map_take, ← List.map_drop, ↓reduceIte, reduceCtorEq, Nat.reduceEqDiff, forall_const, implies_true, Nat.reduceAdd, Nat.reduceSub, Nat.reduceMul, Nat.reduceLT, Nat.reduceLeDiff, Int.reduceToNat, Int.reduceAdd, Int.reduceSub, Int.reduceNeg, Int.reduceMul, Int.reduceLT, Int.reduceLE, Int.reduceEq]
              exact ⟨j + 1, by omega, by omega, by simp [hs, seSl], rfl⟩
            | false =>
              rw [ht, Bool.false_or] at hs
              by_cases hr : d.row = s.row
              · rw [decide_eq_true hr, Bool.true_and] at hs
                simp (disch := first | omega | (simp only [List.length_cons, List.length_nil, List.length_map, List.length_drop]; omega)) only [hob1, hr, seSl, seaR, List.length_map, wrap_i64, hc, hd, hlt2, decide_true, List.getElem?_map, Option.map_some, evSt, ↓evPre, ↓evPreW, evPost, evPostW, ← List.map_take, ← List.map_drop, ↓reduceIte, reduceCtorEq, Nat.reduceEqDiff, forall_const, implies_true, Nat.reduceAdd, Nat.reduceSub, Nat.reduceMul, Nat.reduceLT, Nat.reduceLeDiff, Int.reduceToNat, Int.reduceAdd, Int.reduceSub, Int.reduceNeg, Int.reduceMul, Int.reduceLT, Int.reduceLE, Int.reduceEq]
                exact ⟨j + 1, by omega, by omega, by simp [hs, seSl], rfl⟩
              · rw [decide_eq_false hr, Bool.false_and] at hs
                simp (disch := first | omega | (simp only [List.length_cons, List.length_nil, List.length_map, List.length_drop]; omega)) only [hob1, hr, seSl, seaR, List.length_map, wrap_i64, hc, hd, hlt2, decide_true, decide_false, List.getElem?_map, Option.map_some, evSt, ↓evPre, ↓evPreW, evPost, evPostW, ← List.map_take, ← List.map_drop, ↓reduceIte, reduceCtorEq, Nat.reduceEqDiff, forall_const, implies_true, Nat.reduceAdd, Nat.reduceSub, Nat.reduceMul, Nat.reduceLT, Nat.reduceLeDiff, Int.reduceToNat, Int.reduceAdd, Int.reduceSub, Int.reduceNeg, Int.reduceMul, Int.reduceLT, Int.reduceLE, Int.reduceEq]
                exact ⟨j + 1, by omega, by omega, by simp [hs, seSl], rfl⟩
          have e : j = k := by omega
          subst e
          have hlt3 : ¬ ((j : Int) < j) := by omega
          cases hT : (l.take j).any (sameS s) with
          | true =>
            have hF : F1 = F0 ++ [⟨2, seatAt j⟩] ++ [⟨6, seatAt j⟩] := by
              rw [hstep, faultsAt, if_pos hA, if_pos hN2, if_pos hT]
              simp only [List.append_assoc, List.nil_append, List.append_nil, List.cons_append]
            simp (disch := first | omega | (simp only [List.length_cons, List.length_nil, List.length_map, List.length_drop]; omega)) only [hlt3, hT, hk1, seSl, wrap_i64, decide_true, decide_false, List.take_succ_cons, List.take_zero, evSt, ↓evPre, ↓evPreW, evPost, evPostW, ← List.map_take, ← List.map_drop, ↓reduceIte, reduceCtorEq, Nat.reduceEqDiff, forall_const, implies_true, Nat.reduceAdd, Nat.reduceSub, Nat.reduceMul, Nat.reduceLT, Nat.reduceLeDiff, Int.reduceToNat, Int.reduceAdd, Int.reduceSub, Int.reduceNeg, Int.reduceMul, Int.reduceLT, Int.reduceLE, Int.reduceEq]
            refine mid_app (f := ⟨6, seatAt j⟩) g1 (by (try simp only [List.length_append, List.length_cons, List.length_nil]); omega) fun c9 U9 g9 => ?_
            simp (disch := first | omega | (simp only [List.length_cons, List.length_nil, List.length_map, List.length_drop]; omega)) only [hlt3, hT, hk1, seSl, wrap_i64, decide_true, decide_false, List.take_succ_cons, List.take_zero, evSt, ↓evPre, ↓evPreW, evPost, evPostW, ← List.map_take, ← List.map_drop, ↓reduceIte, reduceCtorEq, Nat.reduceEqDiff, forall_const, implies_true, Nat.reduceAdd, Nat.reduceSub, Nat.reduceMul, Nat.reduceLT, Nat.reduceLeDiff, Int.reduceToNat, Int.reduceAdd, Int.reduceSub, Int.reduceNeg, Int.reduceMul, Int.reduceLT, Int.reduceLE, Int.reduceEq]
            rw [← hF] at g9
            obtain ⟨T2, o1, o2, o3⟩ := fin _ _ g9
            exact ⟨(j + 1, _, T2), ⟨by simp only; omega, by rw [hF1]; exact o1⟩, by simp only; omega, back_under o2 ⟨rfl, rfl, rfl, trivial⟩ (by simp [V.under, seSl, o3])⟩
          | false =>
            have hF : F1 = F0 ++ [⟨2, seatAt j⟩] := by
              rw [hstep, faultsAt, if_pos hA, if_pos hN2, if_neg (by rw [hT]; exact Bool.noConfusion)]
              simp only [List.append_assoc, List.nil_append, List.append_nil, List.cons_append]
            simp (disch := first | omega | (simp only [List.length_cons, List.length_nil, List.length_map, List.length_drop]; omega)) only [hlt3, hT, hk1, seSl, wrap_i64, decide_true, decide_false, List.take_succ_cons, List.take_zero, evSt, ↓evPre, ↓evPreW, evPost, evPostW, ← List.map_take, ← List.map_drop, ↓reduceIte, reduceCtorEq, Nat.reduceEqDiff, forall_const, implies_true, Nat.reduceAdd, Nat.reduceSub, Nat.reduceMul, Nat.reduceLT, Nat.reduceLeDiff, Int.reduceToNat, Int.reduceAdd, Int.reduceSub, Int.reduceNeg, Int.reduceMul, Int.reduceLT, Int.reduceLE, Int.reduceEq]
            have g9 := g1
            rw [← hF] at g9
            obtain ⟨T2, o1, o2, o3⟩ := fin _ _ g9
            exact ⟨(j + 1, _, T2), ⟨by simp only; omega, by rw [hF1]; exact o1⟩, by simp only; omega, back_under o2 ⟨rfl, rfl, rfl, trivial⟩ (by simp [V.under, seSl, o3])⟩
      | false =>
        have hN2 : ¬ nameGood s.letter := fun h => by rw [(clsOk_iff s.letter).2 h] at hN; cases hN
        simp (disch := first | omega | (simp only [List.length_cons, List.length_nil, List.length_map, List.length_drop]; omega)) only [hadd, seSl, hlt, hkl, if_true, hk1, wrap_i64, decide_true, decide_false, List.length_map, List.take_succ_cons, List.take_zero, hob0, b1, b2, b3, b4, evSt, ↓evPre, ↓evPreW, evPost, evPostW, ← List.map_take, ← List.map_drop, ↓reduceIte, reduceCtorEq, Nat.reduceEqDiff, forall_const, implies_true, Nat.reduceAdd, Nat.reduceSub, Nat.reduceMul, Nat.reduceLT, Nat.reduceLeDiff, Int.reduceToNat, Int.reduceAdd, Int.reduceSub, Int.reduceNeg, Int.reduceMul, Int.reduceLT, Int.reduceLE, Int.reduceEq]
        refine mid_app (f := ⟨2, seatAt k⟩) mid (by (try simp only [List.length_append, List.length_cons, List.length_nil]); omega) fun c1 U1 g1 => ?_
        have hob1 := g1.obj
        rw [seaR] at hob1
        simp (disch := first | omega | (simp only [List.length_cons, List.length_nil, List.length_map, List.length_drop]; omega)) only [hadd, seSl, hlt, hkl, if_true, hk1, wrap_i64, decide_true, decide_false, List.length_map, List.take_succ_cons, List.take_zero, hob1, b1, b2, b3, b4, evSt, ↓evPre, ↓evPreW, evPost, evPostW, ← List.map_take, ← List.map_drop, ↓reduceIte, reduceCtorEq, Nat.reduceEqDiff, forall_const, implies_true, Nat.reduceAdd, Nat.reduceSub, Nat.reduceMul, Nat.reduceLT, Nat.reduceLeDiff, Int.reduceToNat, Int.reduceAdd, Int.reduceSub, Int.reduceNeg, Int.reduceMul, Int.reduceLT, Int.reduceLE, Int.reduceEq]
        refine (class_A s.letter _ hbs).then ?_
        simp (disch := first | omega | (simp only [List.length_cons, List.length_nil, List.length_map, List.length_drop]; omega)) only [hadd, seSl, hlt, hkl, if_true, hk1, wrap_i64, decide_true, decide_false, List.length_map, List.take_succ_cons, List.take_zero, hN, hob1, b1, b2, b3, b4, evSt, ↓evPre, ↓evPreW, evPost, evPostW, ← List.map_take, ← List.map_drop, ↓reduceIte, reduceCtorEq, Nat.reduceEqDiff, forall_const, implies_true, Nat.reduceAdd, Nat.reduceSub, Nat.reduceMul, Nat.reduceLT, Nat.reduceLeDiff, Int.reduceToNat, Int.reduceAdd, Int.reduceSub, Int.reduceNeg, Int.reduceMul, Int.reduceLT, Int.reduceLE, Int.reduceEq]
        refine mid_app (f := ⟨5, seatAt k⟩) g1 (by (try simp only [List.length_append, List.length_cons, List.length_nil]); omega) fun c2 U2 g2 => ?_
        have hob2 := g2.obj
        rw [seaR] at hob2
        simp (disch := first | omega | (simp only [List.length_cons, List.length_nil, List.length_map, List.length_drop]; omega)) only [hadd, seSl, hlt, hkl, if_true, hk1, wrap_i64, decide_true, decide_false, List.length_map, List.take_succ_cons, List.take_zero, hob2, b1, b2, b3, b4, evSt, ↓evPre, ↓evPreW, evPost, evPostW, ← List.map_take, ← List.map_drop, ↓reduceIte, reduceCtorEq, Nat.reduceEqDiff, forall_const, implies_true, Nat.reduceAdd, Nat.reduceSub, Nat.reduceMul, Nat.reduceLT, Nat.reduceLeDiff, Int.reduceToNat, Int.reduceAdd, Int.reduceSub, Int.reduceNeg, Int.reduceMul, Int.reduceLT, Int.reduceLE, Int.reduceEq]
        refine loopA (ι := Nat) (fun j => [(0, seSl l), (3, c2), (4, .int .i64 k), (5, .ptr pid 0 0 0), (6, .str (seatAt k)), (7, .bool ((l.take j).any (sameS s))), (8, .int .i64 j)]) (fun _ => S ++ U2) (fun j => j ≤ k) (fun j => k - j) 0 (Nat.zero_le _) ?_ rfl ?_
        · simp only [seSl, List.take_zero, List.any_nil, ↓evPre, ↓evPreW, evPost, evPostW, ← List.map_take, ← List.map_drop, ↓reduceIte, reduceCtorEq, Nat.reduceEqDiff, forall_const, implies_true, Nat.reduceAdd, Nat.reduceSub, Nat.reduceMul, Nat.reduceLT, Nat.reduceLeDiff, Int.reduceToNat, Int.reduceAdd, Int.reduceSub, Int.reduceNeg, Int.reduceMul, Int.reduceLT, Int.reduceLE, Int.reduceEq]
        · intro j hj
          by_cases hjk : j < k
          · have hlt2 : (j : Int) < k := by omega
            have hd : l[j]? = some l[j] := List.getElem?_eq_getElem (by omega)
            generalize l[j] = d at hd
            have hs := twi j hjk d hd
            cases ht : (l.take j).any (sameS s) with
            | true =>
              rw [ht, Bool.true_or] at hs
              simp (disch := first | omega | (simp only [List.length_cons, List.length_nil, List.length_map, List.length_drop]; omega)) only [hob2, seSl, seaR, List.length_map, wrap_i64, hc, hd, hlt2, decide_true, List.getElem?_map, Option.map_some, evSt, ↓evPre, ↓evPreW, evPost, evPostW, ← List.map_take, ← List.map_drop, ↓reduceIte, reduceCtorEq, Nat.reduceEqDiff, forall_const, implies_true, Nat.reduceAdd, Nat.reduceSub, Nat.reduceMul, Nat.reduceLT, Nat.reduceLeDiff, Int.reduceToNat, Int.reduceAdd, Int.reduceSub, Int.reduceNeg, Int.reduceMul, Int.reduceLT, Int.reduceLE, Int.reduceEq]
              exact ⟨j + 1, by omega, by omega, by simp [hs, seSl], rfl⟩
            | false =>
              rw [ht, Bool.false_or] at hs
              by_cases hr : d.row = s.row
              · rw [decide_eq_true hr, Bool.true_and] at hs
                simp (disch := first | omega | (simp only [List.length_cons, List.length_nil, List.length_map, List.length_drop]; omega)) only [hob2, hr, seSl, seaR, List.length_map, wrap_i64, hc, hd, hlt2, decide_true, List.getElem?_map, Option.map_some, evSt, ↓evPre, ↓evPreW, evPost, evPostW, ← List.map_take, ← List.map_drop, ↓reduceIte, reduceCtorEq, Nat.reduceEqDiff, forall_const, implies_true, Nat.reduceAdd, Nat.reduceSub, Nat.reduceMul, Nat.reduceLT, Nat.reduceLeDiff, Int.reduceToNat, Int.reduceAdd, Int.reduceSub, Int.reduceNeg, Int.reduceMul, Int.reduceLT, Int.reduceLE, Int.reduceEq]
                exact ⟨j + 1, by omega, by omega, by simp [hs, seSl], rfl⟩
              · rw [decide_eq_false hr, Bool.false_and] at hs
                simp (disch := first | omega | (simp only [List.length_cons, List.length_nil, List.length_map, List.length_drop]; omega)) only [hob2, hr, seSl, seaR, List.length_map, wrap_i64, hc, hd, hlt2, decide_true, decide_false, List.getElem?_map, Option.map_some, evSt, ↓evPre, ↓evPreW, evPost, evPostW, ← List.map_take, ← List.map_drop, ↓reduceIte, reduceCtorEq, Nat.reduceEqDiff, forall_const, implies_true, Nat.reduceAdd, Nat.reduceSub, Nat.reduceMul, Nat.reduceLT, Nat.reduceLeDiff, Int.reduceToNat, Int.reduceAdd, Int.reduceSub, Int.reduceNeg, Int.reduceMul, Int.reduceLT, Int.reduceLE, Int.reduceEq]
                exact ⟨j + 1, by omega, by omega, by simp [hs, seSl], rfl⟩
          have e : j = k := by omega
          subst e
          have hlt3 : ¬ ((j : Int) < j) := by omega
          cases hT : (l.take j).any (sameS s) with
          | true =>
            have hF : F1 = F0 ++ [⟨2, seatAt j⟩] ++ [⟨5, seatAt j⟩] ++ [⟨6, seatAt j⟩] := by
              rw [hstep, faultsAt, if_pos hA, if_neg hN2, if_pos hT]
              simp only [List.append_assoc, List.nil_append, List.append_nil, List.cons_append]
            simp (disch := first | omega | (simp only [List.length_cons, List.length_nil, List.length_map, List.length_drop]; omega)) only [hlt3, hT, hk1, seSl, wrap_i64, decide_true, decide_false, List.take_succ_cons, List.take_zero, evSt, ↓evPre, ↓evPreW, evPost, evPostW, ← List.map_take, ← List.map_drop, ↓reduceIte, reduceCtorEq, Nat.reduceEqDiff, forall_const, implies_true, Nat.reduceAdd, Nat.reduceSub, Nat.reduceMul, Nat.reduceLT, Nat.reduceLeDiff, Int.reduceToNat, Int.reduceAdd, Int.reduceSub, Int.reduceNeg, Int.reduceMul, Int.reduceLT, Int.reduceLE, Int.reduceEq]
            refine mid_app (f := ⟨6, seatAt j⟩) g2 (by (try simp only [List.length_append, List.length_cons, List.length_nil]); omega) fun c9 U9 g9 => ?_
            simp (disch := first | omega | (simp only [List.length_cons, List.length_nil, List.length_map, List.length_drop]; omega)) only [hlt3, hT, hk1, seSl, wrap_i64, decide_true, decide_false, List.take_succ_cons, List.take_zero, evSt, ↓evPre, ↓evPreW, evPost, evPostW, ← List.map_take, ← List.map_drop, ↓reduceIte, reduceCtorEq, Nat.reduceEqDiff, forall_const, implies_true, Nat.reduceAdd, Nat.reduceSub, Nat.reduceMul, Nat.reduceLT, Nat.reduceLeDiff, Int.reduceToNat, Int.reduceAdd, Int.reduceSub, Int.reduceNeg, Int.reduceMul, Int.reduceLT, Int.reduceLE, Int.reduceEq]
            rw [← hF] at g9
            obtain ⟨T2, o1, o2, o3⟩ := fin _ _ g9
            exact ⟨(j + 1, _, T2), ⟨by simp only; omega, by rw [hF1]; exact o1⟩, by simp only; omega, back_under o2 ⟨rfl, rfl, rfl, trivial⟩ (by simp [V.under, seSl, o3])⟩
          | false =>
            have hF : F1 = F0 ++ [⟨2, seatAt j⟩] ++ [⟨5, seatAt j⟩] := by
              rw [hstep, faultsAt, if_pos hA, if_neg hN2, if_neg (by rw [hT]; exact Bool.noConfusion)]
              simp only [List.append_assoc, List.nil_append, List.append_nil, List.cons_append]
            simp (disch := first | omega | (simp only [List.length_cons, List.length_nil, List.length_map, List.length_drop]; omega)) only [hlt3, hT, hk1, seSl, wrap_i64, decide_true, decide_false, List.take_succ_cons, List.take_zero, evSt, ↓evPre, ↓evPreW, evPost, evPostW, ← List.map_take, ← List.map_drop, ↓reduceIte, reduceCtorEq, Nat.reduceEqDiff, forall_const, implies_true, Nat.reduceAdd, Nat.reduceSub, Nat.reduceMul, Nat.reduceLT, Nat.reduceLeDiff, Int.reduceToNat, Int.reduceAdd, Int.reduceSub, Int.reduceNeg, Int.reduceMul, Int.reduceLT, Int.reduceLE, Int.reduceEq]
            have g9 := g2
            rw [← hF] at g9
            obtain ⟨T2, o1, o2, o3⟩ := fin _ _ g9
            exact ⟨(j + 1, _, T2), ⟨by simp only; omega, by rw [hF1]; exact o1⟩, by simp only; omega, back_under o2 ⟨rfl, rfl, rfl, trivial⟩ (by simp [V.under, seSl, o3])⟩
    have hA : ¬ argBad s := by unfold argBad; omega
    cases hN : clsOk s.letter with
    | true =>
      have hN2 := (clsOk_iff s.letter).1 hN
      simp (disch := first | omega | (simp only [List.length_cons, List.length_nil, List.length_map, List.length_drop]; omega)) only [hadd, seSl, hlt, hkl, if_true, hk1, wrap_i64, decide_true, decide_false, List.length_map, List.take_succ_cons, List.take_zero, hob0, b1, b2, b3, b4, evSt, ↓evPre, ↓evPreW, evPost, evPostW, ← List.map_take, ← List.map_drop, ↓reduceIte, reduceCtorEq, Nat.reduceEqDiff, forall_const, implies_true, Nat.reduceAdd, Nat.reduceSub, Nat.reduceMul, Nat.reduceLT, Nat.reduceLeDiff, Int.reduceToNat, Int.reduceAdd, Int.reduceSub, Int.reduceNeg, Int.reduceMul, Int.reduceLT, Int.reduceLE, Int.reduceEq]
      refine (class_A s.letter _ hbs).then ?_
      simp (disch := first | omega | (simp only [List.length_cons, List.length_nil, List.length_map, List.length_drop]; omega)) only [hadd, seSl, hlt, hkl, if_true, hk1, wrap_i64, decide_true, decide_false, List.length_map, List.take_succ_cons, List.take_zero, hN, hob0, b1, b2, b3, b4, evSt, ↓evPre, ↓evPreW, evPost, evPostW, ← List.map_take, ← List.map_drop, ↓reduceIte, reduceCtorEq, Nat.reduceEqDiff, forall_const, implies_true, Nat.reduceAdd, Nat.reduceSub, Nat.reduceMul, Nat.reduceLT, Nat.reduceLeDiff, Int.reduceToNat, Int.reduceAdd, Int.reduceSub, Int.reduceNeg, Int.reduceMul, Int.reduceLT, Int.reduceLE, Int.reduceEq]
      refine loopA (ι := Nat) (fun j => [(0, seSl l), (3, cell), (4, .int .i64 k), (5, .ptr pid 0 0 0), (6, .str (seatAt k)), (7, .bool ((l.take j).any (sameS s))), (8, .int .i64 j)]) (fun _ => S ++ U) (fun j => j ≤ k) (fun j => k - j) 0 (Nat.zero_le _) ?_ rfl ?_
      · simp only [seSl, List.take_zero, List.any_nil, ↓evPre, ↓evPreW, evPost, evPostW, ← List.map_take, ← List.map_drop, ↓reduceIte, reduceCtorEq, Nat.reduceEqDiff, forall_const, implies_true, Nat.reduceAdd, Nat.reduceSub, Nat.reduceMul, Nat.reduceLT, Nat.reduceLeDiff, Int.reduceToNat, Int.reduceAdd, Int.reduceSub, Int.reduceNeg, Int.reduceMul, Int.reduceLT, Int.reduceLE, Int.reduceEq]
      · intro j hj
        by_cases hjk : j < k
        · have hlt2 : (j : Int) < k := by omega
          have hd : l[j]? = some l[j] := List.getElem?_eq_getElem (by omega)
          generalize l[j] = d at hd
          have hs := twi j hjk d hd
          cases ht : (l.take j).any (sameS s) with
          | true =>
            rw [ht, Bool.true_or] at hs
            simp (disch := first | omega | (simp only [List.length_cons, List.length_nil, List.length_map, List.length_drop]; omega)) only [hob0, seSl, seaR, List.length_map, wrap_i64, hc, hd, hlt2, decide_true, List.getElem?_map, Option.map_some, evSt, ↓evPre, ↓evPreW, evPost, evPostW, ← List.map_take, ← List.map_drop, ↓reduceIte, reduceCtorEq, Nat.reduceEqDiff, forall_const, implies_true, Nat.reduceAdd, Nat.reduceSub, Nat.reduceMul, Nat.reduceLT, Nat.reduceLeDiff, Int.reduceToNat, Int.reduceAdd, Int.reduceSub, Int.reduceNeg, Int.reduceMul, Int.reduceLT, Int.reduceLE, Int.reduceEq]
            exact ⟨j + 1, by omega, by omega, by simp [hs, seSl], rfl⟩
          | false =>
            rw [ht, Bool.false_or] at hs
            by_cases hr : d.row = s.row
            · rw [decide_eq_true hr, Bool.true_and] at hs
              simp (disch := first | omega | (simp only [List.length_cons, List.length_nil, List.length_map, List.length_drop]; omega)) only [hob0, hr, seSl, seaR, List.length_map, wrap_i64, hc, hd, hlt2, decide_true, List.getElem?_map, Option.map_some, evSt, ↓evPre, ↓evPreW, evPost, evPostW, ← List.map_take, ← List.map_drop, ↓reduceIte, reduceCtorEq, Nat.reduceEqDiff, forall_const, implies_true, Nat.reduceAdd, Nat.reduceSub, Nat.reduceMul, Nat.reduceLT, Nat.reduceLeDiff, Int.reduceToNat, Int.reduceAdd, Int.reduceSub, Int.reduceNeg, Int.reduceMul, Int.reduceLT, Int.reduceLE, Int.reduceEq]
              exact ⟨j + 1, by omega, by omega, by simp [hs, seSl], rfl⟩
            · rw [decide_eq_false hr, Bool.false_and] at hs
              simp (disch := first | omega | (simp only [List.length_cons, List.length_nil, List.length_map, List.length_drop]; omega)) only [hob0, hr, seSl, seaR, List.length_map, wrap_i64, hc, hd, hlt2, decide_true, decide_false, List.getElem?_map, Option.map_some, evSt, ↓evPre, ↓evPreW, evPost, evPostW, ← List.map_take, ← List.map_drop, ↓reduceIte, reduceCtorEq, Nat.reduceEqDiff, forall_const, implies_true, Nat.reduceAdd, Nat.reduceSub, Nat.reduceMul, Nat.reduceLT, Nat.reduceLeDiff, Int.reduceToNat, Int.reduceAdd, Int.reduceSub, Int.reduceNeg, Int.reduceMul, Int.reduceLT, Int.reduceLE, Int.reduceEq]
              exact ⟨j + 1, by omega, by omega, by simp [hs, seSl], rfl⟩
        have e : j = k := by omega
        subst e
        have hlt3 : ¬ ((j : Int) < j) := by omega
        cases hT : (l.take j).any (sameS s) with
        | true =>
          have hF : F1 = F0 ++ [⟨6, seatAt j⟩] := by
            rw [hstep, faultsAt, if_neg hA, if_pos hN2, if_pos hT]
            simp only [List.append_assoc, List.nil_append, List.append_nil, List.cons_append]
          simp (disch := first | omega | (simp only [List.length_cons, List.length_nil, List.length_map, List.length_drop]; omega)) only [hlt3, hT, hk1, seSl, wrap_i64, decide_true, decide_false, List.take_succ_cons, List.take_zero, evSt, ↓evPre, ↓evPreW, evPost, evPostW, ← List.map_take, ← List.map_drop, ↓reduceIte, reduceCtorEq, Nat.reduceEqDiff, forall_const, implies_true, Nat.reduceAdd, Nat.reduceSub, Nat.reduceMul, Nat.reduceLT, Nat.reduceLeDiff, Int.reduceToNat, Int.reduceAdd, Int.reduceSub, Int.reduceNeg, Int.reduceMul, Int.reduceLT, Int.reduceLE, Int.reduceEq]
          refine mid_app (f := ⟨6, seatAt j⟩) mid (by (try simp only [List.length_append, List.length_cons, List.length_nil]); omega) fun c9 U9 g9 => ?_
          simp (disch := first | omega | (simp only [List.length_cons, List.length_nil, List.length_map, List.length_drop]; omega)) only [hlt3, hT, hk1, seSl, wrap_i64, decide_true, decide_false, List.take_succ_cons, List.take_zero, evSt, ↓evPre, ↓evPreW, evPost, evPostW, ← List.map_take, ← List.map_drop, ↓reduceIte, reduceCtorEq, Nat.reduceEqDiff, forall_const, implies_true, Nat.reduceAdd, Nat.reduceSub, Nat.reduceMul, Nat.reduceLT, Nat.reduceLeDiff, Int.reduceToNat, Int.reduceAdd, Int.reduceSub, Int.reduceNeg, Int.reduceMul, Int.reduceLT, Int.reduceLE, Int.reduceEq]
          rw [← hF] at g9
          obtain ⟨T2, o1, o2, o3⟩ := fin _ _ g9
          exact ⟨(j + 1, _, T2), ⟨by simp only; omega, by rw [hF1]; exact o1⟩, by simp only; omega, back_under o2 ⟨rfl, rfl, rfl, trivial⟩ (by simp [V.under, seSl, o3])⟩
        | false =>
          have hF : F1 = F0 := by
            rw [hstep, faultsAt, if_neg hA, if_pos hN2, if_neg (by rw [hT]; exact Bool.noConfusion)]
            simp only [List.append_assoc, List.nil_append, List.append_nil, List.cons_append]
          simp (disch := first | omega | (simp only [List.length_cons, List.length_nil, List.length_map, List.length_drop]; omega)) only [hlt3, hT, hk1, seSl, wrap_i64, decide_true, decide_false, List.take_succ_cons, List.take_zero, evSt, ↓evPre, ↓evPreW, evPost, evPostW, ← List.map_take, ← List.map_drop, ↓reduceIte, reduceCtorEq, Nat.reduceEqDiff, forall_const, implies_true, Nat.reduceAdd, Nat.reduceSub, Nat.reduceMul, Nat.reduceLT, Nat.reduceLeDiff, Int.reduceToNat, Int.reduceAdd, Int.reduceSub, Int.reduceNeg, Int.reduceMul, Int.reduceLT, Int.reduceLE, Int.reduceEq]
          have g9 := mid
          rw [← hF] at g9
          obtain ⟨T2, o1, o2, o3⟩ := fin _ _ g9
          exact ⟨(j + 1, _, T2), ⟨by simp only; omega, by rw [hF1]; exact o1⟩, by simp only; omega, back_under o2 ⟨rfl, rfl, rfl, trivial⟩ (by simp [V.under, seSl, o3])⟩
    | false =>
      have hN2 : ¬ nameGood s.letter := fun h => by rw [(clsOk_iff s.letter).2 h] at hN; cases hN
      simp (disch := first | omega | (simp only [List.length_cons, List.length_nil, List.length_map, List.length_drop]; omega)) only [hadd, seSl, hlt, hkl, if_true, hk1, wrap_i64, decide_true, decide_false, List.length_map, List.take_succ_cons, List.take_zero, hob0, b1, b2, b3, b4, evSt, ↓evPre, ↓evPreW, evPost, evPostW, ← List.map_take, ← List.map_drop, ↓reduceIte, reduceCtorEq, Nat.reduceEqDiff, forall_const, implies_true, Nat.reduceAdd, Nat.reduceSub, Nat.reduceMul, Nat.reduceLT, Nat.reduceLeDiff, Int.reduceToNat, Int.reduceAdd, Int.reduceSub, Int.reduceNeg, Int.reduceMul, Int.reduceLT, Int.reduceLE, Int.reduceEq]
      refine (class_A s.letter _ hbs).then ?_
      simp (disch := first | omega | (simp only [List.length_cons, List.length_nil, List.length_map, List.length_drop]; omega)) only [hadd, seSl, hlt, hkl, if_true, hk1, wrap_i64, decide_true, decide_false, List.length_map, List.take_succ_cons, List.take_zero, hN, hob0, b1, b2, b3, b4, evSt, ↓evPre, ↓evPreW, evPost, evPostW, ← List.map_take, ← List.map_drop, ↓reduceIte, reduceCtorEq, Nat.reduceEqDiff, forall_const, implies_true, Nat.reduceAdd, Nat.reduceSub, Nat.reduceMul, Nat.reduceLT, Nat.reduceLeDiff, Int.reduceToNat, Int.reduceAdd, Int.reduceSub, Int.reduceNeg, Int.reduceMul, Int.reduceLT, Int.reduceLE, Int.reduceEq]
      refine mid_app (f := ⟨5, seatAt k⟩) mid (by (try simp only [List.length_append, List.length_cons, List.length_nil]); omega) fun c2 U2 g2 => ?_
      have hob2 := g2.obj
      rw [seaR] at hob2
      simp (disch := first | omega | (simp only [List.length_cons, List.length_nil, List.length_map, List.length_drop]; omega)) only [hadd, seSl, hlt, hkl, if_true, hk1, wrap_i64, decide_true, decide_false, List.length_map, List.take_succ_cons, List.take_zero, hob2, b1, b2, b3, b4, evSt, ↓evPre, ↓evPreW, evPost, evPostW, ← List.map_take, ← List.map_drop, ↓reduceIte, reduceCtorEq, Nat.reduceEqDiff, forall_const, implies_true, Nat.reduceAdd, Nat.reduceSub, Nat.reduceMul, Nat.reduceLT, Nat.reduceLeDiff, Int.reduceToNat, Int.reduceAdd, Int.reduceSub, Int.reduceNeg, Int.reduceMul, Int.reduceLT, Int.reduceLE, Int.reduceEq]
      refine loopA (ι := Nat) (fun j => [(0, seSl l), (3, c2), (4, .int .i64 k), (5, .ptr pid 0 0 0), (6, .str (seatAt k)), (7, .bool ((l.take j).any (sameS s))), (8, .int .i64 j)]) (fun _ => S ++ U2) (fun j => j ≤ k) (fun j => k - j) 0 (Nat.zero_le _) ?_ rfl ?_
      · simp only [seSl, List.take_zero, List.any_nil, ↓evPre, ↓evPreW, evPost, evPostW, ← List.map_take, ← List.map_drop, ↓reduceIte, reduceCtorEq, Nat.reduceEqDiff, forall_const, implies_true, Nat.reduceAdd, Nat.reduceSub, Nat.reduceMul, Nat.reduceLT, Nat.reduceLeDiff, Int.reduceToNat, Int.reduceAdd, Int.reduceSub, Int.reduceNeg, Int.reduceMul, Int.reduceLT, Int.reduceLE, Int.reduceEq]
      · intro j hj
        by_cases hjk : j < k
        · have hlt2 : (j : Int) < k := by omega
          have hd : l[j]? = some l[j] := List.getElem?_eq_getElem (by omega)
          generalize l[j] = d at hd
          have hs := twi j hjk d hd
          cases ht : (l.take j).any (sameS s) with
          | true =>
            rw [ht, Bool.true_or] at hs
            simp (disch := first | omega | (simp only [List.length_cons, List.length_nil, List.length_map, List.length_drop]; omega)) only [hob2, seSl, seaR, List.length_map, wrap_i64, hc, hd, hlt2, decide_true, List.getElem?_map, Option.map_some, evSt, ↓evPre, ↓evPreW, evPost, evPostW, ← List.map_take, ← List.map_drop, ↓reduceIte, reduceCtorEq, Nat.reduceEqDiff, forall_const, implies_true, Nat.reduceAdd, Nat.reduceSub, Nat.reduceMul, Nat.reduceLT, Nat.reduceLeDiff, Int.reduceToNat, Int.reduceAdd, Int.reduceSub, Int.reduceNeg, Int.reduceMul, Int.reduceLT, Int.reduceLE, Int.reduceEq]
            exact ⟨j + 1, by omega, by omega, by simp [hs, seSl], rfl⟩
          | false =>
            rw [ht, Bool.false_or] at hs
            by_cases hr : d.row = s.row
            · rw [decide_eq_true hr, Bool.true_and] at hs
              simp (disch := first | omega | (simp only [List.length_cons, List.length_nil, List.length_map, List.length_drop]; omega)) only [hob2, hr, seSl, seaR, List.length_map, wrap_i64, hc, hd, hlt2, decide_true, List.getElem?_map, Option.map_some, evSt, ↓evPre, ↓evPreW, evPost, evPostW, ← List.map_take, ← List.map_drop, ↓reduceIte, reduceCtorEq, Nat.reduceEqDiff, forall_const, implies_true, Nat.reduceAdd, Nat.reduceSub, Nat.reduceMul, Nat.reduceLT, Nat.reduceLeDiff, Int.reduceToNat, Int.reduceAdd, Int.reduceSub, Int.reduceNeg, Int.reduceMul, Int.reduceLT, Int.reduceLE, Int.reduceEq]
              exact ⟨j + 1, by omega, by omega, by simp [hs, seSl], rfl⟩
            · rw [decide_eq_false hr, Bool.false_and] at hs
              simp (disch := first | omega | (simp only [List.length_cons, List.length_nil, List.length_map, List.length_drop]; omega)) only [hob2, hr, seSl, seaR, List.length_map, wrap_i64, hc, hd, hlt2, decide_true, decide_false, List.getElem?_map, Option.map_some, evSt, ↓evPre, ↓evPreW, evPost, evPostW, ← List.map_take, ← List.map_drop, ↓reduceIte, reduceCtorEq, Nat.reduceEqDiff, forall_const, implies_true, Nat.reduceAdd, Nat.reduceSub, Nat.reduceMul, Nat.reduceLT, Nat.reduceLeDiff, Int.reduceToNat, Int.reduceAdd, Int.reduceSub, Int.reduceNeg, Int.reduceMul, Int.reduceLT, Int.reduceLE, Int.reduceEq]
              exact ⟨j + 1, by omega, by omega, by simp [hs, seSl], rfl⟩
        have e : j = k := by omega
        subst e
        have hlt3 : ¬ ((j : Int) < j) := by omega
        cases hT : (l.take j).any (sameS s) with
        | true =>
          have hF : F1 = F0 ++ [⟨5, seatAt j⟩] ++ [⟨6, seatAt j⟩] := by
            rw [hstep, faultsAt, if_neg hA, if_neg hN2, if_pos hT]
            simp only [List.append_assoc, List.nil_append, List.append_nil, List.cons_append]
          simp (disch := first | omega | (simp only [List.length_cons, List.length_nil, List.length_map, List.length_drop]; omega)) only [hlt3, hT, hk1, seSl, wrap_i64, decide_true, decide_false, List.take_succ_cons, List.take_zero, evSt, ↓evPre, ↓evPreW, evPost, evPostW, ← List.map_take, ← List.map_drop, ↓reduceIte, reduceCtorEq, Nat.reduceEqDiff, forall_const, implies_true, Nat.reduceAdd, Nat.reduceSub, Nat.reduceMul, Nat.reduceLT, Nat.reduceLeDiff, Int.reduceToNat, Int.reduceAdd, Int.reduceSub, Int.reduceNeg, Int.reduceMul, Int.reduceLT, Int.reduceLE, Int.reduceEq]
          refine mid_app (f := ⟨6, seatAt j⟩) g2 (by (try simp only [List.length_append, List.length_cons, List.length_nil]); omega) fun c9 U9 g9 => ?_
          simp (disch := first | omega | (simp only [List.length_cons, List.length_nil, List.length_map, List.length_drop]; omega)) only [hlt3, hT, hk1, seSl, wrap_i64, decide_true, decide_false, List.take_succ_cons, List.take_zero, evSt, ↓evPre, ↓evPreW, evPost, evPostW, ← List.map_take, ← List.map_drop, ↓reduceIte, reduceCtorEq, Nat.reduceEqDiff, forall_const, implies_true, Nat.reduceAdd, Nat.reduceSub, Nat.reduceMul, Nat.reduceLT, Nat.reduceLeDiff, Int.reduceToNat, Int.reduceAdd, Int.reduceSub, Int.reduceNeg, Int.reduceMul, Int.reduceLT, Int.reduceLE, Int.reduceEq]
          rw [← hF] at g9
          obtain ⟨T2, o1, o2, o3⟩ := fin _ _ g9
          exact ⟨(j + 1, _, T2), ⟨by simp only; omega, by rw [hF1]; exact o1⟩, by simp only; omega, back_under o2 ⟨rfl, rfl, rfl, trivial⟩ (by simp [V.under, seSl, o3])⟩
        | false =>
          have hF : F1 = F0 ++ [⟨5, seatAt j⟩] := by
            rw [hstep, faultsAt, if_neg hA, if_neg hN2, if_neg (by rw [hT]; exact Bool.noConfusion)]
            simp only [List.append_assoc, List.nil_append, List.append_nil, List.cons_append]
          simp (disch := first | omega | (simp only [List.length_cons, List.length_nil, List.length_map, List.length_drop]; omega)) only [hlt3, hT, hk1, seSl, wrap_i64, decide_true, decide_false, List.take_succ_cons, List.take_zero, evSt, ↓evPre, ↓evPreW, evPost, evPostW, ← List.map_take, ← List.map_drop, ↓reduceIte, reduceCtorEq, Nat.reduceEqDiff, forall_const, implies_true, Nat.reduceAdd, Nat.reduceSub, Nat.reduceMul, Nat.reduceLT, Nat.reduceLeDiff, Int.reduceToNat, Int.reduceAdd, Int.reduceSub, Int.reduceNeg, Int.reduceMul, Int.reduceLT, Int.reduceLE, Int.reduceEq]
          have g9 := g2
          rw [← hF] at g9
          obtain ⟨T2, o1, o2, o3⟩ := fin _ _ g9
          exact ⟨(j + 1, _, T2), ⟨by simp only; omega, by rw [hF1]; exact o1⟩, by simp only; omega, back_under o2 ⟨rfl, rfl, rfl, trivial⟩ (by simp [V.under, seSl, o3])⟩
end Go.Proofs.YteeenlgoildmiaaDoor
