/- The reference's lists of coupons. -/
import Derived.Test.YtdkcicbpcagonabRec5
namespace Go.Proofs.Ytdkcicbpcagonab
open Go Go.AL
set_option linter.unusedSimpArgs false
set_option linter.unusedVariables false

/-! ### Finding -/
def st0 : St := ⟨0, 0, 0, 0⟩
theorem find_A (l : List St) (x : St) (S : Store) (hl : l.length ≤ 1000000) : CallA Try.prog 41 [stSl l, stV x] S fun r S' => r = .tup [stV ((l.find? (sameS x)).getD st0), .bool (l.find? (sameS x)).isSome] ∧ S' = S := by
  refine CallA.withNeat Try.func41 c46 fun hn => ?_
  refine CallA.fin Try.func41 c46 (Nat.le_of_ble_eq_true rfl) fun σ hσ => ?_
  simp (disch := first | omega | (simp only [List.length_cons, List.length_nil, List.length_map, List.length_drop]; omega)) only [a46, stV, stR, evSt, ↓evPre, ↓evPreW, evPost, evPostW, ← List.map_take, ← List.map_drop, ↓reduceIte, reduceCtorEq, Nat.reduceEqDiff, forall_const, implies_true, Nat.reduceAdd, Nat.reduceSub, Nat.reduceMul, Nat.reduceLT, Nat.reduceLeDiff, Int.reduceToNat, Int.reduceAdd, Int.reduceSub, Int.reduceNeg, Int.reduceMul, Int.reduceLT, Int.reduceLE, Int.reduceEq]
  refine loopA (ι := Nat) (fun k => [(0, stSl l), (3, .cptr (stR x)), (4, .ptr S.length 0 0 0), (6, .int .i64 k)]) (fun _ => S ++ [⟨0, some (.arr 27 4 [[.int .i64 0, .int .i64 0, .int .i64 0, .int .i64 0]])⟩]) (fun k => k ≤ l.length ∧ (l.take k).find? (sameS x) = none) (fun k => l.length - k) 0 ⟨Nat.zero_le _, rfl⟩ ?_ rfl ?_
  · simp only [stR, ↓evPre, ↓evPreW, evPost, evPostW, ← List.map_take, ← List.map_drop, ↓reduceIte, reduceCtorEq, Nat.reduceEqDiff, forall_const, implies_true, Nat.reduceAdd, Nat.reduceSub, Nat.reduceMul, Nat.reduceLT, Nat.reduceLeDiff, Int.reduceToNat, Int.reduceAdd, Int.reduceSub, Int.reduceNeg, Int.reduceMul, Int.reduceLT, Int.reduceLE, Int.reduceEq]
    try rfl
  · rintro k ⟨hk, hno⟩
    cases hc : l[k]? with
    | none =>
      have hge : l.length ≤ k := List.getElem?_eq_none_iff.1 hc
      have hlt : ¬ ((k : Int) < l.length) := by omega
      rw [List.take_of_length_le hge] at hno
      simp (disch := first | omega | (simp only [List.length_cons, List.length_nil, List.length_map, List.length_drop]; omega)) only [stSl, stR, List.length_map, hlt, decide_false, evSt, ↓evPre, ↓evPreW, evPost, evPostW, ← List.map_take, ← List.map_drop, ↓reduceIte, reduceCtorEq, Nat.reduceEqDiff, forall_const, implies_true, Nat.reduceAdd, Nat.reduceSub, Nat.reduceMul, Nat.reduceLT, Nat.reduceLeDiff, Int.reduceToNat, Int.reduceAdd, Int.reduceSub, Int.reduceNeg, Int.reduceMul, Int.reduceLT, Int.reduceLE, Int.reduceEq]
      rw [hno]
      exact ⟨_, S, hn.fgt _, .imm rfl, Nat.le_refl _, rfl, rfl⟩
    | some y =>
      have hlt' := (List.getElem?_eq_some_iff.1 hc).1
      have hlt : (k : Int) < l.length := by omega
      simp (disch := first | omega | (simp only [List.length_cons, List.length_nil, List.length_map, List.length_drop]; omega)) only [stSl, stR, List.length_map, List.getElem?_map, Option.map_some, hc, hlt, decide_true, evSt, ↓evPre, ↓evPreW, evPost, evPostW, ← List.map_take, ← List.map_drop, ↓reduceIte, reduceCtorEq, Nat.reduceEqDiff, forall_const, implies_true, Nat.reduceAdd, Nat.reduceSub, Nat.reduceMul, Nat.reduceLT, Nat.reduceLeDiff, Int.reduceToNat, Int.reduceAdd, Int.reduceSub, Int.reduceNeg, Int.reduceMul, Int.reduceLT, Int.reduceLE, Int.reduceEq]
      refine (same_A y x _).then ?_
      cases hs : sameS y x with
      | true =>
        have hfd : l.find? (sameS x) = some y := by
          rw [← List.take_append_drop k l, List.find?_append, hno, drop_of_get hc, List.find?_cons, same_sym, hs]
          rfl
        simp (disch := first | omega | (simp only [List.length_cons, List.length_nil, List.length_map, List.length_drop]; omega)) only [hfd, stV, stR, List.length_map, List.getElem?_map, Option.map_some, Option.getD_some, Option.isSome_some, hc, hlt, decide_true, evSt, ↓evPre, ↓evPreW, evPost, evPostW, ← List.map_take, ← List.map_drop, ↓reduceIte, reduceCtorEq, Nat.reduceEqDiff, forall_const, implies_true, Nat.reduceAdd, Nat.reduceSub, Nat.reduceMul, Nat.reduceLT, Nat.reduceLeDiff, Int.reduceToNat, Int.reduceAdd, Int.reduceSub, Int.reduceNeg, Int.reduceMul, Int.reduceLT, Int.reduceLE, Int.reduceEq]
        exact ⟨_, S, hn.fgt _, .imm rfl, Nat.le_refl _, rfl, rfl⟩
      | false =>
        simp (disch := first | omega | (simp only [List.length_cons, List.length_nil, List.length_map, List.length_drop]; omega)) only [wrap_i64, evSt, ↓evPre, ↓evPreW, evPost, evPostW, ← List.map_take, ← List.map_drop, ↓reduceIte, reduceCtorEq, Nat.reduceEqDiff, forall_const, implies_true, Nat.reduceAdd, Nat.reduceSub, Nat.reduceMul, Nat.reduceLT, Nat.reduceLeDiff, Int.reduceToNat, Int.reduceAdd, Int.reduceSub, Int.reduceNeg, Int.reduceMul, Int.reduceLT, Int.reduceLE, Int.reduceEq]
        refine ⟨k + 1, ⟨by omega, ?_⟩, by omega, rfl⟩
        rw [List.take_add_one, hc, List.find?_append, hno, Option.toList_some, List.find?_cons, same_sym, hs]
        rfl

/-! ### Each coupon once, in order -/
def insR (x : St) : List St → List St
  | [] => [x]
  | z :: l => if ltS z x then z :: insR x l else x :: z :: l
def atR (x : St) : List St → Nat
  | [] => 0
  | z :: l => if ltS z x then atR x l + 1 else 0
theorem atR_le (x : St) : ∀ l, atR x l ≤ l.length
  | [] => Nat.le_refl _
  | z :: l => by rw [atR]; have := atR_le x l; split <;> simp only [List.length_cons] <;> omega
theorem atR_lt (x : St) : ∀ {l : List St} {k : Nat}, k < atR x l → ∃ z, l[k]? = some z ∧ ltS z x = true
  | z :: l, k, h => by
    rw [atR] at h
    split at h
    · rename_i hz
      cases k with
      | zero => exact ⟨z, rfl, hz⟩
      | succ k => exact atR_lt x (l := l) (k := k) (by omega)
    · omega
theorem atR_at (x : St) : ∀ {l : List St} {z : St}, l[atR x l]? = some z → ltS z x = false
  | y :: l, z, h => by
    rw [atR] at h
    split at h
    · exact atR_at x (l := l) (by simpa using h)
    · rename_i hy
      simp at h; subst h
      simpa using hy
theorem insR_eq (x : St) : ∀ l, insR x l = l.take (atR x l) ++ x :: l.drop (atR x l)
  | [] => rfl
  | z :: l => by
    rw [insR, atR]
    split
    · rw [insR_eq x l]; rfl
    · rfl
theorem insR_len (x : St) : ∀ l, (insR x l).length = l.length + 1
  | [] => rfl
  | z :: l => by rw [insR]; split <;> simp [insR_len x l]
theorem insR_mem {x a : St} : ∀ {l : List St}, a ∈ insR x l ↔ a = x ∨ a ∈ l
  | [] => by simp [insR]
  | z :: l => by
    rw [insR]
    split
    · simp only [List.mem_cons, insR_mem (l := l)]
      constructor
      · rintro (h | h | h) <;> simp [h]
      · rintro (h | h | h) <;> simp [h]
    · simp only [List.mem_cons]
theorem insR_asc {x : St} : ∀ {l : List St}, Asc l → l.find? (sameS x) = none → Asc (insR x l)
  | [], _, _ => List.pairwise_singleton ..
  | z :: l, h, hf => by
    unfold Asc at h ⊢
    rw [List.pairwise_cons] at h
    rw [List.find?_cons] at hf
    have hs : sameS x z = false := by cases hs : sameS x z; rfl; rw [hs] at hf; cases hf
    rw [hs] at hf
    rw [insR]
    split
    · rename_i hz
      rw [List.pairwise_cons]
      refine ⟨fun a ha => ?_, insR_asc h.2 hf⟩
      rcases insR_mem.1 ha with rfl | ha
      · exact hz
      · exact h.1 a ha
    · rename_i hz
      have hxz : ltS x z = true := lt_of (by simpa using hz) hs
      rw [List.pairwise_cons, List.pairwise_cons]
      refine ⟨fun a ha => ?_, h⟩
      rcases List.mem_cons.1 ha with rfl | ha
      · exact hxz
      · exact lt_tr hxz (h.1 a ha)
theorem insR_find {x : St} (w : St) : ∀ {l : List St}, l.find? (sameS x) = none → (insR x l).find? (sameS w) = if sameS w x then some x else l.find? (sameS w)
  | [], _ => by rw [insR, List.find?_cons, List.find?_nil]; cases sameS w x <;> simp
  | z :: l, hf => by
    rw [List.find?_cons] at hf
    have hs : sameS x z = false := by cases hs : sameS x z; rfl; rw [hs] at hf; cases hf
    rw [hs] at hf
    rw [insR]
    split
    · rw [List.find?_cons, List.find?_cons, insR_find w hf]
      cases hw : sameS w x
      · simp
      · have : sameS w z = false := by rw [same_same z hw]; exact hs
        simp [this]
    · rw [List.find?_cons]
      cases hw : sameS w x <;> simp

def cpAdd (out : List St) (x : St) : List St := if (out.find? (sameS x)).isSome then out else insR x out
def cpS (l : List St) : Nat → List St
  | 0 => []
  | k + 1 => match l[k]? with
    | some y => cpAdd (cpS l k) ((l.find? (sameS y)).getD st0)
    | none => cpS l k
theorem find_take {l : List St} {k : Nat} {w x : St} (h : (l.take k).find? (sameS w) = some x) : l.find? (sameS w) = some x := by
  rw [← List.take_append_drop k l, List.find?_append, h]; rfl
theorem cpS_ok (l : List St) : ∀ (k : Nat), Asc (cpS l k) ∧ (∀ w, (cpS l k).find? (sameS w) = (l.take k).find? (sameS w)) ∧ (cpS l k).length ≤ k
  | 0 => ⟨.nil, fun w => rfl, Nat.le_refl _⟩
  | k + 1 => by
    obtain ⟨h1, h2, h3⟩ := cpS_ok l k
    rw [cpS]
    cases hc : l[k]? with
    | none =>
      have hge : l.length ≤ k := List.getElem?_eq_none_iff.1 hc
      simp only
      refine ⟨h1, fun w => ?_, by omega⟩
      rw [h2, List.take_of_length_le hge, List.take_of_length_le (by omega)]
    | some y =>
      simp only
      cases hg : (l.take k).find? (sameS y) with
      | some x =>
        have hx := find_take hg
        have hxy := find_same hg
        rw [hx, Option.getD_some, cpAdd]
        have : ((cpS l k).find? (sameS x)).isSome = true := by
          rw [h2, show (l.take k).find? (sameS x) = (l.take k).find? (sameS y) by congr 1; funext z; exact (same_same z hxy).symm, hg]
          rfl
        rw [if_pos this]
        refine ⟨h1, fun w => ?_, by omega⟩
        rw [h2, List.take_add_one, hc, List.find?_append, Option.toList_some, List.find?_cons, List.find?_nil]
        cases hw : sameS w y
        · simp
        · rw [show (l.take k).find? (sameS w) = (l.take k).find? (sameS y) by congr 1; funext z; exact same_same z hw, hg]
          rfl
      | none =>
        have hx : l.find? (sameS y) = some y := by
          rw [← List.take_append_drop k l, List.find?_append, hg, drop_of_get hc, List.find?_cons, same_self]
          rfl
        have hno : (cpS l k).find? (sameS y) = none := by rw [h2, hg]
        rw [hx, Option.getD_some, cpAdd, hno]
        simp only [Option.isSome_none, Bool.false_eq_true, if_false]
        refine ⟨insR_asc h1 hno, fun w => ?_, by rw [insR_len]; omega⟩
        rw [insR_find w hno, h2, List.take_add_one, hc, List.find?_append, Option.toList_some, List.find?_cons, List.find?_nil]
        cases hw : sameS w y
        · simp
        · rw [show (l.take k).find? (sameS w) = (l.take k).find? (sameS y) by congr 1; funext z; exact same_same z hw, hg]
          rfl
def coup (l : List St) : List St := cpS l l.length
theorem coup_asc (l : List St) : Asc (coup l) := (cpS_ok l _).1
theorem coup_find (l : List St) (w : St) : (coup l).find? (sameS w) = l.find? (sameS w) := by rw [coup, (cpS_ok l _).2.1, List.take_length]
theorem coup_len (l : List St) : (coup l).length ≤ l.length := (cpS_ok l _).2.2
theorem coup_perm (l : List St) : (coup l).Perm (firsts l) := (coup_asc l).apart.permF (firsts_apart l) fun w => by rw [coup_find, firsts_find]
/-- At the place of a coupon stands a state of it, if there is one. -/
theorem at_same {x : St} : ∀ {l : List St}, Asc l → (match l[atR x l]? with
    | some z => sameS z x
    | none => false) = (l.find? (sameS x)).isSome
  | [], _ => rfl
  | z :: l, h => by
    unfold Asc at h
    rw [List.pairwise_cons] at h
    rw [atR, List.find?_cons]
    cases hz : ltS z x with
    | true =>
      have hs : sameS x z = false := by rw [same_sym]; exact not_lt_same hz
      rw [if_pos rfl, hs, List.getElem?_cons_succ]
      exact at_same h.2
    | false =>
      rw [if_neg (by simp), List.getElem?_cons_zero]
      simp only
      rw [same_sym]
      cases hs : sameS x z with
      | true => rfl
      | false =>
        symm
        simp only
        rw [show l.find? (sameS x) = none by
          rw [List.find?_eq_none]
          intro y hy
          have := lt_tr (lt_of hz hs) (h.1 y hy)
          rw [not_lt_same this]
          simp]
        rfl
end Go.Proofs.Ytdkcicbpcagonab
