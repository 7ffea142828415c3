/- The reference's Right; the size of lines. -/
import Derived.Test.YtpblahljlbakdaaEdi4
namespace Go.Proofs.Ytpblahljlbakdaa
open Go Go.AL
set_option linter.unusedSimpArgs false

theorem refRight_A (l : List Ln) (S : Store) (hl : FitL l) : CallA Try.prog 13 [lnV l] S fun r S' => r = .bool (rightL l) ∧ S' = S := by
  refine CallA.keep Try.func13 c13 (Nat.le_of_ble_eq_true rfl) fun σ hσ => ?_
  obtain ⟨hl1, hl2⟩ := hl
  simp (disch := first | omega | (simp only [List.length_cons, List.length_nil, List.length_map, List.length_drop]; omega)) only [a13, lnV, ↓evPre, ↓evPreW, evPost, evPostW, ← List.map_take, ← List.map_drop, ↓reduceIte, reduceCtorEq, Nat.reduceEqDiff, forall_const, implies_true, Nat.reduceAdd, Nat.reduceSub, Nat.reduceMul, Nat.reduceLT, Nat.reduceLeDiff, Int.reduceToNat, Int.reduceAdd, Int.reduceSub, Int.reduceNeg, Int.reduceMul, Int.reduceLT, Int.reduceLE, Int.reduceEq]
  refine loopA (ι := Nat) (fun k => [(0, .sl 2 (l.map lnR)), (3, .int .i64 k)]) (fun _ => S) (fun k => k ≤ l.length ∧ (l.take k).any (fun x => !writable x) = false) (fun k => l.length - k) 0 ⟨Nat.zero_le _, by simp⟩ ?_ rfl ?_
  · simp only [↓evPre, ↓evPreW, evPost, evPostW, ← List.map_take, ← List.map_drop, ↓reduceIte, reduceCtorEq, Nat.reduceEqDiff, forall_const, implies_true, Nat.reduceAdd, Nat.reduceSub, Nat.reduceMul, Nat.reduceLT, Nat.reduceLeDiff, Int.reduceToNat, Int.reduceAdd, Int.reduceSub, Int.reduceNeg, Int.reduceMul, Int.reduceLT, Int.reduceLE, Int.reduceEq]
  · rintro k ⟨hk, hall⟩
    cases hx : l[k]? with
    | none =>
      have hkl : k = l.length := by have := List.getElem?_eq_none_iff.1 hx; omega
      have hlt : ¬ ((k : Int) < l.length) := by omega
      rw [hkl, List.take_length] at hall
      simp (disch := first | omega | (simp only [List.length_cons, List.length_nil, List.length_map, List.length_drop]; omega)) only [hlt, wrap_i64, rightL, hall, Bool.not_false, ↓evPre, ↓evPreW, evPost, evPostW, ← List.map_take, ← List.map_drop, ↓reduceIte, reduceCtorEq, Nat.reduceEqDiff, forall_const, implies_true, Nat.reduceAdd, Nat.reduceSub, Nat.reduceMul, Nat.reduceLT, Nat.reduceLeDiff, Int.reduceToNat, Int.reduceAdd, Int.reduceSub, Int.reduceNeg, Int.reduceMul, Int.reduceLT, Int.reduceLE, Int.reduceEq]
    | some x =>
      have hlt : ((k : Int) < l.length) := by have := (List.getElem?_eq_some_iff.1 hx).1; omega
      obtain ⟨hx1, hx2, hx3⟩ := hl2 x (List.mem_of_getElem? hx)
      simp (disch := first | omega | (simp only [List.length_cons, List.length_nil, List.length_map, List.length_drop]; omega)) only [hlt, hx, List.getElem?_map, Option.map_some, lnR, wrap_i64, ↓evPre, ↓evPreW, evPost, evPostW, ← List.map_take, ← List.map_drop, ↓reduceIte, reduceCtorEq, Nat.reduceEqDiff, forall_const, implies_true, Nat.reduceAdd, Nat.reduceSub, Nat.reduceMul, Nat.reduceLT, Nat.reduceLeDiff, Int.reduceToNat, Int.reduceAdd, Int.reduceSub, Int.reduceNeg, Int.reduceMul, Int.reduceLT, Int.reduceLE, Int.reduceEq]
      refine (airport_A x.tag S hx1).then ?_
      cases ht : tagOk x.tag
      · have hw : writable x = false := by simp [writable, ht]
        have hr : rightL l = false := by simp only [rightL, any_of_get (p := fun x => !writable x) hx (by simp [hw])]; rfl
        simp (disch := first | omega | (simp only [List.length_cons, List.length_nil, List.length_map, List.length_drop]; omega)) only [hlt, hx, wrap_i64, Bool.not_false, hr, ↓evPre, ↓evPreW, evPost, evPostW, ← List.map_take, ← List.map_drop, ↓reduceIte, reduceCtorEq, Nat.reduceEqDiff, forall_const, implies_true, Nat.reduceAdd, Nat.reduceSub, Nat.reduceMul, Nat.reduceLT, Nat.reduceLeDiff, Int.reduceToNat, Int.reduceAdd, Int.reduceSub, Int.reduceNeg, Int.reduceMul, Int.reduceLT, Int.reduceLE, Int.reduceEq]
      · simp (disch := first | omega | (simp only [List.length_cons, List.length_nil, List.length_map, List.length_drop]; omega)) only [hlt, hx, wrap_i64, Bool.not_true, ↓evPre, ↓evPreW, evPost, evPostW, ← List.map_take, ← List.map_drop, ↓reduceIte, reduceCtorEq, Nat.reduceEqDiff, forall_const, implies_true, Nat.reduceAdd, Nat.reduceSub, Nat.reduceMul, Nat.reduceLT, Nat.reduceLeDiff, Int.reduceToNat, Int.reduceAdd, Int.reduceSub, Int.reduceNeg, Int.reduceMul, Int.reduceLT, Int.reduceLE, Int.reduceEq]
        have hw : writable x = !x.els.any elBad := by simp [writable, ht]
        refine loopA (ι := Nat) (fun i => [(0, .sl 2 (l.map lnR)), (3, .int .i64 k), (4, .int .i64 i)]) (fun _ => S) (fun i => i ≤ x.els.length ∧ (x.els.take i).any elBad = false) (fun i => x.els.length - i) 0 ⟨Nat.zero_le _, by simp⟩ ?_ rfl ?_
        · simp only [↓evPre, ↓evPreW, evPost, evPostW, ← List.map_take, ← List.map_drop, ↓reduceIte, reduceCtorEq, Nat.reduceEqDiff, forall_const, implies_true, Nat.reduceAdd, Nat.reduceSub, Nat.reduceMul, Nat.reduceLT, Nat.reduceLeDiff, Int.reduceToNat, Int.reduceAdd, Int.reduceSub, Int.reduceNeg, Int.reduceMul, Int.reduceLT, Int.reduceLE, Int.reduceEq]
        · rintro i ⟨hi, hal⟩
          cases he : x.els[i]? with
          | none =>
            have hkl : i = x.els.length := by have := List.getElem?_eq_none_iff.1 he; omega
            have hlt2 : ¬ ((i : Int) < x.els.length) := by omega
            rw [hkl, List.take_length] at hal
            have hw1 : writable x = true := by rw [hw, hal]; rfl
            simp (disch := first | omega | (simp only [List.length_cons, List.length_nil, List.length_map, List.length_drop]; omega)) only [hlt, hlt2, hx, List.getElem?_map, Option.map_some, lnR, elV, wrap_i64, ↓evPre, ↓evPreW, evPost, evPostW, ← List.map_take, ← List.map_drop, ↓reduceIte, reduceCtorEq, Nat.reduceEqDiff, forall_const, implies_true, Nat.reduceAdd, Nat.reduceSub, Nat.reduceMul, Nat.reduceLT, Nat.reduceLeDiff, Int.reduceToNat, Int.reduceAdd, Int.reduceSub, Int.reduceNeg, Int.reduceMul, Int.reduceLT, Int.reduceLE, Int.reduceEq]
            exact ⟨k + 1, ⟨by omega, any_take_succ hx hall (by simp [hw1])⟩, by omega, by omega⟩
          | some e =>
            have hlt2 : ((i : Int) < x.els.length) := by have := (List.getElem?_eq_some_iff.1 he).1; omega
            have hfe := hx3 e (List.mem_of_getElem? he)
            obtain ⟨he1, he2⟩ := hfe
            have bad : elBad e = true → rightL l = false := fun hb => by
              have : x.els.any elBad = true := any_of_get he hb
              have hw1 : writable x = false := by rw [hw, this]; rfl
              simp only [rightL, any_of_get (p := fun x => !writable x) hx (by simp [hw1])]
              rfl
            by_cases h0 : (e.length : Int) = 0
            · have hb : elBad e = true := by
                have : e = [] := List.eq_nil_of_length_eq_zero (by omega)
                subst this
                rfl
              simp (disch := first | omega | (simp only [List.length_cons, List.length_nil, List.length_map, List.length_drop]; omega)) only [hlt, hlt2, hx, he, List.getElem?_map, Option.map_some, lnR, elV, elR, cmV, h0, decide_true, wrap_i64, bad hb, ↓evPre, ↓evPreW, evPost, evPostW, ← List.map_take, ← List.map_drop, ↓reduceIte, reduceCtorEq, Nat.reduceEqDiff, forall_const, implies_true, Nat.reduceAdd, Nat.reduceSub, Nat.reduceMul, Nat.reduceLT, Nat.reduceLeDiff, Int.reduceToNat, Int.reduceAdd, Int.reduceSub, Int.reduceNeg, Int.reduceMul, Int.reduceLT, Int.reduceLE, Int.reduceEq]
            · have hne : e.isEmpty = false := by cases e <;> simp at h0 ⊢
              simp (disch := first | omega | (simp only [List.length_cons, List.length_nil, List.length_map, List.length_drop]; omega)) only [hlt, hlt2, hx, he, List.getElem?_map, Option.map_some, lnR, elV, elR, cmV, h0, decide_false, wrap_i64, ↓evPre, ↓evPreW, evPost, evPostW, ← List.map_take, ← List.map_drop, ↓reduceIte, reduceCtorEq, Nat.reduceEqDiff, forall_const, implies_true, Nat.reduceAdd, Nat.reduceSub, Nat.reduceMul, Nat.reduceLT, Nat.reduceLeDiff, Int.reduceToNat, Int.reduceAdd, Int.reduceSub, Int.reduceNeg, Int.reduceMul, Int.reduceLT, Int.reduceLE, Int.reduceEq]
              refine loopA (ι := Nat) (fun m => [(0, .sl 2 (l.map lnR)), (3, .int .i64 k), (4, .int .i64 i), (5, .sl 1 (e.map cmR)), (6, .int .i64 m)]) (fun _ => S) (fun m => m ≤ e.length ∧ (e.take m).any (fun c => c.any oddC) = false) (fun m => e.length - m) 0 ⟨Nat.zero_le _, by simp⟩ ?_ rfl ?_
              · simp only [↓evPre, ↓evPreW, evPost, evPostW, ← List.map_take, ← List.map_drop, ↓reduceIte, reduceCtorEq, Nat.reduceEqDiff, forall_const, implies_true, Nat.reduceAdd, Nat.reduceSub, Nat.reduceMul, Nat.reduceLT, Nat.reduceLeDiff, Int.reduceToNat, Int.reduceAdd, Int.reduceSub, Int.reduceNeg, Int.reduceMul, Int.reduceLT, Int.reduceLE, Int.reduceEq]
              · rintro m ⟨hm, ha⟩
                cases hc : e[m]? with
                | none =>
                  have hkl : m = e.length := by have := List.getElem?_eq_none_iff.1 hc; omega
                  have hlt3 : ¬ ((m : Int) < e.length) := by omega
                  rw [hkl, List.take_length] at ha
                  have hb : elBad e = false := by simp only [elBad, hne, ha]; rfl
                  simp (disch := first | omega | (simp only [List.length_cons, List.length_nil, List.length_map, List.length_drop]; omega)) only [hlt, hlt2, hlt3, hx, he, wrap_i64, ↓evPre, ↓evPreW, evPost, evPostW, ← List.map_take, ← List.map_drop, ↓reduceIte, reduceCtorEq, Nat.reduceEqDiff, forall_const, implies_true, Nat.reduceAdd, Nat.reduceSub, Nat.reduceMul, Nat.reduceLT, Nat.reduceLeDiff, Int.reduceToNat, Int.reduceAdd, Int.reduceSub, Int.reduceNeg, Int.reduceMul, Int.reduceLT, Int.reduceLE, Int.reduceEq]
                  exact ⟨i + 1, ⟨by omega, any_take_succ he hal hb⟩, by omega, by omega⟩
                | some c =>
                  have hlt3 : ((m : Int) < e.length) := by have := (List.getElem?_eq_some_iff.1 hc).1; omega
                  simp (disch := first | omega | (simp only [List.length_cons, List.length_nil, List.length_map, List.length_drop]; omega)) only [hlt, hlt2, hlt3, hx, he, hc, List.getElem?_map, Option.map_some, cmR, wrap_i64, ↓evPre, ↓evPreW, evPost, evPostW, ← List.map_take, ← List.map_drop, ↓reduceIte, reduceCtorEq, Nat.reduceEqDiff, forall_const, implies_true, Nat.reduceAdd, Nat.reduceSub, Nat.reduceMul, Nat.reduceLT, Nat.reduceLeDiff, Int.reduceToNat, Int.reduceAdd, Int.reduceSub, Int.reduceNeg, Int.reduceMul, Int.reduceLT, Int.reduceLE, Int.reduceEq]
                  refine (plain_A c S (he2 c (List.mem_of_getElem? hc))).then ?_
                  cases ho : c.any oddC
                  · simp (disch := first | omega | (simp only [List.length_cons, List.length_nil, List.length_map, List.length_drop]; omega)) only [hlt, hlt2, hlt3, wrap_i64, Bool.not_false, Bool.not_true, ↓evPre, ↓evPreW, evPost, evPostW, ← List.map_take, ← List.map_drop, ↓reduceIte, reduceCtorEq, Nat.reduceEqDiff, forall_const, implies_true, Nat.reduceAdd, Nat.reduceSub, Nat.reduceMul, Nat.reduceLT, Nat.reduceLeDiff, Int.reduceToNat, Int.reduceAdd, Int.reduceSub, Int.reduceNeg, Int.reduceMul, Int.reduceLT, Int.reduceLE, Int.reduceEq]
                    exact ⟨m + 1, ⟨by omega, any_take_succ hc ha ho⟩, by omega, by omega⟩
                  · have hb : elBad e = true := by
                      have : e.any (fun c => c.any oddC) = true := any_of_get hc ho
                      simp only [elBad, hne, this]
                      rfl
                    simp (disch := first | omega | (simp only [List.length_cons, List.length_nil, List.length_map, List.length_drop]; omega)) only [hlt, hlt2, hlt3, wrap_i64, Bool.not_false, Bool.not_true, bad hb, ↓evPre, ↓evPreW, evPost, evPostW, ← List.map_take, ← List.map_drop, ↓reduceIte, reduceCtorEq, Nat.reduceEqDiff, forall_const, implies_true, Nat.reduceAdd, Nat.reduceSub, Nat.reduceMul, Nat.reduceLT, Nat.reduceLeDiff, Int.reduceToNat, Int.reduceAdd, Int.reduceSub, Int.reduceNeg, Int.reduceMul, Int.reduceLT, Int.reduceLE, Int.reduceEq]

/-! ### Sizes -/
def szE (e : List Txt) : Nat := e.length + (e.map List.length).sum
def szX (x : Ln) : Nat := x.tag.length + x.els.length + (x.els.map szE).sum
def szL (l : List Ln) : Nat := l.length + (l.map szX).sum

section
variable {α : Type} {l : List α} {k : Nat} {x : α} (f : α → Nat)
theorem sum_take_succ (h : l[k]? = some x) : ((l.take (k + 1)).map f).sum = ((l.take k).map f).sum + f x := by
  rw [List.take_add_one, h]; simp
theorem sum_take_le (h : l[k]? = some x) : ((l.take k).map f).sum + f x ≤ (l.map f).sum := by
  have h1 : l = l.take (k + 1) ++ l.drop (k + 1) := (List.take_append_drop _ _).symm
  have h2 : (l.map f).sum = ((l.take (k + 1)).map f).sum + ((l.drop (k + 1)).map f).sum := by
    rw [← List.sum_append_nat, ← List.map_append, ← h1]
  rw [h2, sum_take_succ f h]
  omega
theorem sum_mem_le (h : x ∈ l) : f x ≤ (l.map f).sum := by
  obtain ⟨k, hk⟩ := List.getElem?_of_mem h
  have := sum_take_le f hk
  omega
end

theorem large_A (l : List Ln) (S : Store) (hl : FitL l) : CallA Try.prog 8 [lnV l, .int .i64 3000] S fun r S' => r = .bool (decide (3000 < szL l)) ∧ S' = S := by
  obtain ⟨hl1, hl2⟩ := hl
  refine CallA.keep Try.func8 c8 (Nat.le_of_ble_eq_true rfl) fun σ hσ => ?_
  have top : ∀ (n : Int), 3000 < n → n ≤ szL l → decide ((3000 : Int) < n) = decide (3000 < szL l) := fun n h1 h2 => by rw [decide_eq_decide]; omega
  simp (disch := first | omega | (simp only [List.length_cons, List.length_nil, List.length_map, List.length_drop]; omega)) only [a8, lnV, ↓evPre, ↓evPreW, evPost, evPostW, ← List.map_take, ← List.map_drop, ↓reduceIte, reduceCtorEq, Nat.reduceEqDiff, forall_const, implies_true, Nat.reduceAdd, Nat.reduceSub, Nat.reduceMul, Nat.reduceLT, Nat.reduceLeDiff, Int.reduceToNat, Int.reduceAdd, Int.reduceSub, Int.reduceNeg, Int.reduceMul, Int.reduceLT, Int.reduceLE, Int.reduceEq]
  refine loopA (ι := Nat × Int) (fun k => [(0, .sl 2 (l.map lnR)), (1, .int .i64 3000), (5, .int .i64 k.2), (6, .int .i64 k.1)]) (fun _ => S) (fun k => k.1 ≤ l.length ∧ 0 ≤ k.2 ∧ k.2 ≤ szL l ∧ k.2 ≤ 1099511627776 ∧ (k.2 ≤ 3000 → k.2 = l.length + ((l.take k.1).map szX).sum)) (fun k => l.length - k.1) (0, l.length) ⟨Nat.zero_le _, by simp only; omega, by simp only [szL]; omega, by simp only; omega, by simp⟩ ?_ rfl ?_
  · simp only [↓evPre, ↓evPreW, evPost, evPostW, ← List.map_take, ← List.map_drop, ↓reduceIte, reduceCtorEq, Nat.reduceEqDiff, forall_const, implies_true, Nat.reduceAdd, Nat.reduceSub, Nat.reduceMul, Nat.reduceLT, Nat.reduceLeDiff, Int.reduceToNat, Int.reduceAdd, Int.reduceSub, Int.reduceNeg, Int.reduceMul, Int.reduceLT, Int.reduceLE, Int.reduceEq]
  · rintro ⟨k, n⟩ ⟨hk, hn0, hn, hb, he⟩
    simp only at hk hn0 hn hb he
    cases hx : l[k]? with
    | none =>
      have hkl : k = l.length := by have := List.getElem?_eq_none_iff.1 hx; omega
      have hlt : ¬ ((k : Int) < l.length) := by omega
      have hfin : decide ((3000 : Int) < n) = decide (3000 < szL l) := by
        rw [decide_eq_decide]
        rw [hkl, List.take_length] at he
        simp only [szL] at hn ⊢
        omega
      simp (disch := first | omega | (simp only [List.length_cons, List.length_nil, List.length_map, List.length_drop]; omega)) only [hlt, wrap_i64, hfin, ↓evPre, ↓evPreW, evPost, evPostW, ← List.map_take, ← List.map_drop, ↓reduceIte, reduceCtorEq, Nat.reduceEqDiff, forall_const, implies_true, Nat.reduceAdd, Nat.reduceSub, Nat.reduceMul, Nat.reduceLT, Nat.reduceLeDiff, Int.reduceToNat, Int.reduceAdd, Int.reduceSub, Int.reduceNeg, Int.reduceMul, Int.reduceLT, Int.reduceLE, Int.reduceEq]
    | some x =>
      have hlt : ((k : Int) < l.length) := by have := (List.getElem?_eq_some_iff.1 hx).1; omega
      by_cases hn3 : n ≤ 3000
      · obtain ⟨hx1, hx2, hx3⟩ := hl2 x (List.mem_of_getElem? hx)
        have he := he (by omega)
        have hle := sum_take_le szX hx
        have hsu := sum_take_succ szX hx
        have hX : szX x = x.tag.length + x.els.length + (x.els.map szE).sum := rfl
        have hL : szL l = l.length + (l.map szX).sum := rfl
        simp (disch := first | omega | (simp only [List.length_cons, List.length_nil, List.length_map, List.length_drop]; omega)) only [hlt, hn3, hx, List.getElem?_map, Option.map_some, lnR, elV, decide_true, wrap_i64, ↓evPre, ↓evPreW, evPost, evPostW, ← List.map_take, ← List.map_drop, ↓reduceIte, reduceCtorEq, Nat.reduceEqDiff, forall_const, implies_true, Nat.reduceAdd, Nat.reduceSub, Nat.reduceMul, Nat.reduceLT, Nat.reduceLeDiff, Int.reduceToNat, Int.reduceAdd, Int.reduceSub, Int.reduceNeg, Int.reduceMul, Int.reduceLT, Int.reduceLE, Int.reduceEq]
        refine loopA (ι := Nat × Int) (fun i => [(0, .sl 2 (l.map lnR)), (1, .int .i64 3000), (5, .int .i64 i.2), (6, .int .i64 k), (7, .int .i64 i.1)]) (fun _ => S) (fun i => i.1 ≤ x.els.length ∧ 0 ≤ i.2 ∧ i.2 ≤ szL l ∧ i.2 ≤ 1099511627776 ∧ (i.2 ≤ 3000 → i.2 = n + x.tag.length + x.els.length + ((x.els.take i.1).map szE).sum)) (fun i => x.els.length - i.1) (0, n + x.tag.length + x.els.length) ⟨Nat.zero_le _, by simp only; omega, by simp only; omega, by simp only; omega, by simp⟩ ?_ rfl ?_
        · simp only [↓evPre, ↓evPreW, evPost, evPostW, ← List.map_take, ← List.map_drop, ↓reduceIte, reduceCtorEq, Nat.reduceEqDiff, forall_const, implies_true, Nat.reduceAdd, Nat.reduceSub, Nat.reduceMul, Nat.reduceLT, Nat.reduceLeDiff, Int.reduceToNat, Int.reduceAdd, Int.reduceSub, Int.reduceNeg, Int.reduceMul, Int.reduceLT, Int.reduceLE, Int.reduceEq]
        · rintro ⟨i, m⟩ ⟨hi, hm0, hm, hmb, hme⟩
          simp only at hi hm0 hm hmb hme
          cases hc : x.els[i]? with
          | none =>
            have hkl : i = x.els.length := by have := List.getElem?_eq_none_iff.1 hc; omega
            have hlt2 : ¬ ((i : Int) < x.els.length) := by omega
            rw [hkl, List.take_length] at hme
            simp (disch := first | omega | (simp only [List.length_cons, List.length_nil, List.length_map, List.length_drop]; omega)) only [hlt, hlt2, hx, List.getElem?_map, Option.map_some, lnR, elV, wrap_i64, ↓evPre, ↓evPreW, evPost, evPostW, ← List.map_take, ← List.map_drop, ↓reduceIte, reduceCtorEq, Nat.reduceEqDiff, forall_const, implies_true, Nat.reduceAdd, Nat.reduceSub, Nat.reduceMul, Nat.reduceLT, Nat.reduceLeDiff, Int.reduceToNat, Int.reduceAdd, Int.reduceSub, Int.reduceNeg, Int.reduceMul, Int.reduceLT, Int.reduceLE, Int.reduceEq]
            exact ⟨(k + 1, m), ⟨by simp only; omega, hm0, hm, hmb, fun h => by simp only at h ⊢; have := hme h; omega⟩, by simp only; omega, rfl, by simp only; omega⟩
          | some e =>
            have hlt2 : ((i : Int) < x.els.length) := by have := (List.getElem?_eq_some_iff.1 hc).1; omega
            by_cases hm3 : m ≤ 3000
            · obtain ⟨he1, he2⟩ := hx3 e (List.mem_of_getElem? hc)
              have hme := hme (by omega)
              have hle2 := sum_take_le szE hc
              have hsu2 := sum_take_succ szE hc
              have hE : szE e = e.length + (e.map List.length).sum := rfl
              simp (disch := first | omega | (simp only [List.length_cons, List.length_nil, List.length_map, List.length_drop]; omega)) only [hlt, hlt2, hm3, hx, hc, List.getElem?_map, Option.map_some, lnR, elV, elR, cmV, decide_true, wrap_i64, ↓evPre, ↓evPreW, evPost, evPostW, ← List.map_take, ← List.map_drop, ↓reduceIte, reduceCtorEq, Nat.reduceEqDiff, forall_const, implies_true, Nat.reduceAdd, Nat.reduceSub, Nat.reduceMul, Nat.reduceLT, Nat.reduceLeDiff, Int.reduceToNat, Int.reduceAdd, Int.reduceSub, Int.reduceNeg, Int.reduceMul, Int.reduceLT, Int.reduceLE, Int.reduceEq]
              refine loopA (ι := Nat × Int) (fun q => [(0, .sl 2 (l.map lnR)), (1, .int .i64 3000), (5, .int .i64 q.2), (6, .int .i64 k), (7, .int .i64 i), (8, .int .i64 q.1)]) (fun _ => S) (fun q => q.1 ≤ e.length ∧ 0 ≤ q.2 ∧ q.2 ≤ szL l ∧ q.2 ≤ 1099511627776 ∧ (q.2 ≤ 3000 → q.2 = m + e.length + ((e.take q.1).map List.length).sum)) (fun q => e.length - q.1) (0, m + e.length) ⟨Nat.zero_le _, by simp only; omega, by simp only; omega, by simp only; omega, by simp⟩ ?_ rfl ?_
              · simp only [↓evPre, ↓evPreW, evPost, evPostW, ← List.map_take, ← List.map_drop, ↓reduceIte, reduceCtorEq, Nat.reduceEqDiff, forall_const, implies_true, Nat.reduceAdd, Nat.reduceSub, Nat.reduceMul, Nat.reduceLT, Nat.reduceLeDiff, Int.reduceToNat, Int.reduceAdd, Int.reduceSub, Int.reduceNeg, Int.reduceMul, Int.reduceLT, Int.reduceLE, Int.reduceEq]
              · rintro ⟨j, p⟩ ⟨hj, hp0, hp, hpb, hpe⟩
                simp only at hj hp0 hp hpb hpe
                cases hd : e[j]? with
                | none =>
                  have hkl : j = e.length := by have := List.getElem?_eq_none_iff.1 hd; omega
                  have hlt3 : ¬ ((j : Int) < e.length) := by omega
                  rw [hkl, List.take_length] at hpe
                  simp (disch := first | omega | (simp only [List.length_cons, List.length_nil, List.length_map, List.length_drop]; omega)) only [hlt, hlt2, hlt3, hx, hc, List.getElem?_map, Option.map_some, lnR, elV, elR, cmV, wrap_i64, ↓evPre, ↓evPreW, evPost, evPostW, ← List.map_take, ← List.map_drop, ↓reduceIte, reduceCtorEq, Nat.reduceEqDiff, forall_const, implies_true, Nat.reduceAdd, Nat.reduceSub, Nat.reduceMul, Nat.reduceLT, Nat.reduceLeDiff, Int.reduceToNat, Int.reduceAdd, Int.reduceSub, Int.reduceNeg, Int.reduceMul, Int.reduceLT, Int.reduceLE, Int.reduceEq]
                  exact ⟨(i + 1, p), ⟨by simp only; omega, hp0, hp, hpb, fun h => by simp only at h ⊢; have := hpe h; omega⟩, by simp only; omega, rfl, by simp only; omega⟩
                | some c =>
                  have hlt3 : ((j : Int) < e.length) := by have := (List.getElem?_eq_some_iff.1 hd).1; omega
                  by_cases hp3 : p ≤ 3000
                  · have hpe := hpe (by omega)
                    have hc1 := he2 c (List.mem_of_getElem? hd)
                    have hle3 := sum_take_le List.length hd
                    have hsu3 := sum_take_succ List.length hd
                    simp (disch := first | omega | (simp only [List.length_cons, List.length_nil, List.length_map, List.length_drop]; omega)) only [hlt, hlt2, hlt3, hp3, hx, hc, hd, List.getElem?_map, Option.map_some, lnR, elV, elR, cmV, cmR, decide_true, wrap_i64, ↓evPre, ↓evPreW, evPost, evPostW, ← List.map_take, ← List.map_drop, ↓reduceIte, reduceCtorEq, Nat.reduceEqDiff, forall_const, implies_true, Nat.reduceAdd, Nat.reduceSub, Nat.reduceMul, Nat.reduceLT, Nat.reduceLeDiff, Int.reduceToNat, Int.reduceAdd, Int.reduceSub, Int.reduceNeg, Int.reduceMul, Int.reduceLT, Int.reduceLE, Int.reduceEq]
                    exact ⟨(j + 1, p + c.length), ⟨by simp only; omega, by simp only; omega, by simp only; omega, by simp only; omega, fun h => by simp only at h ⊢; omega⟩, by simp only; omega, rfl, by simp only; omega⟩
                  · simp (disch := first | omega | (simp only [List.length_cons, List.length_nil, List.length_map, List.length_drop]; omega)) only [hlt, hlt2, hlt3, hp3, hx, hc, List.getElem?_map, Option.map_some, lnR, elV, elR, cmV, decide_true, decide_false, wrap_i64, ↓evPre, ↓evPreW, evPost, evPostW, ← List.map_take, ← List.map_drop, ↓reduceIte, reduceCtorEq, Nat.reduceEqDiff, forall_const, implies_true, Nat.reduceAdd, Nat.reduceSub, Nat.reduceMul, Nat.reduceLT, Nat.reduceLeDiff, Int.reduceToNat, Int.reduceAdd, Int.reduceSub, Int.reduceNeg, Int.reduceMul, Int.reduceLT, Int.reduceLE, Int.reduceEq]
                    exact ⟨(i + 1, p), ⟨by simp only; omega, hp0, hp, hpb, fun h => by simp only at h; omega⟩, by simp only; omega, rfl, by simp only; omega⟩
            · simp (disch := first | omega | (simp only [List.length_cons, List.length_nil, List.length_map, List.length_drop]; omega)) only [hlt, hlt2, hm3, hx, List.getElem?_map, Option.map_some, lnR, elV, decide_true, decide_false, wrap_i64, ↓evPre, ↓evPreW, evPost, evPostW, ← List.map_take, ← List.map_drop, ↓reduceIte, reduceCtorEq, Nat.reduceEqDiff, forall_const, implies_true, Nat.reduceAdd, Nat.reduceSub, Nat.reduceMul, Nat.reduceLT, Nat.reduceLeDiff, Int.reduceToNat, Int.reduceAdd, Int.reduceSub, Int.reduceNeg, Int.reduceMul, Int.reduceLT, Int.reduceLE, Int.reduceEq]
              exact ⟨(k + 1, m), ⟨by simp only; omega, hm0, hm, hmb, fun h => by simp only at h; omega⟩, by simp only; omega, rfl, by simp only; omega⟩
      · simp (disch := first | omega | (simp only [List.length_cons, List.length_nil, List.length_map, List.length_drop]; omega)) only [hlt, hn3, decide_true, decide_false, wrap_i64, top n (by omega) hn, ↓evPre, ↓evPreW, evPost, evPostW, ← List.map_take, ← List.map_drop, ↓reduceIte, reduceCtorEq, Nat.reduceEqDiff, forall_const, implies_true, Nat.reduceAdd, Nat.reduceSub, Nat.reduceMul, Nat.reduceLT, Nat.reduceLeDiff, Int.reduceToNat, Int.reduceAdd, Int.reduceSub, Int.reduceNeg, Int.reduceMul, Int.reduceLT, Int.reduceLE, Int.reduceEq]
end Go.Proofs.Ytpblahljlbakdaa
