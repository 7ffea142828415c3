/- Print. -/
import Derived.Test.YtpblahljlbakdaaEdi6
namespace Go.Proofs.Ytpblahljlbakdaa
open Go Go.AL
set_option linter.unusedSimpArgs false

theorem outL_len (l : List Ln) : (outL l).length ≤ 2 * szL l := by
  have h1 : (outL l).length ≤ (l.map fun x => 2 * szX x + 1).sum := by
    rw [outL, flat_len]
    exact sum_le outX_len l
  have h2 : ∀ l : List Ln, (l.map fun x => 2 * szX x + 1).sum = 2 * (l.map szX).sum + l.length := by
    intro l
    induction l with
    | nil => rfl
    | cons x l ih => simp only [List.map_cons, List.sum_cons, ih, List.length_cons]; omega
  rw [h2] at h1
  unfold szL
  omega
theorem szL_take (l : List Ln) (k : Nat) : szL (l.take k) ≤ szL l := by
  have h1 := sum_take_mono szX l k
  have h2 : (l.take k).length ≤ l.length := by simp; omega
  unfold szL
  omega

def printV (l : List Ln) : V := if rightL l then .tup [.str (outL l), .int .i64 0] else .tup [.str [], .int .i64 3]

theorem refPrint_A (l : List Ln) (S : Store) (hsz : szL l ≤ 8000) : CallA Try.prog 11 [lnV l] S fun r S' => r = printV l ∧ S' = S := by
  refine CallA.keep Try.func11 c11 (Nat.le_of_ble_eq_true rfl) fun σ hσ => ?_
  have hfit : FitL l := fitL_of (by omega)
  simp (disch := first | omega | (simp only [List.length_cons, List.length_nil, List.length_map, List.length_drop]; omega)) only [a11, ↓evPre, ↓evPreW, evPost, evPostW, ← List.map_take, ← List.map_drop, ↓reduceIte, reduceCtorEq, Nat.reduceEqDiff, forall_const, implies_true, Nat.reduceAdd, Nat.reduceSub, Nat.reduceMul, Nat.reduceLT, Nat.reduceLeDiff, Int.reduceToNat, Int.reduceAdd, Int.reduceSub, Int.reduceNeg, Int.reduceMul, Int.reduceLT, Int.reduceLE, Int.reduceEq]
  refine (refRight_A l S hfit).then ?_
  cases hr : rightL l
  · simp (disch := first | omega | (simp only [List.length_cons, List.length_nil, List.length_map, List.length_drop]; omega)) only [printV, hr, Bool.not_false, Bool.false_eq_true, ↓evPre, ↓evPreW, evPost, evPostW, ← List.map_take, ← List.map_drop, ↓reduceIte, reduceCtorEq, Nat.reduceEqDiff, forall_const, implies_true, Nat.reduceAdd, Nat.reduceSub, Nat.reduceMul, Nat.reduceLT, Nat.reduceLeDiff, Int.reduceToNat, Int.reduceAdd, Int.reduceSub, Int.reduceNeg, Int.reduceMul, Int.reduceLT, Int.reduceLE, Int.reduceEq]
  · simp (disch := first | omega | (simp only [List.length_cons, List.length_nil, List.length_map, List.length_drop]; omega)) only [printV, hr, Bool.not_true, ↓evPre, ↓evPreW, evPost, evPostW, ← List.map_take, ← List.map_drop, ↓reduceIte, reduceCtorEq, Nat.reduceEqDiff, forall_const, implies_true, Nat.reduceAdd, Nat.reduceSub, Nat.reduceMul, Nat.reduceLT, Nat.reduceLeDiff, Int.reduceToNat, Int.reduceAdd, Int.reduceSub, Int.reduceNeg, Int.reduceMul, Int.reduceLT, Int.reduceLE, Int.reduceEq]
    refine loopA (ι := Nat × Txt) (fun k => [(0, lnV l), (4, .str k.2), (5, .int .i64 k.1)]) (fun _ => S) (fun k => k.1 ≤ l.length ∧ k.2 = outL (l.take k.1)) (fun k => l.length - k.1) (0, []) ⟨Nat.zero_le _, by simp [outL]⟩ ?_ rfl ?_
    · simp only [↓evPre, ↓evPreW, evPost, evPostW, ← List.map_take, ← List.map_drop, ↓reduceIte, reduceCtorEq, Nat.reduceEqDiff, forall_const, implies_true, Nat.reduceAdd, Nat.reduceSub, Nat.reduceMul, Nat.reduceLT, Nat.reduceLeDiff, Int.reduceToNat, Int.reduceAdd, Int.reduceSub, Int.reduceNeg, Int.reduceMul, Int.reduceLT, Int.reduceLE, Int.reduceEq]
    · rintro ⟨k, s⟩ ⟨hk, hs⟩
      simp only at hk hs ⊢
      obtain ⟨hl1, hl2⟩ := hfit
      have hsl : s.length ≤ 2 * szL l := by
        have h1 := outL_len (l.take k)
        have h2 := szL_take l k
        rw [hs]
        omega
      cases hx : l[k]? with
      | none =>
        have hkl : k = l.length := by have := List.getElem?_eq_none_iff.1 hx; omega
        have hlt : ¬ ((k : Int) < l.length) := by omega
        rw [hkl, List.take_length] at hs
        simp (disch := first | omega | (simp only [List.length_cons, List.length_nil, List.length_map, List.length_drop]; omega)) only [hlt, wrap_i64, lnV, hs, ↓evPre, ↓evPreW, evPost, evPostW, ← List.map_take, ← List.map_drop, ↓reduceIte, reduceCtorEq, Nat.reduceEqDiff, forall_const, implies_true, Nat.reduceAdd, Nat.reduceSub, Nat.reduceMul, Nat.reduceLT, Nat.reduceLeDiff, Int.reduceToNat, Int.reduceAdd, Int.reduceSub, Int.reduceNeg, Int.reduceMul, Int.reduceLT, Int.reduceLE, Int.reduceEq]
      | some x =>
        have hlt : ((k : Int) < l.length) := by have := (List.getElem?_eq_some_iff.1 hx).1; omega
        have hle := sum_take_le szX hx
        have hL : szL l = l.length + (l.map szX).sum := rfl
        have ho := outX_len x
        have hadd : binV .add (.str s) (.str (outX x)) = some (.str (s ++ outX x)) := add_ok (by omega)
        have hnext : s ++ outX x = outL (l.take (k + 1)) := by rw [hs, outL, outL, flat_take hx]
        have hno : ¬ (65536 : Int) < ((s ++ outX x).length : Int) := by rw [List.length_append]; omega
        simp (disch := first | omega | (simp only [List.length_cons, List.length_nil, List.length_map, List.length_drop]; omega)) only [hlt, wrap_i64, lnV, hx, List.getElem?_map, Option.map_some, lnR, elV, ↓evPre, ↓evPreW, evPost, evPostW, ← List.map_take, ← List.map_drop, ↓reduceIte, reduceCtorEq, Nat.reduceEqDiff, forall_const, implies_true, Nat.reduceAdd, Nat.reduceSub, Nat.reduceMul, Nat.reduceLT, Nat.reduceLeDiff, Int.reduceToNat, Int.reduceAdd, Int.reduceSub, Int.reduceNeg, Int.reduceMul, Int.reduceLT, Int.reduceLE, Int.reduceEq]
        refine (refLine_A x S (by omega)).then ?_
        simp (disch := first | omega | (simp only [List.length_cons, List.length_nil, List.length_map, List.length_drop]; omega)) only [hlt, wrap_i64, hadd, hno, decide_false, ↓evPre, ↓evPreW, evPost, evPostW, ← List.map_take, ← List.map_drop, ↓reduceIte, reduceCtorEq, Nat.reduceEqDiff, forall_const, implies_true, Nat.reduceAdd, Nat.reduceSub, Nat.reduceMul, Nat.reduceLT, Nat.reduceLeDiff, Int.reduceToNat, Int.reduceAdd, Int.reduceSub, Int.reduceNeg, Int.reduceMul, Int.reduceLT, Int.reduceLE, Int.reduceEq]
        exact ⟨(k + 1, _), ⟨by simp only; omega, hnext⟩, by simp only; omega, rfl, by simp only; omega⟩

theorem Bld.push {S T : Store} {p b : V} {bs : Txt} (h : Bld S T p b bs) (o : AL.Obj) : Bld S (T ++ [o]) p b bs := by
  rcases h with h | ⟨h1, j, v, h2, h3⟩
  · exact .inl h
  · exact .inr ⟨h1, j, v, h2, by rw [ob_low (obj_lt h3)]; exact h3⟩

theorem min_pick (i : Nat) : (if (1 : Int) < (i : Int) then (V.int .i64 1) else V.int .i64 i) = .int .i64 (if i = 0 then 0 else 1) := by
  split
  · rw [if_neg (by omega)]
  · by_cases h : i = 0
    · subst h; rfl
    · rw [if_neg h]; have : i = 1 := by omega
      subst this; rfl

theorem print_A (l : List Ln) (S : Store) (hsz : szL l ≤ 8000) : CallA Try.prog 10 [lnV l] S fun r S' => r = printV l ∧ S' = S := by
  refine CallA.back Try.func10 c10 (Nat.le_of_ble_eq_true rfl) fun σ hσ hn => ?_
  have hfit : FitL l := fitL_of (by omega)
  simp (disch := first | omega | (simp only [List.length_cons, List.length_nil, List.length_map, List.length_drop]; omega)) only [a10, ↓evPre, ↓evPreW, evPost, evPostW, ← List.map_take, ← List.map_drop, ↓reduceIte, reduceCtorEq, Nat.reduceEqDiff, forall_const, implies_true, Nat.reduceAdd, Nat.reduceSub, Nat.reduceMul, Nat.reduceLT, Nat.reduceLeDiff, Int.reduceToNat, Int.reduceAdd, Int.reduceSub, Int.reduceNeg, Int.reduceMul, Int.reduceLT, Int.reduceLE, Int.reduceEq]
  refine (right_A l S hfit).then ?_
  cases hr : rightL l
  · simp (disch := first | omega | (simp only [List.length_cons, List.length_nil, List.length_map, List.length_drop]; omega)) only [printV, hr, Bool.not_false, Bool.false_eq_true, ↓evPre, ↓evPreW, evPost, evPostW, ← List.map_take, ← List.map_drop, ↓reduceIte, reduceCtorEq, Nat.reduceEqDiff, forall_const, implies_true, Nat.reduceAdd, Nat.reduceSub, Nat.reduceMul, Nat.reduceLT, Nat.reduceLeDiff, Int.reduceToNat, Int.reduceAdd, Int.reduceSub, Int.reduceNeg, Int.reduceMul, Int.reduceLT, Int.reduceLE, Int.reduceEq]
    exact ⟨_, ⟨[], (List.append_nil S).symm⟩, .imm rfl, rfl⟩
  · simp (disch := first | omega | (simp only [List.length_cons, List.length_nil, List.length_map, List.length_drop]; omega)) only [printV, hr, Bool.not_true, lnV, ↓evPre, ↓evPreW, evPost, evPostW, ← List.map_take, ← List.map_drop, ↓reduceIte, reduceCtorEq, Nat.reduceEqDiff, forall_const, implies_true, Nat.reduceAdd, Nat.reduceSub, Nat.reduceMul, Nat.reduceLT, Nat.reduceLeDiff, Int.reduceToNat, Int.reduceAdd, Int.reduceSub, Int.reduceNeg, Int.reduceMul, Int.reduceLT, Int.reduceLE, Int.reduceEq]
    have step : ∀ x ∈ l, writable x = true := fun x hx => by
      simp only [rightL, Bool.not_eq_true', List.any_eq_false] at hr
      simpa using hr x hx
    refine loopA (ι := Nat × Store × V × V) (fun k => [(4, .ptr S.length 0 0 0), (15, .sl 2 (l.map lnR)), (16, .int .i64 l.length), (17, .int .i64 k.1)]) (fun k => S ++ ⟨0, some (.arr 44 2 [[k.2.2.1, k.2.2.2]])⟩ :: k.2.1)
      (fun k => k.1 ≤ l.length ∧ Bld S k.2.1 k.2.2.1 k.2.2.2 (outL (l.take k.1)) ∧ (outL (l.take k.1) ≠ [] ∨ k.2.2.1 = .nilPtr)) (fun k => l.length - k.1) (0, [], .nilPtr, .nilSl) ⟨Nat.zero_le _, .inl ⟨rfl, rfl, by simp [outL]⟩, .inr rfl⟩ ?_ rfl ?_
    · simp only [↓evPre, ↓evPreW, evPost, evPostW, ← List.map_take, ← List.map_drop, ↓reduceIte, reduceCtorEq, Nat.reduceEqDiff, forall_const, implies_true, Nat.reduceAdd, Nat.reduceSub, Nat.reduceMul, Nat.reduceLT, Nat.reduceLeDiff, Int.reduceToNat, Int.reduceAdd, Int.reduceSub, Int.reduceNeg, Int.reduceMul, Int.reduceLT, Int.reduceLE, Int.reduceEq]
    · rintro ⟨k, T, p, b⟩ ⟨hk, hbl, hne⟩
      simp only at hk hbl hne ⊢
      obtain ⟨hl1, hl2⟩ := hfit
      have hbn : (outL (l.take k)).length ≤ 16000 := by
        have h1 := outL_len (l.take k)
        have h2 := szL_take l k
        omega
      cases hx : l[k]? with
      | none =>
        have hkl : k = l.length := by have := List.getElem?_eq_none_iff.1 hx; omega
        have hlt : ¬ ((k : Int) < l.length) := by omega
        rw [hkl, List.take_length] at hbl hne hbn
        have hno : ¬ (65536 : Int) < ((outL l).length : Int) := by omega
        simp (disch := first | omega | (simp only [List.length_cons, List.length_nil, List.length_map, List.length_drop]; omega)) only [hlt, wrap_i64, ↓evPre, ↓evPreW, evPost, evPostW, ← List.map_take, ← List.map_drop, ↓reduceIte, reduceCtorEq, Nat.reduceEqDiff, forall_const, implies_true, Nat.reduceAdd, Nat.reduceSub, Nat.reduceMul, Nat.reduceLT, Nat.reduceLeDiff, Int.reduceToNat, Int.reduceAdd, Int.reduceSub, Int.reduceNeg, Int.reduceMul, Int.reduceLT, Int.reduceLE, Int.reduceEq]
        refine (len_A hbl).then ?_
        simp (disch := first | omega | (simp only [List.length_cons, List.length_nil, List.length_map, List.length_drop]; omega)) only [hno, decide_false, ↓evPre, ↓evPreW, evPost, evPostW, ← List.map_take, ← List.map_drop, ↓reduceIte, reduceCtorEq, Nat.reduceEqDiff, forall_const, implies_true, Nat.reduceAdd, Nat.reduceSub, Nat.reduceMul, Nat.reduceLT, Nat.reduceLeDiff, Int.reduceToNat, Int.reduceAdd, Int.reduceSub, Int.reduceNeg, Int.reduceMul, Int.reduceLT, Int.reduceLE, Int.reduceEq]
        refine (string_A hbl hne).mono ?_
        rintro _ _ ⟨rfl, L, rfl⟩
        simp (disch := first | omega | (simp only [List.length_cons, List.length_nil, List.length_map, List.length_drop]; omega)) only [↓evPre, ↓evPreW, evPost, evPostW, ← List.map_take, ← List.map_drop, ↓reduceIte, reduceCtorEq, Nat.reduceEqDiff, forall_const, implies_true, Nat.reduceAdd, Nat.reduceSub, Nat.reduceMul, Nat.reduceLT, Nat.reduceLeDiff, Int.reduceToNat, Int.reduceAdd, Int.reduceSub, Int.reduceNeg, Int.reduceMul, Int.reduceLT, Int.reduceLE, Int.reduceEq]
        exact ⟨_, ⟨_, rfl⟩, .imm rfl, rfl⟩
      | some x =>
        have hlt : ((k : Int) < l.length) := by have := (List.getElem?_eq_some_iff.1 hx).1; omega
        simp (disch := first | omega | (simp only [List.length_cons, List.length_nil, List.length_map, List.length_drop]; omega)) only [hlt, hx, List.getElem?_map, Option.map_some, lnR, elV, wrap_i64, ob_app, ob_app0, ob_cons, ob_head, se_app, se_app0, se_cons, se_head, ap_app, le_app, List.cons_append, List.nil_append, List.length_cons, List.length_nil, ↓evPre, ↓evPreW, evPost, evPostW, ← List.map_take, ← List.map_drop, ↓reduceIte, reduceCtorEq, Nat.reduceEqDiff, forall_const, implies_true, Nat.reduceAdd, Nat.reduceSub, Nat.reduceMul, Nat.reduceLT, Nat.reduceLeDiff, Int.reduceToNat, Int.reduceAdd, Int.reduceSub, Int.reduceNeg, Int.reduceMul, Int.reduceLT, Int.reduceLE, Int.reduceEq]
        have hle := sum_take_le szX hx
        have hL : szL l = l.length + (l.map szX).sum := rfl
        have hX : szX x = x.tag.length + x.els.length + (x.els.map szE).sum := rfl
        obtain ⟨hx1, hx2, hx3⟩ := hl2 x (List.mem_of_getElem? hx)
        refine (writeS_A (hbl.push _) x.tag (by omega)).mono ?_
        rintro _ _ ⟨rfl, T1, p1, b1, rfl, hb1, hk1⟩
        have hxb := hk1 T.length 0 35 2 _ (by decide) obj_push
        simp (disch := first | omega | (simp only [List.length_cons, List.length_nil, List.length_map, List.length_drop]; omega)) only [hlt, hxb, wrap_i64, ob_app, ob_app0, ob_cons, ob_head, ↓evPre, ↓evPreW, evPost, evPostW, ← List.map_take, ← List.map_drop, ↓reduceIte, reduceCtorEq, Nat.reduceEqDiff, forall_const, implies_true, Nat.reduceAdd, Nat.reduceSub, Nat.reduceMul, Nat.reduceLT, Nat.reduceLeDiff, Int.reduceToNat, Int.reduceAdd, Int.reduceSub, Int.reduceNeg, Int.reduceMul, Int.reduceLT, Int.reduceLE, Int.reduceEq]
        refine loopA (ι := Nat × Store × V × V) (fun i => [(4, .ptr S.length 0 0 0), (15, .sl 2 (l.map lnR)), (16, .int .i64 l.length), (17, .int .i64 k), (25, .sl 1 (x.els.map elR)), (26, .int .i64 x.els.length), (27, .int .i64 i.1)])
          (fun i => S ++ ⟨0, some (.arr 44 2 [[i.2.2.1, i.2.2.2]])⟩ :: i.2.1) (fun i => i.1 ≤ x.els.length ∧ Bld S i.2.1 i.2.2.1 i.2.2.2 (outL (l.take k) ++ x.tag ++ (x.els.take i.1).flatMap (outE 0))) (fun i => x.els.length - i.1) (0, T1, p1, b1) ⟨Nat.zero_le _, by simpa using hb1⟩ ?_ rfl ?_
        · simp only [↓evPre, ↓evPreW, evPost, evPostW, ← List.map_take, ← List.map_drop, ↓reduceIte, reduceCtorEq, Nat.reduceEqDiff, forall_const, implies_true, Nat.reduceAdd, Nat.reduceSub, Nat.reduceMul, Nat.reduceLT, Nat.reduceLeDiff, Int.reduceToNat, Int.reduceAdd, Int.reduceSub, Int.reduceNeg, Int.reduceMul, Int.reduceLT, Int.reduceLE, Int.reduceEq]
        · rintro ⟨i, T2, p2, b2⟩ ⟨hi, hb2⟩
          simp only at hi hb2 ⊢
          have h4 := outEs_len (x.els.take i)
          have h5 := sum_take_mono szE x.els i
          have hlen2 : (outL (l.take k) ++ x.tag ++ (x.els.take i).flatMap (outE 0)).length ≤ 50000 := by
            simp only [List.length_append]
            omega
          cases he : x.els[i]? with
          | none =>
            have hkl : i = x.els.length := by have := List.getElem?_eq_none_iff.1 he; omega
            have hlt2 : ¬ ((i : Int) < x.els.length) := by omega
            rw [hkl, List.take_length] at hb2 hlen2
            simp (disch := first | omega | (simp only [List.length_cons, List.length_nil, List.length_map, List.length_drop]; omega)) only [hlt2, wrap_i64, ↓evPre, ↓evPreW, evPost, evPostW, ← List.map_take, ← List.map_drop, ↓reduceIte, reduceCtorEq, Nat.reduceEqDiff, forall_const, implies_true, Nat.reduceAdd, Nat.reduceSub, Nat.reduceMul, Nat.reduceLT, Nat.reduceLeDiff, Int.reduceToNat, Int.reduceAdd, Int.reduceSub, Int.reduceNeg, Int.reduceMul, Int.reduceLT, Int.reduceLE, Int.reduceEq]
            refine (writeB_A hb2 39 (by omega)).mono ?_
            rintro _ _ ⟨rfl, T3, p3, b3, rfl, hb3, hk3⟩
            have hnext : outL (l.take k) ++ x.tag ++ x.els.flatMap (outE 0) ++ [39] = outL (l.take (k + 1)) := by
              rw [outL, outL, flat_take hx]
              simp [outX]
            rw [hnext] at hb3
            simp (disch := first | omega | (simp only [List.length_cons, List.length_nil, List.length_map, List.length_drop]; omega)) only [hlt2, wrap_i64, ↓evPre, ↓evPreW, evPost, evPostW, ← List.map_take, ← List.map_drop, ↓reduceIte, reduceCtorEq, Nat.reduceEqDiff, forall_const, implies_true, Nat.reduceAdd, Nat.reduceSub, Nat.reduceMul, Nat.reduceLT, Nat.reduceLeDiff, Int.reduceToNat, Int.reduceAdd, Int.reduceSub, Int.reduceNeg, Int.reduceMul, Int.reduceLT, Int.reduceLE, Int.reduceEq]
            refine ⟨(k + 1, T3, p3, b3), ⟨by simp only; omega, hb3, .inl ?_⟩, by simp only; omega, by simp only; omega, rfl⟩
            simp only
            rw [← hnext]
            simp
          | some e =>
            have hlt2 : ((i : Int) < x.els.length) := by have := (List.getElem?_eq_some_iff.1 he).1; omega
            have hle2 := sum_take_le szE he
            have hE : szE e = e.length + (e.map List.length).sum := rfl
            obtain ⟨he1, he2⟩ := hx3 e (List.mem_of_getElem? he)
            simp (disch := first | omega | (simp only [List.length_cons, List.length_nil, List.length_map, List.length_drop]; omega)) only [hlt2, he, List.getElem?_map, Option.map_some, elR, cmV, wrap_i64, ↓evPre, ↓evPreW, evPost, evPostW, ← List.map_take, ← List.map_drop, ↓reduceIte, reduceCtorEq, Nat.reduceEqDiff, forall_const, implies_true, Nat.reduceAdd, Nat.reduceSub, Nat.reduceMul, Nat.reduceLT, Nat.reduceLeDiff, Int.reduceToNat, Int.reduceAdd, Int.reduceSub, Int.reduceNeg, Int.reduceMul, Int.reduceLT, Int.reduceLE, Int.reduceEq]
            refine loopA (ι := Nat × Store × V × V) (fun m => [(4, .ptr S.length 0 0 0), (15, .sl 2 (l.map lnR)), (16, .int .i64 l.length), (17, .int .i64 k), (25, .sl 1 (x.els.map elR)), (26, .int .i64 x.els.length), (27, .int .i64 i), (31, .sl 1 (e.map cmR)), (32, .int .i64 e.length), (33, .int .i64 m.1)])
              (fun m => S ++ ⟨0, some (.arr 44 2 [[m.2.2.1, m.2.2.2]])⟩ :: m.2.1) (fun m => m.1 ≤ e.length ∧ Bld S m.2.1 m.2.2.1 m.2.2.2 (outL (l.take k) ++ x.tag ++ (x.els.take i).flatMap (outE 0) ++ outE 0 (e.take m.1))) (fun m => e.length - m.1) (0, T2, p2, b2) ⟨Nat.zero_le _, by simpa [outE] using hb2⟩ ?_ rfl ?_
            · simp only [↓evPre, ↓evPreW, evPost, evPostW, ← List.map_take, ← List.map_drop, ↓reduceIte, reduceCtorEq, Nat.reduceEqDiff, forall_const, implies_true, Nat.reduceAdd, Nat.reduceSub, Nat.reduceMul, Nat.reduceLT, Nat.reduceLeDiff, Int.reduceToNat, Int.reduceAdd, Int.reduceSub, Int.reduceNeg, Int.reduceMul, Int.reduceLT, Int.reduceLE, Int.reduceEq]
            · rintro ⟨m, T3, p3, b3⟩ ⟨hm, hb3⟩
              simp only at hm hb3 ⊢
              have h6 := outE_len (e.take m) 0
              have h7 : szE (e.take m) ≤ szE e := by
                have := sum_take_mono List.length e m
                have h8 : (e.take m).length ≤ e.length := by simp; omega
                unfold szE
                omega
              have hlen3 : (outL (l.take k) ++ x.tag ++ (x.els.take i).flatMap (outE 0) ++ outE 0 (e.take m)).length ≤ 100000 := by
                rw [List.length_append]
                omega
              generalize hpre : outL (l.take k) ++ x.tag ++ (x.els.take i).flatMap (outE 0) = pre at hb2 hlen2 hb3 hlen3 ⊢
              cases hc : e[m]? with
              | none =>
                have hkl : m = e.length := by have := List.getElem?_eq_none_iff.1 hc; omega
                have hlt3 : ¬ ((m : Int) < e.length) := by omega
                rw [hkl, List.take_length] at hb3
                simp (disch := first | omega | (simp only [List.length_cons, List.length_nil, List.length_map, List.length_drop]; omega)) only [hlt3, wrap_i64, ↓evPre, ↓evPreW, evPost, evPostW, ← List.map_take, ← List.map_drop, ↓reduceIte, reduceCtorEq, Nat.reduceEqDiff, forall_const, implies_true, Nat.reduceAdd, Nat.reduceSub, Nat.reduceMul, Nat.reduceLT, Nat.reduceLeDiff, Int.reduceToNat, Int.reduceAdd, Int.reduceSub, Int.reduceNeg, Int.reduceMul, Int.reduceLT, Int.reduceLE, Int.reduceEq]
                exact ⟨(i + 1, T3, p3, b3), ⟨by simp only; omega, by simp only; rw [flat_take he, ← List.append_assoc, hpre]; exact hb3⟩, by simp only; omega, by simp only; omega, rfl⟩
              | some c =>
                have hlt3 : ((m : Int) < e.length) := by have := (List.getElem?_eq_some_iff.1 hc).1; omega
                have hcm := sum_mem_le List.length (List.mem_of_getElem? hc)
                have hsep : ([43, 58] : List UInt8)[(min (m : Int) 1).toNat]? = some (sepC m) := by
                  by_cases h0 : m = 0
                  · subst h0; rfl
                  · have h1 : (min (m : Int) 1).toNat = 1 := by omega
                    rw [h1]
                    simp only [sepC, h0, if_false]
                    rfl
                simp (disch := first | omega | (simp only [List.length_cons, List.length_nil, List.length_map, List.length_drop]; omega)) only [hlt3, hc, List.getElem?_map, Option.map_some, cmR, wrap_i64, hsep, ↓evPre, ↓evPreW, evPost, evPostW, ← List.map_take, ← List.map_drop, ↓reduceIte, reduceCtorEq, Nat.reduceEqDiff, forall_const, implies_true, Nat.reduceAdd, Nat.reduceSub, Nat.reduceMul, Nat.reduceLT, Nat.reduceLeDiff, Int.reduceToNat, Int.reduceAdd, Int.reduceSub, Int.reduceNeg, Int.reduceMul, Int.reduceLT, Int.reduceLE, Int.reduceEq]
                refine (writeB_A hb3 (sepC m) (by omega)).mono ?_
                rintro _ _ ⟨rfl, T4, p4, b4, rfl, hb4, hk4⟩
                simp (disch := first | omega | (simp only [List.length_cons, List.length_nil, List.length_map, List.length_drop]; omega)) only [hlt3, wrap_i64, ↓evPre, ↓evPreW, evPost, evPostW, ← List.map_take, ← List.map_drop, ↓reduceIte, reduceCtorEq, Nat.reduceEqDiff, forall_const, implies_true, Nat.reduceAdd, Nat.reduceSub, Nat.reduceMul, Nat.reduceLT, Nat.reduceLeDiff, Int.reduceToNat, Int.reduceAdd, Int.reduceSub, Int.reduceNeg, Int.reduceMul, Int.reduceLT, Int.reduceLE, Int.reduceEq]
                refine loopA (ι := Nat × Store × V × V) (fun q => [(4, .ptr S.length 0 0 0), (15, .sl 2 (l.map lnR)), (16, .int .i64 l.length), (17, .int .i64 k), (25, .sl 1 (x.els.map elR)), (26, .int .i64 x.els.length), (27, .int .i64 i), (31, .sl 1 (e.map cmR)), (32, .int .i64 e.length), (33, .int .i64 m), (10, .str c), (43, .int .i64 c.length), (44, .int .i64 q.1)])
                  (fun q => S ++ ⟨0, some (.arr 44 2 [[q.2.2.1, q.2.2.2]])⟩ :: q.2.1) (fun q => q.1 ≤ c.length ∧ Bld S q.2.1 q.2.2.1 q.2.2.2 (pre ++ outE 0 (e.take m) ++ [sepC m] ++ rel (c.take q.1))) (fun q => c.length - q.1) (0, T4, p4, b4) ⟨Nat.zero_le _, by simpa [rel] using hb4⟩ ?_ rfl ?_
                · simp only [↓evPre, ↓evPreW, evPost, evPostW, ← List.map_take, ← List.map_drop, ↓reduceIte, reduceCtorEq, Nat.reduceEqDiff, forall_const, implies_true, Nat.reduceAdd, Nat.reduceSub, Nat.reduceMul, Nat.reduceLT, Nat.reduceLeDiff, Int.reduceToNat, Int.reduceAdd, Int.reduceSub, Int.reduceNeg, Int.reduceMul, Int.reduceLT, Int.reduceLE, Int.reduceEq]
                · rintro ⟨q, T5, p5, b5⟩ ⟨hq, hb5⟩
                  simp only at hq hb5 ⊢
                  have h9 := rel_take_le c q
                  have hlen5 : (pre ++ outE 0 (e.take m) ++ [sepC m] ++ rel (c.take q)).length ≤ 200000 := by
                    rw [List.length_append, List.length_append]
                    simp only [List.length_cons, List.length_nil]
                    omega
                  cases hd : c[q]? with
                  | none =>
                    have hkl : q = c.length := by have := List.getElem?_eq_none_iff.1 hd; omega
                    have hlt4 : ¬ ((q : Int) < c.length) := by omega
                    rw [hkl, List.take_length] at hb5
                    simp (disch := first | omega | (simp only [List.length_cons, List.length_nil, List.length_map, List.length_drop]; omega)) only [hlt4, wrap_i64, ↓evPre, ↓evPreW, evPost, evPostW, ← List.map_take, ← List.map_drop, ↓reduceIte, reduceCtorEq, Nat.reduceEqDiff, forall_const, implies_true, Nat.reduceAdd, Nat.reduceSub, Nat.reduceMul, Nat.reduceLT, Nat.reduceLeDiff, Int.reduceToNat, Int.reduceAdd, Int.reduceSub, Int.reduceNeg, Int.reduceMul, Int.reduceLT, Int.reduceLE, Int.reduceEq]
                    refine ⟨(m + 1, T5, p5, b5), ⟨by simp only; omega, ?_⟩, by simp only; omega, by simp only; omega, rfl⟩
                    simp only
                    rw [outE_take e 0 m c hc, Nat.zero_add]
                    simpa using hb5
                  | some d =>
                    have hlt4 : ((q : Int) < c.length) := by have := (List.getElem?_eq_some_iff.1 hd).1; omega
                    generalize hpre5 : pre ++ outE 0 (e.take m) ++ [sepC m] = pre5 at hb5 hlen5 ⊢
                    have hnext : pre5 ++ rel (c.take q) ++ relC d = pre5 ++ rel (c.take (q + 1)) := by rw [rel, rel, flat_take hd, List.append_assoc]
                    simp (disch := first | omega | (simp only [List.length_cons, List.length_nil, List.length_map, List.length_drop]; omega)) only [hlt4, hd, wrap_i64, ↓evPre, ↓evPreW, evPost, evPostW, ← List.map_take, ← List.map_drop, ↓reduceIte, reduceCtorEq, Nat.reduceEqDiff, forall_const, implies_true, Nat.reduceAdd, Nat.reduceSub, Nat.reduceMul, Nat.reduceLT, Nat.reduceLeDiff, Int.reduceToNat, Int.reduceAdd, Int.reduceSub, Int.reduceNeg, Int.reduceMul, Int.reduceLT, Int.reduceLE, Int.reduceEq]
                    refine (index_A d _).then ?_
                    by_cases hsp : 0 ≤ Lib.indexByte sp d
                    · have hr : relC d = [63] ++ [d] := by simp [relC, (spec_pos d).1 hsp]
                      simp (disch := first | omega | (simp only [List.length_cons, List.length_nil, List.length_map, List.length_drop]; omega)) only [hsp, decide_true, hd, wrap_i64, ↓evPre, ↓evPreW, evPost, evPostW, ← List.map_take, ← List.map_drop, ↓reduceIte, reduceCtorEq, Nat.reduceEqDiff, forall_const, implies_true, Nat.reduceAdd, Nat.reduceSub, Nat.reduceMul, Nat.reduceLT, Nat.reduceLeDiff, Int.reduceToNat, Int.reduceAdd, Int.reduceSub, Int.reduceNeg, Int.reduceMul, Int.reduceLT, Int.reduceLE, Int.reduceEq]
                      refine (writeB_A hb5 63 (by omega)).mono ?_
                      rintro _ _ ⟨rfl, T6, p6, b6, rfl, hb6, hk6⟩
                      simp (disch := first | omega | (simp only [List.length_cons, List.length_nil, List.length_map, List.length_drop]; omega)) only [hd, wrap_i64, ↓evPre, ↓evPreW, evPost, evPostW, ← List.map_take, ← List.map_drop, ↓reduceIte, reduceCtorEq, Nat.reduceEqDiff, forall_const, implies_true, Nat.reduceAdd, Nat.reduceSub, Nat.reduceMul, Nat.reduceLT, Nat.reduceLeDiff, Int.reduceToNat, Int.reduceAdd, Int.reduceSub, Int.reduceNeg, Int.reduceMul, Int.reduceLT, Int.reduceLE, Int.reduceEq]
                      refine (writeB_A hb6 d (by rw [List.length_append]; simp only [List.length_cons, List.length_nil]; omega)).mono ?_
                      rintro _ _ ⟨rfl, T7, p7, b7, rfl, hb7, hk7⟩
                      simp (disch := first | omega | (simp only [List.length_cons, List.length_nil, List.length_map, List.length_drop]; omega)) only [hd, wrap_i64, ↓evPre, ↓evPreW, evPost, evPostW, ← List.map_take, ← List.map_drop, ↓reduceIte, reduceCtorEq, Nat.reduceEqDiff, forall_const, implies_true, Nat.reduceAdd, Nat.reduceSub, Nat.reduceMul, Nat.reduceLT, Nat.reduceLeDiff, Int.reduceToNat, Int.reduceAdd, Int.reduceSub, Int.reduceNeg, Int.reduceMul, Int.reduceLT, Int.reduceLE, Int.reduceEq]
                      refine ⟨(q + 1, T7, p7, b7), ⟨by simp only; omega, ?_⟩, by simp only; omega, by simp only; omega, rfl⟩
                      simp only
                      rw [← hnext, hr]
                      simpa using hb7
                    · have hr : relC d = [d] := by
                        have : specC d = false := by rw [← Bool.not_eq_true]; exact fun h => hsp ((spec_pos d).2 h)
                        simp [relC, this]
                      simp (disch := first | omega | (simp only [List.length_cons, List.length_nil, List.length_map, List.length_drop]; omega)) only [hsp, decide_false, hd, wrap_i64, ↓evPre, ↓evPreW, evPost, evPostW, ← List.map_take, ← List.map_drop, ↓reduceIte, reduceCtorEq, Nat.reduceEqDiff, forall_const, implies_true, Nat.reduceAdd, Nat.reduceSub, Nat.reduceMul, Nat.reduceLT, Nat.reduceLeDiff, Int.reduceToNat, Int.reduceAdd, Int.reduceSub, Int.reduceNeg, Int.reduceMul, Int.reduceLT, Int.reduceLE, Int.reduceEq]
                      refine (writeB_A hb5 d (by omega)).mono ?_
                      rintro _ _ ⟨rfl, T7, p7, b7, rfl, hb7, hk7⟩
                      simp (disch := first | omega | (simp only [List.length_cons, List.length_nil, List.length_map, List.length_drop]; omega)) only [hd, wrap_i64, ↓evPre, ↓evPreW, evPost, evPostW, ← List.map_take, ← List.map_drop, ↓reduceIte, reduceCtorEq, Nat.reduceEqDiff, forall_const, implies_true, Nat.reduceAdd, Nat.reduceSub, Nat.reduceMul, Nat.reduceLT, Nat.reduceLeDiff, Int.reduceToNat, Int.reduceAdd, Int.reduceSub, Int.reduceNeg, Int.reduceMul, Int.reduceLT, Int.reduceLE, Int.reduceEq]
                      refine ⟨(q + 1, T7, p7, b7), ⟨by simp only; omega, ?_⟩, by simp only; omega, by simp only; omega, rfl⟩
                      simp only
                      rw [← hnext, hr]
                      exact hb7
end Go.Proofs.Ytpblahljlbakdaa
