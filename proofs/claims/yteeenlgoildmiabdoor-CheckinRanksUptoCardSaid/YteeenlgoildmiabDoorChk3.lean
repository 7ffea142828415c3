/- The violations of bags: the reference. -/
import Derived.Test.YteeenlgoildmiabDoorChk2
namespace Go.Proofs.YteeenlgoildmiabDoor
open Go Go.AL
set_option linter.unusedSimpArgs false
set_option linter.unusedVariables false

/-- The weight of a ticket's bags, those of no weight left out. -/
def tOf (t : Int) (b : Bg) : Int := if b.tic = t ∧ 1 ≤ b.wt then b.wt else 0
def tsum (t : Int) (l : List Bg) : Int := (l.map (tOf t)).sum
theorem tOf_pos (t : Int) (b : Bg) : 0 ≤ tOf t b := by unfold tOf; split <;> omega
theorem tsum_pos (t : Int) : ∀ (l : List Bg), 0 ≤ tsum t l
  | [] => by simp [tsum]
  | b :: l => by
    have h1 := tsum_pos t l
    have h2 := tOf_pos t b
    simp only [tsum, List.map_cons, List.sum_cons] at h1 ⊢
    omega
theorem tsum_take {t : Int} {l : List Bg} {k : Nat} {c : Bg} (h : l[k]? = some c) : tsum t (l.take (k + 1)) = tsum t (l.take k) + tOf t c := by
  rw [List.take_add_one, h]
  simp [tsum]
theorem tsum_mono {t : Int} {l : List Bg} {i j : Nat} (h : i ≤ j) : tsum t (l.take i) ≤ tsum t (l.take j) := by
  obtain ⟨d, rfl⟩ := Nat.exists_eq_add_of_le h
  have h0 : l.take (i + d) = l.take i ++ (l.drop i).take d := by rw [List.take_add]
  rw [h0]
  have := tsum_pos t ((l.drop i).take d)
  simp only [tsum, List.map_append, List.sum_append] at this ⊢
  omega

def i64r (n : Int) : Prop := -9223372036854775808 ≤ n ∧ n ≤ 9223372036854775807

theorem heavy_A (l : List Bg) (i : Nat) (c : Bg) (most : Int) (S : Store) (hl : l.length ≤ 60) (hi : l[i]? = some c) (hc1 : 1 ≤ c.wt) (hm : i64r most) :
    CallA Tryd.prog 28 [bagSl l, .int .i64 i, .int .i64 most] S fun r S' => r = .bool (decide (most < tsum c.tic (l.take (i + 1)))) ∧ S' = S := by
  have hil := (List.getElem?_eq_some_iff.1 hi).1
  unfold i64r at hm
  refine CallA.keep Tryd.func28 c28 (Nat.le_of_ble_eq_true rfl) fun σ hσ => ?_
  simp only [a28, bagSl, List.length_map, ↓evPre, ↓evPreW, evPost, evPostW, ← List.map_take, ← List.map_drop, ↓reduceIte, reduceCtorEq, Nat.reduceEqDiff, forall_const, implies_true, Nat.reduceAdd, Nat.reduceSub, Nat.reduceMul, Nat.reduceLT, Nat.reduceLeDiff, Int.reduceToNat, Int.reduceAdd, Int.reduceSub, Int.reduceNeg, Int.reduceMul, Int.reduceLT, Int.reduceLE, Int.reduceEq]
  refine loopA (ι := Nat × Int) (fun p => [(0, bagSl l), (1, .int .i64 i), (7, .int .i64 p.2), (8, .int .i64 p.1)]) (fun _ => S) (fun p => p.1 ≤ i + 1 ∧ p.2 = most - tsum c.tic (l.take p.1) ∧ (tsum c.tic (l.take p.1) = 0 ∨ 0 ≤ p.2)) (fun p => i + 1 - p.1)
    (0, most) ⟨Nat.zero_le _, by simp [tsum], .inl rfl⟩ ?_ rfl ?_
  · simp only [bagSl, ↓evPre, ↓evPreW, evPost, evPostW, ← List.map_take, ← List.map_drop, ↓reduceIte, reduceCtorEq, Nat.reduceEqDiff, forall_const, implies_true, Nat.reduceAdd, Nat.reduceSub, Nat.reduceMul, Nat.reduceLT, Nat.reduceLeDiff, Int.reduceToNat, Int.reduceAdd, Int.reduceSub, Int.reduceNeg, Int.reduceMul, Int.reduceLT, Int.reduceLE, Int.reduceEq]
  · rintro ⟨k, left⟩ ⟨hk, hleft, hz⟩
    simp only at hk hleft hz ⊢
    by_cases hlt0 : k ≤ i
    · have hlt : (k : Int) ≤ i := by omega
      have hkl : k < l.length := by omega
      have hd : l[k]? = some l[k] := List.getElem?_eq_getElem hkl
      generalize l[k] = d at hd
      have hstep := tsum_take (t := c.tic) hd
      have h0 := tsum_pos c.tic (l.take k)
      by_cases h : d.tic = c.tic ∧ 1 ≤ d.wt
      · obtain ⟨h1, h2⟩ := h
        have ht : tOf c.tic d = d.wt := if_pos ⟨h1, h2⟩
        rw [ht] at hstep
        have h3 : ¬ d.wt < 1 := by omega
        have hmono := tsum_mono (t := c.tic) (l := l) (i := k + 1) (j := i + 1) (by omega)
        by_cases h4 : left < d.wt
        · have hr : most < tsum c.tic (l.take (i + 1)) := by omega
          simp (disch := first | omega | (simp only [List.length_cons, List.length_nil, List.length_map, List.length_drop]; omega)) only [bagSl, bagR, wrap_i64, hi, hd, hlt, h1, h3, h4, hr, List.length_map, decide_true, decide_false, List.getElem?_map, Option.map_some, ↓evPre, ↓evPreW, evPost, evPostW, ← List.map_take, ← List.map_drop, ↓reduceIte, reduceCtorEq, Nat.reduceEqDiff, forall_const, implies_true, Nat.reduceAdd, Nat.reduceSub, Nat.reduceMul, Nat.reduceLT, Nat.reduceLeDiff, Int.reduceToNat, Int.reduceAdd, Int.reduceSub, Int.reduceNeg, Int.reduceMul, Int.reduceLT, Int.reduceLE, Int.reduceEq]
        · simp (disch := first | omega | (simp only [List.length_cons, List.length_nil, List.length_map, List.length_drop]; omega)) only [bagSl, bagR, wrap_i64, hi, hd, hlt, h1, h3, h4, List.length_map, decide_true, decide_false, List.getElem?_map, Option.map_some, ↓evPre, ↓evPreW, evPost, evPostW, ← List.map_take, ← List.map_drop, ↓reduceIte, reduceCtorEq, Nat.reduceEqDiff, forall_const, implies_true, Nat.reduceAdd, Nat.reduceSub, Nat.reduceMul, Nat.reduceLT, Nat.reduceLeDiff, Int.reduceToNat, Int.reduceAdd, Int.reduceSub, Int.reduceNeg, Int.reduceMul, Int.reduceLT, Int.reduceLE, Int.reduceEq]
          exact ⟨(k + 1, left - d.wt), ⟨by simp only; omega, by simp only; omega, .inr (by simp only; omega)⟩, by simp only; omega, rfl, rfl⟩
      · have ht : tOf c.tic d = 0 := if_neg h
        rw [ht, Int.add_zero] at hstep
        simp (disch := first | omega | (simp only [List.length_cons, List.length_nil, List.length_map, List.length_drop]; omega)) only [bagSl, bagR, wrap_i64, hi, hd, hlt, List.length_map, decide_true, decide_false, List.getElem?_map, Option.map_some, ↓evPre, ↓evPreW, evPost, evPostW, ← List.map_take, ← List.map_drop, ↓reduceIte, reduceCtorEq, Nat.reduceEqDiff, forall_const, implies_true, Nat.reduceAdd, Nat.reduceSub, Nat.reduceMul, Nat.reduceLT, Nat.reduceLeDiff, Int.reduceToNat, Int.reduceAdd, Int.reduceSub, Int.reduceNeg, Int.reduceMul, Int.reduceLT, Int.reduceLE, Int.reduceEq]
        have fin : ∃ i' : Nat × Int, (i'.1 ≤ i + 1 ∧ i'.2 = most - tsum c.tic (l.take i'.1) ∧ (tsum c.tic (l.take i'.1) = 0 ∨ 0 ≤ i'.2)) ∧ i + 1 - i'.1 < i + 1 - k ∧ left = i'.2 ∧ (k : Int) + 1 = i'.1 :=
          ⟨(k + 1, left), ⟨by simp only; omega, by simp only; omega, by simp only [hstep]; exact hz⟩, by simp only; omega, rfl, rfl⟩
        exact ⟨fun g1 => ⟨fun g2 => fin, fun g2 => absurd ⟨g1, g2⟩ h⟩, fun _ => fin⟩
    · have hlt : ¬ (k : Int) ≤ i := by omega
      have e : k = i + 1 := by omega
      subst e
      have h0 := tsum_pos c.tic (l.take i)
      have hstep := tsum_take (t := c.tic) hi
      have ht : tOf c.tic c = c.wt := if_pos ⟨rfl, hc1⟩
      have hr : ¬ most < tsum c.tic (l.take (i + 1)) := by omega
      simp (disch := first | omega | (simp only [List.length_cons, List.length_nil, List.length_map, List.length_drop]; omega)) only [bagSl, wrap_i64, hlt, hr, decide_false, ↓evPre, ↓evPreW, evPost, evPostW, ← List.map_take, ← List.map_drop, ↓reduceIte, reduceCtorEq, Nat.reduceEqDiff, forall_const, implies_true, Nat.reduceAdd, Nat.reduceSub, Nat.reduceMul, Nat.reduceLT, Nat.reduceLeDiff, Int.reduceToNat, Int.reduceAdd, Int.reduceSub, Int.reduceNeg, Int.reduceMul, Int.reduceLT, Int.reduceLE, Int.reduceEq]

/-! ### What is found at a bag -/
def bagAt (i : Nat) : Txt := [98, 97, 103, 32] ++ decB i
def twiceF (l : List Bg) (i : Nat) (c : Bg) : Bool := (l.take i).any fun b => decide (b.tag = c.tag)
def faultsAt (l : List Bg) (tk : List Int) (most : Int) (i : Nat) (c : Bg) : List Flt :=
  (if twiceF l i c then [⟨6, bagAt i⟩] else []) ++ (if tk.contains c.tic then [] else [⟨34, bagAt i⟩]) ++
    (if c.wt < 1 then [⟨2, bagAt i⟩] else if most < tsum c.tic (l.take (i + 1)) then [⟨32, bagAt i⟩] else [])
def faultsTo (l : List Bg) (tk : List Int) (most : Int) : Nat → List Flt
  | 0 => []
  | k + 1 => faultsTo l tk most k ++ match l[k]? with
    | some c => faultsAt l tk most k c
    | none => []
theorem faultsAt_len (l : List Bg) (tk : List Int) (most : Int) (i : Nat) (c : Bg) : (faultsAt l tk most i c).length ≤ 3 := by
  unfold faultsAt
  simp only [List.length_append]
  split <;> split <;> split <;> (try split) <;> simp
theorem faultsTo_len (l : List Bg) (tk : List Int) (most : Int) : ∀ k, (faultsTo l tk most k).length ≤ 3 * k
  | 0 => by simp [faultsTo]
  | k + 1 => by
    have h := faultsTo_len l tk most k
    rw [faultsTo, List.length_append]
    cases hc : l[k]? with
    | none => simp only [List.length_nil]; omega
    | some c => have := faultsAt_len l tk most k c; simp only; omega

/-- The list of violations: none, or in memory. -/
def OutM (S : Store) (fs : List Flt) (cell : V) (T : Store) : Prop :=
  (fs = [] ∧ cell = .nilSl ∧ T = []) ∨ ∃ w, cell = .msl S.length w 0 fs.length ∧ T = [⟨w, some (.arr 52 2 (fs.map fltR))⟩]

theorem app_mid {S T : Store} {fs : List Flt} {cell : V} {f : Flt} {K : V → Store → Prop} (h : OutM S fs cell T) (hl : fs.length < 1000) (hk : ∀ cell' T', OutM S (fs ++ [f]) cell' T' → K cell' (S ++ T')) :
    appK 52 2 cell (some (2, [fltR f])) (S ++ T) K := by
  rcases h with ⟨rfl, rfl, rfl⟩ | ⟨w, rfl, rfl⟩
  · rw [app_nil]
    refine ⟨by simp [roomA], ?_⟩
    have := hk (.msl S.length 0 0 1) [⟨0, some (.arr 52 2 [fltR f])⟩] (.inr ⟨0, rfl, rfl⟩)
    simpa using this
  · rw [app_msl, ob_app0, ob_head, appO_some]
    refine ⟨by simp, by simp [roomA]; omega, ?_⟩
    have := hk (.msl S.length (w + 1) 0 (fs.length + 1)) [⟨w + 1, some (.arr 52 2 ((fs ++ [f]).map fltR))⟩] (.inr ⟨w + 1, by simp, rfl⟩)
    rw [se_app0]
    simpa using this

theorem refbags_A (l : List Bg) (tk : List Int) (most : Int) (S : Store) (hl : l.length ≤ 60) (htk : tk.length ≤ 60) (hm : i64r most) :
    CallA Tryd.prog 11 [bagSl l, iSl tk, .int .i64 most] S fun r S' => r = fltSl (faultsTo l tk most l.length) ∧ S' = S := by
  refine CallA.withNeat Tryd.func11 c11 fun hn => ?_
  refine CallA.fin Tryd.func11 c11 (Nat.le_of_ble_eq_true rfl) fun σ hσ => ?_
  simp only [a11, bagSl, iSl, List.length_map, ↓evPre, ↓evPreW, evPost, evPostW, ← List.map_take, ← List.map_drop, ↓reduceIte, reduceCtorEq, Nat.reduceEqDiff, forall_const, implies_true, Nat.reduceAdd, Nat.reduceSub, Nat.reduceMul, Nat.reduceLT, Nat.reduceLeDiff, Int.reduceToNat, Int.reduceAdd, Int.reduceSub, Int.reduceNeg, Int.reduceMul, Int.reduceLT, Int.reduceLE, Int.reduceEq]
  refine loopA (ι := Nat × V × Store) (fun p => [(0, bagSl l), (1, iSl tk), (2, .int .i64 most), (7, p.2.1), (8, .int .i64 p.1)]) (fun p => S ++ p.2.2) (fun p => p.1 ≤ l.length ∧ OutM S (faultsTo l tk most p.1) p.2.1 p.2.2) (fun p => l.length - p.1)
    (0, .nilSl, []) ⟨Nat.zero_le _, .inl ⟨rfl, rfl, rfl⟩⟩ ?_ (by simp) ?_
  · simp only [bagSl, iSl, ↓evPre, ↓evPreW, evPost, evPostW, ← List.map_take, ← List.map_drop, ↓reduceIte, reduceCtorEq, Nat.reduceEqDiff, forall_const, implies_true, Nat.reduceAdd, Nat.reduceSub, Nat.reduceMul, Nat.reduceLT, Nat.reduceLeDiff, Int.reduceToNat, Int.reduceAdd, Int.reduceSub, Int.reduceNeg, Int.reduceMul, Int.reduceLT, Int.reduceLE, Int.reduceEq]
  · rintro ⟨k, cell, T⟩ ⟨hk, ho⟩
    simp only at hk ho ⊢
    cases hc : l[k]? with
    | none =>
      have hge : l.length ≤ k := List.getElem?_eq_none_iff.1 hc
      have hlt : ¬ ((k : Int) < l.length) := by omega
      have e : k = l.length := by omega
      rw [e] at ho
      simp (disch := first | omega | (simp only [List.length_cons, List.length_nil, List.length_map, List.length_drop]; omega)) only [bagSl, List.length_map, wrap_i64, hc, hlt, decide_false, ↓evPre, ↓evPreW, evPost, evPostW, ← List.map_take, ← List.map_drop, ↓reduceIte, reduceCtorEq, Nat.reduceEqDiff, forall_const, implies_true, Nat.reduceAdd, Nat.reduceSub, Nat.reduceMul, Nat.reduceLT, Nat.reduceLeDiff, Int.reduceToNat, Int.reduceAdd, Int.reduceSub, Int.reduceNeg, Int.reduceMul, Int.reduceLT, Int.reduceLE, Int.reduceEq]
      refine ⟨fltSl (faultsTo l tk most l.length), S, hn.fgt _, ?_, Nat.le_refl _, rfl, rfl⟩
      rcases ho with ⟨h1, rfl, rfl⟩ | ⟨w, rfl, rfl⟩
      · rw [h1]; exact .nil
      · exact .sl (t := 52) (by omega) (by rw [ob_app0, ob_head]) (by simp) (fun r hr => by obtain ⟨f, _, rfl⟩ := List.mem_map.1 hr; exact ⟨rfl, rfl⟩)
    | some c =>
      have hlt' := (List.getElem?_eq_some_iff.1 hc).1
      have hlt : (k : Int) < l.length := by omega
      have hfl := faultsTo_len l tk most k
      have hstep : faultsTo l tk most (k + 1) = faultsTo l tk most k ++ faultsAt l tk most k c := by rw [faultsTo, hc]
      have hadd : binV .add (.str [98, 97, 103, 32]) (.str (decB k)) = some (.str (bagAt k)) := bs_add (by have := decB_len k; simp only [List.length_cons, List.length_nil]; unfold maxLen; omega)
      simp (disch := first | omega | (simp only [List.length_cons, List.length_nil, List.length_map, List.length_drop]; omega)) only [bagSl, iSl, List.length_map, wrap_i64, hc, hlt, decide_true, ↓evPre, ↓evPreW, evPost, evPostW, ← List.map_take, ← List.map_drop, ↓reduceIte, reduceCtorEq, Nat.reduceEqDiff, forall_const, implies_true, Nat.reduceAdd, Nat.reduceSub, Nat.reduceMul, Nat.reduceLT, Nat.reduceLeDiff, Int.reduceToNat, Int.reduceAdd, Int.reduceSub, Int.reduceNeg, Int.reduceMul, Int.reduceLT, Int.reduceLE, Int.reduceEq]
      refine (decimal_A k _ (by omega)).then ?_
      simp (disch := first | omega | (simp only [List.length_cons, List.length_nil, List.length_map, List.length_drop]; omega)) only [hadd, bagSl, iSl, List.length_map, wrap_i64, hc, hlt, decide_true, ↓evPre, ↓evPreW, evPost, evPostW, ← List.map_take, ← List.map_drop, ↓reduceIte, reduceCtorEq, Nat.reduceEqDiff, forall_const, implies_true, Nat.reduceAdd, Nat.reduceSub, Nat.reduceMul, Nat.reduceLT, Nat.reduceLeDiff, Int.reduceToNat, Int.reduceAdd, Int.reduceSub, Int.reduceNeg, Int.reduceMul, Int.reduceLT, Int.reduceLE, Int.reduceEq]
      refine loopA (ι := Nat) (fun j => [(0, bagSl l), (1, iSl tk), (2, .int .i64 most), (7, cell), (8, .int .i64 k), (9, .str (bagAt k)), (10, .bool (twiceF l j c)), (11, .bool false), (12, .int .i64 j)]) (fun _ => S ++ T) (fun j => j ≤ k) (fun j => k - j) 0 (Nat.zero_le _) ?_ rfl ?_
      · simp only [bagSl, iSl, twiceF, List.take_zero, List.any_nil, ↓evPre, ↓evPreW, evPost, evPostW, ← List.map_take, ← List.map_drop, ↓reduceIte, reduceCtorEq, Nat.reduceEqDiff, forall_const, implies_true, Nat.reduceAdd, Nat.reduceSub, Nat.reduceMul, Nat.reduceLT, Nat.reduceLeDiff, Int.reduceToNat, Int.reduceAdd, Int.reduceSub, Int.reduceNeg, Int.reduceMul, Int.reduceLT, Int.reduceLE, Int.reduceEq]
      · intro j hj
        by_cases hjk : j < k
        · have hlt2 : (j : Int) < k := by omega
          have hd : l[j]? = some l[j] := List.getElem?_eq_getElem (by omega)
          generalize l[j] = d at hd
          have hs : twiceF l (j + 1) c = (twiceF l j c || decide (d.tag = c.tag)) := by
            unfold twiceF
            rw [List.take_add_one, hd]
            simp
          cases ht : twiceF l j c with
          | true =>
            rw [ht, Bool.true_or] at hs
            simp (disch := first | omega | (simp only [List.length_cons, List.length_nil, List.length_map, List.length_drop]; omega)) only [bagSl, iSl, bagR, List.length_map, wrap_i64, hc, hd, hlt2, decide_true, List.getElem?_map, Option.map_some, ↓evPre, ↓evPreW, evPost, evPostW, ← List.map_take, ← List.map_drop, ↓reduceIte, reduceCtorEq, Nat.reduceEqDiff, forall_const, implies_true, Nat.reduceAdd, Nat.reduceSub, Nat.reduceMul, Nat.reduceLT, Nat.reduceLeDiff, Int.reduceToNat, Int.reduceAdd, Int.reduceSub, Int.reduceNeg, Int.reduceMul, Int.reduceLT, Int.reduceLE, Int.reduceEq]
            exact ⟨j + 1, by omega, by omega, by simp [hs], rfl⟩
          | false =>
            rw [ht, Bool.false_or] at hs
            simp (disch := first | omega | (simp only [List.length_cons, List.length_nil, List.length_map, List.length_drop]; omega)) only [bagSl, iSl, bagR, List.length_map, wrap_i64, hc, hd, hlt2, decide_true, List.getElem?_map, Option.map_some, ↓evPre, ↓evPreW, evPost, evPostW, ← List.map_take, ← List.map_drop, ↓reduceIte, reduceCtorEq, Nat.reduceEqDiff, forall_const, implies_true, Nat.reduceAdd, Nat.reduceSub, Nat.reduceMul, Nat.reduceLT, Nat.reduceLeDiff, Int.reduceToNat, Int.reduceAdd, Int.reduceSub, Int.reduceNeg, Int.reduceMul, Int.reduceLT, Int.reduceLE, Int.reduceEq]
            exact ⟨j + 1, by omega, by omega, by simp [hs], rfl⟩
        · have e : j = k := by omega
          subst e
          have hlt2 : ¬ ((j : Int) < j) := by omega
          simp (disch := first | omega | (simp only [List.length_cons, List.length_nil, List.length_map, List.length_drop]; omega)) only [bagSl, iSl, List.length_map, wrap_i64, hlt2, decide_false, ↓evPre, ↓evPreW, evPost, evPostW, ← List.map_take, ← List.map_drop, ↓reduceIte, reduceCtorEq, Nat.reduceEqDiff, forall_const, implies_true, Nat.reduceAdd, Nat.reduceSub, Nat.reduceMul, Nat.reduceLT, Nat.reduceLeDiff, Int.reduceToNat, Int.reduceAdd, Int.reduceSub, Int.reduceNeg, Int.reduceMul, Int.reduceLT, Int.reduceLE, Int.reduceEq]
          refine loopA (ι := Nat) (fun q => [(0, bagSl l), (1, iSl tk), (2, .int .i64 most), (7, cell), (8, .int .i64 j), (9, .str (bagAt j)), (10, .bool (twiceF l j c)), (11, .bool ((tk.take q).contains c.tic)), (13, .int .i64 q)]) (fun _ => S ++ T) (fun q => q ≤ tk.length) (fun q => tk.length - q) 0 (Nat.zero_le _) ?_ rfl ?_
          · simp only [bagSl, iSl, List.take_zero, List.contains_nil, ↓evPre, ↓evPreW, evPost, evPostW, ← List.map_take, ← List.map_drop, ↓reduceIte, reduceCtorEq, Nat.reduceEqDiff, forall_const, implies_true, Nat.reduceAdd, Nat.reduceSub, Nat.reduceMul, Nat.reduceLT, Nat.reduceLeDiff, Int.reduceToNat, Int.reduceAdd, Int.reduceSub, Int.reduceNeg, Int.reduceMul, Int.reduceLT, Int.reduceLE, Int.reduceEq]
          · intro q hq
            cases hd : tk[q]? with
            | some d =>
              have hqlt := (List.getElem?_eq_some_iff.1 hd).1
              have hlt3 : (q : Int) < tk.length := by omega
              have hs : (tk.take (q + 1)).contains c.tic = ((tk.take q).contains c.tic || decide (d = c.tic)) := by
                rw [List.take_add_one, hd]
                simp only [Option.toList_some, List.contains_append, List.contains_cons, List.contains_nil, Bool.or_false]
                congr 1
                rw [Bool.eq_iff_iff, beq_iff_eq, decide_eq_true_eq, eq_comm]
              cases ht : (tk.take q).contains c.tic with
              | true =>
                rw [ht, Bool.true_or] at hs
                simp (disch := first | omega | (simp only [List.length_cons, List.length_nil, List.length_map, List.length_drop]; omega)) only [bagSl, iSl, bagR, List.length_map, wrap_i64, hc, hd, hlt3, decide_true, List.getElem?_map, Option.map_some, ↓evPre, ↓evPreW, evPost, evPostW, ← List.map_take, ← List.map_drop, ↓reduceIte, reduceCtorEq, Nat.reduceEqDiff, forall_const, implies_true, Nat.reduceAdd, Nat.reduceSub, Nat.reduceMul, Nat.reduceLT, Nat.reduceLeDiff, Int.reduceToNat, Int.reduceAdd, Int.reduceSub, Int.reduceNeg, Int.reduceMul, Int.reduceLT, Int.reduceLE, Int.reduceEq]
                exact ⟨q + 1, by omega, by omega, by first | exact hs.symm | exact ⟨hs.symm, trivial⟩ | simp only [hs, and_self], rfl⟩
              | false =>
                rw [ht, Bool.false_or] at hs
                simp (disch := first | omega | (simp only [List.length_cons, List.length_nil, List.length_map, List.length_drop]; omega)) only [bagSl, iSl, bagR, List.length_map, wrap_i64, hc, hd, hlt3, decide_true, List.getElem?_map, Option.map_some, ↓evPre, ↓evPreW, evPost, evPostW, ← List.map_take, ← List.map_drop, ↓reduceIte, reduceCtorEq, Nat.reduceEqDiff, forall_const, implies_true, Nat.reduceAdd, Nat.reduceSub, Nat.reduceMul, Nat.reduceLT, Nat.reduceLeDiff, Int.reduceToNat, Int.reduceAdd, Int.reduceSub, Int.reduceNeg, Int.reduceMul, Int.reduceLT, Int.reduceLE, Int.reduceEq]
                exact ⟨q + 1, by omega, by omega, by first | exact hs.symm | exact ⟨hs.symm, trivial⟩ | simp only [hs, and_self], rfl⟩
            | none =>
              have hlt3 : ¬ ((q : Int) < tk.length) := by rw [List.getElem?_eq_none_iff] at hd; omega
              rw [List.take_of_length_le (List.getElem?_eq_none_iff.1 hd)]
              have hfa : faultsAt l tk most j c = (if twiceF l j c then [⟨6, bagAt j⟩] else []) ++ (if tk.contains c.tic then [] else [⟨34, bagAt j⟩]) ++
                (if c.wt < 1 then [⟨2, bagAt j⟩] else if most < tsum c.tic (l.take (j + 1)) then [⟨32, bagAt j⟩] else []) := rfl
              rw [hfa] at hstep
              generalize hFs : faultsTo l tk most j = fs at *
              have fin : ∀ (cell' : V) (T' : Store), OutM S (faultsTo l tk most (j + 1)) cell' T' → ∃ i' : Nat × V × Store, (i'.1 ≤ l.length ∧ OutM S (faultsTo l tk most i'.1) i'.2.1 i'.2.2) ∧ l.length - i'.1 < l.length - j ∧ (cell' = i'.2.1 ∧ (j : Int) + 1 = i'.1) ∧ S ++ T' = S ++ i'.2.2 :=
                fun cell' T' h => ⟨(j + 1, cell', T'), ⟨by simp only; omega, h⟩, by simp only; omega, ⟨rfl, by simp only; omega⟩, rfl⟩
              cases htw : twiceF l j c with
              | true =>
                simp only [htw, ↓reduceIte] at hstep
                simp (disch := first | omega | (simp only [List.length_cons, List.length_nil, List.length_map, List.length_drop]; omega)) only [bagSl, iSl, bagR, List.length_map, wrap_i64, hc, hlt3, decide_true, decide_false, List.take_succ_cons, List.take_zero, List.getElem?_map, Option.map_some, ↓evPre, ↓evPreW, evPost, evPostW, ← List.map_take, ← List.map_drop, ↓reduceIte, reduceCtorEq, Nat.reduceEqDiff, forall_const, implies_true, Nat.reduceAdd, Nat.reduceSub, Nat.reduceMul, Nat.reduceLT, Nat.reduceLeDiff, Int.reduceToNat, Int.reduceAdd, Int.reduceSub, Int.reduceNeg, Int.reduceMul, Int.reduceLT, Int.reduceLE, Int.reduceEq]
                refine app_mid (f := ⟨6, bagAt j⟩) ho (by (try simp only [List.length_append, List.length_cons, List.length_nil]); omega) fun c1 T1 g1 => ?_
                cases hkn : tk.contains c.tic with
                | true =>
                  simp only [hkn, ↓reduceIte] at hstep
                  by_cases hli : c.wt < 1
                  · simp only [hli, if_true] at hstep
                    have hli2 : ¬ 1 ≤ c.wt := by omega
                    simp (disch := first | omega | (simp only [List.length_cons, List.length_nil, List.length_map, List.length_drop]; omega)) only [hli, hli2, bagSl, iSl, bagR, List.length_map, wrap_i64, hc, hlt3, decide_true, decide_false, List.take_succ_cons, List.take_zero, List.getElem?_map, Option.map_some, ↓evPre, ↓evPreW, evPost, evPostW, ← List.map_take, ← List.map_drop, ↓reduceIte, reduceCtorEq, Nat.reduceEqDiff, forall_const, implies_true, Nat.reduceAdd, Nat.reduceSub, Nat.reduceMul, Nat.reduceLT, Nat.reduceLeDiff, Int.reduceToNat, Int.reduceAdd, Int.reduceSub, Int.reduceNeg, Int.reduceMul, Int.reduceLT, Int.reduceLE, Int.reduceEq]
                    refine app_mid (f := ⟨2, bagAt j⟩) g1 (by (try simp only [List.length_append, List.length_cons, List.length_nil]); omega) fun c2 T2 g2 => ?_
                    simp (disch := first | omega | (simp only [List.length_cons, List.length_nil, List.length_map, List.length_drop]; omega)) only [hli, hli2, bagSl, iSl, bagR, List.length_map, wrap_i64, hc, hlt3, decide_true, decide_false, List.take_succ_cons, List.take_zero, List.getElem?_map, Option.map_some, ↓evPre, ↓evPreW, evPost, evPostW, ← List.map_take, ← List.map_drop, ↓reduceIte, reduceCtorEq, Nat.reduceEqDiff, forall_const, implies_true, Nat.reduceAdd, Nat.reduceSub, Nat.reduceMul, Nat.reduceLT, Nat.reduceLeDiff, Int.reduceToNat, Int.reduceAdd, Int.reduceSub, Int.reduceNeg, Int.reduceMul, Int.reduceLT, Int.reduceLE, Int.reduceEq]
                    refine fin _ _ ?_
                    rw [hstep]; simpa only [List.append_assoc, List.nil_append, List.append_nil, List.singleton_append, List.cons_append] using g2
                  · simp only [hli, if_false] at hstep
                    have hli2 : 1 ≤ c.wt := by omega
                    simp (disch := first | omega | (simp only [List.length_cons, List.length_nil, List.length_map, List.length_drop]; omega)) only [hli, hli2, bagSl, iSl, bagR, List.length_map, wrap_i64, hc, hlt3, decide_true, decide_false, List.take_succ_cons, List.take_zero, List.getElem?_map, Option.map_some, ↓evPre, ↓evPreW, evPost, evPostW, ← List.map_take, ← List.map_drop, ↓reduceIte, reduceCtorEq, Nat.reduceEqDiff, forall_const, implies_true, Nat.reduceAdd, Nat.reduceSub, Nat.reduceMul, Nat.reduceLT, Nat.reduceLeDiff, Int.reduceToNat, Int.reduceAdd, Int.reduceSub, Int.reduceNeg, Int.reduceMul, Int.reduceLT, Int.reduceLE, Int.reduceEq]
                    refine (heavy_A l j c most _ hl hc hli2 hm).then ?_
                    by_cases hhv : most < tsum c.tic (l.take (j + 1))
                    · simp only [hhv, if_true] at hstep
                      simp (disch := first | omega | (simp only [List.length_cons, List.length_nil, List.length_map, List.length_drop]; omega)) only [hhv, bagSl, iSl, bagR, List.length_map, wrap_i64, hc, hlt3, decide_true, decide_false, List.take_succ_cons, List.take_zero, List.getElem?_map, Option.map_some, ↓evPre, ↓evPreW, evPost, evPostW, ← List.map_take, ← List.map_drop, ↓reduceIte, reduceCtorEq, Nat.reduceEqDiff, forall_const, implies_true, Nat.reduceAdd, Nat.reduceSub, Nat.reduceMul, Nat.reduceLT, Nat.reduceLeDiff, Int.reduceToNat, Int.reduceAdd, Int.reduceSub, Int.reduceNeg, Int.reduceMul, Int.reduceLT, Int.reduceLE, Int.reduceEq]
                      refine app_mid (f := ⟨32, bagAt j⟩) g1 (by (try simp only [List.length_append, List.length_cons, List.length_nil]); omega) fun c3 T3 g3 => ?_
                      simp (disch := first | omega | (simp only [List.length_cons, List.length_nil, List.length_map, List.length_drop]; omega)) only [hhv, bagSl, iSl, bagR, List.length_map, wrap_i64, hc, hlt3, decide_true, decide_false, List.take_succ_cons, List.take_zero, List.getElem?_map, Option.map_some, ↓evPre, ↓evPreW, evPost, evPostW, ← List.map_take, ← List.map_drop, ↓reduceIte, reduceCtorEq, Nat.reduceEqDiff, forall_const, implies_true, Nat.reduceAdd, Nat.reduceSub, Nat.reduceMul, Nat.reduceLT, Nat.reduceLeDiff, Int.reduceToNat, Int.reduceAdd, Int.reduceSub, Int.reduceNeg, Int.reduceMul, Int.reduceLT, Int.reduceLE, Int.reduceEq]
                      refine fin _ _ ?_
                      rw [hstep]; simpa only [List.append_assoc, List.nil_append, List.append_nil, List.singleton_append, List.cons_append] using g3
                    · simp only [hhv, if_false] at hstep
                      simp (disch := first | omega | (simp only [List.length_cons, List.length_nil, List.length_map, List.length_drop]; omega)) only [hhv, bagSl, iSl, bagR, List.length_map, wrap_i64, hc, hlt3, decide_true, decide_false, List.take_succ_cons, List.take_zero, List.getElem?_map, Option.map_some, ↓evPre, ↓evPreW, evPost, evPostW, ← List.map_take, ← List.map_drop, ↓reduceIte, reduceCtorEq, Nat.reduceEqDiff, forall_const, implies_true, Nat.reduceAdd, Nat.reduceSub, Nat.reduceMul, Nat.reduceLT, Nat.reduceLeDiff, Int.reduceToNat, Int.reduceAdd, Int.reduceSub, Int.reduceNeg, Int.reduceMul, Int.reduceLT, Int.reduceLE, Int.reduceEq]
                      refine fin _ _ ?_
                      rw [hstep]; simpa only [List.append_assoc, List.nil_append, List.append_nil, List.singleton_append, List.cons_append] using g1
                | false =>
                  simp only [hkn, Bool.false_eq_true, ↓reduceIte] at hstep
                  simp (disch := first | omega | (simp only [List.length_cons, List.length_nil, List.length_map, List.length_drop]; omega)) only [bagSl, iSl, bagR, List.length_map, wrap_i64, hc, hlt3, decide_true, decide_false, List.take_succ_cons, List.take_zero, List.getElem?_map, Option.map_some, ↓evPre, ↓evPreW, evPost, evPostW, ← List.map_take, ← List.map_drop, ↓reduceIte, reduceCtorEq, Nat.reduceEqDiff, forall_const, implies_true, Nat.reduceAdd, Nat.reduceSub, Nat.reduceMul, Nat.reduceLT, Nat.reduceLeDiff, Int.reduceToNat, Int.reduceAdd, Int.reduceSub, Int.reduceNeg, Int.reduceMul, Int.reduceLT, Int.reduceLE, Int.reduceEq]
                  refine app_mid (f := ⟨34, bagAt j⟩) g1 (by (try simp only [List.length_append, List.length_cons, List.length_nil]); omega) fun c4 T4 g4 => ?_
                  by_cases hli : c.wt < 1
                  · simp only [hli, if_true] at hstep
                    have hli2 : ¬ 1 ≤ c.wt := by omega
                    simp (disch := first | omega | (simp only [List.length_cons, List.length_nil, List.length_map, List.length_drop]; omega)) only [hli, hli2, bagSl, iSl, bagR, List.length_map, wrap_i64, hc, hlt3, decide_true, decide_false, List.take_succ_cons, List.take_zero, List.getElem?_map, Option.map_some, ↓evPre, ↓evPreW, evPost, evPostW, ← List.map_take, ← List.map_drop, ↓reduceIte, reduceCtorEq, Nat.reduceEqDiff, forall_const, implies_true, Nat.reduceAdd, Nat.reduceSub, Nat.reduceMul, Nat.reduceLT, Nat.reduceLeDiff, Int.reduceToNat, Int.reduceAdd, Int.reduceSub, Int.reduceNeg, Int.reduceMul, Int.reduceLT, Int.reduceLE, Int.reduceEq]
                    refine app_mid (f := ⟨2, bagAt j⟩) g4 (by (try simp only [List.length_append, List.length_cons, List.length_nil]); omega) fun c5 T5 g5 => ?_
                    simp (disch := first | omega | (simp only [List.length_cons, List.length_nil, List.length_map, List.length_drop]; omega)) only [hli, hli2, bagSl, iSl, bagR, List.length_map, wrap_i64, hc, hlt3, decide_true, decide_false, List.take_succ_cons, List.take_zero, List.getElem?_map, Option.map_some, ↓evPre, ↓evPreW, evPost, evPostW, ← List.map_take, ← List.map_drop, ↓reduceIte, reduceCtorEq, Nat.reduceEqDiff, forall_const, implies_true, Nat.reduceAdd, Nat.reduceSub, Nat.reduceMul, Nat.reduceLT, Nat.reduceLeDiff, Int.reduceToNat, Int.reduceAdd, Int.reduceSub, Int.reduceNeg, Int.reduceMul, Int.reduceLT, Int.reduceLE, Int.reduceEq]
                    refine fin _ _ ?_
                    rw [hstep]; simpa only [List.append_assoc, List.nil_append, List.append_nil, List.singleton_append, List.cons_append] using g5
                  · simp only [hli, if_false] at hstep
                    have hli2 : 1 ≤ c.wt := by omega
                    simp (disch := first | omega | (simp only [List.length_cons, List.length_nil, List.length_map, List.length_drop]; omega)) only [hli, hli2, bagSl, iSl, bagR, List.length_map, wrap_i64, hc, hlt3, decide_true, decide_false, List.take_succ_cons, List.take_zero, List.getElem?_map, Option.map_some, ↓evPre, ↓evPreW, evPost, evPostW, ← List.map_take, ← List.map_drop, ↓reduceIte, reduceCtorEq, Nat.reduceEqDiff, forall_const, implies_true, Nat.reduceAdd, Nat.reduceSub, Nat.reduceMul, Nat.reduceLT, Nat.reduceLeDiff, Int.reduceToNat, Int.reduceAdd, Int.reduceSub, Int.reduceNeg, Int.reduceMul, Int.reduceLT, Int.reduceLE, Int.reduceEq]
                    refine (heavy_A l j c most _ hl hc hli2 hm).then ?_
                    by_cases hhv : most < tsum c.tic (l.take (j + 1))
                    · simp only [hhv, if_true] at hstep
                      simp (disch := first | omega | (simp only [List.length_cons, List.length_nil, List.length_map, List.length_drop]; omega)) only [hhv, bagSl, iSl, bagR, List.length_map, wrap_i64, hc, hlt3, decide_true, decide_false, List.take_succ_cons, List.take_zero, List.getElem?_map, Option.map_some, ↓evPre, ↓evPreW, evPost, evPostW, ← List.map_take, ← List.map_drop, ↓reduceIte, reduceCtorEq, Nat.reduceEqDiff, forall_const, implies_true, Nat.reduceAdd, Nat.reduceSub, Nat.reduceMul, Nat.reduceLT, Nat.reduceLeDiff, Int.reduceToNat, Int.reduceAdd, Int.reduceSub, Int.reduceNeg, Int.reduceMul, Int.reduceLT, Int.reduceLE, Int.reduceEq]
                      refine app_mid (f := ⟨32, bagAt j⟩) g4 (by (try simp only [List.length_append, List.length_cons, List.length_nil]); omega) fun c6 T6 g6 => ?_
                      simp (disch := first | omega | (simp only [List.length_cons, List.length_nil, List.length_map, List.length_drop]; omega)) only [hhv, bagSl, iSl, bagR, List.length_map, wrap_i64, hc, hlt3, decide_true, decide_false, List.take_succ_cons, List.take_zero, List.getElem?_map, Option.map_some, ↓evPre, ↓evPreW, evPost, evPostW, ← List.map_take, ← List.map_drop, ↓reduceIte, reduceCtorEq, Nat.reduceEqDiff, forall_const, implies_true, Nat.reduceAdd, Nat.reduceSub, Nat.reduceMul, Nat.reduceLT, Nat.reduceLeDiff, Int.reduceToNat, Int.reduceAdd, Int.reduceSub, Int.reduceNeg, Int.reduceMul, Int.reduceLT, Int.reduceLE, Int.reduceEq]
                      refine fin _ _ ?_
                      rw [hstep]; simpa only [List.append_assoc, List.nil_append, List.append_nil, List.singleton_append, List.cons_append] using g6
                    · simp only [hhv, if_false] at hstep
                      simp (disch := first | omega | (simp only [List.length_cons, List.length_nil, List.length_map, List.length_drop]; omega)) only [hhv, bagSl, iSl, bagR, List.length_map, wrap_i64, hc, hlt3, decide_true, decide_false, List.take_succ_cons, List.take_zero, List.getElem?_map, Option.map_some, ↓evPre, ↓evPreW, evPost, evPostW, ← List.map_take, ← List.map_drop, ↓reduceIte, reduceCtorEq, Nat.reduceEqDiff, forall_const, implies_true, Nat.reduceAdd, Nat.reduceSub, Nat.reduceMul, Nat.reduceLT, Nat.reduceLeDiff, Int.reduceToNat, Int.reduceAdd, Int.reduceSub, Int.reduceNeg, Int.reduceMul, Int.reduceLT, Int.reduceLE, Int.reduceEq]
                      refine fin _ _ ?_
                      rw [hstep]; simpa only [List.append_assoc, List.nil_append, List.append_nil, List.singleton_append, List.cons_append] using g4
              | false =>
                simp only [htw, Bool.false_eq_true, ↓reduceIte] at hstep
                cases hkn : tk.contains c.tic with
                | true =>
                  simp only [hkn, ↓reduceIte] at hstep
                  by_cases hli : c.wt < 1
                  · simp only [hli, if_true] at hstep
                    have hli2 : ¬ 1 ≤ c.wt := by omega
                    simp (disch := first | omega | (simp only [List.length_cons, List.length_nil, List.length_map, List.length_drop]; omega)) only [hli, hli2, bagSl, iSl, bagR, List.length_map, wrap_i64, hc, hlt3, decide_true, decide_false, List.take_succ_cons, List.take_zero, List.getElem?_map, Option.map_some, ↓evPre, ↓evPreW, evPost, evPostW, ← List.map_take, ← List.map_drop, ↓reduceIte, reduceCtorEq, Nat.reduceEqDiff, forall_const, implies_true, Nat.reduceAdd, Nat.reduceSub, Nat.reduceMul, Nat.reduceLT, Nat.reduceLeDiff, Int.reduceToNat, Int.reduceAdd, Int.reduceSub, Int.reduceNeg, Int.reduceMul, Int.reduceLT, Int.reduceLE, Int.reduceEq]
                    refine app_mid (f := ⟨2, bagAt j⟩) ho (by (try simp only [List.length_append, List.length_cons, List.length_nil]); omega) fun c7 T7 g7 => ?_
                    simp (disch := first | omega | (simp only [List.length_cons, List.length_nil, List.length_map, List.length_drop]; omega)) only [hli, hli2, bagSl, iSl, bagR, List.length_map, wrap_i64, hc, hlt3, decide_true, decide_false, List.take_succ_cons, List.take_zero, List.getElem?_map, Option.map_some, ↓evPre, ↓evPreW, evPost, evPostW, ← List.map_take, ← List.map_drop, ↓reduceIte, reduceCtorEq, Nat.reduceEqDiff, forall_const, implies_true, Nat.reduceAdd, Nat.reduceSub, Nat.reduceMul, Nat.reduceLT, Nat.reduceLeDiff, Int.reduceToNat, Int.reduceAdd, Int.reduceSub, Int.reduceNeg, Int.reduceMul, Int.reduceLT, Int.reduceLE, Int.reduceEq]
                    refine fin _ _ ?_
                    rw [hstep]; simpa only [List.append_assoc, List.nil_append, List.append_nil, List.singleton_append, List.cons_append] using g7
                  · simp only [hli, if_false] at hstep
                    have hli2 : 1 ≤ c.wt := by omega
                    simp (disch := first | omega | (simp only [List.length_cons, List.length_nil, List.length_map, List.length_drop]; omega)) only [hli, hli2, bagSl, iSl, bagR, List.length_map, wrap_i64, hc, hlt3, decide_true, decide_false, List.take_succ_cons, List.take_zero, List.getElem?_map, Option.map_some, ↓evPre, ↓evPreW, evPost, evPostW, ← List.map_take, ← List.map_drop, ↓reduceIte, reduceCtorEq, Nat.reduceEqDiff, forall_const, implies_true, Nat.reduceAdd, Nat.reduceSub, Nat.reduceMul, Nat.reduceLT, Nat.reduceLeDiff, Int.reduceToNat, Int.reduceAdd, Int.reduceSub, Int.reduceNeg, Int.reduceMul, Int.reduceLT, Int.reduceLE, Int.reduceEq]
                    refine (heavy_A l j c most _ hl hc hli2 hm).then ?_
                    by_cases hhv : most < tsum c.tic (l.take (j + 1))
                    · simp only [hhv, if_true] at hstep
                      simp (disch := first | omega | (simp only [List.length_cons, List.length_nil, List.length_map, List.length_drop]; omega)) only [hhv, bagSl, iSl, bagR, List.length_map, wrap_i64, hc, hlt3, decide_true, decide_false, List.take_succ_cons, List.take_zero, List.getElem?_map, Option.map_some, ↓evPre, ↓evPreW, evPost, evPostW, ← List.map_take, ← List.map_drop, ↓reduceIte, reduceCtorEq, Nat.reduceEqDiff, forall_const, implies_true, Nat.reduceAdd, Nat.reduceSub, Nat.reduceMul, Nat.reduceLT, Nat.reduceLeDiff, Int.reduceToNat, Int.reduceAdd, Int.reduceSub, Int.reduceNeg, Int.reduceMul, Int.reduceLT, Int.reduceLE, Int.reduceEq]
                      refine app_mid (f := ⟨32, bagAt j⟩) ho (by (try simp only [List.length_append, List.length_cons, List.length_nil]); omega) fun c8 T8 g8 => ?_
                      simp (disch := first | omega | (simp only [List.length_cons, List.length_nil, List.length_map, List.length_drop]; omega)) only [hhv, bagSl, iSl, bagR, List.length_map, wrap_i64, hc, hlt3, decide_true, decide_false, List.take_succ_cons, List.take_zero, List.getElem?_map, Option.map_some, ↓evPre, ↓evPreW, evPost, evPostW, ← List.map_take, ← List.map_drop, ↓reduceIte, reduceCtorEq, Nat.reduceEqDiff, forall_const, implies_true, Nat.reduceAdd, Nat.reduceSub, Nat.reduceMul, Nat.reduceLT, Nat.reduceLeDiff, Int.reduceToNat, Int.reduceAdd, Int.reduceSub, Int.reduceNeg, Int.reduceMul, Int.reduceLT, Int.reduceLE, Int.reduceEq]
                      refine fin _ _ ?_
                      rw [hstep]; simpa only [List.append_assoc, List.nil_append, List.append_nil, List.singleton_append, List.cons_append] using g8
                    · simp only [hhv, if_false] at hstep
                      simp (disch := first | omega | (simp only [List.length_cons, List.length_nil, List.length_map, List.length_drop]; omega)) only [hhv, bagSl, iSl, bagR, List.length_map, wrap_i64, hc, hlt3, decide_true, decide_false, List.take_succ_cons, List.take_zero, List.getElem?_map, Option.map_some, ↓evPre, ↓evPreW, evPost, evPostW, ← List.map_take, ← List.map_drop, ↓reduceIte, reduceCtorEq, Nat.reduceEqDiff, forall_const, implies_true, Nat.reduceAdd, Nat.reduceSub, Nat.reduceMul, Nat.reduceLT, Nat.reduceLeDiff, Int.reduceToNat, Int.reduceAdd, Int.reduceSub, Int.reduceNeg, Int.reduceMul, Int.reduceLT, Int.reduceLE, Int.reduceEq]
                      refine fin _ _ ?_
                      rw [hstep]; simpa only [List.append_assoc, List.nil_append, List.append_nil, List.singleton_append, List.cons_append] using ho
                | false =>
                  simp only [hkn, Bool.false_eq_true, ↓reduceIte] at hstep
                  simp (disch := first | omega | (simp only [List.length_cons, List.length_nil, List.length_map, List.length_drop]; omega)) only [bagSl, iSl, bagR, List.length_map, wrap_i64, hc, hlt3, decide_true, decide_false, List.take_succ_cons, List.take_zero, List.getElem?_map, Option.map_some, ↓evPre, ↓evPreW, evPost, evPostW, ← List.map_take, ← List.map_drop, ↓reduceIte, reduceCtorEq, Nat.reduceEqDiff, forall_const, implies_true, Nat.reduceAdd, Nat.reduceSub, Nat.reduceMul, Nat.reduceLT, Nat.reduceLeDiff, Int.reduceToNat, Int.reduceAdd, Int.reduceSub, Int.reduceNeg, Int.reduceMul, Int.reduceLT, Int.reduceLE, Int.reduceEq]
                  refine app_mid (f := ⟨34, bagAt j⟩) ho (by (try simp only [List.length_append, List.length_cons, List.length_nil]); omega) fun c9 T9 g9 => ?_
                  by_cases hli : c.wt < 1
                  · simp only [hli, if_true] at hstep
                    have hli2 : ¬ 1 ≤ c.wt := by omega
                    simp (disch := first | omega | (simp only [List.length_cons, List.length_nil, List.length_map, List.length_drop]; omega)) only [hli, hli2, bagSl, iSl, bagR, List.length_map, wrap_i64, hc, hlt3, decide_true, decide_false, List.take_succ_cons, List.take_zero, List.getElem?_map, Option.map_some, ↓evPre, ↓evPreW, evPost, evPostW, ← List.map_take, ← List.map_drop, ↓reduceIte, reduceCtorEq, Nat.reduceEqDiff, forall_const, implies_true, Nat.reduceAdd, Nat.reduceSub, Nat.reduceMul, Nat.reduceLT, Nat.reduceLeDiff, Int.reduceToNat, Int.reduceAdd, Int.reduceSub, Int.reduceNeg, Int.reduceMul, Int.reduceLT, Int.reduceLE, Int.reduceEq]
                    refine app_mid (f := ⟨2, bagAt j⟩) g9 (by (try simp only [List.length_append, List.length_cons, List.length_nil]); omega) fun c10 T10 g10 => ?_
                    simp (disch := first | omega | (simp only [List.length_cons, List.length_nil, List.length_map, List.length_drop]; omega)) only [hli, hli2, bagSl, iSl, bagR, List.length_map, wrap_i64, hc, hlt3, decide_true, decide_false, List.take_succ_cons, List.take_zero, List.getElem?_map, Option.map_some, ↓evPre, ↓evPreW, evPost, evPostW, ← List.map_take, ← List.map_drop, ↓reduceIte, reduceCtorEq, Nat.reduceEqDiff, forall_const, implies_true, Nat.reduceAdd, Nat.reduceSub, Nat.reduceMul, Nat.reduceLT, Nat.reduceLeDiff, Int.reduceToNat, Int.reduceAdd, Int.reduceSub, Int.reduceNeg, Int.reduceMul, Int.reduceLT, Int.reduceLE, Int.reduceEq]
                    refine fin _ _ ?_
                    rw [hstep]; simpa only [List.append_assoc, List.nil_append, List.append_nil, List.singleton_append, List.cons_append] using g10
                  · simp only [hli, if_false] at hstep
                    have hli2 : 1 ≤ c.wt := by omega
                    simp (disch := first | omega | (simp only [List.length_cons, List.length_nil, List.length_map, List.length_drop]; omega)) only [hli, hli2, bagSl, iSl, bagR, List.length_map, wrap_i64, hc, hlt3, decide_true, decide_false, List.take_succ_cons, List.take_zero, List.getElem?_map, Option.map_some, ↓evPre, ↓evPreW, evPost, evPostW, ← List.map_take, ← List.map_drop, ↓reduceIte, reduceCtorEq, Nat.reduceEqDiff, forall_const, implies_true, Nat.reduceAdd, Nat.reduceSub, Nat.reduceMul, Nat.reduceLT, Nat.reduceLeDiff, Int.reduceToNat, Int.reduceAdd, Int.reduceSub, Int.reduceNeg, Int.reduceMul, Int.reduceLT, Int.reduceLE, Int.reduceEq]
                    refine (heavy_A l j c most _ hl hc hli2 hm).then ?_
                    by_cases hhv : most < tsum c.tic (l.take (j + 1))
                    · simp only [hhv, if_true] at hstep
                      simp (disch := first | omega | (simp only [List.length_cons, List.length_nil, List.length_map, List.length_drop]; omega)) only [hhv, bagSl, iSl, bagR, List.length_map, wrap_i64, hc, hlt3, decide_true, decide_false, List.take_succ_cons, List.take_zero, List.getElem?_map, Option.map_some, ↓evPre, ↓evPreW, evPost, evPostW, ← List.map_take, ← List.map_drop, ↓reduceIte, reduceCtorEq, Nat.reduceEqDiff, forall_const, implies_true, Nat.reduceAdd, Nat.reduceSub, Nat.reduceMul, Nat.reduceLT, Nat.reduceLeDiff, Int.reduceToNat, Int.reduceAdd, Int.reduceSub, Int.reduceNeg, Int.reduceMul, Int.reduceLT, Int.reduceLE, Int.reduceEq]
                      refine app_mid (f := ⟨32, bagAt j⟩) g9 (by (try simp only [List.length_append, List.length_cons, List.length_nil]); omega) fun c11 T11 g11 => ?_
                      simp (disch := first | omega | (simp only [List.length_cons, List.length_nil, List.length_map, List.length_drop]; omega)) only [hhv, bagSl, iSl, bagR, List.length_map, wrap_i64, hc, hlt3, decide_true, decide_false, List.take_succ_cons, List.take_zero, List.getElem?_map, Option.map_some, ↓evPre, ↓evPreW, evPost, evPostW, ← List.map_take, ← List.map_drop, ↓reduceIte, reduceCtorEq, Nat.reduceEqDiff, forall_const, implies_true, Nat.reduceAdd, Nat.reduceSub, Nat.reduceMul, Nat.reduceLT, Nat.reduceLeDiff, Int.reduceToNat, Int.reduceAdd, Int.reduceSub, Int.reduceNeg, Int.reduceMul, Int.reduceLT, Int.reduceLE, Int.reduceEq]
                      refine fin _ _ ?_
                      rw [hstep]; simpa only [List.append_assoc, List.nil_append, List.append_nil, List.singleton_append, List.cons_append] using g11
                    · simp only [hhv, if_false] at hstep
                      simp (disch := first | omega | (simp only [List.length_cons, List.length_nil, List.length_map, List.length_drop]; omega)) only [hhv, bagSl, iSl, bagR, List.length_map, wrap_i64, hc, hlt3, decide_true, decide_false, List.take_succ_cons, List.take_zero, List.getElem?_map, Option.map_some, ↓evPre, ↓evPreW, evPost, evPostW, ← List.map_take, ← List.map_drop, ↓reduceIte, reduceCtorEq, Nat.reduceEqDiff, forall_const, implies_true, Nat.reduceAdd, Nat.reduceSub, Nat.reduceMul, Nat.reduceLT, Nat.reduceLeDiff, Int.reduceToNat, Int.reduceAdd, Int.reduceSub, Int.reduceNeg, Int.reduceMul, Int.reduceLT, Int.reduceLE, Int.reduceEq]
                      refine fin _ _ ?_
                      rw [hstep]; simpa only [List.append_assoc, List.nil_append, List.append_nil, List.singleton_append, List.cons_append] using g9
end Go.Proofs.YteeenlgoildmiabDoor
