/- Holds: the small functions. -/
import Derived.Test.YthdcajfjglgiiaaHold1
import Derived.Test.YthdcajfjglgiiaaMir1
namespace Go.Proofs.Ythdcajfjglgiiaa
open Go Go.AL
set_option linter.unusedSectionVars false
variable [Go.AL.Mode] [Go.AL.LooseM]
set_option linter.unusedSimpArgs false
set_option linter.unusedVariables false

theorem drop_at {α : Type} {l : List α} {k : Nat} {x : α} (h : l[k]? = some x) : l.drop k = x :: l.drop (k + 1) := by
  obtain ⟨hlt, rfl⟩ := List.getElem?_eq_some_iff.1 h
  exact List.drop_eq_getElem_cons hlt
theorem take_at {α : Type} {l : List α} {k : Nat} {x : α} (h : l[k]? = some x) : l.take (k + 1) = l.take k ++ [x] := by
  obtain ⟨hlt, rfl⟩ := List.getElem?_eq_some_iff.1 h
  rw [List.take_add_one, h]; rfl
theorem eqd_lg (x y : Lg) : (decide (x.c = y.c) && (decide (x.n = y.n) && (decide (x.d = y.d) && decide (x.f = y.f)))) = decide (x = y) := by
  obtain ⟨a, b, c, d⟩ := x
  obtain ⟨a', b', c', d'⟩ := y
  simp

/-! ### minute, time -/
def minF (n : Int) : Bool := decide (0 ≤ n ∧ n < 52596000)
theorem minute_A (n : Int) (S : Store) : CallA Try.prog 27 [.int .i64 n] S fun r S' => r = .bool (minF n) ∧ S' = S := by
  refine CallA.keep Try.func27 c327 (Nat.le_of_ble_eq_true rfl) fun σ hσ => ?_
  by_cases h1 : 0 ≤ n
  · by_cases h2 : n < 52596000 <;> simp only [a327, minF, h1, h2, and_self, and_true, and_false, decide_true, decide_false, ↓evPre, ↓evPreW, evPost, evPostW, ← List.map_take, ← List.map_drop, ↓reduceIte, reduceCtorEq, Nat.reduceEqDiff, forall_const, implies_true, Nat.reduceAdd, Nat.reduceSub, Nat.reduceMul, Nat.reduceLT, Nat.reduceLeDiff, Int.reduceToNat, Int.reduceAdd, Int.reduceSub, Int.reduceNeg, Int.reduceMul, Int.reduceLT, Int.reduceLE, Int.reduceEq]
  · simp only [a327, minF, h1, false_and, decide_true, decide_false, ↓evPre, ↓evPreW, evPost, evPostW, ← List.map_take, ← List.map_drop, ↓reduceIte, reduceCtorEq, Nat.reduceEqDiff, forall_const, implies_true, Nat.reduceAdd, Nat.reduceSub, Nat.reduceMul, Nat.reduceLT, Nat.reduceLeDiff, Int.reduceToNat, Int.reduceAdd, Int.reduceSub, Int.reduceNeg, Int.reduceMul, Int.reduceLT, Int.reduceLE, Int.reduceEq]
theorem time_A (n : Int) (S : Store) : CallA Try.prog 36 [.int .i64 n] S fun r S' => r = .bool (minF n) ∧ S' = S := by
  refine CallA.keep Try.func36 c336 (Nat.le_of_ble_eq_true rfl) fun σ hσ => ?_
  by_cases h1 : 0 ≤ n
  · by_cases h2 : n < 52596000 <;> simp only [a336, minF, h1, h2, and_self, and_true, and_false, decide_true, decide_false, ↓evPre, ↓evPreW, evPost, evPostW, ← List.map_take, ← List.map_drop, ↓reduceIte, reduceCtorEq, Nat.reduceEqDiff, forall_const, implies_true, Nat.reduceAdd, Nat.reduceSub, Nat.reduceMul, Nat.reduceLT, Nat.reduceLeDiff, Int.reduceToNat, Int.reduceAdd, Int.reduceSub, Int.reduceNeg, Int.reduceMul, Int.reduceLT, Int.reduceLE, Int.reduceEq]
  · simp only [a336, minF, h1, false_and, decide_true, decide_false, ↓evPre, ↓evPreW, evPost, evPostW, ← List.map_take, ← List.map_drop, ↓reduceIte, reduceCtorEq, Nat.reduceEqDiff, forall_const, implies_true, Nat.reduceAdd, Nat.reduceSub, Nat.reduceMul, Nat.reduceLT, Nat.reduceLeDiff, Int.reduceToNat, Int.reduceAdd, Int.reduceSub, Int.reduceNeg, Int.reduceMul, Int.reduceLT, Int.reduceLE, Int.reduceEq]

/-! ### Legs that are distinct -/
def kdL : KD := .st [.str, .int .i64, .int .i64, .str]
def cntE (p : Lg × Nat) : V × V := (.agg (lgR p.1), .int .i64 p.2)
def bumpL (x : Lg) : List (Lg × Nat) → List (Lg × Nat)
  | [] => [(x, 1)]
  | p :: r => if x = p.1 then (x, p.2 + 1) :: r else p :: bumpL x r
def findC (x : Lg) : List (Lg × Nat) → Option Nat
  | [] => none
  | p :: r => if x = p.1 then some p.2 else findC x r
theorem eqKV_lg (x y : Lg) : eqKV (.agg (lgR x)) (.agg (lgR y)) = decide (x = y) := by
  obtain ⟨a, b, c, d⟩ := x
  obtain ⟨a', b', c', d'⟩ := y
  simp [eqKV, eqKL, eqK1, lgR]
theorem findV_cnt (x : Lg) : ∀ C : List (Lg × Nat), findV (.agg (lgR x)) (C.map cntE) = (findC x C).map fun n => .int .i64 (n : Nat)
  | [] => rfl
  | p :: C => by
    rw [List.map_cons, findV, findC]
    show (if eqKV (.agg (lgR x)) (.agg (lgR p.1)) = true then _ else _) = _
    rw [eqKV_lg]
    by_cases h : x = p.1
    · simp [h, cntE]
    · simp only [h, decide_false, Bool.false_eq_true, if_false, findV_cnt x C]
theorem putV_cnt (x : Lg) : ∀ C : List (Lg × Nat), putV (.agg (lgR x)) (.int .i64 (((findC x C).getD 0 + 1 : Nat) : Int)) (C.map cntE) = (bumpL x C).map cntE
  | [] => rfl
  | p :: C => by
    rw [List.map_cons, putV, bumpL, findC]
    show (if eqKV (.agg (lgR x)) (.agg (lgR p.1)) = true then _ else _) = _
    rw [eqKV_lg]
    by_cases h : x = p.1
    · simp [h, cntE]
    · simp only [h, decide_false, Bool.false_eq_true, if_false, putV_cnt x C, List.map_cons]
def seenF (l : List Lg) : List (Lg × Nat) := l.foldl (fun C x => bumpL x C) []
theorem seenF_snoc (l : List Lg) (x : Lg) : seenF (l ++ [x]) = bumpL x (seenF l) := by unfold seenF; rw [List.foldl_append]; rfl
theorem bump_keys (x : Lg) : ∀ C : List (Lg × Nat), (bumpL x C).map (·.1) = if x ∈ C.map (·.1) then C.map (·.1) else C.map (·.1) ++ [x]
  | [] => rfl
  | p :: C => by
    rw [bumpL]
    by_cases h : x = p.1
    · simp [h]
    · rw [if_neg h, List.map_cons, bump_keys x C]
      simp only [List.map_cons, List.mem_cons, h, false_or]
      split <;> rfl
theorem seen_keys (l : List Lg) : ((seenF l).map (·.1)).length ≤ l.length ∧ (((seenF l).map (·.1)).length = l.length ↔ l.Nodup) ∧ ∀ x, x ∈ (seenF l).map (·.1) ↔ x ∈ l := by
  generalize hn : l.length = n
  induction n generalizing l with
  | zero => rw [List.length_eq_zero_iff.1 hn]; exact ⟨Nat.le_refl _, by simp [seenF], by simp [seenF]⟩
  | succ n ih =>
    have hne : l ≠ [] := fun h => by rw [h] at hn; cases hn
    obtain ⟨l', x, rfl⟩ : ∃ l' x, l = l' ++ [x] := ⟨l.dropLast, l.getLast hne, (List.dropLast_concat_getLast hne).symm⟩
    obtain ⟨h1, h2, h3⟩ := ih l' (by simpa using hn)
    have hl : l'.length = n := by simpa using hn
    rw [seenF_snoc, bump_keys]
    rw [List.nodup_append]
    by_cases hx : x ∈ (seenF l').map (·.1)
    · rw [if_pos hx]
      refine ⟨by omega, ⟨fun h => by omega, fun h => absurd rfl (h.2.2 x ((h3 x).1 hx) x (by simp))⟩, fun y => ?_⟩
      rw [h3]
      simp only [List.mem_append, List.mem_singleton]
      exact ⟨.inl, fun h => h.elim id fun e => by rw [e]; exact (h3 x).1 hx⟩
    · rw [if_neg hx]
      have hx' : ¬ x ∈ l' := fun h => hx ((h3 x).2 h)
      refine ⟨by simp; simpa using h1, ?_, fun y => ?_⟩
      · simp only [List.length_append, List.length_singleton, Nat.add_right_cancel_iff]
        rw [h2]
        refine ⟨fun h => ⟨h, by simp, fun a ha b hb => ?_⟩, fun h => h.1⟩
        simp only [List.mem_singleton] at hb
        subst hb
        exact fun e => hx' (e ▸ ha)
      · simp only [List.mem_append, List.mem_singleton, h3]
theorem findC_le (x : Lg) : ∀ {C : List (Lg × Nat)} {n : Nat}, (∀ p ∈ C, p.2 ≤ n) → (findC x C).getD 0 ≤ n
  | [], n, _ => Nat.zero_le _
  | p :: C, n, h => by
    rw [findC]
    split
    · exact h p (List.mem_cons_self ..)
    · exact findC_le x fun q hq => h q (List.mem_cons_of_mem _ hq)
theorem bump_le (x : Lg) : ∀ {C : List (Lg × Nat)} {n : Nat}, (∀ p ∈ C, p.2 ≤ n) → ∀ p ∈ bumpL x C, p.2 ≤ n + 1
  | [], n, _, p, hp => by simp only [bumpL, List.mem_singleton] at hp; subst hp; simp
  | q :: C, n, h, p, hp => by
    rw [bumpL] at hp
    have hq := h q (List.mem_cons_self ..)
    split at hp
    · rcases List.mem_cons.1 hp with rfl | hp
      · simp only; omega
      · have := h p (List.mem_cons_of_mem _ hp); omega
    · rcases List.mem_cons.1 hp with rfl | hp
      · omega
      · exact bump_le x (fun r hr => h r (List.mem_cons_of_mem _ hr)) p hp
theorem seen_le (l : List Lg) : ∀ p ∈ seenF l, p.2 ≤ l.length := by
  generalize hn : l.length = n
  induction n generalizing l with
  | zero => rw [List.length_eq_zero_iff.1 hn]; intro p hp; cases hp
  | succ n ih =>
    have hne : l ≠ [] := fun h => by rw [h] at hn; cases hn
    obtain ⟨l', x, rfl⟩ : ∃ l' x, l = l' ++ [x] := ⟨l.dropLast, l.getLast hne, (List.dropLast_concat_getLast hne).symm⟩
    rw [seenF_snoc]
    exact bump_le x (ih l' (by simpa using hn))
theorem getD_int (o : Option Nat) : (o.map fun n => V.int .i64 (n : Nat)).getD (.int .i64 0) = .int .i64 ((o.getD 0 : Nat) : Int) := by cases o <;> rfl
theorem okCnt (C : List (Lg × Nat)) : mOk (.st [.str, .int .i64, .int .i64, .str]) (C.map cntE) := fun p hp => by
  obtain ⟨r, _, rfl⟩ := List.mem_map.1 hp
  exact ⟨rfl, rfl, rfl⟩

theorem distinct_A (l : List Lg) (hl : l.length ≤ 1000000) (S : Store) : CallA Try.prog 26 [.sl 4 (l.map lgR)] S fun r S' => r = .bool (decide l.Nodup) ∧ S' = S := by
  refine CallA.withNeat Try.func26 c326 fun hn => ?_
  refine CallA.fin Try.func26 c326 (Nat.le_of_ble_eq_true rfl) fun σ hσ => ?_
  have fin : ∀ (T : Store) (b : Bool), b = decide l.Nodup → ∃ r1 S1, Fgt (S ++ T) S1 ∧ Frz (S ++ T) S1 (.bool b) r1 ∧ S.length ≤ S1.length ∧ r1 = .bool (decide l.Nodup) ∧ S1 = S :=
    fun T b hb => ⟨_, S, hn.fgt T, .imm rfl, Nat.le_refl _, by rw [hb], rfl⟩
  simp (disch := first | omega | (simp only [List.length_cons, List.length_nil, List.length_map, List.length_drop]; omega)) only [a326, List.length_map, evSt, ↓evPre, ↓evPreW, evPost, evPostW, ← List.map_take, ← List.map_drop, ↓reduceIte, reduceCtorEq, Nat.reduceEqDiff, forall_const, implies_true, Nat.reduceAdd, Nat.reduceSub, Nat.reduceMul, Nat.reduceLT, Nat.reduceLeDiff, Int.reduceToNat, Int.reduceAdd, Int.reduceSub, Int.reduceNeg, Int.reduceMul, Int.reduceLT, Int.reduceLE, Int.reduceEq]
  refine loopF (ι := Nat) (fun k => [(0, .sl 4 (l.map lgR)), (3, .mapv S.length 0), (9, .sl 4 (l.map lgR)), (10, .int .i64 l.length), (11, .int .i64 (k : Nat))]) (fun k => S ++ [mapO (.st [.str, .int .i64, .int .i64, .str]) ((seenF (l.take k)).map cntE) .free])
    (fun k => k ≤ l.length) (fun k => l.length - k) (fun k _ => by rw [hσ]; simp) 0 (Nat.zero_le _) (.inl ⟨?_, ?_⟩) ?_
  · simp only [↓evPre, ↓evPreW, evPost, evPostW, ← List.map_take, ← List.map_drop, ↓reduceIte, reduceCtorEq, Nat.reduceEqDiff, forall_const, implies_true, Nat.reduceAdd, Nat.reduceSub, Nat.reduceMul, Nat.reduceLT, Nat.reduceLeDiff, Int.reduceToNat, Int.reduceAdd, Int.reduceSub, Int.reduceNeg, Int.reduceMul, Int.reduceLT, Int.reduceLE, Int.reduceEq]
  · rfl
  rintro k hk
  unfold mapO
  cases hc : l[k]? with
  | none =>
    have hge : l.length ≤ k := List.getElem?_eq_none_iff.1 hc
    have hlt : ¬ ((k : Int) < l.length) := by omega
    have ht : l.take k = l := List.take_of_length_le hge
    simp (disch := first | omega | (simp only [List.length_cons, List.length_nil, List.length_map, List.length_drop]; omega)) only [dF hlt, ht, List.length_map, evSt, ↓evPre, ↓evPreW, evPost, evPostW, ← List.map_take, ← List.map_drop, ↓reduceIte, reduceCtorEq, Nat.reduceEqDiff, forall_const, implies_true, Nat.reduceAdd, Nat.reduceSub, Nat.reduceMul, Nat.reduceLT, Nat.reduceLeDiff, Int.reduceToNat, Int.reduceAdd, Int.reduceSub, Int.reduceNeg, Int.reduceMul, Int.reduceLT, Int.reduceLE, Int.reduceEq]
    refine fin _ _ ?_
    obtain ⟨h1, h2, _⟩ := seen_keys l
    rw [List.length_map] at h2
    apply decide_eq_decide.2
    rw [← h2]
    omega
  | some x =>
    have hlt' := (List.getElem?_eq_some_iff.1 hc).1
    have hlt : (k : Int) < l.length := by omega
    have hle := findC_le x (seen_le (l.take k))
    rw [List.length_take] at hle
    have hf := findV_cnt x (seenF (l.take k))
    have hp := putV_cnt x (seenF (l.take k))
    have hkk : eqKV (.agg (lgR x)) (.agg (lgR x)) = true := by rw [eqKV_lg]; simp
    have h2 : ∀ v, findV (.agg (lgR x)) (putV (.agg (lgR x)) v ((seenF (l.take k)).map cntE)) = some v := fun v => by
      have := find_put (K := fun x : Lg => V.agg (lgR x)) eqKV_lg (a := x) (b := x) (v := v) (rows := (seenF (l.take k)).map cntE) fun p hp => by
        obtain ⟨q, _, rfl⟩ := List.mem_map.1 hp
        exact ⟨⟨q.1, rfl⟩, rfl, rfl⟩
      rw [this, if_pos rfl]
    have hcast : ((((findC x (seenF (l.take k))).getD 0 : Nat) : Int) + 1) = (((findC x (seenF (l.take k))).getD 0 + 1 : Nat) : Int) := by omega
    have hnx : (bumpL x (seenF (l.take k))).map cntE = (seenF (l.take (k + 1))).map cntE := by rw [take_at hc, seenF_snoc]
    generalize hm : (findC x (seenF (l.take k))).getD 0 = m at *
    simp only [lgR] at hf hp hkk h2
    simp (disch := first | omega | (simp only [List.length_cons, List.length_nil, List.length_map, List.length_drop]; omega)) only [dT hlt, List.length_map, List.getElem?_map, Option.map_some, hc, lgR, hf, evSt, ↓evPre, ↓evPreW, evPost, evPostW, ← List.map_take, ← List.map_drop, ↓reduceIte, reduceCtorEq, Nat.reduceEqDiff, forall_const, implies_true, Nat.reduceAdd, Nat.reduceSub, Nat.reduceMul, Nat.reduceLT, Nat.reduceLeDiff, Int.reduceToNat, Int.reduceAdd, Int.reduceSub, Int.reduceNeg, Int.reduceMul, Int.reduceLT, Int.reduceLE, Int.reduceEq]
    have h3 : ∀ (j n : Nat) (v : V), lkO (.st [.str, .int .i64, .int .i64, .str]) (.int .i64 0) false (.agg [.str x.c, .int .i64 x.n, .int .i64 x.d, .str x.f]) (some (.st [.str, .int .i64, .int .i64, .str], putV (.agg [.str x.c, .int .i64 x.n, .int .i64 x.d, .str x.f]) v ((seenF (l.take k)).map cntE), .opened j n)) = some v := fun j n v => by
      simp [lkO, lkRes, h2, MX.isIt, isKV, isKL, isK1]
    have fin2 : ∀ (E : Env) (o : AL.Obj), sub [(0, .sl 4 (l.map lgR)), (3, .mapv S.length 0), (9, .sl 4 (l.map lgR)), (10, .int .i64 l.length), (11, .int .i64 ((k + 1 : Nat) : Int))] E →
        ∃ i', i' ≤ l.length ∧ l.length - i' < l.length - k ∧ Back [(0, .sl 4 (l.map lgR)), (3, .mapv S.length 0), (9, .sl 4 (l.map lgR)), (10, .int .i64 l.length), (11, .int .i64 (i' : Nat))]
          (S ++ [⟨0, some (.mp ⟨.st [.str, .int .i64, .int .i64, .str], (seenF (l.take i')).map cntE, .free⟩)⟩]) E (S ++ [⟨0, some (.mp ⟨.st [.str, .int .i64, .int .i64, .str], (seenF (l.take (k + 1))).map cntE, .free⟩)⟩, o]) := fun E o hE => by
      refine ⟨k + 1, by omega, by omega, back_under (hn.fgtL (L := [⟨0, some (.mp ⟨.st [.str, .int .i64, .int .i64, .str], (seenF (l.take (k + 1))).map cntE, .free⟩)⟩, o]) (L1 := [⟨0, some (.mp ⟨.st [.str, .int .i64, .int .i64, .str], (seenF (l.take (k + 1))).map cntE, .free⟩)⟩]) ⟨rfl, (okCnt _).objF rfl, fgtL_nil⟩) hE ?_⟩
      simp [V.under]
    have hk1 : (k : Int) + 1 = ((k + 1 : Nat) : Int) := by omega
    refine ⟨?_, ?_⟩
    · simp (disch := first | omega | (simp only [List.length_cons, List.length_nil, List.length_map, List.length_drop]; omega)) only [getD_int, hm, wrap_i64, hcast, evSt, ↓evPre, ↓evPreW, evPost, evPostW, ← List.map_take, ← List.map_drop, ↓reduceIte, reduceCtorEq, Nat.reduceEqDiff, forall_const, implies_true, Nat.reduceAdd, Nat.reduceSub, Nat.reduceMul, Nat.reduceLT, Nat.reduceLeDiff, Int.reduceToNat, Int.reduceAdd, Int.reduceSub, Int.reduceNeg, Int.reduceMul, Int.reduceLT, Int.reduceLE, Int.reduceEq]
      refine ent_opens rfl hkk fun j n hmod => ?_
      simp (disch := first | omega | (simp only [List.length_cons, List.length_nil, List.length_map, List.length_drop]; omega)) only [getD_int, hm, hf] at hmod
      simp (disch := first | omega | (simp only [List.length_cons, List.length_nil, List.length_map, List.length_drop]; omega)) only [getD_int, hm, hf, hmod, hp, hnx, wrap_i64, hk1, evSt, ↓evPre, ↓evPreW, evPost, evPostW, ← List.map_take, ← List.map_drop, ↓reduceIte, reduceCtorEq, Nat.reduceEqDiff, forall_const, implies_true, Nat.reduceAdd, Nat.reduceSub, Nat.reduceMul, Nat.reduceLT, Nat.reduceLeDiff, Int.reduceToNat, Int.reduceAdd, Int.reduceSub, Int.reduceNeg, Int.reduceMul, Int.reduceLT, Int.reduceLE, Int.reduceEq]
      exact fin2 _ _ (by simp only [↓evPre, ↓evPreW, evPost, evPostW, ← List.map_take, ← List.map_drop, ↓reduceIte, reduceCtorEq, Nat.reduceEqDiff, forall_const, implies_true, Nat.reduceAdd, Nat.reduceSub, Nat.reduceMul, Nat.reduceLT, Nat.reduceLeDiff, Int.reduceToNat, Int.reduceAdd, Int.reduceSub, Int.reduceNeg, Int.reduceMul, Int.reduceLT, Int.reduceLE, Int.reduceEq])
    · refine ent_opens rfl hkk fun j n hmod => ?_
      simp (disch := first | omega | (simp only [List.length_cons, List.length_nil, List.length_map, List.length_drop]; omega)) only [getD_int, hm, hf] at hmod
      simp (disch := first | omega | (simp only [List.length_cons, List.length_nil, List.length_map, List.length_drop]; omega)) only [getD_int, hm, hf, h3, wrap_i64, hcast, hmod, hp, hnx, hk1, evSt, ↓evPre, ↓evPreW, evPost, evPostW, ← List.map_take, ← List.map_drop, ↓reduceIte, reduceCtorEq, Nat.reduceEqDiff, forall_const, implies_true, Nat.reduceAdd, Nat.reduceSub, Nat.reduceMul, Nat.reduceLT, Nat.reduceLeDiff, Int.reduceToNat, Int.reduceAdd, Int.reduceSub, Int.reduceNeg, Int.reduceMul, Int.reduceLT, Int.reduceLE, Int.reduceEq]
      exact fin2 _ _ (by simp only [↓evPre, ↓evPreW, evPost, evPostW, ← List.map_take, ← List.map_drop, ↓reduceIte, reduceCtorEq, Nat.reduceEqDiff, forall_const, implies_true, Nat.reduceAdd, Nat.reduceSub, Nat.reduceMul, Nat.reduceLT, Nat.reduceLeDiff, Int.reduceToNat, Int.reduceAdd, Int.reduceSub, Int.reduceNeg, Int.reduceMul, Int.reduceLT, Int.reduceLE, Int.reduceEq])
end Go.Proofs.Ythdcajfjglgiiaa
