/- places: the shortest way. -/
import Derived.Test.YtbbjjnhcbfdhlaaMil7
namespace Go.Proofs.Ytbbjjnhcbfdhlaa
open Go Go.AL
set_option linter.unusedSimpArgs false
set_option linter.unusedVariables false

def MapL (l : Spots) (rows : List (V × V)) : Prop := KeysK V.str rows ∧ ∀ c, findV (.str c) rows = (look l c).map (V.int .i64)
theorem MapL.put {l : Spots} {rows : List (V × V)} {c : Txt} {m : Int} (h : MapL l rows) : MapL (putL l c m) (putV (.str c) (.int .i64 m) rows) := by
  refine ⟨h.1.put rfl rfl, fun b => ?_⟩
  rw [find_put (K := V.str) (fun a b => eqKV_str) h.1, look_put]
  by_cases e : b = c
  · rw [if_pos e, if_pos e.symm]; rfl
  · rw [if_neg e, if_neg (fun h => e h.symm)]; exact h.2 b

theorem relax_A (l : Spots) (x y : Txt) (n : Int) (S T : Store) (rows : List (V × V)) (hm : MapL l rows) (hb : ∀ p ∈ l, 0 ≤ p.2 ∧ p.2 ≤ 1000000000) (hn : 1 ≤ n ∧ n ≤ 20000) :
    CallA Try.prog 28 [.str x, .str y, .int .i64 n, .ptr (S.length + 1) 0 0 0] (S ++ ⟨0, some (.mp ⟨.one .str, rows⟩)⟩ :: ⟨0, some (.arr 54 1 [[.mapv S.length 0]])⟩ :: T) fun r S' => r = .bool (relaxF l x y n).2 ∧ ∃ rows', MapL (relaxF l x y n).1 rows' ∧ S' = S ++ ⟨0, some (.mp ⟨.one .str, rows'⟩)⟩ :: ⟨0, some (.arr 54 1 [[.mapv S.length 0]])⟩ :: T := by
  refine CallA.keep Try.func28 c28 (Nat.le_of_ble_eq_true rfl) fun σ hσ => ?_
  have fx := hm.2 x
  have fy := hm.2 y
  cases hx : look l x with
  | none =>
    rw [hx, Option.map_none] at fx
    cases hy : look l y with
    | none =>
      rw [hy, Option.map_none] at fy
      have e : relaxF l x y n = (l, false) := by simp only [relaxF, hx]
      simp (disch := first | omega | (simp only [List.length_cons, List.length_nil, List.length_map, List.length_drop]; omega)) only [a28, fx, fy, e, Option.getD_none, Option.isSome_none, evSt, ↓evPre, ↓evPreW, evPost, evPostW, ← List.map_take, ← List.map_drop, ↓reduceIte, reduceCtorEq, Nat.reduceEqDiff, forall_const, implies_true, Nat.reduceAdd, Nat.reduceSub, Nat.reduceMul, Nat.reduceLT, Nat.reduceLeDiff, Int.reduceToNat, Int.reduceAdd, Int.reduceSub, Int.reduceNeg, Int.reduceMul, Int.reduceLT, Int.reduceLE, Int.reduceEq]
      exact ⟨rows, hm, rfl⟩
    | some v =>
      rw [hy, Option.map_some] at fy
      have e : relaxF l x y n = (l, false) := by simp only [relaxF, hx]
      simp (disch := first | omega | (simp only [List.length_cons, List.length_nil, List.length_map, List.length_drop]; omega)) only [a28, fx, fy, e, Option.getD_none, Option.isSome_none, Option.getD_some, Option.isSome_some, evSt, ↓evPre, ↓evPreW, evPost, evPostW, ← List.map_take, ← List.map_drop, ↓reduceIte, reduceCtorEq, Nat.reduceEqDiff, forall_const, implies_true, Nat.reduceAdd, Nat.reduceSub, Nat.reduceMul, Nat.reduceLT, Nat.reduceLeDiff, Int.reduceToNat, Int.reduceAdd, Int.reduceSub, Int.reduceNeg, Int.reduceMul, Int.reduceLT, Int.reduceLE, Int.reduceEq]
      exact ⟨rows, hm, rfl⟩
  | some m =>
    rw [hx, Option.map_some] at fx
    have h1 := hb _ (look_mem hx)
    simp only at h1
    cases hy : look l y with
    | none =>
      rw [hy, Option.map_none] at fy
      have e : relaxF l x y n = (putL l y (m + n), true) := by simp only [relaxF, hx, reachF, hy]
      simp (disch := first | omega | (simp only [List.length_cons, List.length_nil, List.length_map, List.length_drop]; omega)) only [a28, fx, fy, e, wrap_i64, Option.getD_none, Option.isSome_none, Option.getD_some, Option.isSome_some, evSt, ↓evPre, ↓evPreW, evPost, evPostW, ← List.map_take, ← List.map_drop, ↓reduceIte, reduceCtorEq, Nat.reduceEqDiff, forall_const, implies_true, Nat.reduceAdd, Nat.reduceSub, Nat.reduceMul, Nat.reduceLT, Nat.reduceLeDiff, Int.reduceToNat, Int.reduceAdd, Int.reduceSub, Int.reduceNeg, Int.reduceMul, Int.reduceLT, Int.reduceLE, Int.reduceEq]
      exact ⟨_, hm.put, rfl⟩
    | some v =>
      rw [hy, Option.map_some] at fy
      by_cases h : v ≤ m + n
      · have e : relaxF l x y n = (l, false) := by simp only [relaxF, hx, reachF, hy, h, if_true]
        simp (disch := first | omega | (simp only [List.length_cons, List.length_nil, List.length_map, List.length_drop]; omega)) only [a28, fx, fy, e, h, wrap_i64, decide_true, Option.getD_none, Option.isSome_none, Option.getD_some, Option.isSome_some, evSt, ↓evPre, ↓evPreW, evPost, evPostW, ← List.map_take, ← List.map_drop, ↓reduceIte, reduceCtorEq, Nat.reduceEqDiff, forall_const, implies_true, Nat.reduceAdd, Nat.reduceSub, Nat.reduceMul, Nat.reduceLT, Nat.reduceLeDiff, Int.reduceToNat, Int.reduceAdd, Int.reduceSub, Int.reduceNeg, Int.reduceMul, Int.reduceLT, Int.reduceLE, Int.reduceEq]
        exact ⟨rows, hm, rfl⟩
      · have e : relaxF l x y n = (putL l y (m + n), true) := by simp only [relaxF, hx, reachF, hy, h, if_false]
        simp (disch := first | omega | (simp only [List.length_cons, List.length_nil, List.length_map, List.length_drop]; omega)) only [a28, fx, fy, e, h, wrap_i64, decide_false, Option.getD_none, Option.isSome_none, Option.getD_some, Option.isSome_some, evSt, ↓evPre, ↓evPreW, evPost, evPostW, ← List.map_take, ← List.map_drop, ↓reduceIte, reduceCtorEq, Nat.reduceEqDiff, forall_const, implies_true, Nat.reduceAdd, Nat.reduceSub, Nat.reduceMul, Nat.reduceLT, Nat.reduceLeDiff, Int.reduceToNat, Int.reduceAdd, Int.reduceSub, Int.reduceNeg, Int.reduceMul, Int.reduceLT, Int.reduceLE, Int.reduceEq]
        exact ⟨_, hm.put, rfl⟩

theorem miles_A (p : List Apt × List Dst) (a b : Txt) (S : Store) (hl : p.1.length ≤ 1048576) (hd : p.2.length ≤ 1000) :
    CallA Try.prog 19 [plV p, .str a, .str b] S fun r S' => r = .tup [.int .i64 (milesF p a b).1, .int .i64 (milesF p a b).2] ∧ S' = S := by
  refine CallA.withNeat Try.func19 c19 fun hn => ?_
  refine CallA.fin Try.func19 c19 (Nat.le_of_ble_eq_true rfl) fun σ hσ => ?_
  simp (disch := first | omega | (simp only [List.length_cons, List.length_nil, List.length_map, List.length_drop]; omega)) only [a19, plV, aSl, dSl, List.take_succ_cons, List.take_zero, evSt, ↓evPre, ↓evPreW, evPost, evPostW, ← List.map_take, ← List.map_drop, ↓reduceIte, reduceCtorEq, Nat.reduceEqDiff, forall_const, implies_true, Nat.reduceAdd, Nat.reduceSub, Nat.reduceMul, Nat.reduceLT, Nat.reduceLeDiff, Int.reduceToNat, Int.reduceAdd, Int.reduceSub, Int.reduceNeg, Int.reduceMul, Int.reduceLT, Int.reduceLE, Int.reduceEq]
  refine exD.intro (city_A p a S hl) ?_
  simp (disch := first | omega | (simp only [List.length_cons, List.length_nil, List.length_map, List.length_drop]; omega)) only [aSl, dSl, List.take_succ_cons, List.take_zero, evSt, ↓evPre, ↓evPreW, evPost, evPostW, ← List.map_take, ← List.map_drop, ↓reduceIte, reduceCtorEq, Nat.reduceEqDiff, forall_const, implies_true, Nat.reduceAdd, Nat.reduceSub, Nat.reduceMul, Nat.reduceLT, Nat.reduceLeDiff, Int.reduceToNat, Int.reduceAdd, Int.reduceSub, Int.reduceNeg, Int.reduceMul, Int.reduceLT, Int.reduceLE, Int.reduceEq]
  refine (city_A p b S hl).then ?_
  unfold milesF
  generalize cityF p.1 a = f
  generalize cityF p.1 b = t
  by_cases hf : f = []
  · subst hf
    simp (disch := first | omega | (simp only [List.length_cons, List.length_nil, List.length_map, List.length_drop]; omega)) only [eq_self, true_or, if_true, decide_true, ↓evPre, ↓evPreW, evPost, evPostW, ← List.map_take, ← List.map_drop, ↓reduceIte, reduceCtorEq, Nat.reduceEqDiff, forall_const, implies_true, Nat.reduceAdd, Nat.reduceSub, Nat.reduceMul, Nat.reduceLT, Nat.reduceLeDiff, Int.reduceToNat, Int.reduceAdd, Int.reduceSub, Int.reduceNeg, Int.reduceMul, Int.reduceLT, Int.reduceLE, Int.reduceEq]
    exact ⟨_, S, hn.self, .imm rfl, Nat.le_refl _, rfl, rfl⟩
  by_cases ht : t = []
  · subst ht
    simp (disch := first | omega | (simp only [List.length_cons, List.length_nil, List.length_map, List.length_drop]; omega)) only [hf, eq_self, or_true, if_true, decide_true, decide_false, ↓evPre, ↓evPreW, evPost, evPostW, ← List.map_take, ← List.map_drop, ↓reduceIte, reduceCtorEq, Nat.reduceEqDiff, forall_const, implies_true, Nat.reduceAdd, Nat.reduceSub, Nat.reduceMul, Nat.reduceLT, Nat.reduceLeDiff, Int.reduceToNat, Int.reduceAdd, Int.reduceSub, Int.reduceNeg, Int.reduceMul, Int.reduceLT, Int.reduceLE, Int.reduceEq]
    exact ⟨_, S, hn.self, .imm rfl, Nat.le_refl _, rfl, rfl⟩
  have hnl := names_len p.2 f
  have hnm := names_mem (ds := p.2) (f := f)
  generalize hN : namesF p.2 f = N at hnl hnm
  simp (disch := first | omega | (simp only [List.length_cons, List.length_nil, List.length_map, List.length_drop]; omega)) only [hf, ht, or_self, if_false, decide_false, putV, cells_mapv, ok_mapv, List.take_succ_cons, List.take_zero, evSt, ↓evPre, ↓evPreW, evPost, evPostW, ← List.map_take, ← List.map_drop, ↓reduceIte, reduceCtorEq, Nat.reduceEqDiff, forall_const, implies_true, Nat.reduceAdd, Nat.reduceSub, Nat.reduceMul, Nat.reduceLT, Nat.reduceLeDiff, Int.reduceToNat, Int.reduceAdd, Int.reduceSub, Int.reduceNeg, Int.reduceMul, Int.reduceLT, Int.reduceLE, Int.reduceEq]
  refine loopF (ι := List (V × V) × Spots × Bool) (fun i => [(3, .cptr [aSl p.1, dSl p.2]), (9, .str t), (10, .ptr (S.length + 1) 0 0 0), (11, .func 28 [] [.ptr (S.length + 1) 0 0 0]), (12, .bool i.2.2)]) (fun i => S ++ ⟨0, some (.mp ⟨.one .str, i.1⟩)⟩ :: ⟨0, some (.arr 54 1 [[.mapv S.length 0]])⟩ :: [])
    (fun i => Head p.2 N (cloF p.2 f) i.2.1 i.2.2 ∧ MapL i.2.1 i.1) (fun i => if i.2.2 then rank N i.2.1 + 1 else 0) (fun i hi => by rw [hσ]; simp) ([(.str f, .int .i64 0)], start f, true) ⟨⟨by rw [← hN]; exact start_inv _ _, by simp only [if_true]; exact cloF_clo _ _⟩, ?_⟩ (.inl ⟨?_, ?_⟩) ?_
  · refine ⟨fun q hq => ?_, fun c => ?_⟩
    · simp only [List.mem_singleton] at hq
      subst hq
      exact ⟨⟨f, rfl⟩, rfl, rfl⟩
    · simp only [findV, eqKV_str, start, look, decide_eq_true_eq]
      by_cases e : c = f
      · rw [if_pos e, if_pos e.symm]; rfl
      · rw [if_neg e, if_neg (fun h => e h.symm)]; rfl
  · simp only [aSl, dSl, ↓evPre, ↓evPreW, evPost, evPostW, ← List.map_take, ← List.map_drop, ↓reduceIte, reduceCtorEq, Nat.reduceEqDiff, forall_const, implies_true, Nat.reduceAdd, Nat.reduceSub, Nat.reduceMul, Nat.reduceLT, Nat.reduceLeDiff, Int.reduceToNat, Int.reduceAdd, Int.reduceSub, Int.reduceNeg, Int.reduceMul, Int.reduceLT, Int.reduceLE, Int.reduceEq]
  · rfl
  · rintro ⟨rows, l, more⟩ ⟨hh, hm⟩
    simp only at hh hm ⊢
    cases more with
    | false =>
      obtain ⟨hi, he⟩ := hh
      simp only [Bool.false_eq_true, if_false] at he
      rw [← he]
      have ft := hm.2 t
      cases hk : look l t with
      | none =>
        rw [hk, Option.map_none] at ft
        simp (disch := first | omega | (simp only [List.length_cons, List.length_nil, List.length_map, List.length_drop]; omega)) only [ft, Option.getD_none, Option.isSome_none, evSt, ↓evPre, ↓evPreW, evPost, evPostW, ← List.map_take, ← List.map_drop, ↓reduceIte, reduceCtorEq, Nat.reduceEqDiff, forall_const, implies_true, Nat.reduceAdd, Nat.reduceSub, Nat.reduceMul, Nat.reduceLT, Nat.reduceLeDiff, Int.reduceToNat, Int.reduceAdd, Int.reduceSub, Int.reduceNeg, Int.reduceMul, Int.reduceLT, Int.reduceLE, Int.reduceEq]
        exact ⟨_, S, hn.fgt _, .imm rfl, Nat.le_refl _, rfl, rfl⟩
      | some v =>
        rw [hk, Option.map_some] at ft
        simp (disch := first | omega | (simp only [List.length_cons, List.length_nil, List.length_map, List.length_drop]; omega)) only [ft, Option.getD_some, Option.isSome_some, evSt, ↓evPre, ↓evPreW, evPost, evPostW, ← List.map_take, ← List.map_drop, ↓reduceIte, reduceCtorEq, Nat.reduceEqDiff, forall_const, implies_true, Nat.reduceAdd, Nat.reduceSub, Nat.reduceMul, Nat.reduceLT, Nat.reduceLeDiff, Int.reduceToNat, Int.reduceAdd, Int.reduceSub, Int.reduceNeg, Int.reduceMul, Int.reduceLT, Int.reduceLE, Int.reduceEq]
        exact ⟨_, S, hn.fgt _, .imm rfl, Nat.le_refl _, rfl, rfl⟩
    | true =>
      have hnx := head_next hnm hh
      have hi := hh.1
      simp (disch := first | omega | (simp only [List.length_cons, List.length_nil, List.length_map, List.length_drop]; omega)) only [dSl, List.length_map, List.take_succ_cons, List.take_zero, evSt, ↓evPre, ↓evPreW, evPost, evPostW, ← List.map_take, ← List.map_drop, ↓reduceIte, reduceCtorEq, Nat.reduceEqDiff, forall_const, implies_true, Nat.reduceAdd, Nat.reduceSub, Nat.reduceMul, Nat.reduceLT, Nat.reduceLeDiff, Int.reduceToNat, Int.reduceAdd, Int.reduceSub, Int.reduceNeg, Int.reduceMul, Int.reduceLT, Int.reduceLE, Int.reduceEq]
      refine loopF (ι := List (V × V) × Nat) (fun i => [(3, .cptr [aSl p.1, dSl p.2]), (9, .str t), (10, .ptr (S.length + 1) 0 0 0), (11, .func 28 [] [.ptr (S.length + 1) 0 0 0]), (12, .bool ((p.2.take i.2).foldl stepF (l, false)).2), (37, dSl p.2), (38, .int .i64 p.2.length), (39, .int .i64 i.2)])
        (fun i => S ++ ⟨0, some (.mp ⟨.one .str, i.1⟩)⟩ :: ⟨0, some (.arr 54 1 [[.mapv S.length 0]])⟩ :: []) (fun i => i.2 ≤ p.2.length ∧ MapL ((p.2.take i.2).foldl stepF (l, false)).1 i.1) (fun i => p.2.length - i.2) (fun i hi => by rw [hσ]; simp) (rows, 0) ⟨Nat.zero_le _, hm⟩ (.inl ⟨?_, ?_⟩) ?_
      · simp only [aSl, dSl, List.take_zero, List.foldl_nil, ↓evPre, ↓evPreW, evPost, evPostW, ← List.map_take, ← List.map_drop, ↓reduceIte, reduceCtorEq, Nat.reduceEqDiff, forall_const, implies_true, Nat.reduceAdd, Nat.reduceSub, Nat.reduceMul, Nat.reduceLT, Nat.reduceLeDiff, Int.reduceToNat, Int.reduceAdd, Int.reduceSub, Int.reduceNeg, Int.reduceMul, Int.reduceLT, Int.reduceLE, Int.reduceEq]
      · rfl
      · rintro ⟨rows', k⟩ ⟨hk, hmk⟩
        simp only at hk hmk ⊢
        have hso := round_sofar hi (p.2.take k) (take_mem hnm k) (l, false) ⟨hi, .inl ⟨rfl, rfl⟩⟩
        cases hdk : p.2[k]? with
        | none =>
          have hlt : ¬ ((k : Int) < p.2.length) := by rw [List.getElem?_eq_none_iff] at hdk; omega
          rw [List.take_of_length_le (List.getElem?_eq_none_iff.1 hdk)] at hmk ⊢
          simp (disch := first | omega | (simp only [List.length_cons, List.length_nil, List.length_map, List.length_drop]; omega)) only [aSl, dSl, hlt, decide_false, evSt, ↓evPre, ↓evPreW, evPost, evPostW, ← List.map_take, ← List.map_drop, ↓reduceIte, reduceCtorEq, Nat.reduceEqDiff, forall_const, implies_true, Nat.reduceAdd, Nat.reduceSub, Nat.reduceMul, Nat.reduceLT, Nat.reduceLeDiff, Int.reduceToNat, Int.reduceAdd, Int.reduceSub, Int.reduceNeg, Int.reduceMul, Int.reduceLT, Int.reduceLE, Int.reduceEq]
          exact ⟨(rows', roundF p.2 l), ⟨hnx.1, hmk⟩, hnx.2, .inl ⟨⟨rfl, rfl, rfl, rfl, rfl, trivial⟩, rfl⟩⟩
        | some d =>
          have hlt' := (List.getElem?_eq_some_iff.1 hdk).1
          have hlt : (k : Int) < p.2.length := by omega
          have hstep := fold_take (s0 := (l, false)) hdk
          have hdm := hnm d (List.mem_of_getElem? hdk)
          generalize hS : (p.2.take k).foldl stepF (l, false) = s at hso hstep hmk
          obtain ⟨l1, b1⟩ := s
          have hi1 : InvL N l1 := hso.1
          have fin : ∀ (rows2 : List (V × V)) (l2 : Spots) (b2 : Bool) (T : Store) (E : Env), stepF (l1, b1) d = (l2, b2) → MapL l2 rows2 → sub [(3, .cptr [aSl p.1, dSl p.2]), (9, .str t), (10, .ptr (S.length + 1) 0 0 0), (11, .func 28 [] [.ptr (S.length + 1) 0 0 0]), (12, .bool b2), (37, dSl p.2), (38, .int .i64 p.2.length), (39, .int .i64 (k + 1))] E →
              ∃ i' : List (V × V) × Nat, (i'.2 ≤ p.2.length ∧ MapL ((p.2.take i'.2).foldl stepF (l, false)).1 i'.1) ∧ p.2.length - i'.2 < p.2.length - k ∧ Back [(3, .cptr [aSl p.1, dSl p.2]), (9, .str t), (10, .ptr (S.length + 1) 0 0 0), (11, .func 28 [] [.ptr (S.length + 1) 0 0 0]), (12, .bool ((p.2.take i'.2).foldl stepF (l, false)).2), (37, dSl p.2), (38, .int .i64 p.2.length), (39, .int .i64 i'.2)]
                (S ++ ⟨0, some (.mp ⟨.one .str, i'.1⟩)⟩ :: ⟨0, some (.arr 54 1 [[.mapv S.length 0]])⟩ :: []) E (S ++ ⟨0, some (.mp ⟨.one .str, rows2⟩)⟩ :: ⟨0, some (.arr 54 1 [[.mapv S.length 0]])⟩ :: T) := by
            intro rows2 l2 b2 T E hr hm2 hE
            rw [hr] at hstep
            refine ⟨(rows2, k + 1), ⟨by simp only; omega, by simp only [hstep]; exact hm2⟩, by simp only; omega, ?_⟩
            simp only [hstep]
            refine back_under ?_ hE (by simp [V.under, aSl, dSl, V.allUnder])
            exact hn.fgtL (L := _ :: _ :: T) (L1 := [_, _]) ⟨rfl, objF_map rfl hm2.1 (fun a => rfl), rfl, ⟨_, rfl, .under (by simp [V.allUnder, V.under])⟩, by cases T <;> trivial⟩
          simp (disch := first | omega | (simp only [List.length_cons, List.length_nil, List.length_map, List.length_drop]; omega)) only [aSl, dSl, dstR, hdk, hlt, decide_true, List.cons_append, List.nil_append, List.getElem?_map, Option.map_some, List.take_succ_cons, List.take_zero, evSt, ↓evPre, ↓evPreW, evPost, evPostW, ← List.map_take, ← List.map_drop, ↓reduceIte, reduceCtorEq, Nat.reduceEqDiff, forall_const, implies_true, Nat.reduceAdd, Nat.reduceSub, Nat.reduceMul, Nat.reduceLT, Nat.reduceLeDiff, Int.reduceToNat, Int.reduceAdd, Int.reduceSub, Int.reduceNeg, Int.reduceMul, Int.reduceLT, Int.reduceLE, Int.reduceEq]
          refine (usable_A d _).then ?_
          cases hu : usableF d with
          | false =>
            simp (disch := first | omega | (simp only [List.length_cons, List.length_nil, List.length_map, List.length_drop]; omega)) only [aSl, dSl, wrap_i64, evSt, ↓evPre, ↓evPreW, evPost, evPostW, ← List.map_take, ← List.map_drop, ↓reduceIte, reduceCtorEq, Nat.reduceEqDiff, forall_const, implies_true, Nat.reduceAdd, Nat.reduceSub, Nat.reduceMul, Nat.reduceLT, Nat.reduceLeDiff, Int.reduceToNat, Int.reduceAdd, Int.reduceSub, Int.reduceNeg, Int.reduceMul, Int.reduceLT, Int.reduceLE, Int.reduceEq]
            exact fin rows' l1 b1 _ _ (by simp only [stepF, hu, Bool.false_eq_true, if_false]) hmk ⟨rfl, rfl, rfl, rfl, rfl, rfl, rfl, rfl, trivial⟩
          | true =>
            have hmi : 1 ≤ d.mi ∧ d.mi ≤ 20000 := by simpa [usableF] using hu
            have hr2 := (relax_less (x := d.fr) hi1 hdm.2 hmi.1 hmi.2).1
            simp (disch := first | omega | (simp only [List.length_cons, List.length_nil, List.length_map, List.length_drop]; omega)) only [aSl, dSl, wrap_i64, evSt, ↓evPre, ↓evPreW, evPost, evPostW, ← List.map_take, ← List.map_drop, ↓reduceIte, reduceCtorEq, Nat.reduceEqDiff, forall_const, implies_true, Nat.reduceAdd, Nat.reduceSub, Nat.reduceMul, Nat.reduceLT, Nat.reduceLeDiff, Int.reduceToNat, Int.reduceAdd, Int.reduceSub, Int.reduceNeg, Int.reduceMul, Int.reduceLT, Int.reduceLE, Int.reduceEq]
            refine (relax_A l1 d.fr d.to d.mi S _ rows' hmk (fun q hq => ⟨(hi1.1 q hq).1, by have := (hi1.1 q hq).2; omega⟩) hmi).mono ?_
            rintro _ _ ⟨rfl, rows2, hm2, rfl⟩
            generalize hA : relaxF l1 d.fr d.to d.mi = A at hr2 hm2
            obtain ⟨l2, b2⟩ := A
            simp (disch := first | omega | (simp only [List.length_cons, List.length_nil, List.length_map, List.length_drop]; omega)) only [aSl, dSl, wrap_i64, evSt, ↓evPre, ↓evPreW, evPost, evPostW, ← List.map_take, ← List.map_drop, ↓reduceIte, reduceCtorEq, Nat.reduceEqDiff, forall_const, implies_true, Nat.reduceAdd, Nat.reduceSub, Nat.reduceMul, Nat.reduceLT, Nat.reduceLeDiff, Int.reduceToNat, Int.reduceAdd, Int.reduceSub, Int.reduceNeg, Int.reduceMul, Int.reduceLT, Int.reduceLE, Int.reduceEq]
            refine (relax_A l2 d.to d.fr d.mi S _ rows2 hm2 (fun q hq => ⟨(hr2.1 q hq).1, by have := (hr2.1 q hq).2; omega⟩) hmi).mono ?_
            rintro _ _ ⟨rfl, rows3, hm3, rfl⟩
            generalize hB : relaxF l2 d.to d.fr d.mi = B at hm3
            obtain ⟨l3, b3⟩ := B
            have hst : stepF (l1, b1) d = (l3, b1 || b2 || b3) := by simp only [stepF, hu, hA, hB, if_true]
            cases b1 <;> cases b2 <;> cases b3
            all_goals
              simp (disch := first | omega | (simp only [List.length_cons, List.length_nil, List.length_map, List.length_drop]; omega)) only [aSl, dSl, wrap_i64, evSt, ↓evPre, ↓evPreW, evPost, evPostW, ← List.map_take, ← List.map_drop, ↓reduceIte, reduceCtorEq, Nat.reduceEqDiff, forall_const, implies_true, Nat.reduceAdd, Nat.reduceSub, Nat.reduceMul, Nat.reduceLT, Nat.reduceLeDiff, Int.reduceToNat, Int.reduceAdd, Int.reduceSub, Int.reduceNeg, Int.reduceMul, Int.reduceLT, Int.reduceLE, Int.reduceEq]
              exact fin rows3 l3 _ _ _ hst hm3 ⟨rfl, rfl, rfl, rfl, rfl, rfl, rfl, rfl, trivial⟩
end Go.Proofs.Ytbbjjnhcbfdhlaa
