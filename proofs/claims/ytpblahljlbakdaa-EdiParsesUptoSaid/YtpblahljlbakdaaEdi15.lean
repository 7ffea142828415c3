/- The reference's reader: a component. -/
import Derived.Test.YtpblahljlbakdaaEdi14
namespace Go.Proofs.Ytpblahljlbakdaa
open Go Go.AL
set_option linter.unusedSimpArgs false

/-- A component: its bytes (none: it cannot be read on), and how many bytes were read. -/
def compF : Txt → Option Txt × Nat
  | [] => (none, 0)
  | c :: r =>
    if c.toNat = 43 ∨ c.toNat = 58 ∨ c.toNat = 39 then (some [], 0)
    else if oddC c then (none, 0)
    else if c.toNat = 63 then
      match r with
      | [] => (none, 1)
      | d :: r' => if specC d then ((compF r').1.map (d :: ·), (compF r').2 + 2) else (none, 1)
    else ((compF r).1.map (c :: ·), (compF r).2 + 1)
termination_by l => l.length

theorem compF_cons (c : UInt8) (r : Txt) : compF (c :: r) =
    if c.toNat = 43 ∨ c.toNat = 58 ∨ c.toNat = 39 then (some [], 0)
    else if oddC c then (none, 0)
    else if c.toNat = 63 then
      match r with
      | [] => (none, 1)
      | d :: r' => if specC d then ((compF r').1.map (d :: ·), (compF r').2 + 2) else (none, 1)
    else ((compF r).1.map (c :: ·), (compF r).2 + 1) := by rw [compF.eq_def]; first | rfl | simp only
theorem compF_nil : compF [] = (none, 0) := by rw [compF.eq_def]

theorem neat_box {S T : Store} {s : Txt} {k k' : Nat} {b b' : Bool} (h : Neat (S ++ ⟨0, some (.arr 66 3 [[.str s, .int .i64 k, .bool b]])⟩ :: T)) : Neat (S ++ ⟨0, some (.arr 66 3 [[.str s, .int .i64 k', .bool b']])⟩ :: T) := by
  intro id ver e sz rows hs r hr
  have hl : (S ++ ⟨0, some (.arr 66 3 [[.str s, .int .i64 k', .bool b']])⟩ :: T : Store).length = (S ++ ⟨0, some (.arr 66 3 [[.str s, .int .i64 k, .bool b]])⟩ :: T : Store).length := by simp
  by_cases hid : id = S.length
  · subst hid
    rw [List.getElem?_append_right (Nat.le_refl _), Nat.sub_self] at hs
    simp at hs
    obtain ⟨_, rfl, rfl, rfl⟩ := hs
    simp at hr
    subst hr
    exact ⟨rfl, rfl⟩
  · rw [hl]
    refine h id ver e sz rows ?_ r hr
    by_cases hlt : id < S.length
    · rw [List.getElem?_append_left hlt] at hs ⊢
      exact hs
    · obtain ⟨j, rfl⟩ : ∃ j, id = S.length + (j + 1) := ⟨id - S.length - 1, by omega⟩
      rw [List.getElem?_append_right (by omega), Nat.add_sub_cancel_left] at hs ⊢
      simpa using hs

def CompPost (s : Txt) (k : Nat) (S T : Store) (r : V) (S' : Store) : Prop :=
  match compF (s.drop k) with
  | (some t, n) => r = .str t ∧ S' = S ++ ⟨0, some (.arr 66 3 [[.str s, .int .i64 (k + n : Nat), .bool false]])⟩ :: T
  | (none, n) => r = .str [] ∧ S' = S ++ ⟨0, some (.arr 66 3 [[.str s, .int .i64 (k + n : Nat), .bool true]])⟩ :: T
def CompEnd (s : Txt) (k : Nat) (S T : Store) (r : V) (S' : Store) : Prop :=
  ∃ r1 S1, Fgt S' S1 ∧ Frz S' S1 r r1 ∧ (S ++ ⟨0, some (.arr 66 3 [[.str s, .int .i64 k, .bool false]])⟩ :: T).length ≤ S1.length ∧ CompPost s k S T r1 S1

theorem comp_end {s : Txt} {k m : Nat} {b : Bool} {S T L : Store} {t : Txt} (hn : Neat (S ++ ⟨0, some (.arr 66 3 [[.str s, .int .i64 k, .bool false]])⟩ :: T))
    (h : CompPost s k S T (.str t) (S ++ ⟨0, some (.arr 66 3 [[.str s, .int .i64 (k + m : Nat), .bool b]])⟩ :: T)) : CompEnd s k S T (.str t) (S ++ ⟨0, some (.arr 66 3 [[.str s, .int .i64 (k + m : Nat), .bool b]])⟩ :: (T ++ L)) := by
  refine ⟨.str t, S ++ ⟨0, some (.arr 66 3 [[.str s, .int .i64 (k + m : Nat), .bool b]])⟩ :: T, ?_, .imm rfl, by simp, h⟩
  have := (neat_box (k' := k + m) (b' := b) hn).fgt L
  simpa using this
theorem obj_push2 {T : Store} {v : Nat} {t : TypeId} {sz : Nat} {rows : List (List V)} : Store.obj? (T ++ [⟨v, some (.arr t sz rows)⟩]) T.length v = some (t, sz, rows) := obj_push
theorem set_push {T : Store} {o o' : AL.Obj} : (T ++ [o] : Store).set T.length o' = T ++ [o'] := by
  rw [List.set_append_right _ _ (Nat.le_refl _), Nat.sub_self]; rfl

set_option maxHeartbeats 1000000 in
set_option maxRecDepth 20000 in
theorem component_A (s : Txt) (k : Nat) (S T : Store) (hs : s.length ≤ 65536) (hk : k ≤ s.length) :
    CallA Try.prog 50 [.ptr S.length 0 0 0] (S ++ ⟨0, some (.arr 66 3 [[.str s, .int .i64 k, .bool false]])⟩ :: T) (CompPost s k S T) := by
  refine CallA.withNeat Try.func50 c50 fun hn => ?_
  refine CallA.fin Try.func50 c50 (Nat.le_of_ble_eq_true rfl) fun σ hσ => ?_
  change wpA Try.prog a50.N σ a50.code (retK a50.res (CompEnd s k S T)) _ _
  simp (disch := first | omega | (simp only [List.length_cons, List.length_nil, List.length_map, List.length_drop]; omega)) only [a50, ↓evPre, ↓evPreW, evPost, evPostW, ← List.map_take, ← List.map_drop, ↓reduceIte, reduceCtorEq, Nat.reduceEqDiff, forall_const, implies_true, Nat.reduceAdd, Nat.reduceSub, Nat.reduceMul, Nat.reduceLT, Nat.reduceLeDiff, Int.reduceToNat, Int.reduceAdd, Int.reduceSub, Int.reduceNeg, Int.reduceMul, Int.reduceLT, Int.reduceLE, Int.reduceEq]
  refine LoopA.ghost 3 0 5 1 (by simp only [↓evPre, ↓evPreW, evPost, evPostW, ← List.map_take, ← List.map_drop, ↓reduceIte, reduceCtorEq, Nat.reduceEqDiff, forall_const, implies_true, Nat.reduceAdd, Nat.reduceSub, Nat.reduceMul, Nat.reduceLT, Nat.reduceLeDiff, Int.reduceToNat, Int.reduceAdd, Int.reduceSub, Int.reduceNeg, Int.reduceMul, Int.reduceLT, Int.reduceLE, Int.reduceEq]) ?_
  simp only [ap_app, le_app, List.cons_append, List.length_cons]
  refine loopA (ι := Nat × Txt) (fun i => [(0, .ptr S.length 0 0 0), (3, .msl (S.length + (T.length + 1)) i.2.length 0 i.2.length)]) (fun i => S ++ ⟨0, some (.arr 66 3 [[.str s, .int .i64 (k + i.1 : Nat), .bool false]])⟩ :: (T ++ [⟨i.2.length, some (.arr 5 1 (byteRows i.2))⟩]))
    (fun i => k + i.1 ≤ s.length ∧ i.2.length ≤ i.1 ∧ compF (s.drop k) = ((compF (s.drop (k + i.1))).1.map (i.2 ++ ·), (compF (s.drop (k + i.1))).2 + i.1)) (fun i => s.length - (k + i.1)) (0, []) ⟨by simp only; omega, Nat.le_refl _, by simp⟩ ?_ (by simp [byteRows]) ?_
  · simp only [↓evPre, ↓evPreW, evPost, evPostW, ← List.map_take, ← List.map_drop, ↓reduceIte, reduceCtorEq, Nat.reduceEqDiff, forall_const, implies_true, Nat.reduceAdd, Nat.reduceSub, Nat.reduceMul, Nat.reduceLT, Nat.reduceLeDiff, Int.reduceToNat, Int.reduceAdd, Int.reduceSub, Int.reduceNeg, Int.reduceMul, Int.reduceLT, Int.reduceLE, Int.reduceEq]
  · rintro ⟨d, t⟩ ⟨hkd, htl, hfin⟩
    simp only at hkd htl hfin ⊢
    have bad : ∀ (m : Nat) (t' : Txt) (L : Store), compF (s.drop k) = (none, m) → CompEnd s k S T (.str []) (S ++ ⟨0, some (.arr 66 3 [[.str s, .int .i64 (k + m : Nat), .bool true]])⟩ :: (T ++ L)) := fun m t' L h => comp_end hn (by simp only [CompPost, h, and_self])
    cases hc : s[k + d]? with
    | none =>
      have hlt : ¬ ((k + d : Nat) : Int) < (s.length : Int) := by have := List.getElem?_eq_none_iff.1 hc; omega
      rw [show s.drop (k + d) = [] from List.drop_eq_nil_of_le (by have := List.getElem?_eq_none_iff.1 hc; omega), compF_nil] at hfin
      simp (disch := first | omega | (simp only [List.length_cons, List.length_nil, List.length_map, List.length_drop]; omega)) only [hlt, wrap_i64, ob_app, ob_app0, ob_cons, ob_head, se_app, se_app0, se_cons, se_head, ↓evPre, ↓evPreW, evPost, evPostW, ← List.map_take, ← List.map_drop, ↓reduceIte, reduceCtorEq, Nat.reduceEqDiff, forall_const, implies_true, Nat.reduceAdd, Nat.reduceSub, Nat.reduceMul, Nat.reduceLT, Nat.reduceLeDiff, Int.reduceToNat, Int.reduceAdd, Int.reduceSub, Int.reduceNeg, Int.reduceMul, Int.reduceLT, Int.reduceLE, Int.reduceEq]
      exact bad d t _ (by rw [hfin]; simp)
    | some c =>
      have hltn := (List.getElem?_eq_some_iff.1 hc).1
      have hlt : ((k + d : Nat) : Int) < (s.length : Int) := by omega
      have e1 : (((k + d : Nat) : Int)).toNat = k + d := by omega
      have h0 : 0 ≤ ((k + d : Nat) : Int) := by omega
      rw [drop_cons hc, compF_cons] at hfin
      by_cases hm : c.toNat = 43 ∨ c.toNat = 58 ∨ c.toNat = 39
      · rw [if_pos hm] at hfin
        have good : CompEnd s k S T (.str t) (S ++ ⟨0, some (.arr 66 3 [[.str s, .int .i64 (k + d : Nat), .bool false]])⟩ :: (T ++ [⟨t.length, some (.arr 5 1 (byteRows t))⟩])) := comp_end hn (by simp [CompPost, hfin])
        rcases hm with hm | hm | hm
        · have hi : (c.toNat : Int) = 43 := by omega
          simp (disch := first | omega | (simp only [List.length_cons, List.length_nil, List.length_map, List.length_drop]; omega)) only [hlt, hc, e1, h0, hi, wrap_i64, ob_app, ob_app0, ob_cons, ob_head, obj_push2, b2s_msl, b2sO_some, se_app, se_app0, se_cons, se_head, ↓evPre, ↓evPreW, evPost, evPostW, ← List.map_take, ← List.map_drop, ↓reduceIte, reduceCtorEq, Nat.reduceEqDiff, forall_const, implies_true, Nat.reduceAdd, Nat.reduceSub, Nat.reduceMul, Nat.reduceLT, Nat.reduceLeDiff, Int.reduceToNat, Int.reduceAdd, Int.reduceSub, Int.reduceNeg, Int.reduceMul, Int.reduceLT, Int.reduceLE, Int.reduceEq]
          exact good
        · have hi : (c.toNat : Int) = 58 := by omega
          simp (disch := first | omega | (simp only [List.length_cons, List.length_nil, List.length_map, List.length_drop]; omega)) only [hlt, hc, e1, h0, hi, wrap_i64, ob_app, ob_app0, ob_cons, ob_head, obj_push2, b2s_msl, b2sO_some, se_app, se_app0, se_cons, se_head, ↓evPre, ↓evPreW, evPost, evPostW, ← List.map_take, ← List.map_drop, ↓reduceIte, reduceCtorEq, Nat.reduceEqDiff, forall_const, implies_true, Nat.reduceAdd, Nat.reduceSub, Nat.reduceMul, Nat.reduceLT, Nat.reduceLeDiff, Int.reduceToNat, Int.reduceAdd, Int.reduceSub, Int.reduceNeg, Int.reduceMul, Int.reduceLT, Int.reduceLE, Int.reduceEq]
          exact good
        · have hi : (c.toNat : Int) = 39 := by omega
          simp (disch := first | omega | (simp only [List.length_cons, List.length_nil, List.length_map, List.length_drop]; omega)) only [hlt, hc, e1, h0, hi, wrap_i64, ob_app, ob_app0, ob_cons, ob_head, obj_push2, b2s_msl, b2sO_some, se_app, se_app0, se_cons, se_head, ↓evPre, ↓evPreW, evPost, evPostW, ← List.map_take, ← List.map_drop, ↓reduceIte, reduceCtorEq, Nat.reduceEqDiff, forall_const, implies_true, Nat.reduceAdd, Nat.reduceSub, Nat.reduceMul, Nat.reduceLT, Nat.reduceLeDiff, Int.reduceToNat, Int.reduceAdd, Int.reduceSub, Int.reduceNeg, Int.reduceMul, Int.reduceLT, Int.reduceLE, Int.reduceEq]
          exact good
      · rw [if_neg hm] at hfin
        have m1 : ¬ (c.toNat : Int) = 43 := by omega
        have m2 : ¬ (c.toNat : Int) = 58 := by omega
        have m3 : ¬ (c.toNat : Int) = 39 := by omega
        by_cases h1 : (c.toNat : Int) < 32
        · have ho : oddC c = true := by simp [oddC]; omega
          rw [if_pos ho] at hfin
          simp (disch := first | omega | (simp only [List.length_cons, List.length_nil, List.length_map, List.length_drop]; omega)) only [hlt, hc, e1, h0, m1, m2, m3, h1, decide_true, decide_false, wrap_i64, ob_app, ob_app0, ob_cons, ob_head, se_app, se_app0, se_cons, se_head, ↓evPre, ↓evPreW, evPost, evPostW, ← List.map_take, ← List.map_drop, ↓reduceIte, reduceCtorEq, Nat.reduceEqDiff, forall_const, implies_true, Nat.reduceAdd, Nat.reduceSub, Nat.reduceMul, Nat.reduceLT, Nat.reduceLeDiff, Int.reduceToNat, Int.reduceAdd, Int.reduceSub, Int.reduceNeg, Int.reduceMul, Int.reduceLT, Int.reduceLE, Int.reduceEq]
          exact bad d t _ (by rw [hfin]; simp)
        · by_cases h2 : 126 < (c.toNat : Int)
          · have ho : oddC c = true := by simp [oddC]; omega
            rw [if_pos ho] at hfin
            simp (disch := first | omega | (simp only [List.length_cons, List.length_nil, List.length_map, List.length_drop]; omega)) only [hlt, hc, e1, h0, m1, m2, m3, h1, h2, decide_true, decide_false, wrap_i64, ob_app, ob_app0, ob_cons, ob_head, se_app, se_app0, se_cons, se_head, ↓evPre, ↓evPreW, evPost, evPostW, ← List.map_take, ← List.map_drop, ↓reduceIte, reduceCtorEq, Nat.reduceEqDiff, forall_const, implies_true, Nat.reduceAdd, Nat.reduceSub, Nat.reduceMul, Nat.reduceLT, Nat.reduceLeDiff, Int.reduceToNat, Int.reduceAdd, Int.reduceSub, Int.reduceNeg, Int.reduceMul, Int.reduceLT, Int.reduceLE, Int.reduceEq]
            exact bad d t _ (by rw [hfin]; simp)
          · have ho : ¬ oddC c = true := by simp [oddC]; omega
            rw [if_neg ho] at hfin
            have hnx : ((k + d : Nat) : Int) + 1 = ((k + (d + 1) : Nat) : Int) := by omega
            have hnx2 : ((k + (d + 1) : Nat) : Int) + 1 = ((k + (d + 2) : Nat) : Int) := by omega
            by_cases h63 : (c.toNat : Int) = 63
            · rw [if_pos (by omega)] at hfin
              have hi63 : c.toNat = 63 := by omega
              cases he : s[k + (d + 1)]? with
              | none =>
                have hend : ((k + (d + 1) : Nat) : Int) = (s.length : Int) := by have := List.getElem?_eq_none_iff.1 he; omega
                rw [show s.drop (k + d + 1) = [] from List.drop_eq_nil_of_le (by omega)] at hfin
                simp (disch := first | omega | (simp only [List.length_cons, List.length_nil, List.length_map, List.length_drop]; omega)) only [hlt, hc, e1, h0, h63, hnx, hend, decide_true, decide_false, wrap_i64, ob_app, ob_app0, ob_cons, ob_head, se_app, se_app0, se_cons, se_head, ↓evPre, ↓evPreW, evPost, evPostW, ← List.map_take, ← List.map_drop, ↓reduceIte, reduceCtorEq, Nat.reduceEqDiff, forall_const, implies_true, Nat.reduceAdd, Nat.reduceSub, Nat.reduceMul, Nat.reduceLT, Nat.reduceLeDiff, Int.reduceToNat, Int.reduceAdd, Int.reduceSub, Int.reduceNeg, Int.reduceMul, Int.reduceLT, Int.reduceLE, Int.reduceEq]
                rw [← hend]
                exact bad (d + 1) t _ (by rw [hfin]; simp [Nat.add_comm])
              | some b =>
                have hbl := (List.getElem?_eq_some_iff.1 he).1
                have hne : ¬ ((k + (d + 1) : Nat) : Int) = (s.length : Int) := by omega
                have e2 : (((k + (d + 1) : Nat) : Int)).toNat = k + (d + 1) := by omega
                have h02 : 0 ≤ ((k + (d + 1) : Nat) : Int) := by omega
                rw [Nat.add_assoc, drop_cons he] at hfin
                simp only at hfin
                simp (disch := first | omega | (simp only [List.length_cons, List.length_nil, List.length_map, List.length_drop]; omega)) only [hlt, hc, he, e1, e2, h0, h02, h63, hnx, hne, decide_true, decide_false, wrap_i64, ob_app, ob_app0, ob_cons, ob_head, se_app, se_app0, se_cons, se_head, ↓evPre, ↓evPreW, evPost, evPostW, ← List.map_take, ← List.map_drop, ↓reduceIte, reduceCtorEq, Nat.reduceEqDiff, forall_const, implies_true, Nat.reduceAdd, Nat.reduceSub, Nat.reduceMul, Nat.reduceLT, Nat.reduceLeDiff, Int.reduceToNat, Int.reduceAdd, Int.reduceSub, Int.reduceNeg, Int.reduceMul, Int.reduceLT, Int.reduceLE, Int.reduceEq]
                refine (special_A b _).then ?_
                cases hsp : specC b
                · rw [hsp] at hfin
                  simp (disch := first | omega | (simp only [List.length_cons, List.length_nil, List.length_map, List.length_drop]; omega)) only [Bool.not_false, Bool.not_true, e2, h02, he, wrap_i64, ob_app, ob_app0, ob_cons, ob_head, se_app, se_app0, se_cons, se_head, ↓evPre, ↓evPreW, evPost, evPostW, ← List.map_take, ← List.map_drop, ↓reduceIte, reduceCtorEq, Nat.reduceEqDiff, forall_const, implies_true, Nat.reduceAdd, Nat.reduceSub, Nat.reduceMul, Nat.reduceLT, Nat.reduceLeDiff, Int.reduceToNat, Int.reduceAdd, Int.reduceSub, Int.reduceNeg, Int.reduceMul, Int.reduceLT, Int.reduceLE, Int.reduceEq]
                  exact bad (d + 1) t _ (by rw [hfin]; simp [Nat.add_comm])
                · rw [hsp] at hfin
                  simp (disch := first | omega | (simp only [List.length_cons, List.length_nil, List.length_map, List.length_drop]; omega)) only [Bool.not_false, Bool.not_true, e2, h02, he, hnx2, wrap_i64, ob_app, ob_app0, ob_cons, ob_head, obj_push2, set_push, byteRows_len, byteRows_snoc, se_app, se_app0, se_cons, se_head, ↓evPre, ↓evPreW, evPost, evPostW, ← List.map_take, ← List.map_drop, ↓reduceIte, reduceCtorEq, Nat.reduceEqDiff, forall_const, implies_true, Nat.reduceAdd, Nat.reduceSub, Nat.reduceMul, Nat.reduceLT, Nat.reduceLeDiff, Int.reduceToNat, Int.reduceAdd, Int.reduceSub, Int.reduceNeg, Int.reduceMul, Int.reduceLT, Int.reduceLE, Int.reduceEq]
                  refine ⟨by unfold roomA; omega, (d + 2, t ++ [b]), ⟨by simp only; omega, by simp; omega, ?_⟩, by simp only; omega, by simp, by simp⟩
                  simp only [if_true] at hfin
                  simp only
                  rw [hfin, show k + (d + 1) + 1 = k + (d + 2) by omega]
                  cases (compF (s.drop (k + (d + 2)))).1 <;> simp [Nat.add_assoc, Nat.add_comm 2 d]
            · rw [if_neg (by omega)] at hfin
              simp (disch := first | omega | (simp only [List.length_cons, List.length_nil, List.length_map, List.length_drop]; omega)) only [hlt, hc, e1, h0, m1, m2, m3, h1, h2, h63, hnx, decide_true, decide_false, wrap_i64, ob_app, ob_app0, ob_cons, ob_head, obj_push2, set_push, byteRows_len, byteRows_snoc, se_app, se_app0, se_cons, se_head, ↓evPre, ↓evPreW, evPost, evPostW, ← List.map_take, ← List.map_drop, ↓reduceIte, reduceCtorEq, Nat.reduceEqDiff, forall_const, implies_true, Nat.reduceAdd, Nat.reduceSub, Nat.reduceMul, Nat.reduceLT, Nat.reduceLeDiff, Int.reduceToNat, Int.reduceAdd, Int.reduceSub, Int.reduceNeg, Int.reduceMul, Int.reduceLT, Int.reduceLE, Int.reduceEq]
              refine ⟨by unfold roomA; omega, (d + 1, t ++ [c]), ⟨by simp only; omega, by simp; omega, ?_⟩, by simp only; omega, by simp, by simp⟩
              simp only
              rw [hfin, Nat.add_assoc k d 1]
              cases (compF (s.drop (k + (d + 1)))).1 <;> simp [Nat.add_assoc, Nat.add_comm 1 d]
end Go.Proofs.Ytpblahljlbakdaa
