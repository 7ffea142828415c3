/- The order of guests: the reference, and the law. -/
import Derived.Test.YteeenlgoildmiabDoorChk7
namespace Go.Proofs.YteeenlgoildmiabDoor
open Go Go.AL
set_option linter.unusedSimpArgs false
set_option linter.unusedVariables false

/-! ### Plain: insertion -/
def befF (a b : Gst) : Bool := decide (b.rank < a.rank ∨ (a.rank = b.rank ∧ a.since ≤ b.since))
def befG (l : List Gst) (i o : Nat) : Bool := befF (gk l o) (gk l i)
def insF (l : List Gst) (out : List Nat) (i : Nat) : List Nat := out.take (out.takeWhile (befG l i)).length ++ i :: out.drop (out.takeWhile (befG l i)).length
def refO (l : List Gst) : Nat → List Nat
  | 0 => []
  | i + 1 => insF l (refO l i) i
theorem tw_len {α : Type} {p : α → Bool} : ∀ {l : List α} {k : Nat}, k ≤ l.length → (∀ x ∈ l.take k, p x = true) → (∀ x, l[k]? = some x → p x = false) → (l.takeWhile p).length = k
  | [], k, h, _, _ => by simp at h; subst h; rfl
  | a :: l, 0, _, _, h => by
    have := h a rfl
    simp [List.takeWhile_cons, this]
  | a :: l, k + 1, h1, h2, h3 => by
    have ha := h2 a (by simp)
    rw [List.takeWhile_cons, ha, if_pos rfl, List.length_cons, tw_len (l := l) (k := k) (by simpa using h1) (fun x hx => h2 x (by simp [hx])) (fun x hx => h3 x (by simpa using hx))]
theorem tw_spec {α : Type} {p : α → Bool} : ∀ (l : List α), (∀ x ∈ l.take (l.takeWhile p).length, p x = true) ∧ (∀ x, l[(l.takeWhile p).length]? = some x → p x = false)
  | [] => ⟨fun x hx => by simp at hx, fun x hx => by simp at hx⟩
  | a :: l => by
    cases h : p a with
    | false => simp [List.takeWhile_cons, h]
    | true =>
      obtain ⟨h1, h2⟩ := tw_spec (p := p) l
      rw [List.takeWhile_cons, h, if_pos rfl, List.length_cons]
      refine ⟨fun x hx => ?_, fun x hx => h2 x (by simpa using hx)⟩
      rw [List.take_succ_cons] at hx
      rcases List.mem_cons.1 hx with rfl | hx
      · exact h
      · exact h1 x hx
theorem ins_perm {l : List Gst} {out : List Nat} {i : Nat} : (insF l out i).Perm (out ++ [i]) := by
  unfold insF
  generalize (out.takeWhile (befG l i)).length = k
  have h1 : (out.take k ++ i :: out.drop k).Perm (i :: (out.take k ++ out.drop k)) := List.perm_middle
  rw [List.take_append_drop] at h1
  exact h1.trans (List.perm_append_comm (l₁ := [i]) (l₂ := out))
theorem ref_perm (l : List Gst) : ∀ i, (refO l i).Perm (List.range i)
  | 0 => .refl _
  | i + 1 => by
    rw [refO, List.range_succ]
    exact ins_perm.trans ((ref_perm l i).append_right [i])
theorem ref_len (l : List Gst) (i : Nat) : (refO l i).length = i := by have := (ref_perm l i).length_eq; simpa using this
theorem ref_mem {l : List Gst} {i o : Nat} (h : o ∈ refO l i) : o < i := List.mem_range.1 ((ref_perm l i).mem_iff.1 h)
theorem bef_lt {l : List Gst} {i o : Nat} (h : o < i) : befG l i o = ltG l o i := by
  unfold befG befF ltG
  rw [decide_eq_decide]
  omega
theorem ref_sorted (l : List Gst) : ∀ i, (refO l i).Pairwise fun a b => ltG l b a = false
  | 0 => List.Pairwise.nil
  | i + 1 => by
    have ih := ref_sorted l i
    obtain ⟨h1, h2⟩ := tw_spec (p := befG l i) (refO l i)
    rw [refO, insF]
    generalize ((refO l i).takeWhile (befG l i)).length = k at h1 h2
    have hd : ∀ x ∈ (refO l i).drop k, ltG l x i = false := by
      intro x hx
      obtain ⟨j, hj, rfl⟩ := List.getElem_of_mem hx
      rw [List.length_drop] at hj
      rw [List.getElem_drop]
      have hk : k < (refO l i).length := by omega
      have h3 := h2 _ (List.getElem?_eq_getElem hk)
      rw [bef_lt (ref_mem (List.getElem_mem hk))] at h3
      cases j with
      | zero => exact h3
      | succ j =>
        have h4 := List.pairwise_iff_getElem.1 ih k (k + (j + 1)) hk (by omega) (by omega)
        simp only [ltG, decide_eq_false_iff_not] at h3 h4 ⊢
        omega
    have ht : ∀ x ∈ (refO l i).take k, ltG l x i = true := fun x hx => by
      rw [← bef_lt (ref_mem (List.mem_of_mem_take hx))]
      exact h1 x hx
    rw [List.pairwise_append]
    refine ⟨ih.sublist (List.take_sublist _ _), List.pairwise_cons.2 ⟨fun x hx => hd x hx, ih.sublist (List.drop_sublist _ _)⟩, fun a ha b hb => ?_⟩
    have h3 := ht a ha
    rcases List.mem_cons.1 hb with rfl | hb
    · simp only [ltG, decide_eq_true_eq, decide_eq_false_iff_not] at h3 ⊢
      omega
    · have h4 := hd b hb
      simp only [ltG, decide_eq_true_eq, decide_eq_false_iff_not] at h3 h4 ⊢
      omega
theorem ref_order (l : List Gst) : refO l l.length = orderF l := by
  obtain ⟨p1, s1⟩ := orderF_spec l
  exact List.Perm.eq_of_pairwise (fun a b _ _ g1 g2 => ltG_total g2 g1) (ref_sorted l _) s1 ((ref_perm l _).trans p1.symm)

/-! ### The walks -/
theorem before_A (a b : Gst) (S : Store) : CallA Tryd.prog 34 [.agg (gstR a), .agg (gstR b)] S fun r S' => r = .bool (befF a b) ∧ S' = S := by
  refine CallA.keep Tryd.func34 c34 (Nat.le_of_ble_eq_true rfl) fun σ hσ => ?_
  by_cases h1 : b.rank < a.rank
  · have e : befF a b = true := by simp [befF, h1]
    rw [e]
    simp (disch := first | omega | (simp only [List.length_cons, List.length_nil, List.length_map, List.length_drop]; omega)) only [a34, gstR, h1, decide_true, List.take_succ_cons, List.take_zero, evSt, ↓evPre, ↓evPreW, evPost, evPostW, ← List.map_take, ← List.map_drop, ↓reduceIte, reduceCtorEq, Nat.reduceEqDiff, forall_const, implies_true, Nat.reduceAdd, Nat.reduceSub, Nat.reduceMul, Nat.reduceLT, Nat.reduceLeDiff, Int.reduceToNat, Int.reduceAdd, Int.reduceSub, Int.reduceNeg, Int.reduceMul, Int.reduceLT, Int.reduceLE, Int.reduceEq]
  by_cases h2 : a.rank = b.rank
  · by_cases h3 : a.since ≤ b.since
    · have e : befF a b = true := by simp [befF, h2, h3]
      have h1' : ¬ b.rank < b.rank := by omega
      rw [e]
      simp (disch := first | omega | (simp only [List.length_cons, List.length_nil, List.length_map, List.length_drop]; omega)) only [a34, gstR, h1', h2, h3, decide_true, decide_false, List.take_succ_cons, List.take_zero, evSt, ↓evPre, ↓evPreW, evPost, evPostW, ← List.map_take, ← List.map_drop, ↓reduceIte, reduceCtorEq, Nat.reduceEqDiff, forall_const, implies_true, Nat.reduceAdd, Nat.reduceSub, Nat.reduceMul, Nat.reduceLT, Nat.reduceLeDiff, Int.reduceToNat, Int.reduceAdd, Int.reduceSub, Int.reduceNeg, Int.reduceMul, Int.reduceLT, Int.reduceLE, Int.reduceEq]
    · have e : befF a b = false := by simp [befF, h2, h3]
      have h1' : ¬ b.rank < b.rank := by omega
      rw [e]
      simp (disch := first | omega | (simp only [List.length_cons, List.length_nil, List.length_map, List.length_drop]; omega)) only [a34, gstR, h1', h2, h3, decide_true, decide_false, List.take_succ_cons, List.take_zero, evSt, ↓evPre, ↓evPreW, evPost, evPostW, ← List.map_take, ← List.map_drop, ↓reduceIte, reduceCtorEq, Nat.reduceEqDiff, forall_const, implies_true, Nat.reduceAdd, Nat.reduceSub, Nat.reduceMul, Nat.reduceLT, Nat.reduceLeDiff, Int.reduceToNat, Int.reduceAdd, Int.reduceSub, Int.reduceNeg, Int.reduceMul, Int.reduceLT, Int.reduceLE, Int.reduceEq]
  · have e : befF a b = false := by simp [befF, h1, h2]
    rw [e]
    simp (disch := first | omega | (simp only [List.length_cons, List.length_nil, List.length_map, List.length_drop]; omega)) only [a34, gstR, h1, h2, decide_true, decide_false, List.take_succ_cons, List.take_zero, evSt, ↓evPre, ↓evPreW, evPost, evPostW, ← List.map_take, ← List.map_drop, ↓reduceIte, reduceCtorEq, Nat.reduceEqDiff, forall_const, implies_true, Nat.reduceAdd, Nat.reduceSub, Nat.reduceMul, Nat.reduceLT, Nat.reduceLeDiff, Int.reduceToNat, Int.reduceAdd, Int.reduceSub, Int.reduceNeg, Int.reduceMul, Int.reduceLT, Int.reduceLE, Int.reduceEq]

theorem imm_gstR (l : List Gst) : ∀ r ∈ l.map gstR, r.length = 3 ∧ V.allImm r = true := fun r hr => by
  obtain ⟨_, _, rfl⟩ := List.mem_map.1 hr
  exact ⟨rfl, rfl⟩
theorem imm_nR (l : List Nat) : ∀ r ∈ l.map nR, r.length = 1 ∧ V.allImm r = true := fun r hr => by
  obtain ⟨_, _, rfl⟩ := List.mem_map.1 hr
  exact ⟨rfl, rfl⟩
theorem guests_A (l : List Gst) (S : Store) (hl : l.length ≤ 1000) : CallA Tryd.prog 14 [gSl l] S fun r S' => r = gSl l ∧ S' = S := by
  refine CallA.withNeat Tryd.func14 c14 fun hn => ?_
  refine CallA.fin Tryd.func14 c14 (Nat.le_of_ble_eq_true rfl) fun σ hσ => ?_
  simp (disch := first | omega | (simp only [List.length_cons, List.length_nil, List.length_map, List.length_drop]; omega)) only [a14, gSl, evSt, ↓evPre, ↓evPreW, evPost, evPostW, ← List.map_take, ← List.map_drop, ↓reduceIte, reduceCtorEq, Nat.reduceEqDiff, forall_const, implies_true, Nat.reduceAdd, Nat.reduceSub, Nat.reduceMul, Nat.reduceLT, Nat.reduceLeDiff, Int.reduceToNat, Int.reduceAdd, Int.reduceSub, Int.reduceNeg, Int.reduceMul, Int.reduceLT, Int.reduceLE, Int.reduceEq]
  refine LoopA.ghost 3 0 60 3 (by simp only [↓evPre, ↓evPreW, evPost, evPostW, ← List.map_take, ← List.map_drop, ↓reduceIte, reduceCtorEq, Nat.reduceEqDiff, forall_const, implies_true, Nat.reduceAdd, Nat.reduceSub, Nat.reduceMul, Nat.reduceLT, Nat.reduceLeDiff, Int.reduceToNat, Int.reduceAdd, Int.reduceSub, Int.reduceNeg, Int.reduceMul, Int.reduceLT, Int.reduceLE, Int.reduceEq]) ?_
  refine loopA (ι := Nat) (fun k => [(0, gSl l), (3, .msl S.length k 0 k), (4, .int .i64 k)]) (fun k => S ++ [⟨k, some (.arr 60 3 ((l.take k).map gstR))⟩]) (fun k => k ≤ l.length) (fun k => l.length - k) 0 (Nat.zero_le _) ?_ ?_ ?_
  · simp only [gSl, ↓evPre, ↓evPreW, evPost, evPostW, ← List.map_take, ← List.map_drop, ↓reduceIte, reduceCtorEq, Nat.reduceEqDiff, forall_const, implies_true, Nat.reduceAdd, Nat.reduceSub, Nat.reduceMul, Nat.reduceLT, Nat.reduceLeDiff, Int.reduceToNat, Int.reduceAdd, Int.reduceSub, Int.reduceNeg, Int.reduceMul, Int.reduceLT, Int.reduceLE, Int.reduceEq]
  · simp
  · intro k hk
    cases hc : l[k]? with
    | none =>
      have hge := List.getElem?_eq_none_iff.1 hc
      have hlt : ¬ (k : Int) < l.length := by omega
      have e : k = l.length := by omega
      subst e
      rw [List.take_length]
      simp (disch := first | omega | (simp only [List.length_cons, List.length_nil, List.length_map, List.length_drop]; omega)) only [gSl, hlt, List.length_map, decide_false, evSt, ↓evPre, ↓evPreW, evPost, evPostW, ← List.map_take, ← List.map_drop, ↓reduceIte, reduceCtorEq, Nat.reduceEqDiff, forall_const, implies_true, Nat.reduceAdd, Nat.reduceSub, Nat.reduceMul, Nat.reduceLT, Nat.reduceLeDiff, Int.reduceToNat, Int.reduceAdd, Int.reduceSub, Int.reduceNeg, Int.reduceMul, Int.reduceLT, Int.reduceLE, Int.reduceEq]
      exact ⟨_, S, hn.fgt _, .sl (t := 60) (Nat.le_refl _) (by rw [ob_app0, ob_head]) (by simp) (imm_gstR l), Nat.le_refl _, rfl, rfl⟩
    | some c =>
      have hkl := (List.getElem?_eq_some_iff.1 hc).1
      have hlt : (k : Int) < l.length := by omega
      have ht : (l.take k).map gstR ++ [[.int .i64 c.tic, .int .i64 c.rank, .int .i64 c.since]] = (l.take (k + 1)).map gstR := by rw [List.take_add_one, hc]; simp [gstR]
      have htl : (l.take k).length = k := by rw [List.length_take]; omega
      simp (disch := first | omega | (simp only [List.length_cons, List.length_nil, List.length_map, List.length_drop]; omega)) only [gSl, gstR, hlt, hc, ht, htl, wrap_i64, List.length_map, decide_true, List.getElem?_map, Option.map_some, evSt, ↓evPre, ↓evPreW, evPost, evPostW, ← List.map_take, ← List.map_drop, ↓reduceIte, reduceCtorEq, Nat.reduceEqDiff, forall_const, implies_true, Nat.reduceAdd, Nat.reduceSub, Nat.reduceMul, Nat.reduceLT, Nat.reduceLeDiff, Int.reduceToNat, Int.reduceAdd, Int.reduceSub, Int.reduceNeg, Int.reduceMul, Int.reduceLT, Int.reduceLE, Int.reduceEq]
      exact ⟨by unfold roomA; omega, k + 1, by omega, by omega, ⟨rfl, by omega⟩, rfl⟩

theorem fgt1 {S : Store} (hn : Neat S) (v : Nat) (a : List Nat) (T : Store) : Fgt (S ++ ⟨v, some (.arr 3 1 (a.map nR))⟩ :: T) (S ++ [⟨v, some (.arr 3 1 (a.map nR))⟩]) :=
  hn.fgtL (L := ⟨v, some (.arr 3 1 (a.map nR))⟩ :: T) (L1 := [⟨v, some (.arr 3 1 (a.map nR))⟩]) ⟨rfl, ⟨_, rfl, .imm (imm_nR _)⟩, by cases T <;> trivial⟩
theorem reforder_A (l : List Gst) (S : Store) (hl : l.length ≤ 1000) : CallA Tryd.prog 17 [gSl l] S fun r S' => r = oSl (orderF l) ∧ S' = S := by
  refine CallA.withNeat Tryd.func17 c17 fun hn => ?_
  refine CallA.fin Tryd.func17 c17 (Nat.le_of_ble_eq_true rfl) fun σ hσ => ?_
  simp (disch := first | omega | (simp only [List.length_cons, List.length_nil, List.length_map, List.length_drop]; omega)) only [a17, gSl, evSt, ↓evPre, ↓evPreW, evPost, evPostW, ← List.map_take, ← List.map_drop, ↓reduceIte, reduceCtorEq, Nat.reduceEqDiff, forall_const, implies_true, Nat.reduceAdd, Nat.reduceSub, Nat.reduceMul, Nat.reduceLT, Nat.reduceLeDiff, Int.reduceToNat, Int.reduceAdd, Int.reduceSub, Int.reduceNeg, Int.reduceMul, Int.reduceLT, Int.reduceLE, Int.reduceEq]
  refine LoopA.ghost 3 0 3 1 (by simp only [↓evPre, ↓evPreW, evPost, evPostW, ← List.map_take, ← List.map_drop, ↓reduceIte, reduceCtorEq, Nat.reduceEqDiff, forall_const, implies_true, Nat.reduceAdd, Nat.reduceSub, Nat.reduceMul, Nat.reduceLT, Nat.reduceLeDiff, Int.reduceToNat, Int.reduceAdd, Int.reduceSub, Int.reduceNeg, Int.reduceMul, Int.reduceLT, Int.reduceLE, Int.reduceEq]) ?_
  refine loopF (ι := Nat) (fun i => [(0, gSl l), (3, .msl S.length (2 * i) 0 i), (4, .int .i64 i)]) (fun i => S ++ [⟨2 * i, some (.arr 3 1 ((refO l i).map nR))⟩]) (fun i => i ≤ l.length) (fun i => l.length - i) (fun i hi => by rw [hσ]; simp) 0 (Nat.zero_le _) (.inl ⟨?_, ?_⟩) ?_
  · simp only [gSl, ↓evPre, ↓evPreW, evPost, evPostW, ← List.map_take, ← List.map_drop, ↓reduceIte, reduceCtorEq, Nat.reduceEqDiff, forall_const, implies_true, Nat.reduceAdd, Nat.reduceSub, Nat.reduceMul, Nat.reduceLT, Nat.reduceLeDiff, Int.reduceToNat, Int.reduceAdd, Int.reduceSub, Int.reduceNeg, Int.reduceMul, Int.reduceLT, Int.reduceLE, Int.reduceEq]
  · simp [refO]
  · intro i hi
    have hrl := ref_len l i
    by_cases hil : i < l.length
    · have hlt : (i : Int) < l.length := by omega
      have hci : l[i]? = some (gk l i) := by have := List.getElem?_eq_getElem hil; rw [gk_get this]; exact this
      simp (disch := first | omega | (simp only [List.length_cons, List.length_nil, List.length_map, List.length_drop]; omega)) only [gSl, hlt, List.length_map, decide_true, evSt, ↓evPre, ↓evPreW, evPost, evPostW, ← List.map_take, ← List.map_drop, ↓reduceIte, reduceCtorEq, Nat.reduceEqDiff, forall_const, implies_true, Nat.reduceAdd, Nat.reduceSub, Nat.reduceMul, Nat.reduceLT, Nat.reduceLeDiff, Int.reduceToNat, Int.reduceAdd, Int.reduceSub, Int.reduceNeg, Int.reduceMul, Int.reduceLT, Int.reduceLE, Int.reduceEq]
      refine loopA (ι := Nat) (fun k => [(0, gSl l), (3, .msl S.length (2 * i) 0 i), (4, .int .i64 i), (5, .int .i64 k)]) (fun _ => S ++ [⟨2 * i, some (.arr 3 1 ((refO l i).map nR))⟩]) (fun k => k ≤ i ∧ ∀ x ∈ (refO l i).take k, befG l i x = true) (fun k => i - k) 0 ⟨Nat.zero_le _, fun x hx => by simp at hx⟩ ?_ rfl ?_
      · simp only [gSl, ↓evPre, ↓evPreW, evPost, evPostW, ← List.map_take, ← List.map_drop, ↓reduceIte, reduceCtorEq, Nat.reduceEqDiff, forall_const, implies_true, Nat.reduceAdd, Nat.reduceSub, Nat.reduceMul, Nat.reduceLT, Nat.reduceLeDiff, Int.reduceToNat, Int.reduceAdd, Int.reduceSub, Int.reduceNeg, Int.reduceMul, Int.reduceLT, Int.reduceLE, Int.reduceEq]
      · rintro k ⟨hk, hb⟩
        -- where the search ends
        have done : ∀ (hx : ∀ x, (refO l i)[k]? = some x → befG l i x = false), (refO l i).take k ++ i :: (refO l i).drop k = refO l (i + 1) := fun hx => by
          rw [refO, insF, tw_len (by omega) hb hx]
        cases hx : (refO l i)[k]? with
        | none =>
          have hge := List.getElem?_eq_none_iff.1 hx
          have hlt2 : ¬ (k : Int) < i := by omega
          have hki : k = i := by omega
          have hd := done (fun x h => by rw [hx] at h; cases h)
          subst hki
          have hdm : (refO l (k + 1)).map nR = ((refO l k).map nR).take k ++ [.int .i64 k] :: ((refO l k).map nR).drop k := by rw [← hd, List.map_append, List.map_cons, List.map_take, List.map_drop]; rfl
          have htk : (((refO l k).map nR).drop k).take (k - k) = ((refO l k).map nR).drop k := List.take_of_length_le (by simp; omega)
          simp (disch := first | omega | (simp only [List.length_cons, List.length_nil, List.length_map, List.length_drop]; omega)) only [gSl, gstR, nR, hlt, hlt2, htk, Int.le_refl, if_true, wrap_i64, List.length_map, Int.toNat_natCast, decide_true, decide_false, Nat.zero_add, List.getElem?_map, Option.map_some, List.append_assoc, List.cons_append, List.nil_append, List.take_succ_cons, List.take_zero, evSt, ↓evPre, ↓evPreW, evPost, evPostW, ← List.map_take, ← List.map_drop, ↓reduceIte, reduceCtorEq, Nat.reduceEqDiff, forall_const, implies_true, Nat.reduceAdd, Nat.reduceSub, Nat.reduceMul, Nat.reduceLT, Nat.reduceLeDiff, Int.reduceToNat, Int.reduceAdd, Int.reduceSub, Int.reduceNeg, Int.reduceMul, Int.reduceLT, Int.reduceLE, Int.reduceEq]
          have e1 : ((refO l k).drop k).take (k - k) = (refO l k).drop k := List.take_of_length_le (by simp; omega)
          have e2 : ((refO l k).drop k).length = k - k := by simp; omega
          have e3 : ((refO l k).take k).length = k := by simp; omega
          have e4 : List.take (1 + (k - k)) ([.int .i64 (k : Int)] :: List.map nR ((refO l k).drop k)) = [.int .i64 (k : Int)] :: List.map nR ((refO l k).drop k) := List.take_of_length_le (by rw [List.length_cons, List.length_map, e2]; omega)
          have e5 : ([V.int .i64 (k : Int)] :: List.map nR ((refO l k).drop k)).length = 1 + (k - k) := by rw [List.length_cons, List.length_map, e2]; omega
          have e6 : k + (1 + (k - k)) = k + 1 := by omega
          have e7 : List.map nR ((refO l k).take k) ++ [.int .i64 (k : Int)] :: List.map nR ((refO l k).drop k) = (refO l (k + 1)).map nR := by rw [← hd, List.map_append, List.map_cons]; rfl
          simp only [e1, e2, e3, e4, e5, e6, e7, true_and]
          refine ⟨by unfold roomA; omega, by unfold roomA; omega, k + 1, by omega, by omega, back_under (fgt1 hn _ _ _) ⟨rfl, rfl, rfl, trivial⟩ (by simp [V.under, gSl])⟩
        | some x =>
          have hxl := (List.getElem?_eq_some_iff.1 hx).1
          have hle : (k : Int) ≤ i := by omega
          have hxi := ref_mem (List.mem_of_getElem? hx)
          have hlt2 : (k : Int) < i := by omega
          have hcx : l[x]? = some (gk l x) := by have := List.getElem?_eq_getElem (show x < l.length by omega); rw [gk_get this]; exact this
          simp (disch := first | omega | (simp only [List.length_cons, List.length_nil, List.length_map, List.length_drop]; omega)) only [gSl, gstR, nR, hlt, hlt2, hx, hcx, hci, wrap_i64, List.length_map, Int.toNat_natCast, decide_true, decide_false, Nat.zero_add, List.getElem?_map, Option.map_some, List.append_assoc, List.cons_append, List.nil_append, List.take_succ_cons, List.take_zero, evSt, ↓evPre, ↓evPreW, evPost, evPostW, ← List.map_take, ← List.map_drop, ↓reduceIte, reduceCtorEq, Nat.reduceEqDiff, forall_const, implies_true, Nat.reduceAdd, Nat.reduceSub, Nat.reduceMul, Nat.reduceLT, Nat.reduceLeDiff, Int.reduceToNat, Int.reduceAdd, Int.reduceSub, Int.reduceNeg, Int.reduceMul, Int.reduceLT, Int.reduceLE, Int.reduceEq]
          refine (before_A (gk l x) (gk l i) _).then ?_
          cases hbf : befF (gk l x) (gk l i) with
          | true =>
            simp (disch := first | omega | (simp only [List.length_cons, List.length_nil, List.length_map, List.length_drop]; omega)) only [gSl, gstR, wrap_i64, decide_true, decide_false, evSt, ↓evPre, ↓evPreW, evPost, evPostW, ← List.map_take, ← List.map_drop, ↓reduceIte, reduceCtorEq, Nat.reduceEqDiff, forall_const, implies_true, Nat.reduceAdd, Nat.reduceSub, Nat.reduceMul, Nat.reduceLT, Nat.reduceLeDiff, Int.reduceToNat, Int.reduceAdd, Int.reduceSub, Int.reduceNeg, Int.reduceMul, Int.reduceLT, Int.reduceLE, Int.reduceEq]
            refine ⟨k + 1, ⟨by omega, fun y hy => ?_⟩, by omega, rfl⟩
            rw [List.take_add_one, hx] at hy
            rcases List.mem_append.1 hy with hy | hy
            · exact hb y hy
            · simp at hy; subst hy; exact hbf
          | false =>
            have hd := done (fun y h => by rw [hx] at h; cases h; exact hbf)
            have hdm : (refO l (i + 1)).map nR = ((refO l i).map nR).take k ++ [.int .i64 i] :: ((refO l i).map nR).drop k := by rw [← hd, List.map_append, List.map_cons, List.map_take, List.map_drop]; rfl
            have htk : (((refO l i).map nR).drop k).take (i - k) = ((refO l i).map nR).drop k := List.take_of_length_le (by simp; omega)
            simp (disch := first | omega | (simp only [List.length_cons, List.length_nil, List.length_map, List.length_drop]; omega)) only [gSl, gstR, nR, hlt, hlt2, hle, htk, Int.le_refl, if_true, wrap_i64, List.length_map, Int.toNat_natCast, decide_true, decide_false, Nat.zero_add, List.getElem?_map, Option.map_some, List.append_assoc, List.cons_append, List.nil_append, List.take_succ_cons, List.take_zero, evSt, ↓evPre, ↓evPreW, evPost, evPostW, ← List.map_take, ← List.map_drop, ↓reduceIte, reduceCtorEq, Nat.reduceEqDiff, forall_const, implies_true, Nat.reduceAdd, Nat.reduceSub, Nat.reduceMul, Nat.reduceLT, Nat.reduceLeDiff, Int.reduceToNat, Int.reduceAdd, Int.reduceSub, Int.reduceNeg, Int.reduceMul, Int.reduceLT, Int.reduceLE, Int.reduceEq]
            have e1 : ((refO l i).drop k).take (i - k) = (refO l i).drop k := List.take_of_length_le (by simp; omega)
            have e2 : ((refO l i).drop k).length = i - k := by simp; omega
            have e3 : ((refO l i).take k).length = k := by simp; omega
            have e4 : List.take (1 + (i - k)) ([.int .i64 (i : Int)] :: List.map nR ((refO l i).drop k)) = [.int .i64 (i : Int)] :: List.map nR ((refO l i).drop k) := List.take_of_length_le (by rw [List.length_cons, List.length_map, e2]; omega)
            have e5 : ([V.int .i64 (i : Int)] :: List.map nR ((refO l i).drop k)).length = 1 + (i - k) := by rw [List.length_cons, List.length_map, e2]; omega
            have e6 : k + (1 + (i - k)) = i + 1 := by omega
            have e7 : List.map nR ((refO l i).take k) ++ [.int .i64 (i : Int)] :: List.map nR ((refO l i).drop k) = (refO l (i + 1)).map nR := by rw [← hd, List.map_append, List.map_cons]; rfl
            simp only [e1, e2, e3, e4, e5, e6, e7, true_and]
            refine ⟨by unfold roomA; omega, by unfold roomA; omega, i + 1, by omega, by omega, back_under (fgt1 hn _ _ _) ⟨rfl, rfl, rfl, trivial⟩ (by simp [V.under, gSl])⟩
    · have hlt : ¬ (i : Int) < l.length := by omega
      have e : i = l.length := by omega
      subst e
      simp (disch := first | omega | (simp only [List.length_cons, List.length_nil, List.length_map, List.length_drop]; omega)) only [gSl, hlt, List.length_map, decide_false, evSt, ↓evPre, ↓evPreW, evPost, evPostW, ← List.map_take, ← List.map_drop, ↓reduceIte, reduceCtorEq, Nat.reduceEqDiff, forall_const, implies_true, Nat.reduceAdd, Nat.reduceSub, Nat.reduceMul, Nat.reduceLT, Nat.reduceLeDiff, Int.reduceToNat, Int.reduceAdd, Int.reduceSub, Int.reduceNeg, Int.reduceMul, Int.reduceLT, Int.reduceLE, Int.reduceEq]
      rw [ref_order]
      exact ⟨_, S, hn.fgt _, .sl (t := 3) (Nat.le_refl _) (by rw [ob_app0, ob_head]) (by rw [List.length_map, (show (orderF l).length = l.length by have := (orderF_spec l).1.length_eq; simpa using this)]) (imm_nR _), Nat.le_refl _, rfl, rfl⟩

theorem refaccept_A (l : List Gst) (seats : Int) (S : Store) (hl : l.length ≤ 1000) : CallA Tryd.prog 13 [gSl l, .int .i64 seats] S fun r S' => r = .tup [oSl ((orderF l).take (nSeats l seats)), oSl ((orderF l).drop (nSeats l seats))] ∧ S' = S := by
  refine CallA.keep Tryd.func13 c13 (Nat.le_of_ble_eq_true rfl) fun σ hσ => ?_
  have hlen : (orderF l).length = l.length := by have := (orderF_spec l).1.length_eq; simpa using this
  have hns : min (max seats 0) ((orderF l).length : Int) = (nSeats l seats : Nat) := by rw [hlen, nSeats]; omega
  have hle : nSeats l seats ≤ (orderF l).length := by omega
  generalize nSeats l seats = n at hns hle ⊢
  have hle2 : (n : Int) ≤ (orderF l).length := by omega
  have h0 : (0 : Int) ≤ n := by omega
  have hc3 : (0 : Int) ≤ n ∧ (n : Int) ≤ n ∧ (n : Int) ≤ ((orderF l).map nR).length := ⟨h0, Int.le_refl _, by rw [List.length_map]; exact hle2⟩
  have hsub : (orderF l).length - n = ((orderF l).drop n).length := by simp
  simp (disch := first | omega | (simp only [List.length_cons, List.length_nil, List.length_map, List.length_drop]; omega)) only [a13, gSl, evSt, ↓evPre, ↓evPreW, evPost, evPostW, ← List.map_take, ← List.map_drop, ↓reduceIte, reduceCtorEq, Nat.reduceEqDiff, forall_const, implies_true, Nat.reduceAdd, Nat.reduceSub, Nat.reduceMul, Nat.reduceLT, Nat.reduceLeDiff, Int.reduceToNat, Int.reduceAdd, Int.reduceSub, Int.reduceNeg, Int.reduceMul, Int.reduceLT, Int.reduceLE, Int.reduceEq]
  refine CallA.then (reforder_A l S hl) ?_
  simp (disch := first | omega | (simp only [List.length_cons, List.length_nil, List.length_map, List.length_drop]; omega)) only [oSl, hns, hle2, h0, xo_sl3s hc3, Int.le_refl, List.length_map, ← List.map_take, ← List.map_drop, and_self, if_true, Int.toNat_natCast, hsub, List.take_length, evSt, ↓evPre, ↓evPreW, evPost, evPostW, ← List.map_take, ← List.map_drop, ↓reduceIte, reduceCtorEq, Nat.reduceEqDiff, forall_const, implies_true, Nat.reduceAdd, Nat.reduceSub, Nat.reduceMul, Nat.reduceLT, Nat.reduceLeDiff, Int.reduceToNat, Int.reduceAdd, Int.reduceSub, Int.reduceNeg, Int.reduceMul, Int.reduceLT, Int.reduceLE, Int.reduceEq]

theorem oi (l : List Nat) : oSl l = iSl (l.map fun n : Nat => (n : Int)) := by simp [oSl, iSl, nR, List.map_map, Function.comp_def]
theorem intsO_A (l : List Nat) (S : Store) (hl : l.length ≤ 1000) : CallA Tryd.prog 15 [oSl l, oSl l] S fun r S' => r = .bool true ∧ S' = S := by
  rw [oi]
  have := ints_A (l.map fun n : Nat => (n : Int)) (l.map fun n : Nat => (n : Int)) S (by simp; omega)
  rwa [decide_eq_true rfl] at this

theorem law_corders (l : List Gst) (seats : Int) (S : Store) (hl : l.length ≤ 1048576) : CallA Tryd.prog 4 [gSl l, .int .i64 seats] S fun r S' => r = .bool true ∧ S' = S := by
  refine CallA.keep Tryd.func4 c4 (Nat.le_of_ble_eq_true rfl) fun σ hσ => ?_
  by_cases g1 : 60 < l.length
  · have g1' : (60 : Int) < l.length := by omega
    simp (disch := first | omega | (simp only [List.length_cons, List.length_nil, List.length_map, List.length_drop]; omega)) only [a4, gSl, g1', List.length_map, decide_true, ↓evPre, ↓evPreW, evPost, evPostW, ← List.map_take, ← List.map_drop, ↓reduceIte, reduceCtorEq, Nat.reduceEqDiff, forall_const, implies_true, Nat.reduceAdd, Nat.reduceSub, Nat.reduceMul, Nat.reduceLT, Nat.reduceLeDiff, Int.reduceToNat, Int.reduceAdd, Int.reduceSub, Int.reduceNeg, Int.reduceMul, Int.reduceLT, Int.reduceLE, Int.reduceEq]
    refine (awake_A S).then ?_
    simp only [↓evPre, ↓evPreW, evPost, evPostW, ← List.map_take, ← List.map_drop, ↓reduceIte, reduceCtorEq, Nat.reduceEqDiff, forall_const, implies_true, Nat.reduceAdd, Nat.reduceSub, Nat.reduceMul, Nat.reduceLT, Nat.reduceLeDiff, Int.reduceToNat, Int.reduceAdd, Int.reduceSub, Int.reduceNeg, Int.reduceMul, Int.reduceLT, Int.reduceLE, Int.reduceEq]
  have g1' : ¬ (60 : Int) < l.length := by omega
  have hlen : (orderF l).length = l.length := by have := (orderF_spec l).1.length_eq; simpa using this
  simp (disch := first | omega | (simp only [List.length_cons, List.length_nil, List.length_map, List.length_drop]; omega)) only [a4, gSl, g1', List.length_map, decide_false, ↓evPre, ↓evPreW, evPost, evPostW, ← List.map_take, ← List.map_drop, ↓reduceIte, reduceCtorEq, Nat.reduceEqDiff, forall_const, implies_true, Nat.reduceAdd, Nat.reduceSub, Nat.reduceMul, Nat.reduceLT, Nat.reduceLeDiff, Int.reduceToNat, Int.reduceAdd, Int.reduceSub, Int.reduceNeg, Int.reduceMul, Int.reduceLT, Int.reduceLE, Int.reduceEq]
  refine CallA.then (accept_A l seats S (by omega)) ?_
  simp (disch := first | omega | (simp only [List.length_cons, List.length_nil, List.length_map, List.length_drop]; omega)) only [↓evPre, ↓evPreW, evPost, evPostW, ← List.map_take, ← List.map_drop, ↓reduceIte, reduceCtorEq, Nat.reduceEqDiff, forall_const, implies_true, Nat.reduceAdd, Nat.reduceSub, Nat.reduceMul, Nat.reduceLT, Nat.reduceLeDiff, Int.reduceToNat, Int.reduceAdd, Int.reduceSub, Int.reduceNeg, Int.reduceMul, Int.reduceLT, Int.reduceLE, Int.reduceEq]
  refine CallA.then (guests_A l S (by omega)) ?_
  simp (disch := first | omega | (simp only [List.length_cons, List.length_nil, List.length_map, List.length_drop]; omega)) only [gSl, ↓evPre, ↓evPreW, evPost, evPostW, ← List.map_take, ← List.map_drop, ↓reduceIte, reduceCtorEq, Nat.reduceEqDiff, forall_const, implies_true, Nat.reduceAdd, Nat.reduceSub, Nat.reduceMul, Nat.reduceLT, Nat.reduceLeDiff, Int.reduceToNat, Int.reduceAdd, Int.reduceSub, Int.reduceNeg, Int.reduceMul, Int.reduceLT, Int.reduceLE, Int.reduceEq]
  refine CallA.then (refaccept_A l seats S (by omega)) ?_
  simp (disch := first | omega | (simp only [List.length_cons, List.length_nil, List.length_map, List.length_drop]; omega)) only [gSl, ↓evPre, ↓evPreW, evPost, evPostW, ← List.map_take, ← List.map_drop, ↓reduceIte, reduceCtorEq, Nat.reduceEqDiff, forall_const, implies_true, Nat.reduceAdd, Nat.reduceSub, Nat.reduceMul, Nat.reduceLT, Nat.reduceLeDiff, Int.reduceToNat, Int.reduceAdd, Int.reduceSub, Int.reduceNeg, Int.reduceMul, Int.reduceLT, Int.reduceLE, Int.reduceEq]
  refine CallA.then (order_A l S (by omega)) ?_
  simp (disch := first | omega | (simp only [List.length_cons, List.length_nil, List.length_map, List.length_drop]; omega)) only [gSl, ↓evPre, ↓evPreW, evPost, evPostW, ← List.map_take, ← List.map_drop, ↓reduceIte, reduceCtorEq, Nat.reduceEqDiff, forall_const, implies_true, Nat.reduceAdd, Nat.reduceSub, Nat.reduceMul, Nat.reduceLT, Nat.reduceLeDiff, Int.reduceToNat, Int.reduceAdd, Int.reduceSub, Int.reduceNeg, Int.reduceMul, Int.reduceLT, Int.reduceLE, Int.reduceEq]
  refine CallA.then (guests_A l S (by omega)) ?_
  simp (disch := first | omega | (simp only [List.length_cons, List.length_nil, List.length_map, List.length_drop]; omega)) only [gSl, ↓evPre, ↓evPreW, evPost, evPostW, ← List.map_take, ← List.map_drop, ↓reduceIte, reduceCtorEq, Nat.reduceEqDiff, forall_const, implies_true, Nat.reduceAdd, Nat.reduceSub, Nat.reduceMul, Nat.reduceLT, Nat.reduceLeDiff, Int.reduceToNat, Int.reduceAdd, Int.reduceSub, Int.reduceNeg, Int.reduceMul, Int.reduceLT, Int.reduceLE, Int.reduceEq]
  refine CallA.then (reforder_A l S (by omega)) ?_
  simp (disch := first | omega | (simp only [List.length_cons, List.length_nil, List.length_map, List.length_drop]; omega)) only [↓evPre, ↓evPreW, evPost, evPostW, ← List.map_take, ← List.map_drop, ↓reduceIte, reduceCtorEq, Nat.reduceEqDiff, forall_const, implies_true, Nat.reduceAdd, Nat.reduceSub, Nat.reduceMul, Nat.reduceLT, Nat.reduceLeDiff, Int.reduceToNat, Int.reduceAdd, Int.reduceSub, Int.reduceNeg, Int.reduceMul, Int.reduceLT, Int.reduceLE, Int.reduceEq]
  refine CallA.then (intsO_A (orderF l) S (by omega)) ?_
  simp (disch := first | omega | (simp only [List.length_cons, List.length_nil, List.length_map, List.length_drop]; omega)) only [↓evPre, ↓evPreW, evPost, evPostW, ← List.map_take, ← List.map_drop, ↓reduceIte, reduceCtorEq, Nat.reduceEqDiff, forall_const, implies_true, Nat.reduceAdd, Nat.reduceSub, Nat.reduceMul, Nat.reduceLT, Nat.reduceLeDiff, Int.reduceToNat, Int.reduceAdd, Int.reduceSub, Int.reduceNeg, Int.reduceMul, Int.reduceLT, Int.reduceLE, Int.reduceEq]
  refine CallA.then (intsO_A ((orderF l).take (nSeats l seats)) S (by rw [List.length_take]; omega)) ?_
  simp (disch := first | omega | (simp only [List.length_cons, List.length_nil, List.length_map, List.length_drop]; omega)) only [↓evPre, ↓evPreW, evPost, evPostW, ← List.map_take, ← List.map_drop, ↓reduceIte, reduceCtorEq, Nat.reduceEqDiff, forall_const, implies_true, Nat.reduceAdd, Nat.reduceSub, Nat.reduceMul, Nat.reduceLT, Nat.reduceLeDiff, Int.reduceToNat, Int.reduceAdd, Int.reduceSub, Int.reduceNeg, Int.reduceMul, Int.reduceLT, Int.reduceLE, Int.reduceEq]
  refine CallA.then (intsO_A ((orderF l).drop (nSeats l seats)) S (by rw [List.length_drop]; omega)) ?_
  simp (disch := first | omega | (simp only [List.length_cons, List.length_nil, List.length_map, List.length_drop]; omega)) only [↓evPre, ↓evPreW, evPost, evPostW, ← List.map_take, ← List.map_drop, ↓reduceIte, reduceCtorEq, Nat.reduceEqDiff, forall_const, implies_true, Nat.reduceAdd, Nat.reduceSub, Nat.reduceMul, Nat.reduceLT, Nat.reduceLeDiff, Int.reduceToNat, Int.reduceAdd, Int.reduceSub, Int.reduceNeg, Int.reduceMul, Int.reduceLT, Int.reduceLE, Int.reduceEq]
  refine (awake_A S).then ?_
  simp only [↓evPre, ↓evPreW, evPost, evPostW, ← List.map_take, ← List.map_drop, ↓reduceIte, reduceCtorEq, Nat.reduceEqDiff, forall_const, implies_true, Nat.reduceAdd, Nat.reduceSub, Nat.reduceMul, Nat.reduceLT, Nat.reduceLeDiff, Int.reduceToNat, Int.reduceAdd, Int.reduceSub, Int.reduceNeg, Int.reduceMul, Int.reduceLT, Int.reduceLE, Int.reduceEq]
end Go.Proofs.YteeenlgoildmiabDoor
