/- The reference: the shortest way. -/
import Derived.Test.YtbbjjnhcbfdhlaaMil6
namespace Go.Proofs.Ytbbjjnhcbfdhlaa
open Go Go.AL
set_option linter.unusedSimpArgs false
set_option linter.unusedVariables false

def namesF (ds : List Dst) (f : Txt) : List Txt := f :: ds.flatMap fun d => [d.fr, d.to]
def start (f : Txt) : Spots := [(f, 0)]
def cloF (ds : List Dst) (f : Txt) : Spots := closeF ds (rank (namesF ds f) (start f) + 1) (start f)
def milesF (p : List Apt × List Dst) (a b : Txt) : Int × Int :=
  if cityF p.1 a = [] ∨ cityF p.1 b = [] then (0, 14)
  else match look (cloF p.2 (cityF p.1 a)) (cityF p.1 b) with
    | some n => (n, 0)
    | none => (0, 7)

theorem names_mem {ds : List Dst} {f : Txt} : ∀ d ∈ ds, d.fr ∈ namesF ds f ∧ d.to ∈ namesF ds f := fun d hd =>
  ⟨List.mem_cons_of_mem _ (List.mem_flatMap.2 ⟨d, hd, by simp⟩), List.mem_cons_of_mem _ (List.mem_flatMap.2 ⟨d, hd, by simp⟩)⟩
theorem names_len (ds : List Dst) (f : Txt) : (namesF ds f).length = 2 * ds.length + 1 := by
  unfold namesF
  rw [List.length_cons, List.length_flatMap]
  congr 1
  induction ds with
  | nil => rfl
  | cons d ds ih => simp only [List.map_cons, List.sum_cons, List.length_cons, List.length_nil] at ih ⊢; omega
theorem start_inv (ds : List Dst) (f : Txt) : InvL (namesF ds f) (start f) := by
  have : un (namesF ds f) (start f) ≤ (namesF ds f).length := List.length_filter_le _ _
  refine ⟨fun p hp => ?_, by simp only [start, List.length_cons, List.length_nil] at this ⊢; omega⟩
  simp only [start, List.mem_singleton] at hp
  subst hp
  refine ⟨Int.le_refl _, ?_⟩
  simp only
  omega
theorem cloF_clo (ds : List Dst) (f : Txt) : Clo ds (start f) (cloF ds f) := closeF_clo names_mem _ _ (start_inv ds f) (Nat.lt_succ_self _)

/-- At the head of the rounds: what is to come, or the end. -/
def Head (ds : List Dst) (N : List Txt) (R l : Spots) (more : Bool) : Prop := InvL N l ∧ if more then Clo ds l R else l = R
theorem head_next {ds : List Dst} {N : List Txt} {R l : Spots} (hd : ∀ d ∈ ds, d.fr ∈ N ∧ d.to ∈ N) (h : Head ds N R l true) : Head ds N R (roundF ds l).1 (roundF ds l).2 ∧ (if (roundF ds l).2 then rank N (roundF ds l).1 + 1 else 0) < rank N l + 1 := by
  obtain ⟨hi, hc⟩ := h
  simp only [if_true] at hc
  have hs := round_sofar hi ds hd (l, false) ⟨hi, .inl ⟨rfl, rfl⟩⟩
  have hs1 : InvL N (roundF ds l).1 := hs.1
  cases hb : (roundF ds l).2 with
  | false =>
    refine ⟨⟨hs1, ?_⟩, by simp⟩
    cases hc with
    | stop h => simp
    | more h k => rw [hb] at h; cases h
  | true =>
    have hlt : rank N (roundF ds l).1 < rank N l := by
      rcases hs.2 with ⟨h1, _⟩ | ⟨_, h2⟩
      · rw [show (ds.foldl stepF (l, false)).2 = true from hb] at h1; cases h1
      · exact h2
    refine ⟨⟨hs1, ?_⟩, by simp; exact hlt⟩
    cases hc with
    | stop h => rw [hb] at h; cases h
    | more h k => simpa using k

theorem fold_take {ds : List Dst} {k : Nat} {d : Dst} {s0 : Spots × Bool} (h : ds[k]? = some d) : (ds.take (k + 1)).foldl stepF s0 = stepF ((ds.take k).foldl stepF s0) d := by
  rw [List.take_add_one, h, List.foldl_append]; rfl
theorem take_mem {ds : List Dst} {N : List Txt} (hd : ∀ d ∈ ds, d.fr ∈ N ∧ d.to ∈ N) (k : Nat) : ∀ d ∈ ds.take k, d.fr ∈ N ∧ d.to ∈ N := fun d h => hd d (List.mem_of_mem_take h)

theorem refmiles_A (p : List Apt × List Dst) (a b : Txt) (S : Store) (hl : p.1.length ≤ 1048576) (hd : p.2.length ≤ 1000) :
    CallA Try.prog 20 [plV p, .str a, .str b] S fun r S' => r = .tup [.int .i64 (milesF p a b).1, .int .i64 (milesF p a b).2] ∧ S' = S := by
  refine CallA.withNeat Try.func20 c20 fun hn => ?_
  refine CallA.fin Try.func20 c20 (Nat.le_of_ble_eq_true rfl) fun σ hσ => ?_
  simp (disch := first | omega | (simp only [List.length_cons, List.length_nil, List.length_map, List.length_drop]; omega)) only [a20, plV, aSl, dSl, List.take_succ_cons, List.take_zero, evSt, ↓evPre, ↓evPreW, evPost, evPostW, ← List.map_take, ← List.map_drop, ↓reduceIte, reduceCtorEq, Nat.reduceEqDiff, forall_const, implies_true, Nat.reduceAdd, Nat.reduceSub, Nat.reduceMul, Nat.reduceLT, Nat.reduceLeDiff, Int.reduceToNat, Int.reduceAdd, Int.reduceSub, Int.reduceNeg, Int.reduceMul, Int.reduceLT, Int.reduceLE, Int.reduceEq]
  refine exD.intro (rcity_A p a S hl) ?_
  simp (disch := first | omega | (simp only [List.length_cons, List.length_nil, List.length_map, List.length_drop]; omega)) only [aSl, dSl, List.take_succ_cons, List.take_zero, evSt, ↓evPre, ↓evPreW, evPost, evPostW, ← List.map_take, ← List.map_drop, ↓reduceIte, reduceCtorEq, Nat.reduceEqDiff, forall_const, implies_true, Nat.reduceAdd, Nat.reduceSub, Nat.reduceMul, Nat.reduceLT, Nat.reduceLeDiff, Int.reduceToNat, Int.reduceAdd, Int.reduceSub, Int.reduceNeg, Int.reduceMul, Int.reduceLT, Int.reduceLE, Int.reduceEq]
  refine (rcity_A p b S hl).then ?_
  unfold milesF
  generalize cityF p.1 a = f
  generalize cityF p.1 b = t
  by_cases hf : f = []
  · subst hf
    simp (disch := first | omega | (simp only [List.length_cons, List.length_nil, List.length_map, List.length_drop]; omega)) only [eq_self, true_or, if_true, decide_true, ↓evPre, ↓evPreW, evPost, evPostW, ← List.map_take, ← List.map_drop, ↓reduceIte, reduceCtorEq, Nat.reduceEqDiff, forall_const, implies_true, Nat.reduceAdd, Nat.reduceSub, Nat.reduceMul, Nat.reduceLT, Nat.reduceLeDiff, Int.reduceToNat, Int.reduceAdd, Int.reduceSub, Int.reduceNeg, Int.reduceMul, Int.reduceLT, Int.reduceLE, Int.reduceEq]
    exact ⟨_, S, hn.self, .imm rfl, Nat.le_refl _, rfl, rfl⟩
  by_cases ht : t = []
  · subst ht
    simp (disch := first | omega | (simp only [List.length_cons, List.length_nil, List.length_map, List.length_drop]; omega)) only [hf, eq_self, or_true, if_true, decide_true, decide_false, ↓evPre, ↓evPreW, evPost, evPostW, ← List.map_take, ← List.map_drop, ↓reduceIte, reduceCtorEq, Nat.reduceEqDiff, forall_const, implies_true, Nat.reduceAdd, Nat.reduceSub, Nat.reduceMul, Nat.reduceLT, Nat.reduceLeDiff, Int.reduceToNat, Int.reduceAdd, Int.reduceSub, Int.reduceNeg, Int.reduceMul, Int.reduceLT, Int.reduceLE, Int.reduceEq]
    exact ⟨_, S, hn.self, .imm rfl, Nat.le_refl _, rfl, rfl⟩
  have hnl := names_len p.2 f
  have hnm := names_mem (ds := p.2) (f := f)
  generalize hN : namesF p.2 f = N at hnl hnm
  simp (disch := first | omega | (simp only [List.length_cons, List.length_nil, List.length_map, List.length_drop]; omega)) only [hf, ht, or_self, if_false, decide_false, List.take_succ_cons, List.take_zero, evSt, ↓evPre, ↓evPreW, evPost, evPostW, ← List.map_take, ← List.map_drop, ↓reduceIte, reduceCtorEq, Nat.reduceEqDiff, forall_const, implies_true, Nat.reduceAdd, Nat.reduceSub, Nat.reduceMul, Nat.reduceLT, Nat.reduceLeDiff, Int.reduceToNat, Int.reduceAdd, Int.reduceSub, Int.reduceNeg, Int.reduceMul, Int.reduceLT, Int.reduceLE, Int.reduceEq]
  refine loopF (ι := Nat × Spots × Bool) (fun i => [(3, .cptr [aSl p.1, dSl p.2]), (9, .str t), (10, .msl S.length i.1 0 i.2.1.length), (11, .bool i.2.2)]) (fun i => S ++ [⟨i.1, some (.arr 59 2 (i.2.1.map spR))⟩])
    (fun i => Head p.2 N (cloF p.2 f) i.2.1 i.2.2) (fun i => if i.2.2 then rank N i.2.1 + 1 else 0) (fun i hi => by rw [hσ]; simp) (0, start f, true) ⟨by rw [← hN]; exact start_inv _ _, by simp only [if_true]; exact cloF_clo _ _⟩ (.inl ⟨?_, ?_⟩) ?_
  · simp only [start, aSl, dSl, ↓evPre, ↓evPreW, evPost, evPostW, ← List.map_take, ← List.map_drop, ↓reduceIte, reduceCtorEq, Nat.reduceEqDiff, forall_const, implies_true, Nat.reduceAdd, Nat.reduceSub, Nat.reduceMul, Nat.reduceLT, Nat.reduceLeDiff, Int.reduceToNat, Int.reduceAdd, Int.reduceSub, Int.reduceNeg, Int.reduceMul, Int.reduceLT, Int.reduceLE, Int.reduceEq]
  · rfl
  · rintro ⟨w, l, more⟩ hh
    simp only at hh ⊢
    cases more with
    | false =>
      obtain ⟨hi, he⟩ := hh
      simp only [Bool.false_eq_true, if_false] at he
      rw [← he]
      have hlen := hi.2
      simp (disch := first | omega | (simp only [List.length_cons, List.length_nil, List.length_map, List.length_drop]; omega)) only [evSt, ↓evPre, ↓evPreW, evPost, evPostW, ← List.map_take, ← List.map_drop, ↓reduceIte, reduceCtorEq, Nat.reduceEqDiff, forall_const, implies_true, Nat.reduceAdd, Nat.reduceSub, Nat.reduceMul, Nat.reduceLT, Nat.reduceLeDiff, Int.reduceToNat, Int.reduceAdd, Int.reduceSub, Int.reduceNeg, Int.reduceMul, Int.reduceLT, Int.reduceLE, Int.reduceEq]
      refine (reached_A l t S [] w (by omega)).then2 ?_
      cases hk : look l t with
      | none =>
        have e : lookI l t = -1 := by rw [lookI, hk]
        simp (disch := first | omega | (simp only [List.length_cons, List.length_nil, List.length_map, List.length_drop]; omega)) only [e, Int.reduceNeg, Int.reduceLT, decide_true, evSt, ↓evPre, ↓evPreW, evPost, evPostW, ← List.map_take, ← List.map_drop, ↓reduceIte, reduceCtorEq, Nat.reduceEqDiff, forall_const, implies_true, Nat.reduceAdd, Nat.reduceSub, Nat.reduceMul, Nat.reduceLT, Nat.reduceLeDiff, Int.reduceToNat, Int.reduceAdd, Int.reduceSub, Int.reduceNeg, Int.reduceMul, Int.reduceLT, Int.reduceLE, Int.reduceEq]
        exact ⟨_, S, hn.fgt _, .imm rfl, Nat.le_refl _, rfl, rfl⟩
      | some v =>
        have e : lookI l t = v := by rw [lookI, hk]
        have hv := (hi.1 _ (look_mem hk)).1
        have hv2 : ¬ v < 0 := by simp only at hv; omega
        simp (disch := first | omega | (simp only [List.length_cons, List.length_nil, List.length_map, List.length_drop]; omega)) only [e, hv2, decide_false, evSt, ↓evPre, ↓evPreW, evPost, evPostW, ← List.map_take, ← List.map_drop, ↓reduceIte, reduceCtorEq, Nat.reduceEqDiff, forall_const, implies_true, Nat.reduceAdd, Nat.reduceSub, Nat.reduceMul, Nat.reduceLT, Nat.reduceLeDiff, Int.reduceToNat, Int.reduceAdd, Int.reduceSub, Int.reduceNeg, Int.reduceMul, Int.reduceLT, Int.reduceLE, Int.reduceEq]
        exact ⟨_, S, hn.fgt _, .imm rfl, Nat.le_refl _, rfl, rfl⟩
    | true =>
      have hnx := head_next hnm hh
      have hi := hh.1
      simp (disch := first | omega | (simp only [List.length_cons, List.length_nil, List.length_map, List.length_drop]; omega)) only [dSl, List.take_succ_cons, List.take_zero, evSt, ↓evPre, ↓evPreW, evPost, evPostW, ← List.map_take, ← List.map_drop, ↓reduceIte, reduceCtorEq, Nat.reduceEqDiff, forall_const, implies_true, Nat.reduceAdd, Nat.reduceSub, Nat.reduceMul, Nat.reduceLT, Nat.reduceLeDiff, Int.reduceToNat, Int.reduceAdd, Int.reduceSub, Int.reduceNeg, Int.reduceMul, Int.reduceLT, Int.reduceLE, Int.reduceEq]
      refine loopF (ι := Nat × Nat) (fun i => [(3, .cptr [aSl p.1, dSl p.2]), (9, .str t), (10, .msl S.length i.1 0 ((p.2.take i.2).foldl stepF (l, false)).1.length), (11, .bool ((p.2.take i.2).foldl stepF (l, false)).2), (12, .int .i64 i.2)])
        (fun i => S ++ [⟨i.1, some (.arr 59 2 (((p.2.take i.2).foldl stepF (l, false)).1.map spR))⟩]) (fun i => i.2 ≤ p.2.length) (fun i => p.2.length - i.2) (fun i hi => by rw [hσ]; simp) (w, 0) (Nat.zero_le _) (.inl ⟨?_, ?_⟩) ?_
      · simp only [aSl, dSl, List.take_zero, List.foldl_nil, ↓evPre, ↓evPreW, evPost, evPostW, ← List.map_take, ← List.map_drop, ↓reduceIte, reduceCtorEq, Nat.reduceEqDiff, forall_const, implies_true, Nat.reduceAdd, Nat.reduceSub, Nat.reduceMul, Nat.reduceLT, Nat.reduceLeDiff, Int.reduceToNat, Int.reduceAdd, Int.reduceSub, Int.reduceNeg, Int.reduceMul, Int.reduceLT, Int.reduceLE, Int.reduceEq]
      · rfl
      · rintro ⟨w', k⟩ hk
        simp only at hk ⊢
        have hso := round_sofar hi (p.2.take k) (take_mem hnm k) (l, false) ⟨hi, .inl ⟨rfl, rfl⟩⟩
        cases hdk : p.2[k]? with
        | none =>
          have hlt : ¬ ((k : Int) < p.2.length) := by rw [List.getElem?_eq_none_iff] at hdk; omega
          rw [List.take_of_length_le (List.getElem?_eq_none_iff.1 hdk)]
          simp (disch := first | omega | (simp only [List.length_cons, List.length_nil, List.length_map, List.length_drop]; omega)) only [aSl, dSl, dstR, wrap_i64, hdk, hlt, List.length_map, decide_true, decide_false, List.cons_append, List.nil_append, List.getElem?_map, Option.map_some, List.take_succ_cons, List.take_zero, evSt, ↓evPre, ↓evPreW, evPost, evPostW, ← List.map_take, ← List.map_drop, ↓reduceIte, reduceCtorEq, Nat.reduceEqDiff, forall_const, implies_true, Nat.reduceAdd, Nat.reduceSub, Nat.reduceMul, Nat.reduceLT, Nat.reduceLeDiff, Int.reduceToNat, Int.reduceAdd, Int.reduceSub, Int.reduceNeg, Int.reduceMul, Int.reduceLT, Int.reduceLE, Int.reduceEq]
          exact ⟨(w', roundF p.2 l), hnx.1, hnx.2, .inl ⟨⟨rfl, rfl, rfl, rfl, trivial⟩, rfl⟩⟩
        | some d =>
          have hlt' := (List.getElem?_eq_some_iff.1 hdk).1
          have hlt : (k : Int) < p.2.length := by omega
          have hstep := fold_take (s0 := (l, false)) hdk
          rw [← refStep_eq] at hstep
          generalize hS : (p.2.take k).foldl stepF (l, false) = s at hso hstep
          obtain ⟨l1, b1⟩ := s
          have hi1 : InvL N l1 := hso.1
          have hln := hi1.2
          have fin : ∀ (w2 : Nat) (l2 : Spots) (b2 : Bool) (T : Store) (E : Env), refStepF (l1, b1) d = (l2, b2) → sub [(3, .cptr [aSl p.1, dSl p.2]), (9, .str t), (10, .msl S.length w2 0 l2.length), (11, .bool b2), (12, .int .i64 (k + 1))] E →
              ∃ i' : Nat × Nat, i'.2 ≤ p.2.length ∧ p.2.length - i'.2 < p.2.length - k ∧ Back [(3, .cptr [aSl p.1, dSl p.2]), (9, .str t), (10, .msl S.length i'.1 0 ((p.2.take i'.2).foldl stepF (l, false)).1.length), (11, .bool ((p.2.take i'.2).foldl stepF (l, false)).2), (12, .int .i64 i'.2)] (S ++ [⟨i'.1, some (.arr 59 2 (((p.2.take i'.2).foldl stepF (l, false)).1.map spR))⟩]) E (S ++ ⟨w2, some (.arr 59 2 (l2.map spR))⟩ :: T) := by
            intro w2 l2 b2 T E hr hE
            rw [hr] at hstep
            refine ⟨(w2, k + 1), by simp only; omega, by simp only; omega, ?_⟩
            simp only [hstep]
            refine back_under ?_ hE (by simp [V.under, aSl, dSl, V.allUnder])
            exact hn.fgtL (L := _ :: T) (L1 := [_]) ⟨rfl, ⟨_, rfl, .imm (fun r hr => by obtain ⟨q, _, rfl⟩ := List.mem_map.1 hr; exact ⟨rfl, rfl⟩)⟩, by cases T <;> trivial⟩
          simp (disch := first | omega | (simp only [List.length_cons, List.length_nil, List.length_map, List.length_drop]; omega)) only [aSl, dSl, dstR, wrap_i64, hdk, hlt, List.length_map, decide_true, decide_false, List.cons_append, List.nil_append, List.getElem?_map, Option.map_some, List.take_succ_cons, List.take_zero, evSt, ↓evPre, ↓evPreW, evPost, evPostW, ← List.map_take, ← List.map_drop, ↓reduceIte, reduceCtorEq, Nat.reduceEqDiff, forall_const, implies_true, Nat.reduceAdd, Nat.reduceSub, Nat.reduceMul, Nat.reduceLT, Nat.reduceLeDiff, Int.reduceToNat, Int.reduceAdd, Int.reduceSub, Int.reduceNeg, Int.reduceMul, Int.reduceLT, Int.reduceLE, Int.reduceEq]
          refine (rusable_A d _).then ?_
          cases hu : usableF d with
          | false =>
            simp (disch := first | omega | (simp only [List.length_cons, List.length_nil, List.length_map, List.length_drop]; omega)) only [aSl, dSl, dstR, wrap_i64, hdk, hlt, List.length_map, decide_true, decide_false, List.cons_append, List.nil_append, List.getElem?_map, Option.map_some, List.take_succ_cons, List.take_zero, evSt, ↓evPre, ↓evPreW, evPost, evPostW, ← List.map_take, ← List.map_drop, ↓reduceIte, reduceCtorEq, Nat.reduceEqDiff, forall_const, implies_true, Nat.reduceAdd, Nat.reduceSub, Nat.reduceMul, Nat.reduceLT, Nat.reduceLeDiff, Int.reduceToNat, Int.reduceAdd, Int.reduceSub, Int.reduceNeg, Int.reduceMul, Int.reduceLT, Int.reduceLE, Int.reduceEq]
            exact fin w' l1 b1 _ _ (by simp only [refStepF, hu, Bool.false_eq_true, if_false]) ⟨rfl, rfl, rfl, rfl, rfl, trivial⟩
          | true =>
            have hmi : 1 ≤ d.mi ∧ d.mi ≤ 20000 := by simpa [usableF] using hu
            simp (disch := first | omega | (simp only [List.length_cons, List.length_nil, List.length_map, List.length_drop]; omega)) only [aSl, dSl, dstR, wrap_i64, hdk, hlt, List.length_map, decide_true, decide_false, List.cons_append, List.nil_append, List.getElem?_map, Option.map_some, List.take_succ_cons, List.take_zero, evSt, ↓evPre, ↓evPreW, evPost, evPostW, ← List.map_take, ← List.map_drop, ↓reduceIte, reduceCtorEq, Nat.reduceEqDiff, forall_const, implies_true, Nat.reduceAdd, Nat.reduceSub, Nat.reduceMul, Nat.reduceLT, Nat.reduceLeDiff, Int.reduceToNat, Int.reduceAdd, Int.reduceSub, Int.reduceNeg, Int.reduceMul, Int.reduceLT, Int.reduceLE, Int.reduceEq]
            refine exD.intro (reached_A l1 d.fr S _ w' (by omega)) ?_
            simp (disch := first | omega | (simp only [List.length_cons, List.length_nil, List.length_map, List.length_drop]; omega)) only [aSl, dSl, dstR, wrap_i64, hdk, hlt, List.length_map, decide_true, decide_false, List.cons_append, List.nil_append, List.getElem?_map, Option.map_some, List.take_succ_cons, List.take_zero, evSt, ↓evPre, ↓evPreW, evPost, evPostW, ← List.map_take, ← List.map_drop, ↓reduceIte, reduceCtorEq, Nat.reduceEqDiff, forall_const, implies_true, Nat.reduceAdd, Nat.reduceSub, Nat.reduceMul, Nat.reduceLT, Nat.reduceLeDiff, Int.reduceToNat, Int.reduceAdd, Int.reduceSub, Int.reduceNeg, Int.reduceMul, Int.reduceLT, Int.reduceLE, Int.reduceEq]
            refine (reached_A l1 d.to S _ w' (by omega)).then2 ?_
            have hdm := hnm d (List.mem_of_getElem? hdk)
            have hneg : ¬ (0 : Int) ≤ -1 := by decide
            cases b1
            · skip
              cases hx : look l1 d.fr with
              | none =>
                have ex : lookI l1 d.fr = -1 := by rw [lookI, hx]
                cases hy : look l1 d.to with
                | none =>
                  have ey : lookI l1 d.to = -1 := by rw [lookI, hy]
                  simp (disch := first | omega | (simp only [List.length_cons, List.length_nil, List.length_map, List.length_drop]; omega)) only [ex, ey, hneg, aSl, dSl, dstR, wrap_i64, hdk, hlt, List.length_map, decide_true, decide_false, List.cons_append, List.nil_append, List.getElem?_map, Option.map_some, List.take_succ_cons, List.take_zero, evSt, ↓evPre, ↓evPreW, evPost, evPostW, ← List.map_take, ← List.map_drop, ↓reduceIte, reduceCtorEq, Nat.reduceEqDiff, forall_const, implies_true, Nat.reduceAdd, Nat.reduceSub, Nat.reduceMul, Nat.reduceLT, Nat.reduceLeDiff, Int.reduceToNat, Int.reduceAdd, Int.reduceSub, Int.reduceNeg, Int.reduceMul, Int.reduceLT, Int.reduceLE, Int.reduceEq]
                  exact fin w' l1 _ _ _ (by simp only [refStepF, hu, hx, hy, if_true]; rfl) ⟨rfl, rfl, rfl, rfl, rfl, trivial⟩
                | some y =>
                  have ey : lookI l1 d.to = y := by rw [lookI, hy]
                  have hy0 := hi1.1 _ (look_mem hy)
                  simp only at hy0
                  simp (disch := first | omega | (simp only [List.length_cons, List.length_nil, List.length_map, List.length_drop]; omega)) only [ex, ey, hneg, hy0.1, aSl, dSl, dstR, wrap_i64, hdk, hlt, List.length_map, decide_true, decide_false, List.cons_append, List.nil_append, List.getElem?_map, Option.map_some, List.take_succ_cons, List.take_zero, evSt, ↓evPre, ↓evPreW, evPost, evPostW, ← List.map_take, ← List.map_drop, ↓reduceIte, reduceCtorEq, Nat.reduceEqDiff, forall_const, implies_true, Nat.reduceAdd, Nat.reduceSub, Nat.reduceMul, Nat.reduceLT, Nat.reduceLeDiff, Int.reduceToNat, Int.reduceAdd, Int.reduceSub, Int.reduceNeg, Int.reduceMul, Int.reduceLT, Int.reduceLE, Int.reduceEq]
                  refine (reach_A l1 d.fr (y + d.mi) S _ w' (by omega)).mono ?_
                  rintro _ _ ⟨w3, rfl, rfl⟩
                  generalize hA3 : reachF l1 d.fr (y + d.mi) = A3 at *
                  obtain ⟨l3, b3⟩ := A3
                  cases b3
                  · simp (disch := first | omega | (simp only [List.length_cons, List.length_nil, List.length_map, List.length_drop]; omega)) only [aSl, dSl, dstR, wrap_i64, hdk, hlt, List.length_map, decide_true, decide_false, List.cons_append, List.nil_append, List.getElem?_map, Option.map_some, List.take_succ_cons, List.take_zero, evSt, ↓evPre, ↓evPreW, evPost, evPostW, ← List.map_take, ← List.map_drop, ↓reduceIte, reduceCtorEq, Nat.reduceEqDiff, forall_const, implies_true, Nat.reduceAdd, Nat.reduceSub, Nat.reduceMul, Nat.reduceLT, Nat.reduceLeDiff, Int.reduceToNat, Int.reduceAdd, Int.reduceSub, Int.reduceNeg, Int.reduceMul, Int.reduceLT, Int.reduceLE, Int.reduceEq]
                    exact fin w3 l3 _ _ _ (by simp only [refStepF, hu, hx, hy, hA3, if_true]; rfl) ⟨rfl, rfl, rfl, rfl, rfl, trivial⟩
                  · simp (disch := first | omega | (simp only [List.length_cons, List.length_nil, List.length_map, List.length_drop]; omega)) only [aSl, dSl, dstR, wrap_i64, hdk, hlt, List.length_map, decide_true, decide_false, List.cons_append, List.nil_append, List.getElem?_map, Option.map_some, List.take_succ_cons, List.take_zero, evSt, ↓evPre, ↓evPreW, evPost, evPostW, ← List.map_take, ← List.map_drop, ↓reduceIte, reduceCtorEq, Nat.reduceEqDiff, forall_const, implies_true, Nat.reduceAdd, Nat.reduceSub, Nat.reduceMul, Nat.reduceLT, Nat.reduceLeDiff, Int.reduceToNat, Int.reduceAdd, Int.reduceSub, Int.reduceNeg, Int.reduceMul, Int.reduceLT, Int.reduceLE, Int.reduceEq]
                    exact fin w3 l3 _ _ _ (by simp only [refStepF, hu, hx, hy, hA3, if_true]; rfl) ⟨rfl, rfl, rfl, rfl, rfl, trivial⟩
              | some x =>
                have ex : lookI l1 d.fr = x := by rw [lookI, hx]
                have hx0 := hi1.1 _ (look_mem hx)
                simp only at hx0
                have hr2 := (reach_less hi1 hdm.2 ⟨_, hx⟩ hmi.1 hmi.2).1
                cases hy : look l1 d.to with
                | none =>
                  have ey : lookI l1 d.to = -1 := by rw [lookI, hy]
                  simp (disch := first | omega | (simp only [List.length_cons, List.length_nil, List.length_map, List.length_drop]; omega)) only [ex, ey, hneg, hx0.1, aSl, dSl, dstR, wrap_i64, hdk, hlt, List.length_map, decide_true, decide_false, List.cons_append, List.nil_append, List.getElem?_map, Option.map_some, List.take_succ_cons, List.take_zero, evSt, ↓evPre, ↓evPreW, evPost, evPostW, ← List.map_take, ← List.map_drop, ↓reduceIte, reduceCtorEq, Nat.reduceEqDiff, forall_const, implies_true, Nat.reduceAdd, Nat.reduceSub, Nat.reduceMul, Nat.reduceLT, Nat.reduceLeDiff, Int.reduceToNat, Int.reduceAdd, Int.reduceSub, Int.reduceNeg, Int.reduceMul, Int.reduceLT, Int.reduceLE, Int.reduceEq]
                  refine (reach_A l1 d.to (x + d.mi) S _ w' (by omega)).mono ?_
                  rintro _ _ ⟨w2, rfl, rfl⟩
                  generalize hA2 : reachF l1 d.to (x + d.mi) = A2 at *
                  obtain ⟨l2, b2⟩ := A2
                  cases b2
                  · simp (disch := first | omega | (simp only [List.length_cons, List.length_nil, List.length_map, List.length_drop]; omega)) only [hneg, aSl, dSl, dstR, wrap_i64, hdk, hlt, List.length_map, decide_true, decide_false, List.cons_append, List.nil_append, List.getElem?_map, Option.map_some, List.take_succ_cons, List.take_zero, evSt, ↓evPre, ↓evPreW, evPost, evPostW, ← List.map_take, ← List.map_drop, ↓reduceIte, reduceCtorEq, Nat.reduceEqDiff, forall_const, implies_true, Nat.reduceAdd, Nat.reduceSub, Nat.reduceMul, Nat.reduceLT, Nat.reduceLeDiff, Int.reduceToNat, Int.reduceAdd, Int.reduceSub, Int.reduceNeg, Int.reduceMul, Int.reduceLT, Int.reduceLE, Int.reduceEq]
                    exact fin w2 l2 _ _ _ (by simp only [refStepF, hu, hx, hy, hA2, if_true]; rfl) ⟨rfl, rfl, rfl, rfl, rfl, trivial⟩
                  · simp (disch := first | omega | (simp only [List.length_cons, List.length_nil, List.length_map, List.length_drop]; omega)) only [hneg, aSl, dSl, dstR, wrap_i64, hdk, hlt, List.length_map, decide_true, decide_false, List.cons_append, List.nil_append, List.getElem?_map, Option.map_some, List.take_succ_cons, List.take_zero, evSt, ↓evPre, ↓evPreW, evPost, evPostW, ← List.map_take, ← List.map_drop, ↓reduceIte, reduceCtorEq, Nat.reduceEqDiff, forall_const, implies_true, Nat.reduceAdd, Nat.reduceSub, Nat.reduceMul, Nat.reduceLT, Nat.reduceLeDiff, Int.reduceToNat, Int.reduceAdd, Int.reduceSub, Int.reduceNeg, Int.reduceMul, Int.reduceLT, Int.reduceLE, Int.reduceEq]
                    exact fin w2 l2 _ _ _ (by simp only [refStepF, hu, hx, hy, hA2, if_true]; rfl) ⟨rfl, rfl, rfl, rfl, rfl, trivial⟩
                | some y =>
                  have ey : lookI l1 d.to = y := by rw [lookI, hy]
                  have hy0 := hi1.1 _ (look_mem hy)
                  simp only at hy0
                  simp (disch := first | omega | (simp only [List.length_cons, List.length_nil, List.length_map, List.length_drop]; omega)) only [ex, ey, hx0.1, hy0.1, aSl, dSl, dstR, wrap_i64, hdk, hlt, List.length_map, decide_true, decide_false, List.cons_append, List.nil_append, List.getElem?_map, Option.map_some, List.take_succ_cons, List.take_zero, evSt, ↓evPre, ↓evPreW, evPost, evPostW, ← List.map_take, ← List.map_drop, ↓reduceIte, reduceCtorEq, Nat.reduceEqDiff, forall_const, implies_true, Nat.reduceAdd, Nat.reduceSub, Nat.reduceMul, Nat.reduceLT, Nat.reduceLeDiff, Int.reduceToNat, Int.reduceAdd, Int.reduceSub, Int.reduceNeg, Int.reduceMul, Int.reduceLT, Int.reduceLE, Int.reduceEq]
                  refine (reach_A l1 d.to (x + d.mi) S _ w' (by omega)).mono ?_
                  rintro _ _ ⟨w2, rfl, rfl⟩
                  generalize hA2 : reachF l1 d.to (x + d.mi) = A2 at *
                  obtain ⟨l2, b2⟩ := A2
                  have hln2 := hr2.2
                  simp only at hln2
                  cases b2
                  · simp (disch := first | omega | (simp only [List.length_cons, List.length_nil, List.length_map, List.length_drop]; omega)) only [hy0.1, aSl, dSl, dstR, wrap_i64, hdk, hlt, List.length_map, decide_true, decide_false, List.cons_append, List.nil_append, List.getElem?_map, Option.map_some, List.take_succ_cons, List.take_zero, evSt, ↓evPre, ↓evPreW, evPost, evPostW, ← List.map_take, ← List.map_drop, ↓reduceIte, reduceCtorEq, Nat.reduceEqDiff, forall_const, implies_true, Nat.reduceAdd, Nat.reduceSub, Nat.reduceMul, Nat.reduceLT, Nat.reduceLeDiff, Int.reduceToNat, Int.reduceAdd, Int.reduceSub, Int.reduceNeg, Int.reduceMul, Int.reduceLT, Int.reduceLE, Int.reduceEq]
                    refine (reach_A l2 d.fr (y + d.mi) S _ w2 (by omega)).mono ?_
                    rintro _ _ ⟨w3, rfl, rfl⟩
                    generalize hA3 : reachF l2 d.fr (y + d.mi) = A3 at *
                    obtain ⟨l3, b3⟩ := A3
                    cases b3
                    · simp (disch := first | omega | (simp only [List.length_cons, List.length_nil, List.length_map, List.length_drop]; omega)) only [aSl, dSl, dstR, wrap_i64, hdk, hlt, List.length_map, decide_true, decide_false, List.cons_append, List.nil_append, List.getElem?_map, Option.map_some, List.take_succ_cons, List.take_zero, evSt, ↓evPre, ↓evPreW, evPost, evPostW, ← List.map_take, ← List.map_drop, ↓reduceIte, reduceCtorEq, Nat.reduceEqDiff, forall_const, implies_true, Nat.reduceAdd, Nat.reduceSub, Nat.reduceMul, Nat.reduceLT, Nat.reduceLeDiff, Int.reduceToNat, Int.reduceAdd, Int.reduceSub, Int.reduceNeg, Int.reduceMul, Int.reduceLT, Int.reduceLE, Int.reduceEq]
                      exact fin w3 l3 _ _ _ (by simp only [refStepF, hu, hx, hy, hA2, hA3, if_true]; rfl) ⟨rfl, rfl, rfl, rfl, rfl, trivial⟩
                    · simp (disch := first | omega | (simp only [List.length_cons, List.length_nil, List.length_map, List.length_drop]; omega)) only [aSl, dSl, dstR, wrap_i64, hdk, hlt, List.length_map, decide_true, decide_false, List.cons_append, List.nil_append, List.getElem?_map, Option.map_some, List.take_succ_cons, List.take_zero, evSt, ↓evPre, ↓evPreW, evPost, evPostW, ← List.map_take, ← List.map_drop, ↓reduceIte, reduceCtorEq, Nat.reduceEqDiff, forall_const, implies_true, Nat.reduceAdd, Nat.reduceSub, Nat.reduceMul, Nat.reduceLT, Nat.reduceLeDiff, Int.reduceToNat, Int.reduceAdd, Int.reduceSub, Int.reduceNeg, Int.reduceMul, Int.reduceLT, Int.reduceLE, Int.reduceEq]
                      exact fin w3 l3 _ _ _ (by simp only [refStepF, hu, hx, hy, hA2, hA3, if_true]; rfl) ⟨rfl, rfl, rfl, rfl, rfl, trivial⟩
                  · simp (disch := first | omega | (simp only [List.length_cons, List.length_nil, List.length_map, List.length_drop]; omega)) only [hy0.1, aSl, dSl, dstR, wrap_i64, hdk, hlt, List.length_map, decide_true, decide_false, List.cons_append, List.nil_append, List.getElem?_map, Option.map_some, List.take_succ_cons, List.take_zero, evSt, ↓evPre, ↓evPreW, evPost, evPostW, ← List.map_take, ← List.map_drop, ↓reduceIte, reduceCtorEq, Nat.reduceEqDiff, forall_const, implies_true, Nat.reduceAdd, Nat.reduceSub, Nat.reduceMul, Nat.reduceLT, Nat.reduceLeDiff, Int.reduceToNat, Int.reduceAdd, Int.reduceSub, Int.reduceNeg, Int.reduceMul, Int.reduceLT, Int.reduceLE, Int.reduceEq]
                    refine (reach_A l2 d.fr (y + d.mi) S _ w2 (by omega)).mono ?_
                    rintro _ _ ⟨w3, rfl, rfl⟩
                    generalize hA3 : reachF l2 d.fr (y + d.mi) = A3 at *
                    obtain ⟨l3, b3⟩ := A3
                    cases b3
                    · simp (disch := first | omega | (simp only [List.length_cons, List.length_nil, List.length_map, List.length_drop]; omega)) only [aSl, dSl, dstR, wrap_i64, hdk, hlt, List.length_map, decide_true, decide_false, List.cons_append, List.nil_append, List.getElem?_map, Option.map_some, List.take_succ_cons, List.take_zero, evSt, ↓evPre, ↓evPreW, evPost, evPostW, ← List.map_take, ← List.map_drop, ↓reduceIte, reduceCtorEq, Nat.reduceEqDiff, forall_const, implies_true, Nat.reduceAdd, Nat.reduceSub, Nat.reduceMul, Nat.reduceLT, Nat.reduceLeDiff, Int.reduceToNat, Int.reduceAdd, Int.reduceSub, Int.reduceNeg, Int.reduceMul, Int.reduceLT, Int.reduceLE, Int.reduceEq]
                      exact fin w3 l3 _ _ _ (by simp only [refStepF, hu, hx, hy, hA2, hA3, if_true]; rfl) ⟨rfl, rfl, rfl, rfl, rfl, trivial⟩
                    · simp (disch := first | omega | (simp only [List.length_cons, List.length_nil, List.length_map, List.length_drop]; omega)) only [aSl, dSl, dstR, wrap_i64, hdk, hlt, List.length_map, decide_true, decide_false, List.cons_append, List.nil_append, List.getElem?_map, Option.map_some, List.take_succ_cons, List.take_zero, evSt, ↓evPre, ↓evPreW, evPost, evPostW, ← List.map_take, ← List.map_drop, ↓reduceIte, reduceCtorEq, Nat.reduceEqDiff, forall_const, implies_true, Nat.reduceAdd, Nat.reduceSub, Nat.reduceMul, Nat.reduceLT, Nat.reduceLeDiff, Int.reduceToNat, Int.reduceAdd, Int.reduceSub, Int.reduceNeg, Int.reduceMul, Int.reduceLT, Int.reduceLE, Int.reduceEq]
                      exact fin w3 l3 _ _ _ (by simp only [refStepF, hu, hx, hy, hA2, hA3, if_true]; rfl) ⟨rfl, rfl, rfl, rfl, rfl, trivial⟩
            · skip
              cases hx : look l1 d.fr with
              | none =>
                have ex : lookI l1 d.fr = -1 := by rw [lookI, hx]
                cases hy : look l1 d.to with
                | none =>
                  have ey : lookI l1 d.to = -1 := by rw [lookI, hy]
                  simp (disch := first | omega | (simp only [List.length_cons, List.length_nil, List.length_map, List.length_drop]; omega)) only [ex, ey, hneg, aSl, dSl, dstR, wrap_i64, hdk, hlt, List.length_map, decide_true, decide_false, List.cons_append, List.nil_append, List.getElem?_map, Option.map_some, List.take_succ_cons, List.take_zero, evSt, ↓evPre, ↓evPreW, evPost, evPostW, ← List.map_take, ← List.map_drop, ↓reduceIte, reduceCtorEq, Nat.reduceEqDiff, forall_const, implies_true, Nat.reduceAdd, Nat.reduceSub, Nat.reduceMul, Nat.reduceLT, Nat.reduceLeDiff, Int.reduceToNat, Int.reduceAdd, Int.reduceSub, Int.reduceNeg, Int.reduceMul, Int.reduceLT, Int.reduceLE, Int.reduceEq]
                  exact fin w' l1 _ _ _ (by simp only [refStepF, hu, hx, hy, if_true]; rfl) ⟨rfl, rfl, rfl, rfl, rfl, trivial⟩
                | some y =>
                  have ey : lookI l1 d.to = y := by rw [lookI, hy]
                  have hy0 := hi1.1 _ (look_mem hy)
                  simp only at hy0
                  simp (disch := first | omega | (simp only [List.length_cons, List.length_nil, List.length_map, List.length_drop]; omega)) only [ex, ey, hneg, hy0.1, aSl, dSl, dstR, wrap_i64, hdk, hlt, List.length_map, decide_true, decide_false, List.cons_append, List.nil_append, List.getElem?_map, Option.map_some, List.take_succ_cons, List.take_zero, evSt, ↓evPre, ↓evPreW, evPost, evPostW, ← List.map_take, ← List.map_drop, ↓reduceIte, reduceCtorEq, Nat.reduceEqDiff, forall_const, implies_true, Nat.reduceAdd, Nat.reduceSub, Nat.reduceMul, Nat.reduceLT, Nat.reduceLeDiff, Int.reduceToNat, Int.reduceAdd, Int.reduceSub, Int.reduceNeg, Int.reduceMul, Int.reduceLT, Int.reduceLE, Int.reduceEq]
                  refine (reach_A l1 d.fr (y + d.mi) S _ w' (by omega)).mono ?_
                  rintro _ _ ⟨w3, rfl, rfl⟩
                  generalize hA3 : reachF l1 d.fr (y + d.mi) = A3 at *
                  obtain ⟨l3, b3⟩ := A3
                  cases b3
                  · simp (disch := first | omega | (simp only [List.length_cons, List.length_nil, List.length_map, List.length_drop]; omega)) only [aSl, dSl, dstR, wrap_i64, hdk, hlt, List.length_map, decide_true, decide_false, List.cons_append, List.nil_append, List.getElem?_map, Option.map_some, List.take_succ_cons, List.take_zero, evSt, ↓evPre, ↓evPreW, evPost, evPostW, ← List.map_take, ← List.map_drop, ↓reduceIte, reduceCtorEq, Nat.reduceEqDiff, forall_const, implies_true, Nat.reduceAdd, Nat.reduceSub, Nat.reduceMul, Nat.reduceLT, Nat.reduceLeDiff, Int.reduceToNat, Int.reduceAdd, Int.reduceSub, Int.reduceNeg, Int.reduceMul, Int.reduceLT, Int.reduceLE, Int.reduceEq]
                    exact fin w3 l3 _ _ _ (by simp only [refStepF, hu, hx, hy, hA3, if_true]; rfl) ⟨rfl, rfl, rfl, rfl, rfl, trivial⟩
                  · simp (disch := first | omega | (simp only [List.length_cons, List.length_nil, List.length_map, List.length_drop]; omega)) only [aSl, dSl, dstR, wrap_i64, hdk, hlt, List.length_map, decide_true, decide_false, List.cons_append, List.nil_append, List.getElem?_map, Option.map_some, List.take_succ_cons, List.take_zero, evSt, ↓evPre, ↓evPreW, evPost, evPostW, ← List.map_take, ← List.map_drop, ↓reduceIte, reduceCtorEq, Nat.reduceEqDiff, forall_const, implies_true, Nat.reduceAdd, Nat.reduceSub, Nat.reduceMul, Nat.reduceLT, Nat.reduceLeDiff, Int.reduceToNat, Int.reduceAdd, Int.reduceSub, Int.reduceNeg, Int.reduceMul, Int.reduceLT, Int.reduceLE, Int.reduceEq]
                    exact fin w3 l3 _ _ _ (by simp only [refStepF, hu, hx, hy, hA3, if_true]; rfl) ⟨rfl, rfl, rfl, rfl, rfl, trivial⟩
              | some x =>
                have ex : lookI l1 d.fr = x := by rw [lookI, hx]
                have hx0 := hi1.1 _ (look_mem hx)
                simp only at hx0
                have hr2 := (reach_less hi1 hdm.2 ⟨_, hx⟩ hmi.1 hmi.2).1
                cases hy : look l1 d.to with
                | none =>
                  have ey : lookI l1 d.to = -1 := by rw [lookI, hy]
                  simp (disch := first | omega | (simp only [List.length_cons, List.length_nil, List.length_map, List.length_drop]; omega)) only [ex, ey, hneg, hx0.1, aSl, dSl, dstR, wrap_i64, hdk, hlt, List.length_map, decide_true, decide_false, List.cons_append, List.nil_append, List.getElem?_map, Option.map_some, List.take_succ_cons, List.take_zero, evSt, ↓evPre, ↓evPreW, evPost, evPostW, ← List.map_take, ← List.map_drop, ↓reduceIte, reduceCtorEq, Nat.reduceEqDiff, forall_const, implies_true, Nat.reduceAdd, Nat.reduceSub, Nat.reduceMul, Nat.reduceLT, Nat.reduceLeDiff, Int.reduceToNat, Int.reduceAdd, Int.reduceSub, Int.reduceNeg, Int.reduceMul, Int.reduceLT, Int.reduceLE, Int.reduceEq]
                  refine (reach_A l1 d.to (x + d.mi) S _ w' (by omega)).mono ?_
                  rintro _ _ ⟨w2, rfl, rfl⟩
                  generalize hA2 : reachF l1 d.to (x + d.mi) = A2 at *
                  obtain ⟨l2, b2⟩ := A2
                  cases b2
                  · simp (disch := first | omega | (simp only [List.length_cons, List.length_nil, List.length_map, List.length_drop]; omega)) only [hneg, aSl, dSl, dstR, wrap_i64, hdk, hlt, List.length_map, decide_true, decide_false, List.cons_append, List.nil_append, List.getElem?_map, Option.map_some, List.take_succ_cons, List.take_zero, evSt, ↓evPre, ↓evPreW, evPost, evPostW, ← List.map_take, ← List.map_drop, ↓reduceIte, reduceCtorEq, Nat.reduceEqDiff, forall_const, implies_true, Nat.reduceAdd, Nat.reduceSub, Nat.reduceMul, Nat.reduceLT, Nat.reduceLeDiff, Int.reduceToNat, Int.reduceAdd, Int.reduceSub, Int.reduceNeg, Int.reduceMul, Int.reduceLT, Int.reduceLE, Int.reduceEq]
                    exact fin w2 l2 _ _ _ (by simp only [refStepF, hu, hx, hy, hA2, if_true]; rfl) ⟨rfl, rfl, rfl, rfl, rfl, trivial⟩
                  · simp (disch := first | omega | (simp only [List.length_cons, List.length_nil, List.length_map, List.length_drop]; omega)) only [hneg, aSl, dSl, dstR, wrap_i64, hdk, hlt, List.length_map, decide_true, decide_false, List.cons_append, List.nil_append, List.getElem?_map, Option.map_some, List.take_succ_cons, List.take_zero, evSt, ↓evPre, ↓evPreW, evPost, evPostW, ← List.map_take, ← List.map_drop, ↓reduceIte, reduceCtorEq, Nat.reduceEqDiff, forall_const, implies_true, Nat.reduceAdd, Nat.reduceSub, Nat.reduceMul, Nat.reduceLT, Nat.reduceLeDiff, Int.reduceToNat, Int.reduceAdd, Int.reduceSub, Int.reduceNeg, Int.reduceMul, Int.reduceLT, Int.reduceLE, Int.reduceEq]
                    exact fin w2 l2 _ _ _ (by simp only [refStepF, hu, hx, hy, hA2, if_true]; rfl) ⟨rfl, rfl, rfl, rfl, rfl, trivial⟩
                | some y =>
                  have ey : lookI l1 d.to = y := by rw [lookI, hy]
                  have hy0 := hi1.1 _ (look_mem hy)
                  simp only at hy0
                  simp (disch := first | omega | (simp only [List.length_cons, List.length_nil, List.length_map, List.length_drop]; omega)) only [ex, ey, hx0.1, hy0.1, aSl, dSl, dstR, wrap_i64, hdk, hlt, List.length_map, decide_true, decide_false, List.cons_append, List.nil_append, List.getElem?_map, Option.map_some, List.take_succ_cons, List.take_zero, evSt, ↓evPre, ↓evPreW, evPost, evPostW, ← List.map_take, ← List.map_drop, ↓reduceIte, reduceCtorEq, Nat.reduceEqDiff, forall_const, implies_true, Nat.reduceAdd, Nat.reduceSub, Nat.reduceMul, Nat.reduceLT, Nat.reduceLeDiff, Int.reduceToNat, Int.reduceAdd, Int.reduceSub, Int.reduceNeg, Int.reduceMul, Int.reduceLT, Int.reduceLE, Int.reduceEq]
                  refine (reach_A l1 d.to (x + d.mi) S _ w' (by omega)).mono ?_
                  rintro _ _ ⟨w2, rfl, rfl⟩
                  generalize hA2 : reachF l1 d.to (x + d.mi) = A2 at *
                  obtain ⟨l2, b2⟩ := A2
                  have hln2 := hr2.2
                  simp only at hln2
                  cases b2
                  · simp (disch := first | omega | (simp only [List.length_cons, List.length_nil, List.length_map, List.length_drop]; omega)) only [hy0.1, aSl, dSl, dstR, wrap_i64, hdk, hlt, List.length_map, decide_true, decide_false, List.cons_append, List.nil_append, List.getElem?_map, Option.map_some, List.take_succ_cons, List.take_zero, evSt, ↓evPre, ↓evPreW, evPost, evPostW, ← List.map_take, ← List.map_drop, ↓reduceIte, reduceCtorEq, Nat.reduceEqDiff, forall_const, implies_true, Nat.reduceAdd, Nat.reduceSub, Nat.reduceMul, Nat.reduceLT, Nat.reduceLeDiff, Int.reduceToNat, Int.reduceAdd, Int.reduceSub, Int.reduceNeg, Int.reduceMul, Int.reduceLT, Int.reduceLE, Int.reduceEq]
                    refine (reach_A l2 d.fr (y + d.mi) S _ w2 (by omega)).mono ?_
                    rintro _ _ ⟨w3, rfl, rfl⟩
                    generalize hA3 : reachF l2 d.fr (y + d.mi) = A3 at *
                    obtain ⟨l3, b3⟩ := A3
                    cases b3
                    · simp (disch := first | omega | (simp only [List.length_cons, List.length_nil, List.length_map, List.length_drop]; omega)) only [aSl, dSl, dstR, wrap_i64, hdk, hlt, List.length_map, decide_true, decide_false, List.cons_append, List.nil_append, List.getElem?_map, Option.map_some, List.take_succ_cons, List.take_zero, evSt, ↓evPre, ↓evPreW, evPost, evPostW, ← List.map_take, ← List.map_drop, ↓reduceIte, reduceCtorEq, Nat.reduceEqDiff, forall_const, implies_true, Nat.reduceAdd, Nat.reduceSub, Nat.reduceMul, Nat.reduceLT, Nat.reduceLeDiff, Int.reduceToNat, Int.reduceAdd, Int.reduceSub, Int.reduceNeg, Int.reduceMul, Int.reduceLT, Int.reduceLE, Int.reduceEq]
                      exact fin w3 l3 _ _ _ (by simp only [refStepF, hu, hx, hy, hA2, hA3, if_true]; rfl) ⟨rfl, rfl, rfl, rfl, rfl, trivial⟩
                    · simp (disch := first | omega | (simp only [List.length_cons, List.length_nil, List.length_map, List.length_drop]; omega)) only [aSl, dSl, dstR, wrap_i64, hdk, hlt, List.length_map, decide_true, decide_false, List.cons_append, List.nil_append, List.getElem?_map, Option.map_some, List.take_succ_cons, List.take_zero, evSt, ↓evPre, ↓evPreW, evPost, evPostW, ← List.map_take, ← List.map_drop, ↓reduceIte, reduceCtorEq, Nat.reduceEqDiff, forall_const, implies_true, Nat.reduceAdd, Nat.reduceSub, Nat.reduceMul, Nat.reduceLT, Nat.reduceLeDiff, Int.reduceToNat, Int.reduceAdd, Int.reduceSub, Int.reduceNeg, Int.reduceMul, Int.reduceLT, Int.reduceLE, Int.reduceEq]
                      exact fin w3 l3 _ _ _ (by simp only [refStepF, hu, hx, hy, hA2, hA3, if_true]; rfl) ⟨rfl, rfl, rfl, rfl, rfl, trivial⟩
                  · simp (disch := first | omega | (simp only [List.length_cons, List.length_nil, List.length_map, List.length_drop]; omega)) only [hy0.1, aSl, dSl, dstR, wrap_i64, hdk, hlt, List.length_map, decide_true, decide_false, List.cons_append, List.nil_append, List.getElem?_map, Option.map_some, List.take_succ_cons, List.take_zero, evSt, ↓evPre, ↓evPreW, evPost, evPostW, ← List.map_take, ← List.map_drop, ↓reduceIte, reduceCtorEq, Nat.reduceEqDiff, forall_const, implies_true, Nat.reduceAdd, Nat.reduceSub, Nat.reduceMul, Nat.reduceLT, Nat.reduceLeDiff, Int.reduceToNat, Int.reduceAdd, Int.reduceSub, Int.reduceNeg, Int.reduceMul, Int.reduceLT, Int.reduceLE, Int.reduceEq]
                    refine (reach_A l2 d.fr (y + d.mi) S _ w2 (by omega)).mono ?_
                    rintro _ _ ⟨w3, rfl, rfl⟩
                    generalize hA3 : reachF l2 d.fr (y + d.mi) = A3 at *
                    obtain ⟨l3, b3⟩ := A3
                    cases b3
                    · simp (disch := first | omega | (simp only [List.length_cons, List.length_nil, List.length_map, List.length_drop]; omega)) only [aSl, dSl, dstR, wrap_i64, hdk, hlt, List.length_map, decide_true, decide_false, List.cons_append, List.nil_append, List.getElem?_map, Option.map_some, List.take_succ_cons, List.take_zero, evSt, ↓evPre, ↓evPreW, evPost, evPostW, ← List.map_take, ← List.map_drop, ↓reduceIte, reduceCtorEq, Nat.reduceEqDiff, forall_const, implies_true, Nat.reduceAdd, Nat.reduceSub, Nat.reduceMul, Nat.reduceLT, Nat.reduceLeDiff, Int.reduceToNat, Int.reduceAdd, Int.reduceSub, Int.reduceNeg, Int.reduceMul, Int.reduceLT, Int.reduceLE, Int.reduceEq]
                      exact fin w3 l3 _ _ _ (by simp only [refStepF, hu, hx, hy, hA2, hA3, if_true]; rfl) ⟨rfl, rfl, rfl, rfl, rfl, trivial⟩
                    · simp (disch := first | omega | (simp only [List.length_cons, List.length_nil, List.length_map, List.length_drop]; omega)) only [aSl, dSl, dstR, wrap_i64, hdk, hlt, List.length_map, decide_true, decide_false, List.cons_append, List.nil_append, List.getElem?_map, Option.map_some, List.take_succ_cons, List.take_zero, evSt, ↓evPre, ↓evPreW, evPost, evPostW, ← List.map_take, ← List.map_drop, ↓reduceIte, reduceCtorEq, Nat.reduceEqDiff, forall_const, implies_true, Nat.reduceAdd, Nat.reduceSub, Nat.reduceMul, Nat.reduceLT, Nat.reduceLeDiff, Int.reduceToNat, Int.reduceAdd, Int.reduceSub, Int.reduceNeg, Int.reduceMul, Int.reduceLT, Int.reduceLE, Int.reduceEq]
                      exact fin w3 l3 _ _ _ (by simp only [refStepF, hu, hx, hy, hA2, hA3, if_true]; rfl) ⟨rfl, rfl, rfl, rfl, rfl, trivial⟩
end Go.Proofs.Ytbbjjnhcbfdhlaa
