/- The reference's reader: a line. -/
import Derived.Test.YtlnpfnoemhjheaaGreatDoorREdEdi15
import Derived.Test.YtlnpfnoemhjheaaGreatDoorRAlX
namespace Go.Proofs.YtlnpfnoemhjheaaGreatDoor.Ed
open Go Go.AL
set_option linter.unusedSectionVars false
variable [Go.AL.Mode] [Go.AL.LooseM]
set_option linter.unusedSimpArgs false
set_option linter.unusedVariables false
def refT (s : Txt) (k : Nat) : Option (List (List Txt)) × Nat :=
  if tagN 3 (s.drop k) < 3 then (none, tagN 3 (s.drop k)) else shift 3 (mach [] none (s.drop (k + 3)))
def RefLinePost (s : Txt) (k : Nat) (S T : Store) (r : V) (S' : Store) : Prop :=
  match refT s k with
  | (none, m) => S' = S ++ ⟨0, some (.arr 129 3 [[.str s, .int .i64 (k + m : Nat), .bool true]])⟩ :: T ∧ ∃ x, r = .agg (lnR x)
  | (some els, m) => r = .agg (lnR ⟨(s.drop k).take 3, els⟩) ∧ S' = S ++ ⟨0, some (.arr 129 3 [[.str s, .int .i64 (k + m : Nat), .bool false]])⟩ :: T
def RefLineEnd (s : Txt) (k : Nat) (S T : Store) (r : V) (S' : Store) : Prop :=
  ∃ r1 S1, Fgt S' S1 ∧ Frz S' S1 r r1 ∧ (S ++ ⟨0, some (.arr 129 3 [[.str s, .int .i64 k, .bool false]])⟩ :: T).length ≤ S1.length ∧ RefLinePost s k S T r1 S1
theorem frz_agg2 {S S1 : Store} {a b a' b' : V} (h : Frz S S1 a a') (k : Frz S S1 b b') : Frz S S1 (.agg [a, b]) (.agg [a', b']) := by
  refine .agg rfl fun j v hj x hx => ?_
  match j, hj, hx with
  | 0, hj, hx => simp at hj hx; subst hj hx; exact h
  | 1, hj, hx => simp at hj hx; subst hj hx; exact k
  | j + 2, hj, hx => simp at hj
def CellR (B : Nat) (els : List (List Txt)) (cell : V) (L : Store) : Prop :=
  (els = [] ∧ cell = .nilSl ∧ L = []) ∨ ∃ v0 w, cell = .msl B w 0 els.length ∧ L = [⟨v0, none⟩, ⟨0, none⟩, ⟨w, some (.arr 62 1 (els.map elR))⟩]
theorem imm_elR (els : List (List Txt)) : ∀ r ∈ els.map elR, r.length = 1 ∧ V.allImm r = true := fun r hr => by
  obtain ⟨e, _, rfl⟩ := List.mem_map.1 hr
  exact ⟨rfl, rfl⟩
theorem cellR_frz {S A : Store} {els : List (List Txt)} {cell : V} {L S1 : Store} (h : CellR (A.length + 2) els cell L) (h1 : S1.length ≤ A.length) : Frz (A ++ L) S1 cell (elV els) := by
  rcases h with ⟨rfl, rfl, rfl⟩ | ⟨v0, w, rfl, rfl⟩
  · exact .nil
  · exact .sl (t := 62) (by omega) (by rw [ob_app, ob_cons, ob_cons, ob_head]) (by simp) (imm_elR els)
def GoodR (s : Txt) (k k' : Nat) (bad : Bool) (f : Txt → Option (List (List Txt)) × Nat) : Prop :=
  k ≤ k' ∧ k' ≤ s.length ∧ refT s k = if bad then (none, k' - k) else shift (k' - k) (f (s.drop k'))
theorem comp_post {s : Txt} {k : Nat} {S T : Store} {r : V} {S' : Store} (h : CompPost s k S T r S') : ∃ t b n, r = .str t ∧ S' = S ++ ⟨0, some (.arr 129 3 [[.str s, .int .i64 (k + n : Nat), .bool b]])⟩ :: T ∧ compF (s.drop k) = (if b then none else some t, n) := by
  unfold CompPost at h
  generalize compF (s.drop k) = q at h
  obtain ⟨u, n⟩ := q
  cases u with
  | none => exact ⟨[], true, n, h.1, h.2, rfl⟩
  | some t => exact ⟨t, false, n, h.1, h.2, rfl⟩
theorem compF_len : ∀ (n : Nat) (l : Txt), l.length ≤ n → (compF l).2 ≤ l.length
  | _, [], _ => by rw [compF_nil]; simp
  | 0, c :: r, h => by simp at h
  | n + 1, c :: r, h => by
    simp only [List.length_cons] at h
    rw [compF_cons]
    simp only [List.length_cons]
    split
    · simp
    · split
      · simp
      · split
        · cases r with
          | nil => simp
          | cons d r' =>
            simp only [List.length_cons] at h ⊢
            have := compF_len n r' (by omega)
            split
            · simp only; omega
            · simp
        · have := compF_len n r (by omega)
          simp only
          omega
theorem goodR_comp {s : Txt} {k k' n : Nat} {b : Bool} {els : List (List Txt)} {comps : List Txt} {t : Txt} (hk1 : k ≤ k') (hlt : k' < s.length) (h : refT s k = shift (k' - k) (shift 1 (mach els (some (comps, [])) (s.drop (k' + 1)))))
    (hc : compF (s.drop (k' + 1)) = (if b then none else some t, n)) : GoodR s k (k' + 1 + n) b (head2F els (comps ++ [t])) := by
  have hl := compF_len _ (s.drop (k' + 1)) (Nat.le_refl _)
  rw [hc, List.length_drop] at hl
  simp only at hl
  refine ⟨by omega, by omega, ?_⟩
  rw [h, comp_mach _ _ (Nat.le_refl _), hc]
  cases b
  · simp only [Bool.false_eq_true, if_false, List.nil_append, List.drop_drop]
    rw [show k' + 1 + n - k = k' - k + 1 + n by omega]
    simp [shift, Nat.add_assoc, Nat.add_comm, Nat.add_left_comm]
  · simp [shift]
    omega
theorem goodR_two {s : Txt} {k k' : Nat} {bad : Bool} {els : List (List Txt)} {comps : List Txt} (h : GoodR s k k' bad (head2F els comps)) (hc : (!bad && decide (s[k']? = some 58)) = false) : GoodR s k k' bad (headF (els ++ [comps])) := by
  obtain ⟨h1, h2, h3⟩ := h
  refine ⟨h1, h2, ?_⟩
  rw [h3]
  cases bad
  · simp only [Bool.not_false, Bool.true_and, decide_eq_false_iff_not] at hc
    simp only [Bool.false_eq_true, if_false]
    cases hd : s[k']? with
    | none => rw [show s.drop k' = [] from List.drop_eq_nil_of_le (List.getElem?_eq_none_iff.1 hd)]; rfl
    | some c =>
      have hne : ¬ c.toNat = 58 := fun e => hc (by rw [hd]; congr 1; exact UInt8.toNat_inj.1 e)
      rw [drop_cons hd, head2F, if_neg hne]
  · rfl
theorem fgt_behind {S T L L1 : Store} {b : AL.Obj} (hn : Neat (S ++ b :: T)) (h : FgtL (S ++ b :: (T ++ L)) (S ++ b :: (T ++ L1)) L L1) : Fgt (S ++ b :: (T ++ L)) (S ++ b :: (T ++ L1)) := by
  have := hn.fgtL (L := L) (L1 := L1)
  simp only [List.append_assoc, List.cons_append] at this
  exact this h
theorem dead_at {S T L : Store} {b : AL.Obj} {k v : Nat} (h : L[k]? = some ⟨v, none⟩) : dead (S ++ b :: (T ++ L)) (S.length + (T.length + k + 1)) := fun o ho => by
  rw [List.getElem?_append_right (by omega), Nat.add_sub_cancel_left, List.getElem?_cons_succ, List.getElem?_append_right (by omega), Nat.add_sub_cancel_left, h] at ho
  cases ho
  rfl
theorem imm_cmR (comps : List Txt) : ∀ r ∈ comps.map cmR, r.length = 1 ∧ V.allImm r = true := fun r hr => by
  obtain ⟨e, _, rfl⟩ := List.mem_map.1 hr
  exact ⟨rfl, rfl⟩
theorem refline_end {s : Txt} {k k' : Nat} {b : Bool} {S T L : Store} {o1 o2 : AL.Obj} {e : V} {tag : Txt} {els : List (List Txt)} (hn : Neat (S ++ ⟨0, some (.arr 129 3 [[.str s, .int .i64 k, .bool false]])⟩ :: T)) (hk : k ≤ k')
    (he : CellR (S.length + (T.length + 5)) els e L)
    (h : RefLinePost s k S T (.agg (lnR ⟨tag, els⟩)) (S ++ ⟨0, some (.arr 129 3 [[.str s, .int .i64 k', .bool b]])⟩ :: T)) : RefLineEnd s k S T (.agg [.str tag, e]) (S ++ ⟨0, some (.arr 129 3 [[.str s, .int .i64 k', .bool b]])⟩ :: (T ++ (o1 :: o2 :: L))) := by
  refine ⟨.agg (lnR ⟨tag, els⟩), S ++ ⟨0, some (.arr 129 3 [[.str s, .int .i64 k', .bool b]])⟩ :: T, ?_, frz_agg2 (.imm rfl) ?_, by simp, h⟩
  · have := (neat_box (k' := k') (b' := b) hn).fgt (o1 :: o2 :: L)
    simpa using this
  · have := cellR_frz (S := S) (A := S ++ ⟨0, some (.arr 129 3 [[.str s, .int .i64 k', .bool b]])⟩ :: (T ++ [o1, o2])) (S1 := S ++ ⟨0, some (.arr 129 3 [[.str s, .int .i64 k', .bool b]])⟩ :: T) (els := els) (cell := e) (L := L) (by simpa [Nat.add_assoc] using he) (by simp)
    simpa using this
set_option maxHeartbeats 1000000 in
set_option maxRecDepth 20000 in
theorem refReadLine_A (s : Txt) (k : Nat) (S T : Store) (hs : s.length ≤ 65536) (hk : k ≤ s.length) :
    CallA Tryz.prog 63 [.ptr S.length 0 0 0] (S ++ ⟨0, some (.arr 129 3 [[.str s, .int .i64 k, .bool false]])⟩ :: T) (RefLinePost s k S T) := by
  refine CallA.withNeat Tryz.func63 c8039 fun hn => ?_
  refine CallA.fin Tryz.func63 c8039 (Nat.le_of_ble_eq_true rfl) fun σ hσ => ?_
  change wpA Tryz.prog a8039.N σ a8039.code (retK a8039.res (RefLineEnd s k S T)) _ _
  simp (disch := first | omega | (simp only [lenT]; omega)) only [a8039, ap_app, le_app, List.cons_append, List.length_cons, ↓evPre, ↓evPreW, evPost, evPostW, evR, evU, seval]
  refine (refTag_A s k S _ hs hk).mono ?_
  rintro _ _ ⟨rfl, rfl⟩
  simp (disch := first | omega | (simp only [lenT]; omega)) only [ob_app, ob_app0, ob_cons, ob_head, se_app, se_app0, se_cons, se_head, ap_app, le_app, List.cons_append, List.nil_append, List.length_cons, List.length_nil, obj_push2, set_push, ↓evPre, ↓evPreW, evPost, evPostW, evR, evU, seval]
  refine loopF (ι := Nat × Bool × List (List Txt) × V × Store) (fun i => [(0, .ptr S.length 0 0 0), (2, .ptr (S.length + (T.length + 1)) 0 0 0), (3, .ptr (S.length + (T.length + 1 + 1)) 0 0 0)])
    (fun i => S ++ ⟨0, some (.arr 129 3 [[.str s, .int .i64 i.1, .bool i.2.1]])⟩ :: (T ++ (⟨0, some (.arr 58 2 [[.str [], .nilSl]])⟩ :: ⟨0, some (.arr 58 2 [[.str ((s.drop k).take (tagN 3 (s.drop k))), i.2.2.2.1]])⟩ :: i.2.2.2.2)))
    (fun i => GoodR s k i.1 i.2.1 (headF i.2.2.1) ∧ CellR (S.length + (T.length + 5)) i.2.2.1 i.2.2.2.1 i.2.2.2.2 ∧ i.2.2.1.length ≤ i.1)
    (fun i => s.length - i.1) (fun i hi => by rw [hσ]; simp) (k + tagN 3 (s.drop k), decide (tagN 3 (s.drop k) < 3), [], .nilSl, []) ⟨?_, .inl ⟨rfl, rfl, rfl⟩, Nat.zero_le _⟩ (.inl ⟨?_, ?_⟩) ?_
  · refine ⟨by omega, by have := tagN_len 3 (s.drop k); rw [List.length_drop] at this; simp only; omega, ?_⟩
    simp only [refT]
    by_cases h3 : tagN 3 (s.drop k) < 3
    · simp [h3]
    · have h3' : tagN 3 (s.drop k) = 3 := by have := tagN_le 3 (s.drop k); omega
      simp [h3', head_init]
  · simp only [↓evPre, ↓evPreW, evPost, evPostW, evR, evU, seval]
  · simp
  · rintro ⟨k', bad, els, cell, L⟩ ⟨⟨hk1, hk2, hg⟩, hcell, hel⟩
    simp only at hk1 hk2 hg hcell hel ⊢
    simp (disch := first | omega | (simp only [lenT]; omega)) only [↓evPre, ↓evPreW, evPost, evPostW, evR, evU, seval]
    refine (is_A s k' bad 43 S _ hs).then ?_
    by_cases h43 : (!bad && decide (s[k']? = some 43)) = true
    · rw [h43]
      simp only [Bool.and_eq_true, Bool.not_eq_true', decide_eq_true_eq] at h43
      obtain ⟨rfl, hc⟩ := h43
      have hlt := (List.getElem?_eq_some_iff.1 hc).1
      have hcast : (k' : Int) + 1 = ((k' + 1 : Nat) : Int) := by omega
      rw [drop_cons hc] at hg
      simp (disch := first | omega | (simp only [lenT]; omega)) only [hcast, wrap_i64, ob_app, ob_app0, ob_cons, ob_head, se_app, se_app0, se_cons, se_head, ↓evPre, ↓evPreW, evPost, evPostW, evR, evU, seval]
      refine (component_A s (k' + 1) S _ hs (by omega)).mono ?_
      intro r S' hr
      obtain ⟨t, b, n, rfl, rfl, hcomp⟩ := comp_post hr
      have hin : GoodR s k (k' + 1 + n) b (head2F els ([] ++ [t])) := goodR_comp hk1 hlt (by simpa [headF] using hg) hcomp
      simp (disch := first | omega | (simp only [lenT]; omega)) only [ap_app, le_app, List.cons_append, List.length_cons, List.length_nil, ↓evPre, ↓evPreW, evPost, evPostW, evR, evU, seval]
      refine loopA (ι := Nat × Bool × List Txt × Nat) (fun i => [(0, .ptr S.length 0 0 0), (2, .ptr (S.length + (T.length + 1)) 0 0 0), (3, .ptr (S.length + (T.length + 1 + 1)) 0 0 0), (4, .msl (S.length + (T.length + (L.length + 1 + 1) + 1)) i.2.2.2 0 i.2.2.1.length)])
        (fun i => S ++ ⟨0, some (.arr 129 3 [[.str s, .int .i64 i.1, .bool i.2.1]])⟩ :: (T ++ (⟨0, some (.arr 58 2 [[.str [], .nilSl]])⟩ :: ⟨0, some (.arr 58 2 [[.str ((s.drop k).take (tagN 3 (s.drop k))), cell]])⟩ :: (L ++ [⟨i.2.2.2, some (.arr 9 1 (i.2.2.1.map cmR))⟩]))))
        (fun i => GoodR s k i.1 i.2.1 (head2F els i.2.2.1) ∧ k' < i.1 ∧ i.2.2.1.length ≤ i.1)
        (fun i => s.length - i.1) (k' + 1 + n, b, [t], 0) ⟨hin, by simp only; omega, by simp; omega⟩ ?_ ?_ ?_
      · simp only [↓evPre, ↓evPreW, evPost, evPostW, evR, evU, seval]
      · simp [cmR]
      · rintro ⟨q, bd, comps, w⟩ ⟨hg2, hq, hcl⟩
        simp only at hg2 hq hcl ⊢
        simp (disch := first | omega | (simp only [lenT]; omega)) only [↓evPre, ↓evPreW, evPost, evPostW, evR, evU, seval]
        refine (is_A s q bd 58 S _ hs).then ?_
        by_cases h58 : (!bd && decide (s[q]? = some 58)) = true
        · rw [h58]
          simp only [Bool.and_eq_true, Bool.not_eq_true', decide_eq_true_eq] at h58
          obtain ⟨rfl, hc2⟩ := h58
          have hlt2 := (List.getElem?_eq_some_iff.1 hc2).1
          have hcast2 : (q : Int) + 1 = ((q + 1 : Nat) : Int) := by omega
          obtain ⟨g1, g2, g3⟩ := hg2
          rw [drop_cons hc2] at g3
          simp (disch := first | omega | (simp only [lenT]; omega)) only [hcast2, wrap_i64, ob_app, ob_app0, ob_cons, ob_head, se_app, se_app0, se_cons, se_head, ↓evPre, ↓evPreW, evPost, evPostW, evR, evU, seval]
          refine (component_A s (q + 1) S _ hs (by omega)).mono ?_
          intro r S' hr
          obtain ⟨t2, b2, n2, rfl, rfl, hcomp2⟩ := comp_post hr
          have hin2 : GoodR s k (q + 1 + n2) b2 (head2F els (comps ++ [t2])) := goodR_comp g1 hlt2 (by simpa [head2F] using g3) hcomp2
          simp (disch := first | omega | (simp only [lenT]; omega)) only [wrap_i64, ob_app, ob_app0, ob_cons, ob_head, se_app, se_app0, se_cons, se_head, ↓evPre, ↓evPreW, evPost, evPostW, evR, evU, seval]
          exact ⟨by unfold roomA; omega, (q + 1 + n2, b2, comps ++ [t2], w + 1), ⟨hin2, by simp only; omega, by simp; omega⟩, by simp only; omega, by simp, by simp [cmR]⟩
        · have h58' : (!bd && decide (s[q]? = some 58)) = false := by simpa using h58
          have hg3 := goodR_two hg2 h58'
          rw [h58']
          rcases hcell with ⟨rfl, rfl, rfl⟩ | ⟨v0, w0, rfl, rfl⟩
          · simp (disch := first | omega | (simp only [lenT]; omega)) only [wrap_i64, ob_app, ob_app0, ob_cons, ob_head, se_app, se_app0, se_cons, se_head, ap_app, le_app, List.cons_append, List.nil_append, List.length_cons, List.length_nil, ↓evPre, ↓evPreW, evPost, evPostW, evR, evU, seval]
            refine ⟨by unfold roomA; omega, (q, bd, [comps], .msl (S.length + (T.length + 4 + 1)) 0 0 1, [⟨w, none⟩, ⟨0, none⟩, ⟨0, some (.arr 62 1 [elR comps])⟩]), ⟨hg3, .inr ⟨w, 0, rfl, rfl⟩, by simp; omega⟩, by obtain ⟨_, g2, _⟩ := hg3; simp only; omega, .inr ⟨?_, ?_⟩⟩
            · refine fgt_behind (neat_box (k' := q) (b' := bd) hn) ⟨rfl, ⟨_, rfl, .imm (by simp [V.allImm, V.isImm])⟩, rfl, ⟨_, rfl, .under (by simp [V.allUnder, V.under])⟩, rfl, trivial, rfl, trivial, rfl, ⟨_, rfl, RowsF.snoc (rows := []) (rows1 := []) .nil ⟨?_, trivial⟩ rfl⟩, trivial⟩
              exact .dead (t := 9) (dead_at (k := 2) (v := w) rfl) (by simp only [ob_app, ob_cons, ob_head]) (by simp) (imm_cmR comps)
            · simp only [↓evPre, ↓evPreW, evPost, evPostW, evR, evU, seval]
              exact ⟨.same (.inl (by simp [V.under, Env.get])), .same (.inl (by simp [V.under, Env.get])), .same (.inl (by simp [V.under, Env.get])), trivial⟩
          · simp (disch := first | omega | (simp only [lenT]; omega)) only [wrap_i64, ob_app, ob_app0, ob_cons, ob_head, se_app, se_app0, se_cons, se_head, ap_app, le_app, List.cons_append, List.nil_append, List.length_cons, List.length_nil, ↓evPre, ↓evPreW, evPost, evPostW, evR, evU, seval]
            have hlen : els.length + 1 ≤ roomA := by unfold roomA; omega
            refine ⟨hlen, (q, bd, els ++ [comps], .msl (S.length + (T.length + 5)) (w0 + 1) 0 (els.length + 1), [⟨v0, none⟩, ⟨0, none⟩, ⟨w0 + 1, some (.arr 62 1 ((els ++ [comps]).map elR))⟩]), ⟨hg3, .inr ⟨v0, w0 + 1, by simp, rfl⟩, by simp; omega⟩, by obtain ⟨_, g2, _⟩ := hg3; simp only; omega, .inr ⟨?_, ?_⟩⟩
            · rw [List.map_append]
              refine fgt_behind (neat_box (k' := q) (b' := bd) hn) ⟨rfl, ⟨_, rfl, .imm (by simp [V.allImm, V.isImm])⟩, rfl, ⟨_, rfl, .under (by simp [V.allUnder, V.under])⟩, rfl, trivial, rfl, trivial, rfl, ⟨_, rfl, RowsF.snoc (.imm (imm_elR els)) ⟨?_, trivial⟩ rfl⟩, trivial⟩
              exact .dead (t := 9) (fun o ho => by rw [List.getElem?_eq_none (by simp)] at ho; cases ho) (by simp only [ob_app, ob_cons, ob_head]) (by simp) (imm_cmR comps)
            · simp only [↓evPre, ↓evPreW, evPost, evPostW, evR, evU, seval]
              exact ⟨.same (.inl (by simp [V.under, Env.get])), .same (.inl (by simp [V.under, Env.get])), .same (.inl (by simp [V.under, Env.get])), trivial⟩
    · have h43' : (!bad && decide (s[k']? = some 43)) = false := by simpa using h43
      rw [h43']
      simp (disch := first | omega | (simp only [lenT]; omega)) only [↓evPre, ↓evPreW, evPost, evPostW, evR, evU, seval]
      refine (is_A s k' bad 39 S _ hs).then ?_
      have hok : cell.cellOk = true := by rcases hcell with ⟨_, rfl, _⟩ | ⟨_, _, rfl, _⟩ <;> rfl
      by_cases h39 : (!bad && decide (s[k']? = some 39)) = true
      · rw [h39]
        simp only [Bool.and_eq_true, Bool.not_eq_true', decide_eq_true_eq] at h39
        obtain ⟨rfl, hc⟩ := h39
        have hlt := (List.getElem?_eq_some_iff.1 hc).1
        have hcast : (k' : Int) + 1 = ((k' + 1 : Nat) : Int) := by omega
        rw [drop_cons hc] at hg
        simp (disch := first | omega | (simp only [lenT]; omega)) only [hcast, hok, wrap_i64, ob_app, ob_app0, ob_cons, ob_head, se_app, se_app0, se_cons, se_head, ↓evPre, ↓evPreW, evPost, evPostW, evR, evU, seval]
        refine refline_end hn (k' := k' + 1) (by omega) hcell ?_
        have hT : refT s k = (some els, k' + 1 - k) := by
          rw [hg]
          simp [headF, shift]
          omega
        have h3 : tagN 3 (s.drop k) = 3 := by
          have := tagN_le 3 (s.drop k)
          by_cases h : tagN 3 (s.drop k) < 3
          · simp [refT, h] at hT
          · omega
        simp only [RefLinePost, hT, h3, show k + (k' + 1 - k) = k' + 1 by omega, and_self]
      · have h39' : (!bad && decide (s[k']? = some 39)) = false := by simpa using h39
        rw [h39']
        simp (disch := first | omega | (simp only [lenT]; omega)) only [hok, wrap_i64, ob_app, ob_app0, ob_cons, ob_head, se_app, se_app0, se_cons, se_head, ↓evPre, ↓evPreW, evPost, evPostW, evR, evU, seval]
        refine refline_end hn (by omega) hcell ?_
        have hT : refT s k = (none, k' - k) := by
          rw [hg]
          cases bad
          · simp only [Bool.not_false, Bool.true_and, decide_eq_false_iff_not] at h43' h39'
            simp only [Bool.false_eq_true, if_false]
            cases hd : s[k']? with
            | none =>
              rw [show s.drop k' = [] from List.drop_eq_nil_of_le (List.getElem?_eq_none_iff.1 hd)]
              simp [headF, shift]
            | some c =>
              have n1 : ¬ c.toNat = 43 := fun e => h43' (by rw [hd]; congr 1; exact UInt8.toNat_inj.1 e)
              have n2 : ¬ c.toNat = 39 := fun e => h39' (by rw [hd]; congr 1; exact UInt8.toNat_inj.1 e)
              rw [drop_cons hd, headF, if_neg n1, if_neg n2]
              simp [shift]
          · rfl
        simp only [RefLinePost, hT, show k + (k' - k) = k' by omega, true_and]
        exact ⟨_, rfl⟩
end Go.Proofs.YtlnpfnoemhjheaaGreatDoor.Ed
/- The reference's Parse. -/
namespace Go.Proofs.YtlnpfnoemhjheaaGreatDoor.Ed
open Go Go.AL
set_option linter.unusedSectionVars false
variable [Go.AL.Mode] [Go.AL.LooseM]
set_option linter.unusedSimpArgs false
set_option linter.unusedVariables false
theorem parseF_refT {n k : Nat} {ls : List Ln} {s : Txt} (hk : k < s.length) : parseF (n + 1) ls (s.drop k) k =
    match refT s k with
    | (none, m) => (none, k + m)
    | (some els, m) => parseF n (ls ++ [⟨(s.drop k).take 3, els⟩]) (s.drop (k + m)) (k + m) := by
  obtain ⟨c, hc⟩ := get_lt (a := s) (k := k) hk
  rw [drop_cons hc, parseF, ← drop_cons hc]
  · simp only [refT]
    by_cases h3 : tagN 3 (s.drop k) < 3
    · rw [if_pos h3, if_pos h3]
    · rw [if_neg h3, if_neg h3, List.drop_drop]
      generalize mach [] none (s.drop (k + 3)) = q
      obtain ⟨e, m⟩ := q
      cases e
      · simp only [shift]
        rw [Nat.add_assoc, Nat.add_comm 3 m]
      · simp only [shift, List.drop_drop]
        rw [Nat.add_assoc, Nat.add_comm 3 m]
  · simp
theorem refT_len {s : Txt} {k : Nat} (hk : k ≤ s.length) : k + (refT s k).2 ≤ s.length := by
  have h1 := tagN_len 3 (s.drop k)
  rw [List.length_drop] at h1
  simp only [refT]
  split
  · simp only; omega
  · rename_i h3
    have h2 := mach_len _ (s.drop (k + 3)) (Nat.le_refl _) [] none
    rw [List.length_drop] at h2
    have := tagN_le 3 (s.drop k)
    simp only [shift]
    omega
theorem refT_pos {s : Txt} {k m : Nat} {els : List (List Txt)} (h : refT s k = (some els, m)) : 0 < m := by
  simp only [refT] at h
  split at h
  · cases h
  · simp only [shift, Prod.mk.injEq] at h
    omega
set_option maxRecDepth 20000 in
theorem refParse_A (s : Txt) (S : Store) : CallA Tryz.prog 30 [.str s] S fun r S' => r = parseV s ∧ S' = S := by
  refine CallA.back Tryz.func30 c8017 (Nat.le_of_ble_eq_true rfl) fun σ hσ hn => ?_
  by_cases hbig : (65536 : Int) < (s.length : Int)
  · have hb : 65536 < s.length := by omega
    simp (disch := first | omega | (simp only [lenT]; omega)) only [a8017, hbig, decide_true, ↓evPre, ↓evPreW, evPost, evPostW, evR, evU, seval]
    refine ⟨parseV s, ⟨[], (List.append_nil S).symm⟩, ?_, rfl⟩
    simp only [parseV, if_pos hb]
    exact frz_tup3 .nil (.imm rfl) (.imm rfl)
  · have hb : ¬ 65536 < s.length := by omega
    simp (disch := first | omega | (simp only [lenT]; omega)) only [a8017, hbig, decide_false, ↓evPre, ↓evPreW, evPost, evPostW, evR, evU, seval]
    refine LoopA.ghost 6 0 58 2 (by simp only [↓evPre, ↓evPreW, evPost, evPostW, evR, evU, seval]) ?_
    simp only [ap_app, le_app, List.cons_append, List.nil_append, List.length_cons, List.length_nil]
    refine loopA (ι := Nat × List Ln × Nat) (fun i => [(0, .str s), (5, .ptr S.length 0 0 0), (6, .msl (S.length + 1) i.2.1.length 0 i.2.1.length)]) (fun i => S ++ [⟨0, some (.arr 129 3 [[.str s, .int .i64 i.1, .bool false]])⟩, ⟨i.2.1.length, some (.arr 58 2 (i.2.1.map lnR))⟩])
      (fun i => i.1 ≤ s.length ∧ i.2.1.length ≤ i.1 ∧ s.length - i.1 < i.2.2 ∧ parseF i.2.2 i.2.1 (s.drop i.1) i.1 = parseF (s.length + 1) [] s 0)
      (fun i => s.length - i.1) (0, [], s.length + 1) ⟨Nat.zero_le _, Nat.le_refl _, by simp only; omega, by simp⟩ ?_ (by simp) ?_
    · simp only [↓evPre, ↓evPreW, evPost, evPostW, evR, evU, seval]
    · rintro ⟨k, ls, n⟩ ⟨hk, hls, hn, hp⟩
      simp only at hk hls hn hp ⊢
      by_cases hlt : (k : Int) < (s.length : Int)
      · obtain ⟨n, rfl⟩ : ∃ m, n = m + 1 := ⟨n - 1, by omega⟩
        rw [parseF_refT (by omega)] at hp
        simp (disch := first | omega | (simp only [lenT]; omega)) only [hlt, wrap_i64, ob_app, ob_app0, ob_cons, ob_head, decide_true, ↓evPre, ↓evPreW, evPost, evPostW, evR, evU, seval]
        refine (refReadLine_A s k S _ (by omega) hk).mono ?_
        intro r S' hr
        have hlen := refT_len hk
        unfold RefLinePost at hr
        have hpos := fun els m => refT_pos (s := s) (k := k) (m := m) (els := els)
        generalize refT s k = q at hr hp hlen hpos
        obtain ⟨e, m⟩ := q
        cases e with
        | none =>
          obtain ⟨rfl, x, rfl⟩ := hr
          simp only at hp hlen
          have hres : parseV s = .tup [lnV [], .int .i64 (k + m : Nat), .int .i64 3] := by simp only [parseV, if_neg hb, ← hp]
          have himm : V.allImm (lnR x) = true := rfl
          have hrl : (lnR x).length = 2 := rfl
          have hall : (lnR x).all V.cellOk = true := rfl
          simp (disch := first | omega | (simp only [lenT]; omega)) only [wrap_i64, ob_app, ob_app0, ob_cons, ob_head, se_app, se_app0, se_cons, se_head, decide_true, decide_false, himm, hrl, hall, ↓evPre, ↓evPreW, evPost, evPostW, evR, evU, seval]
          rw [hres]
          exact ⟨by unfold roomA; omega, _, ⟨_, rfl⟩, frz_tup3 .nil (.imm rfl) (.imm rfl), rfl⟩
        | some els =>
          obtain ⟨rfl, rfl⟩ := hr
          simp only at hp hlen
          have hm := hpos els m rfl
          have himm : V.allImm (lnR ⟨(s.drop k).take 3, els⟩) = true := rfl
          have hrl : (lnR ⟨(s.drop k).take 3, els⟩).length = 2 := rfl
          have hall : (lnR ⟨(s.drop k).take 3, els⟩).all V.cellOk = true := rfl
          simp (disch := first | omega | (simp only [lenT]; omega)) only [wrap_i64, ob_app, ob_app0, ob_cons, ob_head, se_app, se_app0, se_cons, se_head, decide_true, decide_false, himm, hrl, hall, ↓evPre, ↓evPreW, evPost, evPostW, evR, evU, seval]
          exact ⟨by unfold roomA; omega, (k + m, ls ++ [⟨(s.drop k).take 3, els⟩], n), ⟨hlen, by simp; omega, by simp only; omega, hp⟩, by simp only; omega, by simp, by simp⟩
      · have hkl : k = s.length := by omega
        rw [show s.drop k = [] from List.drop_eq_nil_of_le (by omega), parseF_nil] at hp
        have hres : parseV s = .tup [lnV ls, .int .i64 0, .int .i64 0] := by simp only [parseV, if_neg hb, ← hp]
        simp (disch := first | omega | (simp only [lenT]; omega)) only [hlt, wrap_i64, ob_app, ob_app0, ob_cons, ob_head, hres, decide_false, ↓evPre, ↓evPreW, evPost, evPostW, evR, evU, seval]
        refine ⟨_, ⟨_, rfl⟩, frz_tup3 ?_ (.imm rfl) (.imm rfl), rfl⟩
        exact .sl (t := 58) (by simp) (by rw [ob_app, ob_cons, ob_head]) (by simp) fun r hr => by obtain ⟨x, _, rfl⟩ := List.mem_map.1 hr; exact ⟨rfl, rfl⟩
end Go.Proofs.YtlnpfnoemhjheaaGreatDoor.Ed
