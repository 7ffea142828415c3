/- Sizes of what is parsed; the examples. -/
import Derived.Test.YtlnpfnoemhjheaaGreatDoorMEdEdi18
namespace Go.Proofs.YtlnpfnoemhjheaaGreatDoor.Ed
open Go Go.AL
set_option linter.unusedSectionVars false
variable [Go.AL.Mode] [Go.AL.LooseM]
set_option linter.unusedSimpArgs false
set_option linter.unusedVariables false
def wtE (e : List Txt) : Nat := 1 + szE e
def wtEs (l : List (List Txt)) : Nat := (l.map wtE).sum
def wtC : Option (List Txt × Txt) → Nat
  | none => 0
  | some (a, b) => wtE (a ++ [b])
theorem wtE_snoc (a : List Txt) (b : Txt) : wtE (a ++ [b]) = wtE a + 1 + b.length := by
  simp only [wtE, szE, List.length_append, List.length_cons, List.length_nil, List.map_append, List.map_cons, List.map_nil, List.sum_append_nat, List.sum_cons, List.sum_nil]
  omega
theorem wtEs_snoc (l : List (List Txt)) (e : List Txt) : wtEs (l ++ [e]) = wtEs l + wtE e := by
  simp only [wtEs, List.map_append, List.map_cons, List.map_nil, List.sum_append_nat, List.sum_cons, List.sum_nil]
  omega
theorem mach_wt : ∀ (n : Nat) (l : Txt), l.length ≤ n → ∀ (els : List (List Txt)) (cur : Option (List Txt × Txt)) (r : List (List Txt)) (m : Nat), mach els cur l = (some r, m) → wtEs r ≤ wtEs els + wtC cur + 2 * m
  | _, [], _, els, cur, r, m, h => by rw [mach.eq_def] at h; cases h
  | 0, c :: l, hl, _, _, _, _, _ => by simp at hl
  | n + 1, c :: l, hl, els, cur, r, m, h => by
    simp only [List.length_cons] at hl
    have sub : ∀ (l' : Txt), l'.length ≤ n → ∀ (els' : List (List Txt)) (cur' : Option (List Txt × Txt)) (d : Nat), ((mach els' cur' l').1, (mach els' cur' l').2 + d) = (some r, m) → wtEs r + 2 * d ≤ wtEs els' + wtC cur' + 2 * m := by
      intro l' hl' els' cur' d hd
      generalize hq : mach els' cur' l' = q at hd
      obtain ⟨qe, qm⟩ := q
      simp only [Prod.mk.injEq] at hd
      obtain ⟨rfl, rfl⟩ := hd
      have := mach_wt n l' hl' els' cur' r qm hq
      omega
    rw [mach.eq_def] at h
    simp only at h
    split at h
    · cases l with
      | nil => simp at h
      | cons d r' =>
        simp only [List.length_cons] at hl
        cases cur with
        | none => simp at h
        | some ct =>
          obtain ⟨comps, text⟩ := ct
          simp only at h
          split at h
          · have := sub r' (by omega) _ _ _ h
            simp only [wtC, wtE_snoc, List.length_append, List.length_cons, List.length_nil] at this ⊢
            omega
          · cases h
    · split at h
      · cases h
      · split at h
        · cases cur with
          | none =>
            simp only at h
            split at h
            · cases h
            · split at h
              · have := sub l (by omega) _ _ _ h
                simp only [wtC, wtE_snoc, List.length_append, List.length_cons, List.length_nil] at this ⊢
                simp only [wtE, szE, List.length_nil, List.map_nil, List.sum_nil] at this
                omega
              · cases h
                simp only [wtC]
                omega
          | some ct =>
            obtain ⟨comps, text⟩ := ct
            simp only at h
            split at h
            · have := sub l (by omega) _ _ _ h
              simp only [wtC, wtE_snoc, List.length_append, List.length_cons, List.length_nil] at this ⊢
              omega
            · split at h
              · have := sub l (by omega) _ _ _ h
                simp only [wtC, wtE_snoc, wtEs_snoc, List.length_append, List.length_cons, List.length_nil] at this ⊢
                simp only [wtE, szE, List.length_nil, List.map_nil, List.sum_nil] at this ⊢
                omega
              · cases h
                simp only [wtC, wtEs_snoc]
                omega
        · cases cur with
          | none => simp at h
          | some ct =>
            obtain ⟨comps, text⟩ := ct
            simp only at h
            have := sub l (by omega) _ _ _ h
            simp only [wtC, wtE_snoc, List.length_append, List.length_cons, List.length_nil] at this ⊢
            omega
theorem szX_wt (t : Txt) (els : List (List Txt)) : szX ⟨t, els⟩ = t.length + wtEs els := by
  have : (els.map wtE).sum = els.length + (els.map szE).sum := by
    induction els with
    | nil => rfl
    | cons e l ih => simp only [List.map_cons, List.sum_cons, ih, wtE, List.length_cons]; omega
  simp only [szX, wtEs, this]
  omega
theorem szL_snoc (ls : List Ln) (x : Ln) : szL (ls ++ [x]) = szL ls + 1 + szX x := by
  simp only [szL, List.length_append, List.length_cons, List.length_nil, List.map_append, List.map_cons, List.map_nil, List.sum_append_nat, List.sum_cons, List.sum_nil]
  omega
theorem mach_pos {els : List (List Txt)} {l : Txt} {r : List (List Txt)} {m : Nat} (h : mach els none l = (some r, m)) : 0 < m := by
  cases l with
  | nil => rw [mach.eq_def] at h; cases h
  | cons c l =>
    rw [mach.eq_def] at h
    simp only at h
    split at h
    · cases l <;> simp at h
    · split at h
      · cases h
      · split at h
        · split at h
          · cases h
          · split at h
            · simp only [Prod.mk.injEq] at h; omega
            · cases h; omega
        · cases h
theorem parseF_sz : ∀ (n : Nat) (ls : List Ln) (l : Txt) (k : Nat) (r : List Ln) (q : Nat), parseF n ls l k = (some r, q) → szL r ≤ szL ls + 2 * l.length
  | 0, ls, l, k, r, q, h => by simp only [parseF, Prod.mk.injEq, Option.some.injEq] at h; rw [h.1]; omega
  | n + 1, ls, [], k, r, q, h => by simp only [parseF, Prod.mk.injEq, Option.some.injEq] at h; rw [h.1]; simp
  | n + 1, ls, c :: l, k, r, q, h => by
    rw [parseF] at h
    · split at h
      · cases h
      · rename_i h3
        split at h
        · cases h
        · rename_i els m hm
          have h1 := parseF_sz n _ _ _ r q h
          have h2 := mach_wt _ _ (Nat.le_refl _) _ _ _ _ hm
          have h4 := mach_len _ ((c :: l).drop 3) (Nat.le_refl _) [] none
          rw [hm] at h4
          have h5 := tagN_len 3 (c :: l)
          have h6 := mach_pos hm
          rw [szL_snoc, szX_wt, List.length_drop] at h1
          simp only [List.length_drop, List.length_take] at h1 h4
          simp only [wtEs, List.map_nil, List.sum_nil, wtC] at h2
          simp only [wtEs] at h1
          omega
    · simp
def parsed (s : Txt) : List Ln × Int × Int :=
  if 65536 < s.length then ([], 0, 4) else
  match parseF (s.length + 1) [] s 0 with
  | (some ls, _) => (ls, 0, 0)
  | (none, n) => ([], n, 3)
theorem parseV_eq (s : Txt) : parseV s = .tup [lnV (parsed s).1, .int .i64 (parsed s).2.1, .int .i64 (parsed s).2.2] := by
  unfold parseV parsed
  split
  · rfl
  · generalize parseF (s.length + 1) [] s 0 = q
    obtain ⟨e, m⟩ := q
    cases e <;> rfl
theorem parsed_sz (s : Txt) (h : s.length ≤ 65536) : szL (parsed s).1 ≤ 2 * s.length := by
  unfold parsed
  rw [if_neg (by omega)]
  split
  · rename_i ls _ hp
    have := parseF_sz _ _ _ _ _ _ hp
    simpa [szL] using this
  · simp [szL]
end Go.Proofs.YtlnpfnoemhjheaaGreatDoor.Ed
/- What is written is read, and what is read is written. -/
namespace Go.Proofs.YtlnpfnoemhjheaaGreatDoor.Ed
open Go Go.AL
set_option linter.unusedSectionVars false
variable [Go.AL.Mode] [Go.AL.LooseM]
set_option linter.unusedSimpArgs false
set_option linter.unusedVariables false
theorem shift_shift {α : Type} (a b : Nat) (p : α × Nat) : shift a (shift b p) = shift (b + a) p := by simp [shift, Nat.add_assoc]
theorem odd_iff {c : UInt8} : oddC c = true ↔ c.toNat < 32 ∨ 126 < c.toNat := by simp [oddC]
theorem mach_byte {c : UInt8} (hc : oddC c = false) (els : List (List Txt)) (comps : List Txt) (t l : Txt) : mach els (some (comps, t)) (relC c ++ l) = shift (relC c).length (mach els (some (comps, t ++ [c])) l) := by
  by_cases hs : specC c = true
  · simp only [relC, hs, if_true]
    rw [List.cons_append, List.cons_append, List.nil_append, mach.eq_def]
    simp [hs, shift]
  · have h63 : ¬ c.toNat = 63 := fun h => hs (spec_cases.2 (by omega))
    have hs' : specC c = false := by simpa using hs
    simp only [relC, hs', Bool.false_eq_true, if_false]
    rw [List.cons_append, List.nil_append, mach.eq_def]
    simp [hs', hc, h63, shift]
theorem mach_text : ∀ (c : Txt), c.any oddC = false → ∀ (els : List (List Txt)) (comps : List Txt) (t l : Txt), mach els (some (comps, t)) (rel c ++ l) = shift (rel c).length (mach els (some (comps, t ++ c)) l)
  | [], _, els, comps, t, l => by simp [rel, shift]
  | b :: c, h, els, comps, t, l => by
    simp only [List.any_cons, Bool.or_eq_false_iff] at h
    have e : rel (b :: c) = relC b ++ rel c := by simp [rel]
    rw [e, List.append_assoc, mach_byte h.1, mach_text c h.2, shift_shift]
    simp [Nat.add_comm]
theorem mach_el : ∀ (e : List Txt), (e.any fun c => c.any oddC) = false → ∀ (k : Nat) (els : List (List Txt)) (comps : List Txt) (t l : Txt) (m : UInt8), m.toNat = 43 ∨ m.toNat = 39 →
    mach els (some (comps, t)) (outE (k + 1) e ++ m :: l) = shift (outE (k + 1) e).length (headF (els ++ [comps ++ [t] ++ e]) (m :: l))
  | [], _, k, els, comps, t, l, m, hm => by
    simp only [outE, List.nil_append, List.append_nil, List.length_nil]
    have ho : oddC m = false := by rw [← Bool.not_eq_true, odd_iff]; omega
    have hs : specC m = true := spec_cases.2 (by omega)
    rw [mach.eq_def]
    rcases hm with hm | hm <;> simp [hm, ho, hs, headF, shift]
  | c :: e, h, k, els, comps, t, l, m, hm => by
    simp only [List.any_cons, Bool.or_eq_false_iff] at h
    have ih := mach_el e h.2 (k + 1) els (comps ++ [t]) c l m hm
    have hsep : sepC (k + 1) = 58 := by simp [sepC]
    have e1 : outE (k + 1) (c :: e) = 58 :: (rel c ++ outE (k + 2) e) := by simp [outE, hsep]
    rw [e1, List.cons_append, List.append_assoc, mach.eq_def]
    have h1 : ¬ (58 : UInt8).toNat = 63 := by decide
    have h2 : oddC 58 = false := by decide
    have h3 : specC 58 = true := by decide
    have h4 : (58 : UInt8).toNat = 58 := by decide
    simp only [h1, h2, h3, h4, if_true, if_false, Bool.false_eq_true]
    rw [mach_text c h.1, List.nil_append, ih]
    simp [shift, Nat.add_assoc, Nat.add_comm, Nat.add_left_comm]
theorem head_el {e : List Txt} (hne : elBad e = false) (els : List (List Txt)) (l : Txt) (m : UInt8) (hm : m.toNat = 43 ∨ m.toNat = 39) :
    headF els (outE 0 e ++ m :: l) = shift (outE 0 e).length (headF (els ++ [e]) (m :: l)) := by
  simp only [elBad, Bool.or_eq_false_iff] at hne
  cases e with
  | nil => simp at hne
  | cons c e =>
    simp only [List.any_cons, Bool.or_eq_false_iff] at hne
    have e1 : outE 0 (c :: e) = 43 :: (rel c ++ outE 1 e) := by simp [outE, sepC]
    rw [e1, List.cons_append, List.append_assoc]
    have h4 : (43 : UInt8).toNat = 43 := by decide
    rw [headF, if_pos h4, mach_text c hne.2.1, mach_el e hne.2.2 0 els [] _ l m hm]
    simp [shift, Nat.add_assoc, Nat.add_comm, Nat.add_left_comm]
theorem head_els : ∀ (es : List (List Txt)), es.any elBad = false → ∀ (els : List (List Txt)) (l : Txt), headF els (es.flatMap (outE 0) ++ 39 :: l) = (some (els ++ es), (es.flatMap (outE 0)).length + 1)
  | [], _, els, l => by
    have h1 : ¬ (39 : UInt8).toNat = 43 := by decide
    have h2 : (39 : UInt8).toNat = 39 := by decide
    simp [headF, h1, h2]
  | e :: es, h, els, l => by
    simp only [List.any_cons, Bool.or_eq_false_iff] at h
    have ih := head_els es h.2 (els ++ [e]) l
    obtain ⟨m, l', hl, hm⟩ : ∃ m l', es.flatMap (outE 0) ++ 39 :: l = m :: l' ∧ (m.toNat = 43 ∨ m.toNat = 39) := by
      cases es with
      | nil => exact ⟨39, l, rfl, .inr (by decide)⟩
      | cons e' es =>
        simp only [List.any_cons, Bool.or_eq_false_iff, elBad] at h
        cases e' with
        | nil => simp at h
        | cons c r => exact ⟨43, _, by simp only [List.flatMap_cons, outE, sepC, if_true, List.cons_append]; rfl, .inl (by decide)⟩
    rw [List.flatMap_cons, List.append_assoc, hl, head_el h.1 els l' m hm, ← hl, ih]
    simp [shift, Nat.add_comm, Nat.add_assoc, Nat.add_left_comm]
theorem tag_up {t l : Txt} (h : tagOk t = true) : tagN 3 (t ++ l) = 3 ∧ t.length = 3 := by
  simp only [tagOk, Bool.and_eq_true, decide_eq_true_eq] at h
  obtain ⟨h1, h2⟩ := h
  match t, h2, h1 with
  | [a, b, c], _, h1 =>
    simp at h1
    simp [tagN, h1]
theorem parse_line {x : Ln} (hx : writable x = true) (n k : Nat) (ls : List Ln) (l : Txt) : parseF (n + 1) ls (outX x ++ l) k = parseF n (ls ++ [x]) l (k + (outX x).length) := by
  simp only [writable, Bool.and_eq_true, Bool.not_eq_true'] at hx
  obtain ⟨h1, h2⟩ := tag_up (l := x.els.flatMap (outE 0) ++ 39 :: l) hx.1
  have e : outX x ++ l = x.tag ++ (x.els.flatMap (outE 0) ++ 39 :: l) := by simp [outX]
  have hne : x.tag ≠ [] := fun h => by rw [h] at h2; simp at h2
  obtain ⟨a, r, hr⟩ := List.exists_cons_of_ne_nil hne
  rw [e, hr, List.cons_append, parseF]
  · rw [← List.cons_append, ← hr, h1, if_neg (by omega), ← h2, List.drop_left, List.take_left, head_init, head_els _ hx.2]
    simp only [List.nil_append]
    have e2 : (x.tag ++ (x.els.flatMap (outE 0) ++ 39 :: l)).drop (x.tag.length + ((x.els.flatMap (outE 0)).length + 1)) = l := by
      rw [← List.drop_drop, List.drop_left, ← List.drop_drop, List.drop_left]
      rfl
    rw [e2]
    simp [outX, Nat.add_assoc]
  · simp
theorem parse_lines : ∀ (a : List Ln), rightL a = true → ∀ (n k : Nat) (ls : List Ln) (l : Txt), parseF (n + a.length) ls (outL a ++ l) k = parseF n (ls ++ a) l (k + (outL a).length)
  | [], _, n, k, ls, l => by simp [outL]
  | x :: a, h, n, k, ls, l => by
    simp only [rightL, List.any_cons, Bool.not_or, Bool.and_eq_true, Bool.not_not] at h
    have ih := parse_lines a h.2 n (k + (outX x).length) (ls ++ [x]) l
    have e : outL (x :: a) = outX x ++ outL a := by simp [outL]
    rw [e, List.append_assoc, List.length_cons, ← Nat.add_assoc, parse_line h.1, ih]
    simp [Nat.add_assoc]
theorem outL_ge : ∀ (a : List Ln), a.length ≤ (outL a).length
  | [] => by simp
  | x :: a => by
    have := outL_ge a
    have e : outL (x :: a) = outX x ++ outL a := by simp [outL]
    rw [e, List.length_append, outX]
    simp only [List.length_append, List.length_cons, List.length_nil]
    omega
theorem back_one {a : List Ln} (h : rightL a = true) (hl : (outL a).length ≤ 65536) : parsed (outL a) = (a, 0, 0) := by
  have h1 := outL_ge a
  have h2 := parse_lines a h ((outL a).length + 1 - a.length) 0 [] []
  rw [List.append_nil, Nat.sub_add_cancel (by omega), parseF_nil] at h2
  simp only [parsed, if_neg (show ¬ 65536 < (outL a).length by omega), h2, List.nil_append]
def wr (els : List (List Txt)) : Option (List Txt × Txt) → Txt
  | none => els.flatMap (outE 0)
  | some (a, b) => els.flatMap (outE 0) ++ outE 0 (a ++ [b])
end Go.Proofs.YtlnpfnoemhjheaaGreatDoor.Ed
