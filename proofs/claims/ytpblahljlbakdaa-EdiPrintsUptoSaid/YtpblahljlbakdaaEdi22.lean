/- What is written is read, and what is read is written. -/
import Derived.Test.YtpblahljlbakdaaEdi21
namespace Go.Proofs.Ytpblahljlbakdaa
open Go Go.AL
set_option linter.unusedSimpArgs false

theorem shift_shift {α : Type} (a b : Nat) (p : α × Nat) : shift a (shift b p) = shift (b + a) p := by simp [shift, Nat.add_assoc]
theorem odd_iff {c : UInt8} : oddC c = true ↔ c.toNat < 32 ∨ 126 < c.toNat := by simp [oddC]

/-! ### Written, then read -/
theorem mach_byte {c : UInt8} (hc : oddC c = false) (els : List (List Txt)) (comps : List Txt) (t l : Txt) : mach els (some (comps, t)) (relC c ++ l) = shift (relC c).length (mach els (some (comps, t ++ [c])) l) := by
  by_cases hs : specC c = true
  · simp only [relC, hs, if_true]
    rw [List.cons_append, List.cons_append, List.nil_append, mach.eq_def]
    simp [hs, shift]
  · have h63 : ¬ c.toNat = 63 := fun h => hs (spec_cases.2 (by omega))
    have hs' : specC c = false := by simpa using hs
    simp only [relC, hs', Bool.false_eq_true, if_false]
    rw [List.cons_append, List.nil_append, mach.eq_def]
    simp [hs', hc, h63, shift]

theorem mach_text : ∀ (c : Txt), c.any oddC = false → ∀ (els : List (List Txt)) (comps : List Txt) (t l : Txt), mach els (some (comps, t)) (rel c ++ l) = shift (rel c).length (mach els (some (comps, t ++ c)) l)
  | [], _, els, comps, t, l => by simp [rel, shift]
  | b :: c, h, els, comps, t, l => by
    simp only [List.any_cons, Bool.or_eq_false_iff] at h
    have e : rel (b :: c) = relC b ++ rel c := by simp [rel]
    rw [e, List.append_assoc, mach_byte h.1, mach_text c h.2, shift_shift]
    simp [Nat.add_comm]

theorem mach_el : ∀ (e : List Txt), (e.any fun c => c.any oddC) = false → ∀ (k : Nat) (els : List (List Txt)) (comps : List Txt) (t l : Txt) (m : UInt8), m.toNat = 43 ∨ m.toNat = 39 →
    mach els (some (comps, t)) (outE (k + 1) e ++ m :: l) = shift (outE (k + 1) e).length (headF (els ++ [comps ++ [t] ++ e]) (m :: l))
  | [], _, k, els, comps, t, l, m, hm => by
    simp only [outE, List.nil_append, List.append_nil, List.length_nil]
    have ho : oddC m = false := by rw [← Bool.not_eq_true, odd_iff]; omega
    have hs : specC m = true := spec_cases.2 (by omega)
    rw [mach.eq_def]
    rcases hm with hm | hm <;> simp [hm, ho, hs, headF, shift]
  | c :: e, h, k, els, comps, t, l, m, hm => by
    simp only [List.any_cons, Bool.or_eq_false_iff] at h
    have ih := mach_el e h.2 (k + 1) els (comps ++ [t]) c l m hm
    have hsep : sepC (k + 1) = 58 := by simp [sepC]
    have e1 : outE (k + 1) (c :: e) = 58 :: (rel c ++ outE (k + 2) e) := by simp [outE, hsep]
    rw [e1, List.cons_append, List.append_assoc, mach.eq_def]
    have h1 : ¬ (58 : UInt8).toNat = 63 := by decide
    have h2 : oddC 58 = false := by decide
    have h3 : specC 58 = true := by decide
    have h4 : (58 : UInt8).toNat = 58 := by decide
    simp only [h1, h2, h3, h4, if_true, if_false, Bool.false_eq_true]
    rw [mach_text c h.1, List.nil_append, ih]
    simp [shift, Nat.add_assoc, Nat.add_comm, Nat.add_left_comm]

theorem head_el {e : List Txt} (hne : elBad e = false) (els : List (List Txt)) (l : Txt) (m : UInt8) (hm : m.toNat = 43 ∨ m.toNat = 39) :
    headF els (outE 0 e ++ m :: l) = shift (outE 0 e).length (headF (els ++ [e]) (m :: l)) := by
  simp only [elBad, Bool.or_eq_false_iff] at hne
  cases e with
  | nil => simp at hne
  | cons c e =>
    simp only [List.any_cons, Bool.or_eq_false_iff] at hne
    have e1 : outE 0 (c :: e) = 43 :: (rel c ++ outE 1 e) := by simp [outE, sepC]
    rw [e1, List.cons_append, List.append_assoc]
    have h4 : (43 : UInt8).toNat = 43 := by decide
    rw [headF, if_pos h4, mach_text c hne.2.1, mach_el e hne.2.2 0 els [] _ l m hm]
    simp [shift, Nat.add_assoc, Nat.add_comm, Nat.add_left_comm]

theorem head_els : ∀ (es : List (List Txt)), es.any elBad = false → ∀ (els : List (List Txt)) (l : Txt), headF els (es.flatMap (outE 0) ++ 39 :: l) = (some (els ++ es), (es.flatMap (outE 0)).length + 1)
  | [], _, els, l => by
    have h1 : ¬ (39 : UInt8).toNat = 43 := by decide
    have h2 : (39 : UInt8).toNat = 39 := by decide
    simp [headF, h1, h2]
  | e :: es, h, els, l => by
    simp only [List.any_cons, Bool.or_eq_false_iff] at h
    have ih := head_els es h.2 (els ++ [e]) l
    obtain ⟨m, l', hl, hm⟩ : ∃ m l', es.flatMap (outE 0) ++ 39 :: l = m :: l' ∧ (m.toNat = 43 ∨ m.toNat = 39) := by
      cases es with
      | nil => exact ⟨39, l, rfl, .inr (by decide)⟩
      | cons e' es =>
        simp only [List.any_cons, Bool.or_eq_false_iff, elBad] at h
        cases e' with
        | nil => simp at h
        | cons c r => exact ⟨43, _, by simp only [List.flatMap_cons, outE, sepC, if_true, List.cons_append]; rfl, .inl (by decide)⟩
    rw [List.flatMap_cons, List.append_assoc, hl, head_el h.1 els l' m hm, ← hl, ih]
    simp [shift, Nat.add_comm, Nat.add_assoc, Nat.add_left_comm]

theorem tag_up {t l : Txt} (h : tagOk t = true) : tagN 3 (t ++ l) = 3 ∧ t.length = 3 := by
  simp only [tagOk, Bool.and_eq_true, decide_eq_true_eq] at h
  obtain ⟨h1, h2⟩ := h
  match t, h2, h1 with
  | [a, b, c], _, h1 =>
    simp at h1
    simp [tagN, h1]

theorem parse_line {x : Ln} (hx : writable x = true) (n k : Nat) (ls : List Ln) (l : Txt) : parseF (n + 1) ls (outX x ++ l) k = parseF n (ls ++ [x]) l (k + (outX x).length) := by
  simp only [writable, Bool.and_eq_true, Bool.not_eq_true'] at hx
  obtain ⟨h1, h2⟩ := tag_up (l := x.els.flatMap (outE 0) ++ 39 :: l) hx.1
  have e : outX x ++ l = x.tag ++ (x.els.flatMap (outE 0) ++ 39 :: l) := by simp [outX]
  have hne : x.tag ≠ [] := fun h => by rw [h] at h2; simp at h2
  obtain ⟨a, r, hr⟩ := List.exists_cons_of_ne_nil hne
  rw [e, hr, List.cons_append, parseF]
  · rw [← List.cons_append, ← hr, h1, if_neg (by omega), ← h2, List.drop_left, List.take_left, head_init, head_els _ hx.2]
    simp only [List.nil_append]
    have e2 : (x.tag ++ (x.els.flatMap (outE 0) ++ 39 :: l)).drop (x.tag.length + ((x.els.flatMap (outE 0)).length + 1)) = l := by
      rw [← List.drop_drop, List.drop_left, ← List.drop_drop, List.drop_left]
      rfl
    rw [e2]
    simp [outX, Nat.add_assoc]
  · simp

theorem parse_lines : ∀ (a : List Ln), rightL a = true → ∀ (n k : Nat) (ls : List Ln) (l : Txt), parseF (n + a.length) ls (outL a ++ l) k = parseF n (ls ++ a) l (k + (outL a).length)
  | [], _, n, k, ls, l => by simp [outL]
  | x :: a, h, n, k, ls, l => by
    simp only [rightL, List.any_cons, Bool.not_or, Bool.and_eq_true, Bool.not_not] at h
    have ih := parse_lines a h.2 n (k + (outX x).length) (ls ++ [x]) l
    have e : outL (x :: a) = outX x ++ outL a := by simp [outL]
    rw [e, List.append_assoc, List.length_cons, ← Nat.add_assoc, parse_line h.1, ih]
    simp [Nat.add_assoc]

theorem rightL_cons (x : Ln) (a : List Ln) : rightL (x :: a) = (writable x && rightL a) := by simp [rightL]
theorem outL_ge : ∀ (a : List Ln), a.length ≤ (outL a).length
  | [] => by simp
  | x :: a => by
    have := outL_ge a
    have e : outL (x :: a) = outX x ++ outL a := by simp [outL]
    rw [e, List.length_append, outX]
    simp only [List.length_append, List.length_cons, List.length_nil]
    omega
theorem outL_app (a b : List Ln) : outL a ++ outL b = outL (a ++ b) := by simp [outL]

theorem back_one {a : List Ln} (h : rightL a = true) (hl : (outL a).length ≤ 65536) : parsed (outL a) = (a, 0, 0) := by
  have h1 := outL_ge a
  have h2 := parse_lines a h ((outL a).length + 1 - a.length) 0 [] []
  rw [List.append_nil, Nat.sub_add_cancel (by omega), parseF_nil] at h2
  simp only [parsed, if_neg (show ¬ 65536 < (outL a).length by omega), h2, List.nil_append]

/-! ### Read, then written -/
theorem outE_snoc : ∀ (e : List Txt) (j : Nat) (t u : Txt), outE j (e ++ [t ++ u]) = outE j (e ++ [t]) ++ rel u
  | [], j, t, u => by simp [outE, rel]
  | c :: e, j, t, u => by
    have := outE_snoc e (j + 1) t u
    simp only [List.cons_append, outE, this, List.append_assoc]
theorem outE_new : ∀ (e : List Txt) (j : Nat), 0 < j + e.length → outE j (e ++ [[]]) = outE j e ++ [58]
  | [], j, h => by
    simp only [List.length_nil, Nat.add_zero] at h
    simp [outE, rel, sepC]
    omega
  | c :: e, j, h => by
    have := outE_new e (j + 1) (by omega)
    simp only [List.cons_append, outE, this, List.append_assoc]

def goodEs (l : List (List Txt)) : Prop := l.any elBad = false
def goodC : Option (List Txt × Txt) → Prop
  | none => True
  | some (a, b) => ((a ++ [b]).any fun c => c.any oddC) = false
def wr (els : List (List Txt)) : Option (List Txt × Txt) → Txt
  | none => els.flatMap (outE 0)
  | some (a, b) => els.flatMap (outE 0) ++ outE 0 (a ++ [b])

theorem mach_wr : ∀ (n : Nat) (l : Txt), l.length ≤ n → ∀ (els : List (List Txt)) (cur : Option (List Txt × Txt)) (r : List (List Txt)) (m : Nat), mach els cur l = (some r, m) → goodEs els → goodC cur →
    goodEs r ∧ wr els cur ++ l.take m = r.flatMap (outE 0) ++ [39]
  | _, [], _, els, cur, r, m, h, _, _ => by rw [mach.eq_def] at h; cases h
  | 0, c :: l, hl, _, _, _, _, _, _, _ => by simp at hl
  | n + 1, c :: l, hl, els, cur, r, m, h, hg, hc => by
    simp only [List.length_cons] at hl
    have sub : ∀ (u l' : Txt) (els' : List (List Txt)) (cur' : Option (List Txt × Txt)) (d : Nat), l'.length ≤ n → d = u.length → ((mach els' cur' l').1, (mach els' cur' l').2 + d) = (some r, m) → goodEs els' → goodC cur' → wr els' cur' = wr els cur ++ u →
        goodEs r ∧ wr els cur ++ (u ++ l').take m = r.flatMap (outE 0) ++ [39] := by
      intro u l' els' cur' d hl' hdu hd h1 h2 h3
      generalize hq : mach els' cur' l' = q at hd
      obtain ⟨qe, qm⟩ := q
      simp only [Prod.mk.injEq] at hd
      obtain ⟨rfl, rfl⟩ := hd
      obtain ⟨h4, h5⟩ := mach_wr n l' hl' els' cur' r qm hq h1 h2
      refine ⟨h4, ?_⟩
      rw [← h5, h3, hdu, List.take_append, List.append_assoc, List.take_of_length_le (by omega), Nat.add_sub_cancel]
    rw [mach.eq_def] at h
    simp only at h
    split at h
    · rename_i h63
      have hc63 : c = 63 := UInt8.toNat_inj.1 h63
      cases l with
      | nil => simp at h
      | cons d r' =>
        simp only [List.length_cons] at hl
        cases cur with
        | none => simp at h
        | some ct =>
          obtain ⟨comps, text⟩ := ct
          simp only at h
          split at h
          · rename_i hd
            have hod : oddC d = false := by rw [← Bool.not_eq_true, odd_iff]; have := spec_cases.1 hd; omega
            refine sub [c, d] r' _ _ 2 (by omega) rfl h hg ?_ ?_
            · simp only [goodC, List.any_append, List.any_cons, List.any_nil, Bool.or_eq_false_iff] at hc ⊢
              simp [hc, hod]
            · simp only [wr, outE_snoc, List.append_assoc]
              simp [rel, relC, hd, hc63]
          · cases h
    · split at h
      · cases h
      · rename_i h63 ho
        split at h
        · cases cur with
          | none =>
            simp only at h
            split at h
            · cases h
            · split at h
              · rename_i h43
                refine sub [c] l _ _ 1 (by omega) rfl h hg ?_ ?_
                · simp [goodC]
                · have : c = 43 := UInt8.toNat_inj.1 h43
                  simp [wr, outE, rel, sepC, this]
              · rename_i hs h58 h43
                have : c = 39 := UInt8.toNat_inj.1 (by have := spec_cases.1 hs; show c.toNat = 39; omega)
                cases h
                exact ⟨hg, by simp [wr, this]⟩
          | some ct =>
            obtain ⟨comps, text⟩ := ct
            simp only at h
            have hbad : elBad (comps ++ [text]) = false := by
              simp only [goodC] at hc
              simp [elBad, hc]
            split at h
            · rename_i h58
              refine sub [c] l _ _ 1 (by omega) rfl h hg ?_ ?_
              · simp only [goodC, List.any_append, List.any_cons, List.any_nil, Bool.or_eq_false_iff] at hc ⊢
                simp [hc]
              · have : c = 58 := UInt8.toNat_inj.1 h58
                simp only [wr]
                rw [outE_new _ _ (by simp), this, List.append_assoc]
            · split at h
              · rename_i h43
                refine sub [c] l _ _ 1 (by omega) rfl h ?_ ?_ ?_
                · simp only [goodEs, List.any_append, List.any_cons, List.any_nil, Bool.or_eq_false_iff] at hg ⊢
                  exact ⟨hg, hbad, trivial⟩
                · simp [goodC]
                · have : c = 43 := UInt8.toNat_inj.1 h43
                  simp [wr, outE, rel, sepC, this]
              · rename_i hs h58 h43
                have : c = 39 := UInt8.toNat_inj.1 (by have := spec_cases.1 hs; show c.toNat = 39; omega)
                cases h
                refine ⟨?_, by simp [wr, this]⟩
                simp only [goodEs, List.any_append, List.any_cons, List.any_nil, Bool.or_eq_false_iff] at hg ⊢
                exact ⟨hg, hbad, trivial⟩
        · cases cur with
          | none => simp at h
          | some ct =>
            obtain ⟨comps, text⟩ := ct
            rename_i hs
            simp only at h
            refine sub [c] l _ _ 1 (by omega) rfl h hg ?_ ?_
            · simp only [goodC, List.any_append, List.any_cons, List.any_nil, Bool.or_eq_false_iff] at hc ⊢
              simp [hc, ho]
            · simp only [wr, outE_snoc, List.append_assoc]
              simp [rel, relC, hs]

theorem tagN_ok {l : Txt} (h : tagN 3 l = 3) : tagOk (l.take 3) = true := by
  match l with
  | [] => simp [tagN] at h
  | [a] => simp only [tagN] at h; split at h <;> simp at h
  | [a, b] => simp only [tagN] at h; split at h <;> (try split at h) <;> simp at h
  | a :: b :: c :: r =>
    simp only [tagN] at h
    split at h
    · split at h
      · split at h
        · rename_i ha hb hc
          simp [tagOk, ha, hb, hc]
        · simp at h
      · simp at h
    · simp at h

theorem parse_wr : ∀ (n : Nat) (ls : List Ln) (l : Txt) (k : Nat) (r : List Ln) (q : Nat), l.length < n → parseF n ls l k = (some r, q) → ∃ a, r = ls ++ a ∧ rightL a = true ∧ outL a = l
  | 0, ls, l, k, r, q, hl, h => by omega
  | n + 1, ls, [], k, r, q, hl, h => by
    simp only [parseF, Prod.mk.injEq, Option.some.injEq] at h
    exact ⟨[], by simp [h.1], rfl, rfl⟩
  | n + 1, ls, c :: l, k, r, q, hl, h => by
    rw [parseF] at h
    · split at h
      · cases h
      · rename_i h3
        have h3' : tagN 3 (c :: l) = 3 := by have := tagN_le 3 (c :: l); omega
        split at h
        · cases h
        · rename_i els m hm
          have h6 := mach_pos hm
          obtain ⟨a, h7, h8, h9⟩ := parse_wr n _ _ _ r q (by simp only [List.length_drop, List.length_cons] at hl ⊢; omega) h
          obtain ⟨g1, g2⟩ := mach_wr _ _ (Nat.le_refl _) _ _ _ _ hm rfl trivial
          refine ⟨⟨(c :: l).take 3, els⟩ :: a, by rw [h7]; simp, ?_, ?_⟩
          · rw [rightL_cons, h8, writable, tagN_ok h3']
            simp only [Bool.true_and, Bool.and_true]
            rw [show els.any elBad = false from g1]
            rfl
          · have e : outL (⟨(c :: l).take 3, els⟩ :: a) = outX ⟨(c :: l).take 3, els⟩ ++ outL a := by simp [outL]
            have g3 : els.flatMap (outE 0) ++ [39] = ((c :: l).drop 3).take m := by rw [← g2]; simp [wr]
            rw [e, h9, outX]
            simp only
            rw [List.append_assoc ((c :: l).take 3), g3, ← List.drop_drop, List.append_assoc, List.take_append_drop, List.take_append_drop]
    · simp

theorem parsed_back {s : Txt} (h : (parsed s).2.2 = 0) : rightL (parsed s).1 = true ∧ outL (parsed s).1 = s ∧ (parsed s).2.1 = 0 := by
  unfold parsed at h ⊢
  split
  · rename_i hb; simp [hb] at h
  · rename_i hb
    simp only [if_neg hb] at h
    generalize hq : parseF (s.length + 1) [] s 0 = q at h ⊢
    obtain ⟨e, m⟩ := q
    cases e with
    | none => simp at h
    | some r =>
      obtain ⟨a, h1, h2, h3⟩ := parse_wr _ _ _ _ _ _ (Nat.lt_succ_self _) hq
      simp only [List.nil_append] at h1
      subst h1
      exact ⟨h2, h3, rfl⟩
end Go.Proofs.Ytpblahljlbakdaa
