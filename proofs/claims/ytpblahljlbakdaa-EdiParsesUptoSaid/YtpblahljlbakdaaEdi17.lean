/- What the reference's loops do, told by the machine. -/
import Derived.Test.YtpblahljlbakdaaEdi16
namespace Go.Proofs.Ytpblahljlbakdaa
open Go Go.AL
set_option linter.unusedSimpArgs false

/-- At a place where an element may begin, or the line end. -/
def headF (els : List (List Txt)) : Txt → Option (List (List Txt)) × Nat
  | [] => (none, 0)
  | c :: r => if c.toNat = 43 then shift 1 (mach els (some ([], [])) r) else if c.toNat = 39 then (some els, 1) else (none, 0)
/-- .. or a component. -/
def head2F (els : List (List Txt)) (comps : List Txt) : Txt → Option (List (List Txt)) × Nat
  | [] => headF (els ++ [comps]) []
  | c :: r => if c.toNat = 58 then shift 1 (mach els (some (comps, [])) r) else headF (els ++ [comps]) (c :: r)

theorem spec_cases {c : UInt8} : specC c = true ↔ c.toNat = 43 ∨ c.toNat = 58 ∨ c.toNat = 39 ∨ c.toNat = 63 := by
  simp [specC, or_assoc]

theorem head_init (l : Txt) : mach [] none l = headF [] l := by
  cases l with
  | nil => rw [mach.eq_def]; rfl
  | cons c r =>
    rw [mach.eq_def]
    simp only [headF]
    by_cases h63 : c.toNat = 63
    · have g1 : ¬ c.toNat = 43 := by omega
      have g2 : ¬ c.toNat = 39 := by omega
      rw [if_pos h63, if_neg g1, if_neg g2]
      cases r <;> simp
    · rw [if_neg h63]
      by_cases ho : oddC c = true
      · have h1 : ¬ c.toNat = 43 := by simp [oddC] at ho; omega
        have h2 : ¬ c.toNat = 39 := by simp [oddC] at ho; omega
        rw [if_pos ho, if_neg h1, if_neg h2]
      · rw [if_neg ho]
        by_cases hs : specC c = true
        · rw [if_pos hs]
          have := spec_cases.1 hs
          by_cases h58 : c.toNat = 58
          · simp [h58]
          · by_cases h43 : c.toNat = 43
            · simp [h43, shift]
            · have h39 : c.toNat = 39 := by omega
              simp [h39]
        · have := mt spec_cases.2 hs
          have g1 : ¬ c.toNat = 43 := by omega
          have g2 : ¬ c.toNat = 39 := by omega
          rw [if_neg hs, if_neg g1, if_neg g2]

theorem comp_mach : ∀ (n : Nat) (l : Txt), l.length ≤ n → ∀ (els : List (List Txt)) (comps : List Txt) (t : Txt), mach els (some (comps, t)) l =
    (match compF l with
     | (none, m) => (none, m)
     | (some u, m) => shift m (head2F els (comps ++ [t ++ u]) (l.drop m)))
  | n, [], h, els, comps, t => by rw [mach.eq_def, compF_nil]
  | 0, c :: r, h, els, comps, t => by simp at h
  | n + 1, c :: r, h, els, comps, t => by
    simp only [List.length_cons] at h
    rw [mach.eq_def, compF_cons]
    simp only
    by_cases h63 : c.toNat = 63
    · have hm : ¬ (c.toNat = 43 ∨ c.toNat = 58 ∨ c.toNat = 39) := by omega
      have ho : ¬ oddC c = true := by simp [oddC, h63]
      rw [if_pos h63, if_neg hm, if_neg ho, if_pos h63]
      cases r with
      | nil => simp
      | cons d r' =>
        simp only [List.length_cons] at h
        simp only
        cases hd : specC d
        · simp
        · have ih := comp_mach n r' (by omega) els comps (t ++ [d])
          simp only [if_true]
          rw [ih]
          generalize compF r' = q
          obtain ⟨qu, qm⟩ := q
          cases qu <;> simp [shift, Nat.add_assoc, List.append_assoc]
    · rw [if_neg h63]
      by_cases hm : c.toNat = 43 ∨ c.toNat = 58 ∨ c.toNat = 39
      · have ho : ¬ oddC c = true := by simp [oddC]; omega
        have hs : specC c = true := spec_cases.2 (by omega)
        rw [if_neg ho, if_pos hs, if_pos hm]
        rcases hm with hm | hm | hm <;> simp [hm, head2F, headF, shift]
      · rw [if_neg hm]
        by_cases ho : oddC c = true
        · rw [if_pos ho, if_pos ho]
        · have hs : ¬ specC c = true := mt spec_cases.1 (by omega)
          rw [if_neg ho, if_neg ho, if_neg hs, if_neg h63]
          have ih := comp_mach n r (by omega) els comps (t ++ [c])
          rw [ih]
          generalize compF r = q
          obtain ⟨qu, qm⟩ := q
          cases qu <;> simp [shift, Nat.add_assoc, List.append_assoc]
end Go.Proofs.Ytpblahljlbakdaa
