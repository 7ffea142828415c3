/- The reference's reader: a component. -/
import Derived.Test.YtlnpfnoemhjheaaGreatDoorMEdEdi13
namespace Go.Proofs.YtlnpfnoemhjheaaGreatDoor.Ed
open Go Go.AL
set_option linter.unusedSectionVars false
variable [Go.AL.Mode] [Go.AL.LooseM]
set_option linter.unusedSimpArgs false
set_option linter.unusedVariables false
def compF : Txt → Option Txt × Nat
  | [] => (none, 0)
  | c :: r =>
    if c.toNat = 43 ∨ c.toNat = 58 ∨ c.toNat = 39 then (some [], 0)
    else if oddC c then (none, 0)
    else if c.toNat = 63 then
      match r with
      | [] => (none, 1)
      | d :: r' => if specC d then ((compF r').1.map (d :: ·), (compF r').2 + 2) else (none, 1)
    else ((compF r).1.map (c :: ·), (compF r).2 + 1)
termination_by l => l.length
end Go.Proofs.YtlnpfnoemhjheaaGreatDoor.Ed
/- The reference's reader: a line (states). -/
namespace Go.Proofs.YtlnpfnoemhjheaaGreatDoor.Ed
open Go Go.AL
set_option linter.unusedSectionVars false
variable [Go.AL.Mode] [Go.AL.LooseM]
set_option linter.unusedSimpArgs false
set_option linter.unusedVariables false
def FinR (S T : Store) (m B : Nat) (v : V) (e : List Txt) : Prop := ∃ j w, (m ≤ j ∧ j < B) ∧ v = .msl (S.length + (j + 1)) w 0 e.length ∧ T.obj? j w = some (9, 1, e.map cmR)
def ElmR (S T : Store) (m B : Nat) (cs : List V) (els : List (List Txt)) : Prop := cs.length = els.length ∧ ∀ (i : Nat) (v : V) (x : List Txt), cs[i]? = some v → els[i]? = some x → FinR S T m B v x
theorem FinR.pres {S T T' : Store} {m B : Nat} {v : V} {e : List Txt} (h : FinR S T m B v e) (hp : PresB B 9 T T') : FinR S T' m B v e := by
  obtain ⟨j, w, h1, h2, h3⟩ := h
  exact ⟨j, w, h1, h2, hp _ _ _ _ h1.2 h3⟩
theorem FinR.mono {S T : Store} {m B B' : Nat} {v : V} {e : List Txt} (h : FinR S T m B v e) (hb : B ≤ B') : FinR S T m B' v e := by
  obtain ⟨j, w, h1, h2, h3⟩ := h
  exact ⟨j, w, by omega, h2, h3⟩
theorem ElmR.pres {S T T' : Store} {m B : Nat} {cs : List V} {els : List (List Txt)} (h : ElmR S T m B cs els) (hp : PresB B 9 T T') : ElmR S T' m B cs els := ⟨h.1, fun i v x hv hx => (h.2 i v x hv hx).pres hp⟩
theorem ElmR.mono {S T : Store} {m B B' : Nat} {cs : List V} {els : List (List Txt)} (h : ElmR S T m B cs els) (hb : B ≤ B') : ElmR S T m B' cs els := ⟨h.1, fun i v x hv hx => (h.2 i v x hv hx).mono hb⟩
theorem ElmR.snoc {S T : Store} {m B : Nat} {cs : List V} {els : List (List Txt)} {c : V} {e : List Txt} (h : ElmR S T m B cs els) (hc : FinR S T m B c e) : ElmR S T m B (cs ++ [c]) (els ++ [e]) := by
  refine ⟨by simp [h.1], fun i v x hv hx => ?_⟩
  by_cases hi : i < cs.length
  · rw [List.getElem?_append_left hi] at hv
    rw [List.getElem?_append_left (by rw [← h.1]; exact hi)] at hx
    exact h.2 i v x hv hx
  · rw [List.getElem?_append_right (by omega)] at hv
    rw [List.getElem?_append_right (by rw [← h.1]; omega)] at hx
    have hlt := (List.getElem?_eq_some_iff.1 hv).1
    simp only [List.length_cons, List.length_nil] at hlt
    have : i = cs.length := by omega
    subst this
    rw [Nat.sub_self] at hv
    rw [h.1, Nat.sub_self] at hx
    simp at hv hx
    subst hv hx
    exact hc
end Go.Proofs.YtlnpfnoemhjheaaGreatDoor.Ed
/- What the reference's loops do, told by the machine. -/
namespace Go.Proofs.YtlnpfnoemhjheaaGreatDoor.Ed
open Go Go.AL
set_option linter.unusedSectionVars false
variable [Go.AL.Mode] [Go.AL.LooseM]
set_option linter.unusedSimpArgs false
set_option linter.unusedVariables false
def headF (els : List (List Txt)) : Txt → Option (List (List Txt)) × Nat
  | [] => (none, 0)
  | c :: r => if c.toNat = 43 then shift 1 (mach els (some ([], [])) r) else if c.toNat = 39 then (some els, 1) else (none, 0)
theorem spec_cases {c : UInt8} : specC c = true ↔ c.toNat = 43 ∨ c.toNat = 58 ∨ c.toNat = 39 ∨ c.toNat = 63 := by
  simp [specC, or_assoc]
theorem head_init (l : Txt) : mach [] none l = headF [] l := by
  cases l with
  | nil => rw [mach.eq_def]; rfl
  | cons c r =>
    rw [mach.eq_def]
    simp only [headF]
    by_cases h63 : c.toNat = 63
    · have g1 : ¬ c.toNat = 43 := by omega
      have g2 : ¬ c.toNat = 39 := by omega
      rw [if_pos h63, if_neg g1, if_neg g2]
      cases r <;> simp
    · rw [if_neg h63]
      by_cases ho : oddC c = true
      · have h1 : ¬ c.toNat = 43 := by simp [oddC] at ho; omega
        have h2 : ¬ c.toNat = 39 := by simp [oddC] at ho; omega
        rw [if_pos ho, if_neg h1, if_neg h2]
      · rw [if_neg ho]
        by_cases hs : specC c = true
        · rw [if_pos hs]
          have := spec_cases.1 hs
          by_cases h58 : c.toNat = 58
          · simp [h58]
          · by_cases h43 : c.toNat = 43
            · simp [h43, shift]
            · have h39 : c.toNat = 39 := by omega
              simp [h39]
        · have := mt spec_cases.2 hs
          have g1 : ¬ c.toNat = 43 := by omega
          have g2 : ¬ c.toNat = 39 := by omega
          rw [if_neg hs, if_neg g1, if_neg g2]
end Go.Proofs.YtlnpfnoemhjheaaGreatDoor.Ed
