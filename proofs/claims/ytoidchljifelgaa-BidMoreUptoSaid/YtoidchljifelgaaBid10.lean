/- The stable sort: blocks that are sorted, merged two by two. -/
import Derived.Test.YtoidchljifelgaaBid9
namespace Go.Proofs.Ytoidchljifelgaa
open Go Go.AL
set_option linter.unusedSimpArgs false

theorem demOrds : Ords isDem demLt where
  asymm := by
    rintro x y ⟨⟨v, c⟩, rfl⟩ ⟨⟨v', c'⟩, rfl⟩ h
    simp only [dem, demLt, decide_eq_true_eq, decide_eq_false_iff_not] at *
    omega
  trans := by
    rintro x y z ⟨⟨v, c⟩, rfl⟩ ⟨⟨v', c'⟩, rfl⟩ ⟨⟨v'', c''⟩, rfl⟩ h1 h2
    simp only [dem, demLt, decide_eq_false_iff_not] at *
    omega

theorem demW2 {l : List (List V)} (h : ∀ r ∈ l, isDem r) : W2 l := fun r hr => by
  obtain ⟨d, rfl⟩ := h r hr
  exact ⟨rfl, rfl⟩

/-- Sorted runs of k elements each; the last may be shorter. -/
def RunsOf (lt : List V → List V → Bool) (k : Nat) : List (List (List V)) → Prop
  | [] => True
  | [r] => Srt lt r ∧ 0 < r.length ∧ r.length ≤ k
  | r :: s :: t => Srt lt r ∧ r.length = k ∧ RunsOf lt k (s :: t)

theorem runs_full {lt : List V → List V → Bool} {k : Nat} (hk : 0 < k) : ∀ (D : List (List (List V))) (T : List (List (List V))), (∀ r ∈ D, Srt lt r ∧ r.length = k) → RunsOf lt k T → RunsOf lt k (D ++ T)
  | [], T, _, hT => hT
  | [d], [], hD, _ => by
    have := hD d (by simp)
    exact ⟨this.1, by omega, by omega⟩
  | [d], t :: T, hD, hT => ⟨(hD d (by simp)).1, (hD d (by simp)).2, hT⟩
  | d :: e :: D, T, hD, hT => ⟨(hD d (by simp)).1, (hD d (by simp)).2, runs_full hk (e :: D) T (fun r hr => hD r (List.mem_cons_of_mem _ hr)) hT⟩

/-- So few elements are one run. -/
theorem runs_one {lt : List V → List V → Bool} {k : Nat} (hk : 0 < k) : ∀ (T : List (List (List V))), RunsOf lt k T → T.flatten.length ≤ k → Srt lt T.flatten
  | [], _, _ => List.Pairwise.nil
  | [r], h, _ => by simpa using h.1
  | r :: s :: t, h, hl => by
    exfalso
    have h1 := h.2.1
    have h2 : 0 < s.length := by
      cases t with
      | nil => exact h.2.2.2.1
      | cons u t =>
        have h3 := h.2.2.2.1
        omega
    simp only [List.flatten_cons, List.length_append] at hl
    omega
end Go.Proofs.Ytoidchljifelgaa
