/- What changed since, plainly. -/
import Derived.Test.YtdkcicbpcagonaaMir9
namespace Go.Proofs.Ytdkcicbpcagonaa
open Go Go.AL
set_option linter.unusedSimpArgs false
set_option linter.unusedVariables false

def sinceR (M : Mi) (c : Nat) : List Rw := (List.range' (c + 1) (M.N - c)).filterMap (fAt M.R)
theorem sinceL_eq (M : Mi) (c : Nat) : sinceL M c = (sinceR M c).map (·.1) := by
  unfold sinceL sinceR
  rw [List.map_filterMap]
theorem ats_nodup {R : List Rw} (h : R.Pairwise fun r q => r.2 ≠ q.2) : R.Nodup := h.imp fun hne e => hne (by rw [e])
theorem sinceR_asc (M : Mi) (c : Nat) : (sinceR M c).Pairwise fun r q => r.2 < q.2 := by
  unfold sinceR
  refine List.Pairwise.filterMap (R := fun a b => a < b) (fAt M.R) (fun a a' haa b hb b' hb' => ?_) (List.pairwise_lt_range' ..)
  have h1 := (fAt_mem hb).2
  have h2 := (fAt_mem hb').2
  omega
theorem sinceR_mem {M : Mi} (h : WF M) {c : Nat} {r : Rw} : r ∈ sinceR M c ↔ r ∈ M.R ∧ c < r.2 := by
  unfold sinceR
  rw [List.mem_filterMap]
  constructor
  · rintro ⟨n, hn, hr⟩
    obtain ⟨h1, h2⟩ := fAt_mem hr
    rw [List.mem_range'_1] at hn
    exact ⟨h1, by omega⟩
  · rintro ⟨h1, h2⟩
    have := h.low r h1
    exact ⟨r.2, List.mem_range'_1.2 (by omega), fAt_self h.ats h1⟩
theorem sinceR_perm {M : Mi} (h : WF M) (c : Nat) : (sinceR M c).Perm (M.R.filter fun r => decide (c < r.2)) := by
  refine (List.perm_ext_iff_of_nodup (ats_nodup ((sinceR_asc M c).imp fun h => Nat.ne_of_lt h)) ((ats_nodup h.ats).filter _)).2 fun r => ?_
  rw [sinceR_mem h, List.mem_filter, decide_eq_true_eq]
theorem since_all {M : Mi} (h : WF M) : (sinceL M 0).Perm (M.R.map (·.1)) := by
  rw [sinceL_eq]
  refine (sinceR_perm h 0).map _ |>.trans ?_
  rw [List.filter_eq_self.2]
  intro r hr
  have := h.low r hr
  simp only [decide_eq_true_eq]
  omega
theorem since_none (M : Mi) : sinceL M M.N = [] := by
  unfold sinceL
  rw [Nat.sub_self]
  rfl
theorem cutN_zero (M : Mi) : cutN M 0 = 0 := by unfold cutN; omega
theorem cutN_self (M : Mi) : cutN M (M.N : Nat) = M.N := by unfold cutN; omega
end Go.Proofs.Ytdkcicbpcagonaa
