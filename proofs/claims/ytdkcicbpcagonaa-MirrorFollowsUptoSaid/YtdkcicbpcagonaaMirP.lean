/- What changed since, plainly. -/
import Derived.Test.YtdkcicbpcagonaaMir9
namespace Go.Proofs.Ytdkcicbpcagonaa
open Go Go.AL
set_option linter.unusedSimpArgs false
set_option linter.unusedVariables false

def sinceR (M : Mi) (c : Nat) : List Rw := (List.range' (c + 1) (M.N - c)).filterMap (fAt M.R)
theorem sinceL_eq (M : Mi) (c : Nat) : sinceL M c = (sinceR M c).map (·.1) := by
  unfold sinceL sinceR
  rw [List.map_filterMap]
theorem fAt_mem {R : List Rw} {n : Nat} {r : Rw} (h : fAt R n = some r) : r ∈ R ∧ r.2 = n := by
  have h1 := List.find?_some h
  simp only [decide_eq_true_eq] at h1
  exact ⟨List.mem_of_find?_eq_some h, h1.symm⟩
theorem fAt_self {r : Rw} : ∀ {R : List Rw}, (R.Pairwise fun r q => r.2 ≠ q.2) → r ∈ R → fAt R r.2 = some r
  | [], _, h => by cases h
  | q :: R, hp, hm => by
    rw [List.pairwise_cons] at hp
    unfold fAt
    rw [List.find?_cons]
    rcases List.mem_cons.1 hm with rfl | hm
    · simp
    · have hne : ¬ r.2 = q.2 := fun e => hp.1 r hm e.symm
      simp only [hne, decide_false]
      exact fAt_self hp.2 hm
theorem ats_nodup {R : List Rw} (h : R.Pairwise fun r q => r.2 ≠ q.2) : R.Nodup := h.imp fun hne e => hne (by rw [e])
theorem sinceR_asc (M : Mi) (c : Nat) : (sinceR M c).Pairwise fun r q => r.2 < q.2 := by
  unfold sinceR
  refine List.Pairwise.filterMap (R := fun a b => a < b) (fAt M.R) (fun a a' haa b hb b' hb' => ?_) (List.pairwise_lt_range' ..)
  have h1 := (fAt_mem hb).2
  have h2 := (fAt_mem hb').2
  omega
theorem sinceR_mem {M : Mi} (h : WF M) {c : Nat} {r : Rw} : r ∈ sinceR M c ↔ r ∈ M.R ∧ c < r.2 := by
  unfold sinceR
  rw [List.mem_filterMap]
  constructor
  · rintro ⟨n, hn, hr⟩
    obtain ⟨h1, h2⟩ := fAt_mem hr
    rw [List.mem_range'_1] at hn
    exact ⟨h1, by omega⟩
  · rintro ⟨h1, h2⟩
    have := h.low r h1
    exact ⟨r.2, List.mem_range'_1.2 (by omega), fAt_self h.ats h1⟩
theorem sinceR_perm {M : Mi} (h : WF M) (c : Nat) : (sinceR M c).Perm (M.R.filter fun r => decide (c < r.2)) := by
  refine (List.perm_ext_iff_of_nodup (ats_nodup ((sinceR_asc M c).imp fun h => Nat.ne_of_lt h)) ((ats_nodup h.ats).filter _)).2 fun r => ?_
  rw [sinceR_mem h, List.mem_filter, decide_eq_true_eq]
theorem since_all {M : Mi} (h : WF M) : (sinceL M 0).Perm (M.R.map (·.1)) := by
  rw [sinceL_eq]
  refine (sinceR_perm h 0).map _ |>.trans ?_
  rw [List.filter_eq_self.2]
  intro r hr
  have := h.low r hr
  simp only [decide_eq_true_eq]
  omega
theorem since_none (M : Mi) : sinceL M M.N = [] := by
  unfold sinceL
  rw [Nat.sub_self]
  rfl
theorem cutN_zero (M : Mi) : cutN M 0 = 0 := by unfold cutN; omega
theorem cutN_self (M : Mi) : cutN M (M.N : Nat) = M.N := by unfold cutN; omega
theorem WF.find_mem {M : Mi} (h : WF M) {r : Rw} (hm : r ∈ M.R) : findR M.R r.1 = some r := by
  have := h.find_at (n := r.2) (r := r) (fAt_self h.ats hm)
  exact this
theorem WF.get {M : Mi} (h : WF M) {x : St} (hx : x ∈ M.R.map (·.1)) : getF M x.t x.c = (x, true) := by
  obtain ⟨r, hr, rfl⟩ := List.mem_map.1 hx
  have := h.find_mem hr
  rw [getF]
  have e : findR M.R ⟨r.1.t, r.1.c, 0, 0⟩ = findR M.R r.1 := rfl
  rw [e, this]
theorem mst_neat1 {A B : Store} {M : Mi} {Q : List (Nat × Int × Int)} {C : List (Nat × List St)} (hA : Neat A) (hB : ∀ o ∈ B, objN (mxN A B) o) : Neat (mst A B M Q C) := by
  rw [neat_iff, mst_len]
  have hA' := neat_iff.1 hA
  have hle : A.length ≤ mxN A B := by unfold mxN; omega
  intro o ho
  simp only [mst, mirX, List.mem_append, List.mem_cons] at ho
  rcases ho with ho | rfl | rfl | rfl | rfl | ho
  · exact (hA' o ho).mono hle
  · exact (okM _).objN rfl
  · exact (okQ _).objN rfl
  · exact (okC _).objN rfl
  · intro r hr
    simp only [List.mem_singleton] at hr
    subst hr
    refine ⟨rfl, ?_⟩
    have e0 : A.length < mxN A B := by unfold mxN; omega
    have e1 : A.length + 1 < mxN A B := by unfold mxN; omega
    have e2 : A.length + 2 < mxN A B := by unfold mxN; omega
    simp [V.allUnder, V.under, e0, e1, e2]
  · exact hB o ho
theorem mst_neat0 {A : Store} {M : Mi} {Q : List (Nat × Int × Int)} {C : List (Nat × List St)} (hA : Neat A) : Neat (mst A [] M Q C) := mst_neat1 hA fun o ho => by cases ho
end Go.Proofs.Ytdkcicbpcagonaa
