/- The symmetric merge: what it leans on, without the program. -/
import Derived.Test.YtoidchljifelgaaBid5
namespace Go.Proofs.Ytoidchljifelgaa
open Go Go.AL
set_option linter.unusedSimpArgs false

variable {ok : List V → Prop} {lt : List V → List V → Bool}

theorem srt_mid {A1 A2 : List (List V)} (h : Srt lt (A1 ++ A2)) {x : List V} (h1 : ∀ y ∈ A1, lt x y = false) (h2 : ∀ y ∈ A2, lt y x = false) : Srt lt (A1 ++ x :: A2) := by
  unfold Srt at *
  rw [List.pairwise_append] at *
  obtain ⟨a, b, c⟩ := h
  refine ⟨a, List.pairwise_cons.2 ⟨h2, b⟩, fun u hu v hv => ?_⟩
  rcases List.mem_cons.1 hv with rfl | hv
  · exact h1 u hu
  · exact c u hu v hv

/-- Two places of what is sorted, by index. -/
theorem srt_get {l : List (List V)} (h : Srt lt l) {i j : Nat} {x y : List V} (hij : i < j) (hx : l[i]? = some x) (hy : l[j]? = some y) : lt y x = false := by
  obtain ⟨hi, rfl⟩ := List.getElem?_eq_some_iff.1 hx
  obtain ⟨hj, rfl⟩ := List.getElem?_eq_some_iff.1 hy
  exact List.pairwise_iff_getElem.1 h i j hi hj hij

theorem lt_irrefl (ho : Ords ok lt) {x : List V} (hx : ok x) : lt x x = false := by
  cases h : lt x x
  · rfl
  · have := ho.asymm x x hx hx h
    rw [h] at this
    cases this

/-- .. or the same place. -/
theorem srt_get' (ho : Ords ok lt) {l : List (List V)} (h : Srt lt l) (hok : ∀ r ∈ l, ok r) {i j : Nat} {x y : List V} (hij : i ≤ j) (hx : l[i]? = some x) (hy : l[j]? = some y) : lt y x = false := by
  rcases Nat.lt_or_eq_of_le hij with h1 | rfl
  · exact srt_get h h1 hx hy
  · rw [hx] at hy
    cases hy
    exact lt_irrefl ho (hok x (List.mem_of_getElem? hx))

/-- x before y before z, strictly once. -/
theorem lt_left (ho : Ords ok lt) {x y z : List V} (hx : ok x) (hy : ok y) (hz : ok z) (h1 : lt y x = false) (h2 : lt y z = true) : lt x z = true := by
  cases h : lt x z
  · have := ho.trans z x y hz hx hy h h1
    rw [h2] at this
    cases this
  · rfl
theorem lt_right (ho : Ords ok lt) {x y z : List V} (hx : ok x) (hy : ok y) (hz : ok z) (h1 : lt x y = true) (h2 : lt z y = false) : lt x z = true := by
  cases h : lt x z
  · have := ho.trans y z x hy hz hx h2 h
    rw [h1] at this
    cases this
  · rfl

/-- The merge of two sorted lists, each cut in two, so that the first parts come first. -/
theorem srt_join (ho : Ords ok lt) {A1 A2 B1 B2 L R : List (List V)} (hU : Srt lt (A1 ++ A2)) (hW : Srt lt (B1 ++ B2)) (h1 : ∀ x ∈ A1, ∀ y ∈ B2, lt y x = false) (h2 : ∀ x ∈ B1, ∀ y ∈ A2, lt y x = false)
    (hL : L.Perm (A1 ++ B1)) (hLs : Srt lt L) (hR : R.Perm (A2 ++ B2)) (hRs : Srt lt R) : (L ++ R).Perm ((A1 ++ A2) ++ (B1 ++ B2)) ∧ Srt lt (L ++ R) := by
  constructor
  · refine (hL.append hR).trans ?_
    simp only [List.append_assoc]
    refine List.Perm.append_left _ ?_
    rw [← List.append_assoc B1, ← List.append_assoc A2]
    exact List.Perm.append_right _ List.perm_append_comm
  · unfold Srt at *
    rw [List.pairwise_append] at *
    refine ⟨hLs, hRs, fun x hx y hy => ?_⟩
    have hx' := hL.mem_iff.1 hx
    have hy' := hR.mem_iff.1 hy
    rcases List.mem_append.1 hx' with hx' | hx' <;> rcases List.mem_append.1 hy' with hy' | hy'
    · exact hU.2.2 x hx' y hy'
    · exact h1 x hx' y hy'
    · exact h2 x hx' y hy'
    · exact hW.2.2 x hx' y hy'

/-- What the search by halves has found: n places before which a test fails, from which on it holds. -/
theorem cut_list {l : List (List V)} {s : Nat} (hs : s ≤ l.length) : ∃ l1 l2, l = l1 ++ l2 ∧ l1.length = s := ⟨l.take s, l.drop s, (List.take_append_drop _ _).symm, by simp; omega⟩

theorem half_le {i j : Int} (h0 : 0 ≤ i) (h : i < j) : i ≤ (i + j) / 2 ∧ (i + j) / 2 < j := by omega
end Go.Proofs.Ytoidchljifelgaa
