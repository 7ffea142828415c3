/- A mirror that is later than another one; two mirrors in the store. -/
import Derived.Test.YtdkcicbpcagonaaMir11
import Derived.Test.YtdkcicbpcagonaaMirG
import Derived.Test.YtdkcicbpcagonaaMirT
namespace Go.Proofs.Ytdkcicbpcagonaa
open Go Go.AL
set_option linter.unusedSimpArgs false
set_option linter.unusedVariables false

/-! ## A mirror that is later than another one; feeding it to that one. -/
theorem Valid.doF {M : Mi} (h : Valid M) (a : Act) : Valid (doF M a).2 := by
  rcases doF_cases M a with ⟨_, e⟩ | ⟨x, _, e, hx, h1, h2, _⟩
  · rw [e]; exact h
  · rw [e]
    intro r hr
    rcases updR_mem hr with rfl | hr
    · refine ⟨?_, h1, h2⟩
      rcases hx with ⟨_, h3⟩ | ⟨r, hr, h3, _⟩
      · exact h3
      · have := (h r hr).1
        simp only
        omega
    · exact h r hr
theorem Valid.doS : ∀ (l : List Act) {M : Mi}, Valid M → Valid (doS M l)
  | [], M, h => h
  | a :: l, M, h => Valid.doS l (h.doF a)

structure Later (M1 M2 : Mi) : Prop where
  num : M1.N ≤ M2.N
  old : ∀ r ∈ M2.R, r.2 ≤ M1.N → gR M1 r.1 = some r.1
  new : ∀ r ∈ M2.R, M1.N < r.2 → okS r.1 ∧ ∀ y, gR M1 r.1 = some y → y.v < r.1.v
  has : ∀ w y, gR M1 w = some y → ∃ z, gR M2 w = some z
theorem Later.refl {M : Mi} (h : WF M) : Later M M where
  num := Nat.le_refl _
  old r hr _ := h.gR_mem hr
  new r hr hlt := by have := h.low r hr; omega
  has w y hy := ⟨y, hy⟩
theorem Later.step {M1 M2 : Mi} (h : Later M1 M2) (hw : WF M2) (hv : Valid M2) (a : Act) : Later M1 (doF M2 a).2 := by
  have hv' := hv.doF a
  rcases doF_cases M2 a with ⟨_, e⟩ | ⟨x, _, e, _, _, _, hx⟩
  · rw [e]; exact h
  · rw [e] at hv' ⊢
    refine ⟨Nat.le_trans h.num (Nat.le_succ _), fun r hr hle => ?_, fun r hr hlt => ?_, fun w y hy => ?_⟩
    · rcases updR_mem hr with rfl | hr
      · have := h.num
        simp only at hle
        omega
      · exact h.old r hr hle
    · refine ⟨hv' r hr, fun y hy => ?_⟩
      rcases updR_mem hr with rfl | hr
      · simp only at hy ⊢
        obtain ⟨z, hz⟩ := h.has x y hy
        obtain ⟨q, hq, rfl, hs⟩ := gR_row hz
        have hf : findR M2.R x = some q := by rw [findR_same hs]; exact hw.find_mem hq
        have hlt2 := hx q hf
        by_cases hn : q.2 ≤ M1.N
        · have h3 := h.old q hq hn
          rw [← gR_same hs, hy] at h3
          cases h3
          exact hlt2
        · have h3 := (h.new q hq (by omega)).2 y (by rw [← gR_same hs]; exact hy)
          omega
      · exact (h.new r hr hlt).2 y hy
    · obtain ⟨z, hz⟩ := h.has w y hy
      rw [gR_rec]
      split
      · exact ⟨x, rfl⟩
      · exact ⟨z, hz⟩

structure Feeds (M1 M2 : Mi) (l : List St) : Prop where
  apart : Apart l
  ok : ∀ x ∈ l, okS x ∧ ∀ y, gR M1 x = some y → y.v < x.v
  all : ∀ w, gR M2 w = (l.find? (sameS w)).or (gR M1 w)
theorem Later.feeds {M1 M2 : Mi} (h : Later M1 M2) (hw : WF M2) : Feeds M1 M2 (sinceL M2 M1.N) := by
  have hmem : ∀ x, x ∈ sinceL M2 M1.N ↔ ∃ r ∈ M2.R, M1.N < r.2 ∧ r.1 = x := fun x => by
    rw [sinceL_eq, List.mem_map]
    constructor
    · rintro ⟨r, hr, rfl⟩
      obtain ⟨h1, h2⟩ := (sinceR_mem hw).1 hr
      exact ⟨r, h1, h2, rfl⟩
    · rintro ⟨r, h1, h2, rfl⟩
      exact ⟨r, (sinceR_mem hw).2 ⟨h1, h2⟩, rfl⟩
  have hap : Apart (sinceL M2 M1.N) := by
    rw [sinceL_eq]
    refine Apart.perm ?_ (((sinceR_perm hw M1.N).map _).symm)
    exact hw.apartL.sublist (List.filter_sublist.map _)
  refine ⟨hap, fun x hx => ?_, fun w => ?_⟩
  · obtain ⟨r, h1, h2, rfl⟩ := (hmem x).1 hx
    exact h.new r h1 h2
  · cases hf : (sinceL M2 M1.N).find? (sameS w) with
    | some x =>
      have hs : sameS w x = true := List.find?_some hf
      obtain ⟨r, h1, h2, rfl⟩ := (hmem x).1 (List.mem_of_find?_eq_some hf)
      rw [gR_same hs, hw.gR_mem h1]
      rfl
    | none =>
      rw [Option.none_or]
      cases hg : gR M2 w with
      | none =>
        cases hg1 : gR M1 w with
        | none => rfl
        | some y => obtain ⟨z, hz⟩ := h.has w y hg1; rw [hg] at hz; cases hz
      | some z =>
        obtain ⟨r, h1, rfl, hs⟩ := gR_row hg
        by_cases hn : r.2 ≤ M1.N
        · rw [gR_same hs, h.old r h1 hn]
        · have := List.find?_eq_none.1 hf r.1 ((hmem r.1).2 ⟨r, h1, by omega, rfl⟩)
          exact absurd hs this
theorem Feeds.step {M1 M2 : Mi} {l : List St} (h : Feeds M1 M2 l) {k : Nat} {x : St} (hk : l[k]? = some x) : putF (puts M1 (l.take k)) x = (0, puts M1 (l.take (k + 1))) := by
  have hx := h.ok x (List.mem_of_getElem? hk)
  rw [List.take_add_one, hk, puts_app]
  refine putF_ok hx.1 fun y hy => hx.2 y ?_
  rw [puts_gR (h.apart.sublist (List.take_sublist ..))] at hy
  have h0 : (l.take k).find? (sameS x) = none := by
    rw [List.find?_eq_none]
    intro z hz hs
    obtain ⟨i, hi⟩ := List.getElem?_of_mem hz
    have hik : i < k := by
      have := (List.getElem?_eq_some_iff.1 hi).1
      simp only [List.length_take] at this
      omega
    rw [List.getElem?_take_of_lt hik] at hi
    obtain ⟨h1, rfl⟩ := List.getElem?_eq_some_iff.1 hi
    obtain ⟨h2, rfl⟩ := List.getElem?_eq_some_iff.1 hk
    have := List.pairwise_iff_getElem.1 h.apart i k h1 h2 hik
    rw [same_sym] at this
    rw [this] at hs; cases hs
  rw [h0, Option.none_or] at hy
  exact hy
theorem Feeds.fin {M1 M2 : Mi} {l : List St} (h : Feeds M1 M2 l) (w : St) : gR (puts M1 l) w = gR M2 w := by rw [puts_gR h.apart, h.all]
theorem puts_len {M : Mi} {c : Nat} : (sinceL M c).length ≤ M.N - c := by
  have := List.length_filterMap_le (fun n => (fAt M.R n).map (·.1)) (List.range' (c + 1) (M.N - c))
  simpa [sinceL] using this

/-! ## Two mirrors in the store: calls. -/
section
variable (S : Store) (M : Mi) (Q : Qs) (C : Cs) (M' : Mi) (Q' : Qs) (C' : Cs)
theorem do1_A (h : MOk M Q C) (hN : M.N ≤ 1000000) (hv : VOk M) (a : Act) : CallA Try.prog 12 [.ptr (S.length + 3) 0 0 0, .agg (actR a)] (two S M Q C M' Q' C') fun r S' => r = .tup [stV (doF M a).1.1, .int .i64 (doF M a).1.2] ∧ ∃ Q1 C1, MOk (doF M a).2 Q1 C1 ∧ S' = two S (doF M a).2 Q1 C1 M' Q' C' :=
  do_A S _ M Q C h hN hv a
theorem do2_A (h : MOk M' Q' C') (hN : M'.N ≤ 1000000) (hv : VOk M') (a : Act) : CallA Try.prog 12 [.ptr (S.length + 7) 0 0 0, .agg (actR a)] (two S M Q C M' Q' C') fun r S' => r = .tup [stV (doF M' a).1.1, .int .i64 (doF M' a).1.2] ∧ ∃ Q1 C1, MOk (doF M' a).2 Q1 C1 ∧ S' = two S M Q C (doF M' a).2 Q1 C1 := by
  have := do_A (mst S [] M Q C) [] M' Q' C' h hN hv a
  rw [mst0_len] at this
  rw [two_t]
  exact this.mono fun r S' k => ⟨k.1, by obtain ⟨Q1, C1, h1, h2⟩ := k.2; exact ⟨Q1, C1, h1, by rw [h2, two_t]⟩⟩
theorem changes1_A : CallA Try.prog 16 [.ptr (S.length + 3) 0 0 0] (two S M Q C M' Q' C') fun r S' => r = .int .i64 (M.N : Nat) ∧ S' = two S M Q C M' Q' C' := Changes_A S _ M Q C
theorem since1_A (h : MOk M Q C) (hN : M.N ≤ 1000000) (c : Int) : CallA Try.prog 19 [.ptr (S.length + 3) 0 0 0, .int .i64 c] (two S M Q C M' Q' C') fun r S' => r = stSl (sinceL M (cutN M c)) ∧ ∃ Q1 C1, MOk M Q1 C1 ∧ S' = two S M Q1 C1 M' Q' C' := Since_A S _ M Q C h hN c
end
end Go.Proofs.Ytdkcicbpcagonaa
