/- A mirror that is later than another one; feeding it to that one. -/
import Derived.Test.YtdkcicbpcagonaaMir11
namespace Go.Proofs.Ytdkcicbpcagonaa
open Go Go.AL
set_option linter.unusedSimpArgs false
set_option linter.unusedVariables false

/-- The state of a coupon. -/
def gR (M : Mi) (w : St) : Option St := (findR M.R w).map (·.1)
theorem gR_find (M : Mi) (w : St) : gR M w = (M.R.map (·.1)).find? (sameS w) := by
  rw [List.find?_map]; rfl
theorem findR_same {R : List Rw} {x y : St} (h : sameS y x = true) : findR R y = findR R x := by
  unfold findR
  congr 1
  funext q
  exact same_same q.1 h
theorem gR_same {M : Mi} {x y : St} (h : sameS y x = true) : gR M y = gR M x := by rw [gR, gR, findR_same h]
theorem gR_rec (M : Mi) (x w : St) : gR (recM M x) w = if sameS w x then some x else gR M w := by
  have := findR_upd (x := x) (n := M.N + 1) w M.R
  unfold gR
  rw [show (recM M x).R = updR x (M.N + 1) M.R from rfl, this]
  split <;> rfl
theorem WF.gR_mem {M : Mi} (h : WF M) {r : Rw} (hm : r ∈ M.R) : gR M r.1 = some r.1 := by rw [gR, h.find_mem hm]; rfl
theorem gR_row {M : Mi} {w y : St} (h : gR M w = some y) : ∃ r ∈ M.R, r.1 = y ∧ sameS w y = true := by
  rw [gR, Option.map_eq_some_iff] at h
  obtain ⟨r, h1, rfl⟩ := h
  have h2 := List.find?_some h1
  exact ⟨r, List.mem_of_find?_eq_some h1, rfl, h2⟩
theorem WF.apartL {M : Mi} (h : WF M) : Apart (M.R.map (·.1)) := List.pairwise_map.2 h.apart
theorem isAll_find {M : Mi} {d : List St} (h : isAll M d) (w : St) : d.find? (sameS w) = gR M w := by
  rw [gR_find]
  exact h.1.apart.find_perm h.2 w
theorem isAll_eq {M M' : Mi} {d d' : List St} (h : isAll M d) (h' : isAll M' d') (hg : ∀ w, gR M w = gR M' w) : d = d' :=
  h.1.uniqF h'.1 fun w => by rw [isAll_find h, isAll_find h', hg]

/-- Recorded states. -/
def okS (x : St) : Prop := 1 ≤ x.v ∧ 1 ≤ x.s ∧ x.s ≤ 8
def Valid (M : Mi) : Prop := ∀ r ∈ M.R, okS r.1
theorem Valid0 : Valid Mi0 := fun r h => by cases h
theorem Valid.doF {M : Mi} (h : Valid M) (a : Act) : Valid (doF M a).2 := by
  rcases doF_cases M a with ⟨_, e⟩ | ⟨x, _, e, hx, h1, h2, _⟩
  · rw [e]; exact h
  · rw [e]
    intro r hr
    rcases updR_mem hr with rfl | hr
    · refine ⟨?_, h1, h2⟩
      rcases hx with ⟨_, h3⟩ | ⟨r, hr, h3, _⟩
      · exact h3
      · have := (h r hr).1
        simp only
        omega
    · exact h r hr
theorem Valid.doS : ∀ (l : List Act) {M : Mi}, Valid M → Valid (doS M l)
  | [], M, h => h
  | a :: l, M, h => Valid.doS l (h.doF a)

structure Later (M1 M2 : Mi) : Prop where
  num : M1.N ≤ M2.N
  old : ∀ r ∈ M2.R, r.2 ≤ M1.N → gR M1 r.1 = some r.1
  new : ∀ r ∈ M2.R, M1.N < r.2 → okS r.1 ∧ ∀ y, gR M1 r.1 = some y → y.v < r.1.v
  has : ∀ w y, gR M1 w = some y → ∃ z, gR M2 w = some z
theorem Later.refl {M : Mi} (h : WF M) : Later M M where
  num := Nat.le_refl _
  old r hr _ := h.gR_mem hr
  new r hr hlt := by have := h.low r hr; omega
  has w y hy := ⟨y, hy⟩
theorem Later.step {M1 M2 : Mi} (h : Later M1 M2) (hw : WF M2) (hv : Valid M2) (a : Act) : Later M1 (doF M2 a).2 := by
  have hv' := hv.doF a
  rcases doF_cases M2 a with ⟨_, e⟩ | ⟨x, _, e, _, _, _, hx⟩
  · rw [e]; exact h
  · rw [e] at hv' ⊢
    refine ⟨Nat.le_trans h.num (Nat.le_succ _), fun r hr hle => ?_, fun r hr hlt => ?_, fun w y hy => ?_⟩
    · rcases updR_mem hr with rfl | hr
      · have := h.num
        simp only at hle
        omega
      · exact h.old r hr hle
    · refine ⟨hv' r hr, fun y hy => ?_⟩
      rcases updR_mem hr with rfl | hr
      · simp only at hy ⊢
        obtain ⟨z, hz⟩ := h.has x y hy
        obtain ⟨q, hq, rfl, hs⟩ := gR_row hz
        have hf : findR M2.R x = some q := by rw [findR_same hs]; exact hw.find_mem hq
        have hlt2 := hx q hf
        by_cases hn : q.2 ≤ M1.N
        · have h3 := h.old q hq hn
          rw [← gR_same hs, hy] at h3
          cases h3
          exact hlt2
        · have h3 := (h.new q hq (by omega)).2 y (by rw [← gR_same hs]; exact hy)
          omega
      · exact (h.new r hr hlt).2 y hy
    · obtain ⟨z, hz⟩ := h.has w y hy
      rw [gR_rec]
      split
      · exact ⟨x, rfl⟩
      · exact ⟨z, hz⟩

/-! ### Feeding -/
def puts (M : Mi) (l : List St) : Mi := l.foldl recM M
theorem puts_app (M : Mi) (l m : List St) : puts M (l ++ m) = puts (puts M l) m := List.foldl_append ..
theorem puts_N : ∀ (l : List St) (M : Mi), (puts M l).N = M.N + l.length
  | [], M => rfl
  | x :: l, M => by
    have := puts_N l (recM M x)
    simp only [puts, List.foldl_cons, List.length_cons] at this ⊢
    rw [this]
    simp only [recM]
    omega
theorem puts_gR {M : Mi} : ∀ {l : List St}, Apart l → ∀ w, gR (puts M l) w = (l.find? (sameS w)).or (gR M w) := by
  intro l
  generalize hn : l.length = n
  induction n generalizing l with
  | zero => intro _ w; rw [List.length_eq_zero_iff.1 hn]; rfl
  | succ n ih =>
    intro ha w
    have hne : l ≠ [] := fun h => by rw [h] at hn; cases hn
    obtain ⟨l', x, rfl⟩ : ∃ l' x, l = l' ++ [x] := ⟨l.dropLast, l.getLast hne, (List.dropLast_concat_getLast hne).symm⟩
    have ha' : Apart l' ∧ ∀ y ∈ l', sameS y x = false := by
      unfold Apart at ha
      rw [List.pairwise_append] at ha
      exact ⟨ha.1, fun y hy => ha.2.2 y hy x (by simp)⟩
    rw [puts_app, List.find?_append]
    show gR (recM (puts M l') x) w = _
    rw [gR_rec, ih (by simpa using hn) ha'.1]
    cases hs : sameS w x with
    | true =>
      have h0 : l'.find? (sameS w) = none := by
        rw [List.find?_eq_none]
        intro y hy hy2
        have h1 := ha'.2 y hy
        rw [same_sym] at h1
        have h2 := same_tr (by rw [same_sym]; exact hs) hy2
        rw [h2] at h1; cases h1
      simp [h0, hs]
    | false =>
      simp [hs]
theorem putF_ok {M : Mi} {x : St} (h : okS x) (hlt : ∀ y, gR M x = some y → y.v < x.v) : putF M x = (0, recM M x) := by
  unfold putF
  obtain ⟨h1, h2, h3⟩ := h
  rw [if_neg (by omega)]
  cases hf : findR M.R x with
  | none => rfl
  | some r =>
    have := hlt r.1 (by rw [gR, hf]; rfl)
    simp only
    rw [if_neg (by omega)]
structure Feeds (M1 M2 : Mi) (l : List St) : Prop where
  apart : Apart l
  ok : ∀ x ∈ l, okS x ∧ ∀ y, gR M1 x = some y → y.v < x.v
  all : ∀ w, gR M2 w = (l.find? (sameS w)).or (gR M1 w)
theorem Later.feeds {M1 M2 : Mi} (h : Later M1 M2) (hw : WF M2) : Feeds M1 M2 (sinceL M2 M1.N) := by
  have hmem : ∀ x, x ∈ sinceL M2 M1.N ↔ ∃ r ∈ M2.R, M1.N < r.2 ∧ r.1 = x := fun x => by
    rw [sinceL_eq, List.mem_map]
    constructor
    · rintro ⟨r, hr, rfl⟩
      obtain ⟨h1, h2⟩ := (sinceR_mem hw).1 hr
      exact ⟨r, h1, h2, rfl⟩
    · rintro ⟨r, h1, h2, rfl⟩
      exact ⟨r, (sinceR_mem hw).2 ⟨h1, h2⟩, rfl⟩
  have hap : Apart (sinceL M2 M1.N) := by
    rw [sinceL_eq]
    refine Apart.perm ?_ (((sinceR_perm hw M1.N).map _).symm)
    exact hw.apartL.sublist (List.filter_sublist.map _)
  refine ⟨hap, fun x hx => ?_, fun w => ?_⟩
  · obtain ⟨r, h1, h2, rfl⟩ := (hmem x).1 hx
    exact h.new r h1 h2
  · cases hf : (sinceL M2 M1.N).find? (sameS w) with
    | some x =>
      have hs : sameS w x = true := List.find?_some hf
      obtain ⟨r, h1, h2, rfl⟩ := (hmem x).1 (List.mem_of_find?_eq_some hf)
      rw [gR_same hs, hw.gR_mem h1]
      rfl
    | none =>
      rw [Option.none_or]
      cases hg : gR M2 w with
      | none =>
        cases hg1 : gR M1 w with
        | none => rfl
        | some y => obtain ⟨z, hz⟩ := h.has w y hg1; rw [hg] at hz; cases hz
      | some z =>
        obtain ⟨r, h1, rfl, hs⟩ := gR_row hg
        by_cases hn : r.2 ≤ M1.N
        · rw [gR_same hs, h.old r h1 hn]
        · have := List.find?_eq_none.1 hf r.1 ((hmem r.1).2 ⟨r, h1, by omega, rfl⟩)
          exact absurd hs this
theorem Feeds.step {M1 M2 : Mi} {l : List St} (h : Feeds M1 M2 l) {k : Nat} {x : St} (hk : l[k]? = some x) : putF (puts M1 (l.take k)) x = (0, puts M1 (l.take (k + 1))) := by
  have hx := h.ok x (List.mem_of_getElem? hk)
  rw [List.take_add_one, hk, puts_app]
  refine putF_ok hx.1 fun y hy => hx.2 y ?_
  rw [puts_gR (h.apart.sublist (List.take_sublist ..))] at hy
  have h0 : (l.take k).find? (sameS x) = none := by
    rw [List.find?_eq_none]
    intro z hz hs
    obtain ⟨i, hi⟩ := List.getElem?_of_mem hz
    have hik : i < k := by
      have := (List.getElem?_eq_some_iff.1 hi).1
      simp only [List.length_take] at this
      omega
    rw [List.getElem?_take_of_lt hik] at hi
    obtain ⟨h1, rfl⟩ := List.getElem?_eq_some_iff.1 hi
    obtain ⟨h2, rfl⟩ := List.getElem?_eq_some_iff.1 hk
    have := List.pairwise_iff_getElem.1 h.apart i k h1 h2 hik
    rw [same_sym] at this
    rw [this] at hs; cases hs
  rw [h0, Option.none_or] at hy
  exact hy
theorem Feeds.fin {M1 M2 : Mi} {l : List St} (h : Feeds M1 M2 l) (w : St) : gR (puts M1 l) w = gR M2 w := by rw [puts_gR h.apart, h.all]
theorem puts_len {M : Mi} {c : Nat} : (sinceL M c).length ≤ M.N - c := by
  have := List.length_filterMap_le (fun n => (fAt M.R n).map (·.1)) (List.range' (c + 1) (M.N - c))
  simpa [sinceL] using this
end Go.Proofs.Ytdkcicbpcagonaa
